/- Texts of this claim, part 14: V77, V78. -/
import Derived.Test.YtlbhgoffiigfbaaBe1
import Derived.Test.YtlbhgoffiigfbaaBe2
import Derived.Test.YtlbhgoffiigfbaaBe6
import Derived.Test.YtlbhgoffiigfbaaBe7
import Derived.Test.YtlbhgoffiigfbaaBe8
import Derived.Test.YtlbhgoffiigfbaaBe9
import Derived.Test.YtlbhgoffiigfbaaBe10
import Derived.Test.YtlbhgoffiigfbaaBe11
import Derived.Test.YtlbhgoffiigfbaaBe12
import Derived.Test.YtlbhgoffiigfbaaBe13
import Derived.Test.YtlbhgoffiigfbaaAw27
section
set_option linter.unusedSimpArgs false
set_option linter.unusedVariables false
namespace Go.Proofs.Ytlbhgoffiigfbaa.AW
open Go Go.RowKit

def flatV (xs : List V) : List AV := (xs.map inj).flatMap AV.cells
theorem flatV_len (xs : List V) : (flatV xs).length = xs.length * 5 := cells_len xs
theorem flatV_app (a b : List V) : flatV (a ++ b) = flatV a ++ flatV b := by simp [flatV]
theorem flatV_cons (x : V) (b : List V) : flatV (x :: b) = (inj x).cells ++ flatV b := by simp [flatV]
theorem flatV_take {xs : List V} {j : Nat} (hj : j ≤ xs.length) : List.take (j * 5) (flatV xs) = flatV (xs.take j) := by
  conv => lhs; rw [← List.take_append_drop j xs, flatV_app]
  exact List.take_left' (by rw [flatV_len, List.length_take, Nat.min_eq_left hj])
theorem flatV_drop {xs : List V} {j : Nat} (hj : j ≤ xs.length) : List.drop (j * 5) (flatV xs) = flatV (xs.drop j) := by
  conv => lhs; rw [← List.take_append_drop j xs, flatV_app]
  exact List.drop_left' (by rw [flatV_len, List.length_take, Nat.min_eq_left hj])
theorem flatV_at {xs : List V} {j : Nat} (hj : j < xs.length) : ∃ post, List.drop (j * 5) (flatV xs) = (inj xs[j]).cells ++ post := by
  rw [flatV_drop (by omega), List.drop_eq_getElem_cons hj, flatV_cons]
  exact ⟨_, rfl⟩
theorem flatV_set {xs : List V} {j : Nat} (hj : j < xs.length) (y : V) : List.take (j * 5) (flatV xs) ++ (inj y).cells ++ List.drop (j * 5 + 5) (flatV xs) = flatV (xs.set j y) := by
  rw [flatV_take (by omega), show j * 5 + 5 = (j + 1) * 5 by omega, flatV_drop (by omega), List.set_eq_take_append_cons_drop, if_pos hj, flatV_app, flatV_cons, List.append_assoc]
set_option maxHeartbeats 4000000 in
theorem compact_calls {xs : List V} (hx : ∀ x ∈ xs, Vok x) (hne : xs ≠ []) (hl : xs.length < 1000000) {b : Nat} {h : AH} (hb : h.box b = some (flatV xs)) :
    ACalls Try.prog 101 [.ms b 0 xs.length 5, .fn (.func 87) [] []] h fun out h' => out = .ret (.sl .ro 5 ((dd xs).map inj)) ∧ h' = h.kill b := by
  have hpos : 0 < xs.length := List.length_pos_iff.2 hne
  have hdne : dd xs ≠ [] := by
    cases xs with
    | nil => exact absurd rfl hne
    | cons x r => simp [dd]
  refine ACalls.give (by decide) (by simpa using hdne) (fun x hx => by
    obtain ⟨v, _, rfl⟩ := List.mem_map.1 hx; exact inj_len v) (by rw [← injL_eq]; exact injL_under _) ?_
  rw [List.length_map]
  refine acalls_of te_ok [] Try.func101 (c := _) rfl (Nat.le_of_ble_eq_true rfl) ?_
  simp only [aw0, aw1, aw2, aw3, aw4, aw5, aw6, aw7, ne_eq, eq_self, implies_true, imp_self, reduceIte, reduceCtorEq, Nat.reduceAdd, Nat.reduceLT, Nat.reduceLeDiff, Nat.reduceEqDiff, Nat.reduceSub, Nat.reduceMul, Nat.reduceBEq, Int.reduceBEq, Int.reduceBNe, Int.reduceLT, Int.reduceLE, Int.reduceGT, Int.reduceGE, Int.reduceNeg, Int.reduceEq, Int.reduceNe, Int.reduceToNat, Int.reduceAdd, aconv, acvB, capR, acmpnil, appBox, storeB, ares1, appendTo, afill, aeqL, teset, Try.ntmps101, Try.results101, inj_take, inj_drop, inj_agg, inj_len, inj_one, List.length_map]
  cases hc : decide ((xs.length : Int) < 2) with
  | true =>
    simp only [aw0, aw1, aw2, aw3, aw4, aw5, aw6, aw7, ne_eq, eq_self, implies_true, imp_self, reduceIte, reduceCtorEq, Nat.reduceAdd, Nat.reduceLT, Nat.reduceLeDiff, Nat.reduceEqDiff, Nat.reduceSub, Nat.reduceMul, Nat.reduceBEq, Int.reduceBEq, Int.reduceBNe, Int.reduceLT, Int.reduceLE, Int.reduceGT, Int.reduceGE, Int.reduceNeg, Int.reduceEq, Int.reduceNe, Int.reduceToNat, Int.reduceAdd, aconv, acvB, capR, acmpnil, appBox, storeB, ares1, appendTo, afill, aeqL, teset, inj_take, inj_drop, inj_agg, inj_len, inj_one, List.length_map]
    simp only [decide_eq_true_eq] at hc
    have e : dd xs = xs := by
      cases xs with
      | nil => rfl
      | cons x r =>
        have : r = [] := List.eq_nil_of_length_eq_zero (by simp only [List.length_cons] at hc; omega)
        subst this; rfl
    rw [e]
    exact ⟨b, [], _, rfl, rfl, by rw [List.append_nil]; exact hb, .inl rfl⟩
  | false =>
    simp only [decide_eq_false_iff_not] at hc
    simp only [aw0, aw1, aw2, aw3, aw4, aw5, aw6, aw7, ne_eq, eq_self, implies_true, imp_self, reduceIte, reduceCtorEq, Nat.reduceAdd, Nat.reduceLT, Nat.reduceLeDiff, Nat.reduceEqDiff, Nat.reduceSub, Nat.reduceMul, Nat.reduceBEq, Int.reduceBEq, Int.reduceBNe, Int.reduceLT, Int.reduceLE, Int.reduceGT, Int.reduceGE, Int.reduceNeg, Int.reduceEq, Int.reduceNe, Int.reduceToNat, Int.reduceAdd, aconv, acvB, capR, acmpnil, appBox, storeB, ares1, appendTo, afill, aeqL, teset, inj_take, inj_drop, inj_agg, inj_len, inj_one, List.length_map]
    refine ⟨fun n s' h' => ∃ k : Nat, s' 0 = .ms b 0 xs.length 5 ∧ s' 1 = .fn (.func 87) [] [] ∧ s' 5 = .int .i64 ((k + 1 : Nat) : Int) ∧ h' = h ∧ n + (k + 1) = xs.length ∧ dd xs = xs.take (k + 1) ++ ddG (xs.getD k zeroV) (xs.drop (k + 1)), ⟨xs.length - 1, 0, ?_⟩, ?_⟩
    · simp only [aw0, aw1, aw2, aw3, aw4, aw5, aw6, aw7, ne_eq, eq_self, implies_true, imp_self, reduceIte, reduceCtorEq, Nat.reduceAdd, Nat.reduceLT, Nat.reduceLeDiff, Nat.reduceEqDiff, Nat.reduceSub, Nat.reduceMul, Nat.reduceBEq, Int.reduceBEq, Int.reduceBNe, Int.reduceLT, Int.reduceLE, Int.reduceGT, Int.reduceGE, Int.reduceNeg, Int.reduceEq, Int.reduceNe, Int.reduceToNat, Int.reduceAdd, aconv, acvB, capR, acmpnil, appBox, storeB, ares1, appendTo, afill, aeqL, teset, Int.natCast_one, Nat.zero_add]
      refine ⟨by omega, ?_⟩
      rw [dd_start hpos, List.getD_eq_getElem?_getD, List.getElem?_eq_getElem hpos]; rfl
    · rintro n s' h' ⟨k, e0, e1, e5, rfl, hn, hd⟩
      simp only [aw0, aw1, aw2, aw3, aw4, aw5, aw6, aw7, ne_eq, eq_self, implies_true, imp_self, reduceIte, reduceCtorEq, Nat.reduceAdd, Nat.reduceLT, Nat.reduceLeDiff, Nat.reduceEqDiff, Nat.reduceSub, Nat.reduceMul, Nat.reduceBEq, Int.reduceBEq, Int.reduceBNe, Int.reduceLT, Int.reduceLE, Int.reduceGT, Int.reduceGE, Int.reduceNeg, Int.reduceEq, Int.reduceNe, Int.reduceToNat, Int.reduceAdd, aconv, acvB, capR, acmpnil, appBox, storeB, ares1, appendTo, afill, aeqL, teset, e0, e1, e5, inj_take, inj_drop, inj_agg, inj_len, inj_one, List.length_map]
      cases hc2 : decide (((k + 1 : Nat) : Int) < (xs.length : Int)) with
      | false =>
        simp only [decide_eq_false_iff_not] at hc2
        simp only [aw0, aw1, aw2, aw3, aw4, aw5, aw6, aw7, ne_eq, eq_self, implies_true, imp_self, reduceIte, reduceCtorEq, Nat.reduceAdd, Nat.reduceLT, Nat.reduceLeDiff, Nat.reduceEqDiff, Nat.reduceSub, Nat.reduceMul, Nat.reduceBEq, Int.reduceBEq, Int.reduceBNe, Int.reduceLT, Int.reduceLE, Int.reduceGT, Int.reduceGE, Int.reduceNeg, Int.reduceEq, Int.reduceNe, Int.reduceToNat, Int.reduceAdd, aconv, acvB, capR, acmpnil, appBox, storeB, ares1, appendTo, afill, aeqL, teset, e0, e1, e5, inj_take, inj_drop, inj_agg, inj_len, inj_one, List.length_map]
        have e : dd xs = xs := by
          rw [hd, List.drop_eq_nil_of_le (by omega), ddG, List.append_nil, List.take_of_length_le (by omega)]
        rw [e]
        exact ⟨b, [], _, rfl, rfl, by rw [List.append_nil]; exact hb, .inl rfl⟩
      | true =>
        simp only [decide_eq_true_eq] at hc2
        have hk : k + 1 < xs.length := by omega
        have hw : IntKind.i64.wrap (((k + 1 : Nat) : Int) - 1) = (k : Int) := by rw [wrap_i64 (by omega) (by omega)]; omega
        obtain ⟨p1, hp1⟩ := flatV_at hk
        obtain ⟨p0, hp0⟩ := flatV_at (show k < xs.length by omega)
        have t1 : List.take 5 ((inj xs[k + 1]).cells ++ p1) = (inj xs[k + 1]).cells := by rw [List.take_append_of_le_length (by rw [inj_len]; exact Nat.le_refl _), inj_take]
        have t0 : List.take 5 ((inj xs[k]).cells ++ p0) = (inj xs[k]).cells := by rw [List.take_append_of_le_length (by rw [inj_len]; exact Nat.le_refl _), inj_take]
        have l1 : 5 ≤ ((inj xs[k + 1]).cells ++ p1).length := by rw [List.length_append, inj_len]; omega
        have l0 : 5 ≤ ((inj xs[k]).cells ++ p0).length := by rw [List.length_append, inj_len]; omega
        have hk0 : ((k : Nat) : Int) < (xs.length : Int) := by omega
        have hgd : xs.getD k zeroV = xs[k] := by rw [List.getD_eq_getElem?_getD, List.getElem?_eq_getElem (by omega)]; rfl
        have hgd1 : xs.getD (k + 1) zeroV = xs[k + 1] := by rw [List.getD_eq_getElem?_getD, List.getElem?_eq_getElem hk]; rfl
        rw [hgd, ddG_step _ hk] at hd
        simp only [aw0, aw1, aw2, aw3, aw4, aw5, aw6, aw7, ne_eq, eq_self, implies_true, imp_self, reduceIte, reduceCtorEq, Nat.reduceAdd, Nat.reduceLT, Nat.reduceLeDiff, Nat.reduceEqDiff, Nat.reduceSub, Nat.reduceMul, Nat.reduceBEq, Int.reduceBEq, Int.reduceBNe, Int.reduceLT, Int.reduceLE, Int.reduceGT, Int.reduceGE, Int.reduceNeg, Int.reduceEq, Int.reduceNe, Int.reduceToNat, Int.reduceAdd, aconv, acvB, capR, acmpnil, appBox, storeB, ares1, appendTo, afill, aeqL, teset, e0, e1, e5, inj_take, inj_drop, inj_agg, inj_len, inj_one, List.length_map]
        refine acode_draw_chain te_ok mixed [] (by kernel_rfl) ?_
        simp only [aw0, aw1, aw2, aw3, aw4, aw5, aw6, aw7, ne_eq, eq_self, implies_true, imp_self, reduceIte, reduceCtorEq, Nat.reduceAdd, Nat.reduceLT, Nat.reduceLeDiff, Nat.reduceEqDiff, Nat.reduceSub, Nat.reduceMul, Nat.reduceBEq, Int.reduceBEq, Int.reduceBNe, Int.reduceLT, Int.reduceLE, Int.reduceGT, Int.reduceGE, Int.reduceNeg, Int.reduceEq, Int.reduceNe, Int.reduceToNat, Int.reduceAdd, aconv, acvB, capR, acmpnil, appBox, storeB, ares1, appendTo, afill, aeqL, teset, e0, e1, e5, inj_take, inj_drop, inj_agg, inj_len, inj_one, List.length_map, hb, hw, Int.natCast_nonneg, Int.toNat_natCast, hc2, hk0, hp1, hp0, t1, t0, l1, l0, Nat.zero_add]
        refine skR_pure (equal_pure xs[k + 1] xs[k] (hx _ (List.getElem_mem _)) (hx _ (List.getElem_mem _))) ?_
        cases hq : (ord xs[k + 1] xs[k] == 0) with
        | false =>
          simp only [aw0, aw1, aw2, aw3, aw4, aw5, aw6, aw7, ne_eq, eq_self, implies_true, imp_self, reduceIte, reduceCtorEq, Nat.reduceAdd, Nat.reduceLT, Nat.reduceLeDiff, Nat.reduceEqDiff, Nat.reduceSub, Nat.reduceMul, Nat.reduceBEq, Int.reduceBEq, Int.reduceBNe, Int.reduceLT, Int.reduceLE, Int.reduceGT, Int.reduceGE, Int.reduceNeg, Int.reduceEq, Int.reduceNe, Int.reduceToNat, Int.reduceAdd, aconv, acvB, capR, acmpnil, appBox, storeB, ares1, appendTo, afill, aeqL, teset, e0, e1, e5, inj_take, inj_drop, inj_agg, inj_len, inj_one, List.length_map]
          rw [if_neg (by simpa using hq)] at hd
          refine ⟨n - 1, by omega, k + 1, ?_, by omega, ?_⟩
          · rw [wrap_succ (by omega)]
          · rw [hd, hgd1, List.take_succ_eq_append_getElem hk, List.append_assoc]; rfl
        | true =>
          rw [if_pos (by simpa using hq)] at hd
          have hk1 : k + 1 ≤ xs.length := by omega
          simp only [aw0, aw1, aw2, aw3, aw4, aw5, aw6, aw7, ne_eq, eq_self, implies_true, imp_self, reduceIte, reduceCtorEq, Nat.reduceAdd, Nat.reduceLT, Nat.reduceLeDiff, Nat.reduceEqDiff, Nat.reduceSub, Nat.reduceMul, Nat.reduceBEq, Int.reduceBEq, Int.reduceBNe, Int.reduceLT, Int.reduceLE, Int.reduceGT, Int.reduceGE, Int.reduceNeg, Int.reduceEq, Int.reduceNe, Int.reduceToNat, Int.reduceAdd, aconv, acvB, capR, acmpnil, appBox, storeB, ares1, appendTo, afill, aeqL, teset, e0, e1, e5, inj_take, inj_drop, inj_agg, inj_len, inj_one, List.length_map, hb, Int.natCast_nonneg, Int.toNat_natCast, Nat.zero_add, hk1, Nat.le_refl, and_self]
          refine ⟨fun m s2 h2 => ∃ (j kk : Nat) (zs : List V), s2 0 = .ms b 0 xs.length 5 ∧ s2 1 = .fn (.func 87) [] [] ∧ s2 5 = .int .i64 kk ∧ s2 6 = .ms b ((k + 1) * 5) (xs.length - (k + 1)) 5 ∧ s2 7 = .int .i64 ((j + 1 : Nat) : Int) ∧ h2 = h'.set b (flatV zs) ∧ zs.length = xs.length ∧ m + (j + 1) = xs.length - (k + 1) ∧ k + 1 ≤ kk ∧ kk ≤ k + 1 + j ∧ zs.drop (k + 1 + j) = xs.drop (k + 1 + j) ∧ dd xs = zs.take kk ++ ddG (xs.getD (k + 1 + j) zeroV) (xs.drop (k + 1 + j + 1)), ⟨xs.length - (k + 1) - 1, 0, k + 1, xs, ?_⟩, ?_⟩
          · simp only [aw0, aw1, aw2, aw3, aw4, aw5, aw6, aw7, ne_eq, eq_self, implies_true, imp_self, reduceIte, reduceCtorEq, Nat.reduceAdd, Nat.reduceLT, Nat.reduceLeDiff, Nat.reduceEqDiff, Nat.reduceSub, Nat.reduceMul, Nat.reduceBEq, Int.reduceBEq, Int.reduceBNe, Int.reduceLT, Int.reduceLE, Int.reduceGT, Int.reduceGE, Int.reduceNeg, Int.reduceEq, Int.reduceNe, Int.reduceToNat, Int.reduceAdd, aconv, acvB, capR, acmpnil, appBox, storeB, ares1, appendTo, afill, aeqL, teset, e0, e1, e5, Int.natCast_one, Nat.zero_add, Nat.add_zero]
            rw [hgd1]
            refine ⟨(AH.set_self _ hb).symm, by omega, ?_⟩
            first | exact hd | exact ⟨Nat.le_refl _, Nat.le_refl _, hd⟩
          · rintro m s2 h2 ⟨j, kk, zs, r0, r1, r5, r6, r7, rfl, hzl, hm, hkk1, hkk2, hzd, hdz⟩
            have hbz : (h'.set b (flatV zs)).box b = some (flatV zs) := by rw [set_box, if_pos rfl]
            simp only [aw0, aw1, aw2, aw3, aw4, aw5, aw6, aw7, ne_eq, eq_self, implies_true, imp_self, reduceIte, reduceCtorEq, Nat.reduceAdd, Nat.reduceLT, Nat.reduceLeDiff, Nat.reduceEqDiff, Nat.reduceSub, Nat.reduceMul, Nat.reduceBEq, Int.reduceBEq, Int.reduceBNe, Int.reduceLT, Int.reduceLE, Int.reduceGT, Int.reduceGE, Int.reduceNeg, Int.reduceEq, Int.reduceNe, Int.reduceToNat, Int.reduceAdd, aconv, acvB, capR, acmpnil, appBox, storeB, ares1, appendTo, afill, aeqL, teset, r0, r1, r5, r6, r7, inj_take, inj_drop, inj_agg, inj_len, inj_one, List.length_map]
            cases hc3 : decide (((j + 1 : Nat) : Int) < ((xs.length - (k + 1) : Nat) : Int)) with
            | false =>
              simp only [decide_eq_false_iff_not] at hc3
              have hkn : kk ≤ xs.length := by omega
              have hnz : (xs.length - kk = 0) = False := by simp only [eq_iff_iff, iff_false]; omega
              have hfit : kk * 5 + (xs.length - kk) * 5 ≤ (flatV zs).length := by rw [flatV_len]; omega
              have htk := flatV_take (xs := zs) (j := kk) (by omega)
              simp only [aw0, aw1, aw2, aw3, aw4, aw5, aw6, aw7, ne_eq, eq_self, implies_true, imp_self, reduceIte, reduceCtorEq, Nat.reduceAdd, Nat.reduceLT, Nat.reduceLeDiff, Nat.reduceEqDiff, Nat.reduceSub, Nat.reduceMul, Nat.reduceBEq, Int.reduceBEq, Int.reduceBNe, Int.reduceLT, Int.reduceLE, Int.reduceGT, Int.reduceGE, Int.reduceNeg, Int.reduceEq, Int.reduceNe, Int.reduceToNat, Int.reduceAdd, aconv, acvB, capR, acmpnil, appBox, storeB, ares1, appendTo, afill, aeqL, teset, r0, r1, r5, r6, r7, inj_take, inj_drop, inj_agg, inj_len, inj_one, List.length_map, hbz, Int.natCast_nonneg, Int.toNat_natCast, Nat.zero_add, hkn, Nat.le_refl, and_self, aclear, hnz, hfit, htk, Nat.zero_le, Nat.sub_zero, if_true]
              have hdd : dd xs = zs.take kk := by
                rw [hdz, List.drop_eq_nil_of_le (by omega), ddG, List.append_nil]
              have hddl : (dd xs).length = kk := by rw [hdd, List.length_take]; omega
              rw [hddl]
              refine ⟨b, zeros [AV.int IntKind.i64 0, AV.int IntKind.i64 0, AV.str { data := #[] }, AV.sl Tag.full 0 [], AV.sl Tag.full 0 []] (xs.length - kk) ++ List.drop (kk * 5 + (zeros [AV.int IntKind.i64 0, AV.int IntKind.i64 0, AV.str { data := #[] }, AV.sl Tag.full 0 [], AV.sl Tag.full 0 []] (xs.length - kk)).length) (flatV zs), _, rfl, rfl, ?_, .inl rfl, ?_⟩
              · rw [hdd, if_pos rfl, List.append_assoc]
                rfl
              · intro b2 hb2 hne2
                rw [if_neg hne2, if_neg hne2]
            | true =>
              simp only [decide_eq_true_eq] at hc3
              simp only [aw0, aw1, aw2, aw3, aw4, aw5, aw6, aw7, ne_eq, eq_self, implies_true, imp_self, reduceIte, reduceCtorEq, Nat.reduceAdd, Nat.reduceLT, Nat.reduceLeDiff, Nat.reduceEqDiff, Nat.reduceSub, Nat.reduceMul, Nat.reduceBEq, Int.reduceBEq, Int.reduceBNe, Int.reduceLT, Int.reduceLE, Int.reduceGT, Int.reduceGE, Int.reduceNeg, Int.reduceEq, Int.reduceNe, Int.reduceToNat, Int.reduceAdd, aconv, acvB, capR, acmpnil, appBox, storeB, ares1, appendTo, afill, aeqL, teset, r0, r1, r5, r6, r7, inj_take, inj_drop, inj_agg, inj_len, inj_one, List.length_map]
              refine acode_draw_chain te_ok mixed [] (by kernel_rfl) ?_
              have hA : k + 1 + (j + 1) < xs.length := by omega
              have hB : k + 1 + j < xs.length := by omega
              have hwj : IntKind.i64.wrap (((j + 1 : Nat) : Int) - 1) = (j : Int) := by rw [wrap_i64 (by omega) (by omega)]; omega
              have hj0 : ((j : Nat) : Int) < ((xs.length - (k + 1) : Nat) : Int) := by omega
              have hgB : xs.getD (k + 1 + j) zeroV = xs[k + 1 + j] := by rw [List.getD_eq_getElem?_getD, List.getElem?_eq_getElem hB]; rfl
              have hgA : xs.getD (k + 1 + (j + 1)) zeroV = xs[k + 1 + (j + 1)] := by rw [List.getD_eq_getElem?_getD, List.getElem?_eq_getElem hA]; rfl
              have hzB : zs[k + 1 + j]'(by omega) = xs[k + 1 + j] := by
                have := congrArg (fun l : List V => l[0]?) hzd
                simp only [List.getElem?_drop, Nat.add_zero] at this
                rw [List.getElem?_eq_getElem (by omega), List.getElem?_eq_getElem hB] at this
                injection this
              have hzA : zs[k + 1 + (j + 1)]'(by omega) = xs[k + 1 + (j + 1)] := by
                have := congrArg (fun l : List V => l[1]?) hzd
                simp only [List.getElem?_drop] at this
                rw [show k + 1 + j + 1 = k + 1 + (j + 1) by omega, List.getElem?_eq_getElem (by omega), List.getElem?_eq_getElem hA] at this
                injection this
              obtain ⟨pA, hpA⟩ := flatV_at (xs := zs) (j := k + 1 + (j + 1)) (by omega)
              obtain ⟨pB, hpB⟩ := flatV_at (xs := zs) (j := k + 1 + j) (by omega)
              rw [hzA, Nat.add_mul (k + 1) (j + 1) 5] at hpA
              rw [hzB, Nat.add_mul (k + 1) j 5] at hpB
              have tA : List.take 5 ((inj xs[k + 1 + (j + 1)]).cells ++ pA) = (inj xs[k + 1 + (j + 1)]).cells := by rw [List.take_append_of_le_length (by rw [inj_len]; exact Nat.le_refl _), inj_take]
              have tB : List.take 5 ((inj xs[k + 1 + j]).cells ++ pB) = (inj xs[k + 1 + j]).cells := by rw [List.take_append_of_le_length (by rw [inj_len]; exact Nat.le_refl _), inj_take]
              have lA : 5 ≤ ((inj xs[k + 1 + (j + 1)]).cells ++ pA).length := by rw [List.length_append, inj_len]; omega
              have lB : 5 ≤ ((inj xs[k + 1 + j]).cells ++ pB).length := by rw [List.length_append, inj_len]; omega
              rw [hgB, show k + 1 + j + 1 = k + 1 + (j + 1) by omega, ddG_step _ hA] at hdz
              simp only [aw0, aw1, aw2, aw3, aw4, aw5, aw6, aw7, ne_eq, eq_self, implies_true, imp_self, reduceIte, reduceCtorEq, Nat.reduceAdd, Nat.reduceLT, Nat.reduceLeDiff, Nat.reduceEqDiff, Nat.reduceSub, Nat.reduceMul, Nat.reduceBEq, Int.reduceBEq, Int.reduceBNe, Int.reduceLT, Int.reduceLE, Int.reduceGT, Int.reduceGE, Int.reduceNeg, Int.reduceEq, Int.reduceNe, Int.reduceToNat, Int.reduceAdd, aconv, acvB, capR, acmpnil, appBox, storeB, ares1, appendTo, afill, aeqL, teset, r0, r1, r5, r6, r7, inj_take, inj_drop, inj_agg, inj_len, inj_one, List.length_map, hbz, Int.natCast_nonneg, Int.toNat_natCast, hc3, Nat.zero_add, hwj, hj0, hpA, hpB, tA, tB, lA, lB]
              refine skR_pure (equal_pure xs[k + 1 + (j + 1)] xs[k + 1 + j] (hx _ (List.getElem_mem _)) (hx _ (List.getElem_mem _))) ?_
              cases hq2 : (ord xs[k + 1 + (j + 1)] xs[k + 1 + j] == 0) with
              | true =>
                rw [if_pos (by simpa using hq2)] at hdz
                simp only [aw0, aw1, aw2, aw3, aw4, aw5, aw6, aw7, ne_eq, eq_self, implies_true, imp_self, reduceIte, reduceCtorEq, Nat.reduceAdd, Nat.reduceLT, Nat.reduceLeDiff, Nat.reduceEqDiff, Nat.reduceSub, Nat.reduceMul, Nat.reduceBEq, Int.reduceBEq, Int.reduceBNe, Int.reduceLT, Int.reduceLE, Int.reduceGT, Int.reduceGE, Int.reduceNeg, Int.reduceEq, Int.reduceNe, Int.reduceToNat, Int.reduceAdd, aconv, acvB, capR, acmpnil, appBox, storeB, ares1, appendTo, afill, aeqL, teset, r0, r1, r5, r6, r7, inj_take, inj_drop, inj_agg, inj_len, inj_one, List.length_map]
                refine ⟨m - 1, by omega, j + 1, kk, zs, rfl, by rw [wrap_succ (by omega)], rfl, hzl, by omega, hkk1, by omega, ?_, ?_⟩
                · have := congrArg (List.drop 1) hzd
                  rwa [List.drop_drop, List.drop_drop, show k + 1 + j + 1 = k + 1 + (j + 1) by omega] at this
                · rw [hgA]; exact hdz
              | false =>
                rw [if_neg (by simpa using hq2)] at hdz
                have hkx : ((kk : Nat) : Int) < (xs.length : Int) := by omega
                have hset := flatV_set (xs := zs) (j := kk) (by omega) xs[k + 1 + (j + 1)]
                have hfit : kk * 5 + 5 ≤ (flatV zs).length := by rw [flatV_len]; omega
                simp only [aw0, aw1, aw2, aw3, aw4, aw5, aw6, aw7, ne_eq, eq_self, implies_true, imp_self, reduceIte, reduceCtorEq, Nat.reduceAdd, Nat.reduceLT, Nat.reduceLeDiff, Nat.reduceEqDiff, Nat.reduceSub, Nat.reduceMul, Nat.reduceBEq, Int.reduceBEq, Int.reduceBNe, Int.reduceLT, Int.reduceLE, Int.reduceGT, Int.reduceGE, Int.reduceNeg, Int.reduceEq, Int.reduceNe, Int.reduceToNat, Int.reduceAdd, aconv, acvB, capR, acmpnil, appBox, storeB, ares1, appendTo, afill, aeqL, teset, r0, r1, r5, r6, r7, inj_take, inj_drop, inj_agg, inj_len, inj_one, List.length_map, hbz, Int.natCast_nonneg, Int.toNat_natCast, hc3, Nat.zero_add, hpA, tA, lA, hkx, hfit, hset]
                refine ⟨m - 1, by omega, j + 1, kk + 1, zs.set kk xs[k + 1 + (j + 1)], by rw [wrap_succ (by omega)], by rw [wrap_succ (by omega)], by rw [AH.set_set], by rw [List.length_set]; exact hzl, by omega, by omega, by omega, ?_, ?_⟩
                · have := congrArg (List.drop 1) hzd
                  rw [List.drop_drop, List.drop_drop, show k + 1 + j + 1 = k + 1 + (j + 1) by omega] at this
                  rw [List.drop_set_of_lt (by omega)]; exact this
                · rw [hgA, hdz, List.take_succ_eq_append_getElem (by rw [List.length_set]; omega), List.getElem_set_self, List.take_set_of_le (Nat.le_refl _), List.append_assoc]
                  rfl
end Go.Proofs.Ytlbhgoffiigfbaa.AW
end
section
set_option linter.unusedSimpArgs false
set_option linter.unusedVariables false
namespace Go.Proofs.Ytlbhgoffiigfbaa.AW
open Go Go.RowKit

def ltV (v w : V) : Bool := decide (ord w v < 0)
def lbV (ws : List V) (v : V) : Nat := ws.findIdx fun w => !ltV v w
def foundV (ws : List V) (v : V) : Bool := match ws[lbV ws v]? with | some w => ord w v == 0 | none => false
theorem lbV_le (ws : List V) (v : V) : lbV ws v ≤ ws.length := List.findIdx_le_length
theorem lbV_lt {ws : List V} {v : V} (hs : ws.Pairwise fun a b => leV a b = true) (hw : ∀ w ∈ ws, Vok w) (hv : Vok v) {m : Nat} (hm : m < ws.length) (h : ltV v ws[m] = true) : m < lbV ws v := by
  rcases Nat.lt_or_ge m (lbV ws v) with h1 | h1
  · exact h1
  · exfalso
    have hl : lbV ws v < ws.length := by omega
    have := List.findIdx_getElem (p := fun w => !ltV v w) (xs := ws) (w := hl)
    have hq : ltV v ws[lbV ws v] = false := by
      have h3 : (!ltV v ws[lbV ws v]) = true := this
      simpa using h3
    rcases Nat.eq_or_lt_of_le h1 with e | e
    · simp only [e] at hq
      rw [h] at hq; cases hq
    · have h2 := List.pairwise_iff_getElem.1 hs (lbV ws v) m hl hm e
      unfold ltV at h hq
      unfold leV at h2
      simp only [decide_eq_true_eq, decide_eq_false_iff_not] at h hq h2
      rw [ord_eq _ _ (hw _ (List.getElem_mem _)) hv] at h hq
      have := ordN_T3 ws[lbV ws v] ws[m] v
      unfold T3 at this
      omega
theorem lbV_ge {ws : List V} {v : V} {m : Nat} (hm : m < ws.length) (h : ltV v ws[m] = false) : lbV ws v ≤ m := by
  rcases Nat.lt_or_ge m (lbV ws v) with h1 | h1
  · have := List.not_of_lt_findIdx (p := fun w => !ltV v w) (xs := ws) (i := m) h1
    simp [h] at this
  · exact h1
set_option maxHeartbeats 1000000 in
theorem searchV_pure (ws : List V) (v : V) (hs : ws.Pairwise fun a b => leV a b = true) (hw : ∀ w ∈ ws, Vok w) (hv : Vok v) (hl : ws.length < 1000000) :
    Pure Try.prog 102 [.sl .ro 5 (ws.map inj), inj v, .fn (.func 90) [] []] (.tup [.int .i64 (lbV ws v), .bool (foundV ws v)]) := by
  have hord : ∀ w ∈ ws, Pure Try.prog 90 [inj w, inj v] (.int .i64 (ord w v)) := fun w h => order_pure w v (hw w h) hv
  obtain ⟨cv, hcv⟩ : ∃ cv, cv = (inj v).cells := ⟨_, rfl⟩
  have hcl : cv.length = 5 := by rw [hcv, inj_len]
  have hct : List.take 5 cv = cv := List.take_of_length_le (by omega)
  have hca : AV.agg cv = inj v := by rw [hcv, inj_agg]
  have hone : cv.all AV.one = true := by rw [hcv, inj_one]
  rw [← hca] at hord ⊢
  refine Pure.of ⟨Try.f102, Try.func102, rfl, by kernel_rfl⟩ rfl (fun h => ?_)
  refine acalls_of te_ok [] Try.func102 (c := _) rfl (Nat.le_of_ble_eq_true rfl) ?_
  simp only [aw0, aw1, aw2, aw3, aw4, aw5, aw6, aw7, ne_eq, eq_self, implies_true, imp_self, reduceIte, reduceCtorEq, Nat.reduceAdd, Nat.reduceLT, Nat.reduceLeDiff, Nat.reduceEqDiff, Nat.reduceSub, Nat.reduceMul, Nat.reduceBEq, Int.reduceBEq, Int.reduceBNe, Int.reduceLT, Int.reduceLE, Int.reduceGT, Int.reduceGE, Int.reduceNeg, Int.reduceEq, Int.reduceNe, Int.reduceToNat, Int.reduceAdd, aconv, acvB, capR, acmpnil, appBox, storeB, ares1, appendTo, afill, aeqL, teset, Try.ntmps102, Try.results102, inj_take, inj_drop, inj_agg, inj_len, inj_one, List.length_map, hcl, hct, hone]
  refine ⟨fun n s' h' => ∃ (i j : Nat), s' 0 = .sl .ro 5 (ws.map inj) ∧ s' 2 = .fn (.func 90) [] [] ∧ s' 4 = .ptr h.nb 0 ∧ s' 8 = .int .i64 ws.length ∧ s' 9 = .int .i64 i ∧ s' 10 = .int .i64 j ∧ h' = h.new cv ∧ n = j - i ∧ i ≤ lbV ws v ∧ lbV ws v ≤ j ∧ j ≤ ws.length, ⟨ws.length, 0, ws.length, ?_⟩, ?_⟩
  · simp only [aw0, aw1, aw2, aw3, aw4, aw5, aw6, aw7, ne_eq, eq_self, implies_true, imp_self, reduceIte, reduceCtorEq, Nat.reduceAdd, Nat.reduceLT, Nat.reduceLeDiff, Nat.reduceEqDiff, Nat.reduceSub, Nat.reduceMul, Nat.reduceBEq, Int.reduceBEq, Int.reduceBNe, Int.reduceLT, Int.reduceLE, Int.reduceGT, Int.reduceGE, Int.reduceNeg, Int.reduceEq, Int.reduceNe, Int.reduceToNat, Int.reduceAdd, aconv, acvB, capR, acmpnil, appBox, storeB, ares1, appendTo, afill, aeqL, teset, Int.natCast_zero, inj_take, inj_drop, inj_agg, inj_len, inj_one, List.length_map]
    exact ⟨by omega, Nat.zero_le _, lbV_le _ _, Nat.le_refl _⟩
  · rintro n s' h' ⟨i, j, e0, e2, e4, e8, e9, e10, hh, hn, hi, hj, hjl⟩
    subst hh
    simp only [aw0, aw1, aw2, aw3, aw4, aw5, aw6, aw7, ne_eq, eq_self, implies_true, imp_self, reduceIte, reduceCtorEq, Nat.reduceAdd, Nat.reduceLT, Nat.reduceLeDiff, Nat.reduceEqDiff, Nat.reduceSub, Nat.reduceMul, Nat.reduceBEq, Int.reduceBEq, Int.reduceBNe, Int.reduceLT, Int.reduceLE, Int.reduceGT, Int.reduceGE, Int.reduceNeg, Int.reduceEq, Int.reduceNe, Int.reduceToNat, Int.reduceAdd, aconv, acvB, capR, acmpnil, appBox, storeB, ares1, appendTo, afill, aeqL, teset, e0, e2, e4, e8, e9, e10, inj_take, inj_drop, inj_agg, inj_len, inj_one, List.length_map]
    cases hc : decide ((i : Int) < (j : Int)) with
    | false =>
      simp only [aw0, aw1, aw2, aw3, aw4, aw5, aw6, aw7, ne_eq, eq_self, implies_true, imp_self, reduceIte, reduceCtorEq, Nat.reduceAdd, Nat.reduceLT, Nat.reduceLeDiff, Nat.reduceEqDiff, Nat.reduceSub, Nat.reduceMul, Nat.reduceBEq, Int.reduceBEq, Int.reduceBNe, Int.reduceLT, Int.reduceLE, Int.reduceGT, Int.reduceGE, Int.reduceNeg, Int.reduceEq, Int.reduceNe, Int.reduceToNat, Int.reduceAdd, aconv, acvB, capR, acmpnil, appBox, storeB, ares1, appendTo, afill, aeqL, teset, e0, e2, e4, e8, e9, e10, inj_take, inj_drop, inj_agg, inj_len, inj_one, List.length_map]
      simp only [decide_eq_false_iff_not] at hc
      have hil : i = lbV ws v := by omega
      refine acode_draw_chain te_ok mixed [] (by kernel_rfl) ?_
      simp only [aw0, aw1, aw2, aw3, aw4, aw5, aw6, aw7, ne_eq, eq_self, implies_true, imp_self, reduceIte, reduceCtorEq, Nat.reduceAdd, Nat.reduceLT, Nat.reduceLeDiff, Nat.reduceEqDiff, Nat.reduceSub, Nat.reduceMul, Nat.reduceBEq, Int.reduceBEq, Int.reduceBNe, Int.reduceLT, Int.reduceLE, Int.reduceGT, Int.reduceGE, Int.reduceNeg, Int.reduceEq, Int.reduceNe, Int.reduceToNat, Int.reduceAdd, aconv, acvB, capR, acmpnil, appBox, storeB, ares1, appendTo, afill, aeqL, teset, e0, e2, e4, e8, e9, e10, inj_take, inj_drop, inj_agg, inj_len, inj_one, List.length_map]
      cases hd : decide ((i : Int) < (ws.length : Int)) with
      | false =>
        simp only [aw0, aw1, aw2, aw3, aw4, aw5, aw6, aw7, ne_eq, eq_self, implies_true, imp_self, reduceIte, reduceCtorEq, Nat.reduceAdd, Nat.reduceLT, Nat.reduceLeDiff, Nat.reduceEqDiff, Nat.reduceSub, Nat.reduceMul, Nat.reduceBEq, Int.reduceBEq, Int.reduceBNe, Int.reduceLT, Int.reduceLE, Int.reduceGT, Int.reduceGE, Int.reduceNeg, Int.reduceEq, Int.reduceNe, Int.reduceToNat, Int.reduceAdd, aconv, acvB, capR, acmpnil, appBox, storeB, ares1, appendTo, afill, aeqL, teset, e0, e2, e4, e8, e9, e10, inj_take, inj_drop, inj_agg, inj_len, inj_one, List.length_map]
        simp only [decide_eq_false_iff_not] at hd
        refine ⟨by (repeat (first | exact AH.Ext.refl _ | assumption | refine AH.Ext.set ?_ (by first | omega | (simp only [new_nb, set_nb, kill_nb, newTok_nb, setTok_nb]; omega)) _ | refine AH.Ext.new ?_ _)), _, rfl, ?_⟩
        have : foundV ws v = false := by unfold foundV; rw [List.getElem?_eq_none (by omega)]
        rw [this, ← hil]; rfl
      | true =>
        simp only [decide_eq_true_eq] at hd
        have hlt : i < ws.length := by omega
        have hget : (ws.map inj)[((i : Nat) : Int).toNat]? = some (inj ws[i]) := by simp [hlt]
        simp only [aw0, aw1, aw2, aw3, aw4, aw5, aw6, aw7, ne_eq, eq_self, implies_true, imp_self, reduceIte, reduceCtorEq, Nat.reduceAdd, Nat.reduceLT, Nat.reduceLeDiff, Nat.reduceEqDiff, Nat.reduceSub, Nat.reduceMul, Nat.reduceBEq, Int.reduceBEq, Int.reduceBNe, Int.reduceLT, Int.reduceLE, Int.reduceGT, Int.reduceGE, Int.reduceNeg, Int.reduceEq, Int.reduceNe, Int.reduceToNat, Int.reduceAdd, aconv, acvB, capR, acmpnil, appBox, storeB, ares1, appendTo, afill, aeqL, teset, e0, e2, e4, e8, e9, e10, inj_take, inj_drop, inj_agg, inj_len, inj_one, List.length_map, hget, Int.natCast_nonneg, hcl, hct, boxR]
        refine skR_pure (hord _ (List.getElem_mem hlt)) ?_
        simp only [aw0, aw1, aw2, aw3, aw4, aw5, aw6, aw7, ne_eq, eq_self, implies_true, imp_self, reduceIte, reduceCtorEq, Nat.reduceAdd, Nat.reduceLT, Nat.reduceLeDiff, Nat.reduceEqDiff, Nat.reduceSub, Nat.reduceMul, Nat.reduceBEq, Int.reduceBEq, Int.reduceBNe, Int.reduceLT, Int.reduceLE, Int.reduceGT, Int.reduceGE, Int.reduceNeg, Int.reduceEq, Int.reduceNe, Int.reduceToNat, Int.reduceAdd, aconv, acvB, capR, acmpnil, appBox, storeB, ares1, appendTo, afill, aeqL, teset, e0, e2, e4, e8, e9, e10, inj_take, inj_drop, inj_agg, inj_len, inj_one, List.length_map]
        refine ⟨by (repeat (first | exact AH.Ext.refl _ | assumption | refine AH.Ext.set ?_ (by first | omega | (simp only [new_nb, set_nb, kill_nb, newTok_nb, setTok_nb]; omega)) _ | refine AH.Ext.new ?_ _)), _, rfl, ?_⟩
        have hf : foundV ws v = (ord ws[i] v == 0) := by unfold foundV; rw [← hil, List.getElem?_eq_getElem hlt]
        rw [hf, ← hil]; rfl
    | true =>
      simp only [decide_eq_true_eq] at hc
      have hm : (i + j) / 2 < ws.length := by omega
      have hget : (ws.map inj)[(((i + j) / 2 : Nat) : Int).toNat]? = some (inj ws[(i + j) / 2]) := by
        rw [Int.toNat_natCast, List.getElem?_map, List.getElem?_eq_getElem hm]; rfl
      have hh2 := half i j (by omega)
      simp only [aw0, aw1, aw2, aw3, aw4, aw5, aw6, aw7, ne_eq, eq_self, implies_true, imp_self, reduceIte, reduceCtorEq, Nat.reduceAdd, Nat.reduceLT, Nat.reduceLeDiff, Nat.reduceEqDiff, Nat.reduceSub, Nat.reduceMul, Nat.reduceBEq, Int.reduceBEq, Int.reduceBNe, Int.reduceLT, Int.reduceLE, Int.reduceGT, Int.reduceGE, Int.reduceNeg, Int.reduceEq, Int.reduceNe, Int.reduceToNat, Int.reduceAdd, aconv, acvB, capR, acmpnil, appBox, storeB, ares1, appendTo, afill, aeqL, teset, e0, e2, e4, e8, e9, e10, inj_take, inj_drop, inj_agg, inj_len, inj_one, List.length_map, hh2]
      refine acode_draw_chain te_ok mixed [] (by kernel_rfl) ?_
      simp only [aw0, aw1, aw2, aw3, aw4, aw5, aw6, aw7, ne_eq, eq_self, implies_true, imp_self, reduceIte, reduceCtorEq, Nat.reduceAdd, Nat.reduceLT, Nat.reduceLeDiff, Nat.reduceEqDiff, Nat.reduceSub, Nat.reduceMul, Nat.reduceBEq, Int.reduceBEq, Int.reduceBNe, Int.reduceLT, Int.reduceLE, Int.reduceGT, Int.reduceGE, Int.reduceNeg, Int.reduceEq, Int.reduceNe, Int.reduceToNat, Int.reduceAdd, aconv, acvB, capR, acmpnil, appBox, storeB, ares1, appendTo, afill, aeqL, teset, e0, e2, e4, e8, e9, e10, inj_take, inj_drop, inj_agg, inj_len, inj_one, List.length_map, hh2, hget, Int.natCast_nonneg, hcl, hct, boxR]
      refine skR_pure (hord _ (List.getElem_mem hm)) ?_
      simp only [aw0, aw1, aw2, aw3, aw4, aw5, aw6, aw7, ne_eq, eq_self, implies_true, imp_self, reduceIte, reduceCtorEq, Nat.reduceAdd, Nat.reduceLT, Nat.reduceLeDiff, Nat.reduceEqDiff, Nat.reduceSub, Nat.reduceMul, Nat.reduceBEq, Int.reduceBEq, Int.reduceBNe, Int.reduceLT, Int.reduceLE, Int.reduceGT, Int.reduceGE, Int.reduceNeg, Int.reduceEq, Int.reduceNe, Int.reduceToNat, Int.reduceAdd, aconv, acvB, capR, acmpnil, appBox, storeB, ares1, appendTo, afill, aeqL, teset, e0, e2, e4, e8, e9, e10, inj_take, inj_drop, inj_agg, inj_len, inj_one, List.length_map, hh2]
      cases hq : decide (ord ws[(i + j) / 2] v < 0) with
      | true =>
        simp only [aw0, aw1, aw2, aw3, aw4, aw5, aw6, aw7, ne_eq, eq_self, implies_true, imp_self, reduceIte, reduceCtorEq, Nat.reduceAdd, Nat.reduceLT, Nat.reduceLeDiff, Nat.reduceEqDiff, Nat.reduceSub, Nat.reduceMul, Nat.reduceBEq, Int.reduceBEq, Int.reduceBNe, Int.reduceLT, Int.reduceLE, Int.reduceGT, Int.reduceGE, Int.reduceNeg, Int.reduceEq, Int.reduceNe, Int.reduceToNat, Int.reduceAdd, aconv, acvB, capR, acmpnil, appBox, storeB, ares1, appendTo, afill, aeqL, teset, e0, e2, e4, e8, e9, e10, inj_take, inj_drop, inj_agg, inj_len, inj_one, List.length_map, hh2]
        have := lbV_lt hs hw hv hm (by unfold ltV; exact hq)
        refine ⟨j - ((i + j) / 2 + 1), by omega, (i + j) / 2 + 1, j, by rw [wrap_succ (by omega)], rfl, by omega, by omega, by omega, hjl⟩
      | false =>
        simp only [aw0, aw1, aw2, aw3, aw4, aw5, aw6, aw7, ne_eq, eq_self, implies_true, imp_self, reduceIte, reduceCtorEq, Nat.reduceAdd, Nat.reduceLT, Nat.reduceLeDiff, Nat.reduceEqDiff, Nat.reduceSub, Nat.reduceMul, Nat.reduceBEq, Int.reduceBEq, Int.reduceBNe, Int.reduceLT, Int.reduceLE, Int.reduceGT, Int.reduceGE, Int.reduceNeg, Int.reduceEq, Int.reduceNe, Int.reduceToNat, Int.reduceAdd, aconv, acvB, capR, acmpnil, appBox, storeB, ares1, appendTo, afill, aeqL, teset, e0, e2, e4, e8, e9, e10, inj_take, inj_drop, inj_agg, inj_len, inj_one, List.length_map, hh2]
        have := lbV_ge hm (v := v) (by unfold ltV; exact hq)
        refine ⟨(i + j) / 2 - i, by omega, i, (i + j) / 2, rfl, rfl, by omega, by omega, by omega, by omega⟩
end Go.Proofs.Ytlbhgoffiigfbaa.AW
end
