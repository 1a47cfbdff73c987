/- Texts of this claim, part 7: V41, V42, V28, V29, V30, V31, V43. -/
import Derived.Test.YtjdocenbfghglaaGreatDoorPu1
import Derived.Test.YtjdocenbfghglaaGreatDoorPu2
import Derived.Test.YtjdocenbfghglaaGreatDoorPu3
import Derived.Test.YtjdocenbfghglaaGreatDoorPu4
import Derived.Test.YtjdocenbfghglaaGreatDoorPu5
import Derived.Test.YtjdocenbfghglaaGreatDoorPu6
section
set_option linter.unusedSimpArgs false
set_option linter.unusedVariables false
namespace Go.Proofs.YtjdocenbfghglaaGreatDoor.AW
open Go Go.RowKit

theorem list_calls (tag : Tag) (l : List AV) (sz : Nat) (h : AH) : ACalls Tryz.prog 53 [.sl tag sz l] h fun out h' => out = .ret (.agg [.int .i64 4, .int .i64 0, .str ⟨#[]⟩, .sl tag sz l, .sl .full 0 []]) ∧ h' = h.new [.int .i64 4, .int .i64 0, .str ⟨#[]⟩, .sl tag sz l, .sl .full 0 []] := by
  refine acalls_of te_ok [] Tryz.func53 (c := _) rfl (Nat.le_of_ble_eq_true rfl) ?_
  simp only [aw0, aw1, aw2, aw3, aw4, aw5, aw6, aw7, ne_eq, eq_self, implies_true, imp_self, reduceIte, reduceCtorEq, Nat.reduceAdd, Nat.reduceLT, Nat.reduceLeDiff, Nat.reduceEqDiff, Nat.reduceSub, Nat.reduceMul, Nat.reduceBEq, Int.reduceBEq, Int.reduceBNe, Int.reduceLT, Int.reduceLE, Int.reduceGT, Int.reduceGE, Int.reduceNeg, Int.reduceEq, Int.reduceNe, Int.reduceToNat, Int.reduceAdd, aconv, acvB, capR, acmpnil, appBox, storeB, ares1, appendTo, afill, aeqL, teset, Tryz.ntmps53, Tryz.results53, boxR]
  exact new_set _ _ _
theorem shape4 {v : V} (hv : Vok v) (h4 : v.kind = 4) : v.int = 0 ∧ v.text = ⟨#[]⟩ ∧ v.keys = [] := by
  obtain ⟨h, _⟩ := hv.shape
  obtain ⟨k, i, t, xs, ks⟩ := v
  simp only [V.kind] at h4
  subst h4
  rw [shape_4] at h
  simp only [plainS, V.int, V.text, V.items, V.keys, Bool.false_or, Bool.true_or, Bool.and_true, Bool.and_eq_true, beq_iff_eq] at h ⊢
  exact ⟨h.1.1, ba_ext h.1.2, List.eq_nil_of_length_eq_zero (by omega)⟩
theorem shape5 {v : V} (hv : Vok v) (h5 : v.kind = 5) : v.int = 0 ∧ v.text = ⟨#[]⟩ ∧ v.keys.length = v.items.length ∧ Asc v.keys := by
  obtain ⟨h, _⟩ := hv.shape
  have ha := shape_asc h h5
  obtain ⟨k, i, t, xs, ks⟩ := v
  simp only [V.kind] at h5
  subst h5
  rw [shape_5] at h
  simp only [plainS, V.int, V.text, V.items, V.keys, Bool.false_or, Bool.true_or, Bool.and_true, Bool.and_eq_true, beq_iff_eq] at h ⊢
  exact ⟨h.1.1.1, ba_ext h.1.1.2, h.1.2, ha⟩
theorem refWith_ok {v : V} {key : ByteArray} {x : V} (hv : Vok v) (h5 : v.kind = 5) : refWith v key x = setK v key x :=
  refWith_set (shape5 hv h5).2.2.2 (shape5 hv h5).2.2.1 h5 (shape5 hv h5).1 (shape5 hv h5).2.1
theorem putIn_res {f : V → V × Int} {s : Stp} {v : V} (h1 : s.index ≤ (v.items.length : Int)) (h2 : (f (oldV v s)).2 = 0) : putIn f s v = (resV v s (f (oldV v s)).1, 0) := by
  unfold putIn resV
  rw [if_neg (by omega), if_neg (by simpa using h2)]
  split <;> rfl
theorem putIn_err {f : V → V × Int} {s : Stp} {v : V} (h1 : s.index ≤ (v.items.length : Int)) (h2 : (f (oldV v s)).2 ≠ 0) : putIn f s v = (zeroV, (f (oldV v s)).2) := by
  unfold putIn
  rw [if_neg (by omega), if_pos h2]
theorem putIn_big {f : V → V × Int} {s : Stp} {v : V} (h1 : (v.items.length : Int) < s.index) : putIn f s v = (zeroV, 3) := by
  unfold putIn
  rw [if_pos h1]
theorem wk_list (xs : List V) (tag : Tag) : Wk (.agg [.int .i64 4, .int .i64 0, .str ⟨#[]⟩, .sl tag 5 (xs.map inj), .sl .full 0 []]) (inj (.mk 4 0 ⟨#[]⟩ xs [])) := by
  rw [inj_mk]
  exact (WkAll.cons (.refl _) (.cons (.refl _) (.cons (.refl _) (.cons .ro (.cons wk_nil1 .nil))))).agg
theorem nil_of {α : Type} {xs : List α} {m : Nat} (h : ¬ (m : Int) < (xs.length : Int)) : xs.drop (m + 1) = [] := List.drop_eq_nil_of_le (by omega)
theorem td_len {α : Type} (xs : List α) (m : Nat) : (xs.take m).length + (xs.drop (m + 1)).length ≤ xs.length := by simp; omega
theorem b3 {a b n : Nat} (h : a + b ≤ n) (hn : n < 1000000) : a * 80 ≤ 140737488355328 ∧ (a + 1) * 80 ≤ 140737488355328 ∧ (a + 1 + b) * 80 ≤ 140737488355328 := by omega
theorem mlt {m n : Nat} (h : m ≤ n) (hn : n < 1000000) : m + 1 < 4611686018427387904 := by omega
theorem bxs {a b : Nat} (h : a + b < 1000000) : (a + b) * 80 ≤ 140737488355328 := by omega
set_option maxHeartbeats 40000000 in
theorem refput_pure : ∀ (p : List Stp) (v x : V), Vok v → p.length < 1000000 → Pure Tryz.prog 63 [inj v, .sl .ro 2 (p.map injS), inj x] (.tup [inj (putP p v x).1, .int .i64 (putP p v x).2]) := by
  intro p
  induction p with
  | nil =>
    intro v x hv hl
    refine Pure.of0 ⟨Tryz.f63, Tryz.func63, rfl, by kernel_rfl⟩ (by simp [AV.underL, inj_under, AV.under]) (by simp [putP, AV.under, AV.underL, inj_under]) ?_
    refine acalls_of te_ok [] Tryz.func63 (c := _) rfl (Nat.le_of_ble_eq_true rfl) ?_
    simp only [aw0, aw1, aw2, aw3, aw4, aw5, aw6, aw7, ne_eq, eq_self, implies_true, imp_self, reduceIte, reduceCtorEq, Nat.reduceAdd, Nat.reduceLT, Nat.reduceLeDiff, Nat.reduceEqDiff, Nat.reduceSub, Nat.reduceMul, Nat.reduceBEq, Int.reduceBEq, Int.reduceBNe, Int.reduceLT, Int.reduceLE, Int.reduceGT, Int.reduceGE, Int.reduceNeg, Int.reduceEq, Int.reduceNe, Int.reduceToNat, Int.reduceAdd, aconv, acvB, capR, acmpnil, appBox, storeB, ares1, appendTo, afill, aeqL, teset, Tryz.ntmps63, Tryz.results63, inj_take, inj_drop, inj_agg, inj_len, inj_one, List.length_map, boxR, none_nb, none_box, Int.natCast_zero]
    exact ⟨_, rfl, .refl _ _⟩
  | cons s p ih =>
    intro v x hv hl
    simp only [List.length_cons] at hl
    refine Pure.of0 ⟨Tryz.f63, Tryz.func63, rfl, by kernel_rfl⟩ (by have := injS_under (s :: p); simp only [AV.underL, inj_under, AV.under, Bool.true_and, Bool.and_true]; exact this) (by simp [AV.under, AV.underL, inj_under]) ?_
    have hl1 : (((p.length + 1 : Nat) : Int) == 0) = false := by rw [beq_eq_false_iff_ne]; omega
    have takep : List.take p.length (p.map injS) = p.map injS := List.take_of_length_le (by simp)
    obtain ⟨ix, key⟩ := s
    obtain ⟨k, n, t, xs, ks⟩ := v
    rw [inj_mk]
    refine acalls_of te_ok [33, 34, 35, 38, 39, 40, 41, 42, 43, 44, 45] Tryz.func63 (c := _) rfl (Nat.le_of_ble_eq_true rfl) ?_
    simp only [aw0, aw1, aw2, aw3, aw4, aw5, aw6, aw7, ne_eq, eq_self, implies_true, imp_self, reduceIte, reduceCtorEq, Nat.reduceAdd, Nat.reduceLT, Nat.reduceLeDiff, Nat.reduceEqDiff, Nat.reduceSub, Nat.reduceMul, Nat.reduceBEq, Int.reduceBEq, Int.reduceBNe, Int.reduceLT, Int.reduceLE, Int.reduceGT, Int.reduceGE, Int.reduceNeg, Int.reduceEq, Int.reduceNe, Int.reduceToNat, Int.reduceAdd, aconv, acvB, capR, acmpnil, appBox, storeB, ares1, appendTo, afill, aeqL, teset, Tryz.ntmps63, Tryz.results63, inj_take, inj_drop, inj_agg, inj_len, inj_one, List.length_map, boxR, none_nb, none_box, List.map_cons, List.length_cons, hl1, injS]
    cases h0 : (k == 0) with
    | true =>
      have hk0 : k = 0 := by simpa using h0
      simp only [aw0, aw1, aw2, aw3, aw4, aw5, aw6, aw7, ne_eq, eq_self, implies_true, imp_self, reduceIte, reduceCtorEq, Nat.reduceAdd, Nat.reduceLT, Nat.reduceLeDiff, Nat.reduceEqDiff, Nat.reduceSub, Nat.reduceMul, Nat.reduceBEq, Int.reduceBEq, Int.reduceBNe, Int.reduceLT, Int.reduceLE, Int.reduceGT, Int.reduceGE, Int.reduceNeg, Int.reduceEq, Int.reduceNe, Int.reduceToNat, Int.reduceAdd, aconv, acvB, capR, acmpnil, appBox, storeB, ares1, appendTo, afill, aeqL, teset, inj_take, inj_drop, inj_agg, inj_len, inj_one, List.length_map, none_nb, none_box, Int.natCast_zero]
      refine ACallV.det ⟨Tryz.f30, Tryz.func30, rfl, by kernel_rfl⟩ rfl (objnil_calls _) ?_
      simp only [aw0, aw1, aw2, aw3, aw4, aw5, aw6, aw7, ne_eq, eq_self, implies_true, imp_self, reduceIte, reduceCtorEq, Nat.reduceAdd, Nat.reduceLT, Nat.reduceLeDiff, Nat.reduceEqDiff, Nat.reduceSub, Nat.reduceMul, Nat.reduceBEq, Int.reduceBEq, Int.reduceBNe, Int.reduceLT, Int.reduceLE, Int.reduceGT, Int.reduceGE, Int.reduceNeg, Int.reduceEq, Int.reduceNe, Int.reduceToNat, Int.reduceAdd, aconv, acvB, capR, acmpnil, appBox, storeB, ares1, appendTo, afill, aeqL, teset, inj_take, inj_drop, inj_agg, inj_len, inj_one, List.length_map, none_nb, none_box, Int.natCast_zero]
      cases hneg : decide (ix ≥ 0) with
      | false =>
        have hneg' : ix < 0 := by simp only [decide_eq_false_iff_not] at hneg; omega
        have hlt : decide (ix < 0) = true := by simpa using hneg'
        have hg0 : decide (ix > 0) = false := by rw [decide_eq_false_iff_not]; omega
        simp only [aw0, aw1, aw2, aw3, aw4, aw5, aw6, aw7, ne_eq, eq_self, implies_true, imp_self, reduceIte, reduceCtorEq, Nat.reduceAdd, Nat.reduceLT, Nat.reduceLeDiff, Nat.reduceEqDiff, Nat.reduceSub, Nat.reduceMul, Nat.reduceBEq, Int.reduceBEq, Int.reduceBNe, Int.reduceLT, Int.reduceLE, Int.reduceGT, Int.reduceGE, Int.reduceNeg, Int.reduceEq, Int.reduceNe, Int.reduceToNat, Int.reduceAdd, aconv, acvB, capR, acmpnil, appBox, storeB, ares1, appendTo, afill, aeqL, teset, inj_take, inj_drop, inj_agg, inj_len, inj_one, List.length_map, none_nb, none_box, none_nt, none_tok, Int.natCast_zero, hlt, hneg, hg0]
        have hk5 : kindOf ⟨ix, key⟩ = 5 := if_pos hneg'
        have hi : itemS (emptyV 5) ⟨ix, key⟩ = none := empty_item _ _
        have hsp0 : putP (⟨ix, key⟩ :: p) (.mk k n t xs ks) x = putIn (fun old => putP p old x) ⟨ix, key⟩ (emptyV 5) := by
          simp only [putP, V.kind, hk5]
          rw [if_pos hk0]
        have hold : oldV (emptyV 5) ⟨ix, key⟩ = zeroV := by rw [old_item (empty_ok (.inr rfl)), hi]; rfl
        have hle : (⟨ix, key⟩ : Stp).index ≤ ((emptyV 5).items.length : Int) := by show ix ≤ ((0 : Nat) : Int); omega
        have hpi := refitem_pure (empty_ok (.inr rfl)) ⟨ix, key⟩
        rw [hi] at hpi
        refine ACallV.pureW hpi (WkAll.cons wk_empty5 (.cons (.refl _) .nil)) ?_
        simp only [aw0, aw1, aw2, aw3, aw4, aw5, aw6, aw7, ne_eq, eq_self, implies_true, imp_self, reduceIte, reduceCtorEq, Nat.reduceAdd, Nat.reduceLT, Nat.reduceLeDiff, Nat.reduceEqDiff, Nat.reduceSub, Nat.reduceMul, Nat.reduceBEq, Int.reduceBEq, Int.reduceBNe, Int.reduceLT, Int.reduceLE, Int.reduceGT, Int.reduceGE, Int.reduceNeg, Int.reduceEq, Int.reduceNe, Int.reduceToNat, Int.reduceAdd, aconv, acvB, capR, acmpnil, appBox, storeB, ares1, appendTo, afill, aeqL, teset, inj_take, inj_drop, inj_agg, inj_len, inj_one, List.length_map, none_nb, none_box, none_nt, none_tok, Int.natCast_zero, hlt, hneg, hg0, outV_n]
        refine acode_draw_chain te_ok mixed [] (by kernel_rfl) ?_
        simp only [aw0, aw1, aw2, aw3, aw4, aw5, aw6, aw7, ne_eq, eq_self, implies_true, imp_self, reduceIte, reduceCtorEq, Nat.reduceAdd, Nat.reduceLT, Nat.reduceLeDiff, Nat.reduceEqDiff, Nat.reduceSub, Nat.reduceMul, Nat.reduceBEq, Int.reduceBEq, Int.reduceBNe, Int.reduceLT, Int.reduceLE, Int.reduceGT, Int.reduceGE, Int.reduceNeg, Int.reduceEq, Int.reduceNe, Int.reduceToNat, Int.reduceAdd, aconv, acvB, capR, acmpnil, appBox, storeB, ares1, appendTo, afill, aeqL, teset, inj_take, inj_drop, inj_agg, inj_len, inj_one, List.length_map, none_nb, none_box, none_nt, none_tok, Int.natCast_zero, hlt, hneg, hg0, Nat.add_sub_cancel, takep, Nat.le_refl]
        refine skR_pure (ih zeroV x zero_ok (by omega)) ?_
        rw [hsp0]
        by_cases he : (putP p zeroV x).2 = 0
        · rw [putIn_res hle (by rw [hold]; exact he), hold, he]
          have hres : resV (emptyV 5) ⟨ix, key⟩ (putP p zeroV x).1 = refWith (emptyV 5) key (putP p zeroV x).1 := by
            rw [neg_res hneg' rfl, refWith_ok (empty_ok (.inr rfl)) rfl]; rfl
          rw [hres]
          generalize (putP p zeroV x).1 = y
          simp only [aw0, aw1, aw2, aw3, aw4, aw5, aw6, aw7, ne_eq, eq_self, implies_true, imp_self, reduceIte, reduceCtorEq, Nat.reduceAdd, Nat.reduceLT, Nat.reduceLeDiff, Nat.reduceEqDiff, Nat.reduceSub, Nat.reduceMul, Nat.reduceBEq, Int.reduceBEq, Int.reduceBNe, Int.reduceLT, Int.reduceLE, Int.reduceGT, Int.reduceGE, Int.reduceNeg, Int.reduceEq, Int.reduceNe, Int.reduceToNat, Int.reduceAdd, aconv, acvB, capR, acmpnil, appBox, storeB, ares1, appendTo, afill, aeqL, teset, inj_take, inj_drop, inj_agg, inj_len, inj_one, List.length_map, none_nb, none_box, none_nt, none_tok, Int.natCast_zero, hlt, hneg, bne_self_eq_false]
          refine ACallV.pureW (with_pure0 (emptyV 5) key y rfl (by decide)) (WkAll.cons wk_empty5 (.cons (.refl _) (.cons (.refl _) .nil))) ?_
          simp only [aw0, aw1, aw2, aw3, aw4, aw5, aw6, aw7, ne_eq, eq_self, implies_true, imp_self, reduceIte, reduceCtorEq, Nat.reduceAdd, Nat.reduceLT, Nat.reduceLeDiff, Nat.reduceEqDiff, Nat.reduceSub, Nat.reduceMul, Nat.reduceBEq, Int.reduceBEq, Int.reduceBNe, Int.reduceLT, Int.reduceLE, Int.reduceGT, Int.reduceGE, Int.reduceNeg, Int.reduceEq, Int.reduceNe, Int.reduceToNat, Int.reduceAdd, aconv, acvB, capR, acmpnil, appBox, storeB, ares1, appendTo, afill, aeqL, teset, inj_take, inj_drop, inj_agg, inj_len, inj_one, List.length_map, none_nb, none_box, none_nt, none_tok, Int.natCast_zero, hlt, hneg]
          exact ⟨_, rfl, .refl _ _⟩
        · rw [putIn_err hle (by rw [hold]; exact he), hold]
          generalize (putP p zeroV x).2 = e at he ⊢
          generalize (putP p zeroV x).1 = y
          have he2 : (e != 0) = true := by simpa using he
          simp only [aw0, aw1, aw2, aw3, aw4, aw5, aw6, aw7, ne_eq, eq_self, implies_true, imp_self, reduceIte, reduceCtorEq, Nat.reduceAdd, Nat.reduceLT, Nat.reduceLeDiff, Nat.reduceEqDiff, Nat.reduceSub, Nat.reduceMul, Nat.reduceBEq, Int.reduceBEq, Int.reduceBNe, Int.reduceLT, Int.reduceLE, Int.reduceGT, Int.reduceGE, Int.reduceNeg, Int.reduceEq, Int.reduceNe, Int.reduceToNat, Int.reduceAdd, aconv, acvB, capR, acmpnil, appBox, storeB, ares1, appendTo, afill, aeqL, teset, inj_take, inj_drop, inj_agg, inj_len, inj_one, List.length_map, none_nb, none_box, none_nt, none_tok, Int.natCast_zero, hlt, hneg, he2]
          refine ⟨_, rfl, ?_⟩
          exact .wk (WkAll.cons wk_zero (.cons (.refl _) .nil)).tup
      | true =>
        have hneg' : ¬ ix < 0 := by simp only [decide_eq_true_eq] at hneg; omega
        have hlt : decide (ix < 0) = false := by simpa using hneg'
        have hk4 : kindOf ⟨ix, key⟩ = 4 := if_neg hneg'
        have hsp0 : putP (⟨ix, key⟩ :: p) (.mk k n t xs ks) x = putIn (fun old => putP p old x) ⟨ix, key⟩ (emptyV 4) := by
          simp only [putP, V.kind, hk4]
          rw [if_pos hk0]
        rw [hsp0]
        simp only [aw0, aw1, aw2, aw3, aw4, aw5, aw6, aw7, ne_eq, eq_self, implies_true, imp_self, reduceIte, reduceCtorEq, Nat.reduceAdd, Nat.reduceLT, Nat.reduceLeDiff, Nat.reduceEqDiff, Nat.reduceSub, Nat.reduceMul, Nat.reduceBEq, Int.reduceBEq, Int.reduceBNe, Int.reduceLT, Int.reduceLE, Int.reduceGT, Int.reduceGE, Int.reduceNeg, Int.reduceEq, Int.reduceNe, Int.reduceToNat, Int.reduceAdd, aconv, acvB, capR, acmpnil, appBox, storeB, ares1, appendTo, afill, aeqL, teset, inj_take, inj_drop, inj_agg, inj_len, inj_one, List.length_map, none_nb, none_box, none_nt, none_tok, Int.natCast_zero, hlt, hneg]
        refine ACallV.det ⟨Tryz.f53, Tryz.func53, rfl, by kernel_rfl⟩ rfl (list_calls .full [] 0 _) ?_
        simp only [aw0, aw1, aw2, aw3, aw4, aw5, aw6, aw7, ne_eq, eq_self, implies_true, imp_self, reduceIte, reduceCtorEq, Nat.reduceAdd, Nat.reduceLT, Nat.reduceLeDiff, Nat.reduceEqDiff, Nat.reduceSub, Nat.reduceMul, Nat.reduceBEq, Int.reduceBEq, Int.reduceBNe, Int.reduceLT, Int.reduceLE, Int.reduceGT, Int.reduceGE, Int.reduceNeg, Int.reduceEq, Int.reduceNe, Int.reduceToNat, Int.reduceAdd, aconv, acvB, capR, acmpnil, appBox, storeB, ares1, appendTo, afill, aeqL, teset, inj_take, inj_drop, inj_agg, inj_len, inj_one, List.length_map, none_nb, none_box, none_nt, none_tok, Int.natCast_zero, hlt, hneg]
        cases hgt : decide (ix > 0) with
        | true =>
          simp only [decide_eq_true_eq] at hgt
          simp only [aw0, aw1, aw2, aw3, aw4, aw5, aw6, aw7, ne_eq, eq_self, implies_true, imp_self, reduceIte, reduceCtorEq, Nat.reduceAdd, Nat.reduceLT, Nat.reduceLeDiff, Nat.reduceEqDiff, Nat.reduceSub, Nat.reduceMul, Nat.reduceBEq, Int.reduceBEq, Int.reduceBNe, Int.reduceLT, Int.reduceLE, Int.reduceGT, Int.reduceGE, Int.reduceNeg, Int.reduceEq, Int.reduceNe, Int.reduceToNat, Int.reduceAdd, aconv, acvB, capR, acmpnil, appBox, storeB, ares1, appendTo, afill, aeqL, teset, inj_take, inj_drop, inj_agg, inj_len, inj_one, List.length_map, none_nb, none_box, none_nt, none_tok, Int.natCast_zero, hlt, hneg]
          refine ⟨_, rfl, ?_⟩
          rw [putIn_big (by show ((0 : Nat) : Int) < ix; omega)]
          exact .wk (WkAll.cons wk_zero (.cons (.refl _) .nil)).tup
        | false =>
          simp only [decide_eq_false_iff_not] at hgt
          have hx0 : ix = 0 := by omega
          subst hx0
          have hi : itemS (emptyV 4) ⟨0, key⟩ = none := empty_item _ _
          have hold : oldV (emptyV 4) ⟨0, key⟩ = zeroV := by rw [old_item (empty_ok (.inl rfl)), hi]; rfl
          have hle : (⟨0, key⟩ : Stp).index ≤ ((emptyV 4).items.length : Int) := Int.le_refl _
          have hpi := refitem_pure (empty_ok (.inl rfl)) ⟨0, key⟩
          rw [hi] at hpi
          simp only [aw0, aw1, aw2, aw3, aw4, aw5, aw6, aw7, ne_eq, eq_self, implies_true, imp_self, reduceIte, reduceCtorEq, Nat.reduceAdd, Nat.reduceLT, Nat.reduceLeDiff, Nat.reduceEqDiff, Nat.reduceSub, Nat.reduceMul, Nat.reduceBEq, Int.reduceBEq, Int.reduceBNe, Int.reduceLT, Int.reduceLE, Int.reduceGT, Int.reduceGE, Int.reduceNeg, Int.reduceEq, Int.reduceNe, Int.reduceToNat, Int.reduceAdd, aconv, acvB, capR, acmpnil, appBox, storeB, ares1, appendTo, afill, aeqL, teset, inj_take, inj_drop, inj_agg, inj_len, inj_one, List.length_map, none_nb, none_box, none_nt, none_tok, Int.natCast_zero, hlt, hneg]
          refine ACallV.pureW hpi (WkAll.cons wk_empty4 (.cons (.refl _) .nil)) ?_
          simp only [aw0, aw1, aw2, aw3, aw4, aw5, aw6, aw7, ne_eq, eq_self, implies_true, imp_self, reduceIte, reduceCtorEq, Nat.reduceAdd, Nat.reduceLT, Nat.reduceLeDiff, Nat.reduceEqDiff, Nat.reduceSub, Nat.reduceMul, Nat.reduceBEq, Int.reduceBEq, Int.reduceBNe, Int.reduceLT, Int.reduceLE, Int.reduceGT, Int.reduceGE, Int.reduceNeg, Int.reduceEq, Int.reduceNe, Int.reduceToNat, Int.reduceAdd, aconv, acvB, capR, acmpnil, appBox, storeB, ares1, appendTo, afill, aeqL, teset, inj_take, inj_drop, inj_agg, inj_len, inj_one, List.length_map, none_nb, none_box, none_nt, none_tok, Int.natCast_zero, hlt, hneg, outV_n]
          refine acode_draw_chain te_ok mixed [] (by kernel_rfl) ?_
          simp only [aw0, aw1, aw2, aw3, aw4, aw5, aw6, aw7, ne_eq, eq_self, implies_true, imp_self, reduceIte, reduceCtorEq, Nat.reduceAdd, Nat.reduceLT, Nat.reduceLeDiff, Nat.reduceEqDiff, Nat.reduceSub, Nat.reduceMul, Nat.reduceBEq, Int.reduceBEq, Int.reduceBNe, Int.reduceLT, Int.reduceLE, Int.reduceGT, Int.reduceGE, Int.reduceNeg, Int.reduceEq, Int.reduceNe, Int.reduceToNat, Int.reduceAdd, aconv, acvB, capR, acmpnil, appBox, storeB, ares1, appendTo, afill, aeqL, teset, inj_take, inj_drop, inj_agg, inj_len, inj_one, List.length_map, none_nb, none_box, none_nt, none_tok, Int.natCast_zero, hlt, hneg, Nat.add_sub_cancel, takep, Nat.le_refl]
          refine skR_pure (ih zeroV x zero_ok (by omega)) ?_
          by_cases he : (putP p zeroV x).2 = 0
          · rw [putIn_res hle (by rw [hold]; exact he), hold, he]
            have hres : resV (emptyV 4) ⟨0, key⟩ (putP p zeroV x).1 = .mk 4 0 ⟨#[]⟩ [(putP p zeroV x).1] [] := by
              rw [pos_res (Int.le_refl _) rfl]; rfl
            rw [hres]
            generalize (putP p zeroV x).1 = y
            have i0 : decide ((0 : Int) < 0) = false := rfl
            simp only [aw0, aw1, aw2, aw3, aw4, aw5, aw6, aw7, ne_eq, eq_self, implies_true, imp_self, reduceIte, reduceCtorEq, Nat.reduceAdd, Nat.reduceLT, Nat.reduceLeDiff, Nat.reduceEqDiff, Nat.reduceSub, Nat.reduceMul, Nat.reduceBEq, Int.reduceBEq, Int.reduceBNe, Int.reduceLT, Int.reduceLE, Int.reduceGT, Int.reduceGE, Int.reduceNeg, Int.reduceEq, Int.reduceNe, Int.reduceToNat, Int.reduceAdd, aconv, acvB, capR, acmpnil, appBox, storeB, ares1, appendTo, afill, aeqL, teset, inj_take, inj_drop, inj_agg, inj_len, inj_one, List.length_map, none_nb, none_box, none_nt, none_tok, Int.natCast_zero, hlt, hneg, bne_self_eq_false, i0, range0, range1, Nat.zero_le, Int.toNat_zero, Nat.le_refl]
            refine .inl ?_
            refine ACallV.det ⟨Tryz.f53, Tryz.func53, rfl, by kernel_rfl⟩ rfl (list_calls (.tok 0 0) [inj y] 5 _) ?_
            simp only [aw0, aw1, aw2, aw3, aw4, aw5, aw6, aw7, ne_eq, eq_self, implies_true, imp_self, reduceIte, reduceCtorEq, Nat.reduceAdd, Nat.reduceLT, Nat.reduceLeDiff, Nat.reduceEqDiff, Nat.reduceSub, Nat.reduceMul, Nat.reduceBEq, Int.reduceBEq, Int.reduceBNe, Int.reduceLT, Int.reduceLE, Int.reduceGT, Int.reduceGE, Int.reduceNeg, Int.reduceEq, Int.reduceNe, Int.reduceToNat, Int.reduceAdd, aconv, acvB, capR, acmpnil, appBox, storeB, ares1, appendTo, afill, aeqL, teset, inj_take, inj_drop, inj_agg, inj_len, inj_one, List.length_map, none_nb, none_box, none_nt, none_tok, Int.natCast_zero, hlt, hneg]
            exact ⟨_, rfl, .wk (WkAll.cons (wk_list [y] _) (.cons (.refl _) .nil)).tup⟩
          · rw [putIn_err hle (by rw [hold]; exact he), hold]
            generalize (putP p zeroV x).2 = e at he ⊢
            generalize (putP p zeroV x).1 = y
            have he2 : (e != 0) = true := by simpa using he
            simp only [aw0, aw1, aw2, aw3, aw4, aw5, aw6, aw7, ne_eq, eq_self, implies_true, imp_self, reduceIte, reduceCtorEq, Nat.reduceAdd, Nat.reduceLT, Nat.reduceLeDiff, Nat.reduceEqDiff, Nat.reduceSub, Nat.reduceMul, Nat.reduceBEq, Int.reduceBEq, Int.reduceBNe, Int.reduceLT, Int.reduceLE, Int.reduceGT, Int.reduceGE, Int.reduceNeg, Int.reduceEq, Int.reduceNe, Int.reduceToNat, Int.reduceAdd, aconv, acvB, capR, acmpnil, appBox, storeB, ares1, appendTo, afill, aeqL, teset, inj_take, inj_drop, inj_agg, inj_len, inj_one, List.length_map, none_nb, none_box, none_nt, none_tok, Int.natCast_zero, hlt, hneg, he2]
            refine ⟨_, rfl, ?_⟩
            exact .wk (WkAll.cons wk_zero (.cons (.refl _) .nil)).tup
    | false =>
      have hk0 : ¬ k = 0 := by simpa using h0
      have hgen : ∀ b : Bool, (decide (ix ≥ 0) && k != 4 || decide (ix < 0) && k != 5) = b → (b = true ↔ k ≠ kindOf ⟨ix, key⟩) := by
        intro b hb
        subst hb
        unfold kindOf
        by_cases h : ix < 0
        · have h2 : ¬ ix ≥ 0 := by omega
          simp [h, h2]
        · have h2 : ix ≥ 0 := by omega
          simp [h, h2]
      cases hb : (decide (ix ≥ 0) && k != 4 || decide (ix < 0) && k != 5) with
      | true =>
        have hne := (hgen _ hb).1 rfl
        simp only [aw0, aw1, aw2, aw3, aw4, aw5, aw6, aw7, ne_eq, eq_self, implies_true, imp_self, reduceIte, reduceCtorEq, Nat.reduceAdd, Nat.reduceLT, Nat.reduceLeDiff, Nat.reduceEqDiff, Nat.reduceSub, Nat.reduceMul, Nat.reduceBEq, Int.reduceBEq, Int.reduceBNe, Int.reduceLT, Int.reduceLE, Int.reduceGT, Int.reduceGE, Int.reduceNeg, Int.reduceEq, Int.reduceNe, Int.reduceToNat, Int.reduceAdd, aconv, acvB, capR, acmpnil, appBox, storeB, ares1, appendTo, afill, aeqL, teset, inj_take, inj_drop, inj_agg, inj_len, inj_one, List.length_map, none_nb, none_box, hb]
        refine ⟨_, rfl, ?_⟩
        have : putP (⟨ix, key⟩ :: p) (.mk k n t xs ks) x = (zeroV, 8) := by simp only [putP]; rw [if_neg (show ¬ (V.mk k n t xs ks).kind = 0 from hk0), if_pos (show (V.mk k n t xs ks).kind ≠ kindOf ⟨ix, key⟩ from hne)]
        rw [this]
        exact .wk (WkAll.cons wk_zero (.cons (.refl _) .nil)).tup
      | false =>
        have hk : k = kindOf ⟨ix, key⟩ := Decidable.byContradiction fun hne => by have := (hgen _ hb).2 hne; cases this
        have hsp0 : putP (⟨ix, key⟩ :: p) (.mk k n t xs ks) x = putIn (fun old => putP p old x) ⟨ix, key⟩ (.mk k n t xs ks) := by
          simp only [putP]
          rw [if_neg (show ¬ (V.mk k n t xs ks).kind = 0 from hk0), if_neg (show ¬ (V.mk k n t xs ks).kind ≠ kindOf ⟨ix, key⟩ from fun h => h hk)]
        rw [hsp0]
        have hx6 : xs.length < 1000000 := by have := hv.shape.2; simp only [V.items] at this; omega
        simp only [aw0, aw1, aw2, aw3, aw4, aw5, aw6, aw7, ne_eq, eq_self, implies_true, imp_self, reduceIte, reduceCtorEq, Nat.reduceAdd, Nat.reduceLT, Nat.reduceLeDiff, Nat.reduceEqDiff, Nat.reduceSub, Nat.reduceMul, Nat.reduceBEq, Int.reduceBEq, Int.reduceBNe, Int.reduceLT, Int.reduceLE, Int.reduceGT, Int.reduceGE, Int.reduceNeg, Int.reduceEq, Int.reduceNe, Int.reduceToNat, Int.reduceAdd, aconv, acvB, capR, acmpnil, appBox, storeB, ares1, appendTo, afill, aeqL, teset, inj_take, inj_drop, inj_agg, inj_len, inj_one, List.length_map, none_nb, none_box, hb]
        cases hgt : decide (ix > (xs.length : Int)) with
        | true =>
          simp only [decide_eq_true_eq] at hgt
          simp only [aw0, aw1, aw2, aw3, aw4, aw5, aw6, aw7, ne_eq, eq_self, implies_true, imp_self, reduceIte, reduceCtorEq, Nat.reduceAdd, Nat.reduceLT, Nat.reduceLeDiff, Nat.reduceEqDiff, Nat.reduceSub, Nat.reduceMul, Nat.reduceBEq, Int.reduceBEq, Int.reduceBNe, Int.reduceLT, Int.reduceLE, Int.reduceGT, Int.reduceGE, Int.reduceNeg, Int.reduceEq, Int.reduceNe, Int.reduceToNat, Int.reduceAdd, aconv, acvB, capR, acmpnil, appBox, storeB, ares1, appendTo, afill, aeqL, teset, inj_take, inj_drop, inj_agg, inj_len, inj_one, List.length_map, none_nb, none_box]
          refine ⟨_, rfl, ?_⟩
          rw [putIn_big (by show (xs.length : Int) < ix; omega)]
          exact .wk (WkAll.cons wk_zero (.cons (.refl _) .nil)).tup
        | false =>
          simp only [decide_eq_false_iff_not] at hgt
          have hle : (⟨ix, key⟩ : Stp).index ≤ ((V.mk k n t xs ks).items.length : Int) := by show ix ≤ (xs.length : Int); omega
          have hpi := refitem_pure hv ⟨ix, key⟩
          have hold : oldV (.mk k n t xs ks) ⟨ix, key⟩ = (itemS (.mk k n t xs ks) ⟨ix, key⟩).getD zeroV := old_item hv _
          have hvo := old_ok hv ⟨ix, key⟩
          rw [inj_mk] at hpi
          simp only [aw0, aw1, aw2, aw3, aw4, aw5, aw6, aw7, ne_eq, eq_self, implies_true, imp_self, reduceIte, reduceCtorEq, Nat.reduceAdd, Nat.reduceLT, Nat.reduceLeDiff, Nat.reduceEqDiff, Nat.reduceSub, Nat.reduceMul, Nat.reduceBEq, Int.reduceBEq, Int.reduceBNe, Int.reduceLT, Int.reduceLE, Int.reduceGT, Int.reduceGE, Int.reduceNeg, Int.reduceEq, Int.reduceNe, Int.reduceToNat, Int.reduceAdd, aconv, acvB, capR, acmpnil, appBox, storeB, ares1, appendTo, afill, aeqL, teset, inj_take, inj_drop, inj_agg, inj_len, inj_one, List.length_map, none_nb, none_box]
          refine ACallV.pure hpi ?_
          obtain ⟨ob, hob⟩ : ∃ ob, outV (itemS (.mk k n t xs ks) ⟨ix, key⟩) = .tup [inj (oldV (.mk k n t xs ks) ⟨ix, key⟩), .bool ob] := by
            rw [hold]
            cases itemS (.mk k n t xs ks) ⟨ix, key⟩ with
            | none => exact ⟨false, rfl⟩
            | some o => exact ⟨true, rfl⟩
          obtain ⟨o, ho⟩ : ∃ o, oldV (.mk k n t xs ks) ⟨ix, key⟩ = o := ⟨_, rfl⟩
          rw [ho] at hob hvo
          rw [hob]
          simp only [aw0, aw1, aw2, aw3, aw4, aw5, aw6, aw7, ne_eq, eq_self, implies_true, imp_self, reduceIte, reduceCtorEq, Nat.reduceAdd, Nat.reduceLT, Nat.reduceLeDiff, Nat.reduceEqDiff, Nat.reduceSub, Nat.reduceMul, Nat.reduceBEq, Int.reduceBEq, Int.reduceBNe, Int.reduceLT, Int.reduceLE, Int.reduceGT, Int.reduceGE, Int.reduceNeg, Int.reduceEq, Int.reduceNe, Int.reduceToNat, Int.reduceAdd, aconv, acvB, capR, acmpnil, appBox, storeB, ares1, appendTo, afill, aeqL, teset, inj_take, inj_drop, inj_agg, inj_len, inj_one, List.length_map, none_nb, none_box]
          refine acode_draw_chain te_ok mixed [] (by kernel_rfl) ?_
          simp only [aw0, aw1, aw2, aw3, aw4, aw5, aw6, aw7, ne_eq, eq_self, implies_true, imp_self, reduceIte, reduceCtorEq, Nat.reduceAdd, Nat.reduceLT, Nat.reduceLeDiff, Nat.reduceEqDiff, Nat.reduceSub, Nat.reduceMul, Nat.reduceBEq, Int.reduceBEq, Int.reduceBNe, Int.reduceLT, Int.reduceLE, Int.reduceGT, Int.reduceGE, Int.reduceNeg, Int.reduceEq, Int.reduceNe, Int.reduceToNat, Int.reduceAdd, aconv, acvB, capR, acmpnil, appBox, storeB, ares1, appendTo, afill, aeqL, teset, inj_take, inj_drop, inj_agg, inj_len, inj_one, List.length_map, none_nb, none_box, Nat.add_sub_cancel, takep, Nat.le_refl]
          refine skR_pure (ih o x hvo (by omega)) ?_
          by_cases he : (putP p o x).2 = 0
          · rw [putIn_res hle (by rw [ho]; exact he), ho, he]
            generalize (putP p o x).1 = y
            by_cases hneg : ix < 0
            · have hk5 : k = 5 := by rw [hk]; exact if_pos hneg
              have hlt : decide (ix < 0) = true := by simpa using hneg
              obtain ⟨q1, q2, q3, q4⟩ := shape5 hv hk5
              have hw := with_pure0 (.mk k n t xs ks) key y q3 (by rw [q3]; exact hx6)
              have hres : resV (.mk k n t xs ks) ⟨ix, key⟩ y = refWith (.mk k n t xs ks) key y := by rw [neg_res (v := .mk k n t xs ks) (s := ⟨ix, key⟩) hneg hk5, refWith_ok hv hk5]; rfl
              rw [inj_mk] at hw
              rw [hres]
              simp only [aw0, aw1, aw2, aw3, aw4, aw5, aw6, aw7, ne_eq, eq_self, implies_true, imp_self, reduceIte, reduceCtorEq, Nat.reduceAdd, Nat.reduceLT, Nat.reduceLeDiff, Nat.reduceEqDiff, Nat.reduceSub, Nat.reduceMul, Nat.reduceBEq, Int.reduceBEq, Int.reduceBNe, Int.reduceLT, Int.reduceLE, Int.reduceGT, Int.reduceGE, Int.reduceNeg, Int.reduceEq, Int.reduceNe, Int.reduceToNat, Int.reduceAdd, aconv, acvB, capR, acmpnil, appBox, storeB, ares1, appendTo, afill, aeqL, teset, inj_take, inj_drop, inj_agg, inj_len, inj_one, List.length_map, none_nb, none_box, none_nt, none_tok, bne_self_eq_false, hlt]
              refine ACallV.pure hw ?_
              simp only [aw0, aw1, aw2, aw3, aw4, aw5, aw6, aw7, ne_eq, eq_self, implies_true, imp_self, reduceIte, reduceCtorEq, Nat.reduceAdd, Nat.reduceLT, Nat.reduceLeDiff, Nat.reduceEqDiff, Nat.reduceSub, Nat.reduceMul, Nat.reduceBEq, Int.reduceBEq, Int.reduceBNe, Int.reduceLT, Int.reduceLE, Int.reduceGT, Int.reduceGE, Int.reduceNeg, Int.reduceEq, Int.reduceNe, Int.reduceToNat, Int.reduceAdd, aconv, acvB, capR, acmpnil, appBox, storeB, ares1, appendTo, afill, aeqL, teset, inj_take, inj_drop, inj_agg, inj_len, inj_one, List.length_map, none_nb, none_box, none_nt, none_tok]
              exact ⟨_, rfl, .refl _ _⟩
            · have hk4 : k = 4 := by rw [hk]; exact if_neg hneg
              have hlt : decide (ix < 0) = false := by simpa using hneg
              obtain ⟨m, rfl⟩ : ∃ m : Nat, ix = m := ⟨ix.toNat, by omega⟩
              obtain ⟨q1, q2, q3⟩ := shape4 hv hk4
              have hm : m ≤ xs.length := by omega
              have hres : resV (.mk k n t xs ks) ⟨m, key⟩ y = .mk 4 0 ⟨#[]⟩ (xs.take m ++ y :: xs.drop (m + 1)) [] := by
                rw [pos_res (v := .mk k n t xs ks) (s := ⟨m, key⟩) (Int.natCast_nonneg m) hk4]
                simp only [V.int, V.text, V.keys] at q1 q2 q3
                subst hk4 q1 q2 q3
                simp only [withV, V.kind, V.int, V.text, V.items, V.keys, Int.toNat_natCast]
                by_cases h : m + 1 ≤ xs.length
                · rw [Nat.min_eq_left h]
                · rw [Nat.min_eq_right (by omega), List.drop_eq_nil_of_le (Nat.le_refl _), List.drop_eq_nil_of_le (by omega)]
              rw [hres]
              have htk : List.take (m - 0) (xs.map inj) = (xs.take m).map inj := by rw [Nat.sub_zero, List.map_take]
              have hw1 : IntKind.i64.wrap ((m : Int) + 1) = ((m + 1 : Nat) : Int) := wrap_succ (mlt hm hx6)
              have htd : List.take (xs.length - (m + 1)) (List.drop (m + 1) (xs.map inj)) = (xs.drop (m + 1)).map inj := by rw [List.map_drop]; exact List.take_of_length_le (by simp)
              have hlen := td_len xs m
              cases hlt2 : decide ((m : Int) < (xs.length : Int)) with
              | false =>
                have hm1 : True := trivial
                have h2 : xs.drop (m + 1) = [] := nil_of (by simpa only [decide_eq_false_iff_not] using hlt2)
                cases h1 : xs.take m with
                | nil =>
                  rw [h1] at htk
                  simp only [aw0, aw1, aw2, aw3, aw4, aw5, aw6, aw7, ne_eq, eq_self, implies_true, imp_self, reduceIte, reduceCtorEq, Nat.reduceAdd, Nat.reduceLT, Nat.reduceLeDiff, Nat.reduceEqDiff, Nat.reduceSub, Nat.reduceMul, Nat.reduceBEq, Int.reduceBEq, Int.reduceBNe, Int.reduceLT, Int.reduceLE, Int.reduceGT, Int.reduceGE, Int.reduceNeg, Int.reduceEq, Int.reduceNe, Int.reduceToNat, Int.reduceAdd, aconv, acvB, capR, acmpnil, appBox, storeB, ares1, appendTo, afill, aeqL, teset, inj_take, inj_drop, inj_agg, inj_len, inj_one, List.length_map, none_nb, none_box, none_nt, none_tok, bne_self_eq_false, hlt, range0, range1, Nat.zero_le, Int.natCast_nonneg, Int.toNat_natCast, hm, htk, hlt2, hm1, hw1, htd, List.map_nil, List.map_cons, List.length_append, List.length_cons, List.length_nil, Nat.zero_add, List.cons_append, List.nil_append, Nat.le_refl, newTok_nt, newTok_tok, setTok_tok]
                  refine .inl ?_
                  refine ACallV.det ⟨Tryz.f53, Tryz.func53, rfl, by kernel_rfl⟩ rfl (list_calls _ _ _ _) ?_
                  simp only [aw0, aw1, aw2, aw3, aw4, aw5, aw6, aw7, ne_eq, eq_self, implies_true, imp_self, reduceIte, reduceCtorEq, Nat.reduceAdd, Nat.reduceLT, Nat.reduceLeDiff, Nat.reduceEqDiff, Nat.reduceSub, Nat.reduceMul, Nat.reduceBEq, Int.reduceBEq, Int.reduceBNe, Int.reduceLT, Int.reduceLE, Int.reduceGT, Int.reduceGE, Int.reduceNeg, Int.reduceEq, Int.reduceNe, Int.reduceToNat, Int.reduceAdd, aconv, acvB, capR, acmpnil, appBox, storeB, ares1, appendTo, afill, aeqL, teset, inj_take, inj_drop, inj_agg, inj_len, inj_one, List.length_map, none_nb, none_box, none_nt, none_tok]
                  refine ⟨_, rfl, To0.wk (WkAll.cons ?_ (.cons (.refl _) .nil)).tup⟩
                  have hw := fun tag => wk_list (xs.take m ++ y :: xs.drop (m + 1)) tag
                  simp only [h1, h2, List.map_append, List.map_cons, List.map_nil, List.nil_append, List.append_assoc, List.cons_append] at hw ⊢
                  exact hw _
                | cons a l =>
                  rw [h1] at htk hlen
                  simp only [List.length_cons] at hlen
                  obtain ⟨g1, g2, g3⟩ := b3 hlen hx6
                  simp only [aw0, aw1, aw2, aw3, aw4, aw5, aw6, aw7, ne_eq, eq_self, implies_true, imp_self, reduceIte, reduceCtorEq, Nat.reduceAdd, Nat.reduceLT, Nat.reduceLeDiff, Nat.reduceEqDiff, Nat.reduceSub, Nat.reduceMul, Nat.reduceBEq, Int.reduceBEq, Int.reduceBNe, Int.reduceLT, Int.reduceLE, Int.reduceGT, Int.reduceGE, Int.reduceNeg, Int.reduceEq, Int.reduceNe, Int.reduceToNat, Int.reduceAdd, aconv, acvB, capR, acmpnil, appBox, storeB, ares1, appendTo, afill, aeqL, teset, inj_take, inj_drop, inj_agg, inj_len, inj_one, List.length_map, none_nb, none_box, none_nt, none_tok, bne_self_eq_false, hlt, range0, range1, Nat.zero_le, Int.natCast_nonneg, Int.toNat_natCast, hm, htk, hlt2, hm1, hw1, htd, List.map_nil, List.map_cons, List.length_append, List.length_cons, List.length_nil, Nat.zero_add, List.cons_append, List.nil_append, Nat.le_refl, newTok_nt, newTok_tok, setTok_tok, g1, g2]
                  first | refine .inl ?_ | skip
                  refine ACallV.det ⟨Tryz.f53, Tryz.func53, rfl, by kernel_rfl⟩ rfl (list_calls _ _ _ _) ?_
                  simp only [aw0, aw1, aw2, aw3, aw4, aw5, aw6, aw7, ne_eq, eq_self, implies_true, imp_self, reduceIte, reduceCtorEq, Nat.reduceAdd, Nat.reduceLT, Nat.reduceLeDiff, Nat.reduceEqDiff, Nat.reduceSub, Nat.reduceMul, Nat.reduceBEq, Int.reduceBEq, Int.reduceBNe, Int.reduceLT, Int.reduceLE, Int.reduceGT, Int.reduceGE, Int.reduceNeg, Int.reduceEq, Int.reduceNe, Int.reduceToNat, Int.reduceAdd, aconv, acvB, capR, acmpnil, appBox, storeB, ares1, appendTo, afill, aeqL, teset, inj_take, inj_drop, inj_agg, inj_len, inj_one, List.length_map, none_nb, none_box, none_nt, none_tok]
                  refine ⟨_, rfl, To0.wk (WkAll.cons ?_ (.cons (.refl _) .nil)).tup⟩
                  have hw := fun tag => wk_list (xs.take m ++ y :: xs.drop (m + 1)) tag
                  simp only [h1, h2, List.map_append, List.map_cons, List.map_nil, List.nil_append, List.append_assoc, List.cons_append] at hw ⊢
                  exact hw _
              | true =>
                simp only [decide_eq_true_eq] at hlt2
                have hm1 : m + 1 ≤ xs.length := Int.ofNat_lt.1 hlt2
                cases h1 : xs.take m with
                | nil =>
                  rw [h1] at htk hlen
                  cases h2 : xs.drop (m + 1) with
                  | nil =>
                    rw [h2] at htd
                    simp only [aw0, aw1, aw2, aw3, aw4, aw5, aw6, aw7, ne_eq, eq_self, implies_true, imp_self, reduceIte, reduceCtorEq, Nat.reduceAdd, Nat.reduceLT, Nat.reduceLeDiff, Nat.reduceEqDiff, Nat.reduceSub, Nat.reduceMul, Nat.reduceBEq, Int.reduceBEq, Int.reduceBNe, Int.reduceLT, Int.reduceLE, Int.reduceGT, Int.reduceGE, Int.reduceNeg, Int.reduceEq, Int.reduceNe, Int.reduceToNat, Int.reduceAdd, aconv, acvB, capR, acmpnil, appBox, storeB, ares1, appendTo, afill, aeqL, teset, inj_take, inj_drop, inj_agg, inj_len, inj_one, List.length_map, none_nb, none_box, none_nt, none_tok, bne_self_eq_false, hlt, range0, range1, Nat.zero_le, Int.natCast_nonneg, Int.toNat_natCast, hm, htk, hlt2, hm1, hw1, htd, List.map_nil, List.map_cons, List.length_append, List.length_cons, List.length_nil, Nat.zero_add, List.cons_append, List.nil_append, Nat.le_refl, newTok_nt, newTok_tok, setTok_tok]
                    first | refine .inl ?_ | skip
                    refine ACallV.det ⟨Tryz.f53, Tryz.func53, rfl, by kernel_rfl⟩ rfl (list_calls _ _ _ _) ?_
                    simp only [aw0, aw1, aw2, aw3, aw4, aw5, aw6, aw7, ne_eq, eq_self, implies_true, imp_self, reduceIte, reduceCtorEq, Nat.reduceAdd, Nat.reduceLT, Nat.reduceLeDiff, Nat.reduceEqDiff, Nat.reduceSub, Nat.reduceMul, Nat.reduceBEq, Int.reduceBEq, Int.reduceBNe, Int.reduceLT, Int.reduceLE, Int.reduceGT, Int.reduceGE, Int.reduceNeg, Int.reduceEq, Int.reduceNe, Int.reduceToNat, Int.reduceAdd, aconv, acvB, capR, acmpnil, appBox, storeB, ares1, appendTo, afill, aeqL, teset, inj_take, inj_drop, inj_agg, inj_len, inj_one, List.length_map, none_nb, none_box, none_nt, none_tok]
                    refine ⟨_, rfl, To0.wk (WkAll.cons ?_ (.cons (.refl _) .nil)).tup⟩
                    have hw := fun tag => wk_list (xs.take m ++ y :: xs.drop (m + 1)) tag
                    simp only [h1, h2, List.map_append, List.map_cons, List.map_nil, List.nil_append, List.append_assoc, List.cons_append] at hw ⊢
                    exact hw _
                  | cons b l2 =>
                    rw [h2] at htd hlen
                    simp only [List.length_cons, List.length_nil] at hlen
                    have g3 : (1 + (l2.length + 1)) * 80 ≤ 140737488355328 := by have := (b3 hlen hx6).2.2; rwa [Nat.zero_add] at this
                    simp only [aw0, aw1, aw2, aw3, aw4, aw5, aw6, aw7, ne_eq, eq_self, implies_true, imp_self, reduceIte, reduceCtorEq, Nat.reduceAdd, Nat.reduceLT, Nat.reduceLeDiff, Nat.reduceEqDiff, Nat.reduceSub, Nat.reduceMul, Nat.reduceBEq, Int.reduceBEq, Int.reduceBNe, Int.reduceLT, Int.reduceLE, Int.reduceGT, Int.reduceGE, Int.reduceNeg, Int.reduceEq, Int.reduceNe, Int.reduceToNat, Int.reduceAdd, aconv, acvB, capR, acmpnil, appBox, storeB, ares1, appendTo, afill, aeqL, teset, inj_take, inj_drop, inj_agg, inj_len, inj_one, List.length_map, none_nb, none_box, none_nt, none_tok, bne_self_eq_false, hlt, range0, range1, Nat.zero_le, Int.natCast_nonneg, Int.toNat_natCast, hm, htk, hlt2, hm1, hw1, htd, List.map_nil, List.map_cons, List.length_append, List.length_cons, List.length_nil, Nat.zero_add, List.cons_append, List.nil_append, Nat.le_refl, newTok_nt, newTok_tok, setTok_tok, g3]
                    first | refine .inl ?_ | skip
                    refine ACallV.det ⟨Tryz.f53, Tryz.func53, rfl, by kernel_rfl⟩ rfl (list_calls _ _ _ _) ?_
                    simp only [aw0, aw1, aw2, aw3, aw4, aw5, aw6, aw7, ne_eq, eq_self, implies_true, imp_self, reduceIte, reduceCtorEq, Nat.reduceAdd, Nat.reduceLT, Nat.reduceLeDiff, Nat.reduceEqDiff, Nat.reduceSub, Nat.reduceMul, Nat.reduceBEq, Int.reduceBEq, Int.reduceBNe, Int.reduceLT, Int.reduceLE, Int.reduceGT, Int.reduceGE, Int.reduceNeg, Int.reduceEq, Int.reduceNe, Int.reduceToNat, Int.reduceAdd, aconv, acvB, capR, acmpnil, appBox, storeB, ares1, appendTo, afill, aeqL, teset, inj_take, inj_drop, inj_agg, inj_len, inj_one, List.length_map, none_nb, none_box, none_nt, none_tok]
                    refine ⟨_, rfl, To0.wk (WkAll.cons ?_ (.cons (.refl _) .nil)).tup⟩
                    have hw := fun tag => wk_list (xs.take m ++ y :: xs.drop (m + 1)) tag
                    simp only [h1, h2, List.map_append, List.map_cons, List.map_nil, List.nil_append, List.append_assoc, List.cons_append] at hw ⊢
                    exact hw _
                | cons a l =>
                  rw [h1] at htk hlen
                  cases h2 : xs.drop (m + 1) with
                  | nil =>
                    rw [h2] at htd hlen
                    simp only [List.length_cons, List.length_nil] at hlen
                    obtain ⟨g1, g2, g3⟩ := b3 hlen hx6
                    simp only [aw0, aw1, aw2, aw3, aw4, aw5, aw6, aw7, ne_eq, eq_self, implies_true, imp_self, reduceIte, reduceCtorEq, Nat.reduceAdd, Nat.reduceLT, Nat.reduceLeDiff, Nat.reduceEqDiff, Nat.reduceSub, Nat.reduceMul, Nat.reduceBEq, Int.reduceBEq, Int.reduceBNe, Int.reduceLT, Int.reduceLE, Int.reduceGT, Int.reduceGE, Int.reduceNeg, Int.reduceEq, Int.reduceNe, Int.reduceToNat, Int.reduceAdd, aconv, acvB, capR, acmpnil, appBox, storeB, ares1, appendTo, afill, aeqL, teset, inj_take, inj_drop, inj_agg, inj_len, inj_one, List.length_map, none_nb, none_box, none_nt, none_tok, bne_self_eq_false, hlt, range0, range1, Nat.zero_le, Int.natCast_nonneg, Int.toNat_natCast, hm, htk, hlt2, hm1, hw1, htd, List.map_nil, List.map_cons, List.length_append, List.length_cons, List.length_nil, Nat.zero_add, List.cons_append, List.nil_append, Nat.le_refl, newTok_nt, newTok_tok, setTok_tok, g1, g2]
                    first | refine .inl ?_ | skip
                    refine ACallV.det ⟨Tryz.f53, Tryz.func53, rfl, by kernel_rfl⟩ rfl (list_calls _ _ _ _) ?_
                    simp only [aw0, aw1, aw2, aw3, aw4, aw5, aw6, aw7, ne_eq, eq_self, implies_true, imp_self, reduceIte, reduceCtorEq, Nat.reduceAdd, Nat.reduceLT, Nat.reduceLeDiff, Nat.reduceEqDiff, Nat.reduceSub, Nat.reduceMul, Nat.reduceBEq, Int.reduceBEq, Int.reduceBNe, Int.reduceLT, Int.reduceLE, Int.reduceGT, Int.reduceGE, Int.reduceNeg, Int.reduceEq, Int.reduceNe, Int.reduceToNat, Int.reduceAdd, aconv, acvB, capR, acmpnil, appBox, storeB, ares1, appendTo, afill, aeqL, teset, inj_take, inj_drop, inj_agg, inj_len, inj_one, List.length_map, none_nb, none_box, none_nt, none_tok]
                    refine ⟨_, rfl, To0.wk (WkAll.cons ?_ (.cons (.refl _) .nil)).tup⟩
                    have hw := fun tag => wk_list (xs.take m ++ y :: xs.drop (m + 1)) tag
                    simp only [h1, h2, List.map_append, List.map_cons, List.map_nil, List.nil_append, List.append_assoc, List.cons_append] at hw ⊢
                    exact hw _
                  | cons b l2 =>
                    rw [h2] at htd hlen
                    simp only [List.length_cons, List.length_nil] at hlen
                    obtain ⟨g1, g2, g3⟩ := b3 hlen hx6
                    simp only [aw0, aw1, aw2, aw3, aw4, aw5, aw6, aw7, ne_eq, eq_self, implies_true, imp_self, reduceIte, reduceCtorEq, Nat.reduceAdd, Nat.reduceLT, Nat.reduceLeDiff, Nat.reduceEqDiff, Nat.reduceSub, Nat.reduceMul, Nat.reduceBEq, Int.reduceBEq, Int.reduceBNe, Int.reduceLT, Int.reduceLE, Int.reduceGT, Int.reduceGE, Int.reduceNeg, Int.reduceEq, Int.reduceNe, Int.reduceToNat, Int.reduceAdd, aconv, acvB, capR, acmpnil, appBox, storeB, ares1, appendTo, afill, aeqL, teset, inj_take, inj_drop, inj_agg, inj_len, inj_one, List.length_map, none_nb, none_box, none_nt, none_tok, bne_self_eq_false, hlt, range0, range1, Nat.zero_le, Int.natCast_nonneg, Int.toNat_natCast, hm, htk, hlt2, hm1, hw1, htd, List.map_nil, List.map_cons, List.length_append, List.length_cons, List.length_nil, Nat.zero_add, List.cons_append, List.nil_append, Nat.le_refl, newTok_nt, newTok_tok, setTok_tok, g1, g2, g3]
                    first | refine .inl ?_ | skip
                    refine ACallV.det ⟨Tryz.f53, Tryz.func53, rfl, by kernel_rfl⟩ rfl (list_calls _ _ _ _) ?_
                    simp only [aw0, aw1, aw2, aw3, aw4, aw5, aw6, aw7, ne_eq, eq_self, implies_true, imp_self, reduceIte, reduceCtorEq, Nat.reduceAdd, Nat.reduceLT, Nat.reduceLeDiff, Nat.reduceEqDiff, Nat.reduceSub, Nat.reduceMul, Nat.reduceBEq, Int.reduceBEq, Int.reduceBNe, Int.reduceLT, Int.reduceLE, Int.reduceGT, Int.reduceGE, Int.reduceNeg, Int.reduceEq, Int.reduceNe, Int.reduceToNat, Int.reduceAdd, aconv, acvB, capR, acmpnil, appBox, storeB, ares1, appendTo, afill, aeqL, teset, inj_take, inj_drop, inj_agg, inj_len, inj_one, List.length_map, none_nb, none_box, none_nt, none_tok]
                    refine ⟨_, rfl, To0.wk (WkAll.cons ?_ (.cons (.refl _) .nil)).tup⟩
                    have hw := fun tag => wk_list (xs.take m ++ y :: xs.drop (m + 1)) tag
                    simp only [h1, h2, List.map_append, List.map_cons, List.map_nil, List.nil_append, List.append_assoc, List.cons_append] at hw ⊢
                    exact hw _
          · rw [putIn_err hle (by rw [ho]; exact he), ho]
            generalize (putP p o x).2 = e at he ⊢
            generalize (putP p o x).1 = y
            have he2 : (e != 0) = true := by simpa using he
            simp only [aw0, aw1, aw2, aw3, aw4, aw5, aw6, aw7, ne_eq, eq_self, implies_true, imp_self, reduceIte, reduceCtorEq, Nat.reduceAdd, Nat.reduceLT, Nat.reduceLeDiff, Nat.reduceEqDiff, Nat.reduceSub, Nat.reduceMul, Nat.reduceBEq, Int.reduceBEq, Int.reduceBNe, Int.reduceLT, Int.reduceLE, Int.reduceGT, Int.reduceGE, Int.reduceNeg, Int.reduceEq, Int.reduceNe, Int.reduceToNat, Int.reduceAdd, aconv, acvB, capR, acmpnil, appBox, storeB, ares1, appendTo, afill, aeqL, teset, inj_take, inj_drop, inj_agg, inj_len, inj_one, List.length_map, none_nb, none_box, none_nt, none_tok, he2]
            refine ⟨_, rfl, ?_⟩
            exact .wk (WkAll.cons wk_zero (.cons (.refl _) .nil)).tup
end Go.Proofs.YtjdocenbfghglaaGreatDoor.AW
end
section
set_option linter.unusedSimpArgs false
set_option linter.unusedVariables false
namespace Go.Proofs.YtjdocenbfghglaaGreatDoor.AW
open Go Go.RowKit

theorem take_succ_get {α : Type} (xs : List α) {j : Nat} (h : j < xs.length) : xs.take (j + 1) = xs.take j ++ [xs[j]] := by rw [List.take_succ_eq_append_getElem h]
theorem take_step {α : Type} (xs : List α) {j : Nat} (h : j < xs.length) : xs.take (j + 1) = xs.take j ++ [xs[j]] := take_succ_get xs h
theorem erase_hit {α : Type} (xs : List α) {i j : Nat} (h : j < xs.length) (e : j = i) : (xs.take (j + 1)).eraseIdx i = (xs.take j).eraseIdx i := by
  subst e
  have hl : (xs.take j).length = j := by simp; omega
  rw [take_succ_get xs h, List.eraseIdx_append_of_length_le (by omega), hl, Nat.sub_self, List.eraseIdx_cons_zero, List.append_nil, List.eraseIdx_of_length_le (by omega)]
theorem erase_non {α : Type} (xs : List α) {i j : Nat} (h : j < xs.length) (e : j ≠ i) : (xs.take (j + 1)).eraseIdx i = (xs.take j).eraseIdx i ++ [xs[j]] := by
  have hl : (xs.take j).length = j := by simp; omega
  rw [take_succ_get xs h]
  by_cases h1 : i < j
  · rw [List.eraseIdx_append_of_lt_length (by omega)]
  · rw [List.eraseIdx_append_of_length_le (by omega), hl, List.eraseIdx_of_length_le (l := [xs[j]]) (by simp; omega), List.eraseIdx_of_length_le (by omega)]
theorem set_hit {α : Type} (xs : List α) (y : α) {i j : Nat} (h : j < xs.length) (e : j = i) : (xs.take (j + 1)).set i y = (xs.take j).set i y ++ [y] := by
  subst e
  have hl : (xs.take j).length = j := by simp; omega
  rw [take_succ_get xs h, List.set_append_right _ _ (by omega), hl, Nat.sub_self, List.set_cons_zero, List.set_eq_of_length_le (by omega)]
theorem set_non {α : Type} (xs : List α) (y : α) {i j : Nat} (h : j < xs.length) (e : j ≠ i) : (xs.take (j + 1)).set i y = (xs.take j).set i y ++ [xs[j]] := by
  have hl : (xs.take j).length = j := by simp; omega
  rw [take_succ_get xs h]
  by_cases h1 : i < j
  · rw [List.set_append_left _ _ (by omega)]
  · rw [List.set_append_right _ _ (by omega), hl, List.set_eq_of_length_le (l := [xs[j]]) (by simp; omega), List.set_eq_of_length_le (l := xs.take j) (by omega)]
theorem set_len {α : Type} (xs : List α) (i : Nat) (y : α) (j : Nat) : ((xs.take j).set i y).length ≤ j + 1 := by simp; omega
theorem erase_len {α : Type} (xs : List α) (i j : Nat) : ((xs.take j).eraseIdx i).length ≤ j + 1 := by
  have := List.length_eraseIdx_le (xs.take j) i
  have h2 : (xs.take j).length ≤ j := by simp; omega
  omega
theorem take_len1 {α : Type} (xs : List α) (j : Nat) : (xs.take j).length ≤ j + 1 := by simp; omega
theorem ne_int {a b : Nat} (h : a ≠ b) : ((a : Int) == (b : Int)) = false := by rw [beq_eq_false_iff_ne]; omega
theorem nneg (m : Nat) : decide (((m : Nat) : Int) < 0) = false := by simp
theorem neg_ne {ix : Int} (h : ix < 0) (j : Nat) : (ix == ((j : Nat) : Int)) = false := by rw [beq_eq_false_iff_ne]; omega
theorem len_ne1 {a : Nat} (h : 0 < a) : (((a + 1 : Nat) : Int) == 1) = false := by rw [beq_eq_false_iff_ne]; omega
theorem key_at {ks : List ByteArray} {key : ByteArray} {i j : Nat} (h : ks[i]? = some key) (hj : j < ks.length) (e : j = i) : ks[j] = key := by
  subst e
  rw [List.getElem?_eq_getElem hj] at h
  injection h
theorem el_at {xs : List V} {o : V} {i j : Nat} (h : xs[i]? = some o) (hj : j < xs.length) (e : j = i) : xs[j] = o := by
  subst e
  rw [List.getElem?_eq_getElem hj] at h
  injection h
theorem asc_inj {ks : List ByteArray} {k : ByteArray} (ha : Asc ks) {a b : Nat} (h1 : ks[a]? = some k) (h2 : ks[b]? = some k) : a = b := by
  rcases Nat.lt_trichotomy a b with h | h | h
  · exact absurd rfl (sless_ne (Asc.lt ha (b - a - 1) a k k h1 (by rw [show a + (b - a - 1) + 1 = b by omega]; exact h2)))
  · exact h
  · exact absurd rfl (sless_ne (Asc.lt ha (a - b - 1) b k k h2 (by rw [show b + (a - b - 1) + 1 = a by omega]; exact h1)))
set_option maxHeartbeats 40000000 in
theorem refwo_s4 (xs : List V) (ks : List ByteArray) (key : ByteArray) (i : Nat) (hi : i < xs.length) (hx6 : xs.length < 1000000) (m : Nat) (him : m = i) (hks : ks = []) : Pure Tryz.prog 48 [.agg [.int .i64 4, .int .i64 0, .str ⟨#[]⟩, .sl .ro 5 (xs.map inj), .sl .ro 1 (ks.map .str)], .sl .ro 2 [.agg [.int .i64 ((m : Nat) : Int), .str key]]] (inj (.mk 4 0 ⟨#[]⟩ (xs.eraseIdx i) ([]))) := by
  refine Pure.of0 ⟨Tryz.f48, Tryz.func48, rfl, by kernel_rfl⟩ (by
    have h1 := injs_under xs
    have h2 := strs_under ks

    simp [AV.underL, AV.under, h1, h2]) (inj_under _) ?_



  have hk5 : True := trivial
  have hk4 : True := trivial
  refine acalls_of te_ok [] Tryz.func48 (c := _) rfl (Nat.le_of_ble_eq_true rfl) ?_
  simp only [aw0, aw1, aw2, aw3, aw4, aw5, aw6, aw7, ne_eq, eq_self, implies_true, imp_self, reduceIte, reduceCtorEq, Nat.reduceAdd, Nat.reduceLT, Nat.reduceLeDiff, Nat.reduceEqDiff, Nat.reduceSub, Nat.reduceMul, Nat.reduceBEq, Int.reduceBEq, Int.reduceBNe, Int.reduceLT, Int.reduceLE, Int.reduceGT, Int.reduceGE, Int.reduceNeg, Int.reduceEq, Int.reduceNe, Int.reduceToNat, Int.reduceAdd, aconv, acvB, capR, acmpnil, appBox, storeB, ares1, appendTo, afill, aeqL, teset, Tryz.ntmps48, Tryz.results48, inj_take, inj_drop, inj_agg, inj_len, inj_one, List.length_map, boxR, none_nb, none_box]
  refine ⟨fun n' s' h' => ∃ (j : Nat) (ok : List ByteArray) (ox : List V) (aK aX : AV), s' 1 = .sl .ro 2 [.agg [.int .i64 ((m : Nat) : Int), .str key]] ∧ s' 2 = .ptr 0 0 ∧ s' 4 = .ptr 1 0 ∧ s' 5 = .ptr 2 0 ∧ s' 6 = .int .i64 j ∧ n' + j = xs.length ∧ 3 ≤ h'.nb ∧
    h'.box 0 = some [.int .i64 4, .int .i64 0, .str ⟨#[]⟩, .sl .ro 5 (xs.map inj), .sl .ro 1 (ks.map .str)] ∧ h'.box 1 = some [.int .i64 0, .int .i64 0, .str ⟨#[]⟩, .sl .full 0 [], .sl .full 0 []] ∧ h'.box 2 = some [.int .i64 4, .int .i64 0, .str ⟨#[]⟩, aX, aK] ∧
    ((ox = [] ∧ ok = [] ∧ aX = .sl .full 0 [] ∧ aK = .sl .full 0 [] ∧ h'.nt = 0) ∨ (∃ g g' : Nat, aX = .sl (.tok 0 g) 5 (ox.map inj) ∧ h'.tok 0 = some g ∧ aK = .sl .full 0 [] ∧ h'.nt = 1 ∧ ok = [] ∧ g' = g')) ∧ ox = (xs.take j).eraseIdx i ∧ ok = [], ⟨xs.length, 0, [], [], .sl .full 0 [], .sl .full 0 [], ?_⟩, ?_⟩
  · simp only [aw0, aw1, aw2, aw3, aw4, aw5, aw6, aw7, ne_eq, eq_self, implies_true, imp_self, reduceIte, reduceCtorEq, Nat.reduceAdd, Nat.reduceLT, Nat.reduceLeDiff, Nat.reduceEqDiff, Nat.reduceSub, Nat.reduceMul, Nat.reduceBEq, Int.reduceBEq, Int.reduceBNe, Int.reduceLT, Int.reduceLE, Int.reduceGT, Int.reduceGE, Int.reduceNeg, Int.reduceEq, Int.reduceNe, Int.reduceToNat, Int.reduceAdd, aconv, acvB, capR, acmpnil, appBox, storeB, ares1, appendTo, afill, aeqL, teset, Int.natCast_zero, none_nb, none_box, none_nt, List.take_zero, List.eraseIdx_nil, List.set_nil, Nat.le_refl]
  · rintro n' s' h' ⟨j, ok, ox, aK, aX, e1, e2, e4, e5, e6, hn', hnb, b0, b1, b2, hown, hoxe, hoke⟩
    have hjm : j < 1000000 := jlt hn' hx6
    have ne0 : (0 = h'.nb) = False := eq_false (by omega)
    have ne1 : (1 = h'.nb) = False := eq_false (by omega)
    have ne2 : (2 = h'.nb) = False := eq_false (by omega)
    have ne0' : (h'.nb = 0) = False := eq_false (by omega)
    have ne1' : (h'.nb = 1) = False := eq_false (by omega)
    have ne2' : (h'.nb = 2) = False := eq_false (by omega)
    have hbX : (ox.length + 1) * 80 ≤ 140737488355328 := b80 (by rw [hoxe]; exact erase_len xs i j) hjm
    have hbK : True := trivial
    have hb1 : (0 + 1) * 16 ≤ 140737488355328 := by decide
    have hb3 : (0 + 1) * 80 ≤ 140737488355328 := by decide
    rcases hown with ⟨hox, hok, rfl, rfl, hnt⟩ | ⟨g, g', rfl, hk0, rfl, hnt, hok, _⟩
    · have hk0 : True := trivial
      have hk1 : True := trivial
      simp only [aw0, aw1, aw2, aw3, aw4, aw5, aw6, aw7, ne_eq, eq_self, implies_true, imp_self, reduceIte, reduceCtorEq, Nat.reduceAdd, Nat.reduceLT, Nat.reduceLeDiff, Nat.reduceEqDiff, Nat.reduceSub, Nat.reduceMul, Nat.reduceBEq, Int.reduceBEq, Int.reduceBNe, Int.reduceLT, Int.reduceLE, Int.reduceGT, Int.reduceGE, Int.reduceNeg, Int.reduceEq, Int.reduceNe, Int.reduceToNat, Int.reduceAdd, aconv, acvB, capR, acmpnil, appBox, storeB, ares1, appendTo, afill, aeqL, teset, e1, e2, e4, e5, e6, b0, b1, b2, inj_take, inj_drop, inj_agg, inj_len, inj_one, List.length_map, Int.natCast_one, range1, inj_len, inj_one, ne0, ne1, ne2, ne0', ne1', ne2', newTok_boxf, setTok_boxf, skR_app1, boxEq_none, List.length_append, List.length_cons, List.length_nil, List.length_map, Nat.zero_add, List.map_cons, injS, List.map_nil]
      cases hc : decide ((j : Int) < (xs.length : Int)) with
      | false =>
        have hjl : xs.length ≤ j := nlt (by simpa only [decide_eq_false_iff_not] using hc)
        have htx : xs.take j = xs := List.take_of_length_le hjl
      
        rw [htx] at hoxe
      
        simp only [aw0, aw1, aw2, aw3, aw4, aw5, aw6, aw7, ne_eq, eq_self, implies_true, imp_self, reduceIte, reduceCtorEq, Nat.reduceAdd, Nat.reduceLT, Nat.reduceLeDiff, Nat.reduceEqDiff, Nat.reduceSub, Nat.reduceMul, Nat.reduceBEq, Int.reduceBEq, Int.reduceBNe, Int.reduceLT, Int.reduceLE, Int.reduceGT, Int.reduceGE, Int.reduceNeg, Int.reduceEq, Int.reduceNe, Int.reduceToNat, Int.reduceAdd, aconv, acvB, capR, acmpnil, appBox, storeB, ares1, appendTo, afill, aeqL, teset, e1, e2, e4, e5, e6, b0, b1, b2, inj_take, inj_drop, inj_agg, inj_len, inj_one, List.length_map, Int.natCast_one, range1, inj_len, inj_one, ne0, ne1, ne2, ne0', ne1', ne2', newTok_boxf, setTok_boxf, skR_app1, boxEq_none, List.length_append, List.length_cons, List.length_nil, List.length_map, Nat.zero_add, List.map_cons, injS, List.map_nil]
        rw [← hoxe, inj_mk]
        refine ⟨_, rfl, To0.wk (WkAll.cons (.refl _) (.cons (.refl _) (.cons (.refl _) (.cons ?_ (.cons ?_ .nil))))).agg⟩
        · rw [hox]; exact wk_nil5
        · exact wk_nil1
      | true =>
        simp only [decide_eq_true_eq] at hc
        have hj : j < xs.length := Int.ofNat_lt.1 hc
      
        have hgx : (xs.map inj)[((j : Nat) : Int).toNat]? = some (inj xs[j]) := by rw [Int.toNat_natCast, List.getElem?_map, List.getElem?_eq_getElem hj]; rfl
      
        simp only [aw0, aw1, aw2, aw3, aw4, aw5, aw6, aw7, ne_eq, eq_self, implies_true, imp_self, reduceIte, reduceCtorEq, Nat.reduceAdd, Nat.reduceLT, Nat.reduceLeDiff, Nat.reduceEqDiff, Nat.reduceSub, Nat.reduceMul, Nat.reduceBEq, Int.reduceBEq, Int.reduceBNe, Int.reduceLT, Int.reduceLE, Int.reduceGT, Int.reduceGE, Int.reduceNeg, Int.reduceEq, Int.reduceNe, Int.reduceToNat, Int.reduceAdd, aconv, acvB, capR, acmpnil, appBox, storeB, ares1, appendTo, afill, aeqL, teset, e1, e2, e4, e5, e6, b0, b1, b2, inj_take, inj_drop, inj_agg, inj_len, inj_one, List.length_map, Int.natCast_one, range1, inj_len, inj_one, ne0, ne1, ne2, ne0', ne1', ne2', newTok_boxf, setTok_boxf, skR_app1, boxEq_none, List.length_append, List.length_cons, List.length_nil, List.length_map, Nat.zero_add, List.map_cons, injS, List.map_nil, hgx, Int.natCast_nonneg]
        refine acode_draw_chain te_ok mixed [] (by kernel_rfl) ?_
        by_cases hji : j = i
        · have hq : (((m : Nat) : Int) == ((j : Nat) : Int)) = true := by rw [him, hji]; exact beq_self_eq_true _
          simp only [aw0, aw1, aw2, aw3, aw4, aw5, aw6, aw7, ne_eq, eq_self, implies_true, imp_self, reduceIte, reduceCtorEq, Nat.reduceAdd, Nat.reduceLT, Nat.reduceLeDiff, Nat.reduceEqDiff, Nat.reduceSub, Nat.reduceMul, Nat.reduceBEq, Int.reduceBEq, Int.reduceBNe, Int.reduceLT, Int.reduceLE, Int.reduceGT, Int.reduceGE, Int.reduceNeg, Int.reduceEq, Int.reduceNe, Int.reduceToNat, Int.reduceAdd, aconv, acvB, capR, acmpnil, appBox, storeB, ares1, appendTo, afill, aeqL, teset, e1, e2, e4, e5, e6, b0, b1, b2, inj_take, inj_drop, inj_agg, inj_len, inj_one, List.length_map, Int.natCast_one, range1, inj_len, inj_one, ne0, ne1, ne2, ne0', ne1', ne2', newTok_boxf, setTok_boxf, skR_app1, boxEq_none, List.length_append, List.length_cons, List.length_nil, List.length_map, Nat.zero_add, List.map_cons, injS, List.map_nil, hnt, hk0, hk1, hbX, hbK, hb1, hb3, hgx, Int.natCast_nonneg, hk4, hq]
          refine ⟨n' - 1, nlt1 hn' hj, j + 1, ok, ox, _, _, by rw [wrap_succ (jwrap hjm)], nadd hn' hj, Nat.le_trans (by decide) hnb, rfl, .inl ⟨hox, hok, rfl, rfl⟩, by rw [hoxe]; exact (erase_hit xs hj hji).symm, hok⟩
      
        · have hq : (((m : Nat) : Int) == ((j : Nat) : Int)) = false := ne_int (by rw [him]; exact fun h => hji h.symm)
          have hq2 : decide (((m : Nat) : Int) < 0) = false := nneg m
          simp only [aw0, aw1, aw2, aw3, aw4, aw5, aw6, aw7, ne_eq, eq_self, implies_true, imp_self, reduceIte, reduceCtorEq, Nat.reduceAdd, Nat.reduceLT, Nat.reduceLeDiff, Nat.reduceEqDiff, Nat.reduceSub, Nat.reduceMul, Nat.reduceBEq, Int.reduceBEq, Int.reduceBNe, Int.reduceLT, Int.reduceLE, Int.reduceGT, Int.reduceGE, Int.reduceNeg, Int.reduceEq, Int.reduceNe, Int.reduceToNat, Int.reduceAdd, aconv, acvB, capR, acmpnil, appBox, storeB, ares1, appendTo, afill, aeqL, teset, e1, e2, e4, e5, e6, b0, b1, b2, inj_take, inj_drop, inj_agg, inj_len, inj_one, List.length_map, Int.natCast_one, range1, inj_len, inj_one, ne0, ne1, ne2, ne0', ne1', ne2', newTok_boxf, setTok_boxf, skR_app1, boxEq_none, List.length_append, List.length_cons, List.length_nil, List.length_map, Nat.zero_add, List.map_cons, injS, List.map_nil, hnt, hk0, hk1, hbX, hbK, hb1, hb3, hgx, Int.natCast_nonneg, hk4, hq, hq2]
          refine .inl ?_
          refine ⟨n' - 1, nlt1 hn' hj, j + 1, ok, ox ++ [xs[j]], _, _, by rw [wrap_succ (jwrap hjm)], nadd hn' hj, Nat.le_trans (by decide) hnb, rfl, .inr ⟨0, 0, by simp [hok, hox], rfl, rfl, hok⟩, by rw [hoxe]; exact (erase_non xs hj hji).symm, hok⟩
    · have hox : True := trivial
      have hk1 : True := trivial
      simp only [aw0, aw1, aw2, aw3, aw4, aw5, aw6, aw7, ne_eq, eq_self, implies_true, imp_self, reduceIte, reduceCtorEq, Nat.reduceAdd, Nat.reduceLT, Nat.reduceLeDiff, Nat.reduceEqDiff, Nat.reduceSub, Nat.reduceMul, Nat.reduceBEq, Int.reduceBEq, Int.reduceBNe, Int.reduceLT, Int.reduceLE, Int.reduceGT, Int.reduceGE, Int.reduceNeg, Int.reduceEq, Int.reduceNe, Int.reduceToNat, Int.reduceAdd, aconv, acvB, capR, acmpnil, appBox, storeB, ares1, appendTo, afill, aeqL, teset, e1, e2, e4, e5, e6, b0, b1, b2, inj_take, inj_drop, inj_agg, inj_len, inj_one, List.length_map, Int.natCast_one, range1, inj_len, inj_one, ne0, ne1, ne2, ne0', ne1', ne2', newTok_boxf, setTok_boxf, skR_app1, boxEq_none, List.length_append, List.length_cons, List.length_nil, List.length_map, Nat.zero_add, List.map_cons, injS, List.map_nil]
      cases hc : decide ((j : Int) < (xs.length : Int)) with
      | false =>
        have hjl : xs.length ≤ j := nlt (by simpa only [decide_eq_false_iff_not] using hc)
        have htx : xs.take j = xs := List.take_of_length_le hjl
      
        rw [htx] at hoxe
      
        simp only [aw0, aw1, aw2, aw3, aw4, aw5, aw6, aw7, ne_eq, eq_self, implies_true, imp_self, reduceIte, reduceCtorEq, Nat.reduceAdd, Nat.reduceLT, Nat.reduceLeDiff, Nat.reduceEqDiff, Nat.reduceSub, Nat.reduceMul, Nat.reduceBEq, Int.reduceBEq, Int.reduceBNe, Int.reduceLT, Int.reduceLE, Int.reduceGT, Int.reduceGE, Int.reduceNeg, Int.reduceEq, Int.reduceNe, Int.reduceToNat, Int.reduceAdd, aconv, acvB, capR, acmpnil, appBox, storeB, ares1, appendTo, afill, aeqL, teset, e1, e2, e4, e5, e6, b0, b1, b2, inj_take, inj_drop, inj_agg, inj_len, inj_one, List.length_map, Int.natCast_one, range1, inj_len, inj_one, ne0, ne1, ne2, ne0', ne1', ne2', newTok_boxf, setTok_boxf, skR_app1, boxEq_none, List.length_append, List.length_cons, List.length_nil, List.length_map, Nat.zero_add, List.map_cons, injS, List.map_nil]
        rw [← hoxe, inj_mk]
        refine ⟨_, rfl, To0.wk (WkAll.cons (.refl _) (.cons (.refl _) (.cons (.refl _) (.cons ?_ (.cons ?_ .nil))))).agg⟩
        · exact .ro
        · exact wk_nil1
      | true =>
        simp only [decide_eq_true_eq] at hc
        have hj : j < xs.length := Int.ofNat_lt.1 hc
      
        have hgx : (xs.map inj)[((j : Nat) : Int).toNat]? = some (inj xs[j]) := by rw [Int.toNat_natCast, List.getElem?_map, List.getElem?_eq_getElem hj]; rfl
      
        simp only [aw0, aw1, aw2, aw3, aw4, aw5, aw6, aw7, ne_eq, eq_self, implies_true, imp_self, reduceIte, reduceCtorEq, Nat.reduceAdd, Nat.reduceLT, Nat.reduceLeDiff, Nat.reduceEqDiff, Nat.reduceSub, Nat.reduceMul, Nat.reduceBEq, Int.reduceBEq, Int.reduceBNe, Int.reduceLT, Int.reduceLE, Int.reduceGT, Int.reduceGE, Int.reduceNeg, Int.reduceEq, Int.reduceNe, Int.reduceToNat, Int.reduceAdd, aconv, acvB, capR, acmpnil, appBox, storeB, ares1, appendTo, afill, aeqL, teset, e1, e2, e4, e5, e6, b0, b1, b2, inj_take, inj_drop, inj_agg, inj_len, inj_one, List.length_map, Int.natCast_one, range1, inj_len, inj_one, ne0, ne1, ne2, ne0', ne1', ne2', newTok_boxf, setTok_boxf, skR_app1, boxEq_none, List.length_append, List.length_cons, List.length_nil, List.length_map, Nat.zero_add, List.map_cons, injS, List.map_nil, hgx, Int.natCast_nonneg]
        refine acode_draw_chain te_ok mixed [] (by kernel_rfl) ?_
        by_cases hji : j = i
        · have hq : (((m : Nat) : Int) == ((j : Nat) : Int)) = true := by rw [him, hji]; exact beq_self_eq_true _
          simp only [aw0, aw1, aw2, aw3, aw4, aw5, aw6, aw7, ne_eq, eq_self, implies_true, imp_self, reduceIte, reduceCtorEq, Nat.reduceAdd, Nat.reduceLT, Nat.reduceLeDiff, Nat.reduceEqDiff, Nat.reduceSub, Nat.reduceMul, Nat.reduceBEq, Int.reduceBEq, Int.reduceBNe, Int.reduceLT, Int.reduceLE, Int.reduceGT, Int.reduceGE, Int.reduceNeg, Int.reduceEq, Int.reduceNe, Int.reduceToNat, Int.reduceAdd, aconv, acvB, capR, acmpnil, appBox, storeB, ares1, appendTo, afill, aeqL, teset, e1, e2, e4, e5, e6, b0, b1, b2, inj_take, inj_drop, inj_agg, inj_len, inj_one, List.length_map, Int.natCast_one, range1, inj_len, inj_one, ne0, ne1, ne2, ne0', ne1', ne2', newTok_boxf, setTok_boxf, skR_app1, boxEq_none, List.length_append, List.length_cons, List.length_nil, List.length_map, Nat.zero_add, List.map_cons, injS, List.map_nil, hnt, hk0, hk1, hbX, hbK, hb1, hb3, hgx, Int.natCast_nonneg, hk4, hq]
          refine ⟨n' - 1, nlt1 hn' hj, j + 1, ok, ox, _, _, by rw [wrap_succ (jwrap hjm)], nadd hn' hj, Nat.le_trans (by decide) hnb, rfl, .inr ⟨g, 0, rfl, rfl, rfl, hok⟩, by rw [hoxe]; exact (erase_hit xs hj hji).symm, hok⟩
      
        · have hq : (((m : Nat) : Int) == ((j : Nat) : Int)) = false := ne_int (by rw [him]; exact fun h => hji h.symm)
          have hq2 : decide (((m : Nat) : Int) < 0) = false := nneg m
          simp only [aw0, aw1, aw2, aw3, aw4, aw5, aw6, aw7, ne_eq, eq_self, implies_true, imp_self, reduceIte, reduceCtorEq, Nat.reduceAdd, Nat.reduceLT, Nat.reduceLeDiff, Nat.reduceEqDiff, Nat.reduceSub, Nat.reduceMul, Nat.reduceBEq, Int.reduceBEq, Int.reduceBNe, Int.reduceLT, Int.reduceLE, Int.reduceGT, Int.reduceGE, Int.reduceNeg, Int.reduceEq, Int.reduceNe, Int.reduceToNat, Int.reduceAdd, aconv, acvB, capR, acmpnil, appBox, storeB, ares1, appendTo, afill, aeqL, teset, e1, e2, e4, e5, e6, b0, b1, b2, inj_take, inj_drop, inj_agg, inj_len, inj_one, List.length_map, Int.natCast_one, range1, inj_len, inj_one, ne0, ne1, ne2, ne0', ne1', ne2', newTok_boxf, setTok_boxf, skR_app1, boxEq_none, List.length_append, List.length_cons, List.length_nil, List.length_map, Nat.zero_add, List.map_cons, injS, List.map_nil, hnt, hk0, hk1, hbX, hbK, hb1, hb3, hgx, Int.natCast_nonneg, hk4, hq, hq2]
          refine ⟨n' - 1, nlt1 hn' hj, j + 1, ok, ox ++ [xs[j]], _, _, by rw [wrap_succ (jwrap hjm)], nadd hn' hj, Nat.le_trans (by decide) hnb, rfl, .inr ⟨g + 1, 0, by simp [hok, hox], rfl, rfl, hok⟩, by rw [hoxe]; exact (erase_non xs hj hji).symm, hok⟩

set_option maxHeartbeats 40000000 in
theorem refwo_s5 (xs : List V) (ks : List ByteArray) (key : ByteArray) (i : Nat) (hi : i < xs.length) (hx6 : xs.length < 1000000) (ix : Int) (hix : ix < 0) (hkl : ks.length = xs.length) (ha : Asc ks) (hkey : ks[i]? = some key) : Pure Tryz.prog 48 [.agg [.int .i64 5, .int .i64 0, .str ⟨#[]⟩, .sl .ro 5 (xs.map inj), .sl .ro 1 (ks.map .str)], .sl .ro 2 [.agg [.int .i64 ix, .str key]]] (inj (.mk 5 0 ⟨#[]⟩ (xs.eraseIdx i) (ks.eraseIdx i))) := by
  refine Pure.of0 ⟨Tryz.f48, Tryz.func48, rfl, by kernel_rfl⟩ (by
    have h1 := injs_under xs
    have h2 := strs_under ks

    simp [AV.underL, AV.under, h1, h2]) (inj_under _) ?_



  have hk5 : True := trivial
  have hk4 : True := trivial
  refine acalls_of te_ok [] Tryz.func48 (c := _) rfl (Nat.le_of_ble_eq_true rfl) ?_
  simp only [aw0, aw1, aw2, aw3, aw4, aw5, aw6, aw7, ne_eq, eq_self, implies_true, imp_self, reduceIte, reduceCtorEq, Nat.reduceAdd, Nat.reduceLT, Nat.reduceLeDiff, Nat.reduceEqDiff, Nat.reduceSub, Nat.reduceMul, Nat.reduceBEq, Int.reduceBEq, Int.reduceBNe, Int.reduceLT, Int.reduceLE, Int.reduceGT, Int.reduceGE, Int.reduceNeg, Int.reduceEq, Int.reduceNe, Int.reduceToNat, Int.reduceAdd, aconv, acvB, capR, acmpnil, appBox, storeB, ares1, appendTo, afill, aeqL, teset, Tryz.ntmps48, Tryz.results48, inj_take, inj_drop, inj_agg, inj_len, inj_one, List.length_map, boxR, none_nb, none_box]
  refine ⟨fun n' s' h' => ∃ (j : Nat) (ok : List ByteArray) (ox : List V) (aK aX : AV), s' 1 = .sl .ro 2 [.agg [.int .i64 ix, .str key]] ∧ s' 2 = .ptr 0 0 ∧ s' 4 = .ptr 1 0 ∧ s' 5 = .ptr 2 0 ∧ s' 6 = .int .i64 j ∧ n' + j = xs.length ∧ 3 ≤ h'.nb ∧
    h'.box 0 = some [.int .i64 5, .int .i64 0, .str ⟨#[]⟩, .sl .ro 5 (xs.map inj), .sl .ro 1 (ks.map .str)] ∧ h'.box 1 = some [.int .i64 0, .int .i64 0, .str ⟨#[]⟩, .sl .full 0 [], .sl .full 0 []] ∧ h'.box 2 = some [.int .i64 5, .int .i64 0, .str ⟨#[]⟩, aX, aK] ∧
    ((ox = [] ∧ ok = [] ∧ aX = .sl .full 0 [] ∧ aK = .sl .full 0 [] ∧ h'.nt = 0) ∨ (∃ g g' : Nat, aX = .sl (.tok 0 g) 5 (ox.map inj) ∧ h'.tok 0 = some g ∧ aK = .sl (.tok 1 g') 1 (ok.map .str) ∧ h'.tok 1 = some g' ∧ h'.nt = 2)) ∧ ox = (xs.take j).eraseIdx i ∧ ok = (ks.take j).eraseIdx i, ⟨xs.length, 0, [], [], .sl .full 0 [], .sl .full 0 [], ?_⟩, ?_⟩
  · simp only [aw0, aw1, aw2, aw3, aw4, aw5, aw6, aw7, ne_eq, eq_self, implies_true, imp_self, reduceIte, reduceCtorEq, Nat.reduceAdd, Nat.reduceLT, Nat.reduceLeDiff, Nat.reduceEqDiff, Nat.reduceSub, Nat.reduceMul, Nat.reduceBEq, Int.reduceBEq, Int.reduceBNe, Int.reduceLT, Int.reduceLE, Int.reduceGT, Int.reduceGE, Int.reduceNeg, Int.reduceEq, Int.reduceNe, Int.reduceToNat, Int.reduceAdd, aconv, acvB, capR, acmpnil, appBox, storeB, ares1, appendTo, afill, aeqL, teset, Int.natCast_zero, none_nb, none_box, none_nt, List.take_zero, List.eraseIdx_nil, List.set_nil, Nat.le_refl]
  · rintro n' s' h' ⟨j, ok, ox, aK, aX, e1, e2, e4, e5, e6, hn', hnb, b0, b1, b2, hown, hoxe, hoke⟩
    have hjm : j < 1000000 := jlt hn' hx6
    have ne0 : (0 = h'.nb) = False := eq_false (by omega)
    have ne1 : (1 = h'.nb) = False := eq_false (by omega)
    have ne2 : (2 = h'.nb) = False := eq_false (by omega)
    have ne0' : (h'.nb = 0) = False := eq_false (by omega)
    have ne1' : (h'.nb = 1) = False := eq_false (by omega)
    have ne2' : (h'.nb = 2) = False := eq_false (by omega)
    have hbX : (ox.length + 1) * 80 ≤ 140737488355328 := b80 (by rw [hoxe]; exact erase_len xs i j) hjm
    have hbK : (ok.length + 1) * 16 ≤ 140737488355328 := b16 (by rw [hoke]; exact erase_len ks i j) hjm
    have hb1 : (0 + 1) * 16 ≤ 140737488355328 := by decide
    have hb3 : (0 + 1) * 80 ≤ 140737488355328 := by decide
    rcases hown with ⟨hox, hok, rfl, rfl, hnt⟩ | ⟨g, g', rfl, hk0, rfl, hk1, hnt⟩
    · have hk0 : True := trivial
      have hk1 : True := trivial
      simp only [aw0, aw1, aw2, aw3, aw4, aw5, aw6, aw7, ne_eq, eq_self, implies_true, imp_self, reduceIte, reduceCtorEq, Nat.reduceAdd, Nat.reduceLT, Nat.reduceLeDiff, Nat.reduceEqDiff, Nat.reduceSub, Nat.reduceMul, Nat.reduceBEq, Int.reduceBEq, Int.reduceBNe, Int.reduceLT, Int.reduceLE, Int.reduceGT, Int.reduceGE, Int.reduceNeg, Int.reduceEq, Int.reduceNe, Int.reduceToNat, Int.reduceAdd, aconv, acvB, capR, acmpnil, appBox, storeB, ares1, appendTo, afill, aeqL, teset, e1, e2, e4, e5, e6, b0, b1, b2, inj_take, inj_drop, inj_agg, inj_len, inj_one, List.length_map, Int.natCast_one, range1, inj_len, inj_one, ne0, ne1, ne2, ne0', ne1', ne2', newTok_boxf, setTok_boxf, skR_app1, boxEq_none, List.length_append, List.length_cons, List.length_nil, List.length_map, Nat.zero_add, List.map_cons, injS, List.map_nil]
      cases hc : decide ((j : Int) < (xs.length : Int)) with
      | false =>
        have hjl : xs.length ≤ j := nlt (by simpa only [decide_eq_false_iff_not] using hc)
        have htx : xs.take j = xs := List.take_of_length_le hjl
        have htk : ks.take j = ks := List.take_of_length_le (hkl ▸ hjl)
        rw [htx] at hoxe
        rw [htk] at hoke
        simp only [aw0, aw1, aw2, aw3, aw4, aw5, aw6, aw7, ne_eq, eq_self, implies_true, imp_self, reduceIte, reduceCtorEq, Nat.reduceAdd, Nat.reduceLT, Nat.reduceLeDiff, Nat.reduceEqDiff, Nat.reduceSub, Nat.reduceMul, Nat.reduceBEq, Int.reduceBEq, Int.reduceBNe, Int.reduceLT, Int.reduceLE, Int.reduceGT, Int.reduceGE, Int.reduceNeg, Int.reduceEq, Int.reduceNe, Int.reduceToNat, Int.reduceAdd, aconv, acvB, capR, acmpnil, appBox, storeB, ares1, appendTo, afill, aeqL, teset, e1, e2, e4, e5, e6, b0, b1, b2, inj_take, inj_drop, inj_agg, inj_len, inj_one, List.length_map, Int.natCast_one, range1, inj_len, inj_one, ne0, ne1, ne2, ne0', ne1', ne2', newTok_boxf, setTok_boxf, skR_app1, boxEq_none, List.length_append, List.length_cons, List.length_nil, List.length_map, Nat.zero_add, List.map_cons, injS, List.map_nil]
        rw [← hoxe, ← hoke, inj_mk]
        refine ⟨_, rfl, To0.wk (WkAll.cons (.refl _) (.cons (.refl _) (.cons (.refl _) (.cons ?_ (.cons ?_ .nil))))).agg⟩
        · rw [hox]; exact wk_nil5
        · rw [hok]; exact wk_nil1
      | true =>
        simp only [decide_eq_true_eq] at hc
        have hj : j < xs.length := Int.ofNat_lt.1 hc
        have hjk : j < ks.length := hkl ▸ hj
        have hgx : (xs.map inj)[((j : Nat) : Int).toNat]? = some (inj xs[j]) := by rw [Int.toNat_natCast, List.getElem?_map, List.getElem?_eq_getElem hj]; rfl
        have hgk : (ks.map AV.str)[((j : Nat) : Int).toNat]? = some (.str ks[j]) := by rw [Int.toNat_natCast, List.getElem?_map, List.getElem?_eq_getElem hjk]; rfl
        simp only [aw0, aw1, aw2, aw3, aw4, aw5, aw6, aw7, ne_eq, eq_self, implies_true, imp_self, reduceIte, reduceCtorEq, Nat.reduceAdd, Nat.reduceLT, Nat.reduceLeDiff, Nat.reduceEqDiff, Nat.reduceSub, Nat.reduceMul, Nat.reduceBEq, Int.reduceBEq, Int.reduceBNe, Int.reduceLT, Int.reduceLE, Int.reduceGT, Int.reduceGE, Int.reduceNeg, Int.reduceEq, Int.reduceNe, Int.reduceToNat, Int.reduceAdd, aconv, acvB, capR, acmpnil, appBox, storeB, ares1, appendTo, afill, aeqL, teset, e1, e2, e4, e5, e6, b0, b1, b2, inj_take, inj_drop, inj_agg, inj_len, inj_one, List.length_map, Int.natCast_one, range1, inj_len, inj_one, ne0, ne1, ne2, ne0', ne1', ne2', newTok_boxf, setTok_boxf, skR_app1, boxEq_none, List.length_append, List.length_cons, List.length_nil, List.length_map, Nat.zero_add, List.map_cons, injS, List.map_nil, hgx, Int.natCast_nonneg]
        refine acode_draw_chain te_ok mixed [] (by kernel_rfl) ?_
        have hq : (ix == ((j : Nat) : Int)) = false := neg_ne hix j
        have hq2 : decide (ix < 0) = true := decide_eq_true hix
        simp only [aw0, aw1, aw2, aw3, aw4, aw5, aw6, aw7, ne_eq, eq_self, implies_true, imp_self, reduceIte, reduceCtorEq, Nat.reduceAdd, Nat.reduceLT, Nat.reduceLeDiff, Nat.reduceEqDiff, Nat.reduceSub, Nat.reduceMul, Nat.reduceBEq, Int.reduceBEq, Int.reduceBNe, Int.reduceLT, Int.reduceLE, Int.reduceGT, Int.reduceGE, Int.reduceNeg, Int.reduceEq, Int.reduceNe, Int.reduceToNat, Int.reduceAdd, aconv, acvB, capR, acmpnil, appBox, storeB, ares1, appendTo, afill, aeqL, teset, e1, e2, e4, e5, e6, b0, b1, b2, inj_take, inj_drop, inj_agg, inj_len, inj_one, List.length_map, Int.natCast_one, range1, inj_len, inj_one, ne0, ne1, ne2, ne0', ne1', ne2', newTok_boxf, setTok_boxf, skR_app1, boxEq_none, List.length_append, List.length_cons, List.length_nil, List.length_map, Nat.zero_add, List.map_cons, injS, List.map_nil, hnt, hk0, hk1, hbX, hbK, hb1, hb3, hgx, Int.natCast_nonneg, hgk, hk5, hq, hq2]
        by_cases hji : j = i
        · have hqk : (ks[j].toList == key.toList) = true := by rw [key_at hkey hjk hji]; exact beq_self_eq_true _
          simp only [aw0, aw1, aw2, aw3, aw4, aw5, aw6, aw7, ne_eq, eq_self, implies_true, imp_self, reduceIte, reduceCtorEq, Nat.reduceAdd, Nat.reduceLT, Nat.reduceLeDiff, Nat.reduceEqDiff, Nat.reduceSub, Nat.reduceMul, Nat.reduceBEq, Int.reduceBEq, Int.reduceBNe, Int.reduceLT, Int.reduceLE, Int.reduceGT, Int.reduceGE, Int.reduceNeg, Int.reduceEq, Int.reduceNe, Int.reduceToNat, Int.reduceAdd, aconv, acvB, capR, acmpnil, appBox, storeB, ares1, appendTo, afill, aeqL, teset, e1, e2, e4, e5, e6, b0, b1, b2, inj_take, inj_drop, inj_agg, inj_len, inj_one, List.length_map, Int.natCast_one, range1, inj_len, inj_one, ne0, ne1, ne2, ne0', ne1', ne2', newTok_boxf, setTok_boxf, skR_app1, boxEq_none, List.length_append, List.length_cons, List.length_nil, List.length_map, Nat.zero_add, List.map_cons, injS, List.map_nil, hnt, hk0, hk1, hbX, hbK, hb1, hb3, hgx, Int.natCast_nonneg, hgk, hk5, hqk]
          refine ⟨n' - 1, nlt1 hn' hj, j + 1, ok, ox, _, _, by rw [wrap_succ (jwrap hjm)], nadd hn' hj, Nat.le_trans (by decide) hnb, rfl, .inl ⟨hox, hok, rfl, rfl⟩, by rw [hoxe]; exact (erase_hit xs hj hji).symm, by rw [hoke]; exact (erase_hit ks hjk hji).symm⟩
      
        · have hqk : (ks[j].toList == key.toList) = false := ba_ne (fun e => hji (asc_inj ha (by rw [List.getElem?_eq_getElem hjk, e]) hkey))
          simp only [aw0, aw1, aw2, aw3, aw4, aw5, aw6, aw7, ne_eq, eq_self, implies_true, imp_self, reduceIte, reduceCtorEq, Nat.reduceAdd, Nat.reduceLT, Nat.reduceLeDiff, Nat.reduceEqDiff, Nat.reduceSub, Nat.reduceMul, Nat.reduceBEq, Int.reduceBEq, Int.reduceBNe, Int.reduceLT, Int.reduceLE, Int.reduceGT, Int.reduceGE, Int.reduceNeg, Int.reduceEq, Int.reduceNe, Int.reduceToNat, Int.reduceAdd, aconv, acvB, capR, acmpnil, appBox, storeB, ares1, appendTo, afill, aeqL, teset, e1, e2, e4, e5, e6, b0, b1, b2, inj_take, inj_drop, inj_agg, inj_len, inj_one, List.length_map, Int.natCast_one, range1, inj_len, inj_one, ne0, ne1, ne2, ne0', ne1', ne2', newTok_boxf, setTok_boxf, skR_app1, boxEq_none, List.length_append, List.length_cons, List.length_nil, List.length_map, Nat.zero_add, List.map_cons, injS, List.map_nil, hnt, hk0, hk1, hbX, hbK, hb1, hb3, hgx, Int.natCast_nonneg, hgk, hk5, hqk]
          refine .inl ?_
          refine acode_draw_chain te_ok mixed [] (by kernel_rfl) ?_
          simp only [aw0, aw1, aw2, aw3, aw4, aw5, aw6, aw7, ne_eq, eq_self, implies_true, imp_self, reduceIte, reduceCtorEq, Nat.reduceAdd, Nat.reduceLT, Nat.reduceLeDiff, Nat.reduceEqDiff, Nat.reduceSub, Nat.reduceMul, Nat.reduceBEq, Int.reduceBEq, Int.reduceBNe, Int.reduceLT, Int.reduceLE, Int.reduceGT, Int.reduceGE, Int.reduceNeg, Int.reduceEq, Int.reduceNe, Int.reduceToNat, Int.reduceAdd, aconv, acvB, capR, acmpnil, appBox, storeB, ares1, appendTo, afill, aeqL, teset, e1, e2, e4, e5, e6, b0, b1, b2, inj_take, inj_drop, inj_agg, inj_len, inj_one, List.length_map, Int.natCast_one, range1, inj_len, inj_one, ne0, ne1, ne2, ne0', ne1', ne2', newTok_boxf, setTok_boxf, skR_app1, boxEq_none, List.length_append, List.length_cons, List.length_nil, List.length_map, Nat.zero_add, List.map_cons, injS, List.map_nil, hnt, hk0, hk1, hbX, hbK, hb1, hb3, hgx, Int.natCast_nonneg, hgk, hk5]
          refine ⟨n' - 1, nlt1 hn' hj, j + 1, ok ++ [ks[j]], ox ++ [xs[j]], _, _, by rw [wrap_succ (jwrap hjm)], nadd hn' hj, Nat.le_trans (by decide) hnb, rfl, .inr ⟨0, 0, by simp [hok, hox], rfl, by simp [hok, hox], rfl⟩, by rw [hoxe]; exact (erase_non xs hj hji).symm, by rw [hoke]; exact (erase_non ks hjk hji).symm⟩
    · have hox : True := trivial
      have hok : True := trivial
      simp only [aw0, aw1, aw2, aw3, aw4, aw5, aw6, aw7, ne_eq, eq_self, implies_true, imp_self, reduceIte, reduceCtorEq, Nat.reduceAdd, Nat.reduceLT, Nat.reduceLeDiff, Nat.reduceEqDiff, Nat.reduceSub, Nat.reduceMul, Nat.reduceBEq, Int.reduceBEq, Int.reduceBNe, Int.reduceLT, Int.reduceLE, Int.reduceGT, Int.reduceGE, Int.reduceNeg, Int.reduceEq, Int.reduceNe, Int.reduceToNat, Int.reduceAdd, aconv, acvB, capR, acmpnil, appBox, storeB, ares1, appendTo, afill, aeqL, teset, e1, e2, e4, e5, e6, b0, b1, b2, inj_take, inj_drop, inj_agg, inj_len, inj_one, List.length_map, Int.natCast_one, range1, inj_len, inj_one, ne0, ne1, ne2, ne0', ne1', ne2', newTok_boxf, setTok_boxf, skR_app1, boxEq_none, List.length_append, List.length_cons, List.length_nil, List.length_map, Nat.zero_add, List.map_cons, injS, List.map_nil]
      cases hc : decide ((j : Int) < (xs.length : Int)) with
      | false =>
        have hjl : xs.length ≤ j := nlt (by simpa only [decide_eq_false_iff_not] using hc)
        have htx : xs.take j = xs := List.take_of_length_le hjl
        have htk : ks.take j = ks := List.take_of_length_le (hkl ▸ hjl)
        rw [htx] at hoxe
        rw [htk] at hoke
        simp only [aw0, aw1, aw2, aw3, aw4, aw5, aw6, aw7, ne_eq, eq_self, implies_true, imp_self, reduceIte, reduceCtorEq, Nat.reduceAdd, Nat.reduceLT, Nat.reduceLeDiff, Nat.reduceEqDiff, Nat.reduceSub, Nat.reduceMul, Nat.reduceBEq, Int.reduceBEq, Int.reduceBNe, Int.reduceLT, Int.reduceLE, Int.reduceGT, Int.reduceGE, Int.reduceNeg, Int.reduceEq, Int.reduceNe, Int.reduceToNat, Int.reduceAdd, aconv, acvB, capR, acmpnil, appBox, storeB, ares1, appendTo, afill, aeqL, teset, e1, e2, e4, e5, e6, b0, b1, b2, inj_take, inj_drop, inj_agg, inj_len, inj_one, List.length_map, Int.natCast_one, range1, inj_len, inj_one, ne0, ne1, ne2, ne0', ne1', ne2', newTok_boxf, setTok_boxf, skR_app1, boxEq_none, List.length_append, List.length_cons, List.length_nil, List.length_map, Nat.zero_add, List.map_cons, injS, List.map_nil]
        rw [← hoxe, ← hoke, inj_mk]
        refine ⟨_, rfl, To0.wk (WkAll.cons (.refl _) (.cons (.refl _) (.cons (.refl _) (.cons ?_ (.cons ?_ .nil))))).agg⟩
        · exact .ro
        · exact .ro
      | true =>
        simp only [decide_eq_true_eq] at hc
        have hj : j < xs.length := Int.ofNat_lt.1 hc
        have hjk : j < ks.length := hkl ▸ hj
        have hgx : (xs.map inj)[((j : Nat) : Int).toNat]? = some (inj xs[j]) := by rw [Int.toNat_natCast, List.getElem?_map, List.getElem?_eq_getElem hj]; rfl
        have hgk : (ks.map AV.str)[((j : Nat) : Int).toNat]? = some (.str ks[j]) := by rw [Int.toNat_natCast, List.getElem?_map, List.getElem?_eq_getElem hjk]; rfl
        simp only [aw0, aw1, aw2, aw3, aw4, aw5, aw6, aw7, ne_eq, eq_self, implies_true, imp_self, reduceIte, reduceCtorEq, Nat.reduceAdd, Nat.reduceLT, Nat.reduceLeDiff, Nat.reduceEqDiff, Nat.reduceSub, Nat.reduceMul, Nat.reduceBEq, Int.reduceBEq, Int.reduceBNe, Int.reduceLT, Int.reduceLE, Int.reduceGT, Int.reduceGE, Int.reduceNeg, Int.reduceEq, Int.reduceNe, Int.reduceToNat, Int.reduceAdd, aconv, acvB, capR, acmpnil, appBox, storeB, ares1, appendTo, afill, aeqL, teset, e1, e2, e4, e5, e6, b0, b1, b2, inj_take, inj_drop, inj_agg, inj_len, inj_one, List.length_map, Int.natCast_one, range1, inj_len, inj_one, ne0, ne1, ne2, ne0', ne1', ne2', newTok_boxf, setTok_boxf, skR_app1, boxEq_none, List.length_append, List.length_cons, List.length_nil, List.length_map, Nat.zero_add, List.map_cons, injS, List.map_nil, hgx, Int.natCast_nonneg]
        refine acode_draw_chain te_ok mixed [] (by kernel_rfl) ?_
        have hq : (ix == ((j : Nat) : Int)) = false := neg_ne hix j
        have hq2 : decide (ix < 0) = true := decide_eq_true hix
        simp only [aw0, aw1, aw2, aw3, aw4, aw5, aw6, aw7, ne_eq, eq_self, implies_true, imp_self, reduceIte, reduceCtorEq, Nat.reduceAdd, Nat.reduceLT, Nat.reduceLeDiff, Nat.reduceEqDiff, Nat.reduceSub, Nat.reduceMul, Nat.reduceBEq, Int.reduceBEq, Int.reduceBNe, Int.reduceLT, Int.reduceLE, Int.reduceGT, Int.reduceGE, Int.reduceNeg, Int.reduceEq, Int.reduceNe, Int.reduceToNat, Int.reduceAdd, aconv, acvB, capR, acmpnil, appBox, storeB, ares1, appendTo, afill, aeqL, teset, e1, e2, e4, e5, e6, b0, b1, b2, inj_take, inj_drop, inj_agg, inj_len, inj_one, List.length_map, Int.natCast_one, range1, inj_len, inj_one, ne0, ne1, ne2, ne0', ne1', ne2', newTok_boxf, setTok_boxf, skR_app1, boxEq_none, List.length_append, List.length_cons, List.length_nil, List.length_map, Nat.zero_add, List.map_cons, injS, List.map_nil, hnt, hk0, hk1, hbX, hbK, hb1, hb3, hgx, Int.natCast_nonneg, hgk, hk5, hq, hq2]
        by_cases hji : j = i
        · have hqk : (ks[j].toList == key.toList) = true := by rw [key_at hkey hjk hji]; exact beq_self_eq_true _
          simp only [aw0, aw1, aw2, aw3, aw4, aw5, aw6, aw7, ne_eq, eq_self, implies_true, imp_self, reduceIte, reduceCtorEq, Nat.reduceAdd, Nat.reduceLT, Nat.reduceLeDiff, Nat.reduceEqDiff, Nat.reduceSub, Nat.reduceMul, Nat.reduceBEq, Int.reduceBEq, Int.reduceBNe, Int.reduceLT, Int.reduceLE, Int.reduceGT, Int.reduceGE, Int.reduceNeg, Int.reduceEq, Int.reduceNe, Int.reduceToNat, Int.reduceAdd, aconv, acvB, capR, acmpnil, appBox, storeB, ares1, appendTo, afill, aeqL, teset, e1, e2, e4, e5, e6, b0, b1, b2, inj_take, inj_drop, inj_agg, inj_len, inj_one, List.length_map, Int.natCast_one, range1, inj_len, inj_one, ne0, ne1, ne2, ne0', ne1', ne2', newTok_boxf, setTok_boxf, skR_app1, boxEq_none, List.length_append, List.length_cons, List.length_nil, List.length_map, Nat.zero_add, List.map_cons, injS, List.map_nil, hnt, hk0, hk1, hbX, hbK, hb1, hb3, hgx, Int.natCast_nonneg, hgk, hk5, hqk]
          refine ⟨n' - 1, nlt1 hn' hj, j + 1, ok, ox, _, _, by rw [wrap_succ (jwrap hjm)], nadd hn' hj, Nat.le_trans (by decide) hnb, rfl, .inr ⟨g, g', rfl, rfl, rfl, rfl⟩, by rw [hoxe]; exact (erase_hit xs hj hji).symm, by rw [hoke]; exact (erase_hit ks hjk hji).symm⟩
      
        · have hqk : (ks[j].toList == key.toList) = false := ba_ne (fun e => hji (asc_inj ha (by rw [List.getElem?_eq_getElem hjk, e]) hkey))
          simp only [aw0, aw1, aw2, aw3, aw4, aw5, aw6, aw7, ne_eq, eq_self, implies_true, imp_self, reduceIte, reduceCtorEq, Nat.reduceAdd, Nat.reduceLT, Nat.reduceLeDiff, Nat.reduceEqDiff, Nat.reduceSub, Nat.reduceMul, Nat.reduceBEq, Int.reduceBEq, Int.reduceBNe, Int.reduceLT, Int.reduceLE, Int.reduceGT, Int.reduceGE, Int.reduceNeg, Int.reduceEq, Int.reduceNe, Int.reduceToNat, Int.reduceAdd, aconv, acvB, capR, acmpnil, appBox, storeB, ares1, appendTo, afill, aeqL, teset, e1, e2, e4, e5, e6, b0, b1, b2, inj_take, inj_drop, inj_agg, inj_len, inj_one, List.length_map, Int.natCast_one, range1, inj_len, inj_one, ne0, ne1, ne2, ne0', ne1', ne2', newTok_boxf, setTok_boxf, skR_app1, boxEq_none, List.length_append, List.length_cons, List.length_nil, List.length_map, Nat.zero_add, List.map_cons, injS, List.map_nil, hnt, hk0, hk1, hbX, hbK, hb1, hb3, hgx, Int.natCast_nonneg, hgk, hk5, hqk]
          refine acode_draw_chain te_ok mixed [] (by kernel_rfl) ?_
          simp only [aw0, aw1, aw2, aw3, aw4, aw5, aw6, aw7, ne_eq, eq_self, implies_true, imp_self, reduceIte, reduceCtorEq, Nat.reduceAdd, Nat.reduceLT, Nat.reduceLeDiff, Nat.reduceEqDiff, Nat.reduceSub, Nat.reduceMul, Nat.reduceBEq, Int.reduceBEq, Int.reduceBNe, Int.reduceLT, Int.reduceLE, Int.reduceGT, Int.reduceGE, Int.reduceNeg, Int.reduceEq, Int.reduceNe, Int.reduceToNat, Int.reduceAdd, aconv, acvB, capR, acmpnil, appBox, storeB, ares1, appendTo, afill, aeqL, teset, e1, e2, e4, e5, e6, b0, b1, b2, inj_take, inj_drop, inj_agg, inj_len, inj_one, List.length_map, Int.natCast_one, range1, inj_len, inj_one, ne0, ne1, ne2, ne0', ne1', ne2', newTok_boxf, setTok_boxf, skR_app1, boxEq_none, List.length_append, List.length_cons, List.length_nil, List.length_map, Nat.zero_add, List.map_cons, injS, List.map_nil, hnt, hk0, hk1, hbX, hbK, hb1, hb3, hgx, Int.natCast_nonneg, hgk, hk5]
          refine ⟨n' - 1, nlt1 hn' hj, j + 1, ok ++ [ks[j]], ox ++ [xs[j]], _, _, by rw [wrap_succ (jwrap hjm)], nadd hn' hj, Nat.le_trans (by decide) hnb, rfl, .inr ⟨g + 1, g' + 1, by simp [hok, hox], rfl, by simp [hok, hox], rfl⟩, by rw [hoxe]; exact (erase_non xs hj hji).symm, by rw [hoke]; exact (erase_non ks hjk hji).symm⟩

set_option maxHeartbeats 40000000 in
theorem refwo_m4 (xs : List V) (ks : List ByteArray) (key : ByteArray) (i : Nat) (hi : i < xs.length) (hx6 : xs.length < 1000000) (m : Nat) (him : m = i) (hks : ks = []) (p : List Stp) (hp : p ≠ []) (o y : V) (ho : xs[i]? = some o) (hy : Pure Tryz.prog 48 [inj o, .sl .ro 2 (p.map injS)] (inj y)) : Pure Tryz.prog 48 [.agg [.int .i64 4, .int .i64 0, .str ⟨#[]⟩, .sl .ro 5 (xs.map inj), .sl .ro 1 (ks.map .str)], .sl .ro 2 (.agg [.int .i64 ((m : Nat) : Int), .str key] :: p.map injS)] (inj (.mk 4 0 ⟨#[]⟩ (xs.set i y) ([]))) := by
  refine Pure.of0 ⟨Tryz.f48, Tryz.func48, rfl, by kernel_rfl⟩ (by
    have h1 := injs_under xs
    have h2 := strs_under ks
    have h3 := injS_under p
    simp [AV.underL, AV.under, h1, h2, h3]) (inj_under _) ?_
  have hpl : 0 < p.length := List.length_pos_iff.2 hp
  have hl1 : (((p.length + 1 : Nat) : Int) == 1) = false := len_ne1 hpl
  have takep : List.take p.length (p.map injS) = p.map injS := List.take_of_length_le (Nat.le_of_eq (List.length_map ..))
  have hk5 : True := trivial
  have hk4 : True := trivial
  refine acalls_of te_ok [] Tryz.func48 (c := _) rfl (Nat.le_of_ble_eq_true rfl) ?_
  simp only [aw0, aw1, aw2, aw3, aw4, aw5, aw6, aw7, ne_eq, eq_self, implies_true, imp_self, reduceIte, reduceCtorEq, Nat.reduceAdd, Nat.reduceLT, Nat.reduceLeDiff, Nat.reduceEqDiff, Nat.reduceSub, Nat.reduceMul, Nat.reduceBEq, Int.reduceBEq, Int.reduceBNe, Int.reduceLT, Int.reduceLE, Int.reduceGT, Int.reduceGE, Int.reduceNeg, Int.reduceEq, Int.reduceNe, Int.reduceToNat, Int.reduceAdd, aconv, acvB, capR, acmpnil, appBox, storeB, ares1, appendTo, afill, aeqL, teset, Tryz.ntmps48, Tryz.results48, inj_take, inj_drop, inj_agg, inj_len, inj_one, List.length_map, boxR, none_nb, none_box]
  refine ⟨fun n' s' h' => ∃ (j : Nat) (ok : List ByteArray) (ox : List V) (aK aX : AV), s' 1 = .sl .ro 2 (.agg [.int .i64 ((m : Nat) : Int), .str key] :: p.map injS) ∧ s' 2 = .ptr 0 0 ∧ s' 4 = .ptr 1 0 ∧ s' 5 = .ptr 2 0 ∧ s' 6 = .int .i64 j ∧ n' + j = xs.length ∧ 3 ≤ h'.nb ∧
    h'.box 0 = some [.int .i64 4, .int .i64 0, .str ⟨#[]⟩, .sl .ro 5 (xs.map inj), .sl .ro 1 (ks.map .str)] ∧ h'.box 1 = some [.int .i64 0, .int .i64 0, .str ⟨#[]⟩, .sl .full 0 [], .sl .full 0 []] ∧ h'.box 2 = some [.int .i64 4, .int .i64 0, .str ⟨#[]⟩, aX, aK] ∧
    ((ox = [] ∧ ok = [] ∧ aX = .sl .full 0 [] ∧ aK = .sl .full 0 [] ∧ h'.nt = 0) ∨ (∃ g g' : Nat, aX = .sl (.tok 0 g) 5 (ox.map inj) ∧ h'.tok 0 = some g ∧ aK = .sl .full 0 [] ∧ h'.nt = 1 ∧ ok = [] ∧ g' = g')) ∧ ox = (xs.take j).set i y ∧ ok = [], ⟨xs.length, 0, [], [], .sl .full 0 [], .sl .full 0 [], ?_⟩, ?_⟩
  · simp only [aw0, aw1, aw2, aw3, aw4, aw5, aw6, aw7, ne_eq, eq_self, implies_true, imp_self, reduceIte, reduceCtorEq, Nat.reduceAdd, Nat.reduceLT, Nat.reduceLeDiff, Nat.reduceEqDiff, Nat.reduceSub, Nat.reduceMul, Nat.reduceBEq, Int.reduceBEq, Int.reduceBNe, Int.reduceLT, Int.reduceLE, Int.reduceGT, Int.reduceGE, Int.reduceNeg, Int.reduceEq, Int.reduceNe, Int.reduceToNat, Int.reduceAdd, aconv, acvB, capR, acmpnil, appBox, storeB, ares1, appendTo, afill, aeqL, teset, Int.natCast_zero, none_nb, none_box, none_nt, List.take_zero, List.eraseIdx_nil, List.set_nil, Nat.le_refl]
  · rintro n' s' h' ⟨j, ok, ox, aK, aX, e1, e2, e4, e5, e6, hn', hnb, b0, b1, b2, hown, hoxe, hoke⟩
    have hjm : j < 1000000 := jlt hn' hx6
    have ne0 : (0 = h'.nb) = False := eq_false (by omega)
    have ne1 : (1 = h'.nb) = False := eq_false (by omega)
    have ne2 : (2 = h'.nb) = False := eq_false (by omega)
    have ne0' : (h'.nb = 0) = False := eq_false (by omega)
    have ne1' : (h'.nb = 1) = False := eq_false (by omega)
    have ne2' : (h'.nb = 2) = False := eq_false (by omega)
    have hbX : (ox.length + 1) * 80 ≤ 140737488355328 := b80 (by rw [hoxe]; exact set_len xs i y j) hjm
    have hbK : True := trivial
    have hb1 : (0 + 1) * 16 ≤ 140737488355328 := by decide
    have hb3 : (0 + 1) * 80 ≤ 140737488355328 := by decide
    rcases hown with ⟨hox, hok, rfl, rfl, hnt⟩ | ⟨g, g', rfl, hk0, rfl, hnt, hok, _⟩
    · have hk0 : True := trivial
      have hk1 : True := trivial
      simp only [aw0, aw1, aw2, aw3, aw4, aw5, aw6, aw7, ne_eq, eq_self, implies_true, imp_self, reduceIte, reduceCtorEq, Nat.reduceAdd, Nat.reduceLT, Nat.reduceLeDiff, Nat.reduceEqDiff, Nat.reduceSub, Nat.reduceMul, Nat.reduceBEq, Int.reduceBEq, Int.reduceBNe, Int.reduceLT, Int.reduceLE, Int.reduceGT, Int.reduceGE, Int.reduceNeg, Int.reduceEq, Int.reduceNe, Int.reduceToNat, Int.reduceAdd, aconv, acvB, capR, acmpnil, appBox, storeB, ares1, appendTo, afill, aeqL, teset, e1, e2, e4, e5, e6, b0, b1, b2, inj_take, inj_drop, inj_agg, inj_len, inj_one, List.length_map, Int.natCast_one, range1, inj_len, inj_one, ne0, ne1, ne2, ne0', ne1', ne2', newTok_boxf, setTok_boxf, skR_app1, boxEq_none, List.length_append, List.length_cons, List.length_nil, List.length_map, Nat.zero_add, List.map_cons, injS, List.map_nil]
      cases hc : decide ((j : Int) < (xs.length : Int)) with
      | false =>
        have hjl : xs.length ≤ j := nlt (by simpa only [decide_eq_false_iff_not] using hc)
        have htx : xs.take j = xs := List.take_of_length_le hjl
      
        rw [htx] at hoxe
      
        simp only [aw0, aw1, aw2, aw3, aw4, aw5, aw6, aw7, ne_eq, eq_self, implies_true, imp_self, reduceIte, reduceCtorEq, Nat.reduceAdd, Nat.reduceLT, Nat.reduceLeDiff, Nat.reduceEqDiff, Nat.reduceSub, Nat.reduceMul, Nat.reduceBEq, Int.reduceBEq, Int.reduceBNe, Int.reduceLT, Int.reduceLE, Int.reduceGT, Int.reduceGE, Int.reduceNeg, Int.reduceEq, Int.reduceNe, Int.reduceToNat, Int.reduceAdd, aconv, acvB, capR, acmpnil, appBox, storeB, ares1, appendTo, afill, aeqL, teset, e1, e2, e4, e5, e6, b0, b1, b2, inj_take, inj_drop, inj_agg, inj_len, inj_one, List.length_map, Int.natCast_one, range1, inj_len, inj_one, ne0, ne1, ne2, ne0', ne1', ne2', newTok_boxf, setTok_boxf, skR_app1, boxEq_none, List.length_append, List.length_cons, List.length_nil, List.length_map, Nat.zero_add, List.map_cons, injS, List.map_nil]
        rw [← hoxe, inj_mk]
        refine ⟨_, rfl, To0.wk (WkAll.cons (.refl _) (.cons (.refl _) (.cons (.refl _) (.cons ?_ (.cons ?_ .nil))))).agg⟩
        · rw [hox]; exact wk_nil5
        · exact wk_nil1
      | true =>
        simp only [decide_eq_true_eq] at hc
        have hj : j < xs.length := Int.ofNat_lt.1 hc
      
        have hgx : (xs.map inj)[((j : Nat) : Int).toNat]? = some (inj xs[j]) := by rw [Int.toNat_natCast, List.getElem?_map, List.getElem?_eq_getElem hj]; rfl
      
        simp only [aw0, aw1, aw2, aw3, aw4, aw5, aw6, aw7, ne_eq, eq_self, implies_true, imp_self, reduceIte, reduceCtorEq, Nat.reduceAdd, Nat.reduceLT, Nat.reduceLeDiff, Nat.reduceEqDiff, Nat.reduceSub, Nat.reduceMul, Nat.reduceBEq, Int.reduceBEq, Int.reduceBNe, Int.reduceLT, Int.reduceLE, Int.reduceGT, Int.reduceGE, Int.reduceNeg, Int.reduceEq, Int.reduceNe, Int.reduceToNat, Int.reduceAdd, aconv, acvB, capR, acmpnil, appBox, storeB, ares1, appendTo, afill, aeqL, teset, e1, e2, e4, e5, e6, b0, b1, b2, inj_take, inj_drop, inj_agg, inj_len, inj_one, List.length_map, Int.natCast_one, range1, inj_len, inj_one, ne0, ne1, ne2, ne0', ne1', ne2', newTok_boxf, setTok_boxf, skR_app1, boxEq_none, List.length_append, List.length_cons, List.length_nil, List.length_map, Nat.zero_add, List.map_cons, injS, List.map_nil, hgx, Int.natCast_nonneg]
        refine acode_draw_chain te_ok mixed [] (by kernel_rfl) ?_
        by_cases hji : j = i
        · have hq : (((m : Nat) : Int) == ((j : Nat) : Int)) = true := by rw [him, hji]; exact beq_self_eq_true _
          simp only [aw0, aw1, aw2, aw3, aw4, aw5, aw6, aw7, ne_eq, eq_self, implies_true, imp_self, reduceIte, reduceCtorEq, Nat.reduceAdd, Nat.reduceLT, Nat.reduceLeDiff, Nat.reduceEqDiff, Nat.reduceSub, Nat.reduceMul, Nat.reduceBEq, Int.reduceBEq, Int.reduceBNe, Int.reduceLT, Int.reduceLE, Int.reduceGT, Int.reduceGE, Int.reduceNeg, Int.reduceEq, Int.reduceNe, Int.reduceToNat, Int.reduceAdd, aconv, acvB, capR, acmpnil, appBox, storeB, ares1, appendTo, afill, aeqL, teset, e1, e2, e4, e5, e6, b0, b1, b2, inj_take, inj_drop, inj_agg, inj_len, inj_one, List.length_map, Int.natCast_one, range1, inj_len, inj_one, ne0, ne1, ne2, ne0', ne1', ne2', newTok_boxf, setTok_boxf, skR_app1, boxEq_none, List.length_append, List.length_cons, List.length_nil, List.length_map, Nat.zero_add, List.map_cons, injS, List.map_nil, hnt, hk0, hk1, hbX, hbK, hb1, hb3, hgx, Int.natCast_nonneg, hk4, hq]
          simp only [aw0, aw1, aw2, aw3, aw4, aw5, aw6, aw7, ne_eq, eq_self, implies_true, imp_self, reduceIte, reduceCtorEq, Nat.reduceAdd, Nat.reduceLT, Nat.reduceLeDiff, Nat.reduceEqDiff, Nat.reduceSub, Nat.reduceMul, Nat.reduceBEq, Int.reduceBEq, Int.reduceBNe, Int.reduceLT, Int.reduceLE, Int.reduceGT, Int.reduceGE, Int.reduceNeg, Int.reduceEq, Int.reduceNe, Int.reduceToNat, Int.reduceAdd, aconv, acvB, capR, acmpnil, appBox, storeB, ares1, appendTo, afill, aeqL, teset, e1, e2, e4, e5, e6, b0, b1, b2, inj_take, inj_drop, inj_agg, inj_len, inj_one, List.length_map, Int.natCast_one, range1, inj_len, inj_one, ne0, ne1, ne2, ne0', ne1', ne2', newTok_boxf, setTok_boxf, skR_app1, boxEq_none, List.length_append, List.length_cons, List.length_nil, List.length_map, Nat.zero_add, List.map_cons, injS, List.map_nil, hnt, hk0, hk1, hbX, hbK, hb1, hb3, hgx, Int.natCast_nonneg, hk4, hl1]
          refine acode_draw_chain te_ok mixed [] (by kernel_rfl) ?_
          simp only [aw0, aw1, aw2, aw3, aw4, aw5, aw6, aw7, ne_eq, eq_self, implies_true, imp_self, reduceIte, reduceCtorEq, Nat.reduceAdd, Nat.reduceLT, Nat.reduceLeDiff, Nat.reduceEqDiff, Nat.reduceSub, Nat.reduceMul, Nat.reduceBEq, Int.reduceBEq, Int.reduceBNe, Int.reduceLT, Int.reduceLE, Int.reduceGT, Int.reduceGE, Int.reduceNeg, Int.reduceEq, Int.reduceNe, Int.reduceToNat, Int.reduceAdd, aconv, acvB, capR, acmpnil, appBox, storeB, ares1, appendTo, afill, aeqL, teset, e1, e2, e4, e5, e6, b0, b1, b2, inj_take, inj_drop, inj_agg, inj_len, inj_one, List.length_map, Int.natCast_one, range1, inj_len, inj_one, ne0, ne1, ne2, ne0', ne1', ne2', newTok_boxf, setTok_boxf, skR_app1, boxEq_none, List.length_append, List.length_cons, List.length_nil, List.length_map, Nat.zero_add, List.map_cons, injS, List.map_nil, hnt, hk0, hk1, hbX, hbK, hb1, hb3, hgx, Int.natCast_nonneg, hk4, Nat.add_sub_cancel, takep, Nat.le_refl]
          refine skR_pure (by rw [el_at ho hj hji]; exact hy) ?_
          simp only [aw0, aw1, aw2, aw3, aw4, aw5, aw6, aw7, ne_eq, eq_self, implies_true, imp_self, reduceIte, reduceCtorEq, Nat.reduceAdd, Nat.reduceLT, Nat.reduceLeDiff, Nat.reduceEqDiff, Nat.reduceSub, Nat.reduceMul, Nat.reduceBEq, Int.reduceBEq, Int.reduceBNe, Int.reduceLT, Int.reduceLE, Int.reduceGT, Int.reduceGE, Int.reduceNeg, Int.reduceEq, Int.reduceNe, Int.reduceToNat, Int.reduceAdd, aconv, acvB, capR, acmpnil, appBox, storeB, ares1, appendTo, afill, aeqL, teset, e1, e2, e4, e5, e6, b0, b1, b2, inj_take, inj_drop, inj_agg, inj_len, inj_one, List.length_map, Int.natCast_one, range1, inj_len, inj_one, ne0, ne1, ne2, ne0', ne1', ne2', newTok_boxf, setTok_boxf, skR_app1, boxEq_none, List.length_append, List.length_cons, List.length_nil, List.length_map, Nat.zero_add, List.map_cons, injS, List.map_nil, hnt, hk0, hk1, hbX, hbK, hb1, hb3, hgx, Int.natCast_nonneg, hk4]
          refine .inl ?_
          refine ⟨n' - 1, nlt1 hn' hj, j + 1, ok, ox ++ [y], _, _, by rw [wrap_succ (jwrap hjm)], nadd hn' hj, Nat.le_trans (by decide) hnb, rfl, .inr ⟨0, 0, by simp [hok, hox], rfl, rfl, hok⟩, by rw [hoxe]; exact (set_hit xs y hj hji).symm, hok⟩
      
        · have hq : (((m : Nat) : Int) == ((j : Nat) : Int)) = false := ne_int (by rw [him]; exact fun h => hji h.symm)
          have hq2 : decide (((m : Nat) : Int) < 0) = false := nneg m
          simp only [aw0, aw1, aw2, aw3, aw4, aw5, aw6, aw7, ne_eq, eq_self, implies_true, imp_self, reduceIte, reduceCtorEq, Nat.reduceAdd, Nat.reduceLT, Nat.reduceLeDiff, Nat.reduceEqDiff, Nat.reduceSub, Nat.reduceMul, Nat.reduceBEq, Int.reduceBEq, Int.reduceBNe, Int.reduceLT, Int.reduceLE, Int.reduceGT, Int.reduceGE, Int.reduceNeg, Int.reduceEq, Int.reduceNe, Int.reduceToNat, Int.reduceAdd, aconv, acvB, capR, acmpnil, appBox, storeB, ares1, appendTo, afill, aeqL, teset, e1, e2, e4, e5, e6, b0, b1, b2, inj_take, inj_drop, inj_agg, inj_len, inj_one, List.length_map, Int.natCast_one, range1, inj_len, inj_one, ne0, ne1, ne2, ne0', ne1', ne2', newTok_boxf, setTok_boxf, skR_app1, boxEq_none, List.length_append, List.length_cons, List.length_nil, List.length_map, Nat.zero_add, List.map_cons, injS, List.map_nil, hnt, hk0, hk1, hbX, hbK, hb1, hb3, hgx, Int.natCast_nonneg, hk4, hq, hq2]
          refine .inl ?_
          refine ⟨n' - 1, nlt1 hn' hj, j + 1, ok, ox ++ [xs[j]], _, _, by rw [wrap_succ (jwrap hjm)], nadd hn' hj, Nat.le_trans (by decide) hnb, rfl, .inr ⟨0, 0, by simp [hok, hox], rfl, rfl, hok⟩, by rw [hoxe]; exact (set_non xs y hj hji).symm, hok⟩
    · have hox : True := trivial
      have hk1 : True := trivial
      simp only [aw0, aw1, aw2, aw3, aw4, aw5, aw6, aw7, ne_eq, eq_self, implies_true, imp_self, reduceIte, reduceCtorEq, Nat.reduceAdd, Nat.reduceLT, Nat.reduceLeDiff, Nat.reduceEqDiff, Nat.reduceSub, Nat.reduceMul, Nat.reduceBEq, Int.reduceBEq, Int.reduceBNe, Int.reduceLT, Int.reduceLE, Int.reduceGT, Int.reduceGE, Int.reduceNeg, Int.reduceEq, Int.reduceNe, Int.reduceToNat, Int.reduceAdd, aconv, acvB, capR, acmpnil, appBox, storeB, ares1, appendTo, afill, aeqL, teset, e1, e2, e4, e5, e6, b0, b1, b2, inj_take, inj_drop, inj_agg, inj_len, inj_one, List.length_map, Int.natCast_one, range1, inj_len, inj_one, ne0, ne1, ne2, ne0', ne1', ne2', newTok_boxf, setTok_boxf, skR_app1, boxEq_none, List.length_append, List.length_cons, List.length_nil, List.length_map, Nat.zero_add, List.map_cons, injS, List.map_nil]
      cases hc : decide ((j : Int) < (xs.length : Int)) with
      | false =>
        have hjl : xs.length ≤ j := nlt (by simpa only [decide_eq_false_iff_not] using hc)
        have htx : xs.take j = xs := List.take_of_length_le hjl
      
        rw [htx] at hoxe
      
        simp only [aw0, aw1, aw2, aw3, aw4, aw5, aw6, aw7, ne_eq, eq_self, implies_true, imp_self, reduceIte, reduceCtorEq, Nat.reduceAdd, Nat.reduceLT, Nat.reduceLeDiff, Nat.reduceEqDiff, Nat.reduceSub, Nat.reduceMul, Nat.reduceBEq, Int.reduceBEq, Int.reduceBNe, Int.reduceLT, Int.reduceLE, Int.reduceGT, Int.reduceGE, Int.reduceNeg, Int.reduceEq, Int.reduceNe, Int.reduceToNat, Int.reduceAdd, aconv, acvB, capR, acmpnil, appBox, storeB, ares1, appendTo, afill, aeqL, teset, e1, e2, e4, e5, e6, b0, b1, b2, inj_take, inj_drop, inj_agg, inj_len, inj_one, List.length_map, Int.natCast_one, range1, inj_len, inj_one, ne0, ne1, ne2, ne0', ne1', ne2', newTok_boxf, setTok_boxf, skR_app1, boxEq_none, List.length_append, List.length_cons, List.length_nil, List.length_map, Nat.zero_add, List.map_cons, injS, List.map_nil]
        rw [← hoxe, inj_mk]
        refine ⟨_, rfl, To0.wk (WkAll.cons (.refl _) (.cons (.refl _) (.cons (.refl _) (.cons ?_ (.cons ?_ .nil))))).agg⟩
        · exact .ro
        · exact wk_nil1
      | true =>
        simp only [decide_eq_true_eq] at hc
        have hj : j < xs.length := Int.ofNat_lt.1 hc
      
        have hgx : (xs.map inj)[((j : Nat) : Int).toNat]? = some (inj xs[j]) := by rw [Int.toNat_natCast, List.getElem?_map, List.getElem?_eq_getElem hj]; rfl
      
        simp only [aw0, aw1, aw2, aw3, aw4, aw5, aw6, aw7, ne_eq, eq_self, implies_true, imp_self, reduceIte, reduceCtorEq, Nat.reduceAdd, Nat.reduceLT, Nat.reduceLeDiff, Nat.reduceEqDiff, Nat.reduceSub, Nat.reduceMul, Nat.reduceBEq, Int.reduceBEq, Int.reduceBNe, Int.reduceLT, Int.reduceLE, Int.reduceGT, Int.reduceGE, Int.reduceNeg, Int.reduceEq, Int.reduceNe, Int.reduceToNat, Int.reduceAdd, aconv, acvB, capR, acmpnil, appBox, storeB, ares1, appendTo, afill, aeqL, teset, e1, e2, e4, e5, e6, b0, b1, b2, inj_take, inj_drop, inj_agg, inj_len, inj_one, List.length_map, Int.natCast_one, range1, inj_len, inj_one, ne0, ne1, ne2, ne0', ne1', ne2', newTok_boxf, setTok_boxf, skR_app1, boxEq_none, List.length_append, List.length_cons, List.length_nil, List.length_map, Nat.zero_add, List.map_cons, injS, List.map_nil, hgx, Int.natCast_nonneg]
        refine acode_draw_chain te_ok mixed [] (by kernel_rfl) ?_
        by_cases hji : j = i
        · have hq : (((m : Nat) : Int) == ((j : Nat) : Int)) = true := by rw [him, hji]; exact beq_self_eq_true _
          simp only [aw0, aw1, aw2, aw3, aw4, aw5, aw6, aw7, ne_eq, eq_self, implies_true, imp_self, reduceIte, reduceCtorEq, Nat.reduceAdd, Nat.reduceLT, Nat.reduceLeDiff, Nat.reduceEqDiff, Nat.reduceSub, Nat.reduceMul, Nat.reduceBEq, Int.reduceBEq, Int.reduceBNe, Int.reduceLT, Int.reduceLE, Int.reduceGT, Int.reduceGE, Int.reduceNeg, Int.reduceEq, Int.reduceNe, Int.reduceToNat, Int.reduceAdd, aconv, acvB, capR, acmpnil, appBox, storeB, ares1, appendTo, afill, aeqL, teset, e1, e2, e4, e5, e6, b0, b1, b2, inj_take, inj_drop, inj_agg, inj_len, inj_one, List.length_map, Int.natCast_one, range1, inj_len, inj_one, ne0, ne1, ne2, ne0', ne1', ne2', newTok_boxf, setTok_boxf, skR_app1, boxEq_none, List.length_append, List.length_cons, List.length_nil, List.length_map, Nat.zero_add, List.map_cons, injS, List.map_nil, hnt, hk0, hk1, hbX, hbK, hb1, hb3, hgx, Int.natCast_nonneg, hk4, hq]
          simp only [aw0, aw1, aw2, aw3, aw4, aw5, aw6, aw7, ne_eq, eq_self, implies_true, imp_self, reduceIte, reduceCtorEq, Nat.reduceAdd, Nat.reduceLT, Nat.reduceLeDiff, Nat.reduceEqDiff, Nat.reduceSub, Nat.reduceMul, Nat.reduceBEq, Int.reduceBEq, Int.reduceBNe, Int.reduceLT, Int.reduceLE, Int.reduceGT, Int.reduceGE, Int.reduceNeg, Int.reduceEq, Int.reduceNe, Int.reduceToNat, Int.reduceAdd, aconv, acvB, capR, acmpnil, appBox, storeB, ares1, appendTo, afill, aeqL, teset, e1, e2, e4, e5, e6, b0, b1, b2, inj_take, inj_drop, inj_agg, inj_len, inj_one, List.length_map, Int.natCast_one, range1, inj_len, inj_one, ne0, ne1, ne2, ne0', ne1', ne2', newTok_boxf, setTok_boxf, skR_app1, boxEq_none, List.length_append, List.length_cons, List.length_nil, List.length_map, Nat.zero_add, List.map_cons, injS, List.map_nil, hnt, hk0, hk1, hbX, hbK, hb1, hb3, hgx, Int.natCast_nonneg, hk4, hl1]
          refine acode_draw_chain te_ok mixed [] (by kernel_rfl) ?_
          simp only [aw0, aw1, aw2, aw3, aw4, aw5, aw6, aw7, ne_eq, eq_self, implies_true, imp_self, reduceIte, reduceCtorEq, Nat.reduceAdd, Nat.reduceLT, Nat.reduceLeDiff, Nat.reduceEqDiff, Nat.reduceSub, Nat.reduceMul, Nat.reduceBEq, Int.reduceBEq, Int.reduceBNe, Int.reduceLT, Int.reduceLE, Int.reduceGT, Int.reduceGE, Int.reduceNeg, Int.reduceEq, Int.reduceNe, Int.reduceToNat, Int.reduceAdd, aconv, acvB, capR, acmpnil, appBox, storeB, ares1, appendTo, afill, aeqL, teset, e1, e2, e4, e5, e6, b0, b1, b2, inj_take, inj_drop, inj_agg, inj_len, inj_one, List.length_map, Int.natCast_one, range1, inj_len, inj_one, ne0, ne1, ne2, ne0', ne1', ne2', newTok_boxf, setTok_boxf, skR_app1, boxEq_none, List.length_append, List.length_cons, List.length_nil, List.length_map, Nat.zero_add, List.map_cons, injS, List.map_nil, hnt, hk0, hk1, hbX, hbK, hb1, hb3, hgx, Int.natCast_nonneg, hk4, Nat.add_sub_cancel, takep, Nat.le_refl]
          refine skR_pure (by rw [el_at ho hj hji]; exact hy) ?_
          simp only [aw0, aw1, aw2, aw3, aw4, aw5, aw6, aw7, ne_eq, eq_self, implies_true, imp_self, reduceIte, reduceCtorEq, Nat.reduceAdd, Nat.reduceLT, Nat.reduceLeDiff, Nat.reduceEqDiff, Nat.reduceSub, Nat.reduceMul, Nat.reduceBEq, Int.reduceBEq, Int.reduceBNe, Int.reduceLT, Int.reduceLE, Int.reduceGT, Int.reduceGE, Int.reduceNeg, Int.reduceEq, Int.reduceNe, Int.reduceToNat, Int.reduceAdd, aconv, acvB, capR, acmpnil, appBox, storeB, ares1, appendTo, afill, aeqL, teset, e1, e2, e4, e5, e6, b0, b1, b2, inj_take, inj_drop, inj_agg, inj_len, inj_one, List.length_map, Int.natCast_one, range1, inj_len, inj_one, ne0, ne1, ne2, ne0', ne1', ne2', newTok_boxf, setTok_boxf, skR_app1, boxEq_none, List.length_append, List.length_cons, List.length_nil, List.length_map, Nat.zero_add, List.map_cons, injS, List.map_nil, hnt, hk0, hk1, hbX, hbK, hb1, hb3, hgx, Int.natCast_nonneg, hk4]
          refine ⟨n' - 1, nlt1 hn' hj, j + 1, ok, ox ++ [y], _, _, by rw [wrap_succ (jwrap hjm)], nadd hn' hj, Nat.le_trans (by decide) hnb, rfl, .inr ⟨g + 1, 0, by simp [hok, hox], rfl, rfl, hok⟩, by rw [hoxe]; exact (set_hit xs y hj hji).symm, hok⟩
      
        · have hq : (((m : Nat) : Int) == ((j : Nat) : Int)) = false := ne_int (by rw [him]; exact fun h => hji h.symm)
          have hq2 : decide (((m : Nat) : Int) < 0) = false := nneg m
          simp only [aw0, aw1, aw2, aw3, aw4, aw5, aw6, aw7, ne_eq, eq_self, implies_true, imp_self, reduceIte, reduceCtorEq, Nat.reduceAdd, Nat.reduceLT, Nat.reduceLeDiff, Nat.reduceEqDiff, Nat.reduceSub, Nat.reduceMul, Nat.reduceBEq, Int.reduceBEq, Int.reduceBNe, Int.reduceLT, Int.reduceLE, Int.reduceGT, Int.reduceGE, Int.reduceNeg, Int.reduceEq, Int.reduceNe, Int.reduceToNat, Int.reduceAdd, aconv, acvB, capR, acmpnil, appBox, storeB, ares1, appendTo, afill, aeqL, teset, e1, e2, e4, e5, e6, b0, b1, b2, inj_take, inj_drop, inj_agg, inj_len, inj_one, List.length_map, Int.natCast_one, range1, inj_len, inj_one, ne0, ne1, ne2, ne0', ne1', ne2', newTok_boxf, setTok_boxf, skR_app1, boxEq_none, List.length_append, List.length_cons, List.length_nil, List.length_map, Nat.zero_add, List.map_cons, injS, List.map_nil, hnt, hk0, hk1, hbX, hbK, hb1, hb3, hgx, Int.natCast_nonneg, hk4, hq, hq2]
          refine ⟨n' - 1, nlt1 hn' hj, j + 1, ok, ox ++ [xs[j]], _, _, by rw [wrap_succ (jwrap hjm)], nadd hn' hj, Nat.le_trans (by decide) hnb, rfl, .inr ⟨g + 1, 0, by simp [hok, hox], rfl, rfl, hok⟩, by rw [hoxe]; exact (set_non xs y hj hji).symm, hok⟩

set_option maxHeartbeats 40000000 in
theorem refwo_m5 (xs : List V) (ks : List ByteArray) (key : ByteArray) (i : Nat) (hi : i < xs.length) (hx6 : xs.length < 1000000) (ix : Int) (hix : ix < 0) (hkl : ks.length = xs.length) (ha : Asc ks) (hkey : ks[i]? = some key) (p : List Stp) (hp : p ≠ []) (o y : V) (ho : xs[i]? = some o) (hy : Pure Tryz.prog 48 [inj o, .sl .ro 2 (p.map injS)] (inj y)) : Pure Tryz.prog 48 [.agg [.int .i64 5, .int .i64 0, .str ⟨#[]⟩, .sl .ro 5 (xs.map inj), .sl .ro 1 (ks.map .str)], .sl .ro 2 (.agg [.int .i64 ix, .str key] :: p.map injS)] (inj (.mk 5 0 ⟨#[]⟩ (xs.set i y) (ks))) := by
  refine Pure.of0 ⟨Tryz.f48, Tryz.func48, rfl, by kernel_rfl⟩ (by
    have h1 := injs_under xs
    have h2 := strs_under ks
    have h3 := injS_under p
    simp [AV.underL, AV.under, h1, h2, h3]) (inj_under _) ?_
  have hpl : 0 < p.length := List.length_pos_iff.2 hp
  have hl1 : (((p.length + 1 : Nat) : Int) == 1) = false := len_ne1 hpl
  have takep : List.take p.length (p.map injS) = p.map injS := List.take_of_length_le (Nat.le_of_eq (List.length_map ..))
  have hk5 : True := trivial
  have hk4 : True := trivial
  refine acalls_of te_ok [] Tryz.func48 (c := _) rfl (Nat.le_of_ble_eq_true rfl) ?_
  simp only [aw0, aw1, aw2, aw3, aw4, aw5, aw6, aw7, ne_eq, eq_self, implies_true, imp_self, reduceIte, reduceCtorEq, Nat.reduceAdd, Nat.reduceLT, Nat.reduceLeDiff, Nat.reduceEqDiff, Nat.reduceSub, Nat.reduceMul, Nat.reduceBEq, Int.reduceBEq, Int.reduceBNe, Int.reduceLT, Int.reduceLE, Int.reduceGT, Int.reduceGE, Int.reduceNeg, Int.reduceEq, Int.reduceNe, Int.reduceToNat, Int.reduceAdd, aconv, acvB, capR, acmpnil, appBox, storeB, ares1, appendTo, afill, aeqL, teset, Tryz.ntmps48, Tryz.results48, inj_take, inj_drop, inj_agg, inj_len, inj_one, List.length_map, boxR, none_nb, none_box]
  refine ⟨fun n' s' h' => ∃ (j : Nat) (ok : List ByteArray) (ox : List V) (aK aX : AV), s' 1 = .sl .ro 2 (.agg [.int .i64 ix, .str key] :: p.map injS) ∧ s' 2 = .ptr 0 0 ∧ s' 4 = .ptr 1 0 ∧ s' 5 = .ptr 2 0 ∧ s' 6 = .int .i64 j ∧ n' + j = xs.length ∧ 3 ≤ h'.nb ∧
    h'.box 0 = some [.int .i64 5, .int .i64 0, .str ⟨#[]⟩, .sl .ro 5 (xs.map inj), .sl .ro 1 (ks.map .str)] ∧ h'.box 1 = some [.int .i64 0, .int .i64 0, .str ⟨#[]⟩, .sl .full 0 [], .sl .full 0 []] ∧ h'.box 2 = some [.int .i64 5, .int .i64 0, .str ⟨#[]⟩, aX, aK] ∧
    ((ox = [] ∧ ok = [] ∧ aX = .sl .full 0 [] ∧ aK = .sl .full 0 [] ∧ h'.nt = 0) ∨ (∃ g g' : Nat, aX = .sl (.tok 0 g) 5 (ox.map inj) ∧ h'.tok 0 = some g ∧ aK = .sl (.tok 1 g') 1 (ok.map .str) ∧ h'.tok 1 = some g' ∧ h'.nt = 2)) ∧ ox = (xs.take j).set i y ∧ ok = ks.take j, ⟨xs.length, 0, [], [], .sl .full 0 [], .sl .full 0 [], ?_⟩, ?_⟩
  · simp only [aw0, aw1, aw2, aw3, aw4, aw5, aw6, aw7, ne_eq, eq_self, implies_true, imp_self, reduceIte, reduceCtorEq, Nat.reduceAdd, Nat.reduceLT, Nat.reduceLeDiff, Nat.reduceEqDiff, Nat.reduceSub, Nat.reduceMul, Nat.reduceBEq, Int.reduceBEq, Int.reduceBNe, Int.reduceLT, Int.reduceLE, Int.reduceGT, Int.reduceGE, Int.reduceNeg, Int.reduceEq, Int.reduceNe, Int.reduceToNat, Int.reduceAdd, aconv, acvB, capR, acmpnil, appBox, storeB, ares1, appendTo, afill, aeqL, teset, Int.natCast_zero, none_nb, none_box, none_nt, List.take_zero, List.eraseIdx_nil, List.set_nil, Nat.le_refl]
  · rintro n' s' h' ⟨j, ok, ox, aK, aX, e1, e2, e4, e5, e6, hn', hnb, b0, b1, b2, hown, hoxe, hoke⟩
    have hjm : j < 1000000 := jlt hn' hx6
    have ne0 : (0 = h'.nb) = False := eq_false (by omega)
    have ne1 : (1 = h'.nb) = False := eq_false (by omega)
    have ne2 : (2 = h'.nb) = False := eq_false (by omega)
    have ne0' : (h'.nb = 0) = False := eq_false (by omega)
    have ne1' : (h'.nb = 1) = False := eq_false (by omega)
    have ne2' : (h'.nb = 2) = False := eq_false (by omega)
    have hbX : (ox.length + 1) * 80 ≤ 140737488355328 := b80 (by rw [hoxe]; exact set_len xs i y j) hjm
    have hbK : (ok.length + 1) * 16 ≤ 140737488355328 := b16 (by rw [hoke]; exact take_len1 ks j) hjm
    have hb1 : (0 + 1) * 16 ≤ 140737488355328 := by decide
    have hb3 : (0 + 1) * 80 ≤ 140737488355328 := by decide
    rcases hown with ⟨hox, hok, rfl, rfl, hnt⟩ | ⟨g, g', rfl, hk0, rfl, hk1, hnt⟩
    · have hk0 : True := trivial
      have hk1 : True := trivial
      simp only [aw0, aw1, aw2, aw3, aw4, aw5, aw6, aw7, ne_eq, eq_self, implies_true, imp_self, reduceIte, reduceCtorEq, Nat.reduceAdd, Nat.reduceLT, Nat.reduceLeDiff, Nat.reduceEqDiff, Nat.reduceSub, Nat.reduceMul, Nat.reduceBEq, Int.reduceBEq, Int.reduceBNe, Int.reduceLT, Int.reduceLE, Int.reduceGT, Int.reduceGE, Int.reduceNeg, Int.reduceEq, Int.reduceNe, Int.reduceToNat, Int.reduceAdd, aconv, acvB, capR, acmpnil, appBox, storeB, ares1, appendTo, afill, aeqL, teset, e1, e2, e4, e5, e6, b0, b1, b2, inj_take, inj_drop, inj_agg, inj_len, inj_one, List.length_map, Int.natCast_one, range1, inj_len, inj_one, ne0, ne1, ne2, ne0', ne1', ne2', newTok_boxf, setTok_boxf, skR_app1, boxEq_none, List.length_append, List.length_cons, List.length_nil, List.length_map, Nat.zero_add, List.map_cons, injS, List.map_nil]
      cases hc : decide ((j : Int) < (xs.length : Int)) with
      | false =>
        have hjl : xs.length ≤ j := nlt (by simpa only [decide_eq_false_iff_not] using hc)
        have htx : xs.take j = xs := List.take_of_length_le hjl
        have htk : ks.take j = ks := List.take_of_length_le (hkl ▸ hjl)
        rw [htx] at hoxe
        rw [htk] at hoke
        simp only [aw0, aw1, aw2, aw3, aw4, aw5, aw6, aw7, ne_eq, eq_self, implies_true, imp_self, reduceIte, reduceCtorEq, Nat.reduceAdd, Nat.reduceLT, Nat.reduceLeDiff, Nat.reduceEqDiff, Nat.reduceSub, Nat.reduceMul, Nat.reduceBEq, Int.reduceBEq, Int.reduceBNe, Int.reduceLT, Int.reduceLE, Int.reduceGT, Int.reduceGE, Int.reduceNeg, Int.reduceEq, Int.reduceNe, Int.reduceToNat, Int.reduceAdd, aconv, acvB, capR, acmpnil, appBox, storeB, ares1, appendTo, afill, aeqL, teset, e1, e2, e4, e5, e6, b0, b1, b2, inj_take, inj_drop, inj_agg, inj_len, inj_one, List.length_map, Int.natCast_one, range1, inj_len, inj_one, ne0, ne1, ne2, ne0', ne1', ne2', newTok_boxf, setTok_boxf, skR_app1, boxEq_none, List.length_append, List.length_cons, List.length_nil, List.length_map, Nat.zero_add, List.map_cons, injS, List.map_nil]
        rw [← hoxe, ← hoke, inj_mk]
        refine ⟨_, rfl, To0.wk (WkAll.cons (.refl _) (.cons (.refl _) (.cons (.refl _) (.cons ?_ (.cons ?_ .nil))))).agg⟩
        · rw [hox]; exact wk_nil5
        · rw [hok]; exact wk_nil1
      | true =>
        simp only [decide_eq_true_eq] at hc
        have hj : j < xs.length := Int.ofNat_lt.1 hc
        have hjk : j < ks.length := hkl ▸ hj
        have hgx : (xs.map inj)[((j : Nat) : Int).toNat]? = some (inj xs[j]) := by rw [Int.toNat_natCast, List.getElem?_map, List.getElem?_eq_getElem hj]; rfl
        have hgk : (ks.map AV.str)[((j : Nat) : Int).toNat]? = some (.str ks[j]) := by rw [Int.toNat_natCast, List.getElem?_map, List.getElem?_eq_getElem hjk]; rfl
        simp only [aw0, aw1, aw2, aw3, aw4, aw5, aw6, aw7, ne_eq, eq_self, implies_true, imp_self, reduceIte, reduceCtorEq, Nat.reduceAdd, Nat.reduceLT, Nat.reduceLeDiff, Nat.reduceEqDiff, Nat.reduceSub, Nat.reduceMul, Nat.reduceBEq, Int.reduceBEq, Int.reduceBNe, Int.reduceLT, Int.reduceLE, Int.reduceGT, Int.reduceGE, Int.reduceNeg, Int.reduceEq, Int.reduceNe, Int.reduceToNat, Int.reduceAdd, aconv, acvB, capR, acmpnil, appBox, storeB, ares1, appendTo, afill, aeqL, teset, e1, e2, e4, e5, e6, b0, b1, b2, inj_take, inj_drop, inj_agg, inj_len, inj_one, List.length_map, Int.natCast_one, range1, inj_len, inj_one, ne0, ne1, ne2, ne0', ne1', ne2', newTok_boxf, setTok_boxf, skR_app1, boxEq_none, List.length_append, List.length_cons, List.length_nil, List.length_map, Nat.zero_add, List.map_cons, injS, List.map_nil, hgx, Int.natCast_nonneg]
        refine acode_draw_chain te_ok mixed [] (by kernel_rfl) ?_
        have hq : (ix == ((j : Nat) : Int)) = false := neg_ne hix j
        have hq2 : decide (ix < 0) = true := decide_eq_true hix
        simp only [aw0, aw1, aw2, aw3, aw4, aw5, aw6, aw7, ne_eq, eq_self, implies_true, imp_self, reduceIte, reduceCtorEq, Nat.reduceAdd, Nat.reduceLT, Nat.reduceLeDiff, Nat.reduceEqDiff, Nat.reduceSub, Nat.reduceMul, Nat.reduceBEq, Int.reduceBEq, Int.reduceBNe, Int.reduceLT, Int.reduceLE, Int.reduceGT, Int.reduceGE, Int.reduceNeg, Int.reduceEq, Int.reduceNe, Int.reduceToNat, Int.reduceAdd, aconv, acvB, capR, acmpnil, appBox, storeB, ares1, appendTo, afill, aeqL, teset, e1, e2, e4, e5, e6, b0, b1, b2, inj_take, inj_drop, inj_agg, inj_len, inj_one, List.length_map, Int.natCast_one, range1, inj_len, inj_one, ne0, ne1, ne2, ne0', ne1', ne2', newTok_boxf, setTok_boxf, skR_app1, boxEq_none, List.length_append, List.length_cons, List.length_nil, List.length_map, Nat.zero_add, List.map_cons, injS, List.map_nil, hnt, hk0, hk1, hbX, hbK, hb1, hb3, hgx, Int.natCast_nonneg, hgk, hk5, hq, hq2]
        by_cases hji : j = i
        · have hqk : (ks[j].toList == key.toList) = true := by rw [key_at hkey hjk hji]; exact beq_self_eq_true _
          simp only [aw0, aw1, aw2, aw3, aw4, aw5, aw6, aw7, ne_eq, eq_self, implies_true, imp_self, reduceIte, reduceCtorEq, Nat.reduceAdd, Nat.reduceLT, Nat.reduceLeDiff, Nat.reduceEqDiff, Nat.reduceSub, Nat.reduceMul, Nat.reduceBEq, Int.reduceBEq, Int.reduceBNe, Int.reduceLT, Int.reduceLE, Int.reduceGT, Int.reduceGE, Int.reduceNeg, Int.reduceEq, Int.reduceNe, Int.reduceToNat, Int.reduceAdd, aconv, acvB, capR, acmpnil, appBox, storeB, ares1, appendTo, afill, aeqL, teset, e1, e2, e4, e5, e6, b0, b1, b2, inj_take, inj_drop, inj_agg, inj_len, inj_one, List.length_map, Int.natCast_one, range1, inj_len, inj_one, ne0, ne1, ne2, ne0', ne1', ne2', newTok_boxf, setTok_boxf, skR_app1, boxEq_none, List.length_append, List.length_cons, List.length_nil, List.length_map, Nat.zero_add, List.map_cons, injS, List.map_nil, hnt, hk0, hk1, hbX, hbK, hb1, hb3, hgx, Int.natCast_nonneg, hgk, hk5, hqk]
          simp only [aw0, aw1, aw2, aw3, aw4, aw5, aw6, aw7, ne_eq, eq_self, implies_true, imp_self, reduceIte, reduceCtorEq, Nat.reduceAdd, Nat.reduceLT, Nat.reduceLeDiff, Nat.reduceEqDiff, Nat.reduceSub, Nat.reduceMul, Nat.reduceBEq, Int.reduceBEq, Int.reduceBNe, Int.reduceLT, Int.reduceLE, Int.reduceGT, Int.reduceGE, Int.reduceNeg, Int.reduceEq, Int.reduceNe, Int.reduceToNat, Int.reduceAdd, aconv, acvB, capR, acmpnil, appBox, storeB, ares1, appendTo, afill, aeqL, teset, e1, e2, e4, e5, e6, b0, b1, b2, inj_take, inj_drop, inj_agg, inj_len, inj_one, List.length_map, Int.natCast_one, range1, inj_len, inj_one, ne0, ne1, ne2, ne0', ne1', ne2', newTok_boxf, setTok_boxf, skR_app1, boxEq_none, List.length_append, List.length_cons, List.length_nil, List.length_map, Nat.zero_add, List.map_cons, injS, List.map_nil, hnt, hk0, hk1, hbX, hbK, hb1, hb3, hgx, Int.natCast_nonneg, hgk, hk5, hl1]
          refine acode_draw_chain te_ok mixed [] (by kernel_rfl) ?_
          simp only [aw0, aw1, aw2, aw3, aw4, aw5, aw6, aw7, ne_eq, eq_self, implies_true, imp_self, reduceIte, reduceCtorEq, Nat.reduceAdd, Nat.reduceLT, Nat.reduceLeDiff, Nat.reduceEqDiff, Nat.reduceSub, Nat.reduceMul, Nat.reduceBEq, Int.reduceBEq, Int.reduceBNe, Int.reduceLT, Int.reduceLE, Int.reduceGT, Int.reduceGE, Int.reduceNeg, Int.reduceEq, Int.reduceNe, Int.reduceToNat, Int.reduceAdd, aconv, acvB, capR, acmpnil, appBox, storeB, ares1, appendTo, afill, aeqL, teset, e1, e2, e4, e5, e6, b0, b1, b2, inj_take, inj_drop, inj_agg, inj_len, inj_one, List.length_map, Int.natCast_one, range1, inj_len, inj_one, ne0, ne1, ne2, ne0', ne1', ne2', newTok_boxf, setTok_boxf, skR_app1, boxEq_none, List.length_append, List.length_cons, List.length_nil, List.length_map, Nat.zero_add, List.map_cons, injS, List.map_nil, hnt, hk0, hk1, hbX, hbK, hb1, hb3, hgx, Int.natCast_nonneg, hgk, hk5, Nat.add_sub_cancel, takep, Nat.le_refl]
          refine skR_pure (by rw [el_at ho hj hji]; exact hy) ?_
          simp only [aw0, aw1, aw2, aw3, aw4, aw5, aw6, aw7, ne_eq, eq_self, implies_true, imp_self, reduceIte, reduceCtorEq, Nat.reduceAdd, Nat.reduceLT, Nat.reduceLeDiff, Nat.reduceEqDiff, Nat.reduceSub, Nat.reduceMul, Nat.reduceBEq, Int.reduceBEq, Int.reduceBNe, Int.reduceLT, Int.reduceLE, Int.reduceGT, Int.reduceGE, Int.reduceNeg, Int.reduceEq, Int.reduceNe, Int.reduceToNat, Int.reduceAdd, aconv, acvB, capR, acmpnil, appBox, storeB, ares1, appendTo, afill, aeqL, teset, e1, e2, e4, e5, e6, b0, b1, b2, inj_take, inj_drop, inj_agg, inj_len, inj_one, List.length_map, Int.natCast_one, range1, inj_len, inj_one, ne0, ne1, ne2, ne0', ne1', ne2', newTok_boxf, setTok_boxf, skR_app1, boxEq_none, List.length_append, List.length_cons, List.length_nil, List.length_map, Nat.zero_add, List.map_cons, injS, List.map_nil, hnt, hk0, hk1, hbX, hbK, hb1, hb3, hgx, Int.natCast_nonneg, hgk, hk5]
          refine .inl ?_
          refine acode_draw_chain te_ok mixed [] (by kernel_rfl) ?_
          simp only [aw0, aw1, aw2, aw3, aw4, aw5, aw6, aw7, ne_eq, eq_self, implies_true, imp_self, reduceIte, reduceCtorEq, Nat.reduceAdd, Nat.reduceLT, Nat.reduceLeDiff, Nat.reduceEqDiff, Nat.reduceSub, Nat.reduceMul, Nat.reduceBEq, Int.reduceBEq, Int.reduceBNe, Int.reduceLT, Int.reduceLE, Int.reduceGT, Int.reduceGE, Int.reduceNeg, Int.reduceEq, Int.reduceNe, Int.reduceToNat, Int.reduceAdd, aconv, acvB, capR, acmpnil, appBox, storeB, ares1, appendTo, afill, aeqL, teset, e1, e2, e4, e5, e6, b0, b1, b2, inj_take, inj_drop, inj_agg, inj_len, inj_one, List.length_map, Int.natCast_one, range1, inj_len, inj_one, ne0, ne1, ne2, ne0', ne1', ne2', newTok_boxf, setTok_boxf, skR_app1, boxEq_none, List.length_append, List.length_cons, List.length_nil, List.length_map, Nat.zero_add, List.map_cons, injS, List.map_nil, hnt, hk0, hk1, hbX, hbK, hb1, hb3, hgx, Int.natCast_nonneg, hgk, hk5]
          refine ⟨n' - 1, nlt1 hn' hj, j + 1, ok ++ [ks[j]], ox ++ [y], _, _, by rw [wrap_succ (jwrap hjm)], nadd hn' hj, Nat.le_trans (by decide) hnb, rfl, .inr ⟨0, 0, by simp [hok, hox], rfl, by simp [hok, hox], rfl⟩, by rw [hoxe]; exact (set_hit xs y hj hji).symm, by rw [hoke]; exact (take_step ks hjk).symm⟩
      
        · have hqk : (ks[j].toList == key.toList) = false := ba_ne (fun e => hji (asc_inj ha (by rw [List.getElem?_eq_getElem hjk, e]) hkey))
          simp only [aw0, aw1, aw2, aw3, aw4, aw5, aw6, aw7, ne_eq, eq_self, implies_true, imp_self, reduceIte, reduceCtorEq, Nat.reduceAdd, Nat.reduceLT, Nat.reduceLeDiff, Nat.reduceEqDiff, Nat.reduceSub, Nat.reduceMul, Nat.reduceBEq, Int.reduceBEq, Int.reduceBNe, Int.reduceLT, Int.reduceLE, Int.reduceGT, Int.reduceGE, Int.reduceNeg, Int.reduceEq, Int.reduceNe, Int.reduceToNat, Int.reduceAdd, aconv, acvB, capR, acmpnil, appBox, storeB, ares1, appendTo, afill, aeqL, teset, e1, e2, e4, e5, e6, b0, b1, b2, inj_take, inj_drop, inj_agg, inj_len, inj_one, List.length_map, Int.natCast_one, range1, inj_len, inj_one, ne0, ne1, ne2, ne0', ne1', ne2', newTok_boxf, setTok_boxf, skR_app1, boxEq_none, List.length_append, List.length_cons, List.length_nil, List.length_map, Nat.zero_add, List.map_cons, injS, List.map_nil, hnt, hk0, hk1, hbX, hbK, hb1, hb3, hgx, Int.natCast_nonneg, hgk, hk5, hqk]
          refine .inl ?_
          refine acode_draw_chain te_ok mixed [] (by kernel_rfl) ?_
          simp only [aw0, aw1, aw2, aw3, aw4, aw5, aw6, aw7, ne_eq, eq_self, implies_true, imp_self, reduceIte, reduceCtorEq, Nat.reduceAdd, Nat.reduceLT, Nat.reduceLeDiff, Nat.reduceEqDiff, Nat.reduceSub, Nat.reduceMul, Nat.reduceBEq, Int.reduceBEq, Int.reduceBNe, Int.reduceLT, Int.reduceLE, Int.reduceGT, Int.reduceGE, Int.reduceNeg, Int.reduceEq, Int.reduceNe, Int.reduceToNat, Int.reduceAdd, aconv, acvB, capR, acmpnil, appBox, storeB, ares1, appendTo, afill, aeqL, teset, e1, e2, e4, e5, e6, b0, b1, b2, inj_take, inj_drop, inj_agg, inj_len, inj_one, List.length_map, Int.natCast_one, range1, inj_len, inj_one, ne0, ne1, ne2, ne0', ne1', ne2', newTok_boxf, setTok_boxf, skR_app1, boxEq_none, List.length_append, List.length_cons, List.length_nil, List.length_map, Nat.zero_add, List.map_cons, injS, List.map_nil, hnt, hk0, hk1, hbX, hbK, hb1, hb3, hgx, Int.natCast_nonneg, hgk, hk5]
          refine ⟨n' - 1, nlt1 hn' hj, j + 1, ok ++ [ks[j]], ox ++ [xs[j]], _, _, by rw [wrap_succ (jwrap hjm)], nadd hn' hj, Nat.le_trans (by decide) hnb, rfl, .inr ⟨0, 0, by simp [hok, hox], rfl, by simp [hok, hox], rfl⟩, by rw [hoxe]; exact (set_non xs y hj hji).symm, by rw [hoke]; exact (take_step ks hjk).symm⟩
    · have hox : True := trivial
      have hok : True := trivial
      simp only [aw0, aw1, aw2, aw3, aw4, aw5, aw6, aw7, ne_eq, eq_self, implies_true, imp_self, reduceIte, reduceCtorEq, Nat.reduceAdd, Nat.reduceLT, Nat.reduceLeDiff, Nat.reduceEqDiff, Nat.reduceSub, Nat.reduceMul, Nat.reduceBEq, Int.reduceBEq, Int.reduceBNe, Int.reduceLT, Int.reduceLE, Int.reduceGT, Int.reduceGE, Int.reduceNeg, Int.reduceEq, Int.reduceNe, Int.reduceToNat, Int.reduceAdd, aconv, acvB, capR, acmpnil, appBox, storeB, ares1, appendTo, afill, aeqL, teset, e1, e2, e4, e5, e6, b0, b1, b2, inj_take, inj_drop, inj_agg, inj_len, inj_one, List.length_map, Int.natCast_one, range1, inj_len, inj_one, ne0, ne1, ne2, ne0', ne1', ne2', newTok_boxf, setTok_boxf, skR_app1, boxEq_none, List.length_append, List.length_cons, List.length_nil, List.length_map, Nat.zero_add, List.map_cons, injS, List.map_nil]
      cases hc : decide ((j : Int) < (xs.length : Int)) with
      | false =>
        have hjl : xs.length ≤ j := nlt (by simpa only [decide_eq_false_iff_not] using hc)
        have htx : xs.take j = xs := List.take_of_length_le hjl
        have htk : ks.take j = ks := List.take_of_length_le (hkl ▸ hjl)
        rw [htx] at hoxe
        rw [htk] at hoke
        simp only [aw0, aw1, aw2, aw3, aw4, aw5, aw6, aw7, ne_eq, eq_self, implies_true, imp_self, reduceIte, reduceCtorEq, Nat.reduceAdd, Nat.reduceLT, Nat.reduceLeDiff, Nat.reduceEqDiff, Nat.reduceSub, Nat.reduceMul, Nat.reduceBEq, Int.reduceBEq, Int.reduceBNe, Int.reduceLT, Int.reduceLE, Int.reduceGT, Int.reduceGE, Int.reduceNeg, Int.reduceEq, Int.reduceNe, Int.reduceToNat, Int.reduceAdd, aconv, acvB, capR, acmpnil, appBox, storeB, ares1, appendTo, afill, aeqL, teset, e1, e2, e4, e5, e6, b0, b1, b2, inj_take, inj_drop, inj_agg, inj_len, inj_one, List.length_map, Int.natCast_one, range1, inj_len, inj_one, ne0, ne1, ne2, ne0', ne1', ne2', newTok_boxf, setTok_boxf, skR_app1, boxEq_none, List.length_append, List.length_cons, List.length_nil, List.length_map, Nat.zero_add, List.map_cons, injS, List.map_nil]
        rw [← hoxe, ← hoke, inj_mk]
        refine ⟨_, rfl, To0.wk (WkAll.cons (.refl _) (.cons (.refl _) (.cons (.refl _) (.cons ?_ (.cons ?_ .nil))))).agg⟩
        · exact .ro
        · exact .ro
      | true =>
        simp only [decide_eq_true_eq] at hc
        have hj : j < xs.length := Int.ofNat_lt.1 hc
        have hjk : j < ks.length := hkl ▸ hj
        have hgx : (xs.map inj)[((j : Nat) : Int).toNat]? = some (inj xs[j]) := by rw [Int.toNat_natCast, List.getElem?_map, List.getElem?_eq_getElem hj]; rfl
        have hgk : (ks.map AV.str)[((j : Nat) : Int).toNat]? = some (.str ks[j]) := by rw [Int.toNat_natCast, List.getElem?_map, List.getElem?_eq_getElem hjk]; rfl
        simp only [aw0, aw1, aw2, aw3, aw4, aw5, aw6, aw7, ne_eq, eq_self, implies_true, imp_self, reduceIte, reduceCtorEq, Nat.reduceAdd, Nat.reduceLT, Nat.reduceLeDiff, Nat.reduceEqDiff, Nat.reduceSub, Nat.reduceMul, Nat.reduceBEq, Int.reduceBEq, Int.reduceBNe, Int.reduceLT, Int.reduceLE, Int.reduceGT, Int.reduceGE, Int.reduceNeg, Int.reduceEq, Int.reduceNe, Int.reduceToNat, Int.reduceAdd, aconv, acvB, capR, acmpnil, appBox, storeB, ares1, appendTo, afill, aeqL, teset, e1, e2, e4, e5, e6, b0, b1, b2, inj_take, inj_drop, inj_agg, inj_len, inj_one, List.length_map, Int.natCast_one, range1, inj_len, inj_one, ne0, ne1, ne2, ne0', ne1', ne2', newTok_boxf, setTok_boxf, skR_app1, boxEq_none, List.length_append, List.length_cons, List.length_nil, List.length_map, Nat.zero_add, List.map_cons, injS, List.map_nil, hgx, Int.natCast_nonneg]
        refine acode_draw_chain te_ok mixed [] (by kernel_rfl) ?_
        have hq : (ix == ((j : Nat) : Int)) = false := neg_ne hix j
        have hq2 : decide (ix < 0) = true := decide_eq_true hix
        simp only [aw0, aw1, aw2, aw3, aw4, aw5, aw6, aw7, ne_eq, eq_self, implies_true, imp_self, reduceIte, reduceCtorEq, Nat.reduceAdd, Nat.reduceLT, Nat.reduceLeDiff, Nat.reduceEqDiff, Nat.reduceSub, Nat.reduceMul, Nat.reduceBEq, Int.reduceBEq, Int.reduceBNe, Int.reduceLT, Int.reduceLE, Int.reduceGT, Int.reduceGE, Int.reduceNeg, Int.reduceEq, Int.reduceNe, Int.reduceToNat, Int.reduceAdd, aconv, acvB, capR, acmpnil, appBox, storeB, ares1, appendTo, afill, aeqL, teset, e1, e2, e4, e5, e6, b0, b1, b2, inj_take, inj_drop, inj_agg, inj_len, inj_one, List.length_map, Int.natCast_one, range1, inj_len, inj_one, ne0, ne1, ne2, ne0', ne1', ne2', newTok_boxf, setTok_boxf, skR_app1, boxEq_none, List.length_append, List.length_cons, List.length_nil, List.length_map, Nat.zero_add, List.map_cons, injS, List.map_nil, hnt, hk0, hk1, hbX, hbK, hb1, hb3, hgx, Int.natCast_nonneg, hgk, hk5, hq, hq2]
        by_cases hji : j = i
        · have hqk : (ks[j].toList == key.toList) = true := by rw [key_at hkey hjk hji]; exact beq_self_eq_true _
          simp only [aw0, aw1, aw2, aw3, aw4, aw5, aw6, aw7, ne_eq, eq_self, implies_true, imp_self, reduceIte, reduceCtorEq, Nat.reduceAdd, Nat.reduceLT, Nat.reduceLeDiff, Nat.reduceEqDiff, Nat.reduceSub, Nat.reduceMul, Nat.reduceBEq, Int.reduceBEq, Int.reduceBNe, Int.reduceLT, Int.reduceLE, Int.reduceGT, Int.reduceGE, Int.reduceNeg, Int.reduceEq, Int.reduceNe, Int.reduceToNat, Int.reduceAdd, aconv, acvB, capR, acmpnil, appBox, storeB, ares1, appendTo, afill, aeqL, teset, e1, e2, e4, e5, e6, b0, b1, b2, inj_take, inj_drop, inj_agg, inj_len, inj_one, List.length_map, Int.natCast_one, range1, inj_len, inj_one, ne0, ne1, ne2, ne0', ne1', ne2', newTok_boxf, setTok_boxf, skR_app1, boxEq_none, List.length_append, List.length_cons, List.length_nil, List.length_map, Nat.zero_add, List.map_cons, injS, List.map_nil, hnt, hk0, hk1, hbX, hbK, hb1, hb3, hgx, Int.natCast_nonneg, hgk, hk5, hqk]
          simp only [aw0, aw1, aw2, aw3, aw4, aw5, aw6, aw7, ne_eq, eq_self, implies_true, imp_self, reduceIte, reduceCtorEq, Nat.reduceAdd, Nat.reduceLT, Nat.reduceLeDiff, Nat.reduceEqDiff, Nat.reduceSub, Nat.reduceMul, Nat.reduceBEq, Int.reduceBEq, Int.reduceBNe, Int.reduceLT, Int.reduceLE, Int.reduceGT, Int.reduceGE, Int.reduceNeg, Int.reduceEq, Int.reduceNe, Int.reduceToNat, Int.reduceAdd, aconv, acvB, capR, acmpnil, appBox, storeB, ares1, appendTo, afill, aeqL, teset, e1, e2, e4, e5, e6, b0, b1, b2, inj_take, inj_drop, inj_agg, inj_len, inj_one, List.length_map, Int.natCast_one, range1, inj_len, inj_one, ne0, ne1, ne2, ne0', ne1', ne2', newTok_boxf, setTok_boxf, skR_app1, boxEq_none, List.length_append, List.length_cons, List.length_nil, List.length_map, Nat.zero_add, List.map_cons, injS, List.map_nil, hnt, hk0, hk1, hbX, hbK, hb1, hb3, hgx, Int.natCast_nonneg, hgk, hk5, hl1]
          refine acode_draw_chain te_ok mixed [] (by kernel_rfl) ?_
          simp only [aw0, aw1, aw2, aw3, aw4, aw5, aw6, aw7, ne_eq, eq_self, implies_true, imp_self, reduceIte, reduceCtorEq, Nat.reduceAdd, Nat.reduceLT, Nat.reduceLeDiff, Nat.reduceEqDiff, Nat.reduceSub, Nat.reduceMul, Nat.reduceBEq, Int.reduceBEq, Int.reduceBNe, Int.reduceLT, Int.reduceLE, Int.reduceGT, Int.reduceGE, Int.reduceNeg, Int.reduceEq, Int.reduceNe, Int.reduceToNat, Int.reduceAdd, aconv, acvB, capR, acmpnil, appBox, storeB, ares1, appendTo, afill, aeqL, teset, e1, e2, e4, e5, e6, b0, b1, b2, inj_take, inj_drop, inj_agg, inj_len, inj_one, List.length_map, Int.natCast_one, range1, inj_len, inj_one, ne0, ne1, ne2, ne0', ne1', ne2', newTok_boxf, setTok_boxf, skR_app1, boxEq_none, List.length_append, List.length_cons, List.length_nil, List.length_map, Nat.zero_add, List.map_cons, injS, List.map_nil, hnt, hk0, hk1, hbX, hbK, hb1, hb3, hgx, Int.natCast_nonneg, hgk, hk5, Nat.add_sub_cancel, takep, Nat.le_refl]
          refine skR_pure (by rw [el_at ho hj hji]; exact hy) ?_
          simp only [aw0, aw1, aw2, aw3, aw4, aw5, aw6, aw7, ne_eq, eq_self, implies_true, imp_self, reduceIte, reduceCtorEq, Nat.reduceAdd, Nat.reduceLT, Nat.reduceLeDiff, Nat.reduceEqDiff, Nat.reduceSub, Nat.reduceMul, Nat.reduceBEq, Int.reduceBEq, Int.reduceBNe, Int.reduceLT, Int.reduceLE, Int.reduceGT, Int.reduceGE, Int.reduceNeg, Int.reduceEq, Int.reduceNe, Int.reduceToNat, Int.reduceAdd, aconv, acvB, capR, acmpnil, appBox, storeB, ares1, appendTo, afill, aeqL, teset, e1, e2, e4, e5, e6, b0, b1, b2, inj_take, inj_drop, inj_agg, inj_len, inj_one, List.length_map, Int.natCast_one, range1, inj_len, inj_one, ne0, ne1, ne2, ne0', ne1', ne2', newTok_boxf, setTok_boxf, skR_app1, boxEq_none, List.length_append, List.length_cons, List.length_nil, List.length_map, Nat.zero_add, List.map_cons, injS, List.map_nil, hnt, hk0, hk1, hbX, hbK, hb1, hb3, hgx, Int.natCast_nonneg, hgk, hk5]
          refine acode_draw_chain te_ok mixed [] (by kernel_rfl) ?_
          simp only [aw0, aw1, aw2, aw3, aw4, aw5, aw6, aw7, ne_eq, eq_self, implies_true, imp_self, reduceIte, reduceCtorEq, Nat.reduceAdd, Nat.reduceLT, Nat.reduceLeDiff, Nat.reduceEqDiff, Nat.reduceSub, Nat.reduceMul, Nat.reduceBEq, Int.reduceBEq, Int.reduceBNe, Int.reduceLT, Int.reduceLE, Int.reduceGT, Int.reduceGE, Int.reduceNeg, Int.reduceEq, Int.reduceNe, Int.reduceToNat, Int.reduceAdd, aconv, acvB, capR, acmpnil, appBox, storeB, ares1, appendTo, afill, aeqL, teset, e1, e2, e4, e5, e6, b0, b1, b2, inj_take, inj_drop, inj_agg, inj_len, inj_one, List.length_map, Int.natCast_one, range1, inj_len, inj_one, ne0, ne1, ne2, ne0', ne1', ne2', newTok_boxf, setTok_boxf, skR_app1, boxEq_none, List.length_append, List.length_cons, List.length_nil, List.length_map, Nat.zero_add, List.map_cons, injS, List.map_nil, hnt, hk0, hk1, hbX, hbK, hb1, hb3, hgx, Int.natCast_nonneg, hgk, hk5]
          refine ⟨n' - 1, nlt1 hn' hj, j + 1, ok ++ [ks[j]], ox ++ [y], _, _, by rw [wrap_succ (jwrap hjm)], nadd hn' hj, Nat.le_trans (by decide) hnb, rfl, .inr ⟨g + 1, g' + 1, by simp [hok, hox], rfl, by simp [hok, hox], rfl⟩, by rw [hoxe]; exact (set_hit xs y hj hji).symm, by rw [hoke]; exact (take_step ks hjk).symm⟩
      
        · have hqk : (ks[j].toList == key.toList) = false := ba_ne (fun e => hji (asc_inj ha (by rw [List.getElem?_eq_getElem hjk, e]) hkey))
          simp only [aw0, aw1, aw2, aw3, aw4, aw5, aw6, aw7, ne_eq, eq_self, implies_true, imp_self, reduceIte, reduceCtorEq, Nat.reduceAdd, Nat.reduceLT, Nat.reduceLeDiff, Nat.reduceEqDiff, Nat.reduceSub, Nat.reduceMul, Nat.reduceBEq, Int.reduceBEq, Int.reduceBNe, Int.reduceLT, Int.reduceLE, Int.reduceGT, Int.reduceGE, Int.reduceNeg, Int.reduceEq, Int.reduceNe, Int.reduceToNat, Int.reduceAdd, aconv, acvB, capR, acmpnil, appBox, storeB, ares1, appendTo, afill, aeqL, teset, e1, e2, e4, e5, e6, b0, b1, b2, inj_take, inj_drop, inj_agg, inj_len, inj_one, List.length_map, Int.natCast_one, range1, inj_len, inj_one, ne0, ne1, ne2, ne0', ne1', ne2', newTok_boxf, setTok_boxf, skR_app1, boxEq_none, List.length_append, List.length_cons, List.length_nil, List.length_map, Nat.zero_add, List.map_cons, injS, List.map_nil, hnt, hk0, hk1, hbX, hbK, hb1, hb3, hgx, Int.natCast_nonneg, hgk, hk5, hqk]
          refine acode_draw_chain te_ok mixed [] (by kernel_rfl) ?_
          simp only [aw0, aw1, aw2, aw3, aw4, aw5, aw6, aw7, ne_eq, eq_self, implies_true, imp_self, reduceIte, reduceCtorEq, Nat.reduceAdd, Nat.reduceLT, Nat.reduceLeDiff, Nat.reduceEqDiff, Nat.reduceSub, Nat.reduceMul, Nat.reduceBEq, Int.reduceBEq, Int.reduceBNe, Int.reduceLT, Int.reduceLE, Int.reduceGT, Int.reduceGE, Int.reduceNeg, Int.reduceEq, Int.reduceNe, Int.reduceToNat, Int.reduceAdd, aconv, acvB, capR, acmpnil, appBox, storeB, ares1, appendTo, afill, aeqL, teset, e1, e2, e4, e5, e6, b0, b1, b2, inj_take, inj_drop, inj_agg, inj_len, inj_one, List.length_map, Int.natCast_one, range1, inj_len, inj_one, ne0, ne1, ne2, ne0', ne1', ne2', newTok_boxf, setTok_boxf, skR_app1, boxEq_none, List.length_append, List.length_cons, List.length_nil, List.length_map, Nat.zero_add, List.map_cons, injS, List.map_nil, hnt, hk0, hk1, hbX, hbK, hb1, hb3, hgx, Int.natCast_nonneg, hgk, hk5]
          refine ⟨n' - 1, nlt1 hn' hj, j + 1, ok ++ [ks[j]], ox ++ [xs[j]], _, _, by rw [wrap_succ (jwrap hjm)], nadd hn' hj, Nat.le_trans (by decide) hnb, rfl, .inr ⟨g + 1, g' + 1, by simp [hok, hox], rfl, by simp [hok, hox], rfl⟩, by rw [hoxe]; exact (set_non xs y hj hji).symm, by rw [hoke]; exact (take_step ks hjk).symm⟩

end Go.Proofs.YtjdocenbfghglaaGreatDoor.AW
end
section
set_option linter.unusedSimpArgs false
set_option linter.unusedVariables false
namespace Go.Proofs.YtjdocenbfghglaaGreatDoor.AW
open Go Go.RowKit

set_option maxHeartbeats 2000000 in
set_option maxRecDepth 20000 in
theorem delvals_calls (xs : List AV) (i : Nat) (hx : ∀ x ∈ xs, x.cells.length = 5) (hux : AV.underL 0 0 xs = true) (hl : xs.length < 1000000) (hi : i < xs.length) (h : AH) (b : Nat) (hb : h.box b = some (xs.flatMap AV.cells)) (hbn : b < h.nb) :
    ACalls Tryz.prog 89 [.ms b 0 xs.length 5, .int .i64 i, .int .i64 ((i + 1 : Nat) : Int)] h fun out h' => out = .ret (.sl .ro 5 (xs.eraseIdx i)) ∧ h' = h.kill b := by
  obtain ⟨hS, hSl, hSr⟩ := flatCells_split hx i (by omega)
  obtain ⟨hS2, hSl2, hSr2⟩ := flatCells_split hx (i + 1) (by omega)
  have hC := flatCells_len hx
  have hel : (xs.eraseIdx i).length = xs.length - 1 := List.length_eraseIdx_of_lt hi
  have hee : xs.eraseIdx i = xs.take i ++ xs.drop (i + 1) := List.eraseIdx_eq_take_drop_succ xs i
  refine ACalls.giveE (by omega) (fun x hm => ?_) ?_ ?_
  · exact hx x (List.mem_of_mem_eraseIdx hm)
  · refine underL_iff.2 fun j c hj => ?_
    obtain ⟨k, hk⟩ := List.mem_iff_getElem?.1 (List.mem_of_mem_eraseIdx (List.mem_of_getElem? hj)); exact underL_iff.1 hux k c hk
  refine ACalls.opn hb fun c d hc hcd => ?_
  rw [hC] at hcd
  have hfit : c * 5 ≤ (xs.flatMap AV.cells ++ deads d).length := by rw [List.length_append, hC, deads_length]; omega
  have hCD : (xs.flatMap AV.cells ++ deads d).length = xs.length * 5 + d := by rw [List.length_append, hC, deads_length]
  have e1 : ((i : Int) == ((i + 1 : Nat) : Int)) = false := by rw [beq_eq_false_iff_ne]; omega
  have hi0 : i ≤ xs.length := by omega
  have hi1 : i + 1 ≤ xs.length := by omega
  have hii : i ≤ i + 1 := by omega
  have hic : i ≤ c := by omega
  have hic1 : i + 1 ≤ c := by omega
  have e3 : i + (xs.length - (i + 1)) = xs.length - 1 := by omega
  have hn1 : xs.length - 1 ≤ c := by omega
  have hn2 : xs.length - 1 ≤ xs.length := by omega
  have hn3 : xs.length - (xs.length - 1) = 1 := by omega
  have hb1 : (xs.length - 1) * 80 ≤ 140737488355328 := by omega
  obtain ⟨Suf, hSf⟩ : ∃ Suf, Suf = (xs.drop (i + 1)).flatMap AV.cells := ⟨_, rfl⟩
  obtain ⟨Pre, hP⟩ : ∃ Pre, Pre = (xs.take i).flatMap AV.cells := ⟨_, rfl⟩
  rw [← hP] at hSl
  rw [← hSf] at hSr2
  have hi1s : (i + 1) * 5 = i * 5 + 5 := by rw [Nat.add_mul] <;> omega
  have hrest : (xs.length - (i + 1)) * 5 + (i + 1) * 5 = xs.length * 5 := by rw [← Nat.add_mul]; congr 1 <;> omega
  have hB1 : List.take (i * 5) (xs.flatMap AV.cells ++ deads d) = Pre := by rw [hS, ← hP, List.append_assoc]; exact List.take_left' hSl
  have hB2 : List.take ((xs.length - (i + 1)) * 5) (List.drop ((i + 1) * 5) (xs.flatMap AV.cells ++ deads d)) = Suf := by rw [hS2, ← hSf, List.append_assoc, List.drop_left' hSl2, List.take_left' hSr2]
  have hfz : (i + 1) * 5 + (xs.length - (i + 1)) * 5 ≤ (xs.flatMap AV.cells ++ deads d).length := by rw [hCD]; omega
  have hPS : (Pre ++ Suf).length = (xs.length - 1) * 5 := by rw [List.length_append, hSl, hSr2, ← Nat.add_mul]; congr 1 <;> omega
  have hnn : (xs.length - 1) * 5 + 5 = xs.length * 5 := by rw [← Nat.succ_mul]; congr 1 <;> omega
  obtain ⟨R, hR⟩ : ∃ R, R = List.drop (i * 5 + (xs.length - (i + 1)) * 5) (xs.flatMap AV.cells ++ deads d) := ⟨_, rfl⟩
  have hRl : R.length = 5 + d := by
    rw [hR, List.length_drop, hCD]
    have : i * 5 + (xs.length - (i + 1)) * 5 = (xs.length - 1) * 5 := by rw [← Nat.add_mul]; congr 1 <;> omega
    omega
  have hT : List.take ((xs.length - 1) * 5) (Pre ++ Suf ++ R) = Pre ++ Suf := List.take_left' hPS
  have hfc : (xs.length - 1) * 5 + 5 ≤ (Pre ++ Suf ++ R).length := by rw [List.length_append, hPS, hRl]; omega
  refine acalls_of te_ok [] Tryz.func89 (c := _) rfl (Nat.le_of_ble_eq_true rfl) ?_
  simp only [aw0, aw1, aw2, aw3, aw4, aw5, aw6, aw7, ne_eq, eq_self, implies_true, imp_self, reduceIte, reduceCtorEq, Nat.reduceAdd, Nat.reduceLT, Nat.reduceLeDiff, Nat.reduceEqDiff, Nat.reduceSub, Nat.reduceMul, Nat.reduceBEq, Int.reduceBEq, Int.reduceBNe, Int.reduceLT, Int.reduceLE, Int.reduceGT, Int.reduceGE, Int.reduceNeg, Int.reduceEq, Int.reduceNe, Int.reduceToNat, Int.reduceAdd, aconv, acvB, capR, acmpnil, appBox, storeB, ares1, appendTo, afill, aeqL, teset, Tryz.ntmps89, Tryz.results89, Int.natCast_nonneg, Int.toNat_natCast, hi0, hi1, hii, hic, hic1, hc, and_true, Nat.zero_add, Nat.zero_le, Nat.le_refl, Nat.sub_zero, Nat.zero_mul, e1]
  refine acode_draw_chainL (some 0) te_ok mixed [] (by kernel_rfl) ?_
  simp only [aw0, aw1, aw2, aw3, aw4, aw5, aw6, aw7, ne_eq, eq_self, implies_true, imp_self, reduceIte, reduceCtorEq, Nat.reduceAdd, Nat.reduceLT, Nat.reduceLeDiff, Nat.reduceEqDiff, Nat.reduceSub, Nat.reduceMul, Nat.reduceBEq, Int.reduceBEq, Int.reduceBNe, Int.reduceLT, Int.reduceLE, Int.reduceGT, Int.reduceGE, Int.reduceNeg, Int.reduceEq, Int.reduceNe, Int.reduceToNat, Int.reduceAdd, aconv, acvB, capR, acmpnil, appBox, storeB, ares1, appendTo, afill, aeqL, teset, Int.natCast_nonneg, Int.toNat_natCast, hi0, hi1, hii, hic, hic1, hc, and_true, Nat.zero_add, Nat.zero_le, Nat.le_refl, Nat.sub_zero, Nat.zero_mul, e1, appMc, appCells, cellsOf, hb1, hfit, e3, hn1, hn2, hn3, hB1, hB2, hfz, hSr2, ← hR, hT, hfc, aclear, Nat.one_mul, lowRd_some, boxEq_some, Nat.not_lt_zero, false_implies, implies_true, true_and]
  refine ⟨b, zeros [AV.int IntKind.i64 0, AV.int IntKind.i64 0, AV.str ⟨#[]⟩, AV.sl Tag.full 0 [], AV.sl Tag.full 0 []] 1 ++ List.drop ((xs.length - 1) * 5 + (zeros [AV.int IntKind.i64 0, AV.int IntKind.i64 0, AV.str ⟨#[]⟩, AV.sl Tag.full 0 [], AV.sl Tag.full 0 []] 1).length) (Pre ++ Suf ++ R), _, rfl, by rw [hel]; rfl, ?_, .inl rfl, fun b2 h2 hne => by rw [if_neg hne, if_neg hne, if_neg hne]⟩
  rw [if_pos rfl, hee, List.flatMap_append, ← hP, ← hSf]
  simp only [List.append_assoc, Nat.mul_one]
end Go.Proofs.YtjdocenbfghglaaGreatDoor.AW
end
section
set_option linter.unusedSimpArgs false
set_option linter.unusedVariables false
namespace Go.Proofs.YtjdocenbfghglaaGreatDoor.AW
open Go Go.RowKit

set_option maxHeartbeats 2000000 in
set_option maxRecDepth 20000 in
theorem delstrs_calls (xs : List AV) (i : Nat) (hx : ∀ x ∈ xs, x.cells.length = 1) (hux : AV.underL 0 0 xs = true) (hl : xs.length < 1000000) (hi : i < xs.length) (h : AH) (b : Nat) (hb : h.box b = some (xs.flatMap AV.cells)) (hbn : b < h.nb) :
    ACalls Tryz.prog 90 [.ms b 0 xs.length 1, .int .i64 i, .int .i64 ((i + 1 : Nat) : Int)] h fun out h' => out = .ret (.sl .ro 1 (xs.eraseIdx i)) ∧ h' = h.kill b := by
  obtain ⟨hS, hSl, hSr⟩ := flatCells_split hx i (by omega)
  obtain ⟨hS2, hSl2, hSr2⟩ := flatCells_split hx (i + 1) (by omega)
  have hC := flatCells_len hx
  have hel : (xs.eraseIdx i).length = xs.length - 1 := List.length_eraseIdx_of_lt hi
  have hee : xs.eraseIdx i = xs.take i ++ xs.drop (i + 1) := List.eraseIdx_eq_take_drop_succ xs i
  refine ACalls.giveE (by omega) (fun x hm => ?_) ?_ ?_
  · exact hx x (List.mem_of_mem_eraseIdx hm)
  · refine underL_iff.2 fun j c hj => ?_
    obtain ⟨k, hk⟩ := List.mem_iff_getElem?.1 (List.mem_of_mem_eraseIdx (List.mem_of_getElem? hj)); exact underL_iff.1 hux k c hk
  refine ACalls.opn hb fun c d hc hcd => ?_
  rw [hC] at hcd
  have hfit : c * 1 ≤ (xs.flatMap AV.cells ++ deads d).length := by rw [List.length_append, hC, deads_length]; omega
  have hCD : (xs.flatMap AV.cells ++ deads d).length = xs.length * 1 + d := by rw [List.length_append, hC, deads_length]
  have e1 : ((i : Int) == ((i + 1 : Nat) : Int)) = false := by rw [beq_eq_false_iff_ne]; omega
  have hi0 : i ≤ xs.length := by omega
  have hi1 : i + 1 ≤ xs.length := by omega
  have hii : i ≤ i + 1 := by omega
  have hic : i ≤ c := by omega
  have hic1 : i + 1 ≤ c := by omega
  have e3 : i + (xs.length - (i + 1)) = xs.length - 1 := by omega
  have hn1 : xs.length - 1 ≤ c := by omega
  have hn2 : xs.length - 1 ≤ xs.length := by omega
  have hn3 : xs.length - (xs.length - 1) = 1 := by omega
  have hb1 : (xs.length - 1) * 16 ≤ 140737488355328 := by omega
  obtain ⟨Suf, hSf⟩ : ∃ Suf, Suf = (xs.drop (i + 1)).flatMap AV.cells := ⟨_, rfl⟩
  obtain ⟨Pre, hP⟩ : ∃ Pre, Pre = (xs.take i).flatMap AV.cells := ⟨_, rfl⟩
  rw [← hP] at hSl
  rw [← hSf] at hSr2
  have hi1s : (i + 1) * 1 = i * 1 + 1 := by rw [Nat.add_mul] <;> omega
  have hrest : (xs.length - (i + 1)) * 1 + (i + 1) * 1 = xs.length * 1 := by rw [← Nat.add_mul]; congr 1 <;> omega
  have hB1 : List.take (i * 1) (xs.flatMap AV.cells ++ deads d) = Pre := by rw [hS, ← hP, List.append_assoc]; exact List.take_left' hSl
  have hB2 : List.take ((xs.length - (i + 1)) * 1) (List.drop ((i + 1) * 1) (xs.flatMap AV.cells ++ deads d)) = Suf := by rw [hS2, ← hSf, List.append_assoc, List.drop_left' hSl2, List.take_left' hSr2]
  have hfz : (i + 1) * 1 + (xs.length - (i + 1)) * 1 ≤ (xs.flatMap AV.cells ++ deads d).length := by rw [hCD]; omega
  have hPS : (Pre ++ Suf).length = (xs.length - 1) * 1 := by rw [List.length_append, hSl, hSr2, ← Nat.add_mul]; congr 1 <;> omega
  have hnn : (xs.length - 1) * 1 + 1 = xs.length * 1 := by rw [← Nat.succ_mul]; congr 1 <;> omega
  obtain ⟨R, hR⟩ : ∃ R, R = List.drop (i * 1 + (xs.length - (i + 1)) * 1) (xs.flatMap AV.cells ++ deads d) := ⟨_, rfl⟩
  have hRl : R.length = 1 + d := by
    rw [hR, List.length_drop, hCD]
    have : i * 1 + (xs.length - (i + 1)) * 1 = (xs.length - 1) * 1 := by rw [← Nat.add_mul]; congr 1 <;> omega
    omega
  have hT : List.take ((xs.length - 1) * 1) (Pre ++ Suf ++ R) = Pre ++ Suf := List.take_left' hPS
  have hfc : (xs.length - 1) * 1 + 1 ≤ (Pre ++ Suf ++ R).length := by rw [List.length_append, hPS, hRl]; omega
  refine acalls_of te_ok [] Tryz.func90 (c := _) rfl (Nat.le_of_ble_eq_true rfl) ?_
  simp only [aw0, aw1, aw2, aw3, aw4, aw5, aw6, aw7, ne_eq, eq_self, implies_true, imp_self, reduceIte, reduceCtorEq, Nat.reduceAdd, Nat.reduceLT, Nat.reduceLeDiff, Nat.reduceEqDiff, Nat.reduceSub, Nat.reduceMul, Nat.reduceBEq, Int.reduceBEq, Int.reduceBNe, Int.reduceLT, Int.reduceLE, Int.reduceGT, Int.reduceGE, Int.reduceNeg, Int.reduceEq, Int.reduceNe, Int.reduceToNat, Int.reduceAdd, aconv, acvB, capR, acmpnil, appBox, storeB, ares1, appendTo, afill, aeqL, teset, Tryz.ntmps90, Tryz.results90, Int.natCast_nonneg, Int.toNat_natCast, hi0, hi1, hii, hic, hic1, hc, and_true, Nat.zero_add, Nat.zero_le, Nat.le_refl, Nat.sub_zero, Nat.zero_mul, e1]
  refine acode_draw_chainL (some 0) te_ok mixed [] (by kernel_rfl) ?_
  simp only [aw0, aw1, aw2, aw3, aw4, aw5, aw6, aw7, ne_eq, eq_self, implies_true, imp_self, reduceIte, reduceCtorEq, Nat.reduceAdd, Nat.reduceLT, Nat.reduceLeDiff, Nat.reduceEqDiff, Nat.reduceSub, Nat.reduceMul, Nat.reduceBEq, Int.reduceBEq, Int.reduceBNe, Int.reduceLT, Int.reduceLE, Int.reduceGT, Int.reduceGE, Int.reduceNeg, Int.reduceEq, Int.reduceNe, Int.reduceToNat, Int.reduceAdd, aconv, acvB, capR, acmpnil, appBox, storeB, ares1, appendTo, afill, aeqL, teset, Int.natCast_nonneg, Int.toNat_natCast, hi0, hi1, hii, hic, hic1, hc, and_true, Nat.zero_add, Nat.zero_le, Nat.le_refl, Nat.sub_zero, Nat.zero_mul, e1, appMc, appCells, cellsOf, hb1, hfit, e3, hn1, hn2, hn3, hB1, hB2, hfz, hSr2, ← hR, hT, hfc, aclear, Nat.one_mul, lowRd_some, boxEq_some, Nat.not_lt_zero, false_implies, implies_true, true_and]
  refine ⟨b, zeros [AV.str ⟨#[]⟩] 1 ++ List.drop ((xs.length - 1) * 1 + (zeros [AV.str ⟨#[]⟩] 1).length) (Pre ++ Suf ++ R), _, rfl, by rw [hel]; rfl, ?_, .inl rfl, fun b2 h2 hne => by rw [if_neg hne, if_neg hne, if_neg hne]⟩
  rw [if_pos rfl, hee, List.flatMap_append, ← hP, ← hSf]
  simp only [List.append_assoc, Nat.mul_one]
end Go.Proofs.YtjdocenbfghglaaGreatDoor.AW
end
section
set_option linter.unusedSimpArgs false
set_option linter.unusedVariables false
namespace Go.Proofs.YtjdocenbfghglaaGreatDoor.AW
open Go Go.RowKit

theorem map_erase {α β : Type} (f : α → β) : ∀ (l : List α) (i : Nat), (l.map f).eraseIdx i = (l.eraseIdx i).map f
  | [], _ => by simp
  | a :: l, 0 => by simp
  | a :: l, i + 1 => by simp [map_erase f l i]
theorem del5 (xs : List V) (i : Nat) (hl : xs.length < 1000000) (hi : i < xs.length) (h : AH) (b : Nat) (hb : h.box b = some ((xs.map inj).flatMap AV.cells)) (hbn : b < h.nb) :
    ACalls Tryz.prog 89 [.ms b 0 xs.length 5, .int .i64 i, .int .i64 ((i + 1 : Nat) : Int)] h fun out h' => out = .ret (.sl .ro 5 ((xs.eraseIdx i).map inj)) ∧ h' = h.kill b := by
  have := delvals_calls (xs.map inj) i (fun x hx => by obtain ⟨k, _, rfl⟩ := List.mem_map.1 hx; exact inj_len k) (injs_under xs) (by rw [List.length_map]; exact hl) (by rw [List.length_map]; exact hi) h b hb hbn
  rw [List.length_map, map_erase] at this
  exact this
theorem del1 (ks : List ByteArray) (i : Nat) (hl : ks.length < 1000000) (hi : i < ks.length) (h : AH) (b : Nat) (hb : h.box b = some (ks.map .str)) (hbn : b < h.nb) :
    ACalls Tryz.prog 90 [.ms b 0 ks.length 1, .int .i64 i, .int .i64 ((i + 1 : Nat) : Int)] h fun out h' => out = .ret (.sl .ro 1 ((ks.eraseIdx i).map .str)) ∧ h' = h.kill b := by
  have := delstrs_calls (ks.map .str) i (fun x hx => by obtain ⟨k, _, rfl⟩ := List.mem_map.1 hx; rfl) (strs_under ks) (by rw [List.length_map]; exact hl) (by rw [List.length_map]; exact hi) h b (by rw [strs_cells]; exact hb) hbn
  rw [List.length_map, map_erase] at this
  exact this
theorem itemP_nat {v : V} {s : Stp} {o : V} (hv : Vok v) (h : itemS v s = some o) : ∃ i : Nat, itemP v s = ((i : Int), true) ∧ v.items[i]? = some o ∧ (v.kind = 5 → i < v.keys.length) := by
  obtain ⟨h1, h2⟩ := item_found hv h
  have h3 : 0 ≤ (itemP v s).1 := by
    unfold itemP
    split
    · show (0 : Int) ≤ (lb v.keys s.key : Nat); omega
    · split
      · next hh => exact hh.1
      · exact Int.le_refl _
  refine ⟨(itemP v s).1.toNat, ?_, h2, fun h5 => ?_⟩
  · rw [Int.toNat_of_nonneg h3, ← h1]
  · rw [hv.keys.1 h5]; exact (List.getElem?_eq_some_iff.1 h2).1
set_option maxHeartbeats 2000000 in
theorem without_pure : ∀ (p : List Stp) (v o : V), Vok v → p ≠ [] → atS v p = some o → p.length < 1000000 → Pure Tryz.prog 46 [inj v, .sl .ro 2 (p.map injS)] (inj (withoutP p v)) := by
  intro p
  induction p with
  | nil => intro v o _ h; exact absurd rfl h
  | cons s p ih =>
    intro v o hv _ ho hl
    simp only [List.length_cons] at hl
    refine Pure.of0 ⟨Tryz.f46, Tryz.func46, rfl, by kernel_rfl⟩ (by have := injS_under (s :: p); simp only [AV.underL, inj_under, AV.under, Bool.true_and, Bool.and_true]; exact this) (inj_under _) ?_
    simp only [atS] at ho
    cases ht : itemS v s with
    | none => rw [ht] at ho; cases ho
    | some o1 =>
    rw [ht] at ho
    obtain ⟨i, hi1, hi2, hi3⟩ := itemP_nat hv ht
    have hitem := pitem_pure hv s
    have hlt := (List.getElem?_eq_some_iff.1 hi2).1
    have hx6 : v.items.length < 1000000 := by have := hv.shape.2; omega
    have hk6 : v.keys.length < 1000000 := by have := hv.keys.2; omega
    rw [hi1] at hitem
    have takep : List.take p.length (p.map injS) = p.map injS := List.take_of_length_le (by simp)
    have hw : IntKind.i64.wrap ((i : Int) + 1) = ((i + 1 : Nat) : Int) := wrap_succ (by omega)
    obtain ⟨ix, key⟩ := s
    have hspec1 : p = [] → withoutP (⟨ix, key⟩ :: p) v = delV v i := by rintro rfl; simp only [withoutP, hi1, Int.toNat_natCast]
    have hspec2 : p ≠ [] → withoutP (⟨ix, key⟩ :: p) v = withV v i (withoutP p o1) := by
      intro hp
      obtain ⟨t, p', rfl⟩ := List.exists_cons_of_ne_nil hp
      simp only [withoutP, hi1, Int.toNat_natCast]
      rw [List.getD_eq_getElem?_getD, hi2]; rfl
    have hwp := fun y => with_pure v i y (by omega) hx6
    have hvo : Vok o1 := hv.items o1 (itemS_mem ht)
    obtain ⟨k, n, t, xs, ks⟩ := v
    simp only [V.items, V.keys, V.kind] at hi2 hi3 hlt hx6 hk6
    rw [inj_mk] at hitem ⊢
    simp only [inj_mk k] at hwp
    refine acalls_of te_ok [] Tryz.func46 (c := _) rfl (Nat.le_of_ble_eq_true rfl) ?_
    simp only [aw0, aw1, aw2, aw3, aw4, aw5, aw6, aw7, ne_eq, eq_self, implies_true, imp_self, reduceIte, reduceCtorEq, Nat.reduceAdd, Nat.reduceLT, Nat.reduceLeDiff, Nat.reduceEqDiff, Nat.reduceSub, Nat.reduceMul, Nat.reduceBEq, Int.reduceBEq, Int.reduceBNe, Int.reduceLT, Int.reduceLE, Int.reduceGT, Int.reduceGE, Int.reduceNeg, Int.reduceEq, Int.reduceNe, Int.reduceToNat, Int.reduceAdd, aconv, acvB, capR, acmpnil, appBox, storeB, ares1, appendTo, afill, aeqL, teset, Tryz.ntmps46, Tryz.results46, inj_take, inj_drop, inj_agg, inj_len, inj_one, List.length_map, boxR, none_nb, none_box, List.map_cons, List.length_cons, injS, Int.natCast_zero]
    refine acode_draw_chain te_ok mixed [] (by kernel_rfl) ?_
    simp only [aw0, aw1, aw2, aw3, aw4, aw5, aw6, aw7, ne_eq, eq_self, implies_true, imp_self, reduceIte, reduceCtorEq, Nat.reduceAdd, Nat.reduceLT, Nat.reduceLeDiff, Nat.reduceEqDiff, Nat.reduceSub, Nat.reduceMul, Nat.reduceBEq, Int.reduceBEq, Int.reduceBNe, Int.reduceLT, Int.reduceLE, Int.reduceGT, Int.reduceGE, Int.reduceNeg, Int.reduceEq, Int.reduceNe, Int.reduceToNat, Int.reduceAdd, aconv, acvB, capR, acmpnil, appBox, storeB, ares1, appendTo, afill, aeqL, teset, inj_take, inj_drop, inj_agg, inj_len, inj_one, List.length_map, none_nb, none_box, List.map_cons, injS, Int.natCast_zero]
    refine skR_pure hitem ?_
    simp only [aw0, aw1, aw2, aw3, aw4, aw5, aw6, aw7, ne_eq, eq_self, implies_true, imp_self, reduceIte, reduceCtorEq, Nat.reduceAdd, Nat.reduceLT, Nat.reduceLeDiff, Nat.reduceEqDiff, Nat.reduceSub, Nat.reduceMul, Nat.reduceBEq, Int.reduceBEq, Int.reduceBNe, Int.reduceLT, Int.reduceLE, Int.reduceGT, Int.reduceGE, Int.reduceNeg, Int.reduceEq, Int.reduceNe, Int.reduceToNat, Int.reduceAdd, aconv, acvB, capR, acmpnil, appBox, storeB, ares1, appendTo, afill, aeqL, teset, inj_take, inj_drop, inj_agg, inj_len, inj_one, List.length_map, none_nb, none_box, List.map_cons, List.length_cons, injS, Int.natCast_zero]
    cases hc : decide (((p.length + 1 : Nat) : Int) > 1) with
    | true =>
      simp only [decide_eq_true_eq] at hc
      have hp : p ≠ [] := by rintro rfl; simp at hc
      have hget2 : (xs.map inj)[i]? = some (inj o1) := by rw [List.getElem?_map, hi2]; rfl
      simp only [aw0, aw1, aw2, aw3, aw4, aw5, aw6, aw7, ne_eq, eq_self, implies_true, imp_self, reduceIte, reduceCtorEq, Nat.reduceAdd, Nat.reduceLT, Nat.reduceLeDiff, Nat.reduceEqDiff, Nat.reduceSub, Nat.reduceMul, Nat.reduceBEq, Int.reduceBEq, Int.reduceBNe, Int.reduceLT, Int.reduceLE, Int.reduceGT, Int.reduceGE, Int.reduceNeg, Int.reduceEq, Int.reduceNe, Int.reduceToNat, Int.reduceAdd, aconv, acvB, capR, acmpnil, appBox, storeB, ares1, appendTo, afill, aeqL, teset, inj_take, inj_drop, inj_agg, inj_len, inj_one, List.length_map, none_nb, none_box, Int.natCast_zero]
      refine acode_draw_chain te_ok mixed [] (by kernel_rfl) ?_
      simp only [aw0, aw1, aw2, aw3, aw4, aw5, aw6, aw7, ne_eq, eq_self, implies_true, imp_self, reduceIte, reduceCtorEq, Nat.reduceAdd, Nat.reduceLT, Nat.reduceLeDiff, Nat.reduceEqDiff, Nat.reduceSub, Nat.reduceMul, Nat.reduceBEq, Int.reduceBEq, Int.reduceBNe, Int.reduceLT, Int.reduceLE, Int.reduceGT, Int.reduceGE, Int.reduceNeg, Int.reduceEq, Int.reduceNe, Int.reduceToNat, Int.reduceAdd, aconv, acvB, capR, acmpnil, appBox, storeB, ares1, appendTo, afill, aeqL, teset, inj_take, inj_drop, inj_agg, inj_len, inj_one, List.length_map, none_nb, none_box, Int.natCast_zero, hget2, Int.natCast_nonneg, Int.toNat_natCast, Nat.add_sub_cancel, takep, Nat.le_refl, List.length_map, List.map_cons]
      refine skR_pure (ih o1 o hvo hp ho (by omega)) ?_
      refine skR_pure (hwp _) ?_
      simp only [aw0, aw1, aw2, aw3, aw4, aw5, aw6, aw7, ne_eq, eq_self, implies_true, imp_self, reduceIte, reduceCtorEq, Nat.reduceAdd, Nat.reduceLT, Nat.reduceLeDiff, Nat.reduceEqDiff, Nat.reduceSub, Nat.reduceMul, Nat.reduceBEq, Int.reduceBEq, Int.reduceBNe, Int.reduceLT, Int.reduceLE, Int.reduceGT, Int.reduceGE, Int.reduceNeg, Int.reduceEq, Int.reduceNe, Int.reduceToNat, Int.reduceAdd, aconv, acvB, capR, acmpnil, appBox, storeB, ares1, appendTo, afill, aeqL, teset, inj_take, inj_drop, inj_agg, inj_len, inj_one, List.length_map, none_nb, none_box, Int.natCast_zero]
      refine ⟨_, rfl, ?_⟩
      rw [hspec2 hp]
      exact .refl _ _
    | false =>
      simp only [decide_eq_false_iff_not] at hc
      have hp : p = [] := List.eq_nil_of_length_eq_zero (by omega)
      have hne : xs ≠ [] := by rintro rfl; simp at hlt
      simp only [aw0, aw1, aw2, aw3, aw4, aw5, aw6, aw7, ne_eq, eq_self, implies_true, imp_self, reduceIte, reduceCtorEq, Nat.reduceAdd, Nat.reduceLT, Nat.reduceLeDiff, Nat.reduceEqDiff, Nat.reduceSub, Nat.reduceMul, Nat.reduceBEq, Int.reduceBEq, Int.reduceBNe, Int.reduceLT, Int.reduceLE, Int.reduceGT, Int.reduceGE, Int.reduceNeg, Int.reduceEq, Int.reduceNe, Int.reduceToNat, Int.reduceAdd, aconv, acvB, capR, acmpnil, appBox, storeB, ares1, appendTo, afill, aeqL, teset, inj_take, inj_drop, inj_agg, inj_len, inj_one, List.length_map, none_nb, none_box, Int.natCast_zero]
      refine ACallV.det ⟨Tryz.f88, Tryz.func88, rfl, by kernel_rfl⟩ rfl (clone5_box' xs hne hx6 _) ?_
      simp only [aw0, aw1, aw2, aw3, aw4, aw5, aw6, aw7, ne_eq, eq_self, implies_true, imp_self, reduceIte, reduceCtorEq, Nat.reduceAdd, Nat.reduceLT, Nat.reduceLeDiff, Nat.reduceEqDiff, Nat.reduceSub, Nat.reduceMul, Nat.reduceBEq, Int.reduceBEq, Int.reduceBNe, Int.reduceLT, Int.reduceLE, Int.reduceGT, Int.reduceGE, Int.reduceNeg, Int.reduceEq, Int.reduceNe, Int.reduceToNat, Int.reduceAdd, aconv, acvB, capR, acmpnil, appBox, storeB, ares1, appendTo, afill, aeqL, teset, inj_take, inj_drop, inj_agg, inj_len, inj_one, List.length_map, none_nb, none_box, Int.natCast_zero, hw]
      refine ACallV.det ⟨Tryz.f89, Tryz.func89, rfl, by kernel_rfl⟩ rfl (del5 xs i hx6 hlt _ 2 (by simp only [aw0, aw1, aw2, aw3, aw4, aw5, aw6, aw7, ne_eq, eq_self, implies_true, imp_self, reduceIte, reduceCtorEq, Nat.reduceAdd, Nat.reduceLT, Nat.reduceLeDiff, Nat.reduceEqDiff, Nat.reduceSub, Nat.reduceMul, Nat.reduceBEq, Int.reduceBEq, Int.reduceBNe, Int.reduceLT, Int.reduceLE, Int.reduceGT, Int.reduceGE, Int.reduceNeg, Int.reduceEq, Int.reduceNe, Int.reduceToNat, Int.reduceAdd, aconv, acvB, capR, acmpnil, appBox, storeB, ares1, appendTo, afill, aeqL, teset, none_nb, none_box]) (by simp only [aw0, aw1, aw2, aw3, aw4, aw5, aw6, aw7, ne_eq, eq_self, implies_true, imp_self, reduceIte, reduceCtorEq, Nat.reduceAdd, Nat.reduceLT, Nat.reduceLeDiff, Nat.reduceEqDiff, Nat.reduceSub, Nat.reduceMul, Nat.reduceBEq, Int.reduceBEq, Int.reduceBNe, Int.reduceLT, Int.reduceLE, Int.reduceGT, Int.reduceGE, Int.reduceNeg, Int.reduceEq, Int.reduceNe, Int.reduceToNat, Int.reduceAdd, aconv, acvB, capR, acmpnil, appBox, storeB, ares1, appendTo, afill, aeqL, teset, none_nb, none_box])) ?_
      simp only [aw0, aw1, aw2, aw3, aw4, aw5, aw6, aw7, ne_eq, eq_self, implies_true, imp_self, reduceIte, reduceCtorEq, Nat.reduceAdd, Nat.reduceLT, Nat.reduceLeDiff, Nat.reduceEqDiff, Nat.reduceSub, Nat.reduceMul, Nat.reduceBEq, Int.reduceBEq, Int.reduceBNe, Int.reduceLT, Int.reduceLE, Int.reduceGT, Int.reduceGE, Int.reduceNeg, Int.reduceEq, Int.reduceNe, Int.reduceToNat, Int.reduceAdd, aconv, acvB, capR, acmpnil, appBox, storeB, ares1, appendTo, afill, aeqL, teset, inj_take, inj_drop, inj_agg, inj_len, inj_one, List.length_map, none_nb, none_box, Int.natCast_zero, hw]
      cases hk5 : (k == 5) with
      | false =>
        simp only [aw0, aw1, aw2, aw3, aw4, aw5, aw6, aw7, ne_eq, eq_self, implies_true, imp_self, reduceIte, reduceCtorEq, Nat.reduceAdd, Nat.reduceLT, Nat.reduceLeDiff, Nat.reduceEqDiff, Nat.reduceSub, Nat.reduceMul, Nat.reduceBEq, Int.reduceBEq, Int.reduceBNe, Int.reduceLT, Int.reduceLE, Int.reduceGT, Int.reduceGE, Int.reduceNeg, Int.reduceEq, Int.reduceNe, Int.reduceToNat, Int.reduceAdd, aconv, acvB, capR, acmpnil, appBox, storeB, ares1, appendTo, afill, aeqL, teset, inj_take, inj_drop, inj_agg, inj_len, inj_one, List.length_map, none_nb, none_box, Int.natCast_zero, hw]
        refine ⟨_, rfl, ?_⟩
        have : withoutP (⟨ix, key⟩ :: p) (.mk k n t xs ks) = .mk k n t (xs.eraseIdx i) ks := by
          rw [hspec1 hp]
          unfold delV
          rw [if_neg (show ¬ (V.mk k n t xs ks).kind = 5 by simpa [V.kind] using hk5)]
          rfl
        rw [this, inj_mk]
        exact .refl _ _
      | true =>
        have hk : k = 5 := by simpa using hk5
        have hik := hi3 hk
        have hkne : ks ≠ [] := by rintro rfl; simp at hik
        simp only [aw0, aw1, aw2, aw3, aw4, aw5, aw6, aw7, ne_eq, eq_self, implies_true, imp_self, reduceIte, reduceCtorEq, Nat.reduceAdd, Nat.reduceLT, Nat.reduceLeDiff, Nat.reduceEqDiff, Nat.reduceSub, Nat.reduceMul, Nat.reduceBEq, Int.reduceBEq, Int.reduceBNe, Int.reduceLT, Int.reduceLE, Int.reduceGT, Int.reduceGE, Int.reduceNeg, Int.reduceEq, Int.reduceNe, Int.reduceToNat, Int.reduceAdd, aconv, acvB, capR, acmpnil, appBox, storeB, ares1, appendTo, afill, aeqL, teset, inj_take, inj_drop, inj_agg, inj_len, inj_one, List.length_map, none_nb, none_box, Int.natCast_zero, hw]
        refine ACallV.det ⟨Tryz.f86, Tryz.func86, rfl, by kernel_rfl⟩ rfl (clone1_box' ks hkne hk6 _) ?_
        simp only [aw0, aw1, aw2, aw3, aw4, aw5, aw6, aw7, ne_eq, eq_self, implies_true, imp_self, reduceIte, reduceCtorEq, Nat.reduceAdd, Nat.reduceLT, Nat.reduceLeDiff, Nat.reduceEqDiff, Nat.reduceSub, Nat.reduceMul, Nat.reduceBEq, Int.reduceBEq, Int.reduceBNe, Int.reduceLT, Int.reduceLE, Int.reduceGT, Int.reduceGE, Int.reduceNeg, Int.reduceEq, Int.reduceNe, Int.reduceToNat, Int.reduceAdd, aconv, acvB, capR, acmpnil, appBox, storeB, ares1, appendTo, afill, aeqL, teset, inj_take, inj_drop, inj_agg, inj_len, inj_one, List.length_map, none_nb, none_box, Int.natCast_zero, hw]
        refine ACallV.det ⟨Tryz.f90, Tryz.func90, rfl, by kernel_rfl⟩ rfl (del1 ks i hk6 hik _ 3 (by simp only [aw0, aw1, aw2, aw3, aw4, aw5, aw6, aw7, ne_eq, eq_self, implies_true, imp_self, reduceIte, reduceCtorEq, Nat.reduceAdd, Nat.reduceLT, Nat.reduceLeDiff, Nat.reduceEqDiff, Nat.reduceSub, Nat.reduceMul, Nat.reduceBEq, Int.reduceBEq, Int.reduceBNe, Int.reduceLT, Int.reduceLE, Int.reduceGT, Int.reduceGE, Int.reduceNeg, Int.reduceEq, Int.reduceNe, Int.reduceToNat, Int.reduceAdd, aconv, acvB, capR, acmpnil, appBox, storeB, ares1, appendTo, afill, aeqL, teset, none_nb, none_box]) (by simp only [aw0, aw1, aw2, aw3, aw4, aw5, aw6, aw7, ne_eq, eq_self, implies_true, imp_self, reduceIte, reduceCtorEq, Nat.reduceAdd, Nat.reduceLT, Nat.reduceLeDiff, Nat.reduceEqDiff, Nat.reduceSub, Nat.reduceMul, Nat.reduceBEq, Int.reduceBEq, Int.reduceBNe, Int.reduceLT, Int.reduceLE, Int.reduceGT, Int.reduceGE, Int.reduceNeg, Int.reduceEq, Int.reduceNe, Int.reduceToNat, Int.reduceAdd, aconv, acvB, capR, acmpnil, appBox, storeB, ares1, appendTo, afill, aeqL, teset, none_nb, none_box])) ?_
        simp only [aw0, aw1, aw2, aw3, aw4, aw5, aw6, aw7, ne_eq, eq_self, implies_true, imp_self, reduceIte, reduceCtorEq, Nat.reduceAdd, Nat.reduceLT, Nat.reduceLeDiff, Nat.reduceEqDiff, Nat.reduceSub, Nat.reduceMul, Nat.reduceBEq, Int.reduceBEq, Int.reduceBNe, Int.reduceLT, Int.reduceLE, Int.reduceGT, Int.reduceGE, Int.reduceNeg, Int.reduceEq, Int.reduceNe, Int.reduceToNat, Int.reduceAdd, aconv, acvB, capR, acmpnil, appBox, storeB, ares1, appendTo, afill, aeqL, teset, inj_take, inj_drop, inj_agg, inj_len, inj_one, List.length_map, none_nb, none_box, Int.natCast_zero, hw]
        refine ⟨_, rfl, ?_⟩
        have : withoutP (⟨ix, key⟩ :: p) (.mk k n t xs ks) = .mk k n t (xs.eraseIdx i) (ks.eraseIdx i) := by
          rw [hspec1 hp]
          unfold delV
          rw [if_pos (show (V.mk k n t xs ks).kind = 5 from hk)]
          rfl
        rw [this, inj_mk]
        exact .refl _ _
end Go.Proofs.YtjdocenbfghglaaGreatDoor.AW
end
section
set_option linter.unusedSimpArgs false
set_option linter.unusedVariables false
namespace Go.Proofs.YtjdocenbfghglaaGreatDoor.AW
open Go Go.RowKit

theorem tin_mk {k i : Int} {t : ByteArray} {xs : List V} {ks : List ByteArray} (h1 : xs.length < 10000) (h2 : ks.length < 10000) (h3 : ∀ x ∈ xs, x.tin) : (V.mk k i t xs ks).tin := by
  simp only [V.tin, V.tinL_iff]; exact ⟨h1, h2, h3⟩
theorem without_tin : ∀ (p : List Stp) (v : V), Vok v → (withoutP p v).tin := by
  intro p
  induction p with
  | nil => intro v hv; exact hv.tin
  | cons s p ih =>
    intro v hv
    have h1 := hv.shape.2
    have h2 := hv.keys.2
    have h3 := fun x hx => (hv.items x hx).tin
    cases p with
    | nil =>
      show (delV v (itemP v s).1.toNat).tin
      generalize (itemP v s).1.toNat = i
      obtain ⟨k, n, t, xs, ks⟩ := v
      simp only [V.items, V.keys] at h1 h2 h3
      refine tin_mk ?_ ?_ ?_
      · have := List.length_eraseIdx_le xs i; simp only [V.items]; omega
      · have := List.length_eraseIdx_le ks i
        show (if (V.mk k n t xs ks).kind = 5 then ks.eraseIdx i else ks).length < 10000
        by_cases hk : (V.mk k n t xs ks).kind = 5
        · rw [if_pos hk]; omega
        · rw [if_neg hk]; omega
      · intro x hx; exact h3 x (List.mem_of_mem_eraseIdx hx)
    | cons t p =>
      simp only [withoutP]
      generalize (itemP v s).1.toNat = i
      have hc : Vok (v.items.getD i zeroV) := by
        rw [List.getD_eq_getElem?_getD]
        cases h : v.items[i]? with
        | none => exact zero_ok
        | some x => exact hv.items x (List.mem_of_getElem? h)
      have hy := ih _ hc
      generalize withoutP (t :: p) (v.items.getD i zeroV) = y at hy ⊢
      obtain ⟨k, n, t, xs, ks⟩ := v
      simp only [V.items, V.keys] at h1 h2 h3
      refine tin_mk ?_ ?_ ?_
      · simp only [V.items, List.length_append, List.length_take, List.length_cons, List.length_drop]; omega
      · simp only [V.keys]; omega
      · intro x hx
        rcases List.mem_append.1 hx with h | h
        · exact h3 x (List.mem_of_mem_take h)
        · rcases List.mem_cons.1 h with rfl | h
          · exact hy
          · exact h3 x (List.mem_of_mem_drop h)
def removeV (v : V) (p : List Stp) : V × Int :=
  if valid v = true ∧ pathOk p = true then (if p.length = 0 then (zeroV, 3) else if (atS v p).isSome = true then (withoutP p v, 0) else (zeroV, 6)) else (zeroV, 1)
theorem wk_zero2 (n : Int) : Wk (.tup [.agg [.int .i64 0, .int .i64 0, .str ⟨#[]⟩, .sl .full 0 [], .sl .full 0 []], .int .i64 n]) (.tup [inj zeroV, .int .i64 n]) := (WkAll.cons wk_zero (.cons (.refl _) .nil)).tup
theorem premove_pure (v : V) (p : List Stp) (hv : v.sm) (hp : p.length < 4611686018427387904) : Pure Tryz.prog 13 [inj v, .sl .ro 2 (p.map injS)] (.tup [inj (removeV v p).1, .int .i64 (removeV v p).2]) := by
  refine Pure.of0 ⟨Tryz.f13, Tryz.func13, rfl, by kernel_rfl⟩ (by simp [AV.underL, inj_under, AV.under, injS_under]) (tup2_under _ _) ?_
  refine acalls_of te_ok [] Tryz.func13 (c := _) rfl (Nat.le_of_ble_eq_true rfl) ?_
  simp only [aw0, aw1, aw2, aw3, aw4, aw5, aw6, aw7, ne_eq, eq_self, implies_true, imp_self, reduceIte, reduceCtorEq, Nat.reduceAdd, Nat.reduceLT, Nat.reduceLeDiff, Nat.reduceEqDiff, Nat.reduceSub, Nat.reduceMul, Nat.reduceBEq, Int.reduceBEq, Int.reduceBNe, Int.reduceLT, Int.reduceLE, Int.reduceGT, Int.reduceGE, Int.reduceNeg, Int.reduceEq, Int.reduceNe, Int.reduceToNat, Int.reduceAdd, aconv, acvB, capR, acmpnil, appBox, storeB, ares1, appendTo, afill, aeqL, teset, Tryz.ntmps13, Tryz.results13, inj_take, inj_drop, inj_agg, inj_len, inj_one, List.length_map, boxR, none_nb, none_box]
  refine ACallV.pure (pvalid_pure v hv) ?_
  cases h1 : valid v with
  | false =>
    simp only [aw0, aw1, aw2, aw3, aw4, aw5, aw6, aw7, ne_eq, eq_self, implies_true, imp_self, reduceIte, reduceCtorEq, Nat.reduceAdd, Nat.reduceLT, Nat.reduceLeDiff, Nat.reduceEqDiff, Nat.reduceSub, Nat.reduceMul, Nat.reduceBEq, Int.reduceBEq, Int.reduceBNe, Int.reduceLT, Int.reduceLE, Int.reduceGT, Int.reduceGE, Int.reduceNeg, Int.reduceEq, Int.reduceNe, Int.reduceToNat, Int.reduceAdd, aconv, acvB, capR, acmpnil, appBox, storeB, ares1, appendTo, afill, aeqL, teset, inj_take, inj_drop, inj_agg, inj_len, inj_one, List.length_map, none_nb, none_box]
    refine ⟨_, rfl, ?_⟩
    have : removeV v p = (zeroV, 1) := by unfold removeV; rw [if_neg (fun h => by rw [h1] at h; cases h.1)]
    rw [this]
    exact .wk (wk_zero2 _)
  | true =>
    simp only [aw0, aw1, aw2, aw3, aw4, aw5, aw6, aw7, ne_eq, eq_self, implies_true, imp_self, reduceIte, reduceCtorEq, Nat.reduceAdd, Nat.reduceLT, Nat.reduceLeDiff, Nat.reduceEqDiff, Nat.reduceSub, Nat.reduceMul, Nat.reduceBEq, Int.reduceBEq, Int.reduceBNe, Int.reduceLT, Int.reduceLE, Int.reduceGT, Int.reduceGE, Int.reduceNeg, Int.reduceEq, Int.reduceNe, Int.reduceToNat, Int.reduceAdd, aconv, acvB, capR, acmpnil, appBox, storeB, ares1, appendTo, afill, aeqL, teset, inj_take, inj_drop, inj_agg, inj_len, inj_one, List.length_map, none_nb, none_box]
    refine ACallV.pure (ppath_pure p (by omega)) ?_
    cases h2 : pathOk p with
    | false =>
      simp only [aw0, aw1, aw2, aw3, aw4, aw5, aw6, aw7, ne_eq, eq_self, implies_true, imp_self, reduceIte, reduceCtorEq, Nat.reduceAdd, Nat.reduceLT, Nat.reduceLeDiff, Nat.reduceEqDiff, Nat.reduceSub, Nat.reduceMul, Nat.reduceBEq, Int.reduceBEq, Int.reduceBNe, Int.reduceLT, Int.reduceLE, Int.reduceGT, Int.reduceGE, Int.reduceNeg, Int.reduceEq, Int.reduceNe, Int.reduceToNat, Int.reduceAdd, aconv, acvB, capR, acmpnil, appBox, storeB, ares1, appendTo, afill, aeqL, teset, inj_take, inj_drop, inj_agg, inj_len, inj_one, List.length_map, none_nb, none_box]
      refine ⟨_, rfl, ?_⟩
      have : removeV v p = (zeroV, 1) := by unfold removeV; rw [if_neg (fun h => by rw [h2] at h; cases h.2)]
      rw [this]
      exact .wk (wk_zero2 _)
    | true =>
      have hvk := valid_ok h1
      have hspec : removeV v p = (if p.length = 0 then (zeroV, 3) else if (atS v p).isSome = true then (withoutP p v, 0) else (zeroV, 6)) := by unfold removeV; rw [if_pos ⟨h1, h2⟩]
      simp only [aw0, aw1, aw2, aw3, aw4, aw5, aw6, aw7, ne_eq, eq_self, implies_true, imp_self, reduceIte, reduceCtorEq, Nat.reduceAdd, Nat.reduceLT, Nat.reduceLeDiff, Nat.reduceEqDiff, Nat.reduceSub, Nat.reduceMul, Nat.reduceBEq, Int.reduceBEq, Int.reduceBNe, Int.reduceLT, Int.reduceLE, Int.reduceGT, Int.reduceGE, Int.reduceNeg, Int.reduceEq, Int.reduceNe, Int.reduceToNat, Int.reduceAdd, aconv, acvB, capR, acmpnil, appBox, storeB, ares1, appendTo, afill, aeqL, teset, inj_take, inj_drop, inj_agg, inj_len, inj_one, List.length_map, none_nb, none_box]
      refine ACallV.pure (pat_pure v p hvk (by omega)) ?_
      rw [hspec]
      cases ha : atS v p with
      | none =>
        simp only [aw0, aw1, aw2, aw3, aw4, aw5, aw6, aw7, ne_eq, eq_self, implies_true, imp_self, reduceIte, reduceCtorEq, Nat.reduceAdd, Nat.reduceLT, Nat.reduceLeDiff, Nat.reduceEqDiff, Nat.reduceSub, Nat.reduceMul, Nat.reduceBEq, Int.reduceBEq, Int.reduceBNe, Int.reduceLT, Int.reduceLE, Int.reduceGT, Int.reduceGE, Int.reduceNeg, Int.reduceEq, Int.reduceNe, Int.reduceToNat, Int.reduceAdd, aconv, acvB, capR, acmpnil, appBox, storeB, ares1, appendTo, afill, aeqL, teset, inj_take, inj_drop, inj_agg, inj_len, inj_one, List.length_map, none_nb, none_box, outV_n, outV_s]
        cases hc : ((p.length : Int) == 0) with
        | true =>
          simp only [beq_iff_eq] at hc
          simp only [aw0, aw1, aw2, aw3, aw4, aw5, aw6, aw7, ne_eq, eq_self, implies_true, imp_self, reduceIte, reduceCtorEq, Nat.reduceAdd, Nat.reduceLT, Nat.reduceLeDiff, Nat.reduceEqDiff, Nat.reduceSub, Nat.reduceMul, Nat.reduceBEq, Int.reduceBEq, Int.reduceBNe, Int.reduceLT, Int.reduceLE, Int.reduceGT, Int.reduceGE, Int.reduceNeg, Int.reduceEq, Int.reduceNe, Int.reduceToNat, Int.reduceAdd, aconv, acvB, capR, acmpnil, appBox, storeB, ares1, appendTo, afill, aeqL, teset, inj_take, inj_drop, inj_agg, inj_len, inj_one, List.length_map, none_nb, none_box]
          refine ⟨_, rfl, ?_⟩
          rw [if_pos (by omega)]
          exact .wk (wk_zero2 _)
        | false =>
          simp only [beq_eq_false_iff_ne, ne_eq] at hc
          simp only [aw0, aw1, aw2, aw3, aw4, aw5, aw6, aw7, ne_eq, eq_self, implies_true, imp_self, reduceIte, reduceCtorEq, Nat.reduceAdd, Nat.reduceLT, Nat.reduceLeDiff, Nat.reduceEqDiff, Nat.reduceSub, Nat.reduceMul, Nat.reduceBEq, Int.reduceBEq, Int.reduceBNe, Int.reduceLT, Int.reduceLE, Int.reduceGT, Int.reduceGE, Int.reduceNeg, Int.reduceEq, Int.reduceNe, Int.reduceToNat, Int.reduceAdd, aconv, acvB, capR, acmpnil, appBox, storeB, ares1, appendTo, afill, aeqL, teset, inj_take, inj_drop, inj_agg, inj_len, inj_one, List.length_map, none_nb, none_box]
          refine ⟨_, rfl, ?_⟩
          rw [if_neg (by omega)]
          exact .wk (wk_zero2 _)
      | some x =>
        simp only [aw0, aw1, aw2, aw3, aw4, aw5, aw6, aw7, ne_eq, eq_self, implies_true, imp_self, reduceIte, reduceCtorEq, Nat.reduceAdd, Nat.reduceLT, Nat.reduceLeDiff, Nat.reduceEqDiff, Nat.reduceSub, Nat.reduceMul, Nat.reduceBEq, Int.reduceBEq, Int.reduceBNe, Int.reduceLT, Int.reduceLE, Int.reduceGT, Int.reduceGE, Int.reduceNeg, Int.reduceEq, Int.reduceNe, Int.reduceToNat, Int.reduceAdd, aconv, acvB, capR, acmpnil, appBox, storeB, ares1, appendTo, afill, aeqL, teset, inj_take, inj_drop, inj_agg, inj_len, inj_one, List.length_map, none_nb, none_box, outV_n, outV_s]
        cases hc : ((p.length : Int) == 0) with
        | true =>
          simp only [beq_iff_eq] at hc
          simp only [aw0, aw1, aw2, aw3, aw4, aw5, aw6, aw7, ne_eq, eq_self, implies_true, imp_self, reduceIte, reduceCtorEq, Nat.reduceAdd, Nat.reduceLT, Nat.reduceLeDiff, Nat.reduceEqDiff, Nat.reduceSub, Nat.reduceMul, Nat.reduceBEq, Int.reduceBEq, Int.reduceBNe, Int.reduceLT, Int.reduceLE, Int.reduceGT, Int.reduceGE, Int.reduceNeg, Int.reduceEq, Int.reduceNe, Int.reduceToNat, Int.reduceAdd, aconv, acvB, capR, acmpnil, appBox, storeB, ares1, appendTo, afill, aeqL, teset, inj_take, inj_drop, inj_agg, inj_len, inj_one, List.length_map, none_nb, none_box]
          refine ⟨_, rfl, ?_⟩
          rw [if_pos (by omega)]
          exact .wk (wk_zero2 _)
        | false =>
          simp only [beq_eq_false_iff_ne, ne_eq] at hc
          have hp0 : p ≠ [] := by rintro rfl; simp at hc
          simp only [aw0, aw1, aw2, aw3, aw4, aw5, aw6, aw7, ne_eq, eq_self, implies_true, imp_self, reduceIte, reduceCtorEq, Nat.reduceAdd, Nat.reduceLT, Nat.reduceLeDiff, Nat.reduceEqDiff, Nat.reduceSub, Nat.reduceMul, Nat.reduceBEq, Int.reduceBEq, Int.reduceBNe, Int.reduceLT, Int.reduceLE, Int.reduceGT, Int.reduceGE, Int.reduceNeg, Int.reduceEq, Int.reduceNe, Int.reduceToNat, Int.reduceAdd, aconv, acvB, capR, acmpnil, appBox, storeB, ares1, appendTo, afill, aeqL, teset, inj_take, inj_drop, inj_agg, inj_len, inj_one, List.length_map, none_nb, none_box]
          refine ACallV.pure (without_pure p v x hvk hp0 ha (by have := pathOk_len h2; omega)) ?_
          simp only [aw0, aw1, aw2, aw3, aw4, aw5, aw6, aw7, ne_eq, eq_self, implies_true, imp_self, reduceIte, reduceCtorEq, Nat.reduceAdd, Nat.reduceLT, Nat.reduceLeDiff, Nat.reduceEqDiff, Nat.reduceSub, Nat.reduceMul, Nat.reduceBEq, Int.reduceBEq, Int.reduceBNe, Int.reduceLT, Int.reduceLE, Int.reduceGT, Int.reduceGE, Int.reduceNeg, Int.reduceEq, Int.reduceNe, Int.reduceToNat, Int.reduceAdd, aconv, acvB, capR, acmpnil, appBox, storeB, ares1, appendTo, afill, aeqL, teset, inj_take, inj_drop, inj_agg, inj_len, inj_one, List.length_map, none_nb, none_box]
          refine ACallV.pure (clone_tin _ (without_tin p v hvk)) ?_
          simp only [aw0, aw1, aw2, aw3, aw4, aw5, aw6, aw7, ne_eq, eq_self, implies_true, imp_self, reduceIte, reduceCtorEq, Nat.reduceAdd, Nat.reduceLT, Nat.reduceLeDiff, Nat.reduceEqDiff, Nat.reduceSub, Nat.reduceMul, Nat.reduceBEq, Int.reduceBEq, Int.reduceBNe, Int.reduceLT, Int.reduceLE, Int.reduceGT, Int.reduceGE, Int.reduceNeg, Int.reduceEq, Int.reduceNe, Int.reduceToNat, Int.reduceAdd, aconv, acvB, capR, acmpnil, appBox, storeB, ares1, appendTo, afill, aeqL, teset, inj_take, inj_drop, inj_agg, inj_len, inj_one, List.length_map, none_nb, none_box]
          refine ⟨_, rfl, ?_⟩
          rw [if_neg (by omega)]
          exact .refl _ _
end Go.Proofs.YtjdocenbfghglaaGreatDoor.AW
end
section
set_option linter.unusedSimpArgs false
set_option linter.unusedVariables false
namespace Go.Proofs.YtjdocenbfghglaaGreatDoor.AW
open Go Go.RowKit

theorem with_set (xs : List V) {i : Nat} (h : i < xs.length) (y : V) : xs.take i ++ y :: xs.drop (min (i + 1) xs.length) = xs.set i y := by
  rw [Nat.min_eq_left (by omega), List.set_eq_take_append_cons_drop, if_pos h]
theorem refwo_pure : ∀ (p : List Stp) (v o : V), Vok v → p ≠ [] → atS v p = some o → p.length < 1000000 → Pure Tryz.prog 48 [inj v, .sl .ro 2 (p.map injS)] (inj (withoutP p v)) := by
  intro p
  induction p with
  | nil => intro v o _ h; exact absurd rfl h
  | cons s p ih =>
    intro v o hv _ ho hl
    simp only [List.length_cons] at hl
    simp only [atS] at ho
    cases ht : itemS v s with
    | none => rw [ht] at ho; cases ho
    | some o1 =>
    rw [ht] at ho
    obtain ⟨i, hi1, hi2, hi3⟩ := itemP_nat hv ht
    have hlt := (List.getElem?_eq_some_iff.1 hi2).1
    have hx6 : v.items.length < 1000000 := by have := hv.shape.2; omega
    have hvo : Vok o1 := hv.items o1 (itemS_mem ht)
    have hspec1 : p = [] → withoutP (s :: p) v = delV v i := by rintro rfl; simp only [withoutP, hi1, Int.toNat_natCast]
    have hspec2 : p ≠ [] → withoutP (s :: p) v = withV v i (withoutP p o1) := by
      intro hp
      obtain ⟨t, p', rfl⟩ := List.exists_cons_of_ne_nil hp
      simp only [withoutP, hi1, Int.toNat_natCast]
      rw [List.getD_eq_getElem?_getD, hi2]; rfl
    have hk : (s.index < 0 ∧ v.kind = 5) ∨ (0 ≤ s.index ∧ v.kind = 4) := by
      by_cases h1 : s.index < 0 ∧ v.kind = 5
      · exact .inl h1
      · by_cases h2 : 0 ≤ s.index ∧ v.kind = 4
        · exact .inr h2
        · rw [itemS_no h1 h2] at ht; cases ht
    obtain ⟨ix, key⟩ := s
    obtain ⟨k, n, t, xs, ks⟩ := v
    rcases hk with ⟨h0, h5⟩ | ⟨h0, h4⟩
    · obtain ⟨q1, q2, q3, q4⟩ := shape5 hv h5
      have hkey : ks[i]? = some key := by
        rw [itemP_5 h0 h5] at hi1
        injection hi1 with e1 e2
        have : lb ks key = i := Int.ofNat.inj e1
        rw [← this]; exact found_at e2
      simp only [V.kind, V.int, V.text, V.items, V.keys] at h5 q1 q2 q3 q4 hi2 hlt hx6 h0
      subst h5 q1 q2
      rw [inj_mk]
      by_cases hp : p = []
      · rw [hspec1 hp]
        subst hp
        exact refwo_s5 xs ks key i hlt hx6 ix h0 q3 q4 hkey
      · rw [hspec2 hp]
        have := refwo_m5 xs ks key i hlt hx6 ix h0 q3 q4 hkey p hp o1 (withoutP p o1) hi2 (ih o1 o hvo hp ho (by omega))
        rw [← with_set xs hlt] at this
        exact this
    · obtain ⟨q1, q2, q3⟩ := shape4 hv h4
      have hix : ix = (i : Int) := by
        rw [itemP_4 h0 h4] at hi1
        injection hi1
      simp only [V.kind, V.int, V.text, V.items, V.keys] at h4 q1 q2 q3 hi2 hlt hx6 h0
      subst h4 q1 q2 q3 hix
      rw [inj_mk]
      by_cases hp : p = []
      · rw [hspec1 hp]
        subst hp
        exact refwo_s4 xs [] key i hlt hx6 i rfl rfl
      · rw [hspec2 hp]
        have := refwo_m4 xs [] key i hlt hx6 i rfl rfl p hp o1 (withoutP p o1) hi2 (ih o1 o hvo hp ho (by omega))
        rw [← with_set xs hlt] at this
        exact this
theorem into_pure (v : V) (p : List Stp) (x : V) (hv : Vok v) (hp : p.length < 1000000) (hx : x.sm) : Pure Tryz.prog 43 [inj v, .sl .ro 2 (p.map injS), inj x]
    (.tup [inj (if (putP p v x).2 ≠ 0 then (zeroV, (putP p v x).2) else wholeV (putP p v x).1).1, .int .i64 (if (putP p v x).2 ≠ 0 then (zeroV, (putP p v x).2) else wholeV (putP p v x).1).2]) := by
  refine Pure.of0 ⟨Tryz.f43, Tryz.func43, rfl, by kernel_rfl⟩ (by simp [AV.underL, inj_under, AV.under, injS_under]) (tup2_under _ _) ?_
  have h1 := refput_pure p v x hv hp
  refine acalls_of te_ok [] Tryz.func43 (c := _) rfl (Nat.le_of_ble_eq_true rfl) ?_
  simp only [aw0, aw1, aw2, aw3, aw4, aw5, aw6, aw7, ne_eq, eq_self, implies_true, imp_self, reduceIte, reduceCtorEq, Nat.reduceAdd, Nat.reduceLT, Nat.reduceLeDiff, Nat.reduceEqDiff, Nat.reduceSub, Nat.reduceMul, Nat.reduceBEq, Int.reduceBEq, Int.reduceBNe, Int.reduceLT, Int.reduceLE, Int.reduceGT, Int.reduceGE, Int.reduceNeg, Int.reduceEq, Int.reduceNe, Int.reduceToNat, Int.reduceAdd, aconv, acvB, capR, acmpnil, appBox, storeB, ares1, appendTo, afill, aeqL, teset, Tryz.ntmps43, Tryz.results43, inj_take, inj_drop, inj_agg, inj_len, inj_one, List.length_map, boxR, none_nb, none_box]
  refine ACallV.pure h1 ?_
  generalize putP p v x = q
  obtain ⟨y, e⟩ := q
  simp only [aw0, aw1, aw2, aw3, aw4, aw5, aw6, aw7, ne_eq, eq_self, implies_true, imp_self, reduceIte, reduceCtorEq, Nat.reduceAdd, Nat.reduceLT, Nat.reduceLeDiff, Nat.reduceEqDiff, Nat.reduceSub, Nat.reduceMul, Nat.reduceBEq, Int.reduceBEq, Int.reduceBNe, Int.reduceLT, Int.reduceLE, Int.reduceGT, Int.reduceGE, Int.reduceNeg, Int.reduceEq, Int.reduceNe, Int.reduceToNat, Int.reduceAdd, aconv, acvB, capR, acmpnil, appBox, storeB, ares1, appendTo, afill, aeqL, teset, inj_take, inj_drop, inj_agg, inj_len, inj_one, List.length_map, none_nb, none_box]
  by_cases he : e = 0
  · subst he
    simp only [aw0, aw1, aw2, aw3, aw4, aw5, aw6, aw7, ne_eq, eq_self, implies_true, imp_self, reduceIte, reduceCtorEq, Nat.reduceAdd, Nat.reduceLT, Nat.reduceLeDiff, Nat.reduceEqDiff, Nat.reduceSub, Nat.reduceMul, Nat.reduceBEq, Int.reduceBEq, Int.reduceBNe, Int.reduceLT, Int.reduceLE, Int.reduceGT, Int.reduceGE, Int.reduceNeg, Int.reduceEq, Int.reduceNe, Int.reduceToNat, Int.reduceAdd, aconv, acvB, capR, acmpnil, appBox, storeB, ares1, appendTo, afill, aeqL, teset, inj_take, inj_drop, inj_agg, inj_len, inj_one, List.length_map, none_nb, none_box, bne_self_eq_false]
    refine ACallV.pure (refvalid_pure y) ?_
    cases hval : valid y with
    | false =>
      have hw : wholeV y = (zeroV, 2) := by unfold wholeV; rw [hval]; rfl
      rw [hw]
      simp only [aw0, aw1, aw2, aw3, aw4, aw5, aw6, aw7, ne_eq, eq_self, implies_true, imp_self, reduceIte, reduceCtorEq, Nat.reduceAdd, Nat.reduceLT, Nat.reduceLeDiff, Nat.reduceEqDiff, Nat.reduceSub, Nat.reduceMul, Nat.reduceBEq, Int.reduceBEq, Int.reduceBNe, Int.reduceLT, Int.reduceLE, Int.reduceGT, Int.reduceGE, Int.reduceNeg, Int.reduceEq, Int.reduceNe, Int.reduceToNat, Int.reduceAdd, aconv, acvB, capR, acmpnil, appBox, storeB, ares1, appendTo, afill, aeqL, teset, inj_take, inj_drop, inj_agg, inj_len, inj_one, List.length_map, none_nb, none_box]
      exact ⟨_, rfl, .wk (wk_zero2 _)⟩
    | true =>
      have hw : wholeV y = (y, 0) := by unfold wholeV; rw [hval]; rfl
      rw [hw]
      simp only [aw0, aw1, aw2, aw3, aw4, aw5, aw6, aw7, ne_eq, eq_self, implies_true, imp_self, reduceIte, reduceCtorEq, Nat.reduceAdd, Nat.reduceLT, Nat.reduceLeDiff, Nat.reduceEqDiff, Nat.reduceSub, Nat.reduceMul, Nat.reduceBEq, Int.reduceBEq, Int.reduceBNe, Int.reduceLT, Int.reduceLE, Int.reduceGT, Int.reduceGE, Int.reduceNeg, Int.reduceEq, Int.reduceNe, Int.reduceToNat, Int.reduceAdd, aconv, acvB, capR, acmpnil, appBox, storeB, ares1, appendTo, afill, aeqL, teset, inj_take, inj_drop, inj_agg, inj_len, inj_one, List.length_map, none_nb, none_box]
      exact ⟨_, rfl, .refl _ _⟩
  · have he2 : (e != 0) = true := by simpa using he
    simp only [aw0, aw1, aw2, aw3, aw4, aw5, aw6, aw7, ne_eq, eq_self, implies_true, imp_self, reduceIte, reduceCtorEq, Nat.reduceAdd, Nat.reduceLT, Nat.reduceLeDiff, Nat.reduceEqDiff, Nat.reduceSub, Nat.reduceMul, Nat.reduceBEq, Int.reduceBEq, Int.reduceBNe, Int.reduceLT, Int.reduceLE, Int.reduceGT, Int.reduceGE, Int.reduceNeg, Int.reduceEq, Int.reduceNe, Int.reduceToNat, Int.reduceAdd, aconv, acvB, capR, acmpnil, appBox, storeB, ares1, appendTo, afill, aeqL, teset, inj_take, inj_drop, inj_agg, inj_len, inj_one, List.length_map, none_nb, none_box, he2]
    refine ⟨_, rfl, ?_⟩
    rw [if_pos he]
    exact .wk (wk_zero2 _)
theorem refPut_pure (v : V) (p : List Stp) (x : V) (hv : v.sm) (hx : x.sm) : Pure Tryz.prog 12 [inj v, .sl .ro 2 (p.map injS), inj x] (.tup [inj (putV v p x).1, .int .i64 (putV v p x).2]) := by
  refine Pure.of0 ⟨Tryz.f12, Tryz.func12, rfl, by kernel_rfl⟩ (by simp [AV.underL, inj_under, AV.under, injS_under]) (tup2_under _ _) ?_
  refine acalls_of te_ok [] Tryz.func12 (c := _) rfl (Nat.le_of_ble_eq_true rfl) ?_
  simp only [aw0, aw1, aw2, aw3, aw4, aw5, aw6, aw7, ne_eq, eq_self, implies_true, imp_self, reduceIte, reduceCtorEq, Nat.reduceAdd, Nat.reduceLT, Nat.reduceLeDiff, Nat.reduceEqDiff, Nat.reduceSub, Nat.reduceMul, Nat.reduceBEq, Int.reduceBEq, Int.reduceBNe, Int.reduceLT, Int.reduceLE, Int.reduceGT, Int.reduceGE, Int.reduceNeg, Int.reduceEq, Int.reduceNe, Int.reduceToNat, Int.reduceAdd, aconv, acvB, capR, acmpnil, appBox, storeB, ares1, appendTo, afill, aeqL, teset, Tryz.ntmps12, Tryz.results12, inj_take, inj_drop, inj_agg, inj_len, inj_one, List.length_map, boxR, none_nb, none_box]
  refine ACallV.pure (refvalid_pure v) ?_
  cases h1 : valid v with
  | false =>
    have : putV v p x = (zeroV, 1) := by unfold putV; rw [if_neg (fun h => by rw [h1] at h; cases h.1)]
    rw [this]
    simp only [aw0, aw1, aw2, aw3, aw4, aw5, aw6, aw7, ne_eq, eq_self, implies_true, imp_self, reduceIte, reduceCtorEq, Nat.reduceAdd, Nat.reduceLT, Nat.reduceLeDiff, Nat.reduceEqDiff, Nat.reduceSub, Nat.reduceMul, Nat.reduceBEq, Int.reduceBEq, Int.reduceBNe, Int.reduceLT, Int.reduceLE, Int.reduceGT, Int.reduceGE, Int.reduceNeg, Int.reduceEq, Int.reduceNe, Int.reduceToNat, Int.reduceAdd, aconv, acvB, capR, acmpnil, appBox, storeB, ares1, appendTo, afill, aeqL, teset, inj_take, inj_drop, inj_agg, inj_len, inj_one, List.length_map, none_nb, none_box]
    exact ⟨_, rfl, .wk (wk_zero2 _)⟩
  | true =>
    simp only [aw0, aw1, aw2, aw3, aw4, aw5, aw6, aw7, ne_eq, eq_self, implies_true, imp_self, reduceIte, reduceCtorEq, Nat.reduceAdd, Nat.reduceLT, Nat.reduceLeDiff, Nat.reduceEqDiff, Nat.reduceSub, Nat.reduceMul, Nat.reduceBEq, Int.reduceBEq, Int.reduceBNe, Int.reduceLT, Int.reduceLE, Int.reduceGT, Int.reduceGE, Int.reduceNeg, Int.reduceEq, Int.reduceNe, Int.reduceToNat, Int.reduceAdd, aconv, acvB, capR, acmpnil, appBox, storeB, ares1, appendTo, afill, aeqL, teset, inj_take, inj_drop, inj_agg, inj_len, inj_one, List.length_map, none_nb, none_box]
    refine ACallV.pure (refpath_pure p) ?_
    cases h2 : pathOk p with
    | false =>
      have : putV v p x = (zeroV, 1) := by unfold putV; rw [if_neg (fun h => by rw [h2] at h; cases h.2.1)]
      rw [this]
      simp only [aw0, aw1, aw2, aw3, aw4, aw5, aw6, aw7, ne_eq, eq_self, implies_true, imp_self, reduceIte, reduceCtorEq, Nat.reduceAdd, Nat.reduceLT, Nat.reduceLeDiff, Nat.reduceEqDiff, Nat.reduceSub, Nat.reduceMul, Nat.reduceBEq, Int.reduceBEq, Int.reduceBNe, Int.reduceLT, Int.reduceLE, Int.reduceGT, Int.reduceGE, Int.reduceNeg, Int.reduceEq, Int.reduceNe, Int.reduceToNat, Int.reduceAdd, aconv, acvB, capR, acmpnil, appBox, storeB, ares1, appendTo, afill, aeqL, teset, inj_take, inj_drop, inj_agg, inj_len, inj_one, List.length_map, none_nb, none_box]
      exact ⟨_, rfl, .wk (wk_zero2 _)⟩
    | true =>
      simp only [aw0, aw1, aw2, aw3, aw4, aw5, aw6, aw7, ne_eq, eq_self, implies_true, imp_self, reduceIte, reduceCtorEq, Nat.reduceAdd, Nat.reduceLT, Nat.reduceLeDiff, Nat.reduceEqDiff, Nat.reduceSub, Nat.reduceMul, Nat.reduceBEq, Int.reduceBEq, Int.reduceBNe, Int.reduceLT, Int.reduceLE, Int.reduceGT, Int.reduceGE, Int.reduceNeg, Int.reduceEq, Int.reduceNe, Int.reduceToNat, Int.reduceAdd, aconv, acvB, capR, acmpnil, appBox, storeB, ares1, appendTo, afill, aeqL, teset, inj_take, inj_drop, inj_agg, inj_len, inj_one, List.length_map, none_nb, none_box]
      refine ACallV.pure (refvalid_pure x) ?_
      cases h3 : valid x with
      | false =>
        have : putV v p x = (zeroV, 1) := by unfold putV; rw [if_neg (fun h => by rw [h3] at h; cases h.2.2)]
        rw [this]
        simp only [aw0, aw1, aw2, aw3, aw4, aw5, aw6, aw7, ne_eq, eq_self, implies_true, imp_self, reduceIte, reduceCtorEq, Nat.reduceAdd, Nat.reduceLT, Nat.reduceLeDiff, Nat.reduceEqDiff, Nat.reduceSub, Nat.reduceMul, Nat.reduceBEq, Int.reduceBEq, Int.reduceBNe, Int.reduceLT, Int.reduceLE, Int.reduceGT, Int.reduceGE, Int.reduceNeg, Int.reduceEq, Int.reduceNe, Int.reduceToNat, Int.reduceAdd, aconv, acvB, capR, acmpnil, appBox, storeB, ares1, appendTo, afill, aeqL, teset, inj_take, inj_drop, inj_agg, inj_len, inj_one, List.length_map, none_nb, none_box]
        exact ⟨_, rfl, .wk (wk_zero2 _)⟩
      | true =>
        have hspec : putV v p x = (if (putP p v x).2 ≠ 0 then (zeroV, (putP p v x).2) else wholeV (putP p v x).1) := by unfold putV; rw [if_pos ⟨h1, h2, h3⟩]
        rw [hspec]
        simp only [aw0, aw1, aw2, aw3, aw4, aw5, aw6, aw7, ne_eq, eq_self, implies_true, imp_self, reduceIte, reduceCtorEq, Nat.reduceAdd, Nat.reduceLT, Nat.reduceLeDiff, Nat.reduceEqDiff, Nat.reduceSub, Nat.reduceMul, Nat.reduceBEq, Int.reduceBEq, Int.reduceBNe, Int.reduceLT, Int.reduceLE, Int.reduceGT, Int.reduceGE, Int.reduceNeg, Int.reduceEq, Int.reduceNe, Int.reduceToNat, Int.reduceAdd, aconv, acvB, capR, acmpnil, appBox, storeB, ares1, appendTo, afill, aeqL, teset, inj_take, inj_drop, inj_agg, inj_len, inj_one, List.length_map, none_nb, none_box]
        refine ACallV.pure (into_pure v p x (valid_ok h1) (by have := pathOk_len h2; omega) hx) ?_
        simp only [aw0, aw1, aw2, aw3, aw4, aw5, aw6, aw7, ne_eq, eq_self, implies_true, imp_self, reduceIte, reduceCtorEq, Nat.reduceAdd, Nat.reduceLT, Nat.reduceLeDiff, Nat.reduceEqDiff, Nat.reduceSub, Nat.reduceMul, Nat.reduceBEq, Int.reduceBEq, Int.reduceBNe, Int.reduceLT, Int.reduceLE, Int.reduceGT, Int.reduceGE, Int.reduceNeg, Int.reduceEq, Int.reduceNe, Int.reduceToNat, Int.reduceAdd, aconv, acvB, capR, acmpnil, appBox, storeB, ares1, appendTo, afill, aeqL, teset, inj_take, inj_drop, inj_agg, inj_len, inj_one, List.length_map, none_nb, none_box]
        exact ⟨_, rfl, .refl _ _⟩
theorem refRemove_pure (v : V) (p : List Stp) (hv : v.sm) (hp : p.length < 4611686018427387904) : Pure Tryz.prog 14 [inj v, .sl .ro 2 (p.map injS)] (.tup [inj (removeV v p).1, .int .i64 (removeV v p).2]) := by
  refine Pure.of0 ⟨Tryz.f14, Tryz.func14, rfl, by kernel_rfl⟩ (by simp [AV.underL, inj_under, AV.under, injS_under]) (tup2_under _ _) ?_
  refine acalls_of te_ok [] Tryz.func14 (c := _) rfl (Nat.le_of_ble_eq_true rfl) ?_
  simp only [aw0, aw1, aw2, aw3, aw4, aw5, aw6, aw7, ne_eq, eq_self, implies_true, imp_self, reduceIte, reduceCtorEq, Nat.reduceAdd, Nat.reduceLT, Nat.reduceLeDiff, Nat.reduceEqDiff, Nat.reduceSub, Nat.reduceMul, Nat.reduceBEq, Int.reduceBEq, Int.reduceBNe, Int.reduceLT, Int.reduceLE, Int.reduceGT, Int.reduceGE, Int.reduceNeg, Int.reduceEq, Int.reduceNe, Int.reduceToNat, Int.reduceAdd, aconv, acvB, capR, acmpnil, appBox, storeB, ares1, appendTo, afill, aeqL, teset, Tryz.ntmps14, Tryz.results14, inj_take, inj_drop, inj_agg, inj_len, inj_one, List.length_map, boxR, none_nb, none_box]
  refine ACallV.pure (refvalid_pure v) ?_
  cases h1 : valid v with
  | false =>
    have : removeV v p = (zeroV, 1) := by unfold removeV; rw [if_neg (fun h => by rw [h1] at h; cases h.1)]
    rw [this]
    simp only [aw0, aw1, aw2, aw3, aw4, aw5, aw6, aw7, ne_eq, eq_self, implies_true, imp_self, reduceIte, reduceCtorEq, Nat.reduceAdd, Nat.reduceLT, Nat.reduceLeDiff, Nat.reduceEqDiff, Nat.reduceSub, Nat.reduceMul, Nat.reduceBEq, Int.reduceBEq, Int.reduceBNe, Int.reduceLT, Int.reduceLE, Int.reduceGT, Int.reduceGE, Int.reduceNeg, Int.reduceEq, Int.reduceNe, Int.reduceToNat, Int.reduceAdd, aconv, acvB, capR, acmpnil, appBox, storeB, ares1, appendTo, afill, aeqL, teset, inj_take, inj_drop, inj_agg, inj_len, inj_one, List.length_map, none_nb, none_box]
    exact ⟨_, rfl, .wk (wk_zero2 _)⟩
  | true =>
    simp only [aw0, aw1, aw2, aw3, aw4, aw5, aw6, aw7, ne_eq, eq_self, implies_true, imp_self, reduceIte, reduceCtorEq, Nat.reduceAdd, Nat.reduceLT, Nat.reduceLeDiff, Nat.reduceEqDiff, Nat.reduceSub, Nat.reduceMul, Nat.reduceBEq, Int.reduceBEq, Int.reduceBNe, Int.reduceLT, Int.reduceLE, Int.reduceGT, Int.reduceGE, Int.reduceNeg, Int.reduceEq, Int.reduceNe, Int.reduceToNat, Int.reduceAdd, aconv, acvB, capR, acmpnil, appBox, storeB, ares1, appendTo, afill, aeqL, teset, inj_take, inj_drop, inj_agg, inj_len, inj_one, List.length_map, none_nb, none_box]
    refine ACallV.pure (refpath_pure p) ?_
    cases h2 : pathOk p with
    | false =>
      have : removeV v p = (zeroV, 1) := by unfold removeV; rw [if_neg (fun h => by rw [h2] at h; cases h.2)]
      rw [this]
      simp only [aw0, aw1, aw2, aw3, aw4, aw5, aw6, aw7, ne_eq, eq_self, implies_true, imp_self, reduceIte, reduceCtorEq, Nat.reduceAdd, Nat.reduceLT, Nat.reduceLeDiff, Nat.reduceEqDiff, Nat.reduceSub, Nat.reduceMul, Nat.reduceBEq, Int.reduceBEq, Int.reduceBNe, Int.reduceLT, Int.reduceLE, Int.reduceGT, Int.reduceGE, Int.reduceNeg, Int.reduceEq, Int.reduceNe, Int.reduceToNat, Int.reduceAdd, aconv, acvB, capR, acmpnil, appBox, storeB, ares1, appendTo, afill, aeqL, teset, inj_take, inj_drop, inj_agg, inj_len, inj_one, List.length_map, none_nb, none_box]
      exact ⟨_, rfl, .wk (wk_zero2 _)⟩
    | true =>
      have hvk := valid_ok h1
      have hspec : removeV v p = (if p.length = 0 then (zeroV, 3) else if (atS v p).isSome = true then (withoutP p v, 0) else (zeroV, 6)) := by unfold removeV; rw [if_pos ⟨h1, h2⟩]
      rw [hspec]
      simp only [aw0, aw1, aw2, aw3, aw4, aw5, aw6, aw7, ne_eq, eq_self, implies_true, imp_self, reduceIte, reduceCtorEq, Nat.reduceAdd, Nat.reduceLT, Nat.reduceLeDiff, Nat.reduceEqDiff, Nat.reduceSub, Nat.reduceMul, Nat.reduceBEq, Int.reduceBEq, Int.reduceBNe, Int.reduceLT, Int.reduceLE, Int.reduceGT, Int.reduceGE, Int.reduceNeg, Int.reduceEq, Int.reduceNe, Int.reduceToNat, Int.reduceAdd, aconv, acvB, capR, acmpnil, appBox, storeB, ares1, appendTo, afill, aeqL, teset, inj_take, inj_drop, inj_agg, inj_len, inj_one, List.length_map, none_nb, none_box]
      cases hc : ((p.length : Int) == 0) with
      | true =>
        simp only [beq_iff_eq] at hc
        rw [if_pos (by omega)]
        simp only [aw0, aw1, aw2, aw3, aw4, aw5, aw6, aw7, ne_eq, eq_self, implies_true, imp_self, reduceIte, reduceCtorEq, Nat.reduceAdd, Nat.reduceLT, Nat.reduceLeDiff, Nat.reduceEqDiff, Nat.reduceSub, Nat.reduceMul, Nat.reduceBEq, Int.reduceBEq, Int.reduceBNe, Int.reduceLT, Int.reduceLE, Int.reduceGT, Int.reduceGE, Int.reduceNeg, Int.reduceEq, Int.reduceNe, Int.reduceToNat, Int.reduceAdd, aconv, acvB, capR, acmpnil, appBox, storeB, ares1, appendTo, afill, aeqL, teset, inj_take, inj_drop, inj_agg, inj_len, inj_one, List.length_map, none_nb, none_box]
        exact ⟨_, rfl, .wk (wk_zero2 _)⟩
      | false =>
        simp only [beq_eq_false_iff_ne, ne_eq] at hc
        have hp0 : p ≠ [] := by rintro rfl; simp at hc
        rw [if_neg (by omega)]
        simp only [aw0, aw1, aw2, aw3, aw4, aw5, aw6, aw7, ne_eq, eq_self, implies_true, imp_self, reduceIte, reduceCtorEq, Nat.reduceAdd, Nat.reduceLT, Nat.reduceLeDiff, Nat.reduceEqDiff, Nat.reduceSub, Nat.reduceMul, Nat.reduceBEq, Int.reduceBEq, Int.reduceBNe, Int.reduceLT, Int.reduceLE, Int.reduceGT, Int.reduceGE, Int.reduceNeg, Int.reduceEq, Int.reduceNe, Int.reduceToNat, Int.reduceAdd, aconv, acvB, capR, acmpnil, appBox, storeB, ares1, appendTo, afill, aeqL, teset, inj_take, inj_drop, inj_agg, inj_len, inj_one, List.length_map, none_nb, none_box]
        refine ACallV.pure (refat_pure v p hvk hp) ?_
        cases ha : atS v p with
        | none =>
          simp only [aw0, aw1, aw2, aw3, aw4, aw5, aw6, aw7, ne_eq, eq_self, implies_true, imp_self, reduceIte, reduceCtorEq, Nat.reduceAdd, Nat.reduceLT, Nat.reduceLeDiff, Nat.reduceEqDiff, Nat.reduceSub, Nat.reduceMul, Nat.reduceBEq, Int.reduceBEq, Int.reduceBNe, Int.reduceLT, Int.reduceLE, Int.reduceGT, Int.reduceGE, Int.reduceNeg, Int.reduceEq, Int.reduceNe, Int.reduceToNat, Int.reduceAdd, aconv, acvB, capR, acmpnil, appBox, storeB, ares1, appendTo, afill, aeqL, teset, inj_take, inj_drop, inj_agg, inj_len, inj_one, List.length_map, none_nb, none_box, outV_n, outV_s]
          exact ⟨_, rfl, .wk (wk_zero2 _)⟩
        | some x =>
          simp only [aw0, aw1, aw2, aw3, aw4, aw5, aw6, aw7, ne_eq, eq_self, implies_true, imp_self, reduceIte, reduceCtorEq, Nat.reduceAdd, Nat.reduceLT, Nat.reduceLeDiff, Nat.reduceEqDiff, Nat.reduceSub, Nat.reduceMul, Nat.reduceBEq, Int.reduceBEq, Int.reduceBNe, Int.reduceLT, Int.reduceLE, Int.reduceGT, Int.reduceGE, Int.reduceNeg, Int.reduceEq, Int.reduceNe, Int.reduceToNat, Int.reduceAdd, aconv, acvB, capR, acmpnil, appBox, storeB, ares1, appendTo, afill, aeqL, teset, inj_take, inj_drop, inj_agg, inj_len, inj_one, List.length_map, none_nb, none_box, outV_n, outV_s]
          refine ACallV.pure (refwo_pure p v x hvk hp0 ha (by have := pathOk_len h2; omega)) ?_
          simp only [aw0, aw1, aw2, aw3, aw4, aw5, aw6, aw7, ne_eq, eq_self, implies_true, imp_self, reduceIte, reduceCtorEq, Nat.reduceAdd, Nat.reduceLT, Nat.reduceLeDiff, Nat.reduceEqDiff, Nat.reduceSub, Nat.reduceMul, Nat.reduceBEq, Int.reduceBEq, Int.reduceBNe, Int.reduceLT, Int.reduceLE, Int.reduceGT, Int.reduceGE, Int.reduceNeg, Int.reduceEq, Int.reduceNe, Int.reduceToNat, Int.reduceAdd, aconv, acvB, capR, acmpnil, appBox, storeB, ares1, appendTo, afill, aeqL, teset, inj_take, inj_drop, inj_agg, inj_len, inj_one, List.length_map, none_nb, none_box]
          exact ⟨_, rfl, .refl _ _⟩
end Go.Proofs.YtjdocenbfghglaaGreatDoor.AW
end
