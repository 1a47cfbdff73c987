/- Texts of this claim, part 13: V99, L64. -/
import Derived.Test.YtlbhgoffiigfbaaGreatBs1
import Derived.Test.YtlbhgoffiigfbaaGreatBs3
import Derived.Test.YtlbhgoffiigfbaaGreatBs4
import Derived.Test.YtlbhgoffiigfbaaGreatBs5
import Derived.Test.YtlbhgoffiigfbaaGreatBs6
import Derived.Test.YtlbhgoffiigfbaaGreatBs7
import Derived.Test.YtlbhgoffiigfbaaGreatBs8
import Derived.Test.YtlbhgoffiigfbaaGreatBs9
import Derived.Test.YtlbhgoffiigfbaaGreatBs10
import Derived.Test.YtlbhgoffiigfbaaGreatBs11
import Derived.Test.YtlbhgoffiigfbaaGreatBs12
section
set_option linter.unusedSimpArgs false
set_option linter.unusedVariables false
namespace Go.Proofs.YtlbhgoffiigfbaaGreat.AW
open Go Go.RowKit

/-- How many bytes an encoding has; 0: the values cannot be written so. -/
def szE (xs : List V) (i : Nat) : Nat := if canL (i + 1) xs = true then (encS (i + 1) xs).size else 0
def szN (xs : List V) (j i : Nat) : Nat := if i < j then szE xs i else 0
/-- The numbers of bytes of the first encodings. -/
def szL (xs : List V) (j : Nat) : List AV := [.int .i64 (szN xs j 0), .int .i64 (szN xs j 1), .int .i64 (szN xs j 2), .int .i64 (szN xs j 3)]
theorem szL_zero (xs : List V) : szL xs 0 = [.int .i64 0, .int .i64 0, .int .i64 0, .int .i64 0] := rfl
theorem szL_step {xs : List V} {j : Nat} (hj : j < 4) : List.take j (szL xs j) ++ [.int .i64 (szE xs j)] ++ List.drop (j + 1) (szL xs j) = szL xs (j + 1) := by
  rcases (show j = 0 ∨ j = 1 ∨ j = 2 ∨ j = 3 by omega) with rfl | rfl | rfl | rfl <;> simp [szL, szN]
theorem szL_skip {xs : List V} {j : Nat} (hj : j < 4) (h : szE xs j = 0) : szL xs j = szL xs (j + 1) := by
  rcases (show j = 0 ∨ j = 1 ∨ j = 2 ∨ j = 3 by omega) with rfl | rfl | rfl | rfl <;> simp [szL, szN, h]
theorem new_set (h : AH) (a b : List AV) : (h.new a).set h.nb b = h.new b := by
  unfold AH.new AH.set
  simp only [AH.mk.injEq, and_self, and_true]
  funext q
  unfold upd
  by_cases e : q = h.nb <;> simp [e]
def sizesR (xs : List V) : AV := if validL xs = true then .tup [.agg (szL xs 4), .int .i64 0] else .tup [.agg (szL xs 0), .int .i64 1]
set_option maxHeartbeats 2000000 in
theorem sizes_pure (xs : List V) (hsm : ∀ x ∈ xs, x.sm) (hl : xs.length < 4611686018427387904) : Pure Tryz.prog 15 [.sl .ro 5 (xs.map inj)] (sizesR xs) := by
  have hvp := validL_pure xs hsm hl
  refine Pure.of ⟨Tryz.f15, Tryz.func15, rfl, by kernel_rfl⟩ (by unfold sizesR; split <;> rfl) (fun h => ?_)
  refine acalls_of te_ok [] Tryz.func15 (c := _) rfl (Nat.le_of_ble_eq_true rfl) ?_
  simp only [aw0, aw1, aw2, aw3, aw4, aw5, aw6, aw7, ne_eq, eq_self, implies_true, imp_self, reduceIte, reduceCtorEq, Nat.reduceAdd, Nat.reduceLT, Nat.reduceLeDiff, Nat.reduceEqDiff, Nat.reduceSub, Nat.reduceMul, Nat.reduceBEq, Int.reduceBEq, Int.reduceBNe, Int.reduceLT, Int.reduceLE, Int.reduceGT, Int.reduceGE, Int.reduceNeg, Int.reduceEq, Int.reduceNe, Int.reduceToNat, Int.reduceAdd, aconv, acvB, capR, acmpnil, appBox, storeB, ares1, appendTo, afill, aeqL, teset, Tryz.ntmps15, Tryz.results15]
  refine ACallV.pure hvp ?_
  cases hv : validL xs with
  | false =>
    simp only [aw0, aw1, aw2, aw3, aw4, aw5, aw6, aw7, ne_eq, eq_self, implies_true, imp_self, reduceIte, reduceCtorEq, Nat.reduceAdd, Nat.reduceLT, Nat.reduceLeDiff, Nat.reduceEqDiff, Nat.reduceSub, Nat.reduceMul, Nat.reduceBEq, Int.reduceBEq, Int.reduceBNe, Int.reduceLT, Int.reduceLE, Int.reduceGT, Int.reduceGE, Int.reduceNeg, Int.reduceEq, Int.reduceNe, Int.reduceToNat, Int.reduceAdd, aconv, acvB, capR, acmpnil, appBox, storeB, ares1, appendTo, afill, aeqL, teset, boxR]
    exact ⟨by (repeat (first | exact AH.Ext.refl _ | assumption | refine AH.Ext.set ?_ (by first | omega | (simp only [new_nb, set_nb, kill_nb, newTok_nb, setTok_nb]; omega)) _ | refine AH.Ext.new ?_ _)), _, rfl, by unfold sizesR; rw [hv]; rfl⟩
  | true =>
    obtain ⟨hx, hx2⟩ := validL_ok hv
    simp only [aw0, aw1, aw2, aw3, aw4, aw5, aw6, aw7, ne_eq, eq_self, implies_true, imp_self, reduceIte, reduceCtorEq, Nat.reduceAdd, Nat.reduceLT, Nat.reduceLeDiff, Nat.reduceEqDiff, Nat.reduceSub, Nat.reduceMul, Nat.reduceBEq, Int.reduceBEq, Int.reduceBNe, Int.reduceLT, Int.reduceLE, Int.reduceGT, Int.reduceGE, Int.reduceNeg, Int.reduceEq, Int.reduceNe, Int.reduceToNat, Int.reduceAdd, aconv, acvB, capR, acmpnil, appBox, storeB, ares1, appendTo, afill, aeqL, teset, boxR]
    refine ACallV.pure encodings_pure ?_
    simp only [aw0, aw1, aw2, aw3, aw4, aw5, aw6, aw7, ne_eq, eq_self, implies_true, imp_self, reduceIte, reduceCtorEq, Nat.reduceAdd, Nat.reduceLT, Nat.reduceLeDiff, Nat.reduceEqDiff, Nat.reduceSub, Nat.reduceMul, Nat.reduceBEq, Int.reduceBEq, Int.reduceBNe, Int.reduceLT, Int.reduceLE, Int.reduceGT, Int.reduceGE, Int.reduceNeg, Int.reduceEq, Int.reduceNe, Int.reduceToNat, Int.reduceAdd, aconv, acvB, capR, acmpnil, appBox, storeB, ares1, appendTo, afill, aeqL, teset, List.length_cons, List.length_nil]
    refine ⟨fun n s' h' => ∃ j : Nat, s' 0 = .sl .ro 5 (xs.map inj) ∧ s' 2 = .ptr h.nb 0 ∧ s' 3 = .int .i64 0 ∧ s' 4 = .ptr (h.nb + 1) 0 ∧ s' 11 = .sl .ro 1 [.iface (tyE 1) (.agg []), .iface (tyE 2) (.agg []), .iface (tyE 3) (.agg []), .iface (tyE 4) (.agg [])] ∧ s' 12 = .int .i64 4 ∧ s' 13 = .int .i64 j ∧ h' = (h.new (szL xs 0)).new (szL xs j) ∧ n + j = 4, ⟨4, 0, ?_⟩, ?_⟩
    · simp only [aw0, aw1, aw2, aw3, aw4, aw5, aw6, aw7, ne_eq, eq_self, implies_true, imp_self, reduceIte, reduceCtorEq, Nat.reduceAdd, Nat.reduceLT, Nat.reduceLeDiff, Nat.reduceEqDiff, Nat.reduceSub, Nat.reduceMul, Nat.reduceBEq, Int.reduceBEq, Int.reduceBNe, Int.reduceLT, Int.reduceLE, Int.reduceGT, Int.reduceGE, Int.reduceNeg, Int.reduceEq, Int.reduceNe, Int.reduceToNat, Int.reduceAdd, aconv, acvB, capR, acmpnil, appBox, storeB, ares1, appendTo, afill, aeqL, teset, Int.natCast_zero, szL_zero]
      first | done | rfl | exact ⟨rfl, rfl⟩
    · rintro n s' h' ⟨j, e0, e2, e3, e4, e11, e12, e13, hh, hn⟩
      simp only [aw0, aw1, aw2, aw3, aw4, aw5, aw6, aw7, ne_eq, eq_self, implies_true, imp_self, reduceIte, reduceCtorEq, Nat.reduceAdd, Nat.reduceLT, Nat.reduceLeDiff, Nat.reduceEqDiff, Nat.reduceSub, Nat.reduceMul, Nat.reduceBEq, Int.reduceBEq, Int.reduceBNe, Int.reduceLT, Int.reduceLE, Int.reduceGT, Int.reduceGE, Int.reduceNeg, Int.reduceEq, Int.reduceNe, Int.reduceToNat, Int.reduceAdd, aconv, acvB, capR, acmpnil, appBox, storeB, ares1, appendTo, afill, aeqL, teset, e0, e2, e3, e4, e11, e12, e13]
      cases hc : decide ((j : Int) < 4) with
      | false =>
        simp only [decide_eq_false_iff_not] at hc
        obtain rfl : j = 4 := by omega
        subst hh
        simp only [aw0, aw1, aw2, aw3, aw4, aw5, aw6, aw7, ne_eq, eq_self, implies_true, imp_self, reduceIte, reduceCtorEq, Nat.reduceAdd, Nat.reduceLT, Nat.reduceLeDiff, Nat.reduceEqDiff, Nat.reduceSub, Nat.reduceMul, Nat.reduceBEq, Int.reduceBEq, Int.reduceBNe, Int.reduceLT, Int.reduceLE, Int.reduceGT, Int.reduceGE, Int.reduceNeg, Int.reduceEq, Int.reduceNe, Int.reduceToNat, Int.reduceAdd, aconv, acvB, capR, acmpnil, appBox, storeB, ares1, appendTo, afill, aeqL, teset, e0, e2, e3, e4, e11, e12, e13, boxR, szL]
        refine ⟨by (repeat (first | exact AH.Ext.refl _ | assumption | refine AH.Ext.set ?_ (by first | omega | (simp only [new_nb, set_nb, kill_nb, newTok_nb, setTok_nb]; omega)) _ | refine AH.Ext.new ?_ _)), _, rfl, ?_⟩
        unfold sizesR; rw [hv, if_pos rfl]; rfl
      | true =>
        simp only [decide_eq_true_eq] at hc
        have hj : j < 4 := by omega
        have hget : ([.iface (tyE 1) (.agg []), .iface (tyE 2) (.agg []), .iface (tyE 3) (.agg []), .iface (tyE 4) (.agg [])] : List AV)[((j : Nat) : Int).toNat]? = some (.iface (tyE (j + 1)) (.agg [])) := by
          rcases (show j = 0 ∨ j = 1 ∨ j = 2 ∨ j = 3 by omega) with rfl | rfl | rfl | rfl <;> rfl
        simp only [aw0, aw1, aw2, aw3, aw4, aw5, aw6, aw7, ne_eq, eq_self, implies_true, imp_self, reduceIte, reduceCtorEq, Nat.reduceAdd, Nat.reduceLT, Nat.reduceLeDiff, Nat.reduceEqDiff, Nat.reduceSub, Nat.reduceMul, Nat.reduceBEq, Int.reduceBEq, Int.reduceBNe, Int.reduceLT, Int.reduceLE, Int.reduceGT, Int.reduceGE, Int.reduceNeg, Int.reduceEq, Int.reduceNe, Int.reduceToNat, Int.reduceAdd, aconv, acvB, capR, acmpnil, appBox, storeB, ares1, appendTo, afill, aeqL, teset, e0, e2, e3, e4, e11, e12, e13, hget, Int.natCast_nonneg, List.length_cons, List.length_nil]
        refine meth_call (can_meth (j + 1) (by omega) (by omega) xs hl) ?_
        cases hcan : canL (j + 1) xs with
        | false =>
          have hz : szE xs j = 0 := by unfold szE; rw [hcan]; rfl
          simp only [aw0, aw1, aw2, aw3, aw4, aw5, aw6, aw7, ne_eq, eq_self, implies_true, imp_self, reduceIte, reduceCtorEq, Nat.reduceAdd, Nat.reduceLT, Nat.reduceLeDiff, Nat.reduceEqDiff, Nat.reduceSub, Nat.reduceMul, Nat.reduceBEq, Int.reduceBEq, Int.reduceBNe, Int.reduceLT, Int.reduceLE, Int.reduceGT, Int.reduceGE, Int.reduceNeg, Int.reduceEq, Int.reduceNe, Int.reduceToNat, Int.reduceAdd, aconv, acvB, capR, acmpnil, appBox, storeB, ares1, appendTo, afill, aeqL, teset, e0, e2, e3, e4, e11, e12, e13]
          exact ⟨n - 1, by omega, j + 1, by rw [wrap_succ (by omega)], by rw [hh, szL_skip hj hz], by omega⟩
        | true =>
          have hz : szE xs j = (encS (j + 1) xs).size := by unfold szE; rw [hcan]; rfl
          simp only [aw0, aw1, aw2, aw3, aw4, aw5, aw6, aw7, ne_eq, eq_self, implies_true, imp_self, reduceIte, reduceCtorEq, Nat.reduceAdd, Nat.reduceLT, Nat.reduceLeDiff, Nat.reduceEqDiff, Nat.reduceSub, Nat.reduceMul, Nat.reduceBEq, Int.reduceBEq, Int.reduceBNe, Int.reduceLT, Int.reduceLE, Int.reduceGT, Int.reduceGE, Int.reduceNeg, Int.reduceEq, Int.reduceNe, Int.reduceToNat, Int.reduceAdd, aconv, acvB, capR, acmpnil, appBox, storeB, ares1, appendTo, afill, aeqL, teset, e0, e2, e3, e4, e11, e12, e13]
          refine meth_call (write_meth (j + 1) (by omega) (by omega) xs hx (by omega)) ?_
          have hlen : (encA (j + 1) xs).length = szE xs j := by rw [hz, encS_size]
          subst hh
          have hj4 : ((j : Int) < ((4 : Nat) : Int)) = True := by rw [eq_iff_iff]; exact ⟨fun _ => trivial, fun _ => by omega⟩
          have hns : ((h.new (szL xs 0)).new (szL xs j)).set (h.nb + 1) (szL xs (j + 1)) = (h.new (szL xs 0)).new (szL xs (j + 1)) := new_set _ _ _
          have hst := szL_step (xs := xs) hj
          simp only [aw0, aw1, aw2, aw3, aw4, aw5, aw6, aw7, ne_eq, eq_self, implies_true, imp_self, reduceIte, reduceCtorEq, Nat.reduceAdd, Nat.reduceLT, Nat.reduceLeDiff, Nat.reduceEqDiff, Nat.reduceSub, Nat.reduceMul, Nat.reduceBEq, Int.reduceBEq, Int.reduceBNe, Int.reduceLT, Int.reduceLE, Int.reduceGT, Int.reduceGE, Int.reduceNeg, Int.reduceEq, Int.reduceNe, Int.reduceToNat, Int.reduceAdd, aconv, acvB, capR, acmpnil, appBox, storeB, ares1, appendTo, afill, aeqL, teset, e0, e2, e3, e4, e11, e12, e13, boxR, hlen, Int.natCast_nonneg, hj4, Int.toNat_natCast, Nat.mul_one, show (szL xs j).length = 4 from rfl, show j + 1 ≤ 4 from hj, hst, hns]
          exact ⟨n - 1, by omega, j + 1, by rw [wrap_succ (by omega)], rfl, by omega⟩
set_option maxHeartbeats 2000000 in
theorem refsizes_pure (xs : List V) (hl : xs.length < 4611686018427387904) : Pure Tryz.prog 16 [.sl .ro 5 (xs.map inj)] (sizesR xs) := by
  have hvp := form_pure xs hl
  refine Pure.of ⟨Tryz.f16, Tryz.func16, rfl, by kernel_rfl⟩ (by unfold sizesR; split <;> rfl) (fun h => ?_)
  refine acalls_of te_ok [] Tryz.func16 (c := _) rfl (Nat.le_of_ble_eq_true rfl) ?_
  simp only [aw0, aw1, aw2, aw3, aw4, aw5, aw6, aw7, ne_eq, eq_self, implies_true, imp_self, reduceIte, reduceCtorEq, Nat.reduceAdd, Nat.reduceLT, Nat.reduceLeDiff, Nat.reduceEqDiff, Nat.reduceSub, Nat.reduceMul, Nat.reduceBEq, Int.reduceBEq, Int.reduceBNe, Int.reduceLT, Int.reduceLE, Int.reduceGT, Int.reduceGE, Int.reduceNeg, Int.reduceEq, Int.reduceNe, Int.reduceToNat, Int.reduceAdd, aconv, acvB, capR, acmpnil, appBox, storeB, ares1, appendTo, afill, aeqL, teset, Tryz.ntmps16, Tryz.results16]
  refine ACallV.pure hvp ?_
  cases hv : validL xs with
  | false =>
    simp only [aw0, aw1, aw2, aw3, aw4, aw5, aw6, aw7, ne_eq, eq_self, implies_true, imp_self, reduceIte, reduceCtorEq, Nat.reduceAdd, Nat.reduceLT, Nat.reduceLeDiff, Nat.reduceEqDiff, Nat.reduceSub, Nat.reduceMul, Nat.reduceBEq, Int.reduceBEq, Int.reduceBNe, Int.reduceLT, Int.reduceLE, Int.reduceGT, Int.reduceGE, Int.reduceNeg, Int.reduceEq, Int.reduceNe, Int.reduceToNat, Int.reduceAdd, aconv, acvB, capR, acmpnil, appBox, storeB, ares1, appendTo, afill, aeqL, teset, boxR]
    exact ⟨by (repeat (first | exact AH.Ext.refl _ | assumption | refine AH.Ext.set ?_ (by first | omega | (simp only [new_nb, set_nb, kill_nb, newTok_nb, setTok_nb]; omega)) _ | refine AH.Ext.new ?_ _)), _, rfl, by unfold sizesR; rw [hv]; rfl⟩
  | true =>
    simp only [aw0, aw1, aw2, aw3, aw4, aw5, aw6, aw7, ne_eq, eq_self, implies_true, imp_self, reduceIte, reduceCtorEq, Nat.reduceAdd, Nat.reduceLT, Nat.reduceLeDiff, Nat.reduceEqDiff, Nat.reduceSub, Nat.reduceMul, Nat.reduceBEq, Int.reduceBEq, Int.reduceBNe, Int.reduceLT, Int.reduceLE, Int.reduceGT, Int.reduceGE, Int.reduceNeg, Int.reduceEq, Int.reduceNe, Int.reduceToNat, Int.reduceAdd, aconv, acvB, capR, acmpnil, appBox, storeB, ares1, appendTo, afill, aeqL, teset, boxR]
    refine ⟨fun n s' h' => ∃ j : Nat, s' 0 = .sl .ro 5 (xs.map inj) ∧ s' 2 = .ptr h.nb 0 ∧ s' 3 = .int .i64 0 ∧ s' 4 = .ptr (h.nb + 1) 0 ∧ s' 5 = .int .i64 j ∧ h' = (h.new (szL xs 0)).new (szL xs j) ∧ n + j = 4, ⟨4, 0, ?_⟩, ?_⟩
    · simp only [aw0, aw1, aw2, aw3, aw4, aw5, aw6, aw7, ne_eq, eq_self, implies_true, imp_self, reduceIte, reduceCtorEq, Nat.reduceAdd, Nat.reduceLT, Nat.reduceLeDiff, Nat.reduceEqDiff, Nat.reduceSub, Nat.reduceMul, Nat.reduceBEq, Int.reduceBEq, Int.reduceBNe, Int.reduceLT, Int.reduceLE, Int.reduceGT, Int.reduceGE, Int.reduceNeg, Int.reduceEq, Int.reduceNe, Int.reduceToNat, Int.reduceAdd, aconv, acvB, capR, acmpnil, appBox, storeB, ares1, appendTo, afill, aeqL, teset, Int.natCast_zero, szL_zero]
      first | done | rfl | exact ⟨rfl, rfl⟩
    · rintro n s' h' ⟨j, e0, e2, e3, e4, e5, hh, hn⟩
      simp only [aw0, aw1, aw2, aw3, aw4, aw5, aw6, aw7, ne_eq, eq_self, implies_true, imp_self, reduceIte, reduceCtorEq, Nat.reduceAdd, Nat.reduceLT, Nat.reduceLeDiff, Nat.reduceEqDiff, Nat.reduceSub, Nat.reduceMul, Nat.reduceBEq, Int.reduceBEq, Int.reduceBNe, Int.reduceLT, Int.reduceLE, Int.reduceGT, Int.reduceGE, Int.reduceNeg, Int.reduceEq, Int.reduceNe, Int.reduceToNat, Int.reduceAdd, aconv, acvB, capR, acmpnil, appBox, storeB, ares1, appendTo, afill, aeqL, teset, e0, e2, e3, e4, e5]
      cases hc : decide ((j : Int) < 4) with
      | false =>
        simp only [decide_eq_false_iff_not] at hc
        obtain rfl : j = 4 := by omega
        subst hh
        simp only [aw0, aw1, aw2, aw3, aw4, aw5, aw6, aw7, ne_eq, eq_self, implies_true, imp_self, reduceIte, reduceCtorEq, Nat.reduceAdd, Nat.reduceLT, Nat.reduceLeDiff, Nat.reduceEqDiff, Nat.reduceSub, Nat.reduceMul, Nat.reduceBEq, Int.reduceBEq, Int.reduceBNe, Int.reduceLT, Int.reduceLE, Int.reduceGT, Int.reduceGE, Int.reduceNeg, Int.reduceEq, Int.reduceNe, Int.reduceToNat, Int.reduceAdd, aconv, acvB, capR, acmpnil, appBox, storeB, ares1, appendTo, afill, aeqL, teset, e0, e2, e3, e4, e5, boxR, szL]
        refine ⟨by (repeat (first | exact AH.Ext.refl _ | assumption | refine AH.Ext.set ?_ (by first | omega | (simp only [new_nb, set_nb, kill_nb, newTok_nb, setTok_nb]; omega)) _ | refine AH.Ext.new ?_ _)), _, rfl, ?_⟩
        unfold sizesR; rw [hv, if_pos rfl]; rfl
      | true =>
        simp only [decide_eq_true_eq] at hc
        have hj : j < 4 := by omega
        have hw : IntKind.i64.wrap ((j : Int) + 1) = ((j + 1 : Nat) : Int) := wrap_succ (by omega)
        have hj4 : ((j : Int) < ((4 : Nat) : Int)) = True := by rw [eq_iff_iff]; exact ⟨fun _ => trivial, fun _ => by omega⟩
        have hns : ((h.new (szL xs 0)).new (szL xs j)).set (h.nb + 1) (szL xs (j + 1)) = (h.new (szL xs 0)).new (szL xs (j + 1)) := new_set _ _ _
        have hst := szL_step (xs := xs) hj
        simp only [aw0, aw1, aw2, aw3, aw4, aw5, aw6, aw7, ne_eq, eq_self, implies_true, imp_self, reduceIte, reduceCtorEq, Nat.reduceAdd, Nat.reduceLT, Nat.reduceLeDiff, Nat.reduceEqDiff, Nat.reduceSub, Nat.reduceMul, Nat.reduceBEq, Int.reduceBEq, Int.reduceBNe, Int.reduceLT, Int.reduceLE, Int.reduceGT, Int.reduceGE, Int.reduceNeg, Int.reduceEq, Int.reduceNe, Int.reduceToNat, Int.reduceAdd, aconv, acvB, capR, acmpnil, appBox, storeB, ares1, appendTo, afill, aeqL, teset, e0, e2, e3, e4, e5, hw]
        cases hq : (((j + 1 : Nat) : Int) != 4) with
        | true =>
          have hj3 : j + 1 ≠ 4 := by
            have : ¬ ((j + 1 : Nat) : Int) = 4 := by simpa only [bne_iff_ne, ne_eq] using hq
            omega
          have hcan : canL (j + 1) xs = true := by unfold canL; rw [if_neg hj3]
          have hz : ((encS (j + 1) xs).size : Int) = ((szE xs j : Nat) : Int) := by unfold szE; rw [hcan]; rfl
          simp only [aw0, aw1, aw2, aw3, aw4, aw5, aw6, aw7, ne_eq, eq_self, implies_true, imp_self, reduceIte, reduceCtorEq, Nat.reduceAdd, Nat.reduceLT, Nat.reduceLeDiff, Nat.reduceEqDiff, Nat.reduceSub, Nat.reduceMul, Nat.reduceBEq, Int.reduceBEq, Int.reduceBNe, Int.reduceLT, Int.reduceLE, Int.reduceGT, Int.reduceGE, Int.reduceNeg, Int.reduceEq, Int.reduceNe, Int.reduceToNat, Int.reduceAdd, aconv, acvB, capR, acmpnil, appBox, storeB, ares1, appendTo, afill, aeqL, teset, e0, e2, e3, e4, e5, hw]
          refine ACallV.pure (refbytes_pure xs (j + 1) (by omega) (by omega) hv) ?_
          subst hh
          simp only [aw0, aw1, aw2, aw3, aw4, aw5, aw6, aw7, ne_eq, eq_self, implies_true, imp_self, reduceIte, reduceCtorEq, Nat.reduceAdd, Nat.reduceLT, Nat.reduceLeDiff, Nat.reduceEqDiff, Nat.reduceSub, Nat.reduceMul, Nat.reduceBEq, Int.reduceBEq, Int.reduceBNe, Int.reduceLT, Int.reduceLE, Int.reduceGT, Int.reduceGE, Int.reduceNeg, Int.reduceEq, Int.reduceNe, Int.reduceToNat, Int.reduceAdd, aconv, acvB, capR, acmpnil, appBox, storeB, ares1, appendTo, afill, aeqL, teset, e0, e2, e3, e4, e5, boxR, hz, Int.natCast_nonneg, hj4, Int.toNat_natCast, Nat.mul_one, show (szL xs j).length = 4 from rfl, show j + 1 ≤ 4 from hj, hst, hns]
          exact ⟨n - 1, by omega, j + 1, by rw [wrap_succ (by omega)], rfl, by omega⟩
        | false =>
          have hj3 : j + 1 = 4 := by
            have : ((j + 1 : Nat) : Int) = 4 := by simpa only [bne_eq_false_iff_eq] using hq
            omega
          have hce : canL (j + 1) xs = intsL xs := by unfold canL; rw [if_pos hj3]
          simp only [aw0, aw1, aw2, aw3, aw4, aw5, aw6, aw7, ne_eq, eq_self, implies_true, imp_self, reduceIte, reduceCtorEq, Nat.reduceAdd, Nat.reduceLT, Nat.reduceLeDiff, Nat.reduceEqDiff, Nat.reduceSub, Nat.reduceMul, Nat.reduceBEq, Int.reduceBEq, Int.reduceBNe, Int.reduceLT, Int.reduceLE, Int.reduceGT, Int.reduceGE, Int.reduceNeg, Int.reduceEq, Int.reduceNe, Int.reduceToNat, Int.reduceAdd, aconv, acvB, capR, acmpnil, appBox, storeB, ares1, appendTo, afill, aeqL, teset, e0, e2, e3, e4, e5, hw]
          refine ACallV.pure (refints_pure xs hl) ?_
          cases hi : intsL xs with
          | true =>
            have hz : ((encS (j + 1) xs).size : Int) = ((szE xs j : Nat) : Int) := by unfold szE; rw [hce, hi]; rfl
            simp only [aw0, aw1, aw2, aw3, aw4, aw5, aw6, aw7, ne_eq, eq_self, implies_true, imp_self, reduceIte, reduceCtorEq, Nat.reduceAdd, Nat.reduceLT, Nat.reduceLeDiff, Nat.reduceEqDiff, Nat.reduceSub, Nat.reduceMul, Nat.reduceBEq, Int.reduceBEq, Int.reduceBNe, Int.reduceLT, Int.reduceLE, Int.reduceGT, Int.reduceGE, Int.reduceNeg, Int.reduceEq, Int.reduceNe, Int.reduceToNat, Int.reduceAdd, aconv, acvB, capR, acmpnil, appBox, storeB, ares1, appendTo, afill, aeqL, teset, e0, e2, e3, e4, e5, hw]
            refine ACallV.pure (refbytes_pure xs (j + 1) (by omega) (by omega) hv) ?_
            subst hh
            simp only [aw0, aw1, aw2, aw3, aw4, aw5, aw6, aw7, ne_eq, eq_self, implies_true, imp_self, reduceIte, reduceCtorEq, Nat.reduceAdd, Nat.reduceLT, Nat.reduceLeDiff, Nat.reduceEqDiff, Nat.reduceSub, Nat.reduceMul, Nat.reduceBEq, Int.reduceBEq, Int.reduceBNe, Int.reduceLT, Int.reduceLE, Int.reduceGT, Int.reduceGE, Int.reduceNeg, Int.reduceEq, Int.reduceNe, Int.reduceToNat, Int.reduceAdd, aconv, acvB, capR, acmpnil, appBox, storeB, ares1, appendTo, afill, aeqL, teset, e0, e2, e3, e4, e5, boxR, hz, Int.natCast_nonneg, hj4, Int.toNat_natCast, Nat.mul_one, show (szL xs j).length = 4 from rfl, show j + 1 ≤ 4 from hj, hst, hns]
            exact ⟨n - 1, by omega, j + 1, by rw [wrap_succ (by omega)], rfl, by omega⟩
          | false =>
            have hz : szE xs j = 0 := by unfold szE; rw [hce, hi]; rfl
            simp only [aw0, aw1, aw2, aw3, aw4, aw5, aw6, aw7, ne_eq, eq_self, implies_true, imp_self, reduceIte, reduceCtorEq, Nat.reduceAdd, Nat.reduceLT, Nat.reduceLeDiff, Nat.reduceEqDiff, Nat.reduceSub, Nat.reduceMul, Nat.reduceBEq, Int.reduceBEq, Int.reduceBNe, Int.reduceLT, Int.reduceLE, Int.reduceGT, Int.reduceGE, Int.reduceNeg, Int.reduceEq, Int.reduceNe, Int.reduceToNat, Int.reduceAdd, aconv, acvB, capR, acmpnil, appBox, storeB, ares1, appendTo, afill, aeqL, teset, e0, e2, e3, e4, e5, hw]
            exact ⟨n - 1, by omega, j + 1, rfl, by rw [hh, szL_skip hj hz], by omega⟩
/-- The best of the first encodings, by its place. -/
def rbN (xs : List V) : Nat → Nat
  | 0 => 0
  | 1 => 0
  | i + 2 => if 0 < szE xs (i + 1) ∧ szE xs (i + 1) < szE xs (rbN xs (i + 1)) then i + 1 else rbN xs (i + 1)
theorem rbN_lt (xs : List V) : ∀ i, rbN xs i < i ∨ i = 0
  | 0 => .inr rfl
  | 1 => .inl (by simp [rbN])
  | i + 2 => by
    left
    rw [rbN]
    rcases rbN_lt xs (i + 1) with h | h
    · split <;> omega
    · omega
theorem enc_ne (e : Nat) (xs : List V) : 0 < (encS e xs).size := by
  rw [encS_size]
  have h : ∀ (n : Nat) (l : List AV), 0 < (numA n ++ l).length := fun n l => by
    have := List.length_pos_iff.2 (numA_ne n)
    rw [List.length_append]; omega
  unfold encA plainA runsA dictA deltaA
  split
  · exact h _ _
  · split
    · exact h _ _
    · split
      · rw [List.append_assoc, List.append_assoc]; exact h _ _
      · exact h _ _
theorem best_rb (xs : List V) : ∀ i, 1 ≤ i → i ≤ 4 → bestN xs i = rbN xs i + 1
  | 0, h, _ => by omega
  | 1, _, _ => by
    have hc : canL 1 xs = true := rfl
    show (if canL (0 + 1) xs = true then _ else _) = _
    rw [if_pos hc, if_pos (.inl rfl)]
    rfl
  | i + 2, _, h4 => by
    have ih := best_rb xs (i + 1) (by omega) (by omega)
    obtain ⟨⟨b1, b2⟩, b3, _⟩ := bestN_spec xs (i + 1) (by omega) (by omega)
    have hb : bytesOf (bestN xs (i + 1)) xs = encS (bestN xs (i + 1)) xs := by unfold bytesOf; rw [if_neg (by omega)]
    have hs : szE xs (rbN xs (i + 1)) = (encS (bestN xs (i + 1)) xs).size := by unfold szE; rw [← ih, if_pos b3]
    rw [show bestN xs (i + 2) = if canL (i + 1 + 1) xs = true then (if bestN xs (i + 1) = 0 ∨ (encS (i + 1 + 1) xs).size < (bytesOf (bestN xs (i + 1)) xs).size then i + 1 + 1 else bestN xs (i + 1)) else bestN xs (i + 1) from rfl]
    rw [show rbN xs (i + 2) = if 0 < szE xs (i + 1) ∧ szE xs (i + 1) < szE xs (rbN xs (i + 1)) then i + 1 else rbN xs (i + 1) from rfl]
    rw [hb, hs]
    by_cases hc : canL (i + 1 + 1) xs = true
    · have hz : szE xs (i + 1) = (encS (i + 1 + 1) xs).size := by unfold szE; rw [if_pos hc]
      rw [if_pos hc, hz]
      have := enc_ne (i + 1 + 1) xs
      by_cases hl : (encS (i + 1 + 1) xs).size < (encS (bestN xs (i + 1)) xs).size
      · rw [if_pos (.inr hl), if_pos ⟨this, hl⟩]
      · rw [if_neg (by omega), if_neg (by omega), ih]
    · have hz : szE xs (i + 1) = 0 := by unfold szE; rw [if_neg hc]
      rw [if_neg hc, hz, if_neg (by omega), ih]
theorem szL_at {xs : List V} {i : Nat} (hi : i < 4) : ∃ tl, List.drop i (szL xs 4) = .int .i64 (szE xs i) :: tl := by
  rcases (show i = 0 ∨ i = 1 ∨ i = 2 ∨ i = 3 by omega) with rfl | rfl | rfl | rfl <;> exact ⟨_, rfl⟩
set_option maxHeartbeats 2000000 in
theorem refbest_form (xs : List V) (hl : xs.length < 4611686018427387904) (hv : validL xs = false) : Pure Tryz.prog 14 [.sl .ro 5 (xs.map inj)] (.tup [.int .i64 0, .str ⟨#[]⟩, .int .i64 1]) := by
  have hs := refsizes_pure xs hl
  unfold sizesR at hs
  rw [hv, if_neg (by decide)] at hs
  refine Pure.of ⟨Tryz.f14, Tryz.func14, rfl, by kernel_rfl⟩ rfl (fun h => ?_)
  refine acalls_of te_ok [13] Tryz.func14 (c := _) rfl (Nat.le_of_ble_eq_true rfl) ?_
  simp only [aw0, aw1, aw2, aw3, aw4, aw5, aw6, aw7, ne_eq, eq_self, implies_true, imp_self, reduceIte, reduceCtorEq, Nat.reduceAdd, Nat.reduceLT, Nat.reduceLeDiff, Nat.reduceEqDiff, Nat.reduceSub, Nat.reduceMul, Nat.reduceBEq, Int.reduceBEq, Int.reduceBNe, Int.reduceLT, Int.reduceLE, Int.reduceGT, Int.reduceGE, Int.reduceNeg, Int.reduceEq, Int.reduceNe, Int.reduceToNat, Int.reduceAdd, aconv, acvB, capR, acmpnil, appBox, storeB, ares1, appendTo, afill, aeqL, teset, Tryz.ntmps14, Tryz.results14]
  refine ACallV.pure hs ?_
  simp only [aw0, aw1, aw2, aw3, aw4, aw5, aw6, aw7, ne_eq, eq_self, implies_true, imp_self, reduceIte, reduceCtorEq, Nat.reduceAdd, Nat.reduceLT, Nat.reduceLeDiff, Nat.reduceEqDiff, Nat.reduceSub, Nat.reduceMul, Nat.reduceBEq, Int.reduceBEq, Int.reduceBNe, Int.reduceLT, Int.reduceLE, Int.reduceGT, Int.reduceGE, Int.reduceNeg, Int.reduceEq, Int.reduceNe, Int.reduceToNat, Int.reduceAdd, aconv, acvB, capR, acmpnil, appBox, storeB, ares1, appendTo, afill, aeqL, teset, boxR, szL]
  exact ⟨by (repeat (first | exact AH.Ext.refl _ | assumption | refine AH.Ext.set ?_ (by first | omega | (simp only [new_nb, set_nb, kill_nb, newTok_nb, setTok_nb]; omega)) _ | refine AH.Ext.new ?_ _)), _, rfl, rfl⟩
set_option maxHeartbeats 2000000 in
theorem refbest_good (xs : List V) (hl : xs.length < 4611686018427387904) (hv : validL xs = true) : Pure Tryz.prog 14 [.sl .ro 5 (xs.map inj)] (.tup [.int .i64 (bestN xs 4), .str (bytesOf (bestN xs 4) xs), .int .i64 0]) := by
  have hs := refsizes_pure xs hl
  unfold sizesR at hs
  rw [hv, if_pos rfl] at hs
  have hbr := best_rb xs 4 (by decide) (by decide)
  have hby : bytesOf (bestN xs 4) xs = encS (rbN xs 4 + 1) xs := by rw [hbr]; rfl
  rw [hby, hbr]
  refine Pure.of ⟨Tryz.f14, Tryz.func14, rfl, by kernel_rfl⟩ rfl (fun h => ?_)
  refine acalls_of te_ok [13] Tryz.func14 (c := _) rfl (Nat.le_of_ble_eq_true rfl) ?_
  simp only [aw0, aw1, aw2, aw3, aw4, aw5, aw6, aw7, ne_eq, eq_self, implies_true, imp_self, reduceIte, reduceCtorEq, Nat.reduceAdd, Nat.reduceLT, Nat.reduceLeDiff, Nat.reduceEqDiff, Nat.reduceSub, Nat.reduceMul, Nat.reduceBEq, Int.reduceBEq, Int.reduceBNe, Int.reduceLT, Int.reduceLE, Int.reduceGT, Int.reduceGE, Int.reduceNeg, Int.reduceEq, Int.reduceNe, Int.reduceToNat, Int.reduceAdd, aconv, acvB, capR, acmpnil, appBox, storeB, ares1, appendTo, afill, aeqL, teset, Tryz.ntmps14, Tryz.results14]
  refine ACallV.pure hs ?_
  have hns : (h.new [AV.int .i64 0, AV.int .i64 0, AV.int .i64 0, AV.int .i64 0]).set h.nb (szL xs 4) = h.new (szL xs 4) := new_set _ _ _
  simp only [aw0, aw1, aw2, aw3, aw4, aw5, aw6, aw7, ne_eq, eq_self, implies_true, imp_self, reduceIte, reduceCtorEq, Nat.reduceAdd, Nat.reduceLT, Nat.reduceLeDiff, Nat.reduceEqDiff, Nat.reduceSub, Nat.reduceMul, Nat.reduceBEq, Int.reduceBEq, Int.reduceBNe, Int.reduceLT, Int.reduceLE, Int.reduceGT, Int.reduceGE, Int.reduceNeg, Int.reduceEq, Int.reduceNe, Int.reduceToNat, Int.reduceAdd, aconv, acvB, capR, acmpnil, appBox, storeB, ares1, appendTo, afill, aeqL, teset, boxR, show (szL xs 4).length = 4 from rfl, show (szL xs 4).all AV.one = true from rfl, hns]
  refine ⟨fun n s' h' => ∃ i : Nat, s' 0 = .sl .ro 5 (xs.map inj) ∧ s' 5 = .ptr h.nb 0 ∧ s' 7 = .int .i64 (rbN xs i) ∧ s' 8 = .int .i64 i ∧ h' = h.new (szL xs 4) ∧ n + i = 4 ∧ 1 ≤ i, ⟨3, 1, ?_⟩, ?_⟩
  · simp only [aw0, aw1, aw2, aw3, aw4, aw5, aw6, aw7, ne_eq, eq_self, implies_true, imp_self, reduceIte, reduceCtorEq, Nat.reduceAdd, Nat.reduceLT, Nat.reduceLeDiff, Nat.reduceEqDiff, Nat.reduceSub, Nat.reduceMul, Nat.reduceBEq, Int.reduceBEq, Int.reduceBNe, Int.reduceLT, Int.reduceLE, Int.reduceGT, Int.reduceGE, Int.reduceNeg, Int.reduceEq, Int.reduceNe, Int.reduceToNat, Int.reduceAdd, aconv, acvB, capR, acmpnil, appBox, storeB, ares1, appendTo, afill, aeqL, teset, Int.natCast_one, rbN, Int.natCast_zero]
    first | done | rfl | exact ⟨rfl, rfl⟩
  · rintro n s' h' ⟨i, e0, e5, e7, e8, rfl, hn, hi1⟩
    simp only [aw0, aw1, aw2, aw3, aw4, aw5, aw6, aw7, ne_eq, eq_self, implies_true, imp_self, reduceIte, reduceCtorEq, Nat.reduceAdd, Nat.reduceLT, Nat.reduceLeDiff, Nat.reduceEqDiff, Nat.reduceSub, Nat.reduceMul, Nat.reduceBEq, Int.reduceBEq, Int.reduceBNe, Int.reduceLT, Int.reduceLE, Int.reduceGT, Int.reduceGE, Int.reduceNeg, Int.reduceEq, Int.reduceNe, Int.reduceToNat, Int.reduceAdd, aconv, acvB, capR, acmpnil, appBox, storeB, ares1, appendTo, afill, aeqL, teset, e0, e5, e7, e8]
    cases hc : decide ((i : Int) < 4) with
    | false =>
      simp only [decide_eq_false_iff_not] at hc
      obtain rfl : i = 4 := by omega
      have hrl := rbN_lt xs 4
      have hw : IntKind.i64.wrap ((rbN xs 4 : Int) + 1) = ((rbN xs 4 + 1 : Nat) : Int) := wrap_succ (by omega)
      simp only [aw0, aw1, aw2, aw3, aw4, aw5, aw6, aw7, ne_eq, eq_self, implies_true, imp_self, reduceIte, reduceCtorEq, Nat.reduceAdd, Nat.reduceLT, Nat.reduceLeDiff, Nat.reduceEqDiff, Nat.reduceSub, Nat.reduceMul, Nat.reduceBEq, Int.reduceBEq, Int.reduceBNe, Int.reduceLT, Int.reduceLE, Int.reduceGT, Int.reduceGE, Int.reduceNeg, Int.reduceEq, Int.reduceNe, Int.reduceToNat, Int.reduceAdd, aconv, acvB, capR, acmpnil, appBox, storeB, ares1, appendTo, afill, aeqL, teset, e0, e5, e7, e8, hw]
      refine ACallV.pure (refbytes_pure xs (rbN xs 4 + 1) (by omega) (by omega) hv) ?_
      simp only [aw0, aw1, aw2, aw3, aw4, aw5, aw6, aw7, ne_eq, eq_self, implies_true, imp_self, reduceIte, reduceCtorEq, Nat.reduceAdd, Nat.reduceLT, Nat.reduceLeDiff, Nat.reduceEqDiff, Nat.reduceSub, Nat.reduceMul, Nat.reduceBEq, Int.reduceBEq, Int.reduceBNe, Int.reduceLT, Int.reduceLE, Int.reduceGT, Int.reduceGE, Int.reduceNeg, Int.reduceEq, Int.reduceNe, Int.reduceToNat, Int.reduceAdd, aconv, acvB, capR, acmpnil, appBox, storeB, ares1, appendTo, afill, aeqL, teset, e0, e5, e7, e8, hw]
      exact ⟨by (repeat (first | exact AH.Ext.refl _ | assumption | refine AH.Ext.set ?_ (by first | omega | (simp only [new_nb, set_nb, kill_nb, newTok_nb, setTok_nb]; omega)) _ | refine AH.Ext.new ?_ _)), _, rfl, rfl⟩
    | true =>
      simp only [decide_eq_true_eq] at hc
      have hi : i < 4 := by omega
      have hrl := rbN_lt xs i
      have hi4 : ((i : Int) < ((4 : Nat) : Int)) = True := by rw [eq_iff_iff]; exact ⟨fun _ => trivial, fun _ => by omega⟩
      have hr4 : ((rbN xs i : Int) < ((4 : Nat) : Int)) = True := by rw [eq_iff_iff]; exact ⟨fun _ => trivial, fun _ => by omega⟩
      obtain ⟨t1, d1⟩ := szL_at (xs := xs) hi
      obtain ⟨t2, d2⟩ := szL_at (xs := xs) (show rbN xs i < 4 by omega)
      simp only [aw0, aw1, aw2, aw3, aw4, aw5, aw6, aw7, ne_eq, eq_self, implies_true, imp_self, reduceIte, reduceCtorEq, Nat.reduceAdd, Nat.reduceLT, Nat.reduceLeDiff, Nat.reduceEqDiff, Nat.reduceSub, Nat.reduceMul, Nat.reduceBEq, Int.reduceBEq, Int.reduceBNe, Int.reduceLT, Int.reduceLE, Int.reduceGT, Int.reduceGE, Int.reduceNeg, Int.reduceEq, Int.reduceNe, Int.reduceToNat, Int.reduceAdd, aconv, acvB, capR, acmpnil, appBox, storeB, ares1, appendTo, afill, aeqL, teset, e0, e5, e7, e8]
      refine acode_draw_chain te_ok mixed [] (by kernel_rfl) ?_
      simp only [aw0, aw1, aw2, aw3, aw4, aw5, aw6, aw7, ne_eq, eq_self, implies_true, imp_self, reduceIte, reduceCtorEq, Nat.reduceAdd, Nat.reduceLT, Nat.reduceLeDiff, Nat.reduceEqDiff, Nat.reduceSub, Nat.reduceMul, Nat.reduceBEq, Int.reduceBEq, Int.reduceBNe, Int.reduceLT, Int.reduceLE, Int.reduceGT, Int.reduceGE, Int.reduceNeg, Int.reduceEq, Int.reduceNe, Int.reduceToNat, Int.reduceAdd, aconv, acvB, capR, acmpnil, appBox, storeB, ares1, appendTo, afill, aeqL, teset, e0, e5, e7, e8, boxR, Int.natCast_nonneg, hi4, hr4, Int.toNat_natCast, Nat.mul_one, d1, d2]
      have hst : rbN xs (i + 1) = if 0 < szE xs i ∧ szE xs i < szE xs (rbN xs i) then i else rbN xs i := by
        obtain ⟨k, rfl⟩ : ∃ k, i = k + 1 := ⟨i - 1, by omega⟩
        rfl
      cases hg : decide (((szE xs i : Nat) : Int) > 0) with
      | false =>
        simp only [decide_eq_false_iff_not] at hg
        rw [if_neg (by omega)] at hst
        simp only [aw0, aw1, aw2, aw3, aw4, aw5, aw6, aw7, ne_eq, eq_self, implies_true, imp_self, reduceIte, reduceCtorEq, Nat.reduceAdd, Nat.reduceLT, Nat.reduceLeDiff, Nat.reduceEqDiff, Nat.reduceSub, Nat.reduceMul, Nat.reduceBEq, Int.reduceBEq, Int.reduceBNe, Int.reduceLT, Int.reduceLE, Int.reduceGT, Int.reduceGE, Int.reduceNeg, Int.reduceEq, Int.reduceNe, Int.reduceToNat, Int.reduceAdd, aconv, acvB, capR, acmpnil, appBox, storeB, ares1, appendTo, afill, aeqL, teset, e0, e5, e7, e8, boxR, Int.natCast_nonneg, hi4, hr4, Int.toNat_natCast, Nat.mul_one, d1, d2]
        exact ⟨n - 1, by omega, i + 1, by rw [hst], by rw [wrap_succ (by omega)], by omega, by omega⟩
      | true =>
        simp only [decide_eq_true_eq] at hg
        simp only [aw0, aw1, aw2, aw3, aw4, aw5, aw6, aw7, ne_eq, eq_self, implies_true, imp_self, reduceIte, reduceCtorEq, Nat.reduceAdd, Nat.reduceLT, Nat.reduceLeDiff, Nat.reduceEqDiff, Nat.reduceSub, Nat.reduceMul, Nat.reduceBEq, Int.reduceBEq, Int.reduceBNe, Int.reduceLT, Int.reduceLE, Int.reduceGT, Int.reduceGE, Int.reduceNeg, Int.reduceEq, Int.reduceNe, Int.reduceToNat, Int.reduceAdd, aconv, acvB, capR, acmpnil, appBox, storeB, ares1, appendTo, afill, aeqL, teset, e0, e5, e7, e8, boxR, Int.natCast_nonneg, hi4, hr4, Int.toNat_natCast, Nat.mul_one, d1, d2]
        cases hl2 : decide (((szE xs i : Nat) : Int) < ((szE xs (rbN xs i) : Nat) : Int)) with
        | false =>
          simp only [decide_eq_false_iff_not] at hl2
          rw [if_neg (by omega)] at hst
          simp only [aw0, aw1, aw2, aw3, aw4, aw5, aw6, aw7, ne_eq, eq_self, implies_true, imp_self, reduceIte, reduceCtorEq, Nat.reduceAdd, Nat.reduceLT, Nat.reduceLeDiff, Nat.reduceEqDiff, Nat.reduceSub, Nat.reduceMul, Nat.reduceBEq, Int.reduceBEq, Int.reduceBNe, Int.reduceLT, Int.reduceLE, Int.reduceGT, Int.reduceGE, Int.reduceNeg, Int.reduceEq, Int.reduceNe, Int.reduceToNat, Int.reduceAdd, aconv, acvB, capR, acmpnil, appBox, storeB, ares1, appendTo, afill, aeqL, teset, e0, e5, e7, e8]
          exact ⟨n - 1, by omega, i + 1, by rw [hst], by rw [wrap_succ (by omega)], by omega, by omega⟩
        | true =>
          simp only [decide_eq_true_eq] at hl2
          rw [if_pos (by omega)] at hst
          simp only [aw0, aw1, aw2, aw3, aw4, aw5, aw6, aw7, ne_eq, eq_self, implies_true, imp_self, reduceIte, reduceCtorEq, Nat.reduceAdd, Nat.reduceLT, Nat.reduceLeDiff, Nat.reduceEqDiff, Nat.reduceSub, Nat.reduceMul, Nat.reduceBEq, Int.reduceBEq, Int.reduceBNe, Int.reduceLT, Int.reduceLE, Int.reduceGT, Int.reduceGE, Int.reduceNeg, Int.reduceEq, Int.reduceNe, Int.reduceToNat, Int.reduceAdd, aconv, acvB, capR, acmpnil, appBox, storeB, ares1, appendTo, afill, aeqL, teset, e0, e5, e7, e8]
          exact ⟨n - 1, by omega, i + 1, by rw [hst], by rw [wrap_succ (by omega)], by omega, by omega⟩
end Go.Proofs.YtlbhgoffiigfbaaGreat.AW
end
section
set_option linter.unusedSimpArgs false
set_option linter.unusedVariables false
namespace Go.Proofs.YtlbhgoffiigfbaaGreat.AW
open Go Go.RowKit

set_option maxHeartbeats 2000000 in
theorem bests_law (xs : List V) (hsm : ∀ x ∈ xs, x.sm) (hl : xs.length < 4611686018427387904) : Pure Tryz.prog 5 [.sl .ro 5 (xs.map inj)] (.bool true) := by
  have haq : ∀ j, aeqL [ZC.int .i64, ZC.int .i64, ZC.int .i64, ZC.int .i64] (szL xs j) (szL xs j) = some true := fun j => by simp [aeqL, szL]
  have hs1 := sizes_pure xs hsm hl
  have hs2 := refsizes_pure xs hl
  refine Pure.of ⟨Tryz.f5, Tryz.func5, rfl, by kernel_rfl⟩ rfl (fun h => ?_)
  refine acalls_of te_ok [20, 21, 26, 27, 32, 37] Tryz.func5 (c := _) rfl (Nat.le_of_ble_eq_true rfl) ?_
  simp only [aw0, aw1, aw2, aw3, aw4, aw5, aw6, aw7, ne_eq, eq_self, implies_true, imp_self, reduceIte, reduceCtorEq, Nat.reduceAdd, Nat.reduceLT, Nat.reduceLeDiff, Nat.reduceEqDiff, Nat.reduceSub, Nat.reduceMul, Nat.reduceBEq, Int.reduceBEq, Int.reduceBNe, Int.reduceLT, Int.reduceLE, Int.reduceGT, Int.reduceGE, Int.reduceNeg, Int.reduceEq, Int.reduceNe, Int.reduceToNat, Int.reduceAdd, aconv, acvB, capR, acmpnil, appBox, storeB, ares1, appendTo, afill, aeqL, teset, Tryz.ntmps5, Tryz.results5]
  refine ACallV.pure (great_pure xs hl) ?_
  cases hg : decide (xs.length > 400) with
  | true =>
    simp only [aw0, aw1, aw2, aw3, aw4, aw5, aw6, aw7, ne_eq, eq_self, implies_true, imp_self, reduceIte, reduceCtorEq, Nat.reduceAdd, Nat.reduceLT, Nat.reduceLeDiff, Nat.reduceEqDiff, Nat.reduceSub, Nat.reduceMul, Nat.reduceBEq, Int.reduceBEq, Int.reduceBNe, Int.reduceLT, Int.reduceLE, Int.reduceGT, Int.reduceGE, Int.reduceNeg, Int.reduceEq, Int.reduceNe, Int.reduceToNat, Int.reduceAdd, aconv, acvB, capR, acmpnil, appBox, storeB, ares1, appendTo, afill, aeqL, teset]
    refine ACallV.pure awake_pure ?_
    simp only [aw0, aw1, aw2, aw3, aw4, aw5, aw6, aw7, ne_eq, eq_self, implies_true, imp_self, reduceIte, reduceCtorEq, Nat.reduceAdd, Nat.reduceLT, Nat.reduceLeDiff, Nat.reduceEqDiff, Nat.reduceSub, Nat.reduceMul, Nat.reduceBEq, Int.reduceBEq, Int.reduceBNe, Int.reduceLT, Int.reduceLE, Int.reduceGT, Int.reduceGE, Int.reduceNeg, Int.reduceEq, Int.reduceNe, Int.reduceToNat, Int.reduceAdd, aconv, acvB, capR, acmpnil, appBox, storeB, ares1, appendTo, afill, aeqL, teset]
    exact ⟨.refl _, _, rfl, rfl⟩
  | false =>
    simp only [aw0, aw1, aw2, aw3, aw4, aw5, aw6, aw7, ne_eq, eq_self, implies_true, imp_self, reduceIte, reduceCtorEq, Nat.reduceAdd, Nat.reduceLT, Nat.reduceLeDiff, Nat.reduceEqDiff, Nat.reduceSub, Nat.reduceMul, Nat.reduceBEq, Int.reduceBEq, Int.reduceBNe, Int.reduceLT, Int.reduceLE, Int.reduceGT, Int.reduceGE, Int.reduceNeg, Int.reduceEq, Int.reduceNe, Int.reduceToNat, Int.reduceAdd, aconv, acvB, capR, acmpnil, appBox, storeB, ares1, appendTo, afill, aeqL, teset]
    unfold sizesR at hs1 hs2
    cases hv : validL xs with
    | false =>
      rw [hv, if_neg (by decide)] at hs1 hs2
      refine ACallV.pure (best_form xs hsm hl hv) ?_
      simp only [aw0, aw1, aw2, aw3, aw4, aw5, aw6, aw7, ne_eq, eq_self, implies_true, imp_self, reduceIte, reduceCtorEq, Nat.reduceAdd, Nat.reduceLT, Nat.reduceLeDiff, Nat.reduceEqDiff, Nat.reduceSub, Nat.reduceMul, Nat.reduceBEq, Int.reduceBEq, Int.reduceBNe, Int.reduceLT, Int.reduceLE, Int.reduceGT, Int.reduceGE, Int.reduceNeg, Int.reduceEq, Int.reduceNe, Int.reduceToNat, Int.reduceAdd, aconv, acvB, capR, acmpnil, appBox, storeB, ares1, appendTo, afill, aeqL, teset]
      refine ACallV.pure (refbest_form xs hl hv) ?_
      simp only [aw0, aw1, aw2, aw3, aw4, aw5, aw6, aw7, ne_eq, eq_self, implies_true, imp_self, reduceIte, reduceCtorEq, Nat.reduceAdd, Nat.reduceLT, Nat.reduceLeDiff, Nat.reduceEqDiff, Nat.reduceSub, Nat.reduceMul, Nat.reduceBEq, Int.reduceBEq, Int.reduceBNe, Int.reduceLT, Int.reduceLE, Int.reduceGT, Int.reduceGE, Int.reduceNeg, Int.reduceEq, Int.reduceNe, Int.reduceToNat, Int.reduceAdd, aconv, acvB, capR, acmpnil, appBox, storeB, ares1, appendTo, afill, aeqL, teset]
      refine ACallV.pure hs1 ?_
      simp only [aw0, aw1, aw2, aw3, aw4, aw5, aw6, aw7, ne_eq, eq_self, implies_true, imp_self, reduceIte, reduceCtorEq, Nat.reduceAdd, Nat.reduceLT, Nat.reduceLeDiff, Nat.reduceEqDiff, Nat.reduceSub, Nat.reduceMul, Nat.reduceBEq, Int.reduceBEq, Int.reduceBNe, Int.reduceLT, Int.reduceLE, Int.reduceGT, Int.reduceGE, Int.reduceNeg, Int.reduceEq, Int.reduceNe, Int.reduceToNat, Int.reduceAdd, aconv, acvB, capR, acmpnil, appBox, storeB, ares1, appendTo, afill, aeqL, teset, boxR, beq_self_eq_true, show (szL xs 4).length = 4 from rfl, show (szL xs 4).all AV.one = true from rfl, show (szL xs 0).length = 4 from rfl, show (szL xs 0).all AV.one = true from rfl]
      refine ACallV.pure hs2 ?_
      simp only [aw0, aw1, aw2, aw3, aw4, aw5, aw6, aw7, ne_eq, eq_self, implies_true, imp_self, reduceIte, reduceCtorEq, Nat.reduceAdd, Nat.reduceLT, Nat.reduceLeDiff, Nat.reduceEqDiff, Nat.reduceSub, Nat.reduceMul, Nat.reduceBEq, Int.reduceBEq, Int.reduceBNe, Int.reduceLT, Int.reduceLE, Int.reduceGT, Int.reduceGE, Int.reduceNeg, Int.reduceEq, Int.reduceNe, Int.reduceToNat, Int.reduceAdd, aconv, acvB, capR, acmpnil, appBox, storeB, ares1, appendTo, afill, aeqL, teset, boxR, beq_self_eq_true, show (szL xs 4).length = 4 from rfl, show (szL xs 4).all AV.one = true from rfl, show (szL xs 0).length = 4 from rfl, show (szL xs 0).all AV.one = true from rfl, show List.take 4 (szL xs 0) = szL xs 0 from rfl, show List.take 4 (szL xs 4) = szL xs 4 from rfl, haq]
      refine ACallV.pure awake_pure ?_
      simp only [aw0, aw1, aw2, aw3, aw4, aw5, aw6, aw7, ne_eq, eq_self, implies_true, imp_self, reduceIte, reduceCtorEq, Nat.reduceAdd, Nat.reduceLT, Nat.reduceLeDiff, Nat.reduceEqDiff, Nat.reduceSub, Nat.reduceMul, Nat.reduceBEq, Int.reduceBEq, Int.reduceBNe, Int.reduceLT, Int.reduceLE, Int.reduceGT, Int.reduceGE, Int.reduceNeg, Int.reduceEq, Int.reduceNe, Int.reduceToNat, Int.reduceAdd, aconv, acvB, capR, acmpnil, appBox, storeB, ares1, appendTo, afill, aeqL, teset]
      exact ⟨by (repeat (first | exact AH.Ext.refl _ | assumption | refine AH.Ext.set ?_ (by first | omega | (simp only [new_nb, set_nb, kill_nb, newTok_nb, setTok_nb]; omega)) _ | refine AH.Ext.new ?_ _)), _, rfl, rfl⟩
    | true =>
      rw [hv, if_pos rfl] at hs1 hs2
      refine ACallV.pure (best_good xs hsm hl hv) ?_
      simp only [aw0, aw1, aw2, aw3, aw4, aw5, aw6, aw7, ne_eq, eq_self, implies_true, imp_self, reduceIte, reduceCtorEq, Nat.reduceAdd, Nat.reduceLT, Nat.reduceLeDiff, Nat.reduceEqDiff, Nat.reduceSub, Nat.reduceMul, Nat.reduceBEq, Int.reduceBEq, Int.reduceBNe, Int.reduceLT, Int.reduceLE, Int.reduceGT, Int.reduceGE, Int.reduceNeg, Int.reduceEq, Int.reduceNe, Int.reduceToNat, Int.reduceAdd, aconv, acvB, capR, acmpnil, appBox, storeB, ares1, appendTo, afill, aeqL, teset]
      refine ACallV.pure (refbest_good xs hl hv) ?_
      simp only [aw0, aw1, aw2, aw3, aw4, aw5, aw6, aw7, ne_eq, eq_self, implies_true, imp_self, reduceIte, reduceCtorEq, Nat.reduceAdd, Nat.reduceLT, Nat.reduceLeDiff, Nat.reduceEqDiff, Nat.reduceSub, Nat.reduceMul, Nat.reduceBEq, Int.reduceBEq, Int.reduceBNe, Int.reduceLT, Int.reduceLE, Int.reduceGT, Int.reduceGE, Int.reduceNeg, Int.reduceEq, Int.reduceNe, Int.reduceToNat, Int.reduceAdd, aconv, acvB, capR, acmpnil, appBox, storeB, ares1, appendTo, afill, aeqL, teset]
      refine ACallV.pure hs1 ?_
      simp only [aw0, aw1, aw2, aw3, aw4, aw5, aw6, aw7, ne_eq, eq_self, implies_true, imp_self, reduceIte, reduceCtorEq, Nat.reduceAdd, Nat.reduceLT, Nat.reduceLeDiff, Nat.reduceEqDiff, Nat.reduceSub, Nat.reduceMul, Nat.reduceBEq, Int.reduceBEq, Int.reduceBNe, Int.reduceLT, Int.reduceLE, Int.reduceGT, Int.reduceGE, Int.reduceNeg, Int.reduceEq, Int.reduceNe, Int.reduceToNat, Int.reduceAdd, aconv, acvB, capR, acmpnil, appBox, storeB, ares1, appendTo, afill, aeqL, teset, boxR, beq_self_eq_true, show (szL xs 4).length = 4 from rfl, show (szL xs 4).all AV.one = true from rfl, show (szL xs 0).length = 4 from rfl, show (szL xs 0).all AV.one = true from rfl]
      refine ACallV.pure hs2 ?_
      simp only [aw0, aw1, aw2, aw3, aw4, aw5, aw6, aw7, ne_eq, eq_self, implies_true, imp_self, reduceIte, reduceCtorEq, Nat.reduceAdd, Nat.reduceLT, Nat.reduceLeDiff, Nat.reduceEqDiff, Nat.reduceSub, Nat.reduceMul, Nat.reduceBEq, Int.reduceBEq, Int.reduceBNe, Int.reduceLT, Int.reduceLE, Int.reduceGT, Int.reduceGE, Int.reduceNeg, Int.reduceEq, Int.reduceNe, Int.reduceToNat, Int.reduceAdd, aconv, acvB, capR, acmpnil, appBox, storeB, ares1, appendTo, afill, aeqL, teset, boxR, beq_self_eq_true, show (szL xs 4).length = 4 from rfl, show (szL xs 4).all AV.one = true from rfl, show (szL xs 0).length = 4 from rfl, show (szL xs 0).all AV.one = true from rfl, show List.take 4 (szL xs 0) = szL xs 0 from rfl, show List.take 4 (szL xs 4) = szL xs 4 from rfl, haq]
      refine ACallV.pure awake_pure ?_
      simp only [aw0, aw1, aw2, aw3, aw4, aw5, aw6, aw7, ne_eq, eq_self, implies_true, imp_self, reduceIte, reduceCtorEq, Nat.reduceAdd, Nat.reduceLT, Nat.reduceLeDiff, Nat.reduceEqDiff, Nat.reduceSub, Nat.reduceMul, Nat.reduceBEq, Int.reduceBEq, Int.reduceBNe, Int.reduceLT, Int.reduceLE, Int.reduceGT, Int.reduceGE, Int.reduceNeg, Int.reduceEq, Int.reduceNe, Int.reduceToNat, Int.reduceAdd, aconv, acvB, capR, acmpnil, appBox, storeB, ares1, appendTo, afill, aeqL, teset]
      exact ⟨by (repeat (first | exact AH.Ext.refl _ | assumption | refine AH.Ext.set ?_ (by first | omega | (simp only [new_nb, set_nb, kill_nb, newTok_nb, setTok_nb]; omega)) _ | refine AH.Ext.new ?_ _)), _, rfl, rfl⟩
end Go.Proofs.YtlbhgoffiigfbaaGreat.AW
end
