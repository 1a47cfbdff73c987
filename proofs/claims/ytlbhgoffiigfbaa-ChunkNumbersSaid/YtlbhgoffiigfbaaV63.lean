/- V, part 63: Number, of the program and of the reference. -/
import Derived.Test.YtlbhgoffiigfbaaV62
set_option linter.unusedSimpArgs false
set_option linter.unusedVariables false
namespace Go.Proofs.Ytlbhgoffiigfbaa.AW
open Go Go.RowKit

def numS (n : Nat) : ByteArray := ⟨⟨(numL n).map UInt8.ofNat⟩⟩
theorem numL_lt : ∀ (n k : Nat), k ∈ numL n → k < 256 := by
  intro n
  induction n using Nat.strongRecOn with
  | ind n ih =>
    intro k hk
    by_cases h : 127 < n
    · rw [numL_big h] at hk
      rcases List.mem_cons.1 hk with rfl | hk
      · omega
      · exact ih (n / 128) (by omega) k hk
    · rw [numL_small h] at hk
      rcases List.mem_cons.1 hk with rfl | hk
      · omega
      · cases hk
theorem avB_map : ∀ (l : List Nat), (∀ k ∈ l, k < 256) → avB (l.map fun (k : Nat) => AV.int .u8 (k : Int)) = some (l.map UInt8.ofNat)
  | [], _ => rfl
  | k :: l, h => by
    have h1 := h k List.mem_cons_self
    have ih := avB_map l (fun z hz => h z (List.mem_cons_of_mem _ hz))
    simp only [List.map_cons, avB, ih, Int.toNat_natCast]
    rw [if_pos ⟨Int.natCast_nonneg k, by omega⟩]
theorem numA_cells (n : Nat) : (numA n).flatMap AV.cells = numA n := by
  unfold numA
  induction numL n with
  | nil => rfl
  | cons k l ih => rw [List.map_cons, List.flatMap_cons, ih]; rfl
theorem numA_str (n : Nat) : avB (numA n) = some ((numL n).map UInt8.ofNat) := avB_map _ (numL_lt n)
theorem numA_ne (n : Nat) : numA n ≠ [] := by
  by_cases h : 127 < n
  · rw [numA_big h]; simp
  · rw [numA_small h]; simp
def numberV (n : Int) : AV := if n < 0 then .tup [.str ⟨#[]⟩, .int .i64 3] else .tup [.str (numS n.toNat), .int .i64 0]
theorem number_pure (n : Int) (hn : n ≤ 9223372036854775807) : Pure Try.prog 10 [.int .i64 n] (numberV n) := by
  refine Pure.of0 ⟨Try.f10, Try.func10, rfl, by kernel_rfl⟩ rfl (by unfold numberV; split <;> rfl) ?_
  refine acalls_of te_ok [] Try.func10 (c := _) rfl (Nat.le_of_ble_eq_true rfl) ?_
  simp only [aw0, aw1, aw2, aw3, aw4, aw5, aw6, aw7, ne_eq, eq_self, implies_true, imp_self, reduceIte, reduceCtorEq, Nat.reduceAdd, Nat.reduceLT, Nat.reduceLeDiff, Nat.reduceEqDiff, Nat.reduceSub, Nat.reduceMul, Nat.reduceBEq, Int.reduceBEq, Int.reduceBNe, Int.reduceLT, Int.reduceLE, Int.reduceGT, Int.reduceGE, Int.reduceNeg, Int.reduceEq, Int.reduceNe, Int.reduceToNat, Int.reduceAdd, aconv, acvB, capR, acmpnil, appBox, storeB, ares1, appendTo, afill, aeqL, teset, Try.ntmps10, Try.results10, none_nb, none_box]
  unfold numberV
  cases hc : decide (n < 0) with
  | true =>
    simp only [decide_eq_true_eq] at hc
    simp only [aw0, aw1, aw2, aw3, aw4, aw5, aw6, aw7, ne_eq, eq_self, implies_true, imp_self, reduceIte, reduceCtorEq, Nat.reduceAdd, Nat.reduceLT, Nat.reduceLeDiff, Nat.reduceEqDiff, Nat.reduceSub, Nat.reduceMul, Nat.reduceBEq, Int.reduceBEq, Int.reduceBNe, Int.reduceLT, Int.reduceLE, Int.reduceGT, Int.reduceGE, Int.reduceNeg, Int.reduceEq, Int.reduceNe, Int.reduceToNat, Int.reduceAdd, aconv, acvB, capR, acmpnil, appBox, storeB, ares1, appendTo, afill, aeqL, teset]
    refine ⟨_, rfl, ?_⟩
    rw [if_pos hc]; exact .refl _ _
  | false =>
    simp only [decide_eq_false_iff_not] at hc
    obtain ⟨m, rfl⟩ : ∃ m : Nat, n = m := ⟨n.toNat, by omega⟩
    simp only [aw0, aw1, aw2, aw3, aw4, aw5, aw6, aw7, ne_eq, eq_self, implies_true, imp_self, reduceIte, reduceCtorEq, Nat.reduceAdd, Nat.reduceLT, Nat.reduceLeDiff, Nat.reduceEqDiff, Nat.reduceSub, Nat.reduceMul, Nat.reduceBEq, Int.reduceBEq, Int.reduceBNe, Int.reduceLT, Int.reduceLE, Int.reduceGT, Int.reduceGE, Int.reduceNeg, Int.reduceEq, Int.reduceNe, Int.reduceToNat, Int.reduceAdd, aconv, acvB, capR, acmpnil, appBox, storeB, ares1, appendTo, afill, aeqL, teset]
    refine ACallV.mono ?_ (ACallV.of ⟨Try.f22, Try.func22, rfl, by kernel_rfl⟩ (addnum_nil m (by omega) _))
    rintro out h' ⟨rfl, rfl⟩
    simp only [aw0, aw1, aw2, aw3, aw4, aw5, aw6, aw7, ne_eq, eq_self, implies_true, imp_self, reduceIte, reduceCtorEq, Nat.reduceAdd, Nat.reduceLT, Nat.reduceLeDiff, Nat.reduceEqDiff, Nat.reduceSub, Nat.reduceMul, Nat.reduceBEq, Int.reduceBEq, Int.reduceBNe, Int.reduceLT, Int.reduceLE, Int.reduceGT, Int.reduceGE, Int.reduceNeg, Int.reduceEq, Int.reduceNe, Int.reduceToNat, Int.reduceAdd, aconv, acvB, capR, acmpnil, appBox, storeB, ares1, appendTo, afill, aeqL, teset, callK_ret, cellsOf, or_true, numA_cells, numA_str]
    refine ⟨_, rfl, ?_⟩
    rw [if_neg hc, Int.toNat_natCast]; exact .refl _ _
set_option maxHeartbeats 4000000 in
theorem count_pure (n : Nat) (hn : n < 9223372036854775808) : Pure Try.prog 23 [.int .i64 n] (.str (numS n)) := by
  refine Pure.of0 ⟨Try.f23, Try.func23, rfl, by kernel_rfl⟩ rfl rfl ?_
  refine acalls_of te_ok [] Try.func23 (c := _) rfl (Nat.le_of_ble_eq_true rfl) ?_
  simp only [aw0, aw1, aw2, aw3, aw4, aw5, aw6, aw7, ne_eq, eq_self, implies_true, imp_self, reduceIte, reduceCtorEq, Nat.reduceAdd, Nat.reduceLT, Nat.reduceLeDiff, Nat.reduceEqDiff, Nat.reduceSub, Nat.reduceMul, Nat.reduceBEq, Int.reduceBEq, Int.reduceBNe, Int.reduceLT, Int.reduceLE, Int.reduceGT, Int.reduceGE, Int.reduceNeg, Int.reduceEq, Int.reduceNe, Int.reduceToNat, Int.reduceAdd, aconv, acvB, capR, acmpnil, appBox, storeB, ares1, appendTo, afill, aeqL, teset, Try.ntmps23, Try.results23, none_nb, none_box]
  refine ⟨fun k s' h' => ∃ (m : Nat) (ys : List AV) (a : AV), s' 3 = a ∧ s' 0 = .int .i64 m ∧ k = m ∧ (ys = [] ∧ a = .sl .full 0 [] ∧ h'.nt = 0 ∨ ∃ g2, a = .sl (.tok 0 g2) 1 ys ∧ h'.tok 0 = some g2) ∧ ys ++ numA m = numA n ∧ m * 128 ^ ys.length ≤ n ∧ (ys = [] ∨ 1 ≤ m), ⟨n, n, [], .sl .full 0 [], ?_⟩, ?_⟩
  · simp only [aw0, aw1, aw2, aw3, aw4, aw5, aw6, aw7, ne_eq, eq_self, implies_true, imp_self, reduceIte, reduceCtorEq, Nat.reduceAdd, Nat.reduceLT, Nat.reduceLeDiff, Nat.reduceEqDiff, Nat.reduceSub, Nat.reduceMul, Nat.reduceBEq, Int.reduceBEq, Int.reduceBNe, Int.reduceLT, Int.reduceLE, Int.reduceGT, Int.reduceGE, Int.reduceNeg, Int.reduceEq, Int.reduceNe, Int.reduceToNat, Int.reduceAdd, aconv, acvB, capR, acmpnil, appBox, storeB, ares1, appendTo, afill, aeqL, teset, List.append_nil, List.nil_append, none_nt]
    first | exact Nat.le_of_eq (Nat.mul_one n) | trivial
  · rintro k s' h' ⟨m, ys, a, e3, e0, rfl, hcase, hl, hb, hm1⟩
    have hmn : k < 9223372036854775808 := Nat.lt_of_le_of_lt (Nat.le_trans (Nat.le_mul_of_pos_right k (Nat.pow_pos (by decide))) hb) hn
    have hl9 : ys.length < 9 := len9 hb hn (hm1.imp (fun h => by rw [h]; rfl) id)
    have hbd := bnd1 (a := 0) (by decide) hl9
    rw [Nat.zero_add] at hbd
    have hb1 : (0 + 1) * 1 ≤ 140737488355328 := by decide
    rcases hcase with ⟨hys, rfl, hnt⟩ | ⟨g2, rfl, htk⟩
    · simp only [aw0, aw1, aw2, aw3, aw4, aw5, aw6, aw7, ne_eq, eq_self, implies_true, imp_self, reduceIte, reduceCtorEq, Nat.reduceAdd, Nat.reduceLT, Nat.reduceLeDiff, Nat.reduceEqDiff, Nat.reduceSub, Nat.reduceMul, Nat.reduceBEq, Int.reduceBEq, Int.reduceBNe, Int.reduceLT, Int.reduceLE, Int.reduceGT, Int.reduceGE, Int.reduceNeg, Int.reduceEq, Int.reduceNe, Int.reduceToNat, Int.reduceAdd, aconv, acvB, capR, acmpnil, appBox, storeB, ares1, appendTo, afill, aeqL, teset, e0, e3]
      cases hc : decide ((k : Int) > 127) with
      | false =>
        have hk : ¬ 127 < k := fun h => by simp only [decide_eq_false_iff_not] at hc; exact hc (Int.ofNat_lt.2 h)
        have hA : [AV.int IntKind.u8 (IntKind.u8.wrap (k : Int))] = numA n := by rw [u8small hk, ← hl, numA_small hk, hys]; rfl
        have hF : List.flatMap AV.cells [AV.int IntKind.u8 (IntKind.u8.wrap (k : Int))] = numA n := hA
        simp only [aw0, aw1, aw2, aw3, aw4, aw5, aw6, aw7, ne_eq, eq_self, implies_true, imp_self, reduceIte, reduceCtorEq, Nat.reduceAdd, Nat.reduceLT, Nat.reduceLeDiff, Nat.reduceEqDiff, Nat.reduceSub, Nat.reduceMul, Nat.reduceBEq, Int.reduceBEq, Int.reduceBNe, Int.reduceLT, Int.reduceLE, Int.reduceGT, Int.reduceGE, Int.reduceNeg, Int.reduceEq, Int.reduceNe, Int.reduceToNat, Int.reduceAdd, aconv, acvB, capR, acmpnil, appBox, storeB, ares1, appendTo, afill, aeqL, teset, e0, e3, rng1, hb1, List.length_append, List.length_cons, List.length_nil, Nat.zero_add, cellsOf, or_true, hF, numA_str, hnt]
        first | exact .inl ⟨_, rfl, .refl _ _⟩ | exact ⟨_, rfl, .refl _ _⟩
      | true =>
        have hk : 127 < k := by simp only [decide_eq_true_eq] at hc; exact Int.ofNat_lt.1 hc
        simp only [aw0, aw1, aw2, aw3, aw4, aw5, aw6, aw7, ne_eq, eq_self, implies_true, imp_self, reduceIte, reduceCtorEq, Nat.reduceAdd, Nat.reduceLT, Nat.reduceLeDiff, Nat.reduceEqDiff, Nat.reduceSub, Nat.reduceMul, Nat.reduceBEq, Int.reduceBEq, Int.reduceBNe, Int.reduceLT, Int.reduceLE, Int.reduceGT, Int.reduceGE, Int.reduceNeg, Int.reduceEq, Int.reduceNe, Int.reduceToNat, Int.reduceAdd, aconv, acvB, capR, acmpnil, appBox, storeB, ares1, appendTo, afill, aeqL, teset, e0, e3, rng1, hb1, List.length_append, List.length_cons, List.length_nil, Nat.zero_add, hnt]
        refine .inl ⟨k / 128, (div_lt hk).1, k / 128, ys ++ [.int .u8 ((128 + k % 128 : Nat) : Int)], _, rfl, ?_, rfl, .inr ⟨0, ?_, rfl⟩, ?_, ?_, .inr (div_lt hk).2⟩
        · rw [quo128 hmn]
        · rw [u8rem hmn, hys]; rfl
        · rw [← hl, numA_big hk, List.append_assoc]; rfl
        · rw [List.length_append]; exact div_pow hb
    · simp only [aw0, aw1, aw2, aw3, aw4, aw5, aw6, aw7, ne_eq, eq_self, implies_true, imp_self, reduceIte, reduceCtorEq, Nat.reduceAdd, Nat.reduceLT, Nat.reduceLeDiff, Nat.reduceEqDiff, Nat.reduceSub, Nat.reduceMul, Nat.reduceBEq, Int.reduceBEq, Int.reduceBNe, Int.reduceLT, Int.reduceLE, Int.reduceGT, Int.reduceGE, Int.reduceNeg, Int.reduceEq, Int.reduceNe, Int.reduceToNat, Int.reduceAdd, aconv, acvB, capR, acmpnil, appBox, storeB, ares1, appendTo, afill, aeqL, teset, e0, e3]
      cases hc : decide ((k : Int) > 127) with
      | false =>
        have hk : ¬ 127 < k := fun h => by simp only [decide_eq_false_iff_not] at hc; exact hc (Int.ofNat_lt.2 h)
        have hA : ys ++ [AV.int IntKind.u8 (IntKind.u8.wrap (k : Int))] = numA n := by rw [u8small hk, ← hl, numA_small hk]
        simp only [aw0, aw1, aw2, aw3, aw4, aw5, aw6, aw7, ne_eq, eq_self, implies_true, imp_self, reduceIte, reduceCtorEq, Nat.reduceAdd, Nat.reduceLT, Nat.reduceLeDiff, Nat.reduceEqDiff, Nat.reduceSub, Nat.reduceMul, Nat.reduceBEq, Int.reduceBEq, Int.reduceBNe, Int.reduceLT, Int.reduceLE, Int.reduceGT, Int.reduceGE, Int.reduceNeg, Int.reduceEq, Int.reduceNe, Int.reduceToNat, Int.reduceAdd, aconv, acvB, capR, acmpnil, appBox, storeB, ares1, appendTo, afill, aeqL, teset, e0, e3, rng1, hbd, htk, List.length_append, List.length_cons, List.length_nil, Nat.zero_add, cellsOf, or_true, hA, numA_cells, numA_str]
        exact ⟨_, rfl, .refl _ _⟩
      | true =>
        have hk : 127 < k := by simp only [decide_eq_true_eq] at hc; exact Int.ofNat_lt.1 hc
        simp only [aw0, aw1, aw2, aw3, aw4, aw5, aw6, aw7, ne_eq, eq_self, implies_true, imp_self, reduceIte, reduceCtorEq, Nat.reduceAdd, Nat.reduceLT, Nat.reduceLeDiff, Nat.reduceEqDiff, Nat.reduceSub, Nat.reduceMul, Nat.reduceBEq, Int.reduceBEq, Int.reduceBNe, Int.reduceLT, Int.reduceLE, Int.reduceGT, Int.reduceGE, Int.reduceNeg, Int.reduceEq, Int.reduceNe, Int.reduceToNat, Int.reduceAdd, aconv, acvB, capR, acmpnil, appBox, storeB, ares1, appendTo, afill, aeqL, teset, e0, e3, rng1, hbd, htk, List.length_append, List.length_cons, List.length_nil, Nat.zero_add]
        refine ⟨k / 128, (div_lt hk).1, k / 128, ys ++ [.int .u8 ((128 + k % 128 : Nat) : Int)], _, rfl, ?_, rfl, .inr ⟨g2 + 1, ?_, rfl⟩, ?_, ?_, .inr (div_lt hk).2⟩
        · rw [quo128 hmn]
        · rw [u8rem hmn]
        · rw [← hl, numA_big hk, List.append_assoc]; rfl
        · rw [List.length_append]; exact div_pow hb
theorem refnumber_pure (n : Int) (hn : n ≤ 9223372036854775807) : Pure Try.prog 11 [.int .i64 n] (numberV n) := by
  refine Pure.of0 ⟨Try.f11, Try.func11, rfl, by kernel_rfl⟩ rfl (by unfold numberV; split <;> rfl) ?_
  refine acalls_of te_ok [] Try.func11 (c := _) rfl (Nat.le_of_ble_eq_true rfl) ?_
  simp only [aw0, aw1, aw2, aw3, aw4, aw5, aw6, aw7, ne_eq, eq_self, implies_true, imp_self, reduceIte, reduceCtorEq, Nat.reduceAdd, Nat.reduceLT, Nat.reduceLeDiff, Nat.reduceEqDiff, Nat.reduceSub, Nat.reduceMul, Nat.reduceBEq, Int.reduceBEq, Int.reduceBNe, Int.reduceLT, Int.reduceLE, Int.reduceGT, Int.reduceGE, Int.reduceNeg, Int.reduceEq, Int.reduceNe, Int.reduceToNat, Int.reduceAdd, aconv, acvB, capR, acmpnil, appBox, storeB, ares1, appendTo, afill, aeqL, teset, Try.ntmps11, Try.results11, none_nb, none_box]
  unfold numberV
  cases hc : decide (n < 0) with
  | true =>
    simp only [decide_eq_true_eq] at hc
    simp only [aw0, aw1, aw2, aw3, aw4, aw5, aw6, aw7, ne_eq, eq_self, implies_true, imp_self, reduceIte, reduceCtorEq, Nat.reduceAdd, Nat.reduceLT, Nat.reduceLeDiff, Nat.reduceEqDiff, Nat.reduceSub, Nat.reduceMul, Nat.reduceBEq, Int.reduceBEq, Int.reduceBNe, Int.reduceLT, Int.reduceLE, Int.reduceGT, Int.reduceGE, Int.reduceNeg, Int.reduceEq, Int.reduceNe, Int.reduceToNat, Int.reduceAdd, aconv, acvB, capR, acmpnil, appBox, storeB, ares1, appendTo, afill, aeqL, teset]
    refine ⟨_, rfl, ?_⟩
    rw [if_pos hc]; exact .refl _ _
  | false =>
    simp only [decide_eq_false_iff_not] at hc
    obtain ⟨m, rfl⟩ : ∃ m : Nat, n = m := ⟨n.toNat, by omega⟩
    simp only [aw0, aw1, aw2, aw3, aw4, aw5, aw6, aw7, ne_eq, eq_self, implies_true, imp_self, reduceIte, reduceCtorEq, Nat.reduceAdd, Nat.reduceLT, Nat.reduceLeDiff, Nat.reduceEqDiff, Nat.reduceSub, Nat.reduceMul, Nat.reduceBEq, Int.reduceBEq, Int.reduceBNe, Int.reduceLT, Int.reduceLE, Int.reduceGT, Int.reduceGE, Int.reduceNeg, Int.reduceEq, Int.reduceNe, Int.reduceToNat, Int.reduceAdd, aconv, acvB, capR, acmpnil, appBox, storeB, ares1, appendTo, afill, aeqL, teset]
    refine ACallV.pure (count_pure m (by omega)) ?_
    simp only [aw0, aw1, aw2, aw3, aw4, aw5, aw6, aw7, ne_eq, eq_self, implies_true, imp_self, reduceIte, reduceCtorEq, Nat.reduceAdd, Nat.reduceLT, Nat.reduceLeDiff, Nat.reduceEqDiff, Nat.reduceSub, Nat.reduceMul, Nat.reduceBEq, Int.reduceBEq, Int.reduceBNe, Int.reduceLT, Int.reduceLE, Int.reduceGT, Int.reduceGE, Int.reduceNeg, Int.reduceEq, Int.reduceNe, Int.reduceToNat, Int.reduceAdd, aconv, acvB, capR, acmpnil, appBox, storeB, ares1, appendTo, afill, aeqL, teset]
    refine ⟨_, rfl, ?_⟩
    rw [if_neg hc, Int.toNat_natCast]; exact .refl _ _
end Go.Proofs.Ytlbhgoffiigfbaa.AW
