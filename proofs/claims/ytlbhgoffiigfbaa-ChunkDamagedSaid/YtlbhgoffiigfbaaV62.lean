/- V, part 62: AddNumber. -/
import Derived.Test.YtlbhgoffiigfbaaV61
set_option linter.unusedSimpArgs false
set_option linter.unusedVariables false
namespace Go.Proofs.Ytlbhgoffiigfbaa.AW
open Go Go.RowKit

/-- The bytes of a number. -/
def numL (n : Nat) : List Nat := if h : 127 < n then (128 + n % 128) :: numL (n / 128) else [n]
termination_by n
decreasing_by omega
theorem numL_big {n : Nat} (h : 127 < n) : numL n = (128 + n % 128) :: numL (n / 128) := by
  rw [numL]
  split
  · rfl
  · next h2 => exact absurd h h2
theorem numL_small {n : Nat} (h : ¬ 127 < n) : numL n = [n] := by
  rw [numL]
  split
  · next h2 => exact absurd h2 h
  · rfl
def numA (n : Nat) : List AV := (numL n).map fun (k : Nat) => AV.int .u8 (k : Int)
theorem numA_big {n : Nat} (h : 127 < n) : numA n = .int .u8 ((128 + n % 128 : Nat) : Int) :: numA (n / 128) := by unfold numA; rw [numL_big h]; rfl
theorem numA_small {n : Nat} (h : ¬ 127 < n) : numA n = [.int .u8 (n : Int)] := by unfold numA; rw [numL_small h]; rfl
theorem pow_len {k n : Nat} (h : 128 ^ k ≤ n) (hn : n < 9223372036854775808) : k < 9 := by
  have h1 : 128 ^ k < 128 ^ 9 := Nat.lt_of_le_of_lt h (Nat.lt_of_lt_of_le hn (by decide))
  exact (Nat.pow_lt_pow_iff_right (by decide)).1 h1
theorem u8rem {m : Nat} (hm : m < 9223372036854775808) : IntKind.u8.wrap (IntKind.i64.wrap (128 + ((m : Int)).tmod 128)) = ((128 + m % 128 : Nat) : Int) := by
  rw [Int.tmod_eq_emod_of_nonneg (by omega), wrapS (by omega) (by omega)]
  simp only [IntKind.wrap, IntKind.bits, IntKind.signed, Bool.false_and, Bool.false_eq_true, if_false]
  omega
theorem u8small {m : Nat} (h : ¬ 127 < m) : IntKind.u8.wrap (m : Int) = (m : Int) := by
  simp only [IntKind.wrap, IntKind.bits, IntKind.signed, Bool.false_and, Bool.false_eq_true, if_false]
  omega
theorem quo128 {m : Nat} (hm : m < 9223372036854775808) : IntKind.i64.wrap (((m : Int)).tdiv 128) = ((m / 128 : Nat) : Int) := by
  rw [Int.tdiv_eq_ediv_of_nonneg (by omega), wrapS (by omega) (by omega)]
  omega
theorem setTok_setTok (h : AH) (t a b : Nat) : (h.setTok t a).setTok t b = h.setTok t b := by
  unfold AH.setTok
  simp only [AH.mk.injEq, true_and, and_true]
  funext q
  unfold upd
  by_cases e : q = t <;> simp [e]
theorem setTok_self {h : AH} {t g : Nat} (ht : h.tok t = some g) : h.setTok t g = h := by
  unfold AH.setTok
  cases h with | mk box nb tok nt =>
  simp only [AH.mk.injEq, true_and, and_true]
  funext q
  unfold upd
  by_cases e : q = t
  · subst e; simp only [if_true]; exact ht.symm
  · simp [e]
theorem rng1 : List.range 1 = [0] := rfl
theorem len9 {m n k : Nat} (h : m * 128 ^ k ≤ n) (hn : n < 9223372036854775808) (hm : k = 0 ∨ 1 ≤ m) : k < 9 := by
  rcases hm with rfl | hm
  · decide
  · exact pow_len (Nat.le_trans (Nat.le_mul_of_pos_left _ hm) h) hn
theorem bnd1 {a b : Nat} (ha : a < 1000000000) (hb : b < 9) : (a + b + 1) * 1 ≤ 140737488355328 := by omega
theorem div_lt {k : Nat} (h : 127 < k) : k / 128 < k ∧ 1 ≤ k / 128 := by omega
theorem div_pow {k n a : Nat} (h : k * 128 ^ a ≤ n) : k / 128 * 128 ^ (a + 1) ≤ n := by
  rw [Nat.pow_succ, Nat.mul_comm (128 ^ a) 128, ← Nat.mul_assoc]
  exact Nat.le_trans (Nat.mul_le_mul_right _ (Nat.div_mul_le_self k 128)) h
set_option maxHeartbeats 4000000 in
theorem addnum_tok (xs : List AV) (n t g : Nat) (hn : n < 9223372036854775808) (hx : xs.length < 1000000000) (h : AH) (ht : h.tok t = some g) :
    ACalls Try.prog 22 [.sl (.tok t g) 1 xs, .int .i64 n] h fun out h' => out = .ret (.sl (.tok t (g + (numA n).length)) 1 (xs ++ numA n)) ∧ h' = h.setTok t (g + (numA n).length) := by
  refine acalls_of te_ok [] Try.func22 (c := _) rfl (Nat.le_of_ble_eq_true rfl) ?_
  simp only [aw0, aw1, aw2, aw3, aw4, aw5, aw6, aw7, ne_eq, eq_self, implies_true, imp_self, reduceIte, reduceCtorEq, Nat.reduceAdd, Nat.reduceLT, Nat.reduceLeDiff, Nat.reduceEqDiff, Nat.reduceSub, Nat.reduceMul, Nat.reduceBEq, Int.reduceBEq, Int.reduceBNe, Int.reduceLT, Int.reduceLE, Int.reduceGT, Int.reduceGE, Int.reduceNeg, Int.reduceEq, Int.reduceNe, Int.reduceToNat, Int.reduceAdd, aconv, acvB, capR, acmpnil, appBox, storeB, ares1, appendTo, afill, aeqL, teset, Try.ntmps22, Try.results22]
  refine ⟨fun k s' h' => ∃ (m g2 : Nat) (ys : List AV), s' 0 = .sl (.tok t g2) 1 (xs ++ ys) ∧ s' 1 = .int .i64 m ∧ k = m ∧ h'.tok t = some g2 ∧ h' = h.setTok t g2 ∧ g2 = g + ys.length ∧ ys ++ numA m = numA n ∧ m * 128 ^ ys.length ≤ n ∧ (ys = [] ∨ 1 ≤ m), ⟨n, n, g, [], ?_⟩, ?_⟩
  · simp only [aw0, aw1, aw2, aw3, aw4, aw5, aw6, aw7, ne_eq, eq_self, implies_true, imp_self, reduceIte, reduceCtorEq, Nat.reduceAdd, Nat.reduceLT, Nat.reduceLeDiff, Nat.reduceEqDiff, Nat.reduceSub, Nat.reduceMul, Nat.reduceBEq, Int.reduceBEq, Int.reduceBNe, Int.reduceLT, Int.reduceLE, Int.reduceGT, Int.reduceGE, Int.reduceNeg, Int.reduceEq, Int.reduceNe, Int.reduceToNat, Int.reduceAdd, aconv, acvB, capR, acmpnil, appBox, storeB, ares1, appendTo, afill, aeqL, teset, ht, List.append_nil, List.nil_append]
    exact ⟨(setTok_self ht).symm, by rw [Nat.pow_zero, Nat.mul_one]; exact Nat.le_refl _⟩
  · rintro k s' h' ⟨m, g2, ys, e0, e1, rfl, htk, hh, hg2, hl, hb, hm1⟩
    have hmn : k < 9223372036854775808 := Nat.lt_of_le_of_lt (Nat.le_trans (Nat.le_mul_of_pos_right k (Nat.pow_pos (by decide))) hb) hn
    have hl9 : ys.length < 9 := len9 hb hn (hm1.imp (fun h => by rw [h]; rfl) id)
    have hbd := bnd1 hx hl9
    simp only [aw0, aw1, aw2, aw3, aw4, aw5, aw6, aw7, ne_eq, eq_self, implies_true, imp_self, reduceIte, reduceCtorEq, Nat.reduceAdd, Nat.reduceLT, Nat.reduceLeDiff, Nat.reduceEqDiff, Nat.reduceSub, Nat.reduceMul, Nat.reduceBEq, Int.reduceBEq, Int.reduceBNe, Int.reduceLT, Int.reduceLE, Int.reduceGT, Int.reduceGE, Int.reduceNeg, Int.reduceEq, Int.reduceNe, Int.reduceToNat, Int.reduceAdd, aconv, acvB, capR, acmpnil, appBox, storeB, ares1, appendTo, afill, aeqL, teset, e0, e1]
    cases hc : decide ((k : Int) > 127) with
    | false =>
      have hk : ¬ 127 < k := fun h => by simp only [decide_eq_false_iff_not] at hc; exact hc (Int.ofNat_lt.2 h)
      simp only [aw0, aw1, aw2, aw3, aw4, aw5, aw6, aw7, ne_eq, eq_self, implies_true, imp_self, reduceIte, reduceCtorEq, Nat.reduceAdd, Nat.reduceLT, Nat.reduceLeDiff, Nat.reduceEqDiff, Nat.reduceSub, Nat.reduceMul, Nat.reduceBEq, Int.reduceBEq, Int.reduceBNe, Int.reduceLT, Int.reduceLE, Int.reduceGT, Int.reduceGE, Int.reduceNeg, Int.reduceEq, Int.reduceNe, Int.reduceToNat, Int.reduceAdd, aconv, acvB, capR, acmpnil, appBox, storeB, ares1, appendTo, afill, aeqL, teset, e0, e1, htk, rng1, hbd, List.length_append, List.length_cons, List.length_nil, Nat.zero_add]
      have hgl : g2 + 1 = g + (numA n).length := by rw [← hl, numA_small hk, List.length_append, hg2]; simp; omega
      rw [← hgl]
      refine ⟨?_, by rw [hh, setTok_setTok]⟩
      rw [u8small hk, ← hl, numA_small hk, List.append_assoc]
    | true =>
      have hk : 127 < k := by simp only [decide_eq_true_eq] at hc; exact Int.ofNat_lt.1 hc
      simp only [aw0, aw1, aw2, aw3, aw4, aw5, aw6, aw7, ne_eq, eq_self, implies_true, imp_self, reduceIte, reduceCtorEq, Nat.reduceAdd, Nat.reduceLT, Nat.reduceLeDiff, Nat.reduceEqDiff, Nat.reduceSub, Nat.reduceMul, Nat.reduceBEq, Int.reduceBEq, Int.reduceBNe, Int.reduceLT, Int.reduceLE, Int.reduceGT, Int.reduceGE, Int.reduceNeg, Int.reduceEq, Int.reduceNe, Int.reduceToNat, Int.reduceAdd, aconv, acvB, capR, acmpnil, appBox, storeB, ares1, appendTo, afill, aeqL, teset, e0, e1, htk, rng1, hbd, List.length_append, List.length_cons, List.length_nil, Nat.zero_add]
      refine ⟨k / 128, (div_lt hk).1, k / 128, g2 + 1, ys ++ [.int .u8 ((128 + k % 128 : Nat) : Int)], ?_, ?_, rfl, ?_, ?_, ?_, ?_, ?_, ?_⟩
      · rw [u8rem hmn, List.append_assoc]
      · rw [quo128 hmn]
      · rfl
      · rw [hh, setTok_setTok]
      · rw [hg2, List.length_append]; simp; omega
      · rw [← hl, numA_big hk, List.append_assoc]; rfl
      · rw [List.length_append]; exact div_pow hb
      · exact .inr (div_lt hk).2
theorem newTok_tok0 (h : AH) : h.newTok.tok h.nt = some 0 := by rw [newTok_tok, if_pos rfl]
set_option maxHeartbeats 4000000 in
theorem addnum_nil (n : Nat) (hn : n < 9223372036854775808) (h : AH) :
    ACalls Try.prog 22 [.sl .full 0 [], .int .i64 n] h fun out h' => out = .ret (.sl (.tok h.nt ((numA n).length - 1)) 1 (numA n)) ∧ h' = h.newTok.setTok h.nt ((numA n).length - 1) := by
  refine acalls_of te_ok [] Try.func22 (c := _) rfl (Nat.le_of_ble_eq_true rfl) ?_
  simp only [aw0, aw1, aw2, aw3, aw4, aw5, aw6, aw7, ne_eq, eq_self, implies_true, imp_self, reduceIte, reduceCtorEq, Nat.reduceAdd, Nat.reduceLT, Nat.reduceLeDiff, Nat.reduceEqDiff, Nat.reduceSub, Nat.reduceMul, Nat.reduceBEq, Int.reduceBEq, Int.reduceBNe, Int.reduceLT, Int.reduceLE, Int.reduceGT, Int.reduceGE, Int.reduceNeg, Int.reduceEq, Int.reduceNe, Int.reduceToNat, Int.reduceAdd, aconv, acvB, capR, acmpnil, appBox, storeB, ares1, appendTo, afill, aeqL, teset, Try.ntmps22, Try.results22]
  refine ⟨fun k s' h' => ∃ (m : Nat) (ys : List AV) (a : AV), s' 0 = a ∧ s' 1 = .int .i64 m ∧ k = m ∧ (ys = [] ∧ a = .sl .full 0 [] ∧ h' = h ∨ ∃ g2, a = .sl (.tok h.nt g2) 1 ys ∧ h' = h.newTok.setTok h.nt g2 ∧ g2 + 1 = ys.length) ∧ ys ++ numA m = numA n ∧ m * 128 ^ ys.length ≤ n ∧ (ys = [] ∨ 1 ≤ m), ⟨n, n, [], .sl .full 0 [], ?_⟩, ?_⟩
  · simp only [aw0, aw1, aw2, aw3, aw4, aw5, aw6, aw7, ne_eq, eq_self, implies_true, imp_self, reduceIte, reduceCtorEq, Nat.reduceAdd, Nat.reduceLT, Nat.reduceLeDiff, Nat.reduceEqDiff, Nat.reduceSub, Nat.reduceMul, Nat.reduceBEq, Int.reduceBEq, Int.reduceBNe, Int.reduceLT, Int.reduceLE, Int.reduceGT, Int.reduceGE, Int.reduceNeg, Int.reduceEq, Int.reduceNe, Int.reduceToNat, Int.reduceAdd, aconv, acvB, capR, acmpnil, appBox, storeB, ares1, appendTo, afill, aeqL, teset, List.append_nil, List.nil_append]
    first | exact Nat.le_of_eq (Nat.mul_one n) | trivial
  · rintro k s' h' ⟨m, ys, a, e0, e1, rfl, hcase, hl, hb, hm1⟩
    have hmn : k < 9223372036854775808 := Nat.lt_of_le_of_lt (Nat.le_trans (Nat.le_mul_of_pos_right k (Nat.pow_pos (by decide))) hb) hn
    have hl9 : ys.length < 9 := len9 hb hn (hm1.imp (fun h => by rw [h]; rfl) id)
    have hbd := bnd1 (a := 0) (by decide) hl9
    rw [Nat.zero_add] at hbd
    have hb1 : (0 + 1) * 1 ≤ 140737488355328 := by decide
    rcases hcase with ⟨hys, rfl, rfl⟩ | ⟨g2, rfl, rfl, hg2⟩
    · simp only [aw0, aw1, aw2, aw3, aw4, aw5, aw6, aw7, ne_eq, eq_self, implies_true, imp_self, reduceIte, reduceCtorEq, Nat.reduceAdd, Nat.reduceLT, Nat.reduceLeDiff, Nat.reduceEqDiff, Nat.reduceSub, Nat.reduceMul, Nat.reduceBEq, Int.reduceBEq, Int.reduceBNe, Int.reduceLT, Int.reduceLE, Int.reduceGT, Int.reduceGE, Int.reduceNeg, Int.reduceEq, Int.reduceNe, Int.reduceToNat, Int.reduceAdd, aconv, acvB, capR, acmpnil, appBox, storeB, ares1, appendTo, afill, aeqL, teset, e0, e1]
      cases hc : decide ((k : Int) > 127) with
      | false =>
        have hk : ¬ 127 < k := fun h => by simp only [decide_eq_false_iff_not] at hc; exact hc (Int.ofNat_lt.2 h)
        simp only [aw0, aw1, aw2, aw3, aw4, aw5, aw6, aw7, ne_eq, eq_self, implies_true, imp_self, reduceIte, reduceCtorEq, Nat.reduceAdd, Nat.reduceLT, Nat.reduceLeDiff, Nat.reduceEqDiff, Nat.reduceSub, Nat.reduceMul, Nat.reduceBEq, Int.reduceBEq, Int.reduceBNe, Int.reduceLT, Int.reduceLE, Int.reduceGT, Int.reduceGE, Int.reduceNeg, Int.reduceEq, Int.reduceNe, Int.reduceToNat, Int.reduceAdd, aconv, acvB, capR, acmpnil, appBox, storeB, ares1, appendTo, afill, aeqL, teset, e0, e1, rng1, hb1, List.length_append, List.length_cons, List.length_nil, Nat.zero_add]
        have hgl : (numA n).length - 1 = 0 := by rw [← hl, numA_small hk, hys]; rfl
        rw [hgl]
        refine .inl ⟨?_, (setTok_self (newTok_tok0 _)).symm⟩
        rw [u8small hk, ← hl, numA_small hk, hys]; rfl
      | true =>
        have hk : 127 < k := by simp only [decide_eq_true_eq] at hc; exact Int.ofNat_lt.1 hc
        simp only [aw0, aw1, aw2, aw3, aw4, aw5, aw6, aw7, ne_eq, eq_self, implies_true, imp_self, reduceIte, reduceCtorEq, Nat.reduceAdd, Nat.reduceLT, Nat.reduceLeDiff, Nat.reduceEqDiff, Nat.reduceSub, Nat.reduceMul, Nat.reduceBEq, Int.reduceBEq, Int.reduceBNe, Int.reduceLT, Int.reduceLE, Int.reduceGT, Int.reduceGE, Int.reduceNeg, Int.reduceEq, Int.reduceNe, Int.reduceToNat, Int.reduceAdd, aconv, acvB, capR, acmpnil, appBox, storeB, ares1, appendTo, afill, aeqL, teset, e0, e1, rng1, hb1, List.length_append, List.length_cons, List.length_nil, Nat.zero_add]
        refine .inl ⟨k / 128, (div_lt hk).1, k / 128, ys ++ [.int .u8 ((128 + k % 128 : Nat) : Int)], _, rfl, ?_, rfl, .inr ⟨0, ?_, (setTok_self (newTok_tok0 _)).symm, by rw [hys]; rfl⟩, ?_, ?_, .inr (div_lt hk).2⟩
        · rw [quo128 hmn]
        · rw [u8rem hmn, hys]; rfl
        · rw [← hl, numA_big hk, List.append_assoc]; rfl
        · rw [List.length_append]; exact div_pow hb
    · simp only [aw0, aw1, aw2, aw3, aw4, aw5, aw6, aw7, ne_eq, eq_self, implies_true, imp_self, reduceIte, reduceCtorEq, Nat.reduceAdd, Nat.reduceLT, Nat.reduceLeDiff, Nat.reduceEqDiff, Nat.reduceSub, Nat.reduceMul, Nat.reduceBEq, Int.reduceBEq, Int.reduceBNe, Int.reduceLT, Int.reduceLE, Int.reduceGT, Int.reduceGE, Int.reduceNeg, Int.reduceEq, Int.reduceNe, Int.reduceToNat, Int.reduceAdd, aconv, acvB, capR, acmpnil, appBox, storeB, ares1, appendTo, afill, aeqL, teset, e0, e1]
      cases hc : decide ((k : Int) > 127) with
      | false =>
        have hk : ¬ 127 < k := fun h => by simp only [decide_eq_false_iff_not] at hc; exact hc (Int.ofNat_lt.2 h)
        simp only [aw0, aw1, aw2, aw3, aw4, aw5, aw6, aw7, ne_eq, eq_self, implies_true, imp_self, reduceIte, reduceCtorEq, Nat.reduceAdd, Nat.reduceLT, Nat.reduceLeDiff, Nat.reduceEqDiff, Nat.reduceSub, Nat.reduceMul, Nat.reduceBEq, Int.reduceBEq, Int.reduceBNe, Int.reduceLT, Int.reduceLE, Int.reduceGT, Int.reduceGE, Int.reduceNeg, Int.reduceEq, Int.reduceNe, Int.reduceToNat, Int.reduceAdd, aconv, acvB, capR, acmpnil, appBox, storeB, ares1, appendTo, afill, aeqL, teset, e0, e1, rng1, hbd, List.length_append, List.length_cons, List.length_nil, Nat.zero_add, newTok_nt]
        have hgl : (numA n).length - 1 = g2 + 1 := by rw [← hl, numA_small hk, List.length_append]; simp; omega
        rw [hgl]
        refine ⟨?_, by rw [setTok_setTok]⟩
        rw [u8small hk, ← hl, numA_small hk]
      | true =>
        have hk : 127 < k := by simp only [decide_eq_true_eq] at hc; exact Int.ofNat_lt.1 hc
        simp only [aw0, aw1, aw2, aw3, aw4, aw5, aw6, aw7, ne_eq, eq_self, implies_true, imp_self, reduceIte, reduceCtorEq, Nat.reduceAdd, Nat.reduceLT, Nat.reduceLeDiff, Nat.reduceEqDiff, Nat.reduceSub, Nat.reduceMul, Nat.reduceBEq, Int.reduceBEq, Int.reduceBNe, Int.reduceLT, Int.reduceLE, Int.reduceGT, Int.reduceGE, Int.reduceNeg, Int.reduceEq, Int.reduceNe, Int.reduceToNat, Int.reduceAdd, aconv, acvB, capR, acmpnil, appBox, storeB, ares1, appendTo, afill, aeqL, teset, e0, e1, rng1, hbd, List.length_append, List.length_cons, List.length_nil, Nat.zero_add, newTok_nt]
        refine ⟨k / 128, (div_lt hk).1, k / 128, ys ++ [.int .u8 ((128 + k % 128 : Nat) : Int)], _, rfl, ?_, rfl, .inr ⟨g2 + 1, ?_, by rw [setTok_setTok], by rw [List.length_append, hg2]; rfl⟩, ?_, ?_, .inr (div_lt hk).2⟩
        · rw [quo128 hmn]
        · rw [u8rem hmn]
        · rw [← hl, numA_big hk, List.append_assoc]; rfl
        · rw [List.length_append]; exact div_pow hb
end Go.Proofs.Ytlbhgoffiigfbaa.AW
