/- Texts of this claim, part 9: V61, V62, V63, V64, V65. -/
import Derived.Test.YtlbhgoffiigfbaaBe1
import Derived.Test.YtlbhgoffiigfbaaBe8
import Derived.Test.YtlbhgoffiigfbaaTab
import Derived.Test.YtlbhgoffiigfbaaAw28
section
set_option linter.unusedSimpArgs false
set_option linter.unusedVariables false
namespace Go.Proofs.Ytlbhgoffiigfbaa.AW
open Go Go.RowKit

theorem wrapS {n : Int} (h : -4611686018427387904 ≤ n) (h2 : n < 4611686018427387904) : IntKind.i64.wrap n = n := by
  simp only [IntKind.wrap, IntKind.bits, IntKind.signed, Bool.true_and, decide_eq_true_eq, Int.reducePow, Nat.reduceSub]
  split <;> (rename_i hx; simp only [ge_iff_le, decide_eq_true_eq] at hx; omega)
theorem byteS {s : ByteArray} {i : Nat} (h : i < s.size) : ∃ b, s[i]? = some b ∧ s.data.toList[i]? = some b := by
  refine ⟨s[i], by simp [h], ?_⟩
  have : i < s.data.size := h
  rw [Array.getElem?_toList, Array.getElem?_eq_getElem this]; rfl
theorem stepA {a x : Nat} (ha : a < 65521) (hx : x < 256) : (IntKind.i64.wrap ((a : Int) + IntKind.i64.wrap (x : Int))).tmod 65521 = (((a + x) % 65521 : Nat) : Int) := by
  rw [wrapS (n := (x : Int)) (by omega) (by omega), wrapS (by omega) (by omega), Int.tmod_eq_emod_of_nonneg (by omega)]
  omega
theorem stepB {b c : Nat} (hb : b < 65521) (hc : c < 65521) : (IntKind.i64.wrap ((b : Int) + (c : Int))).tmod 65521 = (((b + c) % 65521 : Nat) : Int) := by
  rw [wrapS (by omega) (by omega), Int.tmod_eq_emod_of_nonneg (by omega)]
  omega
theorem lastP {a b : Nat} (ha : a < 65521) (hb : b < 65521) : IntKind.i64.wrap (IntKind.i64.wrap ((b : Int) * 2 ^ min 16 IntKind.i64.bits) + (a : Int)) = ((b * 65536 + a : Nat) : Int) := by
  have h1 : (2 : Int) ^ min 16 IntKind.i64.bits = 65536 := by decide
  rw [h1, wrapS (n := (b : Int) * 65536) (by omega) (by omega), wrapS (by omega) (by omega)]
  omega
theorem lastR {a b : Nat} (ha : a < 65521) (hb : b < 65521) : IntKind.i64.wrap (IntKind.i64.wrap ((b : Int) * 65536) + (a : Int)) = ((b * 65536 + a : Nat) : Int) := by
  rw [wrapS (n := (b : Int) * 65536) (by omega) (by omega), wrapS (by omega) (by omega)]
  omega
theorem dropS {l : List UInt8} {i : Nat} {x : UInt8} (h : l[i]? = some x) : l.drop i = x :: l.drop (i + 1) := by
  obtain ⟨hlt, he⟩ := List.getElem?_eq_some_iff.1 h
  rw [List.drop_eq_getElem_cons hlt, he]
theorem wrapI {i m : Nat} (h : i < m) (hm : m < 4611686018427387904) : IntKind.i64.wrap ((i : Int) + 1) = ((i + 1 : Nat) : Int) := by
  rw [wrapS (by omega) (by omega)]; omega
theorem addN {n i m : Nat} (h : n + i = m) (hi : i < m) : n - 1 < n ∧ n - 1 + (i + 1) = m := by omega
theorem sum_pure (s : ByteArray) (hs : s.size < 4611686018427387904) : Pure Try.prog 12 [.str s] (.int .i64 (sumS s.data.toList)) := by
  refine Pure.of ⟨Try.f12, Try.func12, rfl, by kernel_rfl⟩ rfl (fun h => ?_)
  refine acalls_of te_ok [] Try.func12 (c := _) rfl (Nat.le_of_ble_eq_true rfl) ?_
  simp only [aw0, aw1, aw2, aw3, aw4, aw5, aw6, aw7, ne_eq, eq_self, implies_true, imp_self, reduceIte, reduceCtorEq, Nat.reduceAdd, Nat.reduceLT, Nat.reduceLeDiff, Nat.reduceEqDiff, Nat.reduceSub, Nat.reduceMul, Nat.reduceBEq, Int.reduceBEq, Int.reduceBNe, Int.reduceLT, Int.reduceLE, Int.reduceGT, Int.reduceGE, Int.reduceNeg, Int.reduceEq, Int.reduceNe, Int.reduceToNat, Int.reduceAdd, aconv, acvB, capR, acmpnil, appBox, storeB, ares1, appendTo, afill, aeqL, teset, Try.ntmps12, Try.results12]
  refine ⟨fun n s' h' => ∃ (i a b : Nat), s' 0 = .str s ∧ s' 7 = .int .i64 s.size ∧ s' 8 = .int .i64 i ∧ s' 3 = .int .i64 a ∧ s' 4 = .int .i64 b ∧ h' = h ∧ n + i = s.size ∧ a < 65521 ∧ b < 65521 ∧ sumF (s.data.toList.drop i) a b = sumF s.data.toList 1 0, ⟨s.size, 0, 1, 0, ?_⟩, ?_⟩
  · simp only [aw0, aw1, aw2, aw3, aw4, aw5, aw6, aw7, ne_eq, eq_self, implies_true, imp_self, reduceIte, reduceCtorEq, Nat.reduceAdd, Nat.reduceLT, Nat.reduceLeDiff, Nat.reduceEqDiff, Nat.reduceSub, Nat.reduceMul, Nat.reduceBEq, Int.reduceBEq, Int.reduceBNe, Int.reduceLT, Int.reduceLE, Int.reduceGT, Int.reduceGE, Int.reduceNeg, Int.reduceEq, Int.reduceNe, Int.reduceToNat, Int.reduceAdd, aconv, acvB, capR, acmpnil, appBox, storeB, ares1, appendTo, afill, aeqL, teset, Int.natCast_zero, Int.natCast_one, List.drop_zero]
  · rintro n s' h' ⟨i, a, b, e0, e7, e8, e3, e4, hh, hn, ha, hb, hf⟩
    subst hh
    simp only [aw0, aw1, aw2, aw3, aw4, aw5, aw6, aw7, ne_eq, eq_self, implies_true, imp_self, reduceIte, reduceCtorEq, Nat.reduceAdd, Nat.reduceLT, Nat.reduceLeDiff, Nat.reduceEqDiff, Nat.reduceSub, Nat.reduceMul, Nat.reduceBEq, Int.reduceBEq, Int.reduceBNe, Int.reduceLT, Int.reduceLE, Int.reduceGT, Int.reduceGE, Int.reduceNeg, Int.reduceEq, Int.reduceNe, Int.reduceToNat, Int.reduceAdd, aconv, acvB, capR, acmpnil, appBox, storeB, ares1, appendTo, afill, aeqL, teset, e0, e7, e8, e3, e4]
    cases hc : decide ((i : Int) < (s.size : Int)) with
    | false =>
      simp only [aw0, aw1, aw2, aw3, aw4, aw5, aw6, aw7, ne_eq, eq_self, implies_true, imp_self, reduceIte, reduceCtorEq, Nat.reduceAdd, Nat.reduceLT, Nat.reduceLeDiff, Nat.reduceEqDiff, Nat.reduceSub, Nat.reduceMul, Nat.reduceBEq, Int.reduceBEq, Int.reduceBNe, Int.reduceLT, Int.reduceLE, Int.reduceGT, Int.reduceGE, Int.reduceNeg, Int.reduceEq, Int.reduceNe, Int.reduceToNat, Int.reduceAdd, aconv, acvB, capR, acmpnil, appBox, storeB, ares1, appendTo, afill, aeqL, teset, e0, e7, e8, e3, e4]
      refine ⟨.refl _, _, rfl, ?_⟩
      simp only [decide_eq_false_iff_not] at hc
      rw [List.drop_eq_nil_of_le (by have : s.data.toList.length = s.size := by simp
                                     omega)] at hf
      simp only [AV.erase]
      rw [lastP ha hb]
      unfold sumS
      rw [← hf]; rfl
    | true =>
      simp only [decide_eq_true_eq] at hc
      have hi : i < s.size := Int.ofNat_lt.1 hc
      obtain ⟨x, hx1, hx2⟩ := byteS hi
      simp only [aw0, aw1, aw2, aw3, aw4, aw5, aw6, aw7, ne_eq, eq_self, implies_true, imp_self, reduceIte, reduceCtorEq, Nat.reduceAdd, Nat.reduceLT, Nat.reduceLeDiff, Nat.reduceEqDiff, Nat.reduceSub, Nat.reduceMul, Nat.reduceBEq, Int.reduceBEq, Int.reduceBNe, Int.reduceLT, Int.reduceLE, Int.reduceGT, Int.reduceGE, Int.reduceNeg, Int.reduceEq, Int.reduceNe, Int.reduceToNat, Int.reduceAdd, aconv, acvB, capR, acmpnil, appBox, storeB, ares1, appendTo, afill, aeqL, teset, e0, e7, e8, e3, e4, Int.toNat_natCast, hx1, Int.natCast_nonneg]
      have hx8 := x.toNat_lt
      rw [stepA ha hx8, stepB hb (Nat.mod_lt _ (by decide)), wrapI hi hs]
      rw [dropS hx2] at hf
      exact ⟨n - 1, (addN hn hi).1, i + 1, _, _, rfl, rfl, rfl, (addN hn hi).2, Nat.mod_lt _ (by decide), Nat.mod_lt _ (by decide), hf⟩
theorem refsum_pure (s : ByteArray) (hs : s.size < 4611686018427387904) : Pure Try.prog 13 [.str s] (.int .i64 (sumS s.data.toList)) := by
  refine Pure.of ⟨Try.f13, Try.func13, rfl, by kernel_rfl⟩ rfl (fun h => ?_)
  refine acalls_of te_ok [] Try.func13 (c := _) rfl (Nat.le_of_ble_eq_true rfl) ?_
  simp only [aw0, aw1, aw2, aw3, aw4, aw5, aw6, aw7, ne_eq, eq_self, implies_true, imp_self, reduceIte, reduceCtorEq, Nat.reduceAdd, Nat.reduceLT, Nat.reduceLeDiff, Nat.reduceEqDiff, Nat.reduceSub, Nat.reduceMul, Nat.reduceBEq, Int.reduceBEq, Int.reduceBNe, Int.reduceLT, Int.reduceLE, Int.reduceGT, Int.reduceGE, Int.reduceNeg, Int.reduceEq, Int.reduceNe, Int.reduceToNat, Int.reduceAdd, aconv, acvB, capR, acmpnil, appBox, storeB, ares1, appendTo, afill, aeqL, teset, Try.ntmps13, Try.results13]
  refine ⟨fun n s' h' => ∃ (i a b : Nat), s' 0 = .str s ∧ s' 5 = .int .i64 i ∧ s' 3 = .int .i64 a ∧ s' 4 = .int .i64 b ∧ h' = h ∧ n + i = s.size ∧ a < 65521 ∧ b < 65521 ∧ sumF (s.data.toList.drop i) a b = sumF s.data.toList 1 0, ⟨s.size, 0, 1, 0, ?_⟩, ?_⟩
  · simp only [aw0, aw1, aw2, aw3, aw4, aw5, aw6, aw7, ne_eq, eq_self, implies_true, imp_self, reduceIte, reduceCtorEq, Nat.reduceAdd, Nat.reduceLT, Nat.reduceLeDiff, Nat.reduceEqDiff, Nat.reduceSub, Nat.reduceMul, Nat.reduceBEq, Int.reduceBEq, Int.reduceBNe, Int.reduceLT, Int.reduceLE, Int.reduceGT, Int.reduceGE, Int.reduceNeg, Int.reduceEq, Int.reduceNe, Int.reduceToNat, Int.reduceAdd, aconv, acvB, capR, acmpnil, appBox, storeB, ares1, appendTo, afill, aeqL, teset, Int.natCast_zero, Int.natCast_one, List.drop_zero]
  · rintro n s' h' ⟨i, a, b, e0, e5, e3, e4, hh, hn, ha, hb, hf⟩
    subst hh
    simp only [aw0, aw1, aw2, aw3, aw4, aw5, aw6, aw7, ne_eq, eq_self, implies_true, imp_self, reduceIte, reduceCtorEq, Nat.reduceAdd, Nat.reduceLT, Nat.reduceLeDiff, Nat.reduceEqDiff, Nat.reduceSub, Nat.reduceMul, Nat.reduceBEq, Int.reduceBEq, Int.reduceBNe, Int.reduceLT, Int.reduceLE, Int.reduceGT, Int.reduceGE, Int.reduceNeg, Int.reduceEq, Int.reduceNe, Int.reduceToNat, Int.reduceAdd, aconv, acvB, capR, acmpnil, appBox, storeB, ares1, appendTo, afill, aeqL, teset, e0, e5, e3, e4]
    cases hc : decide ((i : Int) < (s.size : Int)) with
    | false =>
      simp only [aw0, aw1, aw2, aw3, aw4, aw5, aw6, aw7, ne_eq, eq_self, implies_true, imp_self, reduceIte, reduceCtorEq, Nat.reduceAdd, Nat.reduceLT, Nat.reduceLeDiff, Nat.reduceEqDiff, Nat.reduceSub, Nat.reduceMul, Nat.reduceBEq, Int.reduceBEq, Int.reduceBNe, Int.reduceLT, Int.reduceLE, Int.reduceGT, Int.reduceGE, Int.reduceNeg, Int.reduceEq, Int.reduceNe, Int.reduceToNat, Int.reduceAdd, aconv, acvB, capR, acmpnil, appBox, storeB, ares1, appendTo, afill, aeqL, teset, e0, e5, e3, e4]
      refine ⟨.refl _, _, rfl, ?_⟩
      simp only [decide_eq_false_iff_not] at hc
      rw [List.drop_eq_nil_of_le (by have : s.data.toList.length = s.size := by simp
                                     omega)] at hf
      simp only [AV.erase]
      rw [lastR ha hb]
      unfold sumS
      rw [← hf]; rfl
    | true =>
      simp only [decide_eq_true_eq] at hc
      have hi : i < s.size := Int.ofNat_lt.1 hc
      obtain ⟨x, hx1, hx2⟩ := byteS hi
      simp only [aw0, aw1, aw2, aw3, aw4, aw5, aw6, aw7, ne_eq, eq_self, implies_true, imp_self, reduceIte, reduceCtorEq, Nat.reduceAdd, Nat.reduceLT, Nat.reduceLeDiff, Nat.reduceEqDiff, Nat.reduceSub, Nat.reduceMul, Nat.reduceBEq, Int.reduceBEq, Int.reduceBNe, Int.reduceLT, Int.reduceLE, Int.reduceGT, Int.reduceGE, Int.reduceNeg, Int.reduceEq, Int.reduceNe, Int.reduceToNat, Int.reduceAdd, aconv, acvB, capR, acmpnil, appBox, storeB, ares1, appendTo, afill, aeqL, teset, e0, e5, e3, e4, Int.toNat_natCast, hx1, Int.natCast_nonneg]
      have hx8 := x.toNat_lt
      rw [stepA ha hx8, stepB hb (Nat.mod_lt _ (by decide)), wrapI hi hs]
      rw [dropS hx2] at hf
      exact ⟨n - 1, (addN hn hi).1, i + 1, _, _, rfl, rfl, rfl, (addN hn hi).2, Nat.mod_lt _ (by decide), Nat.mod_lt _ (by decide), hf⟩
end Go.Proofs.Ytlbhgoffiigfbaa.AW
end
section
set_option linter.unusedSimpArgs false
set_option linter.unusedVariables false
namespace Go.Proofs.Ytlbhgoffiigfbaa.AW
open Go Go.RowKit

/-- The bytes of a number. -/
def numL (n : Nat) : List Nat := if h : 127 < n then (128 + n % 128) :: numL (n / 128) else [n]
termination_by n
decreasing_by omega
theorem numL_big {n : Nat} (h : 127 < n) : numL n = (128 + n % 128) :: numL (n / 128) := by
  rw [numL]
  split
  · rfl
  · next h2 => exact absurd h h2
theorem numL_small {n : Nat} (h : ¬ 127 < n) : numL n = [n] := by
  rw [numL]
  split
  · next h2 => exact absurd h2 h
  · rfl
def numA (n : Nat) : List AV := (numL n).map fun (k : Nat) => AV.int .u8 (k : Int)
theorem numA_big {n : Nat} (h : 127 < n) : numA n = .int .u8 ((128 + n % 128 : Nat) : Int) :: numA (n / 128) := by unfold numA; rw [numL_big h]; rfl
theorem numA_small {n : Nat} (h : ¬ 127 < n) : numA n = [.int .u8 (n : Int)] := by unfold numA; rw [numL_small h]; rfl
theorem pow_len {k n : Nat} (h : 128 ^ k ≤ n) (hn : n < 9223372036854775808) : k < 9 := by
  have h1 : 128 ^ k < 128 ^ 9 := Nat.lt_of_le_of_lt h (Nat.lt_of_lt_of_le hn (by decide))
  exact (Nat.pow_lt_pow_iff_right (by decide)).1 h1
theorem u8rem {m : Nat} (hm : m < 9223372036854775808) : IntKind.u8.wrap (IntKind.i64.wrap (128 + ((m : Int)).tmod 128)) = ((128 + m % 128 : Nat) : Int) := by
  rw [Int.tmod_eq_emod_of_nonneg (by omega), wrapS (by omega) (by omega)]
  simp only [IntKind.wrap, IntKind.bits, IntKind.signed, Bool.false_and, Bool.false_eq_true, if_false]
  omega
theorem u8small {m : Nat} (h : ¬ 127 < m) : IntKind.u8.wrap (m : Int) = (m : Int) := by
  simp only [IntKind.wrap, IntKind.bits, IntKind.signed, Bool.false_and, Bool.false_eq_true, if_false]
  omega
theorem quo128 {m : Nat} (hm : m < 9223372036854775808) : IntKind.i64.wrap (((m : Int)).tdiv 128) = ((m / 128 : Nat) : Int) := by
  rw [Int.tdiv_eq_ediv_of_nonneg (by omega), wrapS (by omega) (by omega)]
  omega
theorem setTok_setTok (h : AH) (t a b : Nat) : (h.setTok t a).setTok t b = h.setTok t b := by
  unfold AH.setTok
  simp only [AH.mk.injEq, true_and, and_true]
  funext q
  unfold upd
  by_cases e : q = t <;> simp [e]
theorem setTok_self {h : AH} {t g : Nat} (ht : h.tok t = some g) : h.setTok t g = h := by
  unfold AH.setTok
  cases h with | mk box nb tok nt =>
  simp only [AH.mk.injEq, true_and, and_true]
  funext q
  unfold upd
  by_cases e : q = t
  · subst e; simp only [if_true]; exact ht.symm
  · simp [e]
theorem rng1 : List.range 1 = [0] := rfl
theorem len9 {m n k : Nat} (h : m * 128 ^ k ≤ n) (hn : n < 9223372036854775808) (hm : k = 0 ∨ 1 ≤ m) : k < 9 := by
  rcases hm with rfl | hm
  · decide
  · exact pow_len (Nat.le_trans (Nat.le_mul_of_pos_left _ hm) h) hn
theorem bnd1 {a b : Nat} (ha : a < 1000000000) (hb : b < 9) : (a + b + 1) * 1 ≤ 140737488355328 := by omega
theorem div_lt {k : Nat} (h : 127 < k) : k / 128 < k ∧ 1 ≤ k / 128 := by omega
theorem div_pow {k n a : Nat} (h : k * 128 ^ a ≤ n) : k / 128 * 128 ^ (a + 1) ≤ n := by
  rw [Nat.pow_succ, Nat.mul_comm (128 ^ a) 128, ← Nat.mul_assoc]
  exact Nat.le_trans (Nat.mul_le_mul_right _ (Nat.div_mul_le_self k 128)) h
set_option maxHeartbeats 4000000 in
theorem addnum_tok (xs : List AV) (n t g : Nat) (hn : n < 9223372036854775808) (hx : xs.length < 1000000000) (h : AH) (ht : h.tok t = some g) :
    ACalls Try.prog 22 [.sl (.tok t g) 1 xs, .int .i64 n] h fun out h' => out = .ret (.sl (.tok t (g + (numA n).length)) 1 (xs ++ numA n)) ∧ h' = h.setTok t (g + (numA n).length) := by
  refine acalls_of te_ok [] Try.func22 (c := _) rfl (Nat.le_of_ble_eq_true rfl) ?_
  simp only [aw0, aw1, aw2, aw3, aw4, aw5, aw6, aw7, ne_eq, eq_self, implies_true, imp_self, reduceIte, reduceCtorEq, Nat.reduceAdd, Nat.reduceLT, Nat.reduceLeDiff, Nat.reduceEqDiff, Nat.reduceSub, Nat.reduceMul, Nat.reduceBEq, Int.reduceBEq, Int.reduceBNe, Int.reduceLT, Int.reduceLE, Int.reduceGT, Int.reduceGE, Int.reduceNeg, Int.reduceEq, Int.reduceNe, Int.reduceToNat, Int.reduceAdd, aconv, acvB, capR, acmpnil, appBox, storeB, ares1, appendTo, afill, aeqL, teset, Try.ntmps22, Try.results22]
  refine ⟨fun k s' h' => ∃ (m g2 : Nat) (ys : List AV), s' 0 = .sl (.tok t g2) 1 (xs ++ ys) ∧ s' 1 = .int .i64 m ∧ k = m ∧ h'.tok t = some g2 ∧ h' = h.setTok t g2 ∧ g2 = g + ys.length ∧ ys ++ numA m = numA n ∧ m * 128 ^ ys.length ≤ n ∧ (ys = [] ∨ 1 ≤ m), ⟨n, n, g, [], ?_⟩, ?_⟩
  · simp only [aw0, aw1, aw2, aw3, aw4, aw5, aw6, aw7, ne_eq, eq_self, implies_true, imp_self, reduceIte, reduceCtorEq, Nat.reduceAdd, Nat.reduceLT, Nat.reduceLeDiff, Nat.reduceEqDiff, Nat.reduceSub, Nat.reduceMul, Nat.reduceBEq, Int.reduceBEq, Int.reduceBNe, Int.reduceLT, Int.reduceLE, Int.reduceGT, Int.reduceGE, Int.reduceNeg, Int.reduceEq, Int.reduceNe, Int.reduceToNat, Int.reduceAdd, aconv, acvB, capR, acmpnil, appBox, storeB, ares1, appendTo, afill, aeqL, teset, ht, List.append_nil, List.nil_append]
    exact ⟨(setTok_self ht).symm, by rw [Nat.pow_zero, Nat.mul_one]; exact Nat.le_refl _⟩
  · rintro k s' h' ⟨m, g2, ys, e0, e1, rfl, htk, hh, hg2, hl, hb, hm1⟩
    have hmn : k < 9223372036854775808 := Nat.lt_of_le_of_lt (Nat.le_trans (Nat.le_mul_of_pos_right k (Nat.pow_pos (by decide))) hb) hn
    have hl9 : ys.length < 9 := len9 hb hn (hm1.imp (fun h => by rw [h]; rfl) id)
    have hbd := bnd1 hx hl9
    simp only [aw0, aw1, aw2, aw3, aw4, aw5, aw6, aw7, ne_eq, eq_self, implies_true, imp_self, reduceIte, reduceCtorEq, Nat.reduceAdd, Nat.reduceLT, Nat.reduceLeDiff, Nat.reduceEqDiff, Nat.reduceSub, Nat.reduceMul, Nat.reduceBEq, Int.reduceBEq, Int.reduceBNe, Int.reduceLT, Int.reduceLE, Int.reduceGT, Int.reduceGE, Int.reduceNeg, Int.reduceEq, Int.reduceNe, Int.reduceToNat, Int.reduceAdd, aconv, acvB, capR, acmpnil, appBox, storeB, ares1, appendTo, afill, aeqL, teset, e0, e1]
    cases hc : decide ((k : Int) > 127) with
    | false =>
      have hk : ¬ 127 < k := fun h => by simp only [decide_eq_false_iff_not] at hc; exact hc (Int.ofNat_lt.2 h)
      simp only [aw0, aw1, aw2, aw3, aw4, aw5, aw6, aw7, ne_eq, eq_self, implies_true, imp_self, reduceIte, reduceCtorEq, Nat.reduceAdd, Nat.reduceLT, Nat.reduceLeDiff, Nat.reduceEqDiff, Nat.reduceSub, Nat.reduceMul, Nat.reduceBEq, Int.reduceBEq, Int.reduceBNe, Int.reduceLT, Int.reduceLE, Int.reduceGT, Int.reduceGE, Int.reduceNeg, Int.reduceEq, Int.reduceNe, Int.reduceToNat, Int.reduceAdd, aconv, acvB, capR, acmpnil, appBox, storeB, ares1, appendTo, afill, aeqL, teset, e0, e1, htk, rng1, hbd, List.length_append, List.length_cons, List.length_nil, Nat.zero_add]
      have hgl : g2 + 1 = g + (numA n).length := by rw [← hl, numA_small hk, List.length_append, hg2]; simp; omega
      rw [← hgl]
      refine ⟨?_, by rw [hh, setTok_setTok]⟩
      rw [u8small hk, ← hl, numA_small hk, List.append_assoc]
    | true =>
      have hk : 127 < k := by simp only [decide_eq_true_eq] at hc; exact Int.ofNat_lt.1 hc
      simp only [aw0, aw1, aw2, aw3, aw4, aw5, aw6, aw7, ne_eq, eq_self, implies_true, imp_self, reduceIte, reduceCtorEq, Nat.reduceAdd, Nat.reduceLT, Nat.reduceLeDiff, Nat.reduceEqDiff, Nat.reduceSub, Nat.reduceMul, Nat.reduceBEq, Int.reduceBEq, Int.reduceBNe, Int.reduceLT, Int.reduceLE, Int.reduceGT, Int.reduceGE, Int.reduceNeg, Int.reduceEq, Int.reduceNe, Int.reduceToNat, Int.reduceAdd, aconv, acvB, capR, acmpnil, appBox, storeB, ares1, appendTo, afill, aeqL, teset, e0, e1, htk, rng1, hbd, List.length_append, List.length_cons, List.length_nil, Nat.zero_add]
      refine ⟨k / 128, (div_lt hk).1, k / 128, g2 + 1, ys ++ [.int .u8 ((128 + k % 128 : Nat) : Int)], ?_, ?_, rfl, ?_, ?_, ?_, ?_, ?_, ?_⟩
      · rw [u8rem hmn, List.append_assoc]
      · rw [quo128 hmn]
      · rfl
      · rw [hh, setTok_setTok]
      · rw [hg2, List.length_append]; simp; omega
      · rw [← hl, numA_big hk, List.append_assoc]; rfl
      · rw [List.length_append]; exact div_pow hb
      · exact .inr (div_lt hk).2
theorem newTok_tok0 (h : AH) : h.newTok.tok h.nt = some 0 := by rw [newTok_tok, if_pos rfl]
set_option maxHeartbeats 4000000 in
theorem addnum_nil (n : Nat) (hn : n < 9223372036854775808) (h : AH) :
    ACalls Try.prog 22 [.sl .full 0 [], .int .i64 n] h fun out h' => out = .ret (.sl (.tok h.nt ((numA n).length - 1)) 1 (numA n)) ∧ h' = h.newTok.setTok h.nt ((numA n).length - 1) := by
  refine acalls_of te_ok [] Try.func22 (c := _) rfl (Nat.le_of_ble_eq_true rfl) ?_
  simp only [aw0, aw1, aw2, aw3, aw4, aw5, aw6, aw7, ne_eq, eq_self, implies_true, imp_self, reduceIte, reduceCtorEq, Nat.reduceAdd, Nat.reduceLT, Nat.reduceLeDiff, Nat.reduceEqDiff, Nat.reduceSub, Nat.reduceMul, Nat.reduceBEq, Int.reduceBEq, Int.reduceBNe, Int.reduceLT, Int.reduceLE, Int.reduceGT, Int.reduceGE, Int.reduceNeg, Int.reduceEq, Int.reduceNe, Int.reduceToNat, Int.reduceAdd, aconv, acvB, capR, acmpnil, appBox, storeB, ares1, appendTo, afill, aeqL, teset, Try.ntmps22, Try.results22]
  refine ⟨fun k s' h' => ∃ (m : Nat) (ys : List AV) (a : AV), s' 0 = a ∧ s' 1 = .int .i64 m ∧ k = m ∧ (ys = [] ∧ a = .sl .full 0 [] ∧ h' = h ∨ ∃ g2, a = .sl (.tok h.nt g2) 1 ys ∧ h' = h.newTok.setTok h.nt g2 ∧ g2 + 1 = ys.length) ∧ ys ++ numA m = numA n ∧ m * 128 ^ ys.length ≤ n ∧ (ys = [] ∨ 1 ≤ m), ⟨n, n, [], .sl .full 0 [], ?_⟩, ?_⟩
  · simp only [aw0, aw1, aw2, aw3, aw4, aw5, aw6, aw7, ne_eq, eq_self, implies_true, imp_self, reduceIte, reduceCtorEq, Nat.reduceAdd, Nat.reduceLT, Nat.reduceLeDiff, Nat.reduceEqDiff, Nat.reduceSub, Nat.reduceMul, Nat.reduceBEq, Int.reduceBEq, Int.reduceBNe, Int.reduceLT, Int.reduceLE, Int.reduceGT, Int.reduceGE, Int.reduceNeg, Int.reduceEq, Int.reduceNe, Int.reduceToNat, Int.reduceAdd, aconv, acvB, capR, acmpnil, appBox, storeB, ares1, appendTo, afill, aeqL, teset, List.append_nil, List.nil_append]
    first | exact Nat.le_of_eq (Nat.mul_one n) | trivial
  · rintro k s' h' ⟨m, ys, a, e0, e1, rfl, hcase, hl, hb, hm1⟩
    have hmn : k < 9223372036854775808 := Nat.lt_of_le_of_lt (Nat.le_trans (Nat.le_mul_of_pos_right k (Nat.pow_pos (by decide))) hb) hn
    have hl9 : ys.length < 9 := len9 hb hn (hm1.imp (fun h => by rw [h]; rfl) id)
    have hbd := bnd1 (a := 0) (by decide) hl9
    rw [Nat.zero_add] at hbd
    have hb1 : (0 + 1) * 1 ≤ 140737488355328 := by decide
    rcases hcase with ⟨hys, rfl, rfl⟩ | ⟨g2, rfl, rfl, hg2⟩
    · simp only [aw0, aw1, aw2, aw3, aw4, aw5, aw6, aw7, ne_eq, eq_self, implies_true, imp_self, reduceIte, reduceCtorEq, Nat.reduceAdd, Nat.reduceLT, Nat.reduceLeDiff, Nat.reduceEqDiff, Nat.reduceSub, Nat.reduceMul, Nat.reduceBEq, Int.reduceBEq, Int.reduceBNe, Int.reduceLT, Int.reduceLE, Int.reduceGT, Int.reduceGE, Int.reduceNeg, Int.reduceEq, Int.reduceNe, Int.reduceToNat, Int.reduceAdd, aconv, acvB, capR, acmpnil, appBox, storeB, ares1, appendTo, afill, aeqL, teset, e0, e1]
      cases hc : decide ((k : Int) > 127) with
      | false =>
        have hk : ¬ 127 < k := fun h => by simp only [decide_eq_false_iff_not] at hc; exact hc (Int.ofNat_lt.2 h)
        simp only [aw0, aw1, aw2, aw3, aw4, aw5, aw6, aw7, ne_eq, eq_self, implies_true, imp_self, reduceIte, reduceCtorEq, Nat.reduceAdd, Nat.reduceLT, Nat.reduceLeDiff, Nat.reduceEqDiff, Nat.reduceSub, Nat.reduceMul, Nat.reduceBEq, Int.reduceBEq, Int.reduceBNe, Int.reduceLT, Int.reduceLE, Int.reduceGT, Int.reduceGE, Int.reduceNeg, Int.reduceEq, Int.reduceNe, Int.reduceToNat, Int.reduceAdd, aconv, acvB, capR, acmpnil, appBox, storeB, ares1, appendTo, afill, aeqL, teset, e0, e1, rng1, hb1, List.length_append, List.length_cons, List.length_nil, Nat.zero_add]
        have hgl : (numA n).length - 1 = 0 := by rw [← hl, numA_small hk, hys]; rfl
        rw [hgl]
        refine .inl ⟨?_, (setTok_self (newTok_tok0 _)).symm⟩
        rw [u8small hk, ← hl, numA_small hk, hys]; rfl
      | true =>
        have hk : 127 < k := by simp only [decide_eq_true_eq] at hc; exact Int.ofNat_lt.1 hc
        simp only [aw0, aw1, aw2, aw3, aw4, aw5, aw6, aw7, ne_eq, eq_self, implies_true, imp_self, reduceIte, reduceCtorEq, Nat.reduceAdd, Nat.reduceLT, Nat.reduceLeDiff, Nat.reduceEqDiff, Nat.reduceSub, Nat.reduceMul, Nat.reduceBEq, Int.reduceBEq, Int.reduceBNe, Int.reduceLT, Int.reduceLE, Int.reduceGT, Int.reduceGE, Int.reduceNeg, Int.reduceEq, Int.reduceNe, Int.reduceToNat, Int.reduceAdd, aconv, acvB, capR, acmpnil, appBox, storeB, ares1, appendTo, afill, aeqL, teset, e0, e1, rng1, hb1, List.length_append, List.length_cons, List.length_nil, Nat.zero_add]
        refine .inl ⟨k / 128, (div_lt hk).1, k / 128, ys ++ [.int .u8 ((128 + k % 128 : Nat) : Int)], _, rfl, ?_, rfl, .inr ⟨0, ?_, (setTok_self (newTok_tok0 _)).symm, by rw [hys]; rfl⟩, ?_, ?_, .inr (div_lt hk).2⟩
        · rw [quo128 hmn]
        · rw [u8rem hmn, hys]; rfl
        · rw [← hl, numA_big hk, List.append_assoc]; rfl
        · rw [List.length_append]; exact div_pow hb
    · simp only [aw0, aw1, aw2, aw3, aw4, aw5, aw6, aw7, ne_eq, eq_self, implies_true, imp_self, reduceIte, reduceCtorEq, Nat.reduceAdd, Nat.reduceLT, Nat.reduceLeDiff, Nat.reduceEqDiff, Nat.reduceSub, Nat.reduceMul, Nat.reduceBEq, Int.reduceBEq, Int.reduceBNe, Int.reduceLT, Int.reduceLE, Int.reduceGT, Int.reduceGE, Int.reduceNeg, Int.reduceEq, Int.reduceNe, Int.reduceToNat, Int.reduceAdd, aconv, acvB, capR, acmpnil, appBox, storeB, ares1, appendTo, afill, aeqL, teset, e0, e1]
      cases hc : decide ((k : Int) > 127) with
      | false =>
        have hk : ¬ 127 < k := fun h => by simp only [decide_eq_false_iff_not] at hc; exact hc (Int.ofNat_lt.2 h)
        simp only [aw0, aw1, aw2, aw3, aw4, aw5, aw6, aw7, ne_eq, eq_self, implies_true, imp_self, reduceIte, reduceCtorEq, Nat.reduceAdd, Nat.reduceLT, Nat.reduceLeDiff, Nat.reduceEqDiff, Nat.reduceSub, Nat.reduceMul, Nat.reduceBEq, Int.reduceBEq, Int.reduceBNe, Int.reduceLT, Int.reduceLE, Int.reduceGT, Int.reduceGE, Int.reduceNeg, Int.reduceEq, Int.reduceNe, Int.reduceToNat, Int.reduceAdd, aconv, acvB, capR, acmpnil, appBox, storeB, ares1, appendTo, afill, aeqL, teset, e0, e1, rng1, hbd, List.length_append, List.length_cons, List.length_nil, Nat.zero_add, newTok_nt]
        have hgl : (numA n).length - 1 = g2 + 1 := by rw [← hl, numA_small hk, List.length_append]; simp; omega
        rw [hgl]
        refine ⟨?_, by rw [setTok_setTok]⟩
        rw [u8small hk, ← hl, numA_small hk]
      | true =>
        have hk : 127 < k := by simp only [decide_eq_true_eq] at hc; exact Int.ofNat_lt.1 hc
        simp only [aw0, aw1, aw2, aw3, aw4, aw5, aw6, aw7, ne_eq, eq_self, implies_true, imp_self, reduceIte, reduceCtorEq, Nat.reduceAdd, Nat.reduceLT, Nat.reduceLeDiff, Nat.reduceEqDiff, Nat.reduceSub, Nat.reduceMul, Nat.reduceBEq, Int.reduceBEq, Int.reduceBNe, Int.reduceLT, Int.reduceLE, Int.reduceGT, Int.reduceGE, Int.reduceNeg, Int.reduceEq, Int.reduceNe, Int.reduceToNat, Int.reduceAdd, aconv, acvB, capR, acmpnil, appBox, storeB, ares1, appendTo, afill, aeqL, teset, e0, e1, rng1, hbd, List.length_append, List.length_cons, List.length_nil, Nat.zero_add, newTok_nt]
        refine ⟨k / 128, (div_lt hk).1, k / 128, ys ++ [.int .u8 ((128 + k % 128 : Nat) : Int)], _, rfl, ?_, rfl, .inr ⟨g2 + 1, ?_, by rw [setTok_setTok], by rw [List.length_append, hg2]; rfl⟩, ?_, ?_, .inr (div_lt hk).2⟩
        · rw [quo128 hmn]
        · rw [u8rem hmn]
        · rw [← hl, numA_big hk, List.append_assoc]; rfl
        · rw [List.length_append]; exact div_pow hb
end Go.Proofs.Ytlbhgoffiigfbaa.AW
end
section
set_option linter.unusedSimpArgs false
set_option linter.unusedVariables false
namespace Go.Proofs.Ytlbhgoffiigfbaa.AW
open Go Go.RowKit

def numS (n : Nat) : ByteArray := ⟨⟨(numL n).map UInt8.ofNat⟩⟩
theorem numL_lt : ∀ (n k : Nat), k ∈ numL n → k < 256 := by
  intro n
  induction n using Nat.strongRecOn with
  | ind n ih =>
    intro k hk
    by_cases h : 127 < n
    · rw [numL_big h] at hk
      rcases List.mem_cons.1 hk with rfl | hk
      · omega
      · exact ih (n / 128) (by omega) k hk
    · rw [numL_small h] at hk
      rcases List.mem_cons.1 hk with rfl | hk
      · omega
      · cases hk
theorem avB_map : ∀ (l : List Nat), (∀ k ∈ l, k < 256) → avB (l.map fun (k : Nat) => AV.int .u8 (k : Int)) = some (l.map UInt8.ofNat)
  | [], _ => rfl
  | k :: l, h => by
    have h1 := h k List.mem_cons_self
    have ih := avB_map l (fun z hz => h z (List.mem_cons_of_mem _ hz))
    simp only [List.map_cons, avB, ih, Int.toNat_natCast]
    rw [if_pos ⟨Int.natCast_nonneg k, by omega⟩]
theorem numA_cells (n : Nat) : (numA n).flatMap AV.cells = numA n := by
  unfold numA
  induction numL n with
  | nil => rfl
  | cons k l ih => rw [List.map_cons, List.flatMap_cons, ih]; rfl
theorem numA_str (n : Nat) : avB (numA n) = some ((numL n).map UInt8.ofNat) := avB_map _ (numL_lt n)
theorem numA_ne (n : Nat) : numA n ≠ [] := by
  by_cases h : 127 < n
  · rw [numA_big h]; simp
  · rw [numA_small h]; simp
def numberV (n : Int) : AV := if n < 0 then .tup [.str ⟨#[]⟩, .int .i64 3] else .tup [.str (numS n.toNat), .int .i64 0]
theorem number_pure (n : Int) (hn : n ≤ 9223372036854775807) : Pure Try.prog 10 [.int .i64 n] (numberV n) := by
  refine Pure.of0 ⟨Try.f10, Try.func10, rfl, by kernel_rfl⟩ rfl (by unfold numberV; split <;> rfl) ?_
  refine acalls_of te_ok [] Try.func10 (c := _) rfl (Nat.le_of_ble_eq_true rfl) ?_
  simp only [aw0, aw1, aw2, aw3, aw4, aw5, aw6, aw7, ne_eq, eq_self, implies_true, imp_self, reduceIte, reduceCtorEq, Nat.reduceAdd, Nat.reduceLT, Nat.reduceLeDiff, Nat.reduceEqDiff, Nat.reduceSub, Nat.reduceMul, Nat.reduceBEq, Int.reduceBEq, Int.reduceBNe, Int.reduceLT, Int.reduceLE, Int.reduceGT, Int.reduceGE, Int.reduceNeg, Int.reduceEq, Int.reduceNe, Int.reduceToNat, Int.reduceAdd, aconv, acvB, capR, acmpnil, appBox, storeB, ares1, appendTo, afill, aeqL, teset, Try.ntmps10, Try.results10, none_nb, none_box]
  unfold numberV
  cases hc : decide (n < 0) with
  | true =>
    simp only [decide_eq_true_eq] at hc
    simp only [aw0, aw1, aw2, aw3, aw4, aw5, aw6, aw7, ne_eq, eq_self, implies_true, imp_self, reduceIte, reduceCtorEq, Nat.reduceAdd, Nat.reduceLT, Nat.reduceLeDiff, Nat.reduceEqDiff, Nat.reduceSub, Nat.reduceMul, Nat.reduceBEq, Int.reduceBEq, Int.reduceBNe, Int.reduceLT, Int.reduceLE, Int.reduceGT, Int.reduceGE, Int.reduceNeg, Int.reduceEq, Int.reduceNe, Int.reduceToNat, Int.reduceAdd, aconv, acvB, capR, acmpnil, appBox, storeB, ares1, appendTo, afill, aeqL, teset]
    refine ⟨_, rfl, ?_⟩
    rw [if_pos hc]; exact .refl _ _
  | false =>
    simp only [decide_eq_false_iff_not] at hc
    obtain ⟨m, rfl⟩ : ∃ m : Nat, n = m := ⟨n.toNat, by omega⟩
    simp only [aw0, aw1, aw2, aw3, aw4, aw5, aw6, aw7, ne_eq, eq_self, implies_true, imp_self, reduceIte, reduceCtorEq, Nat.reduceAdd, Nat.reduceLT, Nat.reduceLeDiff, Nat.reduceEqDiff, Nat.reduceSub, Nat.reduceMul, Nat.reduceBEq, Int.reduceBEq, Int.reduceBNe, Int.reduceLT, Int.reduceLE, Int.reduceGT, Int.reduceGE, Int.reduceNeg, Int.reduceEq, Int.reduceNe, Int.reduceToNat, Int.reduceAdd, aconv, acvB, capR, acmpnil, appBox, storeB, ares1, appendTo, afill, aeqL, teset]
    refine ACallV.mono ?_ (ACallV.of ⟨Try.f22, Try.func22, rfl, by kernel_rfl⟩ (addnum_nil m (by omega) _))
    rintro out h' ⟨rfl, rfl⟩
    simp only [aw0, aw1, aw2, aw3, aw4, aw5, aw6, aw7, ne_eq, eq_self, implies_true, imp_self, reduceIte, reduceCtorEq, Nat.reduceAdd, Nat.reduceLT, Nat.reduceLeDiff, Nat.reduceEqDiff, Nat.reduceSub, Nat.reduceMul, Nat.reduceBEq, Int.reduceBEq, Int.reduceBNe, Int.reduceLT, Int.reduceLE, Int.reduceGT, Int.reduceGE, Int.reduceNeg, Int.reduceEq, Int.reduceNe, Int.reduceToNat, Int.reduceAdd, aconv, acvB, capR, acmpnil, appBox, storeB, ares1, appendTo, afill, aeqL, teset, callK_ret, cellsOf, or_true, numA_cells, numA_str]
    refine ⟨_, rfl, ?_⟩
    rw [if_neg hc, Int.toNat_natCast]; exact .refl _ _
set_option maxHeartbeats 4000000 in
theorem count_pure (n : Nat) (hn : n < 9223372036854775808) : Pure Try.prog 23 [.int .i64 n] (.str (numS n)) := by
  refine Pure.of0 ⟨Try.f23, Try.func23, rfl, by kernel_rfl⟩ rfl rfl ?_
  refine acalls_of te_ok [] Try.func23 (c := _) rfl (Nat.le_of_ble_eq_true rfl) ?_
  simp only [aw0, aw1, aw2, aw3, aw4, aw5, aw6, aw7, ne_eq, eq_self, implies_true, imp_self, reduceIte, reduceCtorEq, Nat.reduceAdd, Nat.reduceLT, Nat.reduceLeDiff, Nat.reduceEqDiff, Nat.reduceSub, Nat.reduceMul, Nat.reduceBEq, Int.reduceBEq, Int.reduceBNe, Int.reduceLT, Int.reduceLE, Int.reduceGT, Int.reduceGE, Int.reduceNeg, Int.reduceEq, Int.reduceNe, Int.reduceToNat, Int.reduceAdd, aconv, acvB, capR, acmpnil, appBox, storeB, ares1, appendTo, afill, aeqL, teset, Try.ntmps23, Try.results23, none_nb, none_box]
  refine ⟨fun k s' h' => ∃ (m : Nat) (ys : List AV) (a : AV), s' 3 = a ∧ s' 0 = .int .i64 m ∧ k = m ∧ (ys = [] ∧ a = .sl .full 0 [] ∧ h'.nt = 0 ∨ ∃ g2, a = .sl (.tok 0 g2) 1 ys ∧ h'.tok 0 = some g2) ∧ ys ++ numA m = numA n ∧ m * 128 ^ ys.length ≤ n ∧ (ys = [] ∨ 1 ≤ m), ⟨n, n, [], .sl .full 0 [], ?_⟩, ?_⟩
  · simp only [aw0, aw1, aw2, aw3, aw4, aw5, aw6, aw7, ne_eq, eq_self, implies_true, imp_self, reduceIte, reduceCtorEq, Nat.reduceAdd, Nat.reduceLT, Nat.reduceLeDiff, Nat.reduceEqDiff, Nat.reduceSub, Nat.reduceMul, Nat.reduceBEq, Int.reduceBEq, Int.reduceBNe, Int.reduceLT, Int.reduceLE, Int.reduceGT, Int.reduceGE, Int.reduceNeg, Int.reduceEq, Int.reduceNe, Int.reduceToNat, Int.reduceAdd, aconv, acvB, capR, acmpnil, appBox, storeB, ares1, appendTo, afill, aeqL, teset, List.append_nil, List.nil_append, none_nt]
    first | exact Nat.le_of_eq (Nat.mul_one n) | trivial
  · rintro k s' h' ⟨m, ys, a, e3, e0, rfl, hcase, hl, hb, hm1⟩
    have hmn : k < 9223372036854775808 := Nat.lt_of_le_of_lt (Nat.le_trans (Nat.le_mul_of_pos_right k (Nat.pow_pos (by decide))) hb) hn
    have hl9 : ys.length < 9 := len9 hb hn (hm1.imp (fun h => by rw [h]; rfl) id)
    have hbd := bnd1 (a := 0) (by decide) hl9
    rw [Nat.zero_add] at hbd
    have hb1 : (0 + 1) * 1 ≤ 140737488355328 := by decide
    rcases hcase with ⟨hys, rfl, hnt⟩ | ⟨g2, rfl, htk⟩
    · simp only [aw0, aw1, aw2, aw3, aw4, aw5, aw6, aw7, ne_eq, eq_self, implies_true, imp_self, reduceIte, reduceCtorEq, Nat.reduceAdd, Nat.reduceLT, Nat.reduceLeDiff, Nat.reduceEqDiff, Nat.reduceSub, Nat.reduceMul, Nat.reduceBEq, Int.reduceBEq, Int.reduceBNe, Int.reduceLT, Int.reduceLE, Int.reduceGT, Int.reduceGE, Int.reduceNeg, Int.reduceEq, Int.reduceNe, Int.reduceToNat, Int.reduceAdd, aconv, acvB, capR, acmpnil, appBox, storeB, ares1, appendTo, afill, aeqL, teset, e0, e3]
      cases hc : decide ((k : Int) > 127) with
      | false =>
        have hk : ¬ 127 < k := fun h => by simp only [decide_eq_false_iff_not] at hc; exact hc (Int.ofNat_lt.2 h)
        have hA : [AV.int IntKind.u8 (IntKind.u8.wrap (k : Int))] = numA n := by rw [u8small hk, ← hl, numA_small hk, hys]; rfl
        have hF : List.flatMap AV.cells [AV.int IntKind.u8 (IntKind.u8.wrap (k : Int))] = numA n := hA
        simp only [aw0, aw1, aw2, aw3, aw4, aw5, aw6, aw7, ne_eq, eq_self, implies_true, imp_self, reduceIte, reduceCtorEq, Nat.reduceAdd, Nat.reduceLT, Nat.reduceLeDiff, Nat.reduceEqDiff, Nat.reduceSub, Nat.reduceMul, Nat.reduceBEq, Int.reduceBEq, Int.reduceBNe, Int.reduceLT, Int.reduceLE, Int.reduceGT, Int.reduceGE, Int.reduceNeg, Int.reduceEq, Int.reduceNe, Int.reduceToNat, Int.reduceAdd, aconv, acvB, capR, acmpnil, appBox, storeB, ares1, appendTo, afill, aeqL, teset, e0, e3, rng1, hb1, List.length_append, List.length_cons, List.length_nil, Nat.zero_add, cellsOf, or_true, hF, numA_str, hnt]
        first | exact .inl ⟨_, rfl, .refl _ _⟩ | exact ⟨_, rfl, .refl _ _⟩
      | true =>
        have hk : 127 < k := by simp only [decide_eq_true_eq] at hc; exact Int.ofNat_lt.1 hc
        simp only [aw0, aw1, aw2, aw3, aw4, aw5, aw6, aw7, ne_eq, eq_self, implies_true, imp_self, reduceIte, reduceCtorEq, Nat.reduceAdd, Nat.reduceLT, Nat.reduceLeDiff, Nat.reduceEqDiff, Nat.reduceSub, Nat.reduceMul, Nat.reduceBEq, Int.reduceBEq, Int.reduceBNe, Int.reduceLT, Int.reduceLE, Int.reduceGT, Int.reduceGE, Int.reduceNeg, Int.reduceEq, Int.reduceNe, Int.reduceToNat, Int.reduceAdd, aconv, acvB, capR, acmpnil, appBox, storeB, ares1, appendTo, afill, aeqL, teset, e0, e3, rng1, hb1, List.length_append, List.length_cons, List.length_nil, Nat.zero_add, hnt]
        refine .inl ⟨k / 128, (div_lt hk).1, k / 128, ys ++ [.int .u8 ((128 + k % 128 : Nat) : Int)], _, rfl, ?_, rfl, .inr ⟨0, ?_, rfl⟩, ?_, ?_, .inr (div_lt hk).2⟩
        · rw [quo128 hmn]
        · rw [u8rem hmn, hys]; rfl
        · rw [← hl, numA_big hk, List.append_assoc]; rfl
        · rw [List.length_append]; exact div_pow hb
    · simp only [aw0, aw1, aw2, aw3, aw4, aw5, aw6, aw7, ne_eq, eq_self, implies_true, imp_self, reduceIte, reduceCtorEq, Nat.reduceAdd, Nat.reduceLT, Nat.reduceLeDiff, Nat.reduceEqDiff, Nat.reduceSub, Nat.reduceMul, Nat.reduceBEq, Int.reduceBEq, Int.reduceBNe, Int.reduceLT, Int.reduceLE, Int.reduceGT, Int.reduceGE, Int.reduceNeg, Int.reduceEq, Int.reduceNe, Int.reduceToNat, Int.reduceAdd, aconv, acvB, capR, acmpnil, appBox, storeB, ares1, appendTo, afill, aeqL, teset, e0, e3]
      cases hc : decide ((k : Int) > 127) with
      | false =>
        have hk : ¬ 127 < k := fun h => by simp only [decide_eq_false_iff_not] at hc; exact hc (Int.ofNat_lt.2 h)
        have hA : ys ++ [AV.int IntKind.u8 (IntKind.u8.wrap (k : Int))] = numA n := by rw [u8small hk, ← hl, numA_small hk]
        simp only [aw0, aw1, aw2, aw3, aw4, aw5, aw6, aw7, ne_eq, eq_self, implies_true, imp_self, reduceIte, reduceCtorEq, Nat.reduceAdd, Nat.reduceLT, Nat.reduceLeDiff, Nat.reduceEqDiff, Nat.reduceSub, Nat.reduceMul, Nat.reduceBEq, Int.reduceBEq, Int.reduceBNe, Int.reduceLT, Int.reduceLE, Int.reduceGT, Int.reduceGE, Int.reduceNeg, Int.reduceEq, Int.reduceNe, Int.reduceToNat, Int.reduceAdd, aconv, acvB, capR, acmpnil, appBox, storeB, ares1, appendTo, afill, aeqL, teset, e0, e3, rng1, hbd, htk, List.length_append, List.length_cons, List.length_nil, Nat.zero_add, cellsOf, or_true, hA, numA_cells, numA_str]
        exact ⟨_, rfl, .refl _ _⟩
      | true =>
        have hk : 127 < k := by simp only [decide_eq_true_eq] at hc; exact Int.ofNat_lt.1 hc
        simp only [aw0, aw1, aw2, aw3, aw4, aw5, aw6, aw7, ne_eq, eq_self, implies_true, imp_self, reduceIte, reduceCtorEq, Nat.reduceAdd, Nat.reduceLT, Nat.reduceLeDiff, Nat.reduceEqDiff, Nat.reduceSub, Nat.reduceMul, Nat.reduceBEq, Int.reduceBEq, Int.reduceBNe, Int.reduceLT, Int.reduceLE, Int.reduceGT, Int.reduceGE, Int.reduceNeg, Int.reduceEq, Int.reduceNe, Int.reduceToNat, Int.reduceAdd, aconv, acvB, capR, acmpnil, appBox, storeB, ares1, appendTo, afill, aeqL, teset, e0, e3, rng1, hbd, htk, List.length_append, List.length_cons, List.length_nil, Nat.zero_add]
        refine ⟨k / 128, (div_lt hk).1, k / 128, ys ++ [.int .u8 ((128 + k % 128 : Nat) : Int)], _, rfl, ?_, rfl, .inr ⟨g2 + 1, ?_, rfl⟩, ?_, ?_, .inr (div_lt hk).2⟩
        · rw [quo128 hmn]
        · rw [u8rem hmn]
        · rw [← hl, numA_big hk, List.append_assoc]; rfl
        · rw [List.length_append]; exact div_pow hb
theorem refnumber_pure (n : Int) (hn : n ≤ 9223372036854775807) : Pure Try.prog 11 [.int .i64 n] (numberV n) := by
  refine Pure.of0 ⟨Try.f11, Try.func11, rfl, by kernel_rfl⟩ rfl (by unfold numberV; split <;> rfl) ?_
  refine acalls_of te_ok [] Try.func11 (c := _) rfl (Nat.le_of_ble_eq_true rfl) ?_
  simp only [aw0, aw1, aw2, aw3, aw4, aw5, aw6, aw7, ne_eq, eq_self, implies_true, imp_self, reduceIte, reduceCtorEq, Nat.reduceAdd, Nat.reduceLT, Nat.reduceLeDiff, Nat.reduceEqDiff, Nat.reduceSub, Nat.reduceMul, Nat.reduceBEq, Int.reduceBEq, Int.reduceBNe, Int.reduceLT, Int.reduceLE, Int.reduceGT, Int.reduceGE, Int.reduceNeg, Int.reduceEq, Int.reduceNe, Int.reduceToNat, Int.reduceAdd, aconv, acvB, capR, acmpnil, appBox, storeB, ares1, appendTo, afill, aeqL, teset, Try.ntmps11, Try.results11, none_nb, none_box]
  unfold numberV
  cases hc : decide (n < 0) with
  | true =>
    simp only [decide_eq_true_eq] at hc
    simp only [aw0, aw1, aw2, aw3, aw4, aw5, aw6, aw7, ne_eq, eq_self, implies_true, imp_self, reduceIte, reduceCtorEq, Nat.reduceAdd, Nat.reduceLT, Nat.reduceLeDiff, Nat.reduceEqDiff, Nat.reduceSub, Nat.reduceMul, Nat.reduceBEq, Int.reduceBEq, Int.reduceBNe, Int.reduceLT, Int.reduceLE, Int.reduceGT, Int.reduceGE, Int.reduceNeg, Int.reduceEq, Int.reduceNe, Int.reduceToNat, Int.reduceAdd, aconv, acvB, capR, acmpnil, appBox, storeB, ares1, appendTo, afill, aeqL, teset]
    refine ⟨_, rfl, ?_⟩
    rw [if_pos hc]; exact .refl _ _
  | false =>
    simp only [decide_eq_false_iff_not] at hc
    obtain ⟨m, rfl⟩ : ∃ m : Nat, n = m := ⟨n.toNat, by omega⟩
    simp only [aw0, aw1, aw2, aw3, aw4, aw5, aw6, aw7, ne_eq, eq_self, implies_true, imp_self, reduceIte, reduceCtorEq, Nat.reduceAdd, Nat.reduceLT, Nat.reduceLeDiff, Nat.reduceEqDiff, Nat.reduceSub, Nat.reduceMul, Nat.reduceBEq, Int.reduceBEq, Int.reduceBNe, Int.reduceLT, Int.reduceLE, Int.reduceGT, Int.reduceGE, Int.reduceNeg, Int.reduceEq, Int.reduceNe, Int.reduceToNat, Int.reduceAdd, aconv, acvB, capR, acmpnil, appBox, storeB, ares1, appendTo, afill, aeqL, teset]
    refine ACallV.pure (count_pure m (by omega)) ?_
    simp only [aw0, aw1, aw2, aw3, aw4, aw5, aw6, aw7, ne_eq, eq_self, implies_true, imp_self, reduceIte, reduceCtorEq, Nat.reduceAdd, Nat.reduceLT, Nat.reduceLeDiff, Nat.reduceEqDiff, Nat.reduceSub, Nat.reduceMul, Nat.reduceBEq, Int.reduceBEq, Int.reduceBNe, Int.reduceLT, Int.reduceLE, Int.reduceGT, Int.reduceGE, Int.reduceNeg, Int.reduceEq, Int.reduceNe, Int.reduceToNat, Int.reduceAdd, aconv, acvB, capR, acmpnil, appBox, storeB, ares1, appendTo, afill, aeqL, teset]
    refine ⟨_, rfl, ?_⟩
    rw [if_neg hc, Int.toNat_natCast]; exact .refl _ _
end Go.Proofs.Ytlbhgoffiigfbaa.AW
end
section
set_option linter.unusedSimpArgs false
set_option linter.unusedVariables false
namespace Go.Proofs.Ytlbhgoffiigfbaa.AW
open Go Go.RowKit

/-- The number under which an int is written. -/
def zig (i : Int) : Nat := if i < 0 then (-2 * i - 1).toNat else (2 * i).toNat
theorem zig_lt {i : Int} (h1 : -1000000000000000000 ≤ i) (h2 : i ≤ 1000000000000000000) : zig i < 9223372036854775808 := by unfold zig; split <;> omega
theorem numA_len (n : Nat) (hn : n < 9223372036854775808) : (numA n).length ≤ 9 := by
  have key : ∀ (k n : Nat), n < 128 ^ (k + 1) → (numL n).length ≤ k + 1 := by
    intro k
    induction k with
    | zero => intro n h; rw [numL_small (by omega)]; exact Nat.le_refl _
    | succ k ih =>
      intro n h
      by_cases hb : 127 < n
      · rw [numL_big hb]
        have := ih (n / 128) (by rw [Nat.div_lt_iff_lt_mul (by decide)]; rwa [Nat.pow_succ] at h)
        simp only [List.length_cons]; omega
      · rw [numL_small hb]; simp
  have := key 8 n (Nat.lt_of_lt_of_le hn (by decide))
  unfold numA
  rw [List.length_map]; exact this
theorem addint_tok (xs : List AV) (i : Int) (t g : Nat) (h1 : -1000000000000000000 ≤ i) (h2 : i ≤ 1000000000000000000) (hx : xs.length < 1000000000) (h : AH) (ht : h.tok t = some g) :
    ACalls Try.prog 78 [.sl (.tok t g) 1 xs, .int .i64 i] h fun out h' => out = .ret (.sl (.tok t (g + (numA (zig i)).length)) 1 (xs ++ numA (zig i))) ∧ h' = h.setTok t (g + (numA (zig i)).length) := by
  refine acalls_of te_ok [] Try.func78 (c := _) rfl (Nat.le_of_ble_eq_true rfl) ?_
  simp only [aw0, aw1, aw2, aw3, aw4, aw5, aw6, aw7, ne_eq, eq_self, implies_true, imp_self, reduceIte, reduceCtorEq, Nat.reduceAdd, Nat.reduceLT, Nat.reduceLeDiff, Nat.reduceEqDiff, Nat.reduceSub, Nat.reduceMul, Nat.reduceBEq, Int.reduceBEq, Int.reduceBNe, Int.reduceLT, Int.reduceLE, Int.reduceGT, Int.reduceGE, Int.reduceNeg, Int.reduceEq, Int.reduceNe, Int.reduceToNat, Int.reduceAdd, aconv, acvB, capR, acmpnil, appBox, storeB, ares1, appendTo, afill, aeqL, teset, Try.ntmps78, Try.results78]
  have hz := zig_lt h1 h2
  cases hc : decide (i < 0) with
  | true =>
    simp only [decide_eq_true_eq] at hc
    have hw : IntKind.i64.wrap (IntKind.i64.wrap (-2 * i) - 1) = (zig i : Int) := by
      rw [wrapS (n := -2 * i) (by omega) (by omega), wrapS (by omega) (by omega)]
      unfold zig; rw [if_pos hc]; omega
    simp only [aw0, aw1, aw2, aw3, aw4, aw5, aw6, aw7, ne_eq, eq_self, implies_true, imp_self, reduceIte, reduceCtorEq, Nat.reduceAdd, Nat.reduceLT, Nat.reduceLeDiff, Nat.reduceEqDiff, Nat.reduceSub, Nat.reduceMul, Nat.reduceBEq, Int.reduceBEq, Int.reduceBNe, Int.reduceLT, Int.reduceLE, Int.reduceGT, Int.reduceGE, Int.reduceNeg, Int.reduceEq, Int.reduceNe, Int.reduceToNat, Int.reduceAdd, aconv, acvB, capR, acmpnil, appBox, storeB, ares1, appendTo, afill, aeqL, teset, hw]
    refine ACallV.mono ?_ (ACallV.of ⟨Try.f22, Try.func22, rfl, by kernel_rfl⟩ (addnum_tok xs (zig i) t g hz hx h ht))
    rintro out h' ⟨rfl, rfl⟩
    simp only [aw0, aw1, aw2, aw3, aw4, aw5, aw6, aw7, ne_eq, eq_self, implies_true, imp_self, reduceIte, reduceCtorEq, Nat.reduceAdd, Nat.reduceLT, Nat.reduceLeDiff, Nat.reduceEqDiff, Nat.reduceSub, Nat.reduceMul, Nat.reduceBEq, Int.reduceBEq, Int.reduceBNe, Int.reduceLT, Int.reduceLE, Int.reduceGT, Int.reduceGE, Int.reduceNeg, Int.reduceEq, Int.reduceNe, Int.reduceToNat, Int.reduceAdd, aconv, acvB, capR, acmpnil, appBox, storeB, ares1, appendTo, afill, aeqL, teset, callK_ret]
  | false =>
    simp only [decide_eq_false_iff_not] at hc
    have hw : IntKind.i64.wrap (2 * i) = (zig i : Int) := by
      rw [wrapS (by omega) (by omega)]
      unfold zig; rw [if_neg hc]; omega
    simp only [aw0, aw1, aw2, aw3, aw4, aw5, aw6, aw7, ne_eq, eq_self, implies_true, imp_self, reduceIte, reduceCtorEq, Nat.reduceAdd, Nat.reduceLT, Nat.reduceLeDiff, Nat.reduceEqDiff, Nat.reduceSub, Nat.reduceMul, Nat.reduceBEq, Int.reduceBEq, Int.reduceBNe, Int.reduceLT, Int.reduceLE, Int.reduceGT, Int.reduceGE, Int.reduceNeg, Int.reduceEq, Int.reduceNe, Int.reduceToNat, Int.reduceAdd, aconv, acvB, capR, acmpnil, appBox, storeB, ares1, appendTo, afill, aeqL, teset, hw]
    refine ACallV.mono ?_ (ACallV.of ⟨Try.f22, Try.func22, rfl, by kernel_rfl⟩ (addnum_tok xs (zig i) t g hz hx h ht))
    rintro out h' ⟨rfl, rfl⟩
    simp only [aw0, aw1, aw2, aw3, aw4, aw5, aw6, aw7, ne_eq, eq_self, implies_true, imp_self, reduceIte, reduceCtorEq, Nat.reduceAdd, Nat.reduceLT, Nat.reduceLeDiff, Nat.reduceEqDiff, Nat.reduceSub, Nat.reduceMul, Nat.reduceBEq, Int.reduceBEq, Int.reduceBNe, Int.reduceLT, Int.reduceLE, Int.reduceGT, Int.reduceGE, Int.reduceNeg, Int.reduceEq, Int.reduceNe, Int.reduceToNat, Int.reduceAdd, aconv, acvB, capR, acmpnil, appBox, storeB, ares1, appendTo, afill, aeqL, teset, callK_ret]
/-- A text's bytes. -/
def strA (s : ByteArray) : List AV := numA s.size ++ s.data.toList.map fun (b : UInt8) => AV.int .u8 (b.toNat : Int)
def strG (s : ByteArray) : Nat := (numA s.size).length + if s.size = 0 then 0 else 1
theorem addtext_tok (xs : List AV) (s : ByteArray) (t g : Nat) (hs : s.size < 1000000000) (hx : xs.length < 1000000000) (h : AH) (ht : h.tok t = some g) :
    ACalls Try.prog 79 [.sl (.tok t g) 1 xs, .str s] h fun out h' => out = .ret (.sl (.tok t (g + strG s)) 1 (xs ++ strA s)) ∧ h' = h.setTok t (g + strG s) := by
  refine acalls_of te_ok [] Try.func79 (c := _) rfl (Nat.le_of_ble_eq_true rfl) ?_
  simp only [aw0, aw1, aw2, aw3, aw4, aw5, aw6, aw7, ne_eq, eq_self, implies_true, imp_self, reduceIte, reduceCtorEq, Nat.reduceAdd, Nat.reduceLT, Nat.reduceLeDiff, Nat.reduceEqDiff, Nat.reduceSub, Nat.reduceMul, Nat.reduceBEq, Int.reduceBEq, Int.reduceBNe, Int.reduceLT, Int.reduceLE, Int.reduceGT, Int.reduceGE, Int.reduceNeg, Int.reduceEq, Int.reduceNe, Int.reduceToNat, Int.reduceAdd, aconv, acvB, capR, acmpnil, appBox, storeB, ares1, appendTo, afill, aeqL, teset, Try.ntmps79, Try.results79]
  refine ACallV.mono ?_ (ACallV.of ⟨Try.f22, Try.func22, rfl, by kernel_rfl⟩ (addnum_tok xs s.size t g (by omega) hx h ht))
  rintro out h' ⟨rfl, rfl⟩
  have hnl := numA_len s.size (by omega)
  have hlen : s.data.toList.length = s.size := by simp
  have hbd : ((xs ++ numA s.size).length + (s.data.toList.map fun (b : UInt8) => AV.int .u8 (b.toNat : Int)).length) * 1 ≤ 140737488355328 := by
    rw [List.length_append, List.length_map, hlen]; omega
  cases hl : s.data.toList with
  | nil =>
    have h0 : s.size = 0 := by rw [hl] at hlen; exact hlen.symm
    rw [hl] at hbd
    simp only [List.map_nil, List.length_nil, Nat.add_zero] at hbd
    simp only [aw0, aw1, aw2, aw3, aw4, aw5, aw6, aw7, ne_eq, eq_self, implies_true, imp_self, reduceIte, reduceCtorEq, Nat.reduceAdd, Nat.reduceLT, Nat.reduceLeDiff, Nat.reduceEqDiff, Nat.reduceSub, Nat.reduceMul, Nat.reduceBEq, Int.reduceBEq, Int.reduceBNe, Int.reduceLT, Int.reduceLE, Int.reduceGT, Int.reduceGE, Int.reduceNeg, Int.reduceEq, Int.reduceNe, Int.reduceToNat, Int.reduceAdd, aconv, acvB, capR, acmpnil, appBox, storeB, ares1, appendTo, afill, aeqL, teset, callK_ret, hbd, hl, List.map_nil]
    unfold strA strG
    rw [hl, if_pos h0]
    exact ⟨by simp, rfl⟩
  | cons x l =>
    have h0 : ¬ s.size = 0 := by rw [hl] at hlen; simp at hlen; omega
    rw [hl] at hbd
    simp only [List.map_cons, List.length_cons] at hbd
    simp only [aw0, aw1, aw2, aw3, aw4, aw5, aw6, aw7, ne_eq, eq_self, implies_true, imp_self, reduceIte, reduceCtorEq, Nat.reduceAdd, Nat.reduceLT, Nat.reduceLeDiff, Nat.reduceEqDiff, Nat.reduceSub, Nat.reduceMul, Nat.reduceBEq, Int.reduceBEq, Int.reduceBNe, Int.reduceLT, Int.reduceLE, Int.reduceGT, Int.reduceGE, Int.reduceNeg, Int.reduceEq, Int.reduceNe, Int.reduceToNat, Int.reduceAdd, aconv, acvB, capR, acmpnil, appBox, storeB, ares1, appendTo, afill, aeqL, teset, callK_ret, hbd, hl, List.map_cons]
    unfold strA strG
    rw [hl, if_neg h0]
    exact ⟨by simp [Nat.add_assoc], by rw [setTok_setTok, Nat.add_assoc]⟩
end Go.Proofs.Ytlbhgoffiigfbaa.AW
end
section
set_option linter.unusedSimpArgs false
set_option linter.unusedVariables false
namespace Go.Proofs.Ytlbhgoffiigfbaa.AW
open Go Go.RowKit

mutual
/-- The bytes of a value. -/
def valA : V → List AV
  | .mk k i t xs ks => .int .u8 (IntKind.u8.wrap k) :: (if k = 1 then [.int .u8 (IntKind.u8.wrap i)] else if k = 2 then numA (zig i) else if k = 3 then strA t else if k = 4 ∨ k = 5 then numA xs.length ++ valL (k == 5) xs ks else [])
def valL : Bool → List V → List ByteArray → List AV
  | _, [], _ => []
  | true, x :: xs, k :: ks => strA k ++ (valA x ++ valL true xs ks)
  | true, _ :: _, [] => []
  | false, x :: xs, ks => valA x ++ valL false xs ks
end
mutual
/-- How often they are appended to. -/
def valG : V → Nat
  | .mk k i t xs ks => 1 + (if k = 1 then 1 else if k = 2 then (numA (zig i)).length else if k = 3 then strG t else if k = 4 ∨ k = 5 then (numA xs.length).length + valGL (k == 5) xs ks else 0)
def valGL : Bool → List V → List ByteArray → Nat
  | _, [], _ => 0
  | true, x :: xs, k :: ks => strG k + (valG x + valGL true xs ks)
  | true, _ :: _, [] => 0
  | false, x :: xs, ks => valG x + valGL false xs ks
end
mutual
/-- What can be written. -/
def V.wr : V → Prop
  | .mk k i t xs ks => (-1000000000000000000 ≤ i ∧ i ≤ 1000000000000000000) ∧ t.size < 1000000000 ∧ xs.length < 1000000000 ∧ (k = 5 → ks.length = xs.length) ∧ (∀ k ∈ ks, k.size < 1000000000) ∧ V.wrL xs
def V.wrL : List V → Prop
  | [] => True
  | x :: xs => x.wr ∧ V.wrL xs
end
theorem V.wrL_iff {xs : List V} : V.wrL xs ↔ ∀ x ∈ xs, x.wr := by
  induction xs with
  | nil => simp [V.wrL]
  | cons x xs ih => simp [V.wrL, ih]
mutual
theorem V.ind2 {p : V → Prop} (h : ∀ k i t xs ks, (∀ x ∈ xs, p x) → p (.mk k i t xs ks)) : ∀ v, p v
  | .mk k i t xs ks => h k i t xs ks (V.ind2L h xs)
theorem V.ind2L {p : V → Prop} (h : ∀ k i t xs ks, (∀ x ∈ xs, p x) → p (.mk k i t xs ks)) : ∀ xs : List V, ∀ x ∈ xs, p x
  | [], x, hx => by cases hx
  | y :: ys, x, hx => by
    rcases List.mem_cons.1 hx with e | hx
    · rw [e]; exact V.ind2 h y
    · exact V.ind2L h ys x hx
end
/-- A heap that differs from another one in a row's generation and in what is new. -/
structure CutT (h h2 : AH) (t G : Nat) : Prop where
  box : ∀ b, b < h.nb → h2.box b = h.box b
  tok : h2.tok t = some G
  toks : ∀ t', t' ≠ t → h2.tok t' = h.tok t'
theorem under_bytes {nb nt : Nat} : ∀ l : List AV, (∀ x ∈ l, ∃ n, x = .int .u8 n) → AV.underL nb nt l = true
  | [], _ => rfl
  | x :: l, h => by
    obtain ⟨n, rfl⟩ := h x List.mem_cons_self
    simp only [AV.underL, AV.under, Bool.true_and]
    exact under_bytes l fun z hz => h z (List.mem_cons_of_mem _ hz)
theorem ACalls.cutT {P : Program} {f : FuncId} {args : List AV} {h : AH} {t g G : Nat} {ys : List AV} (ht : h.tok t = some g) (hu : ∀ nb nt, AV.underL nb nt ys = true) (hc : ACalls P f args h fun out h2 => out = .ret (.sl (.tok t G) 1 ys) ∧ CutT h h2 t G) :
    ACalls P f args h fun out h' => out = .ret (.sl (.tok t G) 1 ys) ∧ h' = h.setTok t G := by
  refine hc.cut fun hs out h2 ⟨e, hq⟩ => ⟨out, h.setTok t G, .inl rfl, ?_, ⟨rfl, rfl, fun b cs hb => ?_, fun t' g' ht' => ?_⟩, e, rfl⟩
  · rw [e]
    simp only [AOut.under, AV.under, hu, Bool.and_true, decide_eq_true_eq]
    exact hs.tok t g ht
  · have hb' : h.box b = some cs := hb
    exact ⟨by rw [hq.box b (hs.box b cs hb')]; exact hb', .inl hb'⟩
  · rw [setTok_tok] at ht'
    split at ht'
    · next e2 => subst e2; rw [hq.tok]; exact ⟨ht', hs.tok t' g ht⟩
    · next e2 => rw [hq.toks t' e2]; exact ⟨ht', hs.tok t' g' ht'⟩
theorem CutT.leaf {h : AH} {cs : List AV} {t G : Nat} : CutT h ((h.new cs).setTok t G) t G := by
  refine ⟨fun b hb => ?_, ?_, fun t' ht' => ?_⟩
  · rw [setTok_box, new_box, if_neg (by omega)]
  · rw [setTok_tok, if_pos rfl]
  · rw [setTok_tok, if_neg ht', new_tok]
/-- The heap in the loop. -/
structure LoopH (h h' : AH) (cells : List AV) (t G : Nat) : Prop where
  tok : h'.tok t = some G
  box0 : h'.box h.nb = some cells
  box : ∀ b, b < h.nb → h'.box b = h.box b
  toks : ∀ t', t' ≠ t → h'.tok t' = h.tok t'
  nb : h.nb < h'.nb
theorem LoopH.cut {h h' : AH} {cells : List AV} {t G : Nat} (l : LoopH h h' cells t G) : CutT h h' t G := ⟨l.box, l.tok, l.toks⟩
theorem LoopH.start {h : AH} {cells : List AV} {t G : Nat} : LoopH h ((h.new cells).setTok t G) cells t G := by
  refine ⟨?_, ?_, fun b hb => ?_, fun t' ht' => ?_, ?_⟩
  · rw [setTok_tok, if_pos rfl]
  · rw [setTok_box, new_box, if_pos rfl]
  · rw [setTok_box, new_box, if_neg (by omega)]
  · rw [setTok_tok, if_neg ht', new_tok]
  · rw [setTok_nb, new_nb]; omega
theorem LoopH.new {h h' : AH} {cells cs : List AV} {t G : Nat} (l : LoopH h h' cells t G) : LoopH h (h'.new cs) cells t G := by
  have := l.nb
  refine ⟨l.tok, ?_, fun b hb => ?_, l.toks, ?_⟩
  · rw [new_box, if_neg (by omega)]; exact l.box0
  · rw [new_box, if_neg (by omega)]; exact l.box b hb
  · rw [new_nb]; omega
theorem LoopH.set {h h' : AH} {cells cs : List AV} {t G : Nat} (l : LoopH h h' cells t G) {b : Nat} (hb : h.nb < b) : LoopH h (h'.set b cs) cells t G := by
  have := l.nb
  refine ⟨l.tok, ?_, fun c hc => ?_, l.toks, ?_⟩
  · rw [set_box, if_neg (by omega)]; exact l.box0
  · rw [set_box, if_neg (by omega)]; exact l.box c hc
  · rw [set_nb]; omega
theorem LoopH.step {h h' : AH} {cells : List AV} {t G G' : Nat} (l : LoopH h h' cells t G) : LoopH h (h'.setTok t G') cells t G' := by
  refine ⟨?_, l.box0, l.box, fun t' ht' => ?_, l.nb⟩
  · rw [setTok_tok, if_pos rfl]
  · rw [setTok_tok, if_neg ht']; exact l.toks t' ht'
theorem underL_left {nb nt : Nat} {a b : List AV} (h : AV.underL nb nt (a ++ b) = true) : AV.underL nb nt a = true := by
  induction a with
  | nil => rfl
  | cons x a ih =>
    simp only [List.cons_append, AV.underL, Bool.and_eq_true] at h ⊢
    exact ⟨h.1, ih h.2⟩
theorem valL_ks (xs : List V) (a b : List ByteArray) : valL false xs a = valL false xs b := by
  induction xs with
  | nil => simp [valL]
  | cons x xs ih => simp [valL, ih]
theorem valGL_ks (xs : List V) (a b : List ByteArray) : valGL false xs a = valGL false xs b := by
  induction xs with
  | nil => simp [valGL]
  | cons x xs ih => simp [valGL, ih]
theorem valL_f {xs : List V} {j : Nat} (hj : j < xs.length) (a b : List ByteArray) : valL false (xs.drop j) a = valA xs[j] ++ valL false (xs.drop (j + 1)) b := by
  rw [List.drop_eq_getElem_cons hj, valL, valL_ks _ a b]
theorem valGL_f {xs : List V} {j : Nat} (hj : j < xs.length) (a b : List ByteArray) : valGL false (xs.drop j) a = valG xs[j] + valGL false (xs.drop (j + 1)) b := by
  rw [List.drop_eq_getElem_cons hj, valGL, valGL_ks _ a b]
theorem valL_t {xs : List V} {ks : List ByteArray} {j : Nat} (hj : j < xs.length) (hk : j < ks.length) : valL true (xs.drop j) (ks.drop j) = strA ks[j] ++ (valA xs[j] ++ valL true (xs.drop (j + 1)) (ks.drop (j + 1))) := by
  rw [List.drop_eq_getElem_cons hj, List.drop_eq_getElem_cons hk, valL]
theorem valGL_t {xs : List V} {ks : List ByteArray} {j : Nat} (hj : j < xs.length) (hk : j < ks.length) : valGL true (xs.drop j) (ks.drop j) = strG ks[j] + (valG xs[j] + valGL true (xs.drop (j + 1)) (ks.drop (j + 1))) := by
  rw [List.drop_eq_getElem_cons hj, List.drop_eq_getElem_cons hk, valGL]
theorem loopN {n j m : Nat} (h : n + j = m) (hj : j < m) : n - 1 < n ∧ n - 1 + (j + 1) = m := by omega
theorem natLt {a b : Nat} (h : (a : Int) < (b : Int)) : a < b := Int.ofNat_lt.1 h
set_option maxHeartbeats 8000000 in
theorem addvalue_tok : ∀ v : V, v.wr → ∀ (xs0 : List AV) (t g : Nat) (h : AH), h.tok t = some g → (∀ nb nt, AV.underL nb nt (xs0 ++ valA v) = true) → xs0.length + (valA v).length < 1000000000 →
    ACalls Try.prog 74 [.sl (.tok t g) 1 xs0, inj v] h fun out h' => out = .ret (.sl (.tok t (g + valG v)) 1 (xs0 ++ valA v)) ∧ h' = h.setTok t (g + valG v) := by
  intro v
  induction v using V.ind2 with
  | h k i tx xs ks ih =>
    intro hw xs0 t g h ht hu hlen
    simp only [V.wr, V.wrL_iff] at hw
    obtain ⟨⟨hi1, hi2⟩, htx, hxl, hkl, hks, hxs⟩ := hw
    refine ACalls.cutT ht hu ?_
    rw [inj_mk]
    have hb0 : (xs0.length + 1) * 1 ≤ 140737488355328 := by omega
    have hb1 : (xs0.length + 1 + 1) * 1 ≤ 140737488355328 := by omega
    have hx1 : (xs0 ++ [AV.int .u8 (IntKind.u8.wrap k)]).length < 1000000000 := by
      rw [List.length_append]; rw [show valA (.mk k i tx xs ks) = .int .u8 (IntKind.u8.wrap k) :: (if k = 1 then _ else _) by rw [valA]] at hlen; simp only [List.length_cons, List.length_nil] at hlen ⊢; omega
    refine acalls_of te_ok [] Try.func74 (c := _) rfl (Nat.le_of_ble_eq_true rfl) ?_
    simp only [aw0, aw1, aw2, aw3, aw4, aw5, aw6, aw7, ne_eq, eq_self, implies_true, imp_self, reduceIte, reduceCtorEq, Nat.reduceAdd, Nat.reduceLT, Nat.reduceLeDiff, Nat.reduceEqDiff, Nat.reduceSub, Nat.reduceMul, Nat.reduceBEq, Int.reduceBEq, Int.reduceBNe, Int.reduceLT, Int.reduceLE, Int.reduceGT, Int.reduceGE, Int.reduceNeg, Int.reduceEq, Int.reduceNe, Int.reduceToNat, Int.reduceAdd, aconv, acvB, capR, acmpnil, appBox, storeB, ares1, appendTo, afill, aeqL, teset, Try.ntmps74, Try.results74, boxR, inj_take, inj_drop, inj_agg, inj_len, inj_one, List.length_map, rng1, hb0, ht, List.length_cons, List.length_nil, Nat.zero_add]
    cases h1 : (k == 1) with
    | true =>
      simp only [aw0, aw1, aw2, aw3, aw4, aw5, aw6, aw7, ne_eq, eq_self, implies_true, imp_self, reduceIte, reduceCtorEq, Nat.reduceAdd, Nat.reduceLT, Nat.reduceLeDiff, Nat.reduceEqDiff, Nat.reduceSub, Nat.reduceMul, Nat.reduceBEq, Int.reduceBEq, Int.reduceBNe, Int.reduceLT, Int.reduceLE, Int.reduceGT, Int.reduceGE, Int.reduceNeg, Int.reduceEq, Int.reduceNe, Int.reduceToNat, Int.reduceAdd, aconv, acvB, capR, acmpnil, appBox, storeB, ares1, appendTo, afill, aeqL, teset, boxR, inj_take, inj_drop, inj_agg, inj_len, inj_one, List.length_map, rng1, hb0, hb1, ht, List.length_append, List.length_cons, List.length_nil, Nat.zero_add]
      have hk : k = 1 := by simpa using h1
      subst hk
      rw [setTok_setTok]
      have e1 : valA (.mk 1 i tx xs ks) = [.int .u8 (IntKind.u8.wrap 1), .int .u8 (IntKind.u8.wrap i)] := by simp [valA]
      have e2 : g + valG (.mk 1 i tx xs ks) = g + 1 + 1 := by simp only [valG, if_true, Nat.add_assoc]
      rw [e1, e2, List.append_assoc]
      exact ⟨rfl, CutT.leaf⟩
    | false =>
      have hn1 : ¬ k = 1 := by simpa using h1
      simp only [aw0, aw1, aw2, aw3, aw4, aw5, aw6, aw7, ne_eq, eq_self, implies_true, imp_self, reduceIte, reduceCtorEq, Nat.reduceAdd, Nat.reduceLT, Nat.reduceLeDiff, Nat.reduceEqDiff, Nat.reduceSub, Nat.reduceMul, Nat.reduceBEq, Int.reduceBEq, Int.reduceBNe, Int.reduceLT, Int.reduceLE, Int.reduceGT, Int.reduceGE, Int.reduceNeg, Int.reduceEq, Int.reduceNe, Int.reduceToNat, Int.reduceAdd, aconv, acvB, capR, acmpnil, appBox, storeB, ares1, appendTo, afill, aeqL, teset, boxR, inj_take, inj_drop, inj_agg, inj_len, inj_one, List.length_map, rng1, hb0, ht, List.length_append, List.length_cons, List.length_nil, Nat.zero_add]
      cases h2 : (k == 2) with
      | true =>
        have hk : k = 2 := by simpa using h2
        subst hk
        simp only [aw0, aw1, aw2, aw3, aw4, aw5, aw6, aw7, ne_eq, eq_self, implies_true, imp_self, reduceIte, reduceCtorEq, Nat.reduceAdd, Nat.reduceLT, Nat.reduceLeDiff, Nat.reduceEqDiff, Nat.reduceSub, Nat.reduceMul, Nat.reduceBEq, Int.reduceBEq, Int.reduceBNe, Int.reduceLT, Int.reduceLE, Int.reduceGT, Int.reduceGE, Int.reduceNeg, Int.reduceEq, Int.reduceNe, Int.reduceToNat, Int.reduceAdd, aconv, acvB, capR, acmpnil, appBox, storeB, ares1, appendTo, afill, aeqL, teset, boxR, inj_take, inj_drop, inj_agg, inj_len, inj_one, List.length_map, rng1, hb0, ht, List.length_append, List.length_cons, List.length_nil, Nat.zero_add]
        refine ACallV.mono ?_ (ACallV.of ⟨Try.f78, Try.func78, rfl, by kernel_rfl⟩ (addint_tok _ i t (g + 1) hi1 hi2 hx1 _ (by rw [setTok_tok, if_pos rfl])))
        rintro out h' ⟨rfl, rfl⟩
        simp only [aw0, aw1, aw2, aw3, aw4, aw5, aw6, aw7, ne_eq, eq_self, implies_true, imp_self, reduceIte, reduceCtorEq, Nat.reduceAdd, Nat.reduceLT, Nat.reduceLeDiff, Nat.reduceEqDiff, Nat.reduceSub, Nat.reduceMul, Nat.reduceBEq, Int.reduceBEq, Int.reduceBNe, Int.reduceLT, Int.reduceLE, Int.reduceGT, Int.reduceGE, Int.reduceNeg, Int.reduceEq, Int.reduceNe, Int.reduceToNat, Int.reduceAdd, aconv, acvB, capR, acmpnil, appBox, storeB, ares1, appendTo, afill, aeqL, teset, callK_ret]
        rw [setTok_setTok]
        have e1 : valA (.mk 2 i tx xs ks) = .int .u8 (IntKind.u8.wrap 2) :: numA (zig i) := by simp [valA]
        have e2 : g + valG (.mk 2 i tx xs ks) = g + 1 + (numA (zig i)).length := by simp only [valG, if_true, if_neg hn1]; omega
        rw [e1, e2, List.append_assoc]
        exact ⟨rfl, CutT.leaf⟩
      | false =>
        have hn2 : ¬ k = 2 := by simpa using h2
        simp only [aw0, aw1, aw2, aw3, aw4, aw5, aw6, aw7, ne_eq, eq_self, implies_true, imp_self, reduceIte, reduceCtorEq, Nat.reduceAdd, Nat.reduceLT, Nat.reduceLeDiff, Nat.reduceEqDiff, Nat.reduceSub, Nat.reduceMul, Nat.reduceBEq, Int.reduceBEq, Int.reduceBNe, Int.reduceLT, Int.reduceLE, Int.reduceGT, Int.reduceGE, Int.reduceNeg, Int.reduceEq, Int.reduceNe, Int.reduceToNat, Int.reduceAdd, aconv, acvB, capR, acmpnil, appBox, storeB, ares1, appendTo, afill, aeqL, teset, boxR, inj_take, inj_drop, inj_agg, inj_len, inj_one, List.length_map, rng1, hb0, ht, List.length_append, List.length_cons, List.length_nil, Nat.zero_add]
        cases h3 : (k == 3) with
        | true =>
          have hk : k = 3 := by simpa using h3
          subst hk
          simp only [aw0, aw1, aw2, aw3, aw4, aw5, aw6, aw7, ne_eq, eq_self, implies_true, imp_self, reduceIte, reduceCtorEq, Nat.reduceAdd, Nat.reduceLT, Nat.reduceLeDiff, Nat.reduceEqDiff, Nat.reduceSub, Nat.reduceMul, Nat.reduceBEq, Int.reduceBEq, Int.reduceBNe, Int.reduceLT, Int.reduceLE, Int.reduceGT, Int.reduceGE, Int.reduceNeg, Int.reduceEq, Int.reduceNe, Int.reduceToNat, Int.reduceAdd, aconv, acvB, capR, acmpnil, appBox, storeB, ares1, appendTo, afill, aeqL, teset, boxR, inj_take, inj_drop, inj_agg, inj_len, inj_one, List.length_map, rng1, hb0, ht, List.length_append, List.length_cons, List.length_nil, Nat.zero_add]
          refine ACallV.mono ?_ (ACallV.of ⟨Try.f79, Try.func79, rfl, by kernel_rfl⟩ (addtext_tok _ tx t (g + 1) htx hx1 _ (by rw [setTok_tok, if_pos rfl])))
          rintro out h' ⟨rfl, rfl⟩
          simp only [aw0, aw1, aw2, aw3, aw4, aw5, aw6, aw7, ne_eq, eq_self, implies_true, imp_self, reduceIte, reduceCtorEq, Nat.reduceAdd, Nat.reduceLT, Nat.reduceLeDiff, Nat.reduceEqDiff, Nat.reduceSub, Nat.reduceMul, Nat.reduceBEq, Int.reduceBEq, Int.reduceBNe, Int.reduceLT, Int.reduceLE, Int.reduceGT, Int.reduceGE, Int.reduceNeg, Int.reduceEq, Int.reduceNe, Int.reduceToNat, Int.reduceAdd, aconv, acvB, capR, acmpnil, appBox, storeB, ares1, appendTo, afill, aeqL, teset, callK_ret]
          rw [setTok_setTok]
          have e1 : valA (.mk 3 i tx xs ks) = .int .u8 (IntKind.u8.wrap 3) :: strA tx := by simp [valA]
          have e2 : g + valG (.mk 3 i tx xs ks) = g + 1 + strG tx := by simp only [valG, if_true, if_neg hn1, if_neg hn2]; omega
          rw [e1, e2, List.append_assoc]
          exact ⟨rfl, CutT.leaf⟩
        | false =>
          have hn3 : ¬ k = 3 := by simpa using h3
          simp only [aw0, aw1, aw2, aw3, aw4, aw5, aw6, aw7, ne_eq, eq_self, implies_true, imp_self, reduceIte, reduceCtorEq, Nat.reduceAdd, Nat.reduceLT, Nat.reduceLeDiff, Nat.reduceEqDiff, Nat.reduceSub, Nat.reduceMul, Nat.reduceBEq, Int.reduceBEq, Int.reduceBNe, Int.reduceLT, Int.reduceLE, Int.reduceGT, Int.reduceGE, Int.reduceNeg, Int.reduceEq, Int.reduceNe, Int.reduceToNat, Int.reduceAdd, aconv, acvB, capR, acmpnil, appBox, storeB, ares1, appendTo, afill, aeqL, teset, boxR, inj_take, inj_drop, inj_agg, inj_len, inj_one, List.length_map, rng1, hb0, ht, List.length_append, List.length_cons, List.length_nil, Nat.zero_add]
          cases h4 : (k == 4) with
          | true =>
            have hk : k = 4 := by simpa using h4
            have hk45 : k = 4 ∨ k = 5 := .inl hk
            simp only [aw0, aw1, aw2, aw3, aw4, aw5, aw6, aw7, ne_eq, eq_self, implies_true, imp_self, reduceIte, reduceCtorEq, Nat.reduceAdd, Nat.reduceLT, Nat.reduceLeDiff, Nat.reduceEqDiff, Nat.reduceSub, Nat.reduceMul, Nat.reduceBEq, Int.reduceBEq, Int.reduceBNe, Int.reduceLT, Int.reduceLE, Int.reduceGT, Int.reduceGE, Int.reduceNeg, Int.reduceEq, Int.reduceNe, Int.reduceToNat, Int.reduceAdd, aconv, acvB, capR, acmpnil, appBox, storeB, ares1, appendTo, afill, aeqL, teset, boxR, inj_take, inj_drop, inj_agg, inj_len, inj_one, List.length_map, rng1, hb0, ht, List.length_append, List.length_cons, List.length_nil, Nat.zero_add]
            have e1 : valA (.mk k i tx xs ks) = .int .u8 (IntKind.u8.wrap k) :: (numA xs.length ++ valL (k == 5) xs ks) := by rw [valA, if_neg hn1, if_neg hn2, if_neg hn3, if_pos hk45]
            have e2 : g + valG (.mk k i tx xs ks) = g + 1 + (numA xs.length).length + valGL (k == 5) xs ks := by rw [valG, if_neg hn1, if_neg hn2, if_neg hn3, if_pos hk45]; omega
            refine ACallV.mono ?_ (ACallV.of ⟨Try.f22, Try.func22, rfl, by kernel_rfl⟩ (addnum_tok _ xs.length t (g + 1) (by omega) hx1 _ (by rw [setTok_tok, if_pos rfl])))
            rintro out h' ⟨rfl, rfl⟩
            simp only [aw0, aw1, aw2, aw3, aw4, aw5, aw6, aw7, ne_eq, eq_self, implies_true, imp_self, reduceIte, reduceCtorEq, Nat.reduceAdd, Nat.reduceLT, Nat.reduceLeDiff, Nat.reduceEqDiff, Nat.reduceSub, Nat.reduceMul, Nat.reduceBEq, Int.reduceBEq, Int.reduceBNe, Int.reduceLT, Int.reduceLE, Int.reduceGT, Int.reduceGE, Int.reduceNeg, Int.reduceEq, Int.reduceNe, Int.reduceToNat, Int.reduceAdd, aconv, acvB, capR, acmpnil, appBox, storeB, ares1, appendTo, afill, aeqL, teset, callK_ret, boxR, inj_take, inj_drop, inj_agg, inj_len, inj_one, List.length_map]
            generalize hcs : [AV.int IntKind.i64 k, AV.int IntKind.i64 i, AV.str tx, AV.sl Tag.ro 5 (List.map inj xs), AV.sl Tag.ro 1 (List.map AV.str ks)] = cells
            refine ⟨fun n s' h' => ∃ (j G : Nat) (ys : List AV), s' 0 = .sl (.tok t G) 1 (xs0 ++ ys) ∧ s' 3 = .ptr h.nb 0 ∧ s' 44 = .sl .ro 5 (xs.map inj) ∧ s' 45 = .int .i64 xs.length ∧ s' 46 = .int .i64 j ∧ n + j = xs.length ∧ LoopH h h' cells t G ∧ ys ++ valL (k == 5) (xs.drop j) (ks.drop j) = valA (.mk k i tx xs ks) ∧ G + valGL (k == 5) (xs.drop j) (ks.drop j) = g + valG (.mk k i tx xs ks), ⟨xs.length, 0, g + 1 + (numA xs.length).length, .int .u8 (IntKind.u8.wrap k) :: numA xs.length, ?_⟩, ?_⟩
            · simp only [aw0, aw1, aw2, aw3, aw4, aw5, aw6, aw7, ne_eq, eq_self, implies_true, imp_self, reduceIte, reduceCtorEq, Nat.reduceAdd, Nat.reduceLT, Nat.reduceLeDiff, Nat.reduceEqDiff, Nat.reduceSub, Nat.reduceMul, Nat.reduceBEq, Int.reduceBEq, Int.reduceBNe, Int.reduceLT, Int.reduceLE, Int.reduceGT, Int.reduceGE, Int.reduceNeg, Int.reduceEq, Int.reduceNe, Int.reduceToNat, Int.reduceAdd, aconv, acvB, capR, acmpnil, appBox, storeB, ares1, appendTo, afill, aeqL, teset, Int.natCast_zero, List.drop_zero]
              rw [setTok_setTok, e1, e2, List.append_assoc]
              exact ⟨rfl, LoopH.start, rfl, rfl⟩
            · rintro n s' h' ⟨j, G, ys, r0, r3, r44, r45, r46, hn, hL, hv, hg⟩
              simp only [aw0, aw1, aw2, aw3, aw4, aw5, aw6, aw7, ne_eq, eq_self, implies_true, imp_self, reduceIte, reduceCtorEq, Nat.reduceAdd, Nat.reduceLT, Nat.reduceLeDiff, Nat.reduceEqDiff, Nat.reduceSub, Nat.reduceMul, Nat.reduceBEq, Int.reduceBEq, Int.reduceBNe, Int.reduceLT, Int.reduceLE, Int.reduceGT, Int.reduceGE, Int.reduceNeg, Int.reduceEq, Int.reduceNe, Int.reduceToNat, Int.reduceAdd, aconv, acvB, capR, acmpnil, appBox, storeB, ares1, appendTo, afill, aeqL, teset, r0, r3, r44, r45, r46]
              cases hc : decide ((j : Int) < (xs.length : Int)) with
              | false =>
                simp only [aw0, aw1, aw2, aw3, aw4, aw5, aw6, aw7, ne_eq, eq_self, implies_true, imp_self, reduceIte, reduceCtorEq, Nat.reduceAdd, Nat.reduceLT, Nat.reduceLeDiff, Nat.reduceEqDiff, Nat.reduceSub, Nat.reduceMul, Nat.reduceBEq, Int.reduceBEq, Int.reduceBNe, Int.reduceLT, Int.reduceLE, Int.reduceGT, Int.reduceGE, Int.reduceNeg, Int.reduceEq, Int.reduceNe, Int.reduceToNat, Int.reduceAdd, aconv, acvB, capR, acmpnil, appBox, storeB, ares1, appendTo, afill, aeqL, teset, r0, r3, r44, r45, r46]
                simp only [decide_eq_false_iff_not] at hc
                rw [List.drop_eq_nil_of_le (by omega)] at hv hg
                simp only [valL, valGL, List.append_nil, Nat.add_zero] at hv hg
                rw [← hv, ← hg]
                exact ⟨rfl, hL.cut⟩
              | true =>
                simp only [decide_eq_true_eq] at hc
                have hj := natLt hc
                have hget : (xs.map inj)[((j : Nat) : Int).toNat]? = some (inj xs[j]) := by rw [Int.toNat_natCast, List.getElem?_map, List.getElem?_eq_getElem hj]; rfl
                have hb0' := hL.box0
                rw [← hcs] at hb0'
                have hnb := hL.nb
                have ne1 : (h.nb = h'.nb) = False := by simp only [eq_iff_iff, iff_false]; omega
                have ne2 : (h'.nb = h.nb) = False := by simp only [eq_iff_iff, iff_false]; omega
                simp only [aw0, aw1, aw2, aw3, aw4, aw5, aw6, aw7, ne_eq, eq_self, implies_true, imp_self, reduceIte, reduceCtorEq, Nat.reduceAdd, Nat.reduceLT, Nat.reduceLeDiff, Nat.reduceEqDiff, Nat.reduceSub, Nat.reduceMul, Nat.reduceBEq, Int.reduceBEq, Int.reduceBNe, Int.reduceLT, Int.reduceLE, Int.reduceGT, Int.reduceGE, Int.reduceNeg, Int.reduceEq, Int.reduceNe, Int.reduceToNat, Int.reduceAdd, aconv, acvB, capR, acmpnil, appBox, storeB, ares1, appendTo, afill, aeqL, teset, r0, r3, r44, r45, r46, inj_take, inj_drop, inj_agg, inj_len, inj_one, List.length_map, hget, Int.natCast_nonneg, hb0', ne1, ne2]
                cases h5 : (k == 5) with
                | false =>
                  simp only [aw0, aw1, aw2, aw3, aw4, aw5, aw6, aw7, ne_eq, eq_self, implies_true, imp_self, reduceIte, reduceCtorEq, Nat.reduceAdd, Nat.reduceLT, Nat.reduceLeDiff, Nat.reduceEqDiff, Nat.reduceSub, Nat.reduceMul, Nat.reduceBEq, Int.reduceBEq, Int.reduceBNe, Int.reduceLT, Int.reduceLE, Int.reduceGT, Int.reduceGE, Int.reduceNeg, Int.reduceEq, Int.reduceNe, Int.reduceToNat, Int.reduceAdd, aconv, acvB, capR, acmpnil, appBox, storeB, ares1, appendTo, afill, aeqL, teset, r0, r3, r44, r45, r46, inj_take, inj_drop, inj_agg, inj_len, inj_one, List.length_map, hget, Int.natCast_nonneg, hb0', ne1, ne2]
                  rw [h5, valL_f hj _ (ks.drop (j + 1))] at hv
                  rw [h5, valGL_f hj _ (ks.drop (j + 1))] at hg
                  have hL2 := (hL.new (cs := [AV.int IntKind.i64 0, AV.int IntKind.i64 0, AV.str { data := #[] }, AV.sl Tag.full 0 [], AV.sl Tag.full 0 []])).set (cs := (inj xs[j]).cells) hnb
                  refine ACallV.mono ?_ (ACallV.of ⟨Try.f74, Try.func74, rfl, by kernel_rfl⟩ (ih xs[j] (List.getElem_mem hj) (hxs _ (List.getElem_mem hj)) (xs0 ++ ys) t G _ hL2.tok (fun nb nt => ?_) ?_))
                  · rintro out h'' ⟨rfl, rfl⟩
                    simp only [aw0, aw1, aw2, aw3, aw4, aw5, aw6, aw7, ne_eq, eq_self, implies_true, imp_self, reduceIte, reduceCtorEq, Nat.reduceAdd, Nat.reduceLT, Nat.reduceLeDiff, Nat.reduceEqDiff, Nat.reduceSub, Nat.reduceMul, Nat.reduceBEq, Int.reduceBEq, Int.reduceBNe, Int.reduceLT, Int.reduceLE, Int.reduceGT, Int.reduceGE, Int.reduceNeg, Int.reduceEq, Int.reduceNe, Int.reduceToNat, Int.reduceAdd, aconv, acvB, capR, acmpnil, appBox, storeB, ares1, appendTo, afill, aeqL, teset, callK_ret, r0, r3, r44, r45, r46]
                    refine ⟨n - 1, (loopN hn hj).1, j + 1, G + valG xs[j], ys ++ valA xs[j], ?_, ?_, (loopN hn hj).2, hL2.step, ?_, ?_⟩
                    · rw [List.append_assoc]
                    · rw [wrapI hj (by omega)]
                    · rw [← hv, List.append_assoc]
                    · rw [← hg, Nat.add_assoc]
                  · have := hu nb nt
                    rw [← hv, ← List.append_assoc, ← List.append_assoc] at this
                    exact underL_left this
                  · rw [← hv] at hlen
                    simp only [List.length_append] at hlen ⊢
                    omega
                | true =>
                  have hk5 : k = 5 := by simpa using h5
                  have hjk : j < ks.length := by rw [hkl hk5]; exact hj
                  have hgk : (ks.map AV.str)[((j : Nat) : Int).toNat]? = some (.str ks[j]) := by rw [Int.toNat_natCast, List.getElem?_map, List.getElem?_eq_getElem hjk]; rfl
                  rw [h5, valL_t hj hjk] at hv
                  rw [h5, valGL_t hj hjk] at hg
                  have hL2 := (hL.new (cs := [AV.int IntKind.i64 0, AV.int IntKind.i64 0, AV.str { data := #[] }, AV.sl Tag.full 0 [], AV.sl Tag.full 0 []])).set (cs := (inj xs[j]).cells) hnb
                  have hlen2 : (xs0 ++ ys).length + (strA ks[j]).length + (valA xs[j]).length < 1000000000 := by
                    rw [← hv] at hlen
                    simp only [List.length_append] at hlen ⊢
                    omega
                  simp only [aw0, aw1, aw2, aw3, aw4, aw5, aw6, aw7, ne_eq, eq_self, implies_true, imp_self, reduceIte, reduceCtorEq, Nat.reduceAdd, Nat.reduceLT, Nat.reduceLeDiff, Nat.reduceEqDiff, Nat.reduceSub, Nat.reduceMul, Nat.reduceBEq, Int.reduceBEq, Int.reduceBNe, Int.reduceLT, Int.reduceLE, Int.reduceGT, Int.reduceGE, Int.reduceNeg, Int.reduceEq, Int.reduceNe, Int.reduceToNat, Int.reduceAdd, aconv, acvB, capR, acmpnil, appBox, storeB, ares1, appendTo, afill, aeqL, teset, r0, r3, r44, r45, r46, inj_take, inj_drop, inj_agg, inj_len, inj_one, List.length_map, hget, hgk, Int.natCast_nonneg, hb0', ne1, ne2]
                  refine ACallV.mono ?_ (ACallV.of ⟨Try.f79, Try.func79, rfl, by kernel_rfl⟩ (addtext_tok (xs0 ++ ys) ks[j] t G (hks _ (List.getElem_mem hjk)) (by omega) _ hL2.tok))
                  rintro out h'' ⟨rfl, rfl⟩
                  simp only [aw0, aw1, aw2, aw3, aw4, aw5, aw6, aw7, ne_eq, eq_self, implies_true, imp_self, reduceIte, reduceCtorEq, Nat.reduceAdd, Nat.reduceLT, Nat.reduceLeDiff, Nat.reduceEqDiff, Nat.reduceSub, Nat.reduceMul, Nat.reduceBEq, Int.reduceBEq, Int.reduceBNe, Int.reduceLT, Int.reduceLE, Int.reduceGT, Int.reduceGE, Int.reduceNeg, Int.reduceEq, Int.reduceNe, Int.reduceToNat, Int.reduceAdd, aconv, acvB, capR, acmpnil, appBox, storeB, ares1, appendTo, afill, aeqL, teset, callK_ret, r0, r3, r44, r45, r46, inj_take, inj_drop, inj_agg, inj_len, inj_one, List.length_map, ne1, ne2]
                  refine ACallV.mono ?_ (ACallV.of ⟨Try.f74, Try.func74, rfl, by kernel_rfl⟩ (ih xs[j] (List.getElem_mem hj) (hxs _ (List.getElem_mem hj)) (xs0 ++ ys ++ strA ks[j]) t (G + strG ks[j]) _ hL2.step.tok (fun nb nt => ?_) ?_))
                  · rintro out h'' ⟨rfl, rfl⟩
                    simp only [aw0, aw1, aw2, aw3, aw4, aw5, aw6, aw7, ne_eq, eq_self, implies_true, imp_self, reduceIte, reduceCtorEq, Nat.reduceAdd, Nat.reduceLT, Nat.reduceLeDiff, Nat.reduceEqDiff, Nat.reduceSub, Nat.reduceMul, Nat.reduceBEq, Int.reduceBEq, Int.reduceBNe, Int.reduceLT, Int.reduceLE, Int.reduceGT, Int.reduceGE, Int.reduceNeg, Int.reduceEq, Int.reduceNe, Int.reduceToNat, Int.reduceAdd, aconv, acvB, capR, acmpnil, appBox, storeB, ares1, appendTo, afill, aeqL, teset, callK_ret, r0, r3, r44, r45, r46]
                    refine ⟨n - 1, (loopN hn hj).1, j + 1, G + strG ks[j] + valG xs[j], ys ++ strA ks[j] ++ valA xs[j], ?_, ?_, (loopN hn hj).2, hL2.step.step, ?_, ?_⟩
                    · simp only [List.append_assoc]
                    · rw [wrapI hj (by omega)]
                    · rw [← hv]; simp only [List.append_assoc]
                    · rw [← hg]; simp only [Nat.add_assoc]
                  · have := hu nb nt
                    rw [← hv, show xs0 ++ (ys ++ (strA ks[j] ++ (valA xs[j] ++ valL true (xs.drop (j + 1)) (ks.drop (j + 1))))) = (xs0 ++ ys ++ strA ks[j] ++ valA xs[j]) ++ valL true (xs.drop (j + 1)) (ks.drop (j + 1)) by simp only [List.append_assoc]] at this
                    exact underL_left this
                  · simp only [List.length_append] at hlen2 ⊢
                    omega
          | false =>
            have hn4 : ¬ k = 4 := by simpa using h4
            simp only [aw0, aw1, aw2, aw3, aw4, aw5, aw6, aw7, ne_eq, eq_self, implies_true, imp_self, reduceIte, reduceCtorEq, Nat.reduceAdd, Nat.reduceLT, Nat.reduceLeDiff, Nat.reduceEqDiff, Nat.reduceSub, Nat.reduceMul, Nat.reduceBEq, Int.reduceBEq, Int.reduceBNe, Int.reduceLT, Int.reduceLE, Int.reduceGT, Int.reduceGE, Int.reduceNeg, Int.reduceEq, Int.reduceNe, Int.reduceToNat, Int.reduceAdd, aconv, acvB, capR, acmpnil, appBox, storeB, ares1, appendTo, afill, aeqL, teset, boxR, inj_take, inj_drop, inj_agg, inj_len, inj_one, List.length_map, rng1, hb0, ht, List.length_append, List.length_cons, List.length_nil, Nat.zero_add]
            cases h5 : (k == 5) with
            | true =>
              have hk : k = 5 := by simpa using h5
              simp only [aw0, aw1, aw2, aw3, aw4, aw5, aw6, aw7, ne_eq, eq_self, implies_true, imp_self, reduceIte, reduceCtorEq, Nat.reduceAdd, Nat.reduceLT, Nat.reduceLeDiff, Nat.reduceEqDiff, Nat.reduceSub, Nat.reduceMul, Nat.reduceBEq, Int.reduceBEq, Int.reduceBNe, Int.reduceLT, Int.reduceLE, Int.reduceGT, Int.reduceGE, Int.reduceNeg, Int.reduceEq, Int.reduceNe, Int.reduceToNat, Int.reduceAdd, aconv, acvB, capR, acmpnil, appBox, storeB, ares1, appendTo, afill, aeqL, teset, boxR, inj_take, inj_drop, inj_agg, inj_len, inj_one, List.length_map, rng1, hb0, ht, List.length_append, List.length_cons, List.length_nil, Nat.zero_add]
              have hk45 : k = 4 ∨ k = 5 := .inr hk
              have e1 : valA (.mk k i tx xs ks) = .int .u8 (IntKind.u8.wrap k) :: (numA xs.length ++ valL (k == 5) xs ks) := by rw [valA, if_neg hn1, if_neg hn2, if_neg hn3, if_pos hk45]
              have e2 : g + valG (.mk k i tx xs ks) = g + 1 + (numA xs.length).length + valGL (k == 5) xs ks := by rw [valG, if_neg hn1, if_neg hn2, if_neg hn3, if_pos hk45]; omega
              refine ACallV.mono ?_ (ACallV.of ⟨Try.f22, Try.func22, rfl, by kernel_rfl⟩ (addnum_tok _ xs.length t (g + 1) (by omega) hx1 _ (by rw [setTok_tok, if_pos rfl])))
              rintro out h' ⟨rfl, rfl⟩
              simp only [aw0, aw1, aw2, aw3, aw4, aw5, aw6, aw7, ne_eq, eq_self, implies_true, imp_self, reduceIte, reduceCtorEq, Nat.reduceAdd, Nat.reduceLT, Nat.reduceLeDiff, Nat.reduceEqDiff, Nat.reduceSub, Nat.reduceMul, Nat.reduceBEq, Int.reduceBEq, Int.reduceBNe, Int.reduceLT, Int.reduceLE, Int.reduceGT, Int.reduceGE, Int.reduceNeg, Int.reduceEq, Int.reduceNe, Int.reduceToNat, Int.reduceAdd, aconv, acvB, capR, acmpnil, appBox, storeB, ares1, appendTo, afill, aeqL, teset, callK_ret, boxR, inj_take, inj_drop, inj_agg, inj_len, inj_one, List.length_map]
              generalize hcs : [AV.int IntKind.i64 k, AV.int IntKind.i64 i, AV.str tx, AV.sl Tag.ro 5 (List.map inj xs), AV.sl Tag.ro 1 (List.map AV.str ks)] = cells
              refine ⟨fun n s' h' => ∃ (j G : Nat) (ys : List AV), s' 0 = .sl (.tok t G) 1 (xs0 ++ ys) ∧ s' 3 = .ptr h.nb 0 ∧ s' 44 = .sl .ro 5 (xs.map inj) ∧ s' 45 = .int .i64 xs.length ∧ s' 46 = .int .i64 j ∧ n + j = xs.length ∧ LoopH h h' cells t G ∧ ys ++ valL (k == 5) (xs.drop j) (ks.drop j) = valA (.mk k i tx xs ks) ∧ G + valGL (k == 5) (xs.drop j) (ks.drop j) = g + valG (.mk k i tx xs ks), ⟨xs.length, 0, g + 1 + (numA xs.length).length, .int .u8 (IntKind.u8.wrap k) :: numA xs.length, ?_⟩, ?_⟩
              · simp only [aw0, aw1, aw2, aw3, aw4, aw5, aw6, aw7, ne_eq, eq_self, implies_true, imp_self, reduceIte, reduceCtorEq, Nat.reduceAdd, Nat.reduceLT, Nat.reduceLeDiff, Nat.reduceEqDiff, Nat.reduceSub, Nat.reduceMul, Nat.reduceBEq, Int.reduceBEq, Int.reduceBNe, Int.reduceLT, Int.reduceLE, Int.reduceGT, Int.reduceGE, Int.reduceNeg, Int.reduceEq, Int.reduceNe, Int.reduceToNat, Int.reduceAdd, aconv, acvB, capR, acmpnil, appBox, storeB, ares1, appendTo, afill, aeqL, teset, Int.natCast_zero, List.drop_zero]
                rw [setTok_setTok, e1, e2, List.append_assoc]
                exact ⟨rfl, LoopH.start, rfl, rfl⟩
              · rintro n s' h' ⟨j, G, ys, r0, r3, r44, r45, r46, hn, hL, hv, hg⟩
                simp only [aw0, aw1, aw2, aw3, aw4, aw5, aw6, aw7, ne_eq, eq_self, implies_true, imp_self, reduceIte, reduceCtorEq, Nat.reduceAdd, Nat.reduceLT, Nat.reduceLeDiff, Nat.reduceEqDiff, Nat.reduceSub, Nat.reduceMul, Nat.reduceBEq, Int.reduceBEq, Int.reduceBNe, Int.reduceLT, Int.reduceLE, Int.reduceGT, Int.reduceGE, Int.reduceNeg, Int.reduceEq, Int.reduceNe, Int.reduceToNat, Int.reduceAdd, aconv, acvB, capR, acmpnil, appBox, storeB, ares1, appendTo, afill, aeqL, teset, r0, r3, r44, r45, r46]
                cases hc : decide ((j : Int) < (xs.length : Int)) with
                | false =>
                  simp only [aw0, aw1, aw2, aw3, aw4, aw5, aw6, aw7, ne_eq, eq_self, implies_true, imp_self, reduceIte, reduceCtorEq, Nat.reduceAdd, Nat.reduceLT, Nat.reduceLeDiff, Nat.reduceEqDiff, Nat.reduceSub, Nat.reduceMul, Nat.reduceBEq, Int.reduceBEq, Int.reduceBNe, Int.reduceLT, Int.reduceLE, Int.reduceGT, Int.reduceGE, Int.reduceNeg, Int.reduceEq, Int.reduceNe, Int.reduceToNat, Int.reduceAdd, aconv, acvB, capR, acmpnil, appBox, storeB, ares1, appendTo, afill, aeqL, teset, r0, r3, r44, r45, r46]
                  simp only [decide_eq_false_iff_not] at hc
                  rw [List.drop_eq_nil_of_le (by omega)] at hv hg
                  simp only [valL, valGL, List.append_nil, Nat.add_zero] at hv hg
                  rw [← hv, ← hg]
                  exact ⟨rfl, hL.cut⟩
                | true =>
                  simp only [decide_eq_true_eq] at hc
                  have hj := natLt hc
                  have hget : (xs.map inj)[((j : Nat) : Int).toNat]? = some (inj xs[j]) := by rw [Int.toNat_natCast, List.getElem?_map, List.getElem?_eq_getElem hj]; rfl
                  have hb0' := hL.box0
                  rw [← hcs] at hb0'
                  have hnb := hL.nb
                  have ne1 : (h.nb = h'.nb) = False := by simp only [eq_iff_iff, iff_false]; omega
                  have ne2 : (h'.nb = h.nb) = False := by simp only [eq_iff_iff, iff_false]; omega
                  simp only [aw0, aw1, aw2, aw3, aw4, aw5, aw6, aw7, ne_eq, eq_self, implies_true, imp_self, reduceIte, reduceCtorEq, Nat.reduceAdd, Nat.reduceLT, Nat.reduceLeDiff, Nat.reduceEqDiff, Nat.reduceSub, Nat.reduceMul, Nat.reduceBEq, Int.reduceBEq, Int.reduceBNe, Int.reduceLT, Int.reduceLE, Int.reduceGT, Int.reduceGE, Int.reduceNeg, Int.reduceEq, Int.reduceNe, Int.reduceToNat, Int.reduceAdd, aconv, acvB, capR, acmpnil, appBox, storeB, ares1, appendTo, afill, aeqL, teset, r0, r3, r44, r45, r46, inj_take, inj_drop, inj_agg, inj_len, inj_one, List.length_map, hget, Int.natCast_nonneg, hb0', ne1, ne2]
                  cases h5 : (k == 5) with
                  | false =>
                    simp only [aw0, aw1, aw2, aw3, aw4, aw5, aw6, aw7, ne_eq, eq_self, implies_true, imp_self, reduceIte, reduceCtorEq, Nat.reduceAdd, Nat.reduceLT, Nat.reduceLeDiff, Nat.reduceEqDiff, Nat.reduceSub, Nat.reduceMul, Nat.reduceBEq, Int.reduceBEq, Int.reduceBNe, Int.reduceLT, Int.reduceLE, Int.reduceGT, Int.reduceGE, Int.reduceNeg, Int.reduceEq, Int.reduceNe, Int.reduceToNat, Int.reduceAdd, aconv, acvB, capR, acmpnil, appBox, storeB, ares1, appendTo, afill, aeqL, teset, r0, r3, r44, r45, r46, inj_take, inj_drop, inj_agg, inj_len, inj_one, List.length_map, hget, Int.natCast_nonneg, hb0', ne1, ne2]
                    rw [h5, valL_f hj _ (ks.drop (j + 1))] at hv
                    rw [h5, valGL_f hj _ (ks.drop (j + 1))] at hg
                    have hL2 := (hL.new (cs := [AV.int IntKind.i64 0, AV.int IntKind.i64 0, AV.str { data := #[] }, AV.sl Tag.full 0 [], AV.sl Tag.full 0 []])).set (cs := (inj xs[j]).cells) hnb
                    refine ACallV.mono ?_ (ACallV.of ⟨Try.f74, Try.func74, rfl, by kernel_rfl⟩ (ih xs[j] (List.getElem_mem hj) (hxs _ (List.getElem_mem hj)) (xs0 ++ ys) t G _ hL2.tok (fun nb nt => ?_) ?_))
                    · rintro out h'' ⟨rfl, rfl⟩
                      simp only [aw0, aw1, aw2, aw3, aw4, aw5, aw6, aw7, ne_eq, eq_self, implies_true, imp_self, reduceIte, reduceCtorEq, Nat.reduceAdd, Nat.reduceLT, Nat.reduceLeDiff, Nat.reduceEqDiff, Nat.reduceSub, Nat.reduceMul, Nat.reduceBEq, Int.reduceBEq, Int.reduceBNe, Int.reduceLT, Int.reduceLE, Int.reduceGT, Int.reduceGE, Int.reduceNeg, Int.reduceEq, Int.reduceNe, Int.reduceToNat, Int.reduceAdd, aconv, acvB, capR, acmpnil, appBox, storeB, ares1, appendTo, afill, aeqL, teset, callK_ret, r0, r3, r44, r45, r46]
                      refine ⟨n - 1, (loopN hn hj).1, j + 1, G + valG xs[j], ys ++ valA xs[j], ?_, ?_, (loopN hn hj).2, hL2.step, ?_, ?_⟩
                      · rw [List.append_assoc]
                      · rw [wrapI hj (by omega)]
                      · rw [← hv, List.append_assoc]
                      · rw [← hg, Nat.add_assoc]
                    · have := hu nb nt
                      rw [← hv, ← List.append_assoc, ← List.append_assoc] at this
                      exact underL_left this
                    · rw [← hv] at hlen
                      simp only [List.length_append] at hlen ⊢
                      omega
                  | true =>
                    have hk5 : k = 5 := by simpa using h5
                    have hjk : j < ks.length := by rw [hkl hk5]; exact hj
                    have hgk : (ks.map AV.str)[((j : Nat) : Int).toNat]? = some (.str ks[j]) := by rw [Int.toNat_natCast, List.getElem?_map, List.getElem?_eq_getElem hjk]; rfl
                    rw [h5, valL_t hj hjk] at hv
                    rw [h5, valGL_t hj hjk] at hg
                    have hL2 := (hL.new (cs := [AV.int IntKind.i64 0, AV.int IntKind.i64 0, AV.str { data := #[] }, AV.sl Tag.full 0 [], AV.sl Tag.full 0 []])).set (cs := (inj xs[j]).cells) hnb
                    have hlen2 : (xs0 ++ ys).length + (strA ks[j]).length + (valA xs[j]).length < 1000000000 := by
                      rw [← hv] at hlen
                      simp only [List.length_append] at hlen ⊢
                      omega
                    simp only [aw0, aw1, aw2, aw3, aw4, aw5, aw6, aw7, ne_eq, eq_self, implies_true, imp_self, reduceIte, reduceCtorEq, Nat.reduceAdd, Nat.reduceLT, Nat.reduceLeDiff, Nat.reduceEqDiff, Nat.reduceSub, Nat.reduceMul, Nat.reduceBEq, Int.reduceBEq, Int.reduceBNe, Int.reduceLT, Int.reduceLE, Int.reduceGT, Int.reduceGE, Int.reduceNeg, Int.reduceEq, Int.reduceNe, Int.reduceToNat, Int.reduceAdd, aconv, acvB, capR, acmpnil, appBox, storeB, ares1, appendTo, afill, aeqL, teset, r0, r3, r44, r45, r46, inj_take, inj_drop, inj_agg, inj_len, inj_one, List.length_map, hget, hgk, Int.natCast_nonneg, hb0', ne1, ne2]
                    refine ACallV.mono ?_ (ACallV.of ⟨Try.f79, Try.func79, rfl, by kernel_rfl⟩ (addtext_tok (xs0 ++ ys) ks[j] t G (hks _ (List.getElem_mem hjk)) (by omega) _ hL2.tok))
                    rintro out h'' ⟨rfl, rfl⟩
                    simp only [aw0, aw1, aw2, aw3, aw4, aw5, aw6, aw7, ne_eq, eq_self, implies_true, imp_self, reduceIte, reduceCtorEq, Nat.reduceAdd, Nat.reduceLT, Nat.reduceLeDiff, Nat.reduceEqDiff, Nat.reduceSub, Nat.reduceMul, Nat.reduceBEq, Int.reduceBEq, Int.reduceBNe, Int.reduceLT, Int.reduceLE, Int.reduceGT, Int.reduceGE, Int.reduceNeg, Int.reduceEq, Int.reduceNe, Int.reduceToNat, Int.reduceAdd, aconv, acvB, capR, acmpnil, appBox, storeB, ares1, appendTo, afill, aeqL, teset, callK_ret, r0, r3, r44, r45, r46, inj_take, inj_drop, inj_agg, inj_len, inj_one, List.length_map, ne1, ne2]
                    refine ACallV.mono ?_ (ACallV.of ⟨Try.f74, Try.func74, rfl, by kernel_rfl⟩ (ih xs[j] (List.getElem_mem hj) (hxs _ (List.getElem_mem hj)) (xs0 ++ ys ++ strA ks[j]) t (G + strG ks[j]) _ hL2.step.tok (fun nb nt => ?_) ?_))
                    · rintro out h'' ⟨rfl, rfl⟩
                      simp only [aw0, aw1, aw2, aw3, aw4, aw5, aw6, aw7, ne_eq, eq_self, implies_true, imp_self, reduceIte, reduceCtorEq, Nat.reduceAdd, Nat.reduceLT, Nat.reduceLeDiff, Nat.reduceEqDiff, Nat.reduceSub, Nat.reduceMul, Nat.reduceBEq, Int.reduceBEq, Int.reduceBNe, Int.reduceLT, Int.reduceLE, Int.reduceGT, Int.reduceGE, Int.reduceNeg, Int.reduceEq, Int.reduceNe, Int.reduceToNat, Int.reduceAdd, aconv, acvB, capR, acmpnil, appBox, storeB, ares1, appendTo, afill, aeqL, teset, callK_ret, r0, r3, r44, r45, r46]
                      refine ⟨n - 1, (loopN hn hj).1, j + 1, G + strG ks[j] + valG xs[j], ys ++ strA ks[j] ++ valA xs[j], ?_, ?_, (loopN hn hj).2, hL2.step.step, ?_, ?_⟩
                      · simp only [List.append_assoc]
                      · rw [wrapI hj (by omega)]
                      · rw [← hv]; simp only [List.append_assoc]
                      · rw [← hg]; simp only [Nat.add_assoc]
                    · have := hu nb nt
                      rw [← hv, show xs0 ++ (ys ++ (strA ks[j] ++ (valA xs[j] ++ valL true (xs.drop (j + 1)) (ks.drop (j + 1))))) = (xs0 ++ ys ++ strA ks[j] ++ valA xs[j]) ++ valL true (xs.drop (j + 1)) (ks.drop (j + 1)) by simp only [List.append_assoc]] at this
                      exact underL_left this
                    · simp only [List.length_append] at hlen2 ⊢
                      omega
            | false =>
              have hn5 : ¬ k = 5 := by simpa using h5
              simp only [aw0, aw1, aw2, aw3, aw4, aw5, aw6, aw7, ne_eq, eq_self, implies_true, imp_self, reduceIte, reduceCtorEq, Nat.reduceAdd, Nat.reduceLT, Nat.reduceLeDiff, Nat.reduceEqDiff, Nat.reduceSub, Nat.reduceMul, Nat.reduceBEq, Int.reduceBEq, Int.reduceBNe, Int.reduceLT, Int.reduceLE, Int.reduceGT, Int.reduceGE, Int.reduceNeg, Int.reduceEq, Int.reduceNe, Int.reduceToNat, Int.reduceAdd, aconv, acvB, capR, acmpnil, appBox, storeB, ares1, appendTo, afill, aeqL, teset, boxR, inj_take, inj_drop, inj_agg, inj_len, inj_one, List.length_map, rng1, hb0, ht, List.length_append, List.length_cons, List.length_nil, Nat.zero_add]
              have e1 : valA (.mk k i tx xs ks) = [.int .u8 (IntKind.u8.wrap k)] := by simp [valA, hn1, hn2, hn3, hn4, hn5]
              have e2 : g + valG (.mk k i tx xs ks) = g + 1 := by simp [valG, hn1, hn2, hn3, hn4, hn5]
              rw [e1, e2]
              exact ⟨rfl, CutT.leaf⟩
end Go.Proofs.Ytlbhgoffiigfbaa.AW
end
