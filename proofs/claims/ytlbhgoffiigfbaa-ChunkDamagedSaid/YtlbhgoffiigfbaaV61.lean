/- V, part 61: Sum, of the program and of the reference. -/
import Derived.Test.YtlbhgoffiigfbaaTab
import Derived.Test.YtlbhgoffiigfbaaP5
import Derived.Test.YtlbhgoffiigfbaaAw28
set_option linter.unusedSimpArgs false
set_option linter.unusedVariables false
namespace Go.Proofs.Ytlbhgoffiigfbaa.AW
open Go Go.RowKit

theorem wrapS {n : Int} (h : -4611686018427387904 ≤ n) (h2 : n < 4611686018427387904) : IntKind.i64.wrap n = n := by
  simp only [IntKind.wrap, IntKind.bits, IntKind.signed, Bool.true_and, decide_eq_true_eq, Int.reducePow, Nat.reduceSub]
  split <;> (rename_i hx; simp only [ge_iff_le, decide_eq_true_eq] at hx; omega)
theorem byteS {s : ByteArray} {i : Nat} (h : i < s.size) : ∃ b, s[i]? = some b ∧ s.data.toList[i]? = some b := by
  refine ⟨s[i], by simp [h], ?_⟩
  have : i < s.data.size := h
  rw [Array.getElem?_toList, Array.getElem?_eq_getElem this]; rfl
theorem stepA {a x : Nat} (ha : a < 65521) (hx : x < 256) : (IntKind.i64.wrap ((a : Int) + IntKind.i64.wrap (x : Int))).tmod 65521 = (((a + x) % 65521 : Nat) : Int) := by
  rw [wrapS (n := (x : Int)) (by omega) (by omega), wrapS (by omega) (by omega), Int.tmod_eq_emod_of_nonneg (by omega)]
  omega
theorem stepB {b c : Nat} (hb : b < 65521) (hc : c < 65521) : (IntKind.i64.wrap ((b : Int) + (c : Int))).tmod 65521 = (((b + c) % 65521 : Nat) : Int) := by
  rw [wrapS (by omega) (by omega), Int.tmod_eq_emod_of_nonneg (by omega)]
  omega
theorem lastP {a b : Nat} (ha : a < 65521) (hb : b < 65521) : IntKind.i64.wrap (IntKind.i64.wrap ((b : Int) * 2 ^ min 16 IntKind.i64.bits) + (a : Int)) = ((b * 65536 + a : Nat) : Int) := by
  have h1 : (2 : Int) ^ min 16 IntKind.i64.bits = 65536 := by decide
  rw [h1, wrapS (n := (b : Int) * 65536) (by omega) (by omega), wrapS (by omega) (by omega)]
  omega
theorem lastR {a b : Nat} (ha : a < 65521) (hb : b < 65521) : IntKind.i64.wrap (IntKind.i64.wrap ((b : Int) * 65536) + (a : Int)) = ((b * 65536 + a : Nat) : Int) := by
  rw [wrapS (n := (b : Int) * 65536) (by omega) (by omega), wrapS (by omega) (by omega)]
  omega
theorem dropS {l : List UInt8} {i : Nat} {x : UInt8} (h : l[i]? = some x) : l.drop i = x :: l.drop (i + 1) := by
  obtain ⟨hlt, he⟩ := List.getElem?_eq_some_iff.1 h
  rw [List.drop_eq_getElem_cons hlt, he]
theorem wrapI {i m : Nat} (h : i < m) (hm : m < 4611686018427387904) : IntKind.i64.wrap ((i : Int) + 1) = ((i + 1 : Nat) : Int) := by
  rw [wrapS (by omega) (by omega)]; omega
theorem addN {n i m : Nat} (h : n + i = m) (hi : i < m) : n - 1 < n ∧ n - 1 + (i + 1) = m := by omega
theorem sum_pure (s : ByteArray) (hs : s.size < 4611686018427387904) : Pure Try.prog 12 [.str s] (.int .i64 (sumS s.data.toList)) := by
  refine Pure.of ⟨Try.f12, Try.func12, rfl, by kernel_rfl⟩ rfl (fun h => ?_)
  refine acalls_of te_ok [] Try.func12 (c := _) rfl (Nat.le_of_ble_eq_true rfl) ?_
  simp only [aw0, aw1, aw2, aw3, aw4, aw5, aw6, aw7, ne_eq, eq_self, implies_true, imp_self, reduceIte, reduceCtorEq, Nat.reduceAdd, Nat.reduceLT, Nat.reduceLeDiff, Nat.reduceEqDiff, Nat.reduceSub, Nat.reduceMul, Nat.reduceBEq, Int.reduceBEq, Int.reduceBNe, Int.reduceLT, Int.reduceLE, Int.reduceGT, Int.reduceGE, Int.reduceNeg, Int.reduceEq, Int.reduceNe, Int.reduceToNat, Int.reduceAdd, aconv, acvB, capR, acmpnil, appBox, storeB, ares1, appendTo, afill, aeqL, teset, Try.ntmps12, Try.results12]
  refine ⟨fun n s' h' => ∃ (i a b : Nat), s' 0 = .str s ∧ s' 7 = .int .i64 s.size ∧ s' 8 = .int .i64 i ∧ s' 3 = .int .i64 a ∧ s' 4 = .int .i64 b ∧ h' = h ∧ n + i = s.size ∧ a < 65521 ∧ b < 65521 ∧ sumF (s.data.toList.drop i) a b = sumF s.data.toList 1 0, ⟨s.size, 0, 1, 0, ?_⟩, ?_⟩
  · simp only [aw0, aw1, aw2, aw3, aw4, aw5, aw6, aw7, ne_eq, eq_self, implies_true, imp_self, reduceIte, reduceCtorEq, Nat.reduceAdd, Nat.reduceLT, Nat.reduceLeDiff, Nat.reduceEqDiff, Nat.reduceSub, Nat.reduceMul, Nat.reduceBEq, Int.reduceBEq, Int.reduceBNe, Int.reduceLT, Int.reduceLE, Int.reduceGT, Int.reduceGE, Int.reduceNeg, Int.reduceEq, Int.reduceNe, Int.reduceToNat, Int.reduceAdd, aconv, acvB, capR, acmpnil, appBox, storeB, ares1, appendTo, afill, aeqL, teset, Int.natCast_zero, Int.natCast_one, List.drop_zero]
  · rintro n s' h' ⟨i, a, b, e0, e7, e8, e3, e4, hh, hn, ha, hb, hf⟩
    subst hh
    simp only [aw0, aw1, aw2, aw3, aw4, aw5, aw6, aw7, ne_eq, eq_self, implies_true, imp_self, reduceIte, reduceCtorEq, Nat.reduceAdd, Nat.reduceLT, Nat.reduceLeDiff, Nat.reduceEqDiff, Nat.reduceSub, Nat.reduceMul, Nat.reduceBEq, Int.reduceBEq, Int.reduceBNe, Int.reduceLT, Int.reduceLE, Int.reduceGT, Int.reduceGE, Int.reduceNeg, Int.reduceEq, Int.reduceNe, Int.reduceToNat, Int.reduceAdd, aconv, acvB, capR, acmpnil, appBox, storeB, ares1, appendTo, afill, aeqL, teset, e0, e7, e8, e3, e4]
    cases hc : decide ((i : Int) < (s.size : Int)) with
    | false =>
      simp only [aw0, aw1, aw2, aw3, aw4, aw5, aw6, aw7, ne_eq, eq_self, implies_true, imp_self, reduceIte, reduceCtorEq, Nat.reduceAdd, Nat.reduceLT, Nat.reduceLeDiff, Nat.reduceEqDiff, Nat.reduceSub, Nat.reduceMul, Nat.reduceBEq, Int.reduceBEq, Int.reduceBNe, Int.reduceLT, Int.reduceLE, Int.reduceGT, Int.reduceGE, Int.reduceNeg, Int.reduceEq, Int.reduceNe, Int.reduceToNat, Int.reduceAdd, aconv, acvB, capR, acmpnil, appBox, storeB, ares1, appendTo, afill, aeqL, teset, e0, e7, e8, e3, e4]
      refine ⟨.refl _, _, rfl, ?_⟩
      simp only [decide_eq_false_iff_not] at hc
      rw [List.drop_eq_nil_of_le (by have : s.data.toList.length = s.size := by simp
                                     omega)] at hf
      simp only [AV.erase]
      rw [lastP ha hb]
      unfold sumS
      rw [← hf]; rfl
    | true =>
      simp only [decide_eq_true_eq] at hc
      have hi : i < s.size := Int.ofNat_lt.1 hc
      obtain ⟨x, hx1, hx2⟩ := byteS hi
      simp only [aw0, aw1, aw2, aw3, aw4, aw5, aw6, aw7, ne_eq, eq_self, implies_true, imp_self, reduceIte, reduceCtorEq, Nat.reduceAdd, Nat.reduceLT, Nat.reduceLeDiff, Nat.reduceEqDiff, Nat.reduceSub, Nat.reduceMul, Nat.reduceBEq, Int.reduceBEq, Int.reduceBNe, Int.reduceLT, Int.reduceLE, Int.reduceGT, Int.reduceGE, Int.reduceNeg, Int.reduceEq, Int.reduceNe, Int.reduceToNat, Int.reduceAdd, aconv, acvB, capR, acmpnil, appBox, storeB, ares1, appendTo, afill, aeqL, teset, e0, e7, e8, e3, e4, Int.toNat_natCast, hx1, Int.natCast_nonneg]
      have hx8 := x.toNat_lt
      rw [stepA ha hx8, stepB hb (Nat.mod_lt _ (by decide)), wrapI hi hs]
      rw [dropS hx2] at hf
      exact ⟨n - 1, (addN hn hi).1, i + 1, _, _, rfl, rfl, rfl, (addN hn hi).2, Nat.mod_lt _ (by decide), Nat.mod_lt _ (by decide), hf⟩
theorem refsum_pure (s : ByteArray) (hs : s.size < 4611686018427387904) : Pure Try.prog 13 [.str s] (.int .i64 (sumS s.data.toList)) := by
  refine Pure.of ⟨Try.f13, Try.func13, rfl, by kernel_rfl⟩ rfl (fun h => ?_)
  refine acalls_of te_ok [] Try.func13 (c := _) rfl (Nat.le_of_ble_eq_true rfl) ?_
  simp only [aw0, aw1, aw2, aw3, aw4, aw5, aw6, aw7, ne_eq, eq_self, implies_true, imp_self, reduceIte, reduceCtorEq, Nat.reduceAdd, Nat.reduceLT, Nat.reduceLeDiff, Nat.reduceEqDiff, Nat.reduceSub, Nat.reduceMul, Nat.reduceBEq, Int.reduceBEq, Int.reduceBNe, Int.reduceLT, Int.reduceLE, Int.reduceGT, Int.reduceGE, Int.reduceNeg, Int.reduceEq, Int.reduceNe, Int.reduceToNat, Int.reduceAdd, aconv, acvB, capR, acmpnil, appBox, storeB, ares1, appendTo, afill, aeqL, teset, Try.ntmps13, Try.results13]
  refine ⟨fun n s' h' => ∃ (i a b : Nat), s' 0 = .str s ∧ s' 5 = .int .i64 i ∧ s' 3 = .int .i64 a ∧ s' 4 = .int .i64 b ∧ h' = h ∧ n + i = s.size ∧ a < 65521 ∧ b < 65521 ∧ sumF (s.data.toList.drop i) a b = sumF s.data.toList 1 0, ⟨s.size, 0, 1, 0, ?_⟩, ?_⟩
  · simp only [aw0, aw1, aw2, aw3, aw4, aw5, aw6, aw7, ne_eq, eq_self, implies_true, imp_self, reduceIte, reduceCtorEq, Nat.reduceAdd, Nat.reduceLT, Nat.reduceLeDiff, Nat.reduceEqDiff, Nat.reduceSub, Nat.reduceMul, Nat.reduceBEq, Int.reduceBEq, Int.reduceBNe, Int.reduceLT, Int.reduceLE, Int.reduceGT, Int.reduceGE, Int.reduceNeg, Int.reduceEq, Int.reduceNe, Int.reduceToNat, Int.reduceAdd, aconv, acvB, capR, acmpnil, appBox, storeB, ares1, appendTo, afill, aeqL, teset, Int.natCast_zero, Int.natCast_one, List.drop_zero]
  · rintro n s' h' ⟨i, a, b, e0, e5, e3, e4, hh, hn, ha, hb, hf⟩
    subst hh
    simp only [aw0, aw1, aw2, aw3, aw4, aw5, aw6, aw7, ne_eq, eq_self, implies_true, imp_self, reduceIte, reduceCtorEq, Nat.reduceAdd, Nat.reduceLT, Nat.reduceLeDiff, Nat.reduceEqDiff, Nat.reduceSub, Nat.reduceMul, Nat.reduceBEq, Int.reduceBEq, Int.reduceBNe, Int.reduceLT, Int.reduceLE, Int.reduceGT, Int.reduceGE, Int.reduceNeg, Int.reduceEq, Int.reduceNe, Int.reduceToNat, Int.reduceAdd, aconv, acvB, capR, acmpnil, appBox, storeB, ares1, appendTo, afill, aeqL, teset, e0, e5, e3, e4]
    cases hc : decide ((i : Int) < (s.size : Int)) with
    | false =>
      simp only [aw0, aw1, aw2, aw3, aw4, aw5, aw6, aw7, ne_eq, eq_self, implies_true, imp_self, reduceIte, reduceCtorEq, Nat.reduceAdd, Nat.reduceLT, Nat.reduceLeDiff, Nat.reduceEqDiff, Nat.reduceSub, Nat.reduceMul, Nat.reduceBEq, Int.reduceBEq, Int.reduceBNe, Int.reduceLT, Int.reduceLE, Int.reduceGT, Int.reduceGE, Int.reduceNeg, Int.reduceEq, Int.reduceNe, Int.reduceToNat, Int.reduceAdd, aconv, acvB, capR, acmpnil, appBox, storeB, ares1, appendTo, afill, aeqL, teset, e0, e5, e3, e4]
      refine ⟨.refl _, _, rfl, ?_⟩
      simp only [decide_eq_false_iff_not] at hc
      rw [List.drop_eq_nil_of_le (by have : s.data.toList.length = s.size := by simp
                                     omega)] at hf
      simp only [AV.erase]
      rw [lastR ha hb]
      unfold sumS
      rw [← hf]; rfl
    | true =>
      simp only [decide_eq_true_eq] at hc
      have hi : i < s.size := Int.ofNat_lt.1 hc
      obtain ⟨x, hx1, hx2⟩ := byteS hi
      simp only [aw0, aw1, aw2, aw3, aw4, aw5, aw6, aw7, ne_eq, eq_self, implies_true, imp_self, reduceIte, reduceCtorEq, Nat.reduceAdd, Nat.reduceLT, Nat.reduceLeDiff, Nat.reduceEqDiff, Nat.reduceSub, Nat.reduceMul, Nat.reduceBEq, Int.reduceBEq, Int.reduceBNe, Int.reduceLT, Int.reduceLE, Int.reduceGT, Int.reduceGE, Int.reduceNeg, Int.reduceEq, Int.reduceNe, Int.reduceToNat, Int.reduceAdd, aconv, acvB, capR, acmpnil, appBox, storeB, ares1, appendTo, afill, aeqL, teset, e0, e5, e3, e4, Int.toNat_natCast, hx1, Int.natCast_nonneg]
      have hx8 := x.toNat_lt
      rw [stepA ha hx8, stepB hb (Nat.mod_lt _ (by decide)), wrapI hi hs]
      rw [dropS hx2] at hf
      exact ⟨n - 1, (addN hn hi).1, i + 1, _, _, rfl, rfl, rfl, (addN hn hi).2, Nat.mod_lt _ (by decide), Nat.mod_lt _ (by decide), hf⟩
end Go.Proofs.Ytlbhgoffiigfbaa.AW
