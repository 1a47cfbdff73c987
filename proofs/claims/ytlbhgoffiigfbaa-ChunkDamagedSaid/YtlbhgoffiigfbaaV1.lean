/- V, part 1: the values of the program as trees; texts. -/
import Derived.Test.YtlbhgoffiigfbaaTab
import Derived.Test.YtlbhgoffiigfbaaAw26
set_option linter.unusedSimpArgs false
set_option linter.unusedVariables false
namespace Go.Proofs.Ytlbhgoffiigfbaa.AW
open Go Go.RowKit

def okByte (b : UInt8) : Bool := decide (32 ≤ b.toNat) && decide (b.toNat ≤ 126)
def isText (s : ByteArray) : Bool := decide (s.size ≤ 100) && s.data.toList.all okByte
theorem byte_at {s : ByteArray} {i : Nat} (h : i < s.size) : ∃ b, s[i]? = some b ∧ s.data.toList[i]? = some b := by
  refine ⟨s[i], ?_, ?_⟩
  · simp [h]
  · have : i < s.data.size := h
    rw [Array.getElem?_toList, Array.getElem?_eq_getElem this]; rfl
theorem wrap_i64 {n : Int} (h : -4611686018427387904 ≤ n) (h2 : n < 4611686018427387904) : IntKind.i64.wrap n = n := by
  simp only [IntKind.wrap, IntKind.bits, IntKind.signed, Bool.true_and, decide_eq_true_eq, Int.reducePow, Nat.reduceSub]
  split <;> (rename_i hx; simp only [ge_iff_le, decide_eq_true_eq] at hx; omega)
theorem wrap_succ {i : Nat} (h : i + 1 < 4611686018427387904) : IntKind.i64.wrap ((i : Int) + 1) = ((i + 1 : Nat) : Int) := by
  rw [wrap_i64 (by omega) (by omega)]; omega

theorem isText_pure (s : ByteArray) : Pure Try.prog 43 [.str s] (.bool (isText s)) := by
  refine Pure.of ⟨Try.f43, Try.func43, rfl, by kernel_rfl⟩ rfl (fun h => ?_)
  refine acalls_of te_ok [] Try.func43 (c := _) rfl (Nat.le_of_ble_eq_true rfl) ?_
  simp only [aw0, aw1, aw2, aw3, aw4, aw5, aw6, aw7, ne_eq, eq_self, implies_true, imp_self, reduceIte, reduceCtorEq, Nat.reduceAdd, Nat.reduceLT, Nat.reduceLeDiff, Nat.reduceEqDiff, Nat.reduceSub, Nat.reduceMul, Nat.reduceBEq, Int.reduceBEq, Int.reduceBNe, Int.reduceLT, Int.reduceLE, Int.reduceGT, Int.reduceGE, Int.reduceNeg, Int.reduceEq, Int.reduceNe, Int.reduceToNat, Int.reduceAdd, aconv, acvB, capR, acmpnil, appBox, storeB, ares1, appendTo, afill, aeqL, teset, Try.ntmps43, Try.results43]
  refine ck_of (fun hc => ?_) (fun hc => ?_)
  · simp only [aw0, aw1, aw2, aw3, aw4, aw5, aw6, aw7, ne_eq, eq_self, implies_true, imp_self, reduceIte, reduceCtorEq, Nat.reduceAdd, Nat.reduceLT, Nat.reduceLeDiff, Nat.reduceEqDiff, Nat.reduceSub, Nat.reduceMul, Nat.reduceBEq, Int.reduceBEq, Int.reduceBNe, Int.reduceLT, Int.reduceLE, Int.reduceGT, Int.reduceGE, Int.reduceNeg, Int.reduceEq, Int.reduceNe, Int.reduceToNat, Int.reduceAdd, aconv, acvB, capR, acmpnil, appBox, storeB, ares1, appendTo, afill, aeqL, teset]
    refine ⟨.refl h, _, rfl, ?_⟩
    simp only [decide_eq_true_eq] at hc
    have : ¬ s.size ≤ 100 := by omega
    simp [AV.erase, isText, this]
  · simp only [aw0, aw1, aw2, aw3, aw4, aw5, aw6, aw7, ne_eq, eq_self, implies_true, imp_self, reduceIte, reduceCtorEq, Nat.reduceAdd, Nat.reduceLT, Nat.reduceLeDiff, Nat.reduceEqDiff, Nat.reduceSub, Nat.reduceMul, Nat.reduceBEq, Int.reduceBEq, Int.reduceBNe, Int.reduceLT, Int.reduceLE, Int.reduceGT, Int.reduceGE, Int.reduceNeg, Int.reduceEq, Int.reduceNe, Int.reduceToNat, Int.reduceAdd, aconv, acvB, capR, acmpnil, appBox, storeB, ares1, appendTo, afill, aeqL, teset]
    simp only [decide_eq_false_iff_not] at hc
    refine ⟨fun n s' h' => ∃ i : Nat, s' 0 = .str s ∧ s' 3 = .int .i64 i ∧ h' = h ∧ n + i = s.size ∧ (∀ (j : Nat) b, j < i → s.data.toList[j]? = some b → okByte b = true), ⟨s.size, 0, ?_⟩, ?_⟩
    · simp only [aw0, aw1, aw2, aw3, aw4, aw5, aw6, aw7, ne_eq, eq_self, implies_true, imp_self, reduceIte, reduceCtorEq, Nat.reduceAdd, Nat.reduceLT, Nat.reduceLeDiff, Nat.reduceEqDiff, Nat.reduceSub, Nat.reduceMul, Nat.reduceBEq, Int.reduceBEq, Int.reduceBNe, Int.reduceLT, Int.reduceLE, Int.reduceGT, Int.reduceGE, Int.reduceNeg, Int.reduceEq, Int.reduceNe, Int.reduceToNat, Int.reduceAdd, aconv, acvB, capR, acmpnil, appBox, storeB, ares1, appendTo, afill, aeqL]
      exact ⟨rfl, fun j b hj => by omega⟩
    · rintro n s' h' ⟨i, e0, e3, hh, hn, hg⟩
      subst hh
      simp only [aw0, aw1, aw2, aw3, aw4, aw5, aw6, aw7, ne_eq, eq_self, implies_true, imp_self, reduceIte, reduceCtorEq, Nat.reduceAdd, Nat.reduceLT, Nat.reduceLeDiff, Nat.reduceEqDiff, Nat.reduceSub, Nat.reduceMul, Nat.reduceBEq, Int.reduceBEq, Int.reduceBNe, Int.reduceLT, Int.reduceLE, Int.reduceGT, Int.reduceGE, Int.reduceNeg, Int.reduceEq, Int.reduceNe, Int.reduceToNat, Int.reduceAdd, aconv, acvB, capR, acmpnil, appBox, storeB, ares1, appendTo, afill, aeqL, teset, e0, e3]
      refine ck_of (fun hi => ?_) (fun hi => ?_)
      · simp only [decide_eq_true_eq] at hi
        obtain ⟨b, hb1, hb2⟩ := byte_at (s := s) (i := i) (by omega)
        simp only [aw0, aw1, aw2, aw3, aw4, aw5, aw6, aw7, ne_eq, eq_self, implies_true, imp_self, reduceIte, reduceCtorEq, Nat.reduceAdd, Nat.reduceLT, Nat.reduceLeDiff, Nat.reduceEqDiff, Nat.reduceSub, Nat.reduceMul, Nat.reduceBEq, Int.reduceBEq, Int.reduceBNe, Int.reduceLT, Int.reduceLE, Int.reduceGT, Int.reduceGE, Int.reduceNeg, Int.reduceEq, Int.reduceNe, Int.reduceToNat, Int.reduceAdd, aconv, acvB, capR, acmpnil, appBox, storeB, ares1, appendTo, afill, aeqL, teset, e0, e3, Int.toNat_natCast, hb1, Int.natCast_nonneg]
        have hnot : okByte b = false → h'.Ext h' ∧ ∃ u, AOut.ret (AV.bool false) = AOut.ret u ∧ u.erase = AV.bool (isText s) := by
          intro hb
          refine ⟨.refl _, _, rfl, ?_⟩
          have : s.data.toList.all okByte = false := by
            rw [Bool.eq_false_iff]
            intro h1
            rw [List.all_eq_true] at h1
            rw [h1 b (List.mem_of_getElem? hb2)] at hb; cases hb
          simp [AV.erase, isText, this]
        cases hlo : decide ((b.toNat : Int) < 32) with
        | true =>
          simp only [aw0, aw1, aw2, aw3, aw4, aw5, aw6, aw7, ne_eq, eq_self, implies_true, imp_self, reduceIte, reduceCtorEq, Nat.reduceAdd, Nat.reduceLT, Nat.reduceLeDiff, Nat.reduceEqDiff, Nat.reduceSub, Nat.reduceMul, Nat.reduceBEq, Int.reduceBEq, Int.reduceBNe, Int.reduceLT, Int.reduceLE, Int.reduceGT, Int.reduceGE, Int.reduceNeg, Int.reduceEq, Int.reduceNe, Int.reduceToNat, Int.reduceAdd, aconv, acvB, capR, acmpnil, appBox, storeB, ares1, appendTo, afill, aeqL, teset, e0, e3, Int.toNat_natCast, hb1, Int.natCast_nonneg]
          refine hnot ?_
          simp only [decide_eq_true_eq] at hlo
          have : ¬ 32 ≤ b.toNat := by omega
          simp [okByte, this]
        | false =>
          simp only [aw0, aw1, aw2, aw3, aw4, aw5, aw6, aw7, ne_eq, eq_self, implies_true, imp_self, reduceIte, reduceCtorEq, Nat.reduceAdd, Nat.reduceLT, Nat.reduceLeDiff, Nat.reduceEqDiff, Nat.reduceSub, Nat.reduceMul, Nat.reduceBEq, Int.reduceBEq, Int.reduceBNe, Int.reduceLT, Int.reduceLE, Int.reduceGT, Int.reduceGE, Int.reduceNeg, Int.reduceEq, Int.reduceNe, Int.reduceToNat, Int.reduceAdd, aconv, acvB, capR, acmpnil, appBox, storeB, ares1, appendTo, afill, aeqL, teset, e0, e3, Int.toNat_natCast, hb1, Int.natCast_nonneg]
          cases hup : decide ((b.toNat : Int) > 126) with
          | true =>
            simp only [aw0, aw1, aw2, aw3, aw4, aw5, aw6, aw7, ne_eq, eq_self, implies_true, imp_self, reduceIte, reduceCtorEq, Nat.reduceAdd, Nat.reduceLT, Nat.reduceLeDiff, Nat.reduceEqDiff, Nat.reduceSub, Nat.reduceMul, Nat.reduceBEq, Int.reduceBEq, Int.reduceBNe, Int.reduceLT, Int.reduceLE, Int.reduceGT, Int.reduceGE, Int.reduceNeg, Int.reduceEq, Int.reduceNe, Int.reduceToNat, Int.reduceAdd, aconv, acvB, capR, acmpnil, appBox, storeB, ares1, appendTo, afill, aeqL, teset, e0, e3, Int.toNat_natCast, hb1, Int.natCast_nonneg]
            refine hnot ?_
            simp only [decide_eq_true_eq] at hup
            have : ¬ b.toNat ≤ 126 := by omega
            simp [okByte, this]
          | false =>
            simp only [aw0, aw1, aw2, aw3, aw4, aw5, aw6, aw7, ne_eq, eq_self, implies_true, imp_self, reduceIte, reduceCtorEq, Nat.reduceAdd, Nat.reduceLT, Nat.reduceLeDiff, Nat.reduceEqDiff, Nat.reduceSub, Nat.reduceMul, Nat.reduceBEq, Int.reduceBEq, Int.reduceBNe, Int.reduceLT, Int.reduceLE, Int.reduceGT, Int.reduceGE, Int.reduceNeg, Int.reduceEq, Int.reduceNe, Int.reduceToNat, Int.reduceAdd, aconv, acvB, capR, acmpnil, appBox, storeB, ares1, appendTo, afill, aeqL, teset, e0, e3, Int.toNat_natCast, hb1, Int.natCast_nonneg]
            simp only [decide_eq_false_iff_not] at hlo hup
            refine ⟨n - 1, by omega, i + 1, ?_, ?_, ?_⟩
            · rw [wrap_succ (by omega)]
            · omega
            · intro j c hj hjc
              by_cases e : j = i
              · subst e
                rw [hb2] at hjc; injection hjc with hjc; subst hjc
                have h1 : 32 ≤ b.toNat := by omega
                have h2 : b.toNat ≤ 126 := by omega
                simp [okByte, h1, h2]
              · exact hg j c (by omega) hjc
      · simp only [aw0, aw1, aw2, aw3, aw4, aw5, aw6, aw7, ne_eq, eq_self, implies_true, imp_self, reduceIte, reduceCtorEq, Nat.reduceAdd, Nat.reduceLT, Nat.reduceLeDiff, Nat.reduceEqDiff, Nat.reduceSub, Nat.reduceMul, Nat.reduceBEq, Int.reduceBEq, Int.reduceBNe, Int.reduceLT, Int.reduceLE, Int.reduceGT, Int.reduceGE, Int.reduceNeg, Int.reduceEq, Int.reduceNe, Int.reduceToNat, Int.reduceAdd, aconv, acvB, capR, acmpnil, appBox, storeB, ares1, appendTo, afill, aeqL, teset, e0, e3]
        simp only [decide_eq_false_iff_not] at hi
        refine ⟨.refl _, _, rfl, ?_⟩
        have h1 : s.data.toList.all okByte = true := by
          rw [List.all_eq_true]
          intro b hb
          obtain ⟨j, hj⟩ := List.mem_iff_getElem?.1 hb
          have hlt := (List.getElem?_eq_some_iff.1 hj).1
          have : s.data.toList.length = s.size := by simp
          exact hg j b (by omega) hj
        have : s.size ≤ 100 := by omega
        simp [AV.erase, isText, this, h1]
end Go.Proofs.Ytlbhgoffiigfbaa.AW
