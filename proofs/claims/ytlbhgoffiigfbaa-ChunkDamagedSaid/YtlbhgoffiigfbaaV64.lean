/- V, part 64: addInt and AddText. -/
import Derived.Test.YtlbhgoffiigfbaaV63
set_option linter.unusedSimpArgs false
set_option linter.unusedVariables false
namespace Go.Proofs.Ytlbhgoffiigfbaa.AW
open Go Go.RowKit

/-- The number under which an int is written. -/
def zig (i : Int) : Nat := if i < 0 then (-2 * i - 1).toNat else (2 * i).toNat
theorem zig_lt {i : Int} (h1 : -1000000000000000000 ≤ i) (h2 : i ≤ 1000000000000000000) : zig i < 9223372036854775808 := by unfold zig; split <;> omega
theorem numA_len (n : Nat) (hn : n < 9223372036854775808) : (numA n).length ≤ 9 := by
  have key : ∀ (k n : Nat), n < 128 ^ (k + 1) → (numL n).length ≤ k + 1 := by
    intro k
    induction k with
    | zero => intro n h; rw [numL_small (by omega)]; exact Nat.le_refl _
    | succ k ih =>
      intro n h
      by_cases hb : 127 < n
      · rw [numL_big hb]
        have := ih (n / 128) (by rw [Nat.div_lt_iff_lt_mul (by decide)]; rwa [Nat.pow_succ] at h)
        simp only [List.length_cons]; omega
      · rw [numL_small hb]; simp
  have := key 8 n (Nat.lt_of_lt_of_le hn (by decide))
  unfold numA
  rw [List.length_map]; exact this
theorem addint_tok (xs : List AV) (i : Int) (t g : Nat) (h1 : -1000000000000000000 ≤ i) (h2 : i ≤ 1000000000000000000) (hx : xs.length < 1000000000) (h : AH) (ht : h.tok t = some g) :
    ACalls Try.prog 78 [.sl (.tok t g) 1 xs, .int .i64 i] h fun out h' => out = .ret (.sl (.tok t (g + (numA (zig i)).length)) 1 (xs ++ numA (zig i))) ∧ h' = h.setTok t (g + (numA (zig i)).length) := by
  refine acalls_of te_ok [] Try.func78 (c := _) rfl (Nat.le_of_ble_eq_true rfl) ?_
  simp only [aw0, aw1, aw2, aw3, aw4, aw5, aw6, aw7, ne_eq, eq_self, implies_true, imp_self, reduceIte, reduceCtorEq, Nat.reduceAdd, Nat.reduceLT, Nat.reduceLeDiff, Nat.reduceEqDiff, Nat.reduceSub, Nat.reduceMul, Nat.reduceBEq, Int.reduceBEq, Int.reduceBNe, Int.reduceLT, Int.reduceLE, Int.reduceGT, Int.reduceGE, Int.reduceNeg, Int.reduceEq, Int.reduceNe, Int.reduceToNat, Int.reduceAdd, aconv, acvB, capR, acmpnil, appBox, storeB, ares1, appendTo, afill, aeqL, teset, Try.ntmps78, Try.results78]
  have hz := zig_lt h1 h2
  cases hc : decide (i < 0) with
  | true =>
    simp only [decide_eq_true_eq] at hc
    have hw : IntKind.i64.wrap (IntKind.i64.wrap (-2 * i) - 1) = (zig i : Int) := by
      rw [wrapS (n := -2 * i) (by omega) (by omega), wrapS (by omega) (by omega)]
      unfold zig; rw [if_pos hc]; omega
    simp only [aw0, aw1, aw2, aw3, aw4, aw5, aw6, aw7, ne_eq, eq_self, implies_true, imp_self, reduceIte, reduceCtorEq, Nat.reduceAdd, Nat.reduceLT, Nat.reduceLeDiff, Nat.reduceEqDiff, Nat.reduceSub, Nat.reduceMul, Nat.reduceBEq, Int.reduceBEq, Int.reduceBNe, Int.reduceLT, Int.reduceLE, Int.reduceGT, Int.reduceGE, Int.reduceNeg, Int.reduceEq, Int.reduceNe, Int.reduceToNat, Int.reduceAdd, aconv, acvB, capR, acmpnil, appBox, storeB, ares1, appendTo, afill, aeqL, teset, hw]
    refine ACallV.mono ?_ (ACallV.of ⟨Try.f22, Try.func22, rfl, by kernel_rfl⟩ (addnum_tok xs (zig i) t g hz hx h ht))
    rintro out h' ⟨rfl, rfl⟩
    simp only [aw0, aw1, aw2, aw3, aw4, aw5, aw6, aw7, ne_eq, eq_self, implies_true, imp_self, reduceIte, reduceCtorEq, Nat.reduceAdd, Nat.reduceLT, Nat.reduceLeDiff, Nat.reduceEqDiff, Nat.reduceSub, Nat.reduceMul, Nat.reduceBEq, Int.reduceBEq, Int.reduceBNe, Int.reduceLT, Int.reduceLE, Int.reduceGT, Int.reduceGE, Int.reduceNeg, Int.reduceEq, Int.reduceNe, Int.reduceToNat, Int.reduceAdd, aconv, acvB, capR, acmpnil, appBox, storeB, ares1, appendTo, afill, aeqL, teset, callK_ret]
  | false =>
    simp only [decide_eq_false_iff_not] at hc
    have hw : IntKind.i64.wrap (2 * i) = (zig i : Int) := by
      rw [wrapS (by omega) (by omega)]
      unfold zig; rw [if_neg hc]; omega
    simp only [aw0, aw1, aw2, aw3, aw4, aw5, aw6, aw7, ne_eq, eq_self, implies_true, imp_self, reduceIte, reduceCtorEq, Nat.reduceAdd, Nat.reduceLT, Nat.reduceLeDiff, Nat.reduceEqDiff, Nat.reduceSub, Nat.reduceMul, Nat.reduceBEq, Int.reduceBEq, Int.reduceBNe, Int.reduceLT, Int.reduceLE, Int.reduceGT, Int.reduceGE, Int.reduceNeg, Int.reduceEq, Int.reduceNe, Int.reduceToNat, Int.reduceAdd, aconv, acvB, capR, acmpnil, appBox, storeB, ares1, appendTo, afill, aeqL, teset, hw]
    refine ACallV.mono ?_ (ACallV.of ⟨Try.f22, Try.func22, rfl, by kernel_rfl⟩ (addnum_tok xs (zig i) t g hz hx h ht))
    rintro out h' ⟨rfl, rfl⟩
    simp only [aw0, aw1, aw2, aw3, aw4, aw5, aw6, aw7, ne_eq, eq_self, implies_true, imp_self, reduceIte, reduceCtorEq, Nat.reduceAdd, Nat.reduceLT, Nat.reduceLeDiff, Nat.reduceEqDiff, Nat.reduceSub, Nat.reduceMul, Nat.reduceBEq, Int.reduceBEq, Int.reduceBNe, Int.reduceLT, Int.reduceLE, Int.reduceGT, Int.reduceGE, Int.reduceNeg, Int.reduceEq, Int.reduceNe, Int.reduceToNat, Int.reduceAdd, aconv, acvB, capR, acmpnil, appBox, storeB, ares1, appendTo, afill, aeqL, teset, callK_ret]
/-- A text's bytes. -/
def strA (s : ByteArray) : List AV := numA s.size ++ s.data.toList.map fun (b : UInt8) => AV.int .u8 (b.toNat : Int)
def strG (s : ByteArray) : Nat := (numA s.size).length + if s.size = 0 then 0 else 1
theorem addtext_tok (xs : List AV) (s : ByteArray) (t g : Nat) (hs : s.size < 1000000000) (hx : xs.length < 1000000000) (h : AH) (ht : h.tok t = some g) :
    ACalls Try.prog 79 [.sl (.tok t g) 1 xs, .str s] h fun out h' => out = .ret (.sl (.tok t (g + strG s)) 1 (xs ++ strA s)) ∧ h' = h.setTok t (g + strG s) := by
  refine acalls_of te_ok [] Try.func79 (c := _) rfl (Nat.le_of_ble_eq_true rfl) ?_
  simp only [aw0, aw1, aw2, aw3, aw4, aw5, aw6, aw7, ne_eq, eq_self, implies_true, imp_self, reduceIte, reduceCtorEq, Nat.reduceAdd, Nat.reduceLT, Nat.reduceLeDiff, Nat.reduceEqDiff, Nat.reduceSub, Nat.reduceMul, Nat.reduceBEq, Int.reduceBEq, Int.reduceBNe, Int.reduceLT, Int.reduceLE, Int.reduceGT, Int.reduceGE, Int.reduceNeg, Int.reduceEq, Int.reduceNe, Int.reduceToNat, Int.reduceAdd, aconv, acvB, capR, acmpnil, appBox, storeB, ares1, appendTo, afill, aeqL, teset, Try.ntmps79, Try.results79]
  refine ACallV.mono ?_ (ACallV.of ⟨Try.f22, Try.func22, rfl, by kernel_rfl⟩ (addnum_tok xs s.size t g (by omega) hx h ht))
  rintro out h' ⟨rfl, rfl⟩
  have hnl := numA_len s.size (by omega)
  have hlen : s.data.toList.length = s.size := by simp
  have hbd : ((xs ++ numA s.size).length + (s.data.toList.map fun (b : UInt8) => AV.int .u8 (b.toNat : Int)).length) * 1 ≤ 140737488355328 := by
    rw [List.length_append, List.length_map, hlen]; omega
  cases hl : s.data.toList with
  | nil =>
    have h0 : s.size = 0 := by rw [hl] at hlen; exact hlen.symm
    rw [hl] at hbd
    simp only [List.map_nil, List.length_nil, Nat.add_zero] at hbd
    simp only [aw0, aw1, aw2, aw3, aw4, aw5, aw6, aw7, ne_eq, eq_self, implies_true, imp_self, reduceIte, reduceCtorEq, Nat.reduceAdd, Nat.reduceLT, Nat.reduceLeDiff, Nat.reduceEqDiff, Nat.reduceSub, Nat.reduceMul, Nat.reduceBEq, Int.reduceBEq, Int.reduceBNe, Int.reduceLT, Int.reduceLE, Int.reduceGT, Int.reduceGE, Int.reduceNeg, Int.reduceEq, Int.reduceNe, Int.reduceToNat, Int.reduceAdd, aconv, acvB, capR, acmpnil, appBox, storeB, ares1, appendTo, afill, aeqL, teset, callK_ret, hbd, hl, List.map_nil]
    unfold strA strG
    rw [hl, if_pos h0]
    exact ⟨by simp, rfl⟩
  | cons x l =>
    have h0 : ¬ s.size = 0 := by rw [hl] at hlen; simp at hlen; omega
    rw [hl] at hbd
    simp only [List.map_cons, List.length_cons] at hbd
    simp only [aw0, aw1, aw2, aw3, aw4, aw5, aw6, aw7, ne_eq, eq_self, implies_true, imp_self, reduceIte, reduceCtorEq, Nat.reduceAdd, Nat.reduceLT, Nat.reduceLeDiff, Nat.reduceEqDiff, Nat.reduceSub, Nat.reduceMul, Nat.reduceBEq, Int.reduceBEq, Int.reduceBNe, Int.reduceLT, Int.reduceLE, Int.reduceGT, Int.reduceGE, Int.reduceNeg, Int.reduceEq, Int.reduceNe, Int.reduceToNat, Int.reduceAdd, aconv, acvB, capR, acmpnil, appBox, storeB, ares1, appendTo, afill, aeqL, teset, callK_ret, hbd, hl, List.map_cons]
    unfold strA strG
    rw [hl, if_neg h0]
    exact ⟨by simp [Nat.add_assoc], by rw [setTok_setTok, Nat.add_assoc]⟩
end Go.Proofs.Ytlbhgoffiigfbaa.AW
