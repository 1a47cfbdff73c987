/- Texts of this claim, part 1: V1, V2, V3, V4. -/
import Derived.Test.YtlbhgoffiigfbaaTab
import Derived.Test.YtlbhgoffiigfbaaAw26
section
set_option linter.unusedSimpArgs false
set_option linter.unusedVariables false
namespace Go.Proofs.Ytlbhgoffiigfbaa.AW
open Go Go.RowKit

def okByte (b : UInt8) : Bool := decide (32 ≤ b.toNat) && decide (b.toNat ≤ 126)
def isText (s : ByteArray) : Bool := decide (s.size ≤ 100) && s.data.toList.all okByte
theorem byte_at {s : ByteArray} {i : Nat} (h : i < s.size) : ∃ b, s[i]? = some b ∧ s.data.toList[i]? = some b := by
  refine ⟨s[i], ?_, ?_⟩
  · simp [h]
  · have : i < s.data.size := h
    rw [Array.getElem?_toList, Array.getElem?_eq_getElem this]; rfl
theorem wrap_i64 {n : Int} (h : -4611686018427387904 ≤ n) (h2 : n < 4611686018427387904) : IntKind.i64.wrap n = n := by
  simp only [IntKind.wrap, IntKind.bits, IntKind.signed, Bool.true_and, decide_eq_true_eq, Int.reducePow, Nat.reduceSub]
  split <;> (rename_i hx; simp only [ge_iff_le, decide_eq_true_eq] at hx; omega)
theorem wrap_succ {i : Nat} (h : i + 1 < 4611686018427387904) : IntKind.i64.wrap ((i : Int) + 1) = ((i + 1 : Nat) : Int) := by
  rw [wrap_i64 (by omega) (by omega)]; omega

theorem isText_pure (s : ByteArray) : Pure Try.prog 43 [.str s] (.bool (isText s)) := by
  refine Pure.of ⟨Try.f43, Try.func43, rfl, by kernel_rfl⟩ rfl (fun h => ?_)
  refine acalls_of te_ok [] Try.func43 (c := _) rfl (Nat.le_of_ble_eq_true rfl) ?_
  simp only [aw0, aw1, aw2, aw3, aw4, aw5, aw6, aw7, ne_eq, eq_self, implies_true, imp_self, reduceIte, reduceCtorEq, Nat.reduceAdd, Nat.reduceLT, Nat.reduceLeDiff, Nat.reduceEqDiff, Nat.reduceSub, Nat.reduceMul, Nat.reduceBEq, Int.reduceBEq, Int.reduceBNe, Int.reduceLT, Int.reduceLE, Int.reduceGT, Int.reduceGE, Int.reduceNeg, Int.reduceEq, Int.reduceNe, Int.reduceToNat, Int.reduceAdd, aconv, acvB, capR, acmpnil, appBox, storeB, ares1, appendTo, afill, aeqL, teset, Try.ntmps43, Try.results43]
  refine ck_of (fun hc => ?_) (fun hc => ?_)
  · simp only [aw0, aw1, aw2, aw3, aw4, aw5, aw6, aw7, ne_eq, eq_self, implies_true, imp_self, reduceIte, reduceCtorEq, Nat.reduceAdd, Nat.reduceLT, Nat.reduceLeDiff, Nat.reduceEqDiff, Nat.reduceSub, Nat.reduceMul, Nat.reduceBEq, Int.reduceBEq, Int.reduceBNe, Int.reduceLT, Int.reduceLE, Int.reduceGT, Int.reduceGE, Int.reduceNeg, Int.reduceEq, Int.reduceNe, Int.reduceToNat, Int.reduceAdd, aconv, acvB, capR, acmpnil, appBox, storeB, ares1, appendTo, afill, aeqL, teset]
    refine ⟨.refl h, _, rfl, ?_⟩
    simp only [decide_eq_true_eq] at hc
    have : ¬ s.size ≤ 100 := by omega
    simp [AV.erase, isText, this]
  · simp only [aw0, aw1, aw2, aw3, aw4, aw5, aw6, aw7, ne_eq, eq_self, implies_true, imp_self, reduceIte, reduceCtorEq, Nat.reduceAdd, Nat.reduceLT, Nat.reduceLeDiff, Nat.reduceEqDiff, Nat.reduceSub, Nat.reduceMul, Nat.reduceBEq, Int.reduceBEq, Int.reduceBNe, Int.reduceLT, Int.reduceLE, Int.reduceGT, Int.reduceGE, Int.reduceNeg, Int.reduceEq, Int.reduceNe, Int.reduceToNat, Int.reduceAdd, aconv, acvB, capR, acmpnil, appBox, storeB, ares1, appendTo, afill, aeqL, teset]
    simp only [decide_eq_false_iff_not] at hc
    refine ⟨fun n s' h' => ∃ i : Nat, s' 0 = .str s ∧ s' 3 = .int .i64 i ∧ h' = h ∧ n + i = s.size ∧ (∀ (j : Nat) b, j < i → s.data.toList[j]? = some b → okByte b = true), ⟨s.size, 0, ?_⟩, ?_⟩
    · simp only [aw0, aw1, aw2, aw3, aw4, aw5, aw6, aw7, ne_eq, eq_self, implies_true, imp_self, reduceIte, reduceCtorEq, Nat.reduceAdd, Nat.reduceLT, Nat.reduceLeDiff, Nat.reduceEqDiff, Nat.reduceSub, Nat.reduceMul, Nat.reduceBEq, Int.reduceBEq, Int.reduceBNe, Int.reduceLT, Int.reduceLE, Int.reduceGT, Int.reduceGE, Int.reduceNeg, Int.reduceEq, Int.reduceNe, Int.reduceToNat, Int.reduceAdd, aconv, acvB, capR, acmpnil, appBox, storeB, ares1, appendTo, afill, aeqL]
      exact ⟨rfl, fun j b hj => by omega⟩
    · rintro n s' h' ⟨i, e0, e3, hh, hn, hg⟩
      subst hh
      simp only [aw0, aw1, aw2, aw3, aw4, aw5, aw6, aw7, ne_eq, eq_self, implies_true, imp_self, reduceIte, reduceCtorEq, Nat.reduceAdd, Nat.reduceLT, Nat.reduceLeDiff, Nat.reduceEqDiff, Nat.reduceSub, Nat.reduceMul, Nat.reduceBEq, Int.reduceBEq, Int.reduceBNe, Int.reduceLT, Int.reduceLE, Int.reduceGT, Int.reduceGE, Int.reduceNeg, Int.reduceEq, Int.reduceNe, Int.reduceToNat, Int.reduceAdd, aconv, acvB, capR, acmpnil, appBox, storeB, ares1, appendTo, afill, aeqL, teset, e0, e3]
      refine ck_of (fun hi => ?_) (fun hi => ?_)
      · simp only [decide_eq_true_eq] at hi
        obtain ⟨b, hb1, hb2⟩ := byte_at (s := s) (i := i) (by omega)
        simp only [aw0, aw1, aw2, aw3, aw4, aw5, aw6, aw7, ne_eq, eq_self, implies_true, imp_self, reduceIte, reduceCtorEq, Nat.reduceAdd, Nat.reduceLT, Nat.reduceLeDiff, Nat.reduceEqDiff, Nat.reduceSub, Nat.reduceMul, Nat.reduceBEq, Int.reduceBEq, Int.reduceBNe, Int.reduceLT, Int.reduceLE, Int.reduceGT, Int.reduceGE, Int.reduceNeg, Int.reduceEq, Int.reduceNe, Int.reduceToNat, Int.reduceAdd, aconv, acvB, capR, acmpnil, appBox, storeB, ares1, appendTo, afill, aeqL, teset, e0, e3, Int.toNat_natCast, hb1, Int.natCast_nonneg]
        have hnot : okByte b = false → h'.Ext h' ∧ ∃ u, AOut.ret (AV.bool false) = AOut.ret u ∧ u.erase = AV.bool (isText s) := by
          intro hb
          refine ⟨.refl _, _, rfl, ?_⟩
          have : s.data.toList.all okByte = false := by
            rw [Bool.eq_false_iff]
            intro h1
            rw [List.all_eq_true] at h1
            rw [h1 b (List.mem_of_getElem? hb2)] at hb; cases hb
          simp [AV.erase, isText, this]
        cases hlo : decide ((b.toNat : Int) < 32) with
        | true =>
          simp only [aw0, aw1, aw2, aw3, aw4, aw5, aw6, aw7, ne_eq, eq_self, implies_true, imp_self, reduceIte, reduceCtorEq, Nat.reduceAdd, Nat.reduceLT, Nat.reduceLeDiff, Nat.reduceEqDiff, Nat.reduceSub, Nat.reduceMul, Nat.reduceBEq, Int.reduceBEq, Int.reduceBNe, Int.reduceLT, Int.reduceLE, Int.reduceGT, Int.reduceGE, Int.reduceNeg, Int.reduceEq, Int.reduceNe, Int.reduceToNat, Int.reduceAdd, aconv, acvB, capR, acmpnil, appBox, storeB, ares1, appendTo, afill, aeqL, teset, e0, e3, Int.toNat_natCast, hb1, Int.natCast_nonneg]
          refine hnot ?_
          simp only [decide_eq_true_eq] at hlo
          have : ¬ 32 ≤ b.toNat := by omega
          simp [okByte, this]
        | false =>
          simp only [aw0, aw1, aw2, aw3, aw4, aw5, aw6, aw7, ne_eq, eq_self, implies_true, imp_self, reduceIte, reduceCtorEq, Nat.reduceAdd, Nat.reduceLT, Nat.reduceLeDiff, Nat.reduceEqDiff, Nat.reduceSub, Nat.reduceMul, Nat.reduceBEq, Int.reduceBEq, Int.reduceBNe, Int.reduceLT, Int.reduceLE, Int.reduceGT, Int.reduceGE, Int.reduceNeg, Int.reduceEq, Int.reduceNe, Int.reduceToNat, Int.reduceAdd, aconv, acvB, capR, acmpnil, appBox, storeB, ares1, appendTo, afill, aeqL, teset, e0, e3, Int.toNat_natCast, hb1, Int.natCast_nonneg]
          cases hup : decide ((b.toNat : Int) > 126) with
          | true =>
            simp only [aw0, aw1, aw2, aw3, aw4, aw5, aw6, aw7, ne_eq, eq_self, implies_true, imp_self, reduceIte, reduceCtorEq, Nat.reduceAdd, Nat.reduceLT, Nat.reduceLeDiff, Nat.reduceEqDiff, Nat.reduceSub, Nat.reduceMul, Nat.reduceBEq, Int.reduceBEq, Int.reduceBNe, Int.reduceLT, Int.reduceLE, Int.reduceGT, Int.reduceGE, Int.reduceNeg, Int.reduceEq, Int.reduceNe, Int.reduceToNat, Int.reduceAdd, aconv, acvB, capR, acmpnil, appBox, storeB, ares1, appendTo, afill, aeqL, teset, e0, e3, Int.toNat_natCast, hb1, Int.natCast_nonneg]
            refine hnot ?_
            simp only [decide_eq_true_eq] at hup
            have : ¬ b.toNat ≤ 126 := by omega
            simp [okByte, this]
          | false =>
            simp only [aw0, aw1, aw2, aw3, aw4, aw5, aw6, aw7, ne_eq, eq_self, implies_true, imp_self, reduceIte, reduceCtorEq, Nat.reduceAdd, Nat.reduceLT, Nat.reduceLeDiff, Nat.reduceEqDiff, Nat.reduceSub, Nat.reduceMul, Nat.reduceBEq, Int.reduceBEq, Int.reduceBNe, Int.reduceLT, Int.reduceLE, Int.reduceGT, Int.reduceGE, Int.reduceNeg, Int.reduceEq, Int.reduceNe, Int.reduceToNat, Int.reduceAdd, aconv, acvB, capR, acmpnil, appBox, storeB, ares1, appendTo, afill, aeqL, teset, e0, e3, Int.toNat_natCast, hb1, Int.natCast_nonneg]
            simp only [decide_eq_false_iff_not] at hlo hup
            refine ⟨n - 1, by omega, i + 1, ?_, ?_, ?_⟩
            · rw [wrap_succ (by omega)]
            · omega
            · intro j c hj hjc
              by_cases e : j = i
              · subst e
                rw [hb2] at hjc; injection hjc with hjc; subst hjc
                have h1 : 32 ≤ b.toNat := by omega
                have h2 : b.toNat ≤ 126 := by omega
                simp [okByte, h1, h2]
              · exact hg j c (by omega) hjc
      · simp only [aw0, aw1, aw2, aw3, aw4, aw5, aw6, aw7, ne_eq, eq_self, implies_true, imp_self, reduceIte, reduceCtorEq, Nat.reduceAdd, Nat.reduceLT, Nat.reduceLeDiff, Nat.reduceEqDiff, Nat.reduceSub, Nat.reduceMul, Nat.reduceBEq, Int.reduceBEq, Int.reduceBNe, Int.reduceLT, Int.reduceLE, Int.reduceGT, Int.reduceGE, Int.reduceNeg, Int.reduceEq, Int.reduceNe, Int.reduceToNat, Int.reduceAdd, aconv, acvB, capR, acmpnil, appBox, storeB, ares1, appendTo, afill, aeqL, teset, e0, e3]
        simp only [decide_eq_false_iff_not] at hi
        refine ⟨.refl _, _, rfl, ?_⟩
        have h1 : s.data.toList.all okByte = true := by
          rw [List.all_eq_true]
          intro b hb
          obtain ⟨j, hj⟩ := List.mem_iff_getElem?.1 hb
          have hlt := (List.getElem?_eq_some_iff.1 hj).1
          have : s.data.toList.length = s.size := by simp
          exact hg j b (by omega) hj
        have : s.size ≤ 100 := by omega
        simp [AV.erase, isText, this, h1]
end Go.Proofs.Ytlbhgoffiigfbaa.AW
end
section
set_option linter.unusedSimpArgs false
set_option linter.unusedVariables false
namespace Go.Proofs.Ytlbhgoffiigfbaa.AW
open Go Go.RowKit

/-- A value of the program. -/
inductive V where
  | mk (kind int : Int) (text : ByteArray) (items : List V) (keys : List ByteArray)
  deriving Inhabited
def V.kind : V → Int | .mk k _ _ _ _ => k
def V.int : V → Int | .mk _ i _ _ _ => i
def V.text : V → ByteArray | .mk _ _ t _ _ => t
def V.items : V → List V | .mk _ _ _ xs _ => xs
def V.keys : V → List ByteArray | .mk _ _ _ _ ks => ks

mutual
def inj : V → AV
  | .mk k i t xs ks => .agg [.int .i64 k, .int .i64 i, .str t, .sl .ro 5 (injL xs), .sl .ro 1 (ks.map .str)]
def injL : List V → List AV
  | [] => []
  | x :: xs => inj x :: injL xs
end
theorem injL_eq (xs : List V) : injL xs = xs.map inj := by
  induction xs with
  | nil => rfl
  | cons x xs ih => simp [injL, ih]
theorem inj_eq (v : V) : inj v = .agg [.int .i64 v.kind, .int .i64 v.int, .str v.text, .sl .ro 5 (v.items.map inj), .sl .ro 1 (v.keys.map .str)] := by
  cases v; simp [inj, injL_eq, V.kind, V.int, V.text, V.items, V.keys]
theorem inj_mk (k i : Int) (t : ByteArray) (xs : List V) (ks : List ByteArray) : inj (.mk k i t xs ks) = .agg [.int .i64 k, .int .i64 i, .str t, .sl .ro 5 (xs.map inj), .sl .ro 1 (ks.map .str)] := by
  simp [inj, injL_eq]
mutual
def V.ok : V → Prop
  | .mk _ _ t xs ks => t.size < 4611686018427387904 ∧ xs.length < 4611686018427387904 ∧ ks.length < 4611686018427387904 ∧ (∀ k ∈ ks, k.size < 4611686018427387904) ∧ V.okL xs
def V.okL : List V → Prop
  | [] => True
  | x :: xs => x.ok ∧ V.okL xs
end
theorem V.okL_iff {xs : List V} : V.okL xs ↔ ∀ x ∈ xs, x.ok := by
  induction xs with
  | nil => simp [V.okL]
  | cons x xs ih => simp [V.okL, ih]
theorem inj_cells (v : V) : ∃ cs, inj v = .agg cs ∧ cs.length = 5 := by rw [inj_eq]; exact ⟨_, rfl, rfl⟩
mutual
theorem inj_under (v : V) : (inj v).under 0 0 = true := by
  cases v with
  | mk k i t xs ks =>
    simp only [inj, AV.under, AV.underL, Bool.and_true, Bool.true_and]
    rw [injL_under xs]
    simp only [Bool.true_and]
    induction ks with
    | nil => rfl
    | cons k ks ih => simp [AV.underL, AV.under, ih]
theorem injL_under (xs : List V) : AV.underL 0 0 (injL xs) = true := by
  cases xs with
  | nil => rfl
  | cons x xs => simp [injL, AV.underL, inj_under x, injL_under xs]
end
mutual
theorem inj_erase (v : V) : (inj v).erase = inj v := by
  cases v with
  | mk k i t xs ks =>
    simp only [inj, AV.erase, AV.eraseL, injL_erase xs]
    have : AV.eraseL (ks.map AV.str) = ks.map AV.str := by
      induction ks with
      | nil => rfl
      | cons k ks ih => simp [AV.eraseL, AV.erase, ih]
    rw [this]
theorem injL_erase (xs : List V) : AV.eraseL (injL xs) = injL xs := by
  cases xs with
  | nil => rfl
  | cons x xs => simp [injL, AV.eraseL, inj_erase x, injL_erase xs]
end

theorem load_inj (v : V) : (if 5 ≤ (inj v).cells.length then some (AV.agg (List.take 5 (inj v).cells)) else none) = some (inj v) := by
  cases v; simp [inj_mk, AV.cells]
theorem load_inj0 (v : V) : (if 0 + 5 ≤ (inj v).cells.length then some (AV.agg (List.take 5 (inj v).cells)) else none) = some (inj v) := by
  cases v; simp [inj_mk, AV.cells]

theorem inj_len (v : V) : (inj v).cells.length = 5 := by
  cases v; simp [inj_mk, AV.cells]
theorem inj_one (v : V) : (inj v).cells.all AV.one = true := by
  cases v; simp [inj_mk, AV.cells, AV.one]
theorem inj_take (v : V) : List.take 5 (inj v).cells = (inj v).cells := by
  cases v; simp [inj_mk, AV.cells]
theorem inj_drop (v : V) : List.drop 5 (inj v).cells = [] := by
  cases v; simp [inj_mk, AV.cells]
theorem inj_agg (v : V) : AV.agg (inj v).cells = inj v := by
  cases v; simp [inj_mk, AV.cells]

def plainS (v : V) (n t i k : Bool) : Bool := (n || v.int == 0) && (t || v.text.toList == (⟨#[]⟩ : ByteArray).toList) && (i || (v.items.length : Int) == 0) && (k || (v.keys.length : Int) == 0)
theorem plain_pure (v : V) (n t i k : Bool) : Pure Try.prog 42 [inj v, .bool n, .bool t, .bool i, .bool k] (.bool (plainS v n t i k)) := by
  rw [inj_eq]
  refine Pure.of ⟨Try.f42, Try.func42, rfl, by kernel_rfl⟩ rfl (fun h => ?_)
  refine acalls_of te_ok [13, 14, 15, 18, 19, 20, 21, 22, 23, 26, 27, 28, 29, 30, 31, 32, 35, 36, 37, 38, 39, 40, 41] Try.func42 (c := _) rfl (Nat.le_of_ble_eq_true rfl) ?_
  simp only [aw0, aw1, aw2, aw3, aw4, aw5, aw6, aw7, ne_eq, eq_self, implies_true, imp_self, reduceIte, reduceCtorEq, Nat.reduceAdd, Nat.reduceLT, Nat.reduceLeDiff, Nat.reduceEqDiff, Nat.reduceSub, Nat.reduceMul, Nat.reduceBEq, Int.reduceBEq, Int.reduceBNe, Int.reduceLT, Int.reduceLE, Int.reduceGT, Int.reduceGE, Int.reduceNeg, Int.reduceEq, Int.reduceNe, Int.reduceToNat, Int.reduceAdd, aconv, acvB, capR, acmpnil, appBox, storeB, ares1, appendTo, afill, aeqL, teset, Try.ntmps42, Try.results42]
  refine ⟨(AH.Ext.refl h).new _, _, rfl, ?_⟩
  simp [AV.erase, plainS]
end Go.Proofs.Ytlbhgoffiigfbaa.AW
end
section
set_option linter.unusedSimpArgs false
set_option linter.unusedVariables false
namespace Go.Proofs.Ytlbhgoffiigfbaa.AW
open Go Go.RowKit

theorem mixed : Try.prog.follows .mixedOrders = true := by kernel_rfl
def sless (x y : ByteArray) : Bool := Op.bytesLess x.toList y.toList
def keyOk (ks : List ByteArray) (i : Nat) : Bool := isText (ks.getD i default) && (i == 0 || sless (ks.getD (i - 1) default) (ks.getD i default))
def keysOk (ks : List ByteArray) : Bool := (List.range ks.length).all (keyOk ks)
def shape (v : V) : Bool :=
  if v.kind = 0 then plainS v false false false false
  else if v.kind = 1 then plainS v true false false false && (v.int == 0 || v.int == 1)
  else if v.kind = 2 then plainS v true false false false && (decide (v.int ≤ 1000000000000) && decide (-1000000000000 ≤ v.int))
  else if v.kind = 3 then plainS v false true false false && isText v.text
  else if v.kind = 4 then plainS v false false true false
  else if v.kind = 5 then plainS v false false true true && v.keys.length == v.items.length && keysOk v.keys
  else false
theorem shape_0 (i : Int) (t : ByteArray) (xs : List V) (ks : List ByteArray) : shape (.mk 0 i t xs ks) = plainS (.mk 0 i t xs ks) false false false false := by simp [shape, V.kind]
theorem shape_1 (i : Int) (t : ByteArray) (xs : List V) (ks : List ByteArray) : shape (.mk 1 i t xs ks) = (plainS (.mk 1 i t xs ks) true false false false && (i == 0 || i == 1)) := by simp [shape, V.kind, V.int]
theorem shape_2 (i : Int) (t : ByteArray) (xs : List V) (ks : List ByteArray) : shape (.mk 2 i t xs ks) = (plainS (.mk 2 i t xs ks) true false false false && (decide (i ≤ 1000000000000) && decide (-1000000000000 ≤ i))) := by simp [shape, V.kind, V.int]; rfl
theorem shape_3 (i : Int) (t : ByteArray) (xs : List V) (ks : List ByteArray) : shape (.mk 3 i t xs ks) = (plainS (.mk 3 i t xs ks) false true false false && isText t) := by simp [shape, V.kind, V.text]
theorem shape_4 (i : Int) (t : ByteArray) (xs : List V) (ks : List ByteArray) : shape (.mk 4 i t xs ks) = plainS (.mk 4 i t xs ks) false false true false := by simp [shape, V.kind]
theorem shape_5 (i : Int) (t : ByteArray) (xs : List V) (ks : List ByteArray) : shape (.mk 5 i t xs ks) = (plainS (.mk 5 i t xs ks) false false true true && ks.length == xs.length && keysOk ks) := by simp [shape, V.kind, V.keys, V.items]
theorem shape_x {k : Int} (i : Int) (t : ByteArray) (xs : List V) (ks : List ByteArray) (h0 : k ≠ 0) (h1 : k ≠ 1) (h2 : k ≠ 2) (h3 : k ≠ 3) (h4 : k ≠ 4) (h5 : k ≠ 5) : shape (.mk k i t xs ks) = false := by simp [shape, V.kind, h0, h1, h2, h3, h4, h5]
def nodesF (f : V → Nat) : Nat → List V → Nat
  | n, [] => n
  | n, x :: xs => if n + f x > 60 then 61 else nodesF f (n + f x) xs
def nodesS : Nat → V → Nat
  | 0, _ => 61
  | L + 1, v => if v.items.length > 60 then 61 else if shape v then nodesF (nodesS L) 1 v.items else 61

theorem plain_pure' (k i : Int) (t : ByteArray) (xs : List V) (ks : List ByteArray) (a b c d : Bool) : Pure Try.prog 42 [.agg [.int .i64 k, .int .i64 i, .str t, .sl .ro 5 (xs.map inj), .sl .ro 1 (ks.map .str)], .bool a, .bool b, .bool c, .bool d] (.bool (plainS (.mk k i t xs ks) a b c d)) := by
  have := plain_pure (.mk k i t xs ks) a b c d
  rwa [inj_mk] at this

theorem nodesF_le (f : V → Nat) : ∀ (xs : List V) (n : Nat), n ≤ 60 → nodesF f n xs ≤ 61 := by
  intro xs
  induction xs with
  | nil => intro n h; simp only [nodesF]; omega
  | cons x xs ih =>
    intro n h
    simp only [nodesF]
    split
    · omega
    · exact ih _ (by omega)
theorem nodesS_le (L : Nat) (v : V) : nodesS L v ≤ 61 := by
  cases L with
  | zero => simp [nodesS]
  | succ L =>
    simp only [nodesS]
    split
    · omega
    · split
      · exact nodesF_le _ _ _ (by omega)
      · omega

set_option maxHeartbeats 4000000 in
theorem nodes_pure : ∀ (L : Nat) (v : V), L < 1000 → Pure Try.prog 37 [inj v, .int .i64 L] (.int .i64 (nodesS L v)) := by
  intro L
  induction L with
  | zero =>
    intro v _
    rw [inj_eq]
    refine Pure.of ⟨Try.f37, Try.func37, rfl, by kernel_rfl⟩ rfl (fun h => ?_)
    refine acalls_of te_ok [12, 13, 14, 15] Try.func37 (c := _) rfl (Nat.le_of_ble_eq_true rfl) ?_
    simp only [aw0, aw1, aw2, aw3, aw4, aw5, aw6, aw7, ne_eq, eq_self, implies_true, imp_self, reduceIte, reduceCtorEq, Nat.reduceAdd, Nat.reduceLT, Nat.reduceLeDiff, Nat.reduceEqDiff, Nat.reduceSub, Nat.reduceMul, Nat.reduceBEq, Int.reduceBEq, Int.reduceBNe, Int.reduceLT, Int.reduceLE, Int.reduceGT, Int.reduceGE, Int.reduceNeg, Int.reduceEq, Int.reduceNe, Int.reduceToNat, Int.reduceAdd, aconv, acvB, capR, acmpnil, appBox, storeB, ares1, appendTo, afill, aeqL, teset, Try.ntmps37, Try.results37, Int.natCast_zero]
    exact ⟨(AH.Ext.refl h).new _, _, rfl, rfl⟩
  | succ L ih =>
    intro v hL
    obtain ⟨k, i, t, xs, ks⟩ := v
    rw [inj_mk]
    refine Pure.of ⟨Try.f37, Try.func37, rfl, by kernel_rfl⟩ rfl (fun h => ?_)
    have hlev : decide (((L + 1 : Nat) : Int) < 1) = false := by simp; omega
    have bad61 : ∀ h', h.Ext h' → nodesS (L + 1) (.mk k i t xs ks) = 61 → h.Ext h' ∧ ∃ u, AOut.ret (.int .i64 61) = .ret u ∧ u.erase = .int .i64 (nodesS (L + 1) (.mk k i t xs ks)) := fun h' he hn => ⟨he, _, rfl, by rw [hn]; rfl⟩
    have hext := (AH.Ext.refl h).new [AV.int IntKind.i64 k, AV.int IntKind.i64 i, AV.str t, AV.sl Tag.ro 5 (List.map inj xs), AV.sl Tag.ro 1 (List.map AV.str ks)]
    refine acalls_of te_ok [12, 13, 14, 15, 33, 34, 35, 36, 37, 38, 39, 40, 49, 50, 51, 54, 55, 56, 83, 84, 85, 86, 87, 88, 89] Try.func37 (c := _) rfl (Nat.le_of_ble_eq_true rfl) ?_
    simp only [aw0, aw1, aw2, aw3, aw4, aw5, aw6, aw7, ne_eq, eq_self, implies_true, imp_self, reduceIte, reduceCtorEq, Nat.reduceAdd, Nat.reduceLT, Nat.reduceLeDiff, Nat.reduceEqDiff, Nat.reduceSub, Nat.reduceMul, Nat.reduceBEq, Int.reduceBEq, Int.reduceBNe, Int.reduceLT, Int.reduceLE, Int.reduceGT, Int.reduceGE, Int.reduceNeg, Int.reduceEq, Int.reduceNe, Int.reduceToNat, Int.reduceAdd, aconv, acvB, capR, acmpnil, appBox, storeB, ares1, appendTo, afill, aeqL, teset, Try.ntmps37, Try.results37, hlev, List.length_map]
    by_cases hlen : xs.length > 60
    · have hlen' : decide ((xs.length : Int) > 60) = true := by simp; omega
      simp only [aw0, aw1, aw2, aw3, aw4, aw5, aw6, aw7, ne_eq, eq_self, implies_true, imp_self, reduceIte, reduceCtorEq, Nat.reduceAdd, Nat.reduceLT, Nat.reduceLeDiff, Nat.reduceEqDiff, Nat.reduceSub, Nat.reduceMul, Nat.reduceBEq, Int.reduceBEq, Int.reduceBNe, Int.reduceLT, Int.reduceLE, Int.reduceGT, Int.reduceGE, Int.reduceNeg, Int.reduceEq, Int.reduceNe, Int.reduceToNat, Int.reduceAdd, aconv, acvB, capR, acmpnil, appBox, storeB, ares1, appendTo, afill, aeqL, teset, hlen']
      exact bad61 _ hext (by simp [nodesS, V.items, hlen])
    have hlen' : decide ((xs.length : Int) > 60) = false := by simp; omega
    have hbad : shape (.mk k i t xs ks) = false → nodesS (L + 1) (.mk k i t xs ks) = 61 := fun hs => by simp [nodesS, hs]
    simp only [aw0, aw1, aw2, aw3, aw4, aw5, aw6, aw7, ne_eq, eq_self, implies_true, imp_self, reduceIte, reduceCtorEq, Nat.reduceAdd, Nat.reduceLT, Nat.reduceLeDiff, Nat.reduceEqDiff, Nat.reduceSub, Nat.reduceMul, Nat.reduceBEq, Int.reduceBEq, Int.reduceBNe, Int.reduceLT, Int.reduceLE, Int.reduceGT, Int.reduceGE, Int.reduceNeg, Int.reduceEq, Int.reduceNe, Int.reduceToNat, Int.reduceAdd, aconv, acvB, capR, acmpnil, appBox, storeB, ares1, appendTo, afill, aeqL, teset, hlen']
    have hshape : shape (.mk k i t xs ks) = true → nodesS (L + 1) (.mk k i t xs ks) = nodesF (nodesS L) 1 xs := fun hs => by simp [nodesS, hs, V.items, hlen]
    by_cases h0 : k = 0
    · have q0 : (k == 0) = true := by simp [h0]
      simp only [aw0, aw1, aw2, aw3, aw4, aw5, aw6, aw7, ne_eq, eq_self, implies_true, imp_self, reduceIte, reduceCtorEq, Nat.reduceAdd, Nat.reduceLT, Nat.reduceLeDiff, Nat.reduceEqDiff, Nat.reduceSub, Nat.reduceMul, Nat.reduceBEq, Int.reduceBEq, Int.reduceBNe, Int.reduceLT, Int.reduceLE, Int.reduceGT, Int.reduceGE, Int.reduceNeg, Int.reduceEq, Int.reduceNe, Int.reduceToNat, Int.reduceAdd, aconv, acvB, capR, acmpnil, appBox, storeB, ares1, appendTo, afill, aeqL, teset, q0]
      refine ACallV.pure (plain_pure' _ _ _ _ _ _ _ _ _) ?_
      cases hp : plainS (.mk k i t xs ks) false false false false with
      | false => simp only [aw0, aw1, aw2, aw3, aw4, aw5, aw6, aw7, ne_eq, eq_self, implies_true, imp_self, reduceIte, reduceCtorEq, Nat.reduceAdd, Nat.reduceLT, Nat.reduceLeDiff, Nat.reduceEqDiff, Nat.reduceSub, Nat.reduceMul, Nat.reduceBEq, Int.reduceBEq, Int.reduceBNe, Int.reduceLT, Int.reduceLE, Int.reduceGT, Int.reduceGE, Int.reduceNeg, Int.reduceEq, Int.reduceNe, Int.reduceToNat, Int.reduceAdd, aconv, acvB, capR, acmpnil, appBox, storeB, ares1, appendTo, afill, aeqL, teset, q0]; exact bad61 _ hext (hbad (by subst h0; rw [shape_0]; exact hp))
      | true =>
        simp only [aw0, aw1, aw2, aw3, aw4, aw5, aw6, aw7, ne_eq, eq_self, implies_true, imp_self, reduceIte, reduceCtorEq, Nat.reduceAdd, Nat.reduceLT, Nat.reduceLeDiff, Nat.reduceEqDiff, Nat.reduceSub, Nat.reduceMul, Nat.reduceBEq, Int.reduceBEq, Int.reduceBNe, Int.reduceLT, Int.reduceLE, Int.reduceGT, Int.reduceGE, Int.reduceNeg, Int.reduceEq, Int.reduceNe, Int.reduceToNat, Int.reduceAdd, aconv, acvB, capR, acmpnil, appBox, storeB, ares1, appendTo, afill, aeqL, teset, q0]
        have hs : shape (.mk k i t xs ks) = true := by subst h0; rw [shape_0]; exact hp
        rw [hshape hs]
        refine ⟨fun n s' h' => ∃ (j acc : Nat), s' 1 = .int .i64 ((L + 1 : Nat) : Int) ∧ s' 2 = .ptr h.nb 0 ∧ s' 5 = .int .i64 61 ∧ s' 7 = .int .i64 acc ∧ s' 8 = .int .i64 j ∧ h' = h.new [.int .i64 k, .int .i64 i, .str t, .sl .ro 5 (List.map inj xs), .sl .ro 1 (List.map AV.str ks)] ∧ n + j = xs.length ∧ acc ≤ 60 ∧ nodesF (nodesS L) acc (xs.drop j) = nodesF (nodesS L) 1 xs, ⟨xs.length, 0, 1, ?_⟩, ?_⟩
        · first
            | (simp only [aw0, aw1, aw2, aw3, aw4, aw5, aw6, aw7, ne_eq, eq_self, implies_true, imp_self, reduceIte, reduceCtorEq, Nat.reduceAdd, Nat.reduceLT, Nat.reduceLeDiff, Nat.reduceEqDiff, Nat.reduceSub, Nat.reduceMul, Nat.reduceBEq, Int.reduceBEq, Int.reduceBNe, Int.reduceLT, Int.reduceLE, Int.reduceGT, Int.reduceGE, Int.reduceNeg, Int.reduceEq, Int.reduceNe, Int.reduceToNat, Int.reduceAdd, aconv, acvB, capR, acmpnil, appBox, storeB, ares1, appendTo, afill, aeqL, teset, Int.natCast_zero, Int.natCast_one]; done)
            | (simp only [aw0, aw1, aw2, aw3, aw4, aw5, aw6, aw7, ne_eq, eq_self, implies_true, imp_self, reduceIte, reduceCtorEq, Nat.reduceAdd, Nat.reduceLT, Nat.reduceLeDiff, Nat.reduceEqDiff, Nat.reduceSub, Nat.reduceMul, Nat.reduceBEq, Int.reduceBEq, Int.reduceBNe, Int.reduceLT, Int.reduceLE, Int.reduceGT, Int.reduceGE, Int.reduceNeg, Int.reduceEq, Int.reduceNe, Int.reduceToNat, Int.reduceAdd, aconv, acvB, capR, acmpnil, appBox, storeB, ares1, appendTo, afill, aeqL, teset, Int.natCast_zero, Int.natCast_one]; exact ⟨by assumption, by assumption, by assumption⟩)
        · rintro n s' h' ⟨j, acc, e1, e2, e5, e7, e8, hh, hn, hacc, hf⟩
          subst hh
          simp only [aw0, aw1, aw2, aw3, aw4, aw5, aw6, aw7, ne_eq, eq_self, implies_true, imp_self, reduceIte, reduceCtorEq, Nat.reduceAdd, Nat.reduceLT, Nat.reduceLeDiff, Nat.reduceEqDiff, Nat.reduceSub, Nat.reduceMul, Nat.reduceBEq, Int.reduceBEq, Int.reduceBNe, Int.reduceLT, Int.reduceLE, Int.reduceGT, Int.reduceGE, Int.reduceNeg, Int.reduceEq, Int.reduceNe, Int.reduceToNat, Int.reduceAdd, aconv, acvB, capR, acmpnil, appBox, storeB, ares1, appendTo, afill, aeqL, teset, e1, e2, e5, e7, e8, List.length_map]
          cases hc : decide ((j : Int) < (xs.length : Int)) with
          | false =>
            simp only [aw0, aw1, aw2, aw3, aw4, aw5, aw6, aw7, ne_eq, eq_self, implies_true, imp_self, reduceIte, reduceCtorEq, Nat.reduceAdd, Nat.reduceLT, Nat.reduceLeDiff, Nat.reduceEqDiff, Nat.reduceSub, Nat.reduceMul, Nat.reduceBEq, Int.reduceBEq, Int.reduceBNe, Int.reduceLT, Int.reduceLE, Int.reduceGT, Int.reduceGE, Int.reduceNeg, Int.reduceEq, Int.reduceNe, Int.reduceToNat, Int.reduceAdd, aconv, acvB, capR, acmpnil, appBox, storeB, ares1, appendTo, afill, aeqL, teset, e1, e2, e5, e7, e8]
            simp only [decide_eq_false_iff_not] at hc
            refine ⟨hext, _, rfl, ?_⟩
            rw [← hf, List.drop_eq_nil_of_le (by omega)]
            rfl
          | true =>
            simp only [decide_eq_true_eq] at hc
            have hj : j < xs.length := by omega
            have hget : (xs.map inj)[((j : Nat) : Int).toNat]? = some (inj xs[j]) := by simp [hj]
            have hw : IntKind.i64.wrap (((L + 1 : Nat) : Int) - 1) = (L : Int) := by rw [wrap_i64 (by omega) (by omega)]; omega
            have hle := nodesS_le L xs[j]
            have hw2 : IntKind.i64.wrap ((acc : Int) + (nodesS L xs[j] : Int)) = ((acc + nodesS L xs[j] : Nat) : Int) := by rw [wrap_i64 (by omega) (by omega)]; omega
            simp only [aw0, aw1, aw2, aw3, aw4, aw5, aw6, aw7, ne_eq, eq_self, implies_true, imp_self, reduceIte, reduceCtorEq, Nat.reduceAdd, Nat.reduceLT, Nat.reduceLeDiff, Nat.reduceEqDiff, Nat.reduceSub, Nat.reduceMul, Nat.reduceBEq, Int.reduceBEq, Int.reduceBNe, Int.reduceLT, Int.reduceLE, Int.reduceGT, Int.reduceGE, Int.reduceNeg, Int.reduceEq, Int.reduceNe, Int.reduceToNat, Int.reduceAdd, aconv, acvB, capR, acmpnil, appBox, storeB, ares1, appendTo, afill, aeqL, teset, e1, e2, e5, e7, e8, hget, Int.natCast_nonneg, load_inj, hw]
            refine ACallV.pure (ih xs[j] (by omega)) ?_
            simp only [aw0, aw1, aw2, aw3, aw4, aw5, aw6, aw7, ne_eq, eq_self, implies_true, imp_self, reduceIte, reduceCtorEq, Nat.reduceAdd, Nat.reduceLT, Nat.reduceLeDiff, Nat.reduceEqDiff, Nat.reduceSub, Nat.reduceMul, Nat.reduceBEq, Int.reduceBEq, Int.reduceBNe, Int.reduceLT, Int.reduceLE, Int.reduceGT, Int.reduceGE, Int.reduceNeg, Int.reduceEq, Int.reduceNe, Int.reduceToNat, Int.reduceAdd, aconv, acvB, capR, acmpnil, appBox, storeB, ares1, appendTo, afill, aeqL, teset, e1, e2, e5, e7, e8, hw2]
            rw [List.drop_eq_getElem_cons hj, nodesF] at hf
            cases hg : decide (((acc + nodesS L xs[j] : Nat) : Int) > 60) with
            | true =>
              simp only [aw0, aw1, aw2, aw3, aw4, aw5, aw6, aw7, ne_eq, eq_self, implies_true, imp_self, reduceIte, reduceCtorEq, Nat.reduceAdd, Nat.reduceLT, Nat.reduceLeDiff, Nat.reduceEqDiff, Nat.reduceSub, Nat.reduceMul, Nat.reduceBEq, Int.reduceBEq, Int.reduceBNe, Int.reduceLT, Int.reduceLE, Int.reduceGT, Int.reduceGE, Int.reduceNeg, Int.reduceEq, Int.reduceNe, Int.reduceToNat, Int.reduceAdd, aconv, acvB, capR, acmpnil, appBox, storeB, ares1, appendTo, afill, aeqL, teset, e1, e2, e5, e7, e8, hw2]
              simp only [decide_eq_true_eq] at hg
              refine ⟨hext, _, rfl, ?_⟩
              rw [← hf, if_pos (by omega)]
              rfl
            | false =>
              simp only [aw0, aw1, aw2, aw3, aw4, aw5, aw6, aw7, ne_eq, eq_self, implies_true, imp_self, reduceIte, reduceCtorEq, Nat.reduceAdd, Nat.reduceLT, Nat.reduceLeDiff, Nat.reduceEqDiff, Nat.reduceSub, Nat.reduceMul, Nat.reduceBEq, Int.reduceBEq, Int.reduceBNe, Int.reduceLT, Int.reduceLE, Int.reduceGT, Int.reduceGE, Int.reduceNeg, Int.reduceEq, Int.reduceNe, Int.reduceToNat, Int.reduceAdd, aconv, acvB, capR, acmpnil, appBox, storeB, ares1, appendTo, afill, aeqL, teset, e1, e2, e5, e7, e8, hw2]
              simp only [decide_eq_false_iff_not] at hg
              rw [if_neg (by omega)] at hf
              refine ⟨n - 1, by omega, j + 1, _, rfl, ?_, ?_, ?_, hf⟩
              · rw [wrap_succ (by omega)]
              · omega
              · omega
    have q0 : (k == 0) = false := by simp [h0]
    by_cases h1 : k = 1
    · have q1 : (k == 1) = true := by simp [h1]
      simp only [aw0, aw1, aw2, aw3, aw4, aw5, aw6, aw7, ne_eq, eq_self, implies_true, imp_self, reduceIte, reduceCtorEq, Nat.reduceAdd, Nat.reduceLT, Nat.reduceLeDiff, Nat.reduceEqDiff, Nat.reduceSub, Nat.reduceMul, Nat.reduceBEq, Int.reduceBEq, Int.reduceBNe, Int.reduceLT, Int.reduceLE, Int.reduceGT, Int.reduceGE, Int.reduceNeg, Int.reduceEq, Int.reduceNe, Int.reduceToNat, Int.reduceAdd, aconv, acvB, capR, acmpnil, appBox, storeB, ares1, appendTo, afill, aeqL, teset, q0, q1]
      refine ACallV.pure (plain_pure' _ _ _ _ _ _ _ _ _) ?_
      simp only [aw0, aw1, aw2, aw3, aw4, aw5, aw6, aw7, ne_eq, eq_self, implies_true, imp_self, reduceIte, reduceCtorEq, Nat.reduceAdd, Nat.reduceLT, Nat.reduceLeDiff, Nat.reduceEqDiff, Nat.reduceSub, Nat.reduceMul, Nat.reduceBEq, Int.reduceBEq, Int.reduceBNe, Int.reduceLT, Int.reduceLE, Int.reduceGT, Int.reduceGE, Int.reduceNeg, Int.reduceEq, Int.reduceNe, Int.reduceToNat, Int.reduceAdd, aconv, acvB, capR, acmpnil, appBox, storeB, ares1, appendTo, afill, aeqL, teset, q0, q1]
      have hs' : shape (.mk k i t xs ks) = (plainS (.mk k i t xs ks) true false false false && (i == 0 || i == 1)) := by subst h1; exact shape_1 _ _ _ _
      refine ck_of (fun hc => ?_) (fun hc => ?_)
      · simp only [aw0, aw1, aw2, aw3, aw4, aw5, aw6, aw7, ne_eq, eq_self, implies_true, imp_self, reduceIte, reduceCtorEq, Nat.reduceAdd, Nat.reduceLT, Nat.reduceLeDiff, Nat.reduceEqDiff, Nat.reduceSub, Nat.reduceMul, Nat.reduceBEq, Int.reduceBEq, Int.reduceBNe, Int.reduceLT, Int.reduceLE, Int.reduceGT, Int.reduceGE, Int.reduceNeg, Int.reduceEq, Int.reduceNe, Int.reduceToNat, Int.reduceAdd, aconv, acvB, capR, acmpnil, appBox, storeB, ares1, appendTo, afill, aeqL, teset, q0, q1]
        refine bad61 _ hext (hbad ?_)
        rw [hs']; revert hc
        cases plainS (.mk k i t xs ks) true false false false <;> simp
      · simp only [aw0, aw1, aw2, aw3, aw4, aw5, aw6, aw7, ne_eq, eq_self, implies_true, imp_self, reduceIte, reduceCtorEq, Nat.reduceAdd, Nat.reduceLT, Nat.reduceLeDiff, Nat.reduceEqDiff, Nat.reduceSub, Nat.reduceMul, Nat.reduceBEq, Int.reduceBEq, Int.reduceBNe, Int.reduceLT, Int.reduceLE, Int.reduceGT, Int.reduceGE, Int.reduceNeg, Int.reduceEq, Int.reduceNe, Int.reduceToNat, Int.reduceAdd, aconv, acvB, capR, acmpnil, appBox, storeB, ares1, appendTo, afill, aeqL, teset, q0, q1]
        have hs : shape (.mk k i t xs ks) = true := by
          rw [hs']; revert hc
          cases plainS (.mk k i t xs ks) true false false false <;> simp
          omega
        rw [hshape hs]
        refine ⟨fun n s' h' => ∃ (j acc : Nat), s' 1 = .int .i64 ((L + 1 : Nat) : Int) ∧ s' 2 = .ptr h.nb 0 ∧ s' 5 = .int .i64 61 ∧ s' 7 = .int .i64 acc ∧ s' 8 = .int .i64 j ∧ h' = h.new [.int .i64 k, .int .i64 i, .str t, .sl .ro 5 (List.map inj xs), .sl .ro 1 (List.map AV.str ks)] ∧ n + j = xs.length ∧ acc ≤ 60 ∧ nodesF (nodesS L) acc (xs.drop j) = nodesF (nodesS L) 1 xs, ⟨xs.length, 0, 1, ?_⟩, ?_⟩
        · first
            | (simp only [aw0, aw1, aw2, aw3, aw4, aw5, aw6, aw7, ne_eq, eq_self, implies_true, imp_self, reduceIte, reduceCtorEq, Nat.reduceAdd, Nat.reduceLT, Nat.reduceLeDiff, Nat.reduceEqDiff, Nat.reduceSub, Nat.reduceMul, Nat.reduceBEq, Int.reduceBEq, Int.reduceBNe, Int.reduceLT, Int.reduceLE, Int.reduceGT, Int.reduceGE, Int.reduceNeg, Int.reduceEq, Int.reduceNe, Int.reduceToNat, Int.reduceAdd, aconv, acvB, capR, acmpnil, appBox, storeB, ares1, appendTo, afill, aeqL, teset, Int.natCast_zero, Int.natCast_one]; done)
            | (simp only [aw0, aw1, aw2, aw3, aw4, aw5, aw6, aw7, ne_eq, eq_self, implies_true, imp_self, reduceIte, reduceCtorEq, Nat.reduceAdd, Nat.reduceLT, Nat.reduceLeDiff, Nat.reduceEqDiff, Nat.reduceSub, Nat.reduceMul, Nat.reduceBEq, Int.reduceBEq, Int.reduceBNe, Int.reduceLT, Int.reduceLE, Int.reduceGT, Int.reduceGE, Int.reduceNeg, Int.reduceEq, Int.reduceNe, Int.reduceToNat, Int.reduceAdd, aconv, acvB, capR, acmpnil, appBox, storeB, ares1, appendTo, afill, aeqL, teset, Int.natCast_zero, Int.natCast_one]; exact ⟨by assumption, by assumption, by assumption⟩)
        · rintro n s' h' ⟨j, acc, e1, e2, e5, e7, e8, hh, hn, hacc, hf⟩
          subst hh
          simp only [aw0, aw1, aw2, aw3, aw4, aw5, aw6, aw7, ne_eq, eq_self, implies_true, imp_self, reduceIte, reduceCtorEq, Nat.reduceAdd, Nat.reduceLT, Nat.reduceLeDiff, Nat.reduceEqDiff, Nat.reduceSub, Nat.reduceMul, Nat.reduceBEq, Int.reduceBEq, Int.reduceBNe, Int.reduceLT, Int.reduceLE, Int.reduceGT, Int.reduceGE, Int.reduceNeg, Int.reduceEq, Int.reduceNe, Int.reduceToNat, Int.reduceAdd, aconv, acvB, capR, acmpnil, appBox, storeB, ares1, appendTo, afill, aeqL, teset, e1, e2, e5, e7, e8, List.length_map]
          cases hc : decide ((j : Int) < (xs.length : Int)) with
          | false =>
            simp only [aw0, aw1, aw2, aw3, aw4, aw5, aw6, aw7, ne_eq, eq_self, implies_true, imp_self, reduceIte, reduceCtorEq, Nat.reduceAdd, Nat.reduceLT, Nat.reduceLeDiff, Nat.reduceEqDiff, Nat.reduceSub, Nat.reduceMul, Nat.reduceBEq, Int.reduceBEq, Int.reduceBNe, Int.reduceLT, Int.reduceLE, Int.reduceGT, Int.reduceGE, Int.reduceNeg, Int.reduceEq, Int.reduceNe, Int.reduceToNat, Int.reduceAdd, aconv, acvB, capR, acmpnil, appBox, storeB, ares1, appendTo, afill, aeqL, teset, e1, e2, e5, e7, e8]
            simp only [decide_eq_false_iff_not] at hc
            refine ⟨hext, _, rfl, ?_⟩
            rw [← hf, List.drop_eq_nil_of_le (by omega)]
            rfl
          | true =>
            simp only [decide_eq_true_eq] at hc
            have hj : j < xs.length := by omega
            have hget : (xs.map inj)[((j : Nat) : Int).toNat]? = some (inj xs[j]) := by simp [hj]
            have hw : IntKind.i64.wrap (((L + 1 : Nat) : Int) - 1) = (L : Int) := by rw [wrap_i64 (by omega) (by omega)]; omega
            have hle := nodesS_le L xs[j]
            have hw2 : IntKind.i64.wrap ((acc : Int) + (nodesS L xs[j] : Int)) = ((acc + nodesS L xs[j] : Nat) : Int) := by rw [wrap_i64 (by omega) (by omega)]; omega
            simp only [aw0, aw1, aw2, aw3, aw4, aw5, aw6, aw7, ne_eq, eq_self, implies_true, imp_self, reduceIte, reduceCtorEq, Nat.reduceAdd, Nat.reduceLT, Nat.reduceLeDiff, Nat.reduceEqDiff, Nat.reduceSub, Nat.reduceMul, Nat.reduceBEq, Int.reduceBEq, Int.reduceBNe, Int.reduceLT, Int.reduceLE, Int.reduceGT, Int.reduceGE, Int.reduceNeg, Int.reduceEq, Int.reduceNe, Int.reduceToNat, Int.reduceAdd, aconv, acvB, capR, acmpnil, appBox, storeB, ares1, appendTo, afill, aeqL, teset, e1, e2, e5, e7, e8, hget, Int.natCast_nonneg, load_inj, hw]
            refine ACallV.pure (ih xs[j] (by omega)) ?_
            simp only [aw0, aw1, aw2, aw3, aw4, aw5, aw6, aw7, ne_eq, eq_self, implies_true, imp_self, reduceIte, reduceCtorEq, Nat.reduceAdd, Nat.reduceLT, Nat.reduceLeDiff, Nat.reduceEqDiff, Nat.reduceSub, Nat.reduceMul, Nat.reduceBEq, Int.reduceBEq, Int.reduceBNe, Int.reduceLT, Int.reduceLE, Int.reduceGT, Int.reduceGE, Int.reduceNeg, Int.reduceEq, Int.reduceNe, Int.reduceToNat, Int.reduceAdd, aconv, acvB, capR, acmpnil, appBox, storeB, ares1, appendTo, afill, aeqL, teset, e1, e2, e5, e7, e8, hw2]
            rw [List.drop_eq_getElem_cons hj, nodesF] at hf
            cases hg : decide (((acc + nodesS L xs[j] : Nat) : Int) > 60) with
            | true =>
              simp only [aw0, aw1, aw2, aw3, aw4, aw5, aw6, aw7, ne_eq, eq_self, implies_true, imp_self, reduceIte, reduceCtorEq, Nat.reduceAdd, Nat.reduceLT, Nat.reduceLeDiff, Nat.reduceEqDiff, Nat.reduceSub, Nat.reduceMul, Nat.reduceBEq, Int.reduceBEq, Int.reduceBNe, Int.reduceLT, Int.reduceLE, Int.reduceGT, Int.reduceGE, Int.reduceNeg, Int.reduceEq, Int.reduceNe, Int.reduceToNat, Int.reduceAdd, aconv, acvB, capR, acmpnil, appBox, storeB, ares1, appendTo, afill, aeqL, teset, e1, e2, e5, e7, e8, hw2]
              simp only [decide_eq_true_eq] at hg
              refine ⟨hext, _, rfl, ?_⟩
              rw [← hf, if_pos (by omega)]
              rfl
            | false =>
              simp only [aw0, aw1, aw2, aw3, aw4, aw5, aw6, aw7, ne_eq, eq_self, implies_true, imp_self, reduceIte, reduceCtorEq, Nat.reduceAdd, Nat.reduceLT, Nat.reduceLeDiff, Nat.reduceEqDiff, Nat.reduceSub, Nat.reduceMul, Nat.reduceBEq, Int.reduceBEq, Int.reduceBNe, Int.reduceLT, Int.reduceLE, Int.reduceGT, Int.reduceGE, Int.reduceNeg, Int.reduceEq, Int.reduceNe, Int.reduceToNat, Int.reduceAdd, aconv, acvB, capR, acmpnil, appBox, storeB, ares1, appendTo, afill, aeqL, teset, e1, e2, e5, e7, e8, hw2]
              simp only [decide_eq_false_iff_not] at hg
              rw [if_neg (by omega)] at hf
              refine ⟨n - 1, by omega, j + 1, _, rfl, ?_, ?_, ?_, hf⟩
              · rw [wrap_succ (by omega)]
              · omega
              · omega
    have q1 : (k == 1) = false := by simp [h1]
    by_cases h2 : k = 2
    · have q2 : (k == 2) = true := by simp [h2]
      simp only [aw0, aw1, aw2, aw3, aw4, aw5, aw6, aw7, ne_eq, eq_self, implies_true, imp_self, reduceIte, reduceCtorEq, Nat.reduceAdd, Nat.reduceLT, Nat.reduceLeDiff, Nat.reduceEqDiff, Nat.reduceSub, Nat.reduceMul, Nat.reduceBEq, Int.reduceBEq, Int.reduceBNe, Int.reduceLT, Int.reduceLE, Int.reduceGT, Int.reduceGE, Int.reduceNeg, Int.reduceEq, Int.reduceNe, Int.reduceToNat, Int.reduceAdd, aconv, acvB, capR, acmpnil, appBox, storeB, ares1, appendTo, afill, aeqL, teset, q0, q1, q2]
      refine ACallV.pure (plain_pure' _ _ _ _ _ _ _ _ _) ?_
      simp only [aw0, aw1, aw2, aw3, aw4, aw5, aw6, aw7, ne_eq, eq_self, implies_true, imp_self, reduceIte, reduceCtorEq, Nat.reduceAdd, Nat.reduceLT, Nat.reduceLeDiff, Nat.reduceEqDiff, Nat.reduceSub, Nat.reduceMul, Nat.reduceBEq, Int.reduceBEq, Int.reduceBNe, Int.reduceLT, Int.reduceLE, Int.reduceGT, Int.reduceGE, Int.reduceNeg, Int.reduceEq, Int.reduceNe, Int.reduceToNat, Int.reduceAdd, aconv, acvB, capR, acmpnil, appBox, storeB, ares1, appendTo, afill, aeqL, teset, q0, q1, q2]
      have hs' : shape (.mk k i t xs ks) = (plainS (.mk k i t xs ks) true false false false && (decide (i ≤ 1000000000000) && decide (-1000000000000 ≤ i))) := by subst h2; exact shape_2 _ _ _ _
      refine ck_of (fun hc => ?_) (fun hc => ?_)
      · simp only [aw0, aw1, aw2, aw3, aw4, aw5, aw6, aw7, ne_eq, eq_self, implies_true, imp_self, reduceIte, reduceCtorEq, Nat.reduceAdd, Nat.reduceLT, Nat.reduceLeDiff, Nat.reduceEqDiff, Nat.reduceSub, Nat.reduceMul, Nat.reduceBEq, Int.reduceBEq, Int.reduceBNe, Int.reduceLT, Int.reduceLE, Int.reduceGT, Int.reduceGE, Int.reduceNeg, Int.reduceEq, Int.reduceNe, Int.reduceToNat, Int.reduceAdd, aconv, acvB, capR, acmpnil, appBox, storeB, ares1, appendTo, afill, aeqL, teset, q0, q1, q2]
        refine bad61 _ hext (hbad ?_)
        rw [hs']; revert hc
        cases plainS (.mk k i t xs ks) true false false false <;> simp
        omega
      · simp only [aw0, aw1, aw2, aw3, aw4, aw5, aw6, aw7, ne_eq, eq_self, implies_true, imp_self, reduceIte, reduceCtorEq, Nat.reduceAdd, Nat.reduceLT, Nat.reduceLeDiff, Nat.reduceEqDiff, Nat.reduceSub, Nat.reduceMul, Nat.reduceBEq, Int.reduceBEq, Int.reduceBNe, Int.reduceLT, Int.reduceLE, Int.reduceGT, Int.reduceGE, Int.reduceNeg, Int.reduceEq, Int.reduceNe, Int.reduceToNat, Int.reduceAdd, aconv, acvB, capR, acmpnil, appBox, storeB, ares1, appendTo, afill, aeqL, teset, q0, q1, q2]
        have hs : shape (.mk k i t xs ks) = true := by
          rw [hs']; revert hc
          cases plainS (.mk k i t xs ks) true false false false <;> simp
        rw [hshape hs]
        refine ⟨fun n s' h' => ∃ (j acc : Nat), s' 1 = .int .i64 ((L + 1 : Nat) : Int) ∧ s' 2 = .ptr h.nb 0 ∧ s' 5 = .int .i64 61 ∧ s' 7 = .int .i64 acc ∧ s' 8 = .int .i64 j ∧ h' = h.new [.int .i64 k, .int .i64 i, .str t, .sl .ro 5 (List.map inj xs), .sl .ro 1 (List.map AV.str ks)] ∧ n + j = xs.length ∧ acc ≤ 60 ∧ nodesF (nodesS L) acc (xs.drop j) = nodesF (nodesS L) 1 xs, ⟨xs.length, 0, 1, ?_⟩, ?_⟩
        · first
            | (simp only [aw0, aw1, aw2, aw3, aw4, aw5, aw6, aw7, ne_eq, eq_self, implies_true, imp_self, reduceIte, reduceCtorEq, Nat.reduceAdd, Nat.reduceLT, Nat.reduceLeDiff, Nat.reduceEqDiff, Nat.reduceSub, Nat.reduceMul, Nat.reduceBEq, Int.reduceBEq, Int.reduceBNe, Int.reduceLT, Int.reduceLE, Int.reduceGT, Int.reduceGE, Int.reduceNeg, Int.reduceEq, Int.reduceNe, Int.reduceToNat, Int.reduceAdd, aconv, acvB, capR, acmpnil, appBox, storeB, ares1, appendTo, afill, aeqL, teset, Int.natCast_zero, Int.natCast_one]; done)
            | (simp only [aw0, aw1, aw2, aw3, aw4, aw5, aw6, aw7, ne_eq, eq_self, implies_true, imp_self, reduceIte, reduceCtorEq, Nat.reduceAdd, Nat.reduceLT, Nat.reduceLeDiff, Nat.reduceEqDiff, Nat.reduceSub, Nat.reduceMul, Nat.reduceBEq, Int.reduceBEq, Int.reduceBNe, Int.reduceLT, Int.reduceLE, Int.reduceGT, Int.reduceGE, Int.reduceNeg, Int.reduceEq, Int.reduceNe, Int.reduceToNat, Int.reduceAdd, aconv, acvB, capR, acmpnil, appBox, storeB, ares1, appendTo, afill, aeqL, teset, Int.natCast_zero, Int.natCast_one]; exact ⟨by assumption, by assumption, by assumption⟩)
        · rintro n s' h' ⟨j, acc, e1, e2, e5, e7, e8, hh, hn, hacc, hf⟩
          subst hh
          simp only [aw0, aw1, aw2, aw3, aw4, aw5, aw6, aw7, ne_eq, eq_self, implies_true, imp_self, reduceIte, reduceCtorEq, Nat.reduceAdd, Nat.reduceLT, Nat.reduceLeDiff, Nat.reduceEqDiff, Nat.reduceSub, Nat.reduceMul, Nat.reduceBEq, Int.reduceBEq, Int.reduceBNe, Int.reduceLT, Int.reduceLE, Int.reduceGT, Int.reduceGE, Int.reduceNeg, Int.reduceEq, Int.reduceNe, Int.reduceToNat, Int.reduceAdd, aconv, acvB, capR, acmpnil, appBox, storeB, ares1, appendTo, afill, aeqL, teset, e1, e2, e5, e7, e8, List.length_map]
          cases hc : decide ((j : Int) < (xs.length : Int)) with
          | false =>
            simp only [aw0, aw1, aw2, aw3, aw4, aw5, aw6, aw7, ne_eq, eq_self, implies_true, imp_self, reduceIte, reduceCtorEq, Nat.reduceAdd, Nat.reduceLT, Nat.reduceLeDiff, Nat.reduceEqDiff, Nat.reduceSub, Nat.reduceMul, Nat.reduceBEq, Int.reduceBEq, Int.reduceBNe, Int.reduceLT, Int.reduceLE, Int.reduceGT, Int.reduceGE, Int.reduceNeg, Int.reduceEq, Int.reduceNe, Int.reduceToNat, Int.reduceAdd, aconv, acvB, capR, acmpnil, appBox, storeB, ares1, appendTo, afill, aeqL, teset, e1, e2, e5, e7, e8]
            simp only [decide_eq_false_iff_not] at hc
            refine ⟨hext, _, rfl, ?_⟩
            rw [← hf, List.drop_eq_nil_of_le (by omega)]
            rfl
          | true =>
            simp only [decide_eq_true_eq] at hc
            have hj : j < xs.length := by omega
            have hget : (xs.map inj)[((j : Nat) : Int).toNat]? = some (inj xs[j]) := by simp [hj]
            have hw : IntKind.i64.wrap (((L + 1 : Nat) : Int) - 1) = (L : Int) := by rw [wrap_i64 (by omega) (by omega)]; omega
            have hle := nodesS_le L xs[j]
            have hw2 : IntKind.i64.wrap ((acc : Int) + (nodesS L xs[j] : Int)) = ((acc + nodesS L xs[j] : Nat) : Int) := by rw [wrap_i64 (by omega) (by omega)]; omega
            simp only [aw0, aw1, aw2, aw3, aw4, aw5, aw6, aw7, ne_eq, eq_self, implies_true, imp_self, reduceIte, reduceCtorEq, Nat.reduceAdd, Nat.reduceLT, Nat.reduceLeDiff, Nat.reduceEqDiff, Nat.reduceSub, Nat.reduceMul, Nat.reduceBEq, Int.reduceBEq, Int.reduceBNe, Int.reduceLT, Int.reduceLE, Int.reduceGT, Int.reduceGE, Int.reduceNeg, Int.reduceEq, Int.reduceNe, Int.reduceToNat, Int.reduceAdd, aconv, acvB, capR, acmpnil, appBox, storeB, ares1, appendTo, afill, aeqL, teset, e1, e2, e5, e7, e8, hget, Int.natCast_nonneg, load_inj, hw]
            refine ACallV.pure (ih xs[j] (by omega)) ?_
            simp only [aw0, aw1, aw2, aw3, aw4, aw5, aw6, aw7, ne_eq, eq_self, implies_true, imp_self, reduceIte, reduceCtorEq, Nat.reduceAdd, Nat.reduceLT, Nat.reduceLeDiff, Nat.reduceEqDiff, Nat.reduceSub, Nat.reduceMul, Nat.reduceBEq, Int.reduceBEq, Int.reduceBNe, Int.reduceLT, Int.reduceLE, Int.reduceGT, Int.reduceGE, Int.reduceNeg, Int.reduceEq, Int.reduceNe, Int.reduceToNat, Int.reduceAdd, aconv, acvB, capR, acmpnil, appBox, storeB, ares1, appendTo, afill, aeqL, teset, e1, e2, e5, e7, e8, hw2]
            rw [List.drop_eq_getElem_cons hj, nodesF] at hf
            cases hg : decide (((acc + nodesS L xs[j] : Nat) : Int) > 60) with
            | true =>
              simp only [aw0, aw1, aw2, aw3, aw4, aw5, aw6, aw7, ne_eq, eq_self, implies_true, imp_self, reduceIte, reduceCtorEq, Nat.reduceAdd, Nat.reduceLT, Nat.reduceLeDiff, Nat.reduceEqDiff, Nat.reduceSub, Nat.reduceMul, Nat.reduceBEq, Int.reduceBEq, Int.reduceBNe, Int.reduceLT, Int.reduceLE, Int.reduceGT, Int.reduceGE, Int.reduceNeg, Int.reduceEq, Int.reduceNe, Int.reduceToNat, Int.reduceAdd, aconv, acvB, capR, acmpnil, appBox, storeB, ares1, appendTo, afill, aeqL, teset, e1, e2, e5, e7, e8, hw2]
              simp only [decide_eq_true_eq] at hg
              refine ⟨hext, _, rfl, ?_⟩
              rw [← hf, if_pos (by omega)]
              rfl
            | false =>
              simp only [aw0, aw1, aw2, aw3, aw4, aw5, aw6, aw7, ne_eq, eq_self, implies_true, imp_self, reduceIte, reduceCtorEq, Nat.reduceAdd, Nat.reduceLT, Nat.reduceLeDiff, Nat.reduceEqDiff, Nat.reduceSub, Nat.reduceMul, Nat.reduceBEq, Int.reduceBEq, Int.reduceBNe, Int.reduceLT, Int.reduceLE, Int.reduceGT, Int.reduceGE, Int.reduceNeg, Int.reduceEq, Int.reduceNe, Int.reduceToNat, Int.reduceAdd, aconv, acvB, capR, acmpnil, appBox, storeB, ares1, appendTo, afill, aeqL, teset, e1, e2, e5, e7, e8, hw2]
              simp only [decide_eq_false_iff_not] at hg
              rw [if_neg (by omega)] at hf
              refine ⟨n - 1, by omega, j + 1, _, rfl, ?_, ?_, ?_, hf⟩
              · rw [wrap_succ (by omega)]
              · omega
              · omega
    have q2 : (k == 2) = false := by simp [h2]
    by_cases h3 : k = 3
    · have q3 : (k == 3) = true := by simp [h3]
      simp only [aw0, aw1, aw2, aw3, aw4, aw5, aw6, aw7, ne_eq, eq_self, implies_true, imp_self, reduceIte, reduceCtorEq, Nat.reduceAdd, Nat.reduceLT, Nat.reduceLeDiff, Nat.reduceEqDiff, Nat.reduceSub, Nat.reduceMul, Nat.reduceBEq, Int.reduceBEq, Int.reduceBNe, Int.reduceLT, Int.reduceLE, Int.reduceGT, Int.reduceGE, Int.reduceNeg, Int.reduceEq, Int.reduceNe, Int.reduceToNat, Int.reduceAdd, aconv, acvB, capR, acmpnil, appBox, storeB, ares1, appendTo, afill, aeqL, teset, q0, q1, q2, q3]
      refine ACallV.pure (plain_pure' _ _ _ _ _ _ _ _ _) ?_
      have hs' : shape (.mk k i t xs ks) = (plainS (.mk k i t xs ks) false true false false && isText t) := by subst h3; exact shape_3 _ _ _ _
      cases hp : plainS (.mk k i t xs ks) false true false false with
      | false =>
        simp only [aw0, aw1, aw2, aw3, aw4, aw5, aw6, aw7, ne_eq, eq_self, implies_true, imp_self, reduceIte, reduceCtorEq, Nat.reduceAdd, Nat.reduceLT, Nat.reduceLeDiff, Nat.reduceEqDiff, Nat.reduceSub, Nat.reduceMul, Nat.reduceBEq, Int.reduceBEq, Int.reduceBNe, Int.reduceLT, Int.reduceLE, Int.reduceGT, Int.reduceGE, Int.reduceNeg, Int.reduceEq, Int.reduceNe, Int.reduceToNat, Int.reduceAdd, aconv, acvB, capR, acmpnil, appBox, storeB, ares1, appendTo, afill, aeqL, teset, q0, q1, q2, q3]
        refine bad61 _ hext (hbad ?_)
        rw [hs', hp]; rfl
      | true =>
        simp only [aw0, aw1, aw2, aw3, aw4, aw5, aw6, aw7, ne_eq, eq_self, implies_true, imp_self, reduceIte, reduceCtorEq, Nat.reduceAdd, Nat.reduceLT, Nat.reduceLeDiff, Nat.reduceEqDiff, Nat.reduceSub, Nat.reduceMul, Nat.reduceBEq, Int.reduceBEq, Int.reduceBNe, Int.reduceLT, Int.reduceLE, Int.reduceGT, Int.reduceGE, Int.reduceNeg, Int.reduceEq, Int.reduceNe, Int.reduceToNat, Int.reduceAdd, aconv, acvB, capR, acmpnil, appBox, storeB, ares1, appendTo, afill, aeqL, teset, q0, q1, q2, q3]
        refine ACallV.pure (isText_pure _) ?_
        cases ht : isText t with
        | false =>
          simp only [aw0, aw1, aw2, aw3, aw4, aw5, aw6, aw7, ne_eq, eq_self, implies_true, imp_self, reduceIte, reduceCtorEq, Nat.reduceAdd, Nat.reduceLT, Nat.reduceLeDiff, Nat.reduceEqDiff, Nat.reduceSub, Nat.reduceMul, Nat.reduceBEq, Int.reduceBEq, Int.reduceBNe, Int.reduceLT, Int.reduceLE, Int.reduceGT, Int.reduceGE, Int.reduceNeg, Int.reduceEq, Int.reduceNe, Int.reduceToNat, Int.reduceAdd, aconv, acvB, capR, acmpnil, appBox, storeB, ares1, appendTo, afill, aeqL, teset, q0, q1, q2, q3]
          refine bad61 _ hext (hbad ?_)
          rw [hs', hp, ht]; rfl
        | true =>
          simp only [aw0, aw1, aw2, aw3, aw4, aw5, aw6, aw7, ne_eq, eq_self, implies_true, imp_self, reduceIte, reduceCtorEq, Nat.reduceAdd, Nat.reduceLT, Nat.reduceLeDiff, Nat.reduceEqDiff, Nat.reduceSub, Nat.reduceMul, Nat.reduceBEq, Int.reduceBEq, Int.reduceBNe, Int.reduceLT, Int.reduceLE, Int.reduceGT, Int.reduceGE, Int.reduceNeg, Int.reduceEq, Int.reduceNe, Int.reduceToNat, Int.reduceAdd, aconv, acvB, capR, acmpnil, appBox, storeB, ares1, appendTo, afill, aeqL, teset, q0, q1, q2, q3]
          have hs : shape (.mk k i t xs ks) = true := by rw [hs', hp, ht]; rfl
          rw [hshape hs]
          refine ⟨fun n s' h' => ∃ (j acc : Nat), s' 1 = .int .i64 ((L + 1 : Nat) : Int) ∧ s' 2 = .ptr h.nb 0 ∧ s' 5 = .int .i64 61 ∧ s' 7 = .int .i64 acc ∧ s' 8 = .int .i64 j ∧ h' = h.new [.int .i64 k, .int .i64 i, .str t, .sl .ro 5 (List.map inj xs), .sl .ro 1 (List.map AV.str ks)] ∧ n + j = xs.length ∧ acc ≤ 60 ∧ nodesF (nodesS L) acc (xs.drop j) = nodesF (nodesS L) 1 xs, ⟨xs.length, 0, 1, ?_⟩, ?_⟩
          · first
              | (simp only [aw0, aw1, aw2, aw3, aw4, aw5, aw6, aw7, ne_eq, eq_self, implies_true, imp_self, reduceIte, reduceCtorEq, Nat.reduceAdd, Nat.reduceLT, Nat.reduceLeDiff, Nat.reduceEqDiff, Nat.reduceSub, Nat.reduceMul, Nat.reduceBEq, Int.reduceBEq, Int.reduceBNe, Int.reduceLT, Int.reduceLE, Int.reduceGT, Int.reduceGE, Int.reduceNeg, Int.reduceEq, Int.reduceNe, Int.reduceToNat, Int.reduceAdd, aconv, acvB, capR, acmpnil, appBox, storeB, ares1, appendTo, afill, aeqL, teset, Int.natCast_zero, Int.natCast_one]; done)
              | (simp only [aw0, aw1, aw2, aw3, aw4, aw5, aw6, aw7, ne_eq, eq_self, implies_true, imp_self, reduceIte, reduceCtorEq, Nat.reduceAdd, Nat.reduceLT, Nat.reduceLeDiff, Nat.reduceEqDiff, Nat.reduceSub, Nat.reduceMul, Nat.reduceBEq, Int.reduceBEq, Int.reduceBNe, Int.reduceLT, Int.reduceLE, Int.reduceGT, Int.reduceGE, Int.reduceNeg, Int.reduceEq, Int.reduceNe, Int.reduceToNat, Int.reduceAdd, aconv, acvB, capR, acmpnil, appBox, storeB, ares1, appendTo, afill, aeqL, teset, Int.natCast_zero, Int.natCast_one]; exact ⟨by assumption, by assumption, by assumption⟩)
          · rintro n s' h' ⟨j, acc, e1, e2, e5, e7, e8, hh, hn, hacc, hf⟩
            subst hh
            simp only [aw0, aw1, aw2, aw3, aw4, aw5, aw6, aw7, ne_eq, eq_self, implies_true, imp_self, reduceIte, reduceCtorEq, Nat.reduceAdd, Nat.reduceLT, Nat.reduceLeDiff, Nat.reduceEqDiff, Nat.reduceSub, Nat.reduceMul, Nat.reduceBEq, Int.reduceBEq, Int.reduceBNe, Int.reduceLT, Int.reduceLE, Int.reduceGT, Int.reduceGE, Int.reduceNeg, Int.reduceEq, Int.reduceNe, Int.reduceToNat, Int.reduceAdd, aconv, acvB, capR, acmpnil, appBox, storeB, ares1, appendTo, afill, aeqL, teset, e1, e2, e5, e7, e8, List.length_map]
            cases hc : decide ((j : Int) < (xs.length : Int)) with
            | false =>
              simp only [aw0, aw1, aw2, aw3, aw4, aw5, aw6, aw7, ne_eq, eq_self, implies_true, imp_self, reduceIte, reduceCtorEq, Nat.reduceAdd, Nat.reduceLT, Nat.reduceLeDiff, Nat.reduceEqDiff, Nat.reduceSub, Nat.reduceMul, Nat.reduceBEq, Int.reduceBEq, Int.reduceBNe, Int.reduceLT, Int.reduceLE, Int.reduceGT, Int.reduceGE, Int.reduceNeg, Int.reduceEq, Int.reduceNe, Int.reduceToNat, Int.reduceAdd, aconv, acvB, capR, acmpnil, appBox, storeB, ares1, appendTo, afill, aeqL, teset, e1, e2, e5, e7, e8]
              simp only [decide_eq_false_iff_not] at hc
              refine ⟨hext, _, rfl, ?_⟩
              rw [← hf, List.drop_eq_nil_of_le (by omega)]
              rfl
            | true =>
              simp only [decide_eq_true_eq] at hc
              have hj : j < xs.length := by omega
              have hget : (xs.map inj)[((j : Nat) : Int).toNat]? = some (inj xs[j]) := by simp [hj]
              have hw : IntKind.i64.wrap (((L + 1 : Nat) : Int) - 1) = (L : Int) := by rw [wrap_i64 (by omega) (by omega)]; omega
              have hle := nodesS_le L xs[j]
              have hw2 : IntKind.i64.wrap ((acc : Int) + (nodesS L xs[j] : Int)) = ((acc + nodesS L xs[j] : Nat) : Int) := by rw [wrap_i64 (by omega) (by omega)]; omega
              simp only [aw0, aw1, aw2, aw3, aw4, aw5, aw6, aw7, ne_eq, eq_self, implies_true, imp_self, reduceIte, reduceCtorEq, Nat.reduceAdd, Nat.reduceLT, Nat.reduceLeDiff, Nat.reduceEqDiff, Nat.reduceSub, Nat.reduceMul, Nat.reduceBEq, Int.reduceBEq, Int.reduceBNe, Int.reduceLT, Int.reduceLE, Int.reduceGT, Int.reduceGE, Int.reduceNeg, Int.reduceEq, Int.reduceNe, Int.reduceToNat, Int.reduceAdd, aconv, acvB, capR, acmpnil, appBox, storeB, ares1, appendTo, afill, aeqL, teset, e1, e2, e5, e7, e8, hget, Int.natCast_nonneg, load_inj, hw]
              refine ACallV.pure (ih xs[j] (by omega)) ?_
              simp only [aw0, aw1, aw2, aw3, aw4, aw5, aw6, aw7, ne_eq, eq_self, implies_true, imp_self, reduceIte, reduceCtorEq, Nat.reduceAdd, Nat.reduceLT, Nat.reduceLeDiff, Nat.reduceEqDiff, Nat.reduceSub, Nat.reduceMul, Nat.reduceBEq, Int.reduceBEq, Int.reduceBNe, Int.reduceLT, Int.reduceLE, Int.reduceGT, Int.reduceGE, Int.reduceNeg, Int.reduceEq, Int.reduceNe, Int.reduceToNat, Int.reduceAdd, aconv, acvB, capR, acmpnil, appBox, storeB, ares1, appendTo, afill, aeqL, teset, e1, e2, e5, e7, e8, hw2]
              rw [List.drop_eq_getElem_cons hj, nodesF] at hf
              cases hg : decide (((acc + nodesS L xs[j] : Nat) : Int) > 60) with
              | true =>
                simp only [aw0, aw1, aw2, aw3, aw4, aw5, aw6, aw7, ne_eq, eq_self, implies_true, imp_self, reduceIte, reduceCtorEq, Nat.reduceAdd, Nat.reduceLT, Nat.reduceLeDiff, Nat.reduceEqDiff, Nat.reduceSub, Nat.reduceMul, Nat.reduceBEq, Int.reduceBEq, Int.reduceBNe, Int.reduceLT, Int.reduceLE, Int.reduceGT, Int.reduceGE, Int.reduceNeg, Int.reduceEq, Int.reduceNe, Int.reduceToNat, Int.reduceAdd, aconv, acvB, capR, acmpnil, appBox, storeB, ares1, appendTo, afill, aeqL, teset, e1, e2, e5, e7, e8, hw2]
                simp only [decide_eq_true_eq] at hg
                refine ⟨hext, _, rfl, ?_⟩
                rw [← hf, if_pos (by omega)]
                rfl
              | false =>
                simp only [aw0, aw1, aw2, aw3, aw4, aw5, aw6, aw7, ne_eq, eq_self, implies_true, imp_self, reduceIte, reduceCtorEq, Nat.reduceAdd, Nat.reduceLT, Nat.reduceLeDiff, Nat.reduceEqDiff, Nat.reduceSub, Nat.reduceMul, Nat.reduceBEq, Int.reduceBEq, Int.reduceBNe, Int.reduceLT, Int.reduceLE, Int.reduceGT, Int.reduceGE, Int.reduceNeg, Int.reduceEq, Int.reduceNe, Int.reduceToNat, Int.reduceAdd, aconv, acvB, capR, acmpnil, appBox, storeB, ares1, appendTo, afill, aeqL, teset, e1, e2, e5, e7, e8, hw2]
                simp only [decide_eq_false_iff_not] at hg
                rw [if_neg (by omega)] at hf
                refine ⟨n - 1, by omega, j + 1, _, rfl, ?_, ?_, ?_, hf⟩
                · rw [wrap_succ (by omega)]
                · omega
                · omega
    have q3 : (k == 3) = false := by simp [h3]
    by_cases h4 : k = 4
    · have q4 : (k == 4) = true := by simp [h4]
      simp only [aw0, aw1, aw2, aw3, aw4, aw5, aw6, aw7, ne_eq, eq_self, implies_true, imp_self, reduceIte, reduceCtorEq, Nat.reduceAdd, Nat.reduceLT, Nat.reduceLeDiff, Nat.reduceEqDiff, Nat.reduceSub, Nat.reduceMul, Nat.reduceBEq, Int.reduceBEq, Int.reduceBNe, Int.reduceLT, Int.reduceLE, Int.reduceGT, Int.reduceGE, Int.reduceNeg, Int.reduceEq, Int.reduceNe, Int.reduceToNat, Int.reduceAdd, aconv, acvB, capR, acmpnil, appBox, storeB, ares1, appendTo, afill, aeqL, teset, q0, q1, q2, q3, q4]
      refine ACallV.pure (plain_pure' _ _ _ _ _ _ _ _ _) ?_
      cases hp : plainS (.mk k i t xs ks) false false true false with
      | false => simp only [aw0, aw1, aw2, aw3, aw4, aw5, aw6, aw7, ne_eq, eq_self, implies_true, imp_self, reduceIte, reduceCtorEq, Nat.reduceAdd, Nat.reduceLT, Nat.reduceLeDiff, Nat.reduceEqDiff, Nat.reduceSub, Nat.reduceMul, Nat.reduceBEq, Int.reduceBEq, Int.reduceBNe, Int.reduceLT, Int.reduceLE, Int.reduceGT, Int.reduceGE, Int.reduceNeg, Int.reduceEq, Int.reduceNe, Int.reduceToNat, Int.reduceAdd, aconv, acvB, capR, acmpnil, appBox, storeB, ares1, appendTo, afill, aeqL, teset, q0]; exact bad61 _ hext (hbad (by subst h4; rw [shape_4]; exact hp))
      | true =>
        simp only [aw0, aw1, aw2, aw3, aw4, aw5, aw6, aw7, ne_eq, eq_self, implies_true, imp_self, reduceIte, reduceCtorEq, Nat.reduceAdd, Nat.reduceLT, Nat.reduceLeDiff, Nat.reduceEqDiff, Nat.reduceSub, Nat.reduceMul, Nat.reduceBEq, Int.reduceBEq, Int.reduceBNe, Int.reduceLT, Int.reduceLE, Int.reduceGT, Int.reduceGE, Int.reduceNeg, Int.reduceEq, Int.reduceNe, Int.reduceToNat, Int.reduceAdd, aconv, acvB, capR, acmpnil, appBox, storeB, ares1, appendTo, afill, aeqL, teset, q0]
        have hs : shape (.mk k i t xs ks) = true := by subst h4; rw [shape_4]; exact hp
        rw [hshape hs]
        refine ⟨fun n s' h' => ∃ (j acc : Nat), s' 1 = .int .i64 ((L + 1 : Nat) : Int) ∧ s' 2 = .ptr h.nb 0 ∧ s' 5 = .int .i64 61 ∧ s' 7 = .int .i64 acc ∧ s' 8 = .int .i64 j ∧ h' = h.new [.int .i64 k, .int .i64 i, .str t, .sl .ro 5 (List.map inj xs), .sl .ro 1 (List.map AV.str ks)] ∧ n + j = xs.length ∧ acc ≤ 60 ∧ nodesF (nodesS L) acc (xs.drop j) = nodesF (nodesS L) 1 xs, ⟨xs.length, 0, 1, ?_⟩, ?_⟩
        · first
            | (simp only [aw0, aw1, aw2, aw3, aw4, aw5, aw6, aw7, ne_eq, eq_self, implies_true, imp_self, reduceIte, reduceCtorEq, Nat.reduceAdd, Nat.reduceLT, Nat.reduceLeDiff, Nat.reduceEqDiff, Nat.reduceSub, Nat.reduceMul, Nat.reduceBEq, Int.reduceBEq, Int.reduceBNe, Int.reduceLT, Int.reduceLE, Int.reduceGT, Int.reduceGE, Int.reduceNeg, Int.reduceEq, Int.reduceNe, Int.reduceToNat, Int.reduceAdd, aconv, acvB, capR, acmpnil, appBox, storeB, ares1, appendTo, afill, aeqL, teset, Int.natCast_zero, Int.natCast_one]; done)
            | (simp only [aw0, aw1, aw2, aw3, aw4, aw5, aw6, aw7, ne_eq, eq_self, implies_true, imp_self, reduceIte, reduceCtorEq, Nat.reduceAdd, Nat.reduceLT, Nat.reduceLeDiff, Nat.reduceEqDiff, Nat.reduceSub, Nat.reduceMul, Nat.reduceBEq, Int.reduceBEq, Int.reduceBNe, Int.reduceLT, Int.reduceLE, Int.reduceGT, Int.reduceGE, Int.reduceNeg, Int.reduceEq, Int.reduceNe, Int.reduceToNat, Int.reduceAdd, aconv, acvB, capR, acmpnil, appBox, storeB, ares1, appendTo, afill, aeqL, teset, Int.natCast_zero, Int.natCast_one]; exact ⟨by assumption, by assumption, by assumption⟩)
        · rintro n s' h' ⟨j, acc, e1, e2, e5, e7, e8, hh, hn, hacc, hf⟩
          subst hh
          simp only [aw0, aw1, aw2, aw3, aw4, aw5, aw6, aw7, ne_eq, eq_self, implies_true, imp_self, reduceIte, reduceCtorEq, Nat.reduceAdd, Nat.reduceLT, Nat.reduceLeDiff, Nat.reduceEqDiff, Nat.reduceSub, Nat.reduceMul, Nat.reduceBEq, Int.reduceBEq, Int.reduceBNe, Int.reduceLT, Int.reduceLE, Int.reduceGT, Int.reduceGE, Int.reduceNeg, Int.reduceEq, Int.reduceNe, Int.reduceToNat, Int.reduceAdd, aconv, acvB, capR, acmpnil, appBox, storeB, ares1, appendTo, afill, aeqL, teset, e1, e2, e5, e7, e8, List.length_map]
          cases hc : decide ((j : Int) < (xs.length : Int)) with
          | false =>
            simp only [aw0, aw1, aw2, aw3, aw4, aw5, aw6, aw7, ne_eq, eq_self, implies_true, imp_self, reduceIte, reduceCtorEq, Nat.reduceAdd, Nat.reduceLT, Nat.reduceLeDiff, Nat.reduceEqDiff, Nat.reduceSub, Nat.reduceMul, Nat.reduceBEq, Int.reduceBEq, Int.reduceBNe, Int.reduceLT, Int.reduceLE, Int.reduceGT, Int.reduceGE, Int.reduceNeg, Int.reduceEq, Int.reduceNe, Int.reduceToNat, Int.reduceAdd, aconv, acvB, capR, acmpnil, appBox, storeB, ares1, appendTo, afill, aeqL, teset, e1, e2, e5, e7, e8]
            simp only [decide_eq_false_iff_not] at hc
            refine ⟨hext, _, rfl, ?_⟩
            rw [← hf, List.drop_eq_nil_of_le (by omega)]
            rfl
          | true =>
            simp only [decide_eq_true_eq] at hc
            have hj : j < xs.length := by omega
            have hget : (xs.map inj)[((j : Nat) : Int).toNat]? = some (inj xs[j]) := by simp [hj]
            have hw : IntKind.i64.wrap (((L + 1 : Nat) : Int) - 1) = (L : Int) := by rw [wrap_i64 (by omega) (by omega)]; omega
            have hle := nodesS_le L xs[j]
            have hw2 : IntKind.i64.wrap ((acc : Int) + (nodesS L xs[j] : Int)) = ((acc + nodesS L xs[j] : Nat) : Int) := by rw [wrap_i64 (by omega) (by omega)]; omega
            simp only [aw0, aw1, aw2, aw3, aw4, aw5, aw6, aw7, ne_eq, eq_self, implies_true, imp_self, reduceIte, reduceCtorEq, Nat.reduceAdd, Nat.reduceLT, Nat.reduceLeDiff, Nat.reduceEqDiff, Nat.reduceSub, Nat.reduceMul, Nat.reduceBEq, Int.reduceBEq, Int.reduceBNe, Int.reduceLT, Int.reduceLE, Int.reduceGT, Int.reduceGE, Int.reduceNeg, Int.reduceEq, Int.reduceNe, Int.reduceToNat, Int.reduceAdd, aconv, acvB, capR, acmpnil, appBox, storeB, ares1, appendTo, afill, aeqL, teset, e1, e2, e5, e7, e8, hget, Int.natCast_nonneg, load_inj, hw]
            refine ACallV.pure (ih xs[j] (by omega)) ?_
            simp only [aw0, aw1, aw2, aw3, aw4, aw5, aw6, aw7, ne_eq, eq_self, implies_true, imp_self, reduceIte, reduceCtorEq, Nat.reduceAdd, Nat.reduceLT, Nat.reduceLeDiff, Nat.reduceEqDiff, Nat.reduceSub, Nat.reduceMul, Nat.reduceBEq, Int.reduceBEq, Int.reduceBNe, Int.reduceLT, Int.reduceLE, Int.reduceGT, Int.reduceGE, Int.reduceNeg, Int.reduceEq, Int.reduceNe, Int.reduceToNat, Int.reduceAdd, aconv, acvB, capR, acmpnil, appBox, storeB, ares1, appendTo, afill, aeqL, teset, e1, e2, e5, e7, e8, hw2]
            rw [List.drop_eq_getElem_cons hj, nodesF] at hf
            cases hg : decide (((acc + nodesS L xs[j] : Nat) : Int) > 60) with
            | true =>
              simp only [aw0, aw1, aw2, aw3, aw4, aw5, aw6, aw7, ne_eq, eq_self, implies_true, imp_self, reduceIte, reduceCtorEq, Nat.reduceAdd, Nat.reduceLT, Nat.reduceLeDiff, Nat.reduceEqDiff, Nat.reduceSub, Nat.reduceMul, Nat.reduceBEq, Int.reduceBEq, Int.reduceBNe, Int.reduceLT, Int.reduceLE, Int.reduceGT, Int.reduceGE, Int.reduceNeg, Int.reduceEq, Int.reduceNe, Int.reduceToNat, Int.reduceAdd, aconv, acvB, capR, acmpnil, appBox, storeB, ares1, appendTo, afill, aeqL, teset, e1, e2, e5, e7, e8, hw2]
              simp only [decide_eq_true_eq] at hg
              refine ⟨hext, _, rfl, ?_⟩
              rw [← hf, if_pos (by omega)]
              rfl
            | false =>
              simp only [aw0, aw1, aw2, aw3, aw4, aw5, aw6, aw7, ne_eq, eq_self, implies_true, imp_self, reduceIte, reduceCtorEq, Nat.reduceAdd, Nat.reduceLT, Nat.reduceLeDiff, Nat.reduceEqDiff, Nat.reduceSub, Nat.reduceMul, Nat.reduceBEq, Int.reduceBEq, Int.reduceBNe, Int.reduceLT, Int.reduceLE, Int.reduceGT, Int.reduceGE, Int.reduceNeg, Int.reduceEq, Int.reduceNe, Int.reduceToNat, Int.reduceAdd, aconv, acvB, capR, acmpnil, appBox, storeB, ares1, appendTo, afill, aeqL, teset, e1, e2, e5, e7, e8, hw2]
              simp only [decide_eq_false_iff_not] at hg
              rw [if_neg (by omega)] at hf
              refine ⟨n - 1, by omega, j + 1, _, rfl, ?_, ?_, ?_, hf⟩
              · rw [wrap_succ (by omega)]
              · omega
              · omega
    have q4 : (k == 4) = false := by simp [h4]
    by_cases h5 : k = 5
    · have q5 : (k == 5) = true := by simp [h5]
      simp only [aw0, aw1, aw2, aw3, aw4, aw5, aw6, aw7, ne_eq, eq_self, implies_true, imp_self, reduceIte, reduceCtorEq, Nat.reduceAdd, Nat.reduceLT, Nat.reduceLeDiff, Nat.reduceEqDiff, Nat.reduceSub, Nat.reduceMul, Nat.reduceBEq, Int.reduceBEq, Int.reduceBNe, Int.reduceLT, Int.reduceLE, Int.reduceGT, Int.reduceGE, Int.reduceNeg, Int.reduceEq, Int.reduceNe, Int.reduceToNat, Int.reduceAdd, aconv, acvB, capR, acmpnil, appBox, storeB, ares1, appendTo, afill, aeqL, teset, q0, q1, q2, q3, q4, q5]
      refine ACallV.pure (plain_pure' _ _ _ _ _ _ _ _ _) ?_
      have hs' : shape (.mk k i t xs ks) = (plainS (.mk k i t xs ks) false false true true && ks.length == xs.length && keysOk ks) := by subst h5; exact shape_5 _ _ _ _
      simp only [aw0, aw1, aw2, aw3, aw4, aw5, aw6, aw7, ne_eq, eq_self, implies_true, imp_self, reduceIte, reduceCtorEq, Nat.reduceAdd, Nat.reduceLT, Nat.reduceLeDiff, Nat.reduceEqDiff, Nat.reduceSub, Nat.reduceMul, Nat.reduceBEq, Int.reduceBEq, Int.reduceBNe, Int.reduceLT, Int.reduceLE, Int.reduceGT, Int.reduceGE, Int.reduceNeg, Int.reduceEq, Int.reduceNe, Int.reduceToNat, Int.reduceAdd, aconv, acvB, capR, acmpnil, appBox, storeB, ares1, appendTo, afill, aeqL, teset, q0, q1, q2, q3, q4, q5, List.length_map]
      refine ck_of (fun hc => ?_) (fun hc => ?_)
      · simp only [aw0, aw1, aw2, aw3, aw4, aw5, aw6, aw7, ne_eq, eq_self, implies_true, imp_self, reduceIte, reduceCtorEq, Nat.reduceAdd, Nat.reduceLT, Nat.reduceLeDiff, Nat.reduceEqDiff, Nat.reduceSub, Nat.reduceMul, Nat.reduceBEq, Int.reduceBEq, Int.reduceBNe, Int.reduceLT, Int.reduceLE, Int.reduceGT, Int.reduceGE, Int.reduceNeg, Int.reduceEq, Int.reduceNe, Int.reduceToNat, Int.reduceAdd, aconv, acvB, capR, acmpnil, appBox, storeB, ares1, appendTo, afill, aeqL, teset, q0, q1, q2, q3]
        refine bad61 _ hext (hbad ?_)
        rw [hs']; revert hc
        cases plainS (.mk k i t xs ks) false false true true <;> simp
        intro hne hc; exact absurd hc (by omega)
      · have hp : plainS (.mk k i t xs ks) false false true true = true := by revert hc; cases plainS (.mk k i t xs ks) false false true true <;> simp
        have hkl : ks.length = xs.length := by revert hc; rw [hp]; simp; omega
        simp only [aw0, aw1, aw2, aw3, aw4, aw5, aw6, aw7, ne_eq, eq_self, implies_true, imp_self, reduceIte, reduceCtorEq, Nat.reduceAdd, Nat.reduceLT, Nat.reduceLeDiff, Nat.reduceEqDiff, Nat.reduceSub, Nat.reduceMul, Nat.reduceBEq, Int.reduceBEq, Int.reduceBNe, Int.reduceLT, Int.reduceLE, Int.reduceGT, Int.reduceGE, Int.reduceNeg, Int.reduceEq, Int.reduceNe, Int.reduceToNat, Int.reduceAdd, aconv, acvB, capR, acmpnil, appBox, storeB, ares1, appendTo, afill, aeqL, teset, q0, q1, q2, q3, q4, q5]
        refine ⟨fun n s' h' => ∃ (j : Nat), s' 1 = .int .i64 ((L + 1 : Nat) : Int) ∧ s' 2 = .ptr h.nb 0 ∧ s' 5 = .int .i64 61 ∧ s' 6 = .int .i64 j ∧ h' = h.new [.int .i64 k, .int .i64 i, .str t, .sl .ro 5 (List.map inj xs), .sl .ro 1 (List.map AV.str ks)] ∧ n + j = ks.length ∧ (∀ j', j' < j → keyOk ks j' = true), ⟨ks.length, 0, ?_⟩, ?_⟩
        · simp only [aw0, aw1, aw2, aw3, aw4, aw5, aw6, aw7, ne_eq, eq_self, implies_true, imp_self, reduceIte, reduceCtorEq, Nat.reduceAdd, Nat.reduceLT, Nat.reduceLeDiff, Nat.reduceEqDiff, Nat.reduceSub, Nat.reduceMul, Nat.reduceBEq, Int.reduceBEq, Int.reduceBNe, Int.reduceLT, Int.reduceLE, Int.reduceGT, Int.reduceGE, Int.reduceNeg, Int.reduceEq, Int.reduceNe, Int.reduceToNat, Int.reduceAdd, aconv, acvB, capR, acmpnil, appBox, storeB, ares1, appendTo, afill, aeqL, teset, Int.natCast_zero, Int.natCast_one]
          exact fun j' hj' => absurd hj' (Nat.not_lt_zero _)
        · rintro n s' h' ⟨j, e1, e2, e5, e6, hh, hn, hall⟩
          subst hh
          simp only [aw0, aw1, aw2, aw3, aw4, aw5, aw6, aw7, ne_eq, eq_self, implies_true, imp_self, reduceIte, reduceCtorEq, Nat.reduceAdd, Nat.reduceLT, Nat.reduceLeDiff, Nat.reduceEqDiff, Nat.reduceSub, Nat.reduceMul, Nat.reduceBEq, Int.reduceBEq, Int.reduceBNe, Int.reduceLT, Int.reduceLE, Int.reduceGT, Int.reduceGE, Int.reduceNeg, Int.reduceEq, Int.reduceNe, Int.reduceToNat, Int.reduceAdd, aconv, acvB, capR, acmpnil, appBox, storeB, ares1, appendTo, afill, aeqL, teset, e1, e2, e5, e6, List.length_map]
          cases hc : decide ((j : Int) < (ks.length : Int)) with
          | false =>
            simp only [aw0, aw1, aw2, aw3, aw4, aw5, aw6, aw7, ne_eq, eq_self, implies_true, imp_self, reduceIte, reduceCtorEq, Nat.reduceAdd, Nat.reduceLT, Nat.reduceLeDiff, Nat.reduceEqDiff, Nat.reduceSub, Nat.reduceMul, Nat.reduceBEq, Int.reduceBEq, Int.reduceBNe, Int.reduceLT, Int.reduceLE, Int.reduceGT, Int.reduceGE, Int.reduceNeg, Int.reduceEq, Int.reduceNe, Int.reduceToNat, Int.reduceAdd, aconv, acvB, capR, acmpnil, appBox, storeB, ares1, appendTo, afill, aeqL, teset, e1, e2, e5, e6]
            simp only [decide_eq_false_iff_not] at hc
            have hko : keysOk ks = true := by
              unfold keysOk
              rw [List.all_eq_true]
              intro j' hj'
              exact hall j' (by have := List.mem_range.1 hj'; omega)
            have hs : shape (.mk k i t xs ks) = true := by rw [hs', hp, hko, hkl]; simp
            rw [hshape hs]
            refine ⟨fun n s' h' => ∃ (j acc : Nat), s' 1 = .int .i64 ((L + 1 : Nat) : Int) ∧ s' 2 = .ptr h.nb 0 ∧ s' 5 = .int .i64 61 ∧ s' 7 = .int .i64 acc ∧ s' 8 = .int .i64 j ∧ h' = h.new [.int .i64 k, .int .i64 i, .str t, .sl .ro 5 (List.map inj xs), .sl .ro 1 (List.map AV.str ks)] ∧ n + j = xs.length ∧ acc ≤ 60 ∧ nodesF (nodesS L) acc (xs.drop j) = nodesF (nodesS L) 1 xs, ⟨xs.length, 0, 1, ?_⟩, ?_⟩
            · first
                | (simp only [aw0, aw1, aw2, aw3, aw4, aw5, aw6, aw7, ne_eq, eq_self, implies_true, imp_self, reduceIte, reduceCtorEq, Nat.reduceAdd, Nat.reduceLT, Nat.reduceLeDiff, Nat.reduceEqDiff, Nat.reduceSub, Nat.reduceMul, Nat.reduceBEq, Int.reduceBEq, Int.reduceBNe, Int.reduceLT, Int.reduceLE, Int.reduceGT, Int.reduceGE, Int.reduceNeg, Int.reduceEq, Int.reduceNe, Int.reduceToNat, Int.reduceAdd, aconv, acvB, capR, acmpnil, appBox, storeB, ares1, appendTo, afill, aeqL, teset, Int.natCast_zero, Int.natCast_one]; done)
                | (simp only [aw0, aw1, aw2, aw3, aw4, aw5, aw6, aw7, ne_eq, eq_self, implies_true, imp_self, reduceIte, reduceCtorEq, Nat.reduceAdd, Nat.reduceLT, Nat.reduceLeDiff, Nat.reduceEqDiff, Nat.reduceSub, Nat.reduceMul, Nat.reduceBEq, Int.reduceBEq, Int.reduceBNe, Int.reduceLT, Int.reduceLE, Int.reduceGT, Int.reduceGE, Int.reduceNeg, Int.reduceEq, Int.reduceNe, Int.reduceToNat, Int.reduceAdd, aconv, acvB, capR, acmpnil, appBox, storeB, ares1, appendTo, afill, aeqL, teset, Int.natCast_zero, Int.natCast_one]; exact ⟨by assumption, by assumption, by assumption⟩)
            · rintro n s' h' ⟨j, acc, e1, e2, e5, e7, e8, hh, hn, hacc, hf⟩
              subst hh
              simp only [aw0, aw1, aw2, aw3, aw4, aw5, aw6, aw7, ne_eq, eq_self, implies_true, imp_self, reduceIte, reduceCtorEq, Nat.reduceAdd, Nat.reduceLT, Nat.reduceLeDiff, Nat.reduceEqDiff, Nat.reduceSub, Nat.reduceMul, Nat.reduceBEq, Int.reduceBEq, Int.reduceBNe, Int.reduceLT, Int.reduceLE, Int.reduceGT, Int.reduceGE, Int.reduceNeg, Int.reduceEq, Int.reduceNe, Int.reduceToNat, Int.reduceAdd, aconv, acvB, capR, acmpnil, appBox, storeB, ares1, appendTo, afill, aeqL, teset, e1, e2, e5, e7, e8, List.length_map]
              cases hc : decide ((j : Int) < (xs.length : Int)) with
              | false =>
                simp only [aw0, aw1, aw2, aw3, aw4, aw5, aw6, aw7, ne_eq, eq_self, implies_true, imp_self, reduceIte, reduceCtorEq, Nat.reduceAdd, Nat.reduceLT, Nat.reduceLeDiff, Nat.reduceEqDiff, Nat.reduceSub, Nat.reduceMul, Nat.reduceBEq, Int.reduceBEq, Int.reduceBNe, Int.reduceLT, Int.reduceLE, Int.reduceGT, Int.reduceGE, Int.reduceNeg, Int.reduceEq, Int.reduceNe, Int.reduceToNat, Int.reduceAdd, aconv, acvB, capR, acmpnil, appBox, storeB, ares1, appendTo, afill, aeqL, teset, e1, e2, e5, e7, e8]
                simp only [decide_eq_false_iff_not] at hc
                refine ⟨hext, _, rfl, ?_⟩
                rw [← hf, List.drop_eq_nil_of_le (by omega)]
                rfl
              | true =>
                simp only [decide_eq_true_eq] at hc
                have hj : j < xs.length := by omega
                have hget : (xs.map inj)[((j : Nat) : Int).toNat]? = some (inj xs[j]) := by simp [hj]
                have hw : IntKind.i64.wrap (((L + 1 : Nat) : Int) - 1) = (L : Int) := by rw [wrap_i64 (by omega) (by omega)]; omega
                have hle := nodesS_le L xs[j]
                have hw2 : IntKind.i64.wrap ((acc : Int) + (nodesS L xs[j] : Int)) = ((acc + nodesS L xs[j] : Nat) : Int) := by rw [wrap_i64 (by omega) (by omega)]; omega
                simp only [aw0, aw1, aw2, aw3, aw4, aw5, aw6, aw7, ne_eq, eq_self, implies_true, imp_self, reduceIte, reduceCtorEq, Nat.reduceAdd, Nat.reduceLT, Nat.reduceLeDiff, Nat.reduceEqDiff, Nat.reduceSub, Nat.reduceMul, Nat.reduceBEq, Int.reduceBEq, Int.reduceBNe, Int.reduceLT, Int.reduceLE, Int.reduceGT, Int.reduceGE, Int.reduceNeg, Int.reduceEq, Int.reduceNe, Int.reduceToNat, Int.reduceAdd, aconv, acvB, capR, acmpnil, appBox, storeB, ares1, appendTo, afill, aeqL, teset, e1, e2, e5, e7, e8, hget, Int.natCast_nonneg, load_inj, hw]
                refine ACallV.pure (ih xs[j] (by omega)) ?_
                simp only [aw0, aw1, aw2, aw3, aw4, aw5, aw6, aw7, ne_eq, eq_self, implies_true, imp_self, reduceIte, reduceCtorEq, Nat.reduceAdd, Nat.reduceLT, Nat.reduceLeDiff, Nat.reduceEqDiff, Nat.reduceSub, Nat.reduceMul, Nat.reduceBEq, Int.reduceBEq, Int.reduceBNe, Int.reduceLT, Int.reduceLE, Int.reduceGT, Int.reduceGE, Int.reduceNeg, Int.reduceEq, Int.reduceNe, Int.reduceToNat, Int.reduceAdd, aconv, acvB, capR, acmpnil, appBox, storeB, ares1, appendTo, afill, aeqL, teset, e1, e2, e5, e7, e8, hw2]
                rw [List.drop_eq_getElem_cons hj, nodesF] at hf
                cases hg : decide (((acc + nodesS L xs[j] : Nat) : Int) > 60) with
                | true =>
                  simp only [aw0, aw1, aw2, aw3, aw4, aw5, aw6, aw7, ne_eq, eq_self, implies_true, imp_self, reduceIte, reduceCtorEq, Nat.reduceAdd, Nat.reduceLT, Nat.reduceLeDiff, Nat.reduceEqDiff, Nat.reduceSub, Nat.reduceMul, Nat.reduceBEq, Int.reduceBEq, Int.reduceBNe, Int.reduceLT, Int.reduceLE, Int.reduceGT, Int.reduceGE, Int.reduceNeg, Int.reduceEq, Int.reduceNe, Int.reduceToNat, Int.reduceAdd, aconv, acvB, capR, acmpnil, appBox, storeB, ares1, appendTo, afill, aeqL, teset, e1, e2, e5, e7, e8, hw2]
                  simp only [decide_eq_true_eq] at hg
                  refine ⟨hext, _, rfl, ?_⟩
                  rw [← hf, if_pos (by omega)]
                  rfl
                | false =>
                  simp only [aw0, aw1, aw2, aw3, aw4, aw5, aw6, aw7, ne_eq, eq_self, implies_true, imp_self, reduceIte, reduceCtorEq, Nat.reduceAdd, Nat.reduceLT, Nat.reduceLeDiff, Nat.reduceEqDiff, Nat.reduceSub, Nat.reduceMul, Nat.reduceBEq, Int.reduceBEq, Int.reduceBNe, Int.reduceLT, Int.reduceLE, Int.reduceGT, Int.reduceGE, Int.reduceNeg, Int.reduceEq, Int.reduceNe, Int.reduceToNat, Int.reduceAdd, aconv, acvB, capR, acmpnil, appBox, storeB, ares1, appendTo, afill, aeqL, teset, e1, e2, e5, e7, e8, hw2]
                  simp only [decide_eq_false_iff_not] at hg
                  rw [if_neg (by omega)] at hf
                  refine ⟨n - 1, by omega, j + 1, _, rfl, ?_, ?_, ?_, hf⟩
                  · rw [wrap_succ (by omega)]
                  · omega
                  · omega
          | true =>
            simp only [decide_eq_true_eq] at hc
            have hj : j < ks.length := by omega
            have hget : (ks.map AV.str)[((j : Nat) : Int).toNat]? = some (.str ks[j]) := by simp [hj]
            have hgd : ks.getD j default = ks[j] := by simp [hj]
            simp only [aw0, aw1, aw2, aw3, aw4, aw5, aw6, aw7, ne_eq, eq_self, implies_true, imp_self, reduceIte, reduceCtorEq, Nat.reduceAdd, Nat.reduceLT, Nat.reduceLeDiff, Nat.reduceEqDiff, Nat.reduceSub, Nat.reduceMul, Nat.reduceBEq, Int.reduceBEq, Int.reduceBNe, Int.reduceLT, Int.reduceLE, Int.reduceGT, Int.reduceGE, Int.reduceNeg, Int.reduceEq, Int.reduceNe, Int.reduceToNat, Int.reduceAdd, aconv, acvB, capR, acmpnil, appBox, storeB, ares1, appendTo, afill, aeqL, teset, e1, e2, e5, e6]
            refine acode_draw_chain te_ok mixed [] (by kernel_rfl) ?_
            simp only [aw0, aw1, aw2, aw3, aw4, aw5, aw6, aw7, ne_eq, eq_self, implies_true, imp_self, reduceIte, reduceCtorEq, Nat.reduceAdd, Nat.reduceLT, Nat.reduceLeDiff, Nat.reduceEqDiff, Nat.reduceSub, Nat.reduceMul, Nat.reduceBEq, Int.reduceBEq, Int.reduceBNe, Int.reduceLT, Int.reduceLE, Int.reduceGT, Int.reduceGE, Int.reduceNeg, Int.reduceEq, Int.reduceNe, Int.reduceToNat, Int.reduceAdd, aconv, acvB, capR, acmpnil, appBox, storeB, ares1, appendTo, afill, aeqL, teset, e1, e2, e5, e6, hget, Int.natCast_nonneg]
            refine skR_pure (isText_pure _) ?_
            have badkey : keyOk ks j = false → shape (.mk k i t xs ks) = false := by
              intro hk
              rw [hs']
              have : keysOk ks = false := by
                rw [Bool.eq_false_iff]
                intro hq
                unfold keysOk at hq
                rw [List.all_eq_true] at hq
                have := hq j (List.mem_range.2 hj)
                rw [hk] at this; cases this
              rw [this]; simp
            cases hit : isText ks[j] with
            | false =>
              simp only [aw0, aw1, aw2, aw3, aw4, aw5, aw6, aw7, ne_eq, eq_self, implies_true, imp_self, reduceIte, reduceCtorEq, Nat.reduceAdd, Nat.reduceLT, Nat.reduceLeDiff, Nat.reduceEqDiff, Nat.reduceSub, Nat.reduceMul, Nat.reduceBEq, Int.reduceBEq, Int.reduceBNe, Int.reduceLT, Int.reduceLE, Int.reduceGT, Int.reduceGE, Int.reduceNeg, Int.reduceEq, Int.reduceNe, Int.reduceToNat, Int.reduceAdd, aconv, acvB, capR, acmpnil, appBox, storeB, ares1, appendTo, afill, aeqL, teset, e1, e2, e5, e6, hget, Int.natCast_nonneg]
              exact bad61 _ hext (hbad (badkey (by unfold keyOk; rw [hgd, hit]; rfl)))
            | true =>
              simp only [aw0, aw1, aw2, aw3, aw4, aw5, aw6, aw7, ne_eq, eq_self, implies_true, imp_self, reduceIte, reduceCtorEq, Nat.reduceAdd, Nat.reduceLT, Nat.reduceLeDiff, Nat.reduceEqDiff, Nat.reduceSub, Nat.reduceMul, Nat.reduceBEq, Int.reduceBEq, Int.reduceBNe, Int.reduceLT, Int.reduceLE, Int.reduceGT, Int.reduceGE, Int.reduceNeg, Int.reduceEq, Int.reduceNe, Int.reduceToNat, Int.reduceAdd, aconv, acvB, capR, acmpnil, appBox, storeB, ares1, appendTo, afill, aeqL, teset, e1, e2, e5, e6, hget, Int.natCast_nonneg]
              cases j with
              | zero =>
                simp only [aw0, aw1, aw2, aw3, aw4, aw5, aw6, aw7, ne_eq, eq_self, implies_true, imp_self, reduceIte, reduceCtorEq, Nat.reduceAdd, Nat.reduceLT, Nat.reduceLeDiff, Nat.reduceEqDiff, Nat.reduceSub, Nat.reduceMul, Nat.reduceBEq, Int.reduceBEq, Int.reduceBNe, Int.reduceLT, Int.reduceLE, Int.reduceGT, Int.reduceGE, Int.reduceNeg, Int.reduceEq, Int.reduceNe, Int.reduceToNat, Int.reduceAdd, aconv, acvB, capR, acmpnil, appBox, storeB, ares1, appendTo, afill, aeqL, teset, e1, e2, e5, e6, hget, Int.natCast_nonneg, Int.natCast_zero]
                have hok : keyOk ks 0 = true := by unfold keyOk; rw [hgd, hit]; rfl
                refine ⟨n - 1, by omega, 1, rfl, by omega, fun j' hj' => ?_⟩
                have : j' = 0 := by omega
                subst this; exact hok
              | succ j =>
                have hpos : decide ((((j + 1 : Nat) : Int)) > 0) = true := by simp
                have hw : IntKind.i64.wrap (((j + 1 : Nat) : Int) - 1) = (j : Int) := by rw [wrap_i64 (by omega) (by omega)]; omega
                have hget2 : (ks.map AV.str)[((j : Nat) : Int).toNat]? = some (.str ks[j]) := by simp
                simp only [aw0, aw1, aw2, aw3, aw4, aw5, aw6, aw7, ne_eq, eq_self, implies_true, imp_self, reduceIte, reduceCtorEq, Nat.reduceAdd, Nat.reduceLT, Nat.reduceLeDiff, Nat.reduceEqDiff, Nat.reduceSub, Nat.reduceMul, Nat.reduceBEq, Int.reduceBEq, Int.reduceBNe, Int.reduceLT, Int.reduceLE, Int.reduceGT, Int.reduceGE, Int.reduceNeg, Int.reduceEq, Int.reduceNe, Int.reduceToNat, Int.reduceAdd, aconv, acvB, capR, acmpnil, appBox, storeB, ares1, appendTo, afill, aeqL, teset, e1, e2, e5, e6, hget, hget2, hpos, hw, Int.natCast_nonneg]
                have hgd2 : ks.getD j default = ks[j] := by simp [show j < ks.length by omega]
                have hko : keyOk ks (j + 1) = sless ks[j] ks[j + 1] := by
                  unfold keyOk
                  rw [hgd, hit, Nat.add_sub_cancel, hgd2]
                  simp
                cases hsl : Op.bytesLess ks[j].toList ks[j + 1].toList with
                | false =>
                  simp only [aw0, aw1, aw2, aw3, aw4, aw5, aw6, aw7, ne_eq, eq_self, implies_true, imp_self, reduceIte, reduceCtorEq, Nat.reduceAdd, Nat.reduceLT, Nat.reduceLeDiff, Nat.reduceEqDiff, Nat.reduceSub, Nat.reduceMul, Nat.reduceBEq, Int.reduceBEq, Int.reduceBNe, Int.reduceLT, Int.reduceLE, Int.reduceGT, Int.reduceGE, Int.reduceNeg, Int.reduceEq, Int.reduceNe, Int.reduceToNat, Int.reduceAdd, aconv, acvB, capR, acmpnil, appBox, storeB, ares1, appendTo, afill, aeqL, teset, e1, e2, e5, e6]
                  exact bad61 _ hext (hbad (badkey (by rw [hko]; exact hsl)))
                | true =>
                  simp only [aw0, aw1, aw2, aw3, aw4, aw5, aw6, aw7, ne_eq, eq_self, implies_true, imp_self, reduceIte, reduceCtorEq, Nat.reduceAdd, Nat.reduceLT, Nat.reduceLeDiff, Nat.reduceEqDiff, Nat.reduceSub, Nat.reduceMul, Nat.reduceBEq, Int.reduceBEq, Int.reduceBNe, Int.reduceLT, Int.reduceLE, Int.reduceGT, Int.reduceGE, Int.reduceNeg, Int.reduceEq, Int.reduceNe, Int.reduceToNat, Int.reduceAdd, aconv, acvB, capR, acmpnil, appBox, storeB, ares1, appendTo, afill, aeqL, teset, e1, e2, e5, e6]
                  refine ⟨n - 1, by omega, j + 1 + 1, ?_, by omega, fun j' hj' => ?_⟩
                  · rw [wrap_succ (by omega)]
                  · by_cases e : j' = j + 1
                    · subst e; rw [hko]; exact hsl
                    · exact hall j' (by omega)
    · have q5 : (k == 5) = false := by simp [h5]
      simp only [aw0, aw1, aw2, aw3, aw4, aw5, aw6, aw7, ne_eq, eq_self, implies_true, imp_self, reduceIte, reduceCtorEq, Nat.reduceAdd, Nat.reduceLT, Nat.reduceLeDiff, Nat.reduceEqDiff, Nat.reduceSub, Nat.reduceMul, Nat.reduceBEq, Int.reduceBEq, Int.reduceBNe, Int.reduceLT, Int.reduceLE, Int.reduceGT, Int.reduceGE, Int.reduceNeg, Int.reduceEq, Int.reduceNe, Int.reduceToNat, Int.reduceAdd, aconv, acvB, capR, acmpnil, appBox, storeB, ares1, appendTo, afill, aeqL, teset, q0, q1, q2, q3, q4, q5]
      exact bad61 _ hext (hbad (shape_x _ _ _ _ h0 h1 h2 h3 h4 h5))
end Go.Proofs.Ytlbhgoffiigfbaa.AW
end
section
set_option linter.unusedSimpArgs false
set_option linter.unusedVariables false
namespace Go.Proofs.Ytlbhgoffiigfbaa.AW
open Go Go.RowKit

def valid (v : V) : Bool := decide (nodesS 6 v ≤ 60)
theorem nodes6_pure (k i : Int) (t : ByteArray) (xs : List V) (ks : List ByteArray) : Pure Try.prog 37 [.agg [.int .i64 k, .int .i64 i, .str t, .sl .ro 5 (xs.map inj), .sl .ro 1 (ks.map .str)], .int .i64 6] (.int .i64 (nodesS 6 (.mk k i t xs ks))) := by
  have := nodes_pure 6 (.mk k i t xs ks) (by omega)
  rwa [inj_mk] at this
theorem refvalid_pure (v : V) : Pure Try.prog 31 [inj v] (.bool (valid v)) := by
  obtain ⟨k, i, t, xs, ks⟩ := v
  rw [inj_mk]
  refine Pure.of ⟨Try.f31, Try.func31, rfl, by kernel_rfl⟩ rfl (fun h => ?_)
  refine acalls_of te_ok [] Try.func31 (c := _) rfl (Nat.le_of_ble_eq_true rfl) ?_
  simp only [aw0, aw1, aw2, aw3, aw4, aw5, aw6, aw7, ne_eq, eq_self, implies_true, imp_self, reduceIte, reduceCtorEq, Nat.reduceAdd, Nat.reduceLT, Nat.reduceLeDiff, Nat.reduceEqDiff, Nat.reduceSub, Nat.reduceMul, Nat.reduceBEq, Int.reduceBEq, Int.reduceBNe, Int.reduceLT, Int.reduceLE, Int.reduceGT, Int.reduceGE, Int.reduceNeg, Int.reduceEq, Int.reduceNe, Int.reduceToNat, Int.reduceAdd, aconv, acvB, capR, acmpnil, appBox, storeB, ares1, appendTo, afill, aeqL, teset, Try.ntmps31, Try.results31]
  refine ACallV.pure (nodes6_pure _ _ _ _ _) ?_
  simp only [aw0, aw1, aw2, aw3, aw4, aw5, aw6, aw7, ne_eq, eq_self, implies_true, imp_self, reduceIte, reduceCtorEq, Nat.reduceAdd, Nat.reduceLT, Nat.reduceLeDiff, Nat.reduceEqDiff, Nat.reduceSub, Nat.reduceMul, Nat.reduceBEq, Int.reduceBEq, Int.reduceBNe, Int.reduceLT, Int.reduceLE, Int.reduceGT, Int.reduceGE, Int.reduceNeg, Int.reduceEq, Int.reduceNe, Int.reduceToNat, Int.reduceAdd, aconv, acvB, capR, acmpnil, appBox, storeB, ares1, appendTo, afill, aeqL, teset]
  refine ⟨(AH.Ext.refl h).new _, _, rfl, ?_⟩
  have : decide ((nodesS 6 (.mk k i t xs ks) : Int) ≤ 60) = valid (.mk k i t xs ks) := by
    unfold valid; simp only [decide_eq_decide]; omega
  rw [this]; rfl

/-- A step of a path. -/
structure Stp where
  index : Int
  key : ByteArray
def injS (s : Stp) : AV := .agg [.int .i64 s.index, .str s.key]
def stepOk (s : Stp) : Bool := !(decide (s.index < -1) || decide (s.index > 99) || (decide (s.index ≥ 0) && !(s.key.toList == (⟨#[]⟩ : ByteArray).toList))) && isText s.key
def pathOk (p : List Stp) : Bool := decide (p.length ≤ 6) && p.all stepOk

end Go.Proofs.Ytlbhgoffiigfbaa.AW
end
