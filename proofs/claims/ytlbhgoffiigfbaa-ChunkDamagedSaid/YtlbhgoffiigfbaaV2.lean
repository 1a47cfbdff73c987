/- V, part 2: values as trees; plain. -/
import Derived.Test.YtlbhgoffiigfbaaV1
set_option linter.unusedSimpArgs false
set_option linter.unusedVariables false
namespace Go.Proofs.Ytlbhgoffiigfbaa.AW
open Go Go.RowKit

/-- A value of the program. -/
inductive V where
  | mk (kind int : Int) (text : ByteArray) (items : List V) (keys : List ByteArray)
  deriving Inhabited
def V.kind : V → Int | .mk k _ _ _ _ => k
def V.int : V → Int | .mk _ i _ _ _ => i
def V.text : V → ByteArray | .mk _ _ t _ _ => t
def V.items : V → List V | .mk _ _ _ xs _ => xs
def V.keys : V → List ByteArray | .mk _ _ _ _ ks => ks

mutual
def inj : V → AV
  | .mk k i t xs ks => .agg [.int .i64 k, .int .i64 i, .str t, .sl .ro 5 (injL xs), .sl .ro 1 (ks.map .str)]
def injL : List V → List AV
  | [] => []
  | x :: xs => inj x :: injL xs
end
theorem injL_eq (xs : List V) : injL xs = xs.map inj := by
  induction xs with
  | nil => rfl
  | cons x xs ih => simp [injL, ih]
theorem inj_eq (v : V) : inj v = .agg [.int .i64 v.kind, .int .i64 v.int, .str v.text, .sl .ro 5 (v.items.map inj), .sl .ro 1 (v.keys.map .str)] := by
  cases v; simp [inj, injL_eq, V.kind, V.int, V.text, V.items, V.keys]
theorem inj_mk (k i : Int) (t : ByteArray) (xs : List V) (ks : List ByteArray) : inj (.mk k i t xs ks) = .agg [.int .i64 k, .int .i64 i, .str t, .sl .ro 5 (xs.map inj), .sl .ro 1 (ks.map .str)] := by
  simp [inj, injL_eq]
mutual
def V.ok : V → Prop
  | .mk _ _ t xs ks => t.size < 4611686018427387904 ∧ xs.length < 4611686018427387904 ∧ ks.length < 4611686018427387904 ∧ (∀ k ∈ ks, k.size < 4611686018427387904) ∧ V.okL xs
def V.okL : List V → Prop
  | [] => True
  | x :: xs => x.ok ∧ V.okL xs
end
theorem V.okL_iff {xs : List V} : V.okL xs ↔ ∀ x ∈ xs, x.ok := by
  induction xs with
  | nil => simp [V.okL]
  | cons x xs ih => simp [V.okL, ih]
theorem inj_cells (v : V) : ∃ cs, inj v = .agg cs ∧ cs.length = 5 := by rw [inj_eq]; exact ⟨_, rfl, rfl⟩
mutual
theorem inj_under (v : V) : (inj v).under 0 0 = true := by
  cases v with
  | mk k i t xs ks =>
    simp only [inj, AV.under, AV.underL, Bool.and_true, Bool.true_and]
    rw [injL_under xs]
    simp only [Bool.true_and]
    induction ks with
    | nil => rfl
    | cons k ks ih => simp [AV.underL, AV.under, ih]
theorem injL_under (xs : List V) : AV.underL 0 0 (injL xs) = true := by
  cases xs with
  | nil => rfl
  | cons x xs => simp [injL, AV.underL, inj_under x, injL_under xs]
end
mutual
theorem inj_erase (v : V) : (inj v).erase = inj v := by
  cases v with
  | mk k i t xs ks =>
    simp only [inj, AV.erase, AV.eraseL, injL_erase xs]
    have : AV.eraseL (ks.map AV.str) = ks.map AV.str := by
      induction ks with
      | nil => rfl
      | cons k ks ih => simp [AV.eraseL, AV.erase, ih]
    rw [this]
theorem injL_erase (xs : List V) : AV.eraseL (injL xs) = injL xs := by
  cases xs with
  | nil => rfl
  | cons x xs => simp [injL, AV.eraseL, inj_erase x, injL_erase xs]
end

theorem load_inj (v : V) : (if 5 ≤ (inj v).cells.length then some (AV.agg (List.take 5 (inj v).cells)) else none) = some (inj v) := by
  cases v; simp [inj_mk, AV.cells]
theorem load_inj0 (v : V) : (if 0 + 5 ≤ (inj v).cells.length then some (AV.agg (List.take 5 (inj v).cells)) else none) = some (inj v) := by
  cases v; simp [inj_mk, AV.cells]

theorem inj_len (v : V) : (inj v).cells.length = 5 := by
  cases v; simp [inj_mk, AV.cells]
theorem inj_one (v : V) : (inj v).cells.all AV.one = true := by
  cases v; simp [inj_mk, AV.cells, AV.one]
theorem inj_take (v : V) : List.take 5 (inj v).cells = (inj v).cells := by
  cases v; simp [inj_mk, AV.cells]
theorem inj_drop (v : V) : List.drop 5 (inj v).cells = [] := by
  cases v; simp [inj_mk, AV.cells]
theorem inj_agg (v : V) : AV.agg (inj v).cells = inj v := by
  cases v; simp [inj_mk, AV.cells]

def plainS (v : V) (n t i k : Bool) : Bool := (n || v.int == 0) && (t || v.text.toList == (⟨#[]⟩ : ByteArray).toList) && (i || (v.items.length : Int) == 0) && (k || (v.keys.length : Int) == 0)
theorem plain_pure (v : V) (n t i k : Bool) : Pure Try.prog 42 [inj v, .bool n, .bool t, .bool i, .bool k] (.bool (plainS v n t i k)) := by
  rw [inj_eq]
  refine Pure.of ⟨Try.f42, Try.func42, rfl, by kernel_rfl⟩ rfl (fun h => ?_)
  refine acalls_of te_ok [13, 14, 15, 18, 19, 20, 21, 22, 23, 26, 27, 28, 29, 30, 31, 32, 35, 36, 37, 38, 39, 40, 41] Try.func42 (c := _) rfl (Nat.le_of_ble_eq_true rfl) ?_
  simp only [aw0, aw1, aw2, aw3, aw4, aw5, aw6, aw7, ne_eq, eq_self, implies_true, imp_self, reduceIte, reduceCtorEq, Nat.reduceAdd, Nat.reduceLT, Nat.reduceLeDiff, Nat.reduceEqDiff, Nat.reduceSub, Nat.reduceMul, Nat.reduceBEq, Int.reduceBEq, Int.reduceBNe, Int.reduceLT, Int.reduceLE, Int.reduceGT, Int.reduceGE, Int.reduceNeg, Int.reduceEq, Int.reduceNe, Int.reduceToNat, Int.reduceAdd, aconv, acvB, capR, acmpnil, appBox, storeB, ares1, appendTo, afill, aeqL, teset, Try.ntmps42, Try.results42]
  refine ⟨(AH.Ext.refl h).new _, _, rfl, ?_⟩
  simp [AV.erase, plainS]
end Go.Proofs.Ytlbhgoffiigfbaa.AW
