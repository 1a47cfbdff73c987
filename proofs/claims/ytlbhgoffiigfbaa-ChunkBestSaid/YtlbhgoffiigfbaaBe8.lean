/- Texts of this claim, part 8: P5. -/
import Derived.Test.YtlbhgoffiigfbaaAw26
section
set_option linter.unusedSimpArgs false
set_option linter.unusedVariables false
namespace Go.Proofs.Ytlbhgoffiigfbaa.AW
open Go Go.RowKit

/-- The two numbers that a sum is made of. -/
def sumF : List UInt8 → Nat → Nat → Nat × Nat
  | [], a, b => (a, b)
  | x :: l, a, b => sumF l ((a + x.toNat) % 65521) ((b + (a + x.toNat) % 65521) % 65521)
def sumS (l : List UInt8) : Nat := (sumF l 1 0).2 * 65536 + (sumF l 1 0).1
def tot : List UInt8 → Nat
  | [] => 0
  | x :: l => x.toNat + tot l
theorem sumF_fst : ∀ (l : List UInt8) (a b : Nat), a < 65521 → (sumF l a b).1 = (a + tot l) % 65521
  | [], a, b, h => by simp only [sumF, tot]; omega
  | x :: l, a, b, h => by
    simp only [sumF, tot]
    rw [sumF_fst l _ _ (Nat.mod_lt _ (by decide))]
    omega
theorem sumF_lt : ∀ (l : List UInt8) (a b : Nat), a < 65521 → b < 65521 → (sumF l a b).1 < 65521 ∧ (sumF l a b).2 < 65521
  | [], a, b, h, h2 => ⟨h, h2⟩
  | x :: l, a, b, h, h2 => by
    simp only [sumF]
    exact sumF_lt l _ _ (Nat.mod_lt _ (by decide)) (Nat.mod_lt _ (by decide))
theorem tot_set : ∀ (l : List UInt8) (k : Nat) (x y : UInt8), l[k]? = some x → tot (l.set k y) + x.toNat = tot l + y.toNat
  | [], k, x, y, h => by simp at h
  | z :: l, 0, x, y, h => by
    simp at h; subst h
    simp only [List.set_cons_zero, tot]; omega
  | z :: l, k + 1, x, y, h => by
    have := tot_set l k x y (by simpa using h)
    simp only [List.set_cons_succ, tot]; omega
/-- Another byte, another sum. -/
theorem sum_damaged (l : List UInt8) (k : Nat) (x y : UInt8) (hx : l[k]? = some x) (hne : x ≠ y) : sumS l ≠ sumS (l.set k y) := by
  have h1 := tot_set l k x y hx
  have a1 := sumF_fst l 1 0 (by decide)
  have a2 := sumF_fst (l.set k y) 1 0 (by decide)
  have b1 := (sumF_lt l 1 0 (by decide) (by decide)).1
  have b2 := (sumF_lt (l.set k y) 1 0 (by decide) (by decide)).1
  have hx8 := x.toNat_lt
  have hy8 := y.toNat_lt
  have hne' : x.toNat ≠ y.toNat := fun e => hne (UInt8.toNat_inj.1 e)
  unfold sumS
  intro h
  generalize (sumF l 1 0).1 = p1 at *
  generalize (sumF (l.set k y) 1 0).1 = p2 at *
  generalize (sumF l 1 0).2 = q1 at *
  generalize (sumF (l.set k y) 1 0).2 = q2 at *
  have : p1 = p2 := by omega
  omega
end Go.Proofs.Ytlbhgoffiigfbaa.AW
end
