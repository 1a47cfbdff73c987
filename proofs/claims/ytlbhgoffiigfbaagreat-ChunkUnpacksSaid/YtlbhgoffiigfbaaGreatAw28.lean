/- AW, part 28: regions whose order is drawn, in which the names of two new boxes depend on the order. -/
import Derived.Test.YtlbhgoffiigfbaaGreatAw27
set_option linter.unusedSimpArgs false
set_option linter.unusedVariables false
namespace Go.Proofs.YtlbhgoffiigfbaaGreat.AW
open Go Go.RowKit

section
variable {P : Program} {te : TE} {w0 : Base}
end

/-- Who is done had what it waits for. -/
def Closed (D : List (List Nat)) (L : Array Bool) : Prop := ∀ (i : Nat) (d : List Nat), D[i]? = some d → L.getD i false = true → ∀ j ∈ d, L.getD j false = true
theorem set_getD {L : Array Bool} {i j : Nat} (hi : i < L.size) : (L.setIfInBounds i true).getD j false = (L.getD j false || j == i) := by
  by_cases e : j = i
  · subst e; simp [Array.getD_eq_getD_getElem?, Array.getElem?_setIfInBounds, hi]
  · rw [getD_set_ne _ (Ne.symm e)]; simp [e]
theorem Closed.set {D : List (List Nat)} {L : Array Bool} {i : Nat} (h : Closed D L) (hi : i < L.size) (hd : ∀ d, D[i]? = some d → ∀ j ∈ d, L.getD j false = true) : Closed D (L.setIfInBounds i true) := by
  intro k d hk hl j hj
  rw [set_getD hi] at hl ⊢
  simp only [Bool.or_eq_true, beq_iff_eq] at hl ⊢
  rcases hl with hl | rfl
  · exact .inl (h k d hk hl j hj)
  · exact .inl (hd d hk j hj)
section
variable {dsts : List (Option Nat)} {V : Nat → AV} {s0 : AS} {p : Nat → Bool}
end
end Go.Proofs.YtlbhgoffiigfbaaGreat.AW
