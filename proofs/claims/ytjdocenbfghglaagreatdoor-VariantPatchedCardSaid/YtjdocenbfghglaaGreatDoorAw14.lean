/- AW, part 14: the table of types is checked; small laws for use. -/
import Derived.Test.YtjdocenbfghglaaGreatDoorAw13
set_option linter.unusedSimpArgs false
set_option linter.unusedVariables false
namespace Go.Proofs.YtjdocenbfghglaaGreatDoor.AW
open Go Go.RowKit

def checkTab (P : Program) : Nat → List (Option TI) → Bool
  | _, [] => true
  | t, none :: r => checkTab P (t + 1) r
  | t, some i :: r => i.check P t && checkTab P (t + 1) r
theorem checkTab_at {P : Program} : ∀ {l : List (Option TI)} {k : Nat}, checkTab P k l = true → ∀ (t : Nat) (i : TI), l[t]? = some (some i) → i.check P (k + t) = true := by
  intro l
  induction l with
  | nil => intro k _ t i h; simp at h
  | cons x l ih =>
    intro k h t i ht
    cases x with
    | none =>
      simp only [checkTab] at h
      cases t with
      | zero => simp at ht
      | succ t => have := ih h t i (by simpa using ht); rwa [show k + 1 + t = k + (t + 1) by omega] at this
    | some y =>
      simp only [checkTab, Bool.and_eq_true] at h
      cases t with
      | zero => simp at ht; subst ht; simpa using h.1
      | succ t => have := ih h.2 t i (by simpa using ht); rwa [show k + 1 + t = k + (t + 1) by omega] at this
theorem checkTab_ok {P : Program} {l : List (Option TI)} (h : checkTab P 0 l = true) : TE.ok (fun t => (l[t]?).join) P := by
  intro t i ht
  cases hx : l[t]? with
  | none => simp only [hx] at ht; cases ht
  | some y =>
    simp only [hx, Option.join_some] at ht
    subst ht
    have := checkTab_at h t i hx
    simpa using this
end Go.Proofs.YtjdocenbfghglaaGreatDoor.AW
