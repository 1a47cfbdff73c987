/- V, part 17, its second half: the cells of a list of values. -/
import Derived.Test.YtjdocenbfghglaaDoorV17
set_option linter.unusedSimpArgs false
set_option linter.unusedVariables false
namespace Go.Proofs.YtjdocenbfghglaaDoor.AW
open Go Go.RowKit

theorem cells_split : ∀ (xs : List V) (j : Nat) (hj : j < xs.length), ∃ pre post, (xs.map inj).flatMap AV.cells = pre ++ (inj xs[j]).cells ++ post ∧ pre.length = j * 5 := by
  intro xs
  induction xs with
  | nil => intro j hj; simp at hj
  | cons x xs ih =>
    intro j hj
    cases j with
    | zero => exact ⟨[], (xs.map inj).flatMap AV.cells, by simp, by simp⟩
    | succ j =>
      obtain ⟨pre, post, h1, h2⟩ := ih j (by simpa using hj)
      refine ⟨(inj x).cells ++ pre, post, ?_, ?_⟩
      · simp only [List.map_cons, List.flatMap_cons, h1, List.getElem_cons_succ, List.append_assoc]
      · rw [List.length_append, inj_len, h2]; omega
theorem cells_drop (xs : List V) {j : Nat} (hj : j < xs.length) : ∃ post, List.drop (j * 5) ((xs.map inj).flatMap AV.cells) = (inj xs[j]).cells ++ post := by
  obtain ⟨pre, post, h1, h2⟩ := cells_split xs j hj
  refine ⟨post, ?_⟩
  rw [h1, ← h2]; simp
theorem cells_store (xs : List V) {j : Nat} (hj : j < xs.length) : List.take (j * 5) ((xs.map inj).flatMap AV.cells) ++ (inj xs[j]).cells ++ List.drop (j * 5 + 5) ((xs.map inj).flatMap AV.cells) = (xs.map inj).flatMap AV.cells := by
  obtain ⟨pre, post, h1, h2⟩ := cells_split xs j hj
  rw [h1, ← h2]
  have : pre.length + 5 = (pre ++ (inj xs[j]).cells).length := by rw [List.length_append, inj_len]
  rw [this]
  simp
theorem cells_len (xs : List V) : ((xs.map inj).flatMap AV.cells).length = xs.length * 5 := by
  induction xs with
  | nil => rfl
  | cons x xs ih => rw [List.map_cons, List.flatMap_cons, List.length_append, inj_len, ih, List.length_cons]; omega
end Go.Proofs.YtjdocenbfghglaaDoor.AW
