/- Texts of this claim, part 13: V17, V175. -/
import Derived.Test.YtlbhgoffiigfbaaBe1
import Derived.Test.YtlbhgoffiigfbaaBe2
import Derived.Test.YtlbhgoffiigfbaaBe11
import Derived.Test.YtlbhgoffiigfbaaAw22
section
set_option linter.unusedSimpArgs false
set_option linter.unusedVariables false
namespace Go.Proofs.Ytlbhgoffiigfbaa.AW
open Go Go.RowKit

theorem ACalls.wkOut {P : Program} {f : FuncId} {args : List AV} {h : AH} {R R' : AOut → AH → Prop} (hc : ACalls P f args h R') (hr : ∀ out h', R' out h' → ∃ u v, out = .ret u ∧ Wk u v ∧ R (.ret v) h') : ACalls P f args h R := by
  intro w0 m w cs h1 h2 hW
  refine (hc w0 m w cs h1 h2 hW).mono ?_
  rintro e w' ⟨m', out, h', q1, q2, q3, q4⟩
  obtain ⟨u, v, rfl, hw, hR⟩ := hr out h' q4
  refine ⟨m', .ret v, h', q1, ?_, q3, hR⟩
  cases e with
  | returned c => exact hw _ _ q2
  | panicked c => exact q2.elim
  | outgrown => exact q2.elim

theorem clonevals_calls (xs : List V) (hl : xs.length < 1000000) (h : AH) : ACalls Try.prog 41 [.sl .ro 5 (xs.map inj)] h fun out h' =>
    (xs = [] ∧ out = .ret (.sl .ro 5 []) ∧ h' = h) ∨ (xs ≠ [] ∧ out = .ret (.ms h.nb 0 xs.length 5) ∧ h' = h.new ((xs.map inj).flatMap AV.cells)) := by
  cases xs with
  | nil =>
    refine ACalls.wkOut (R' := fun out h' => (out = .ret (.sl .full 0 []) ∨ out = .ret (.sl .full 5 [])) ∧ h' = h) ?_ ?_
    · refine acalls_of te_ok [] Try.func41 (c := _) rfl (Nat.le_of_ble_eq_true rfl) ?_
      simp only [aw0, aw1, aw2, aw3, aw4, aw5, aw6, aw7, ne_eq, eq_self, implies_true, imp_self, reduceIte, reduceCtorEq, Nat.reduceAdd, Nat.reduceLT, Nat.reduceLeDiff, Nat.reduceEqDiff, Nat.reduceSub, Nat.reduceMul, Nat.reduceBEq, Int.reduceBEq, Int.reduceBNe, Int.reduceLT, Int.reduceLE, Int.reduceGT, Int.reduceGE, Int.reduceNeg, Int.reduceEq, Int.reduceNe, Int.reduceToNat, Int.reduceAdd, aconv, acvB, capR, acmpnil, appBox, storeB, ares1, appendTo, afill, aeqL, teset, Try.ntmps41, Try.results41, eqnil, List.isEmpty_nil, range0]
    · rintro out h' ⟨rfl | rfl, rfl⟩
      · exact ⟨_, _, rfl, wk_nil5, .inl ⟨rfl, rfl, rfl⟩⟩
      · exact ⟨_, _, rfl, .ro, .inl ⟨rfl, rfl, rfl⟩⟩
  | cons x xs =>
    have hb : (xs.length + 1) * 80 ≤ 140737488355328 := by simp only [List.length_cons] at hl; omega
    refine acalls_of te_ok [] Try.func41 (c := _) rfl (Nat.le_of_ble_eq_true rfl) ?_
    simp only [aw0, aw1, aw2, aw3, aw4, aw5, aw6, aw7, ne_eq, eq_self, implies_true, imp_self, reduceIte, reduceCtorEq, Nat.reduceAdd, Nat.reduceLT, Nat.reduceLeDiff, Nat.reduceEqDiff, Nat.reduceSub, Nat.reduceMul, Nat.reduceBEq, Int.reduceBEq, Int.reduceBNe, Int.reduceLT, Int.reduceLE, Int.reduceGT, Int.reduceGE, Int.reduceNeg, Int.reduceEq, Int.reduceNe, Int.reduceToNat, Int.reduceAdd, aconv, acvB, capR, acmpnil, appBox, storeB, ares1, appendTo, afill, aeqL, teset, Try.ntmps41, Try.results41, eqnil, List.isEmpty_cons, range0, List.length_map, Nat.zero_add, hb]
end Go.Proofs.Ytlbhgoffiigfbaa.AW
end
section
set_option linter.unusedSimpArgs false
set_option linter.unusedVariables false
namespace Go.Proofs.Ytlbhgoffiigfbaa.AW
open Go Go.RowKit

theorem cells_split : ∀ (xs : List V) (j : Nat) (hj : j < xs.length), ∃ pre post, (xs.map inj).flatMap AV.cells = pre ++ (inj xs[j]).cells ++ post ∧ pre.length = j * 5 := by
  intro xs
  induction xs with
  | nil => intro j hj; simp at hj
  | cons x xs ih =>
    intro j hj
    cases j with
    | zero => exact ⟨[], (xs.map inj).flatMap AV.cells, by simp, by simp⟩
    | succ j =>
      obtain ⟨pre, post, h1, h2⟩ := ih j (by simpa using hj)
      refine ⟨(inj x).cells ++ pre, post, ?_, ?_⟩
      · simp only [List.map_cons, List.flatMap_cons, h1, List.getElem_cons_succ, List.append_assoc]
      · rw [List.length_append, inj_len, h2]; omega
theorem cells_drop (xs : List V) {j : Nat} (hj : j < xs.length) : ∃ post, List.drop (j * 5) ((xs.map inj).flatMap AV.cells) = (inj xs[j]).cells ++ post := by
  obtain ⟨pre, post, h1, h2⟩ := cells_split xs j hj
  refine ⟨post, ?_⟩
  rw [h1, ← h2]; simp
theorem cells_store (xs : List V) {j : Nat} (hj : j < xs.length) : List.take (j * 5) ((xs.map inj).flatMap AV.cells) ++ (inj xs[j]).cells ++ List.drop (j * 5 + 5) ((xs.map inj).flatMap AV.cells) = (xs.map inj).flatMap AV.cells := by
  obtain ⟨pre, post, h1, h2⟩ := cells_split xs j hj
  rw [h1, ← h2]
  have : pre.length + 5 = (pre ++ (inj xs[j]).cells).length := by rw [List.length_append, inj_len]
  rw [this]
  simp
theorem cells_len (xs : List V) : ((xs.map inj).flatMap AV.cells).length = xs.length * 5 := by
  induction xs with
  | nil => rfl
  | cons x xs ih => rw [List.map_cons, List.flatMap_cons, List.length_append, inj_len, ih, List.length_cons]; omega
end Go.Proofs.Ytlbhgoffiigfbaa.AW
end
