/- V, part 17: slices.Clone of values, to write in. -/
import Derived.Test.YtjdocenbfghglaaDoorV16
import Derived.Test.YtjdocenbfghglaaDoorAw22
set_option linter.unusedSimpArgs false
set_option linter.unusedVariables false
namespace Go.Proofs.YtjdocenbfghglaaDoor.AW
open Go Go.RowKit

theorem ACalls.wkOut {P : Program} {f : FuncId} {args : List AV} {h : AH} {R R' : AOut → AH → Prop} (hc : ACalls P f args h R') (hr : ∀ out h', R' out h' → ∃ u v, out = .ret u ∧ Wk u v ∧ R (.ret v) h') : ACalls P f args h R := by
  intro w0 m w cs h1 h2 hW
  refine (hc w0 m w cs h1 h2 hW).mono ?_
  rintro e w' ⟨m', out, h', q1, q2, q3, q4⟩
  obtain ⟨u, v, rfl, hw, hR⟩ := hr out h' q4
  refine ⟨m', .ret v, h', q1, ?_, q3, hR⟩
  cases e with
  | returned c => exact hw _ _ q2
  | panicked c => exact q2.elim
  | outgrown => exact q2.elim

theorem clonevals_calls (xs : List V) (hl : xs.length < 1000000) (h : AH) : ACalls Tryd.prog 39 [.sl .ro 5 (xs.map inj)] h fun out h' =>
    (xs = [] ∧ out = .ret (.sl .ro 5 []) ∧ h' = h) ∨ (xs ≠ [] ∧ out = .ret (.ms h.nb 0 xs.length 5) ∧ h' = h.new ((xs.map inj).flatMap AV.cells)) := by
  cases xs with
  | nil =>
    refine ACalls.wkOut (R' := fun out h' => (out = .ret (.sl .full 0 []) ∨ out = .ret (.sl .full 5 [])) ∧ h' = h) ?_ ?_
    · refine acalls_of te_ok [] Tryd.func39 (c := _) rfl (Nat.le_of_ble_eq_true rfl) ?_
      simp only [awset0, awset1, awset2, awset3, awset4, awset5, ne_eq, eq_self, implies_true, imp_self, retR, atup, aresL, ares1, gval, inLz, boxR, buildR, noDead, AV.isDead, acmpnil, appR, appBox, storeB, abin, aint, astr, aun, abuild, afill, fieldPlaces, alit, aindexAddr, aindex, aslice, bnd, cutTag, amin, amax, aappend, appendTo, aelems, aconv, aiface, agetField, reduceIte, reduceCtorEq, Nat.reduceAdd, Nat.reduceLT, Nat.reduceLeDiff, Nat.reduceEqDiff, Nat.reduceSub, Nat.reduceMul, Nat.reduceBEq, Int.reduceBEq, Int.reduceBNe, Int.reduceLT, Int.reduceLE, Int.reduceGT, Int.reduceGE, Int.reduceNeg, Int.reduceEq, Int.reduceNe, Int.reduceToNat, Int.reduceAdd, cls, fl, teset, Tryd.ntmps39, Tryd.results39, eqnil, List.isEmpty_nil, range0]
    · rintro out h' ⟨rfl | rfl, rfl⟩
      · exact ⟨_, _, rfl, wk_nil5, .inl ⟨rfl, rfl, rfl⟩⟩
      · exact ⟨_, _, rfl, .ro, .inl ⟨rfl, rfl, rfl⟩⟩
  | cons x xs =>
    have hb : (xs.length + 1) * 80 ≤ 140737488355328 := by simp only [List.length_cons] at hl; omega
    refine acalls_of te_ok [] Tryd.func39 (c := _) rfl (Nat.le_of_ble_eq_true rfl) ?_
    simp only [awset0, awset1, awset2, awset3, awset4, awset5, ne_eq, eq_self, implies_true, imp_self, retR, atup, aresL, ares1, gval, inLz, boxR, buildR, noDead, AV.isDead, acmpnil, appR, appBox, storeB, abin, aint, astr, aun, abuild, afill, fieldPlaces, alit, aindexAddr, aindex, aslice, bnd, cutTag, amin, amax, aappend, appendTo, aelems, aconv, aiface, agetField, reduceIte, reduceCtorEq, Nat.reduceAdd, Nat.reduceLT, Nat.reduceLeDiff, Nat.reduceEqDiff, Nat.reduceSub, Nat.reduceMul, Nat.reduceBEq, Int.reduceBEq, Int.reduceBNe, Int.reduceLT, Int.reduceLE, Int.reduceGT, Int.reduceGE, Int.reduceNeg, Int.reduceEq, Int.reduceNe, Int.reduceToNat, Int.reduceAdd, cls, fl, teset, Tryd.ntmps39, Tryd.results39, eqnil, List.isEmpty_cons, range0, List.length_map, Nat.zero_add, hb]
end Go.Proofs.YtjdocenbfghglaaDoor.AW
