/- L, part 1: what VariantGets computes. -/
import Derived.Test.YtjdocenbfghglaaDoorV20
import Derived.Test.YtjdocenbfghglaaDoorE0
set_option linter.unusedSimpArgs false
set_option linter.unusedVariables false
namespace Go.Proofs.YtjdocenbfghglaaDoor.AW
open Go Go.RowKit

theorem getV_sm (v : V) (p : List Stp) (hv : v.sm) : (∃ x b e, getV v p = .tup [inj x, .bool b, .int .i64 e] ∧ x.sm) := by
  unfold getV
  split
  · next h =>
    simp only [Bool.and_eq_true] at h
    cases ha : atS v p with
    | none => exact ⟨_, _, _, rfl, zero_sm⟩
    | some x => exact ⟨_, _, _, rfl, (atS_ok p v x (valid_ok h.1) ha).sm⟩
  · exact ⟨_, _, _, rfl, zero_sm⟩
theorem gets_pure (v : V) (p : List Stp) (hv : v.sm) (hp : p.length < 4611686018427387904) : Pure Tryd.prog 3 [inj v, .sl .ro 2 (p.map injS)] (.bool true) := by
  refine Pure.of0 ⟨Tryd.f3, Tryd.func3, rfl, by kernel_rfl⟩ (by simp [AV.underL, inj_under, AV.under, injS_under]) rfl ?_
  obtain ⟨x, b, e, hg, hx⟩ := getV_sm v p hv
  have h1 := pget_pure v p hv hp
  have h2 := refget_pure v p
  rw [hg] at h1 h2
  have h3 := same_pure x x hx
  rw [sameS_self] at h3
  refine acalls_of te_ok [] Tryd.func3 (c := _) rfl (Nat.le_of_ble_eq_true rfl) ?_
  simp only [awset0, awset1, awset2, awset3, awset4, awset5, ne_eq, eq_self, implies_true, imp_self, retR, atup, aresL, ares1, gval, inLz, boxR, buildR, noDead, AV.isDead, acmpnil, appR, appBox, storeB, abin, aint, astr, aun, abuild, afill, fieldPlaces, alit, aindexAddr, aindex, aslice, bnd, cutTag, amin, amax, aappend, appendTo, aelems, aconv, aiface, agetField, reduceIte, reduceCtorEq, Nat.reduceAdd, Nat.reduceLT, Nat.reduceLeDiff, Nat.reduceEqDiff, Nat.reduceSub, Nat.reduceMul, Nat.reduceBEq, Int.reduceBEq, Int.reduceBNe, Int.reduceLT, Int.reduceLE, Int.reduceGT, Int.reduceGE, Int.reduceNeg, Int.reduceEq, Int.reduceNe, Int.reduceToNat, Int.reduceAdd, cls, fl, teset, Tryd.ntmps3, Tryd.results3, inj_take, inj_drop, inj_agg, inj_len, inj_one, List.length_map, boxR]
  refine ACallV.pure h1 ?_
  simp only [awset0, awset1, awset2, awset3, awset4, awset5, ne_eq, eq_self, implies_true, imp_self, retR, atup, aresL, ares1, gval, inLz, boxR, buildR, noDead, AV.isDead, acmpnil, appR, appBox, storeB, abin, aint, astr, aun, abuild, afill, fieldPlaces, alit, aindexAddr, aindex, aslice, bnd, cutTag, amin, amax, aappend, appendTo, aelems, aconv, aiface, agetField, reduceIte, reduceCtorEq, Nat.reduceAdd, Nat.reduceLT, Nat.reduceLeDiff, Nat.reduceEqDiff, Nat.reduceSub, Nat.reduceMul, Nat.reduceBEq, Int.reduceBEq, Int.reduceBNe, Int.reduceLT, Int.reduceLE, Int.reduceGT, Int.reduceGE, Int.reduceNeg, Int.reduceEq, Int.reduceNe, Int.reduceToNat, Int.reduceAdd, cls, fl, teset, inj_take, inj_drop, inj_agg, inj_len, inj_one, List.length_map]
  refine ACallV.pure h2 ?_
  simp only [awset0, awset1, awset2, awset3, awset4, awset5, ne_eq, eq_self, implies_true, imp_self, retR, atup, aresL, ares1, gval, inLz, boxR, buildR, noDead, AV.isDead, acmpnil, appR, appBox, storeB, abin, aint, astr, aun, abuild, afill, fieldPlaces, alit, aindexAddr, aindex, aslice, bnd, cutTag, amin, amax, aappend, appendTo, aelems, aconv, aiface, agetField, reduceIte, reduceCtorEq, Nat.reduceAdd, Nat.reduceLT, Nat.reduceLeDiff, Nat.reduceEqDiff, Nat.reduceSub, Nat.reduceMul, Nat.reduceBEq, Int.reduceBEq, Int.reduceBNe, Int.reduceLT, Int.reduceLE, Int.reduceGT, Int.reduceGE, Int.reduceNeg, Int.reduceEq, Int.reduceNe, Int.reduceToNat, Int.reduceAdd, cls, fl, teset, inj_take, inj_drop, inj_agg, inj_len, inj_one, List.length_map]
  refine ACallV.pure h3 ?_
  simp only [awset0, awset1, awset2, awset3, awset4, awset5, ne_eq, eq_self, implies_true, imp_self, retR, atup, aresL, ares1, gval, inLz, boxR, buildR, noDead, AV.isDead, acmpnil, appR, appBox, storeB, abin, aint, astr, aun, abuild, afill, fieldPlaces, alit, aindexAddr, aindex, aslice, bnd, cutTag, amin, amax, aappend, appendTo, aelems, aconv, aiface, agetField, reduceIte, reduceCtorEq, Nat.reduceAdd, Nat.reduceLT, Nat.reduceLeDiff, Nat.reduceEqDiff, Nat.reduceSub, Nat.reduceMul, Nat.reduceBEq, Int.reduceBEq, Int.reduceBNe, Int.reduceLT, Int.reduceLE, Int.reduceGT, Int.reduceGE, Int.reduceNeg, Int.reduceEq, Int.reduceNe, Int.reduceToNat, Int.reduceAdd, cls, fl, teset, inj_take, inj_drop, inj_agg, inj_len, inj_one, List.length_map]
  refine ACallV.pure awake_pure ?_
  simp only [awset0, awset1, awset2, awset3, awset4, awset5, ne_eq, eq_self, implies_true, imp_self, retR, atup, aresL, ares1, gval, inLz, boxR, buildR, noDead, AV.isDead, acmpnil, appR, appBox, storeB, abin, aint, astr, aun, abuild, afill, fieldPlaces, alit, aindexAddr, aindex, aslice, bnd, cutTag, amin, amax, aappend, appendTo, aelems, aconv, aiface, agetField, reduceIte, reduceCtorEq, Nat.reduceAdd, Nat.reduceLT, Nat.reduceLeDiff, Nat.reduceEqDiff, Nat.reduceSub, Nat.reduceMul, Nat.reduceBEq, Int.reduceBEq, Int.reduceBNe, Int.reduceLT, Int.reduceLE, Int.reduceGT, Int.reduceGE, Int.reduceNeg, Int.reduceEq, Int.reduceNe, Int.reduceToNat, Int.reduceAdd, cls, fl, teset, inj_take, inj_drop, inj_agg, inj_len, inj_one, List.length_map]
  exact ⟨_, rfl, .refl _ _⟩
end Go.Proofs.YtjdocenbfghglaaDoor.AW
