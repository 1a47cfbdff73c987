/- V, part 19: the program's Get. -/
import Derived.Test.YtjdocenbfghglaaDoorV18
set_option linter.unusedSimpArgs false
set_option linter.unusedVariables false
namespace Go.Proofs.YtjdocenbfghglaaDoor.AW
open Go Go.RowKit

theorem atS_ok : ∀ (p : List Stp) (v x : V), Vok v → atS v p = some x → Vok x := by
  intro p
  induction p with
  | nil => intro v x hv h; simp [atS] at h; subst h; exact hv
  | cons s p ih =>
    intro v x hv h
    simp only [atS] at h
    obtain ⟨y, h1, h2⟩ := Option.bind_eq_some_iff.1 h
    exact ih y x (hv.items y (itemS_mem h1)) h2
theorem zero_ok : Vok zeroV := by
  refine ⟨1, ?_⟩
  show (if (0 : Nat) > 60 then 61 else if shape zeroV = true then 1 else 61) ≤ 60
  have : shape zeroV = true := by unfold zeroV; rw [shape_0]; simp [plainS, V.int, V.text, V.items, V.keys]
  rw [this]; decide
theorem injS_under (p : List Stp) : AV.underL 0 0 (p.map injS) = true := by
  induction p with
  | nil => rfl
  | cons s p ih => simp [AV.underL, injS, AV.under, ih]
theorem valid_ok {v : V} (h : valid v = true) : Vok v := ⟨6, by simpa [valid] using h⟩
theorem pget_pure (v : V) (p : List Stp) (hv : v.sm) (hp : p.length < 4611686018427387904) : Pure Tryd.prog 6 [inj v, .sl .ro 2 (p.map injS)] (getV v p) := by
  refine Pure.of0 ⟨Tryd.f6, Tryd.func6, rfl, by kernel_rfl⟩ (by simp [AV.underL, inj_under, AV.under, injS_under]) (getV_under _ _) ?_
  refine acalls_of te_ok [] Tryd.func6 (c := _) rfl (Nat.le_of_ble_eq_true rfl) ?_
  simp only [awset0, awset1, awset2, awset3, awset4, awset5, ne_eq, eq_self, implies_true, imp_self, retR, atup, aresL, ares1, gval, inLz, boxR, buildR, noDead, AV.isDead, acmpnil, appR, appBox, storeB, abin, aint, astr, aun, abuild, afill, fieldPlaces, alit, aindexAddr, aindex, aslice, bnd, cutTag, amin, amax, aappend, appendTo, aelems, aconv, aiface, agetField, reduceIte, reduceCtorEq, Nat.reduceAdd, Nat.reduceLT, Nat.reduceLeDiff, Nat.reduceEqDiff, Nat.reduceSub, Nat.reduceMul, Nat.reduceBEq, Int.reduceBEq, Int.reduceBNe, Int.reduceLT, Int.reduceLE, Int.reduceGT, Int.reduceGE, Int.reduceNeg, Int.reduceEq, Int.reduceNe, Int.reduceToNat, Int.reduceAdd, cls, fl, teset, Tryd.ntmps6, Tryd.results6, inj_take, inj_drop, inj_agg, inj_len, inj_one, List.length_map, boxR]
  refine ACallV.pure (pvalid_pure v hv) ?_
  cases hval : valid v with
  | false =>
    simp only [awset0, awset1, awset2, awset3, awset4, awset5, ne_eq, eq_self, implies_true, imp_self, retR, atup, aresL, ares1, gval, inLz, boxR, buildR, noDead, AV.isDead, acmpnil, appR, appBox, storeB, abin, aint, astr, aun, abuild, afill, fieldPlaces, alit, aindexAddr, aindex, aslice, bnd, cutTag, amin, amax, aappend, appendTo, aelems, aconv, aiface, agetField, reduceIte, reduceCtorEq, Nat.reduceAdd, Nat.reduceLT, Nat.reduceLeDiff, Nat.reduceEqDiff, Nat.reduceSub, Nat.reduceMul, Nat.reduceBEq, Int.reduceBEq, Int.reduceBNe, Int.reduceLT, Int.reduceLE, Int.reduceGT, Int.reduceGE, Int.reduceNeg, Int.reduceEq, Int.reduceNe, Int.reduceToNat, Int.reduceAdd, cls, fl, teset, inj_take, inj_drop, inj_agg, inj_len, inj_one, List.length_map]
    refine ⟨_, rfl, ?_⟩
    unfold getV; rw [hval]
    exact .wk (WkAll.cons wk_zero (.cons (.refl _) (.cons (.refl _) .nil))).tup
  | true =>
    simp only [awset0, awset1, awset2, awset3, awset4, awset5, ne_eq, eq_self, implies_true, imp_self, retR, atup, aresL, ares1, gval, inLz, boxR, buildR, noDead, AV.isDead, acmpnil, appR, appBox, storeB, abin, aint, astr, aun, abuild, afill, fieldPlaces, alit, aindexAddr, aindex, aslice, bnd, cutTag, amin, amax, aappend, appendTo, aelems, aconv, aiface, agetField, reduceIte, reduceCtorEq, Nat.reduceAdd, Nat.reduceLT, Nat.reduceLeDiff, Nat.reduceEqDiff, Nat.reduceSub, Nat.reduceMul, Nat.reduceBEq, Int.reduceBEq, Int.reduceBNe, Int.reduceLT, Int.reduceLE, Int.reduceGT, Int.reduceGE, Int.reduceNeg, Int.reduceEq, Int.reduceNe, Int.reduceToNat, Int.reduceAdd, cls, fl, teset, inj_take, inj_drop, inj_agg, inj_len, inj_one, List.length_map]
    refine ACallV.pure (ppath_pure p hp) ?_
    cases hpo : pathOk p with
    | false =>
      simp only [awset0, awset1, awset2, awset3, awset4, awset5, ne_eq, eq_self, implies_true, imp_self, retR, atup, aresL, ares1, gval, inLz, boxR, buildR, noDead, AV.isDead, acmpnil, appR, appBox, storeB, abin, aint, astr, aun, abuild, afill, fieldPlaces, alit, aindexAddr, aindex, aslice, bnd, cutTag, amin, amax, aappend, appendTo, aelems, aconv, aiface, agetField, reduceIte, reduceCtorEq, Nat.reduceAdd, Nat.reduceLT, Nat.reduceLeDiff, Nat.reduceEqDiff, Nat.reduceSub, Nat.reduceMul, Nat.reduceBEq, Int.reduceBEq, Int.reduceBNe, Int.reduceLT, Int.reduceLE, Int.reduceGT, Int.reduceGE, Int.reduceNeg, Int.reduceEq, Int.reduceNe, Int.reduceToNat, Int.reduceAdd, cls, fl, teset, inj_take, inj_drop, inj_agg, inj_len, inj_one, List.length_map]
      refine ⟨_, rfl, ?_⟩
      unfold getV; rw [hval, hpo]
      exact .wk (WkAll.cons wk_zero (.cons (.refl _) (.cons (.refl _) .nil))).tup
    | true =>
      simp only [awset0, awset1, awset2, awset3, awset4, awset5, ne_eq, eq_self, implies_true, imp_self, retR, atup, aresL, ares1, gval, inLz, boxR, buildR, noDead, AV.isDead, acmpnil, appR, appBox, storeB, abin, aint, astr, aun, abuild, afill, fieldPlaces, alit, aindexAddr, aindex, aslice, bnd, cutTag, amin, amax, aappend, appendTo, aelems, aconv, aiface, agetField, reduceIte, reduceCtorEq, Nat.reduceAdd, Nat.reduceLT, Nat.reduceLeDiff, Nat.reduceEqDiff, Nat.reduceSub, Nat.reduceMul, Nat.reduceBEq, Int.reduceBEq, Int.reduceBNe, Int.reduceLT, Int.reduceLE, Int.reduceGT, Int.reduceGE, Int.reduceNeg, Int.reduceEq, Int.reduceNe, Int.reduceToNat, Int.reduceAdd, cls, fl, teset, inj_take, inj_drop, inj_agg, inj_len, inj_one, List.length_map]
      have hvk := valid_ok hval
      refine ACallV.pure (pat_pure v p hvk hp) ?_
      have hg : getV v p = (match atS v p with | some x => .tup [inj x, .bool true, .int .i64 0] | none => .tup [inj zeroV, .bool false, .int .i64 0]) := by unfold getV; rw [hval, hpo]; rfl
      rw [hg]
      cases ha : atS v p with
      | none =>
        simp only [awset0, awset1, awset2, awset3, awset4, awset5, ne_eq, eq_self, implies_true, imp_self, retR, atup, aresL, ares1, gval, inLz, boxR, buildR, noDead, AV.isDead, acmpnil, appR, appBox, storeB, abin, aint, astr, aun, abuild, afill, fieldPlaces, alit, aindexAddr, aindex, aslice, bnd, cutTag, amin, amax, aappend, appendTo, aelems, aconv, aiface, agetField, reduceIte, reduceCtorEq, Nat.reduceAdd, Nat.reduceLT, Nat.reduceLeDiff, Nat.reduceEqDiff, Nat.reduceSub, Nat.reduceMul, Nat.reduceBEq, Int.reduceBEq, Int.reduceBNe, Int.reduceLT, Int.reduceLE, Int.reduceGT, Int.reduceGE, Int.reduceNeg, Int.reduceEq, Int.reduceNe, Int.reduceToNat, Int.reduceAdd, cls, fl, teset, outV_n, outV_s, inj_take, inj_drop, inj_agg, inj_len, inj_one, List.length_map]
        refine ACallV.pure (clone_pure _ zero_ok) ?_
        simp only [awset0, awset1, awset2, awset3, awset4, awset5, ne_eq, eq_self, implies_true, imp_self, retR, atup, aresL, ares1, gval, inLz, boxR, buildR, noDead, AV.isDead, acmpnil, appR, appBox, storeB, abin, aint, astr, aun, abuild, afill, fieldPlaces, alit, aindexAddr, aindex, aslice, bnd, cutTag, amin, amax, aappend, appendTo, aelems, aconv, aiface, agetField, reduceIte, reduceCtorEq, Nat.reduceAdd, Nat.reduceLT, Nat.reduceLeDiff, Nat.reduceEqDiff, Nat.reduceSub, Nat.reduceMul, Nat.reduceBEq, Int.reduceBEq, Int.reduceBNe, Int.reduceLT, Int.reduceLE, Int.reduceGT, Int.reduceGE, Int.reduceNeg, Int.reduceEq, Int.reduceNe, Int.reduceToNat, Int.reduceAdd, cls, fl, teset, inj_take, inj_drop, inj_agg, inj_len, inj_one, List.length_map]
        exact ⟨_, rfl, .refl _ _⟩
      | some x =>
        simp only [awset0, awset1, awset2, awset3, awset4, awset5, ne_eq, eq_self, implies_true, imp_self, retR, atup, aresL, ares1, gval, inLz, boxR, buildR, noDead, AV.isDead, acmpnil, appR, appBox, storeB, abin, aint, astr, aun, abuild, afill, fieldPlaces, alit, aindexAddr, aindex, aslice, bnd, cutTag, amin, amax, aappend, appendTo, aelems, aconv, aiface, agetField, reduceIte, reduceCtorEq, Nat.reduceAdd, Nat.reduceLT, Nat.reduceLeDiff, Nat.reduceEqDiff, Nat.reduceSub, Nat.reduceMul, Nat.reduceBEq, Int.reduceBEq, Int.reduceBNe, Int.reduceLT, Int.reduceLE, Int.reduceGT, Int.reduceGE, Int.reduceNeg, Int.reduceEq, Int.reduceNe, Int.reduceToNat, Int.reduceAdd, cls, fl, teset, outV_n, outV_s, inj_take, inj_drop, inj_agg, inj_len, inj_one, List.length_map]
        refine ACallV.pure (clone_pure _ (atS_ok p v x hvk ha)) ?_
        simp only [awset0, awset1, awset2, awset3, awset4, awset5, ne_eq, eq_self, implies_true, imp_self, retR, atup, aresL, ares1, gval, inLz, boxR, buildR, noDead, AV.isDead, acmpnil, appR, appBox, storeB, abin, aint, astr, aun, abuild, afill, fieldPlaces, alit, aindexAddr, aindex, aslice, bnd, cutTag, amin, amax, aappend, appendTo, aelems, aconv, aiface, agetField, reduceIte, reduceCtorEq, Nat.reduceAdd, Nat.reduceLT, Nat.reduceLeDiff, Nat.reduceEqDiff, Nat.reduceSub, Nat.reduceMul, Nat.reduceBEq, Int.reduceBEq, Int.reduceBNe, Int.reduceLT, Int.reduceLE, Int.reduceGT, Int.reduceGE, Int.reduceNeg, Int.reduceEq, Int.reduceNe, Int.reduceToNat, Int.reduceAdd, cls, fl, teset, inj_take, inj_drop, inj_agg, inj_len, inj_one, List.length_map]
        exact ⟨_, rfl, .refl _ _⟩
end Go.Proofs.YtjdocenbfghglaaDoor.AW
