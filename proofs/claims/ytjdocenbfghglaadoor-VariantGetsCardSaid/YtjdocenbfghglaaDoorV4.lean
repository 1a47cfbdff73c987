/- V, part 4: the reference's Valid of values and of paths. -/
import Derived.Test.YtjdocenbfghglaaDoorV3
set_option linter.unusedSimpArgs false
set_option linter.unusedVariables false
namespace Go.Proofs.YtjdocenbfghglaaDoor.AW
open Go Go.RowKit

def valid (v : V) : Bool := decide (nodesS 6 v ≤ 60)
theorem nodes6_pure (k i : Int) (t : ByteArray) (xs : List V) (ks : List ByteArray) : Pure Tryd.prog 29 [.agg [.int .i64 k, .int .i64 i, .str t, .sl .ro 5 (xs.map inj), .sl .ro 1 (ks.map .str)], .int .i64 6] (.int .i64 (nodesS 6 (.mk k i t xs ks))) := by
  have := nodes_pure 6 (.mk k i t xs ks) (by omega)
  rwa [inj_mk] at this
theorem refvalid_pure (v : V) : Pure Tryd.prog 11 [inj v] (.bool (valid v)) := by
  obtain ⟨k, i, t, xs, ks⟩ := v
  rw [inj_mk]
  refine Pure.of ⟨Tryd.f11, Tryd.func11, rfl, by kernel_rfl⟩ rfl (fun h => ?_)
  refine acalls_of te_ok [] Tryd.func11 (c := _) rfl (Nat.le_of_ble_eq_true rfl) ?_
  simp only [awset0, awset1, awset2, awset3, awset4, awset5, ne_eq, eq_self, implies_true, imp_self, retR, atup, aresL, ares1, gval, inLz, boxR, buildR, noDead, AV.isDead, acmpnil, appR, appBox, storeB, abin, aint, astr, aun, abuild, afill, fieldPlaces, alit, aindexAddr, aindex, aslice, bnd, cutTag, amin, amax, aappend, appendTo, aelems, aconv, aiface, agetField, reduceIte, reduceCtorEq, Nat.reduceAdd, Nat.reduceLT, Nat.reduceLeDiff, Nat.reduceEqDiff, Nat.reduceSub, Nat.reduceMul, Nat.reduceBEq, Int.reduceBEq, Int.reduceBNe, Int.reduceLT, Int.reduceLE, Int.reduceGT, Int.reduceGE, Int.reduceNeg, Int.reduceEq, Int.reduceNe, Int.reduceToNat, Int.reduceAdd, cls, fl, teset, Tryd.ntmps11, Tryd.results11]
  refine ACallV.pure (nodes6_pure _ _ _ _ _) ?_
  simp only [awset0, awset1, awset2, awset3, awset4, awset5, ne_eq, eq_self, implies_true, imp_self, retR, atup, aresL, ares1, gval, inLz, boxR, buildR, noDead, AV.isDead, acmpnil, appR, appBox, storeB, abin, aint, astr, aun, abuild, afill, fieldPlaces, alit, aindexAddr, aindex, aslice, bnd, cutTag, amin, amax, aappend, appendTo, aelems, aconv, aiface, agetField, reduceIte, reduceCtorEq, Nat.reduceAdd, Nat.reduceLT, Nat.reduceLeDiff, Nat.reduceEqDiff, Nat.reduceSub, Nat.reduceMul, Nat.reduceBEq, Int.reduceBEq, Int.reduceBNe, Int.reduceLT, Int.reduceLE, Int.reduceGT, Int.reduceGE, Int.reduceNeg, Int.reduceEq, Int.reduceNe, Int.reduceToNat, Int.reduceAdd, cls, fl, teset]
  refine ⟨(AH.Ext.refl h).new _, _, rfl, ?_⟩
  have : decide ((nodesS 6 (.mk k i t xs ks) : Int) ≤ 60) = valid (.mk k i t xs ks) := by
    unfold valid; simp only [decide_eq_decide]; omega
  rw [this]; rfl

/-- A step of a path. -/
structure Stp where
  index : Int
  key : ByteArray
def injS (s : Stp) : AV := .agg [.int .i64 s.index, .str s.key]
def stepOk (s : Stp) : Bool := !(decide (s.index < -1) || decide (s.index > 99) || (decide (s.index ≥ 0) && !(s.key.toList == (⟨#[]⟩ : ByteArray).toList))) && isText s.key
def pathOk (p : List Stp) : Bool := decide (p.length ≤ 6) && p.all stepOk

theorem refpath_pure (p : List Stp) : Pure Tryd.prog 12 [.sl .ro 2 (p.map injS)] (.bool (pathOk p)) := by
  refine Pure.of ⟨Tryd.f12, Tryd.func12, rfl, by kernel_rfl⟩ rfl (fun h => ?_)
  refine acalls_of te_ok [20, 21, 22, 23, 24, 25, 26, 28, 29, 30, 31, 32, 33, 34, 35, 36, 37, 38, 39, 40, 41] Tryd.func12 (c := _) rfl (Nat.le_of_ble_eq_true rfl) ?_
  simp only [awset0, awset1, awset2, awset3, awset4, awset5, ne_eq, eq_self, implies_true, imp_self, retR, atup, aresL, ares1, gval, inLz, boxR, buildR, noDead, AV.isDead, acmpnil, appR, appBox, storeB, abin, aint, astr, aun, abuild, afill, fieldPlaces, alit, aindexAddr, aindex, aslice, bnd, cutTag, amin, amax, aappend, appendTo, aelems, aconv, aiface, agetField, reduceIte, reduceCtorEq, Nat.reduceAdd, Nat.reduceLT, Nat.reduceLeDiff, Nat.reduceEqDiff, Nat.reduceSub, Nat.reduceMul, Nat.reduceBEq, Int.reduceBEq, Int.reduceBNe, Int.reduceLT, Int.reduceLE, Int.reduceGT, Int.reduceGE, Int.reduceNeg, Int.reduceEq, Int.reduceNe, Int.reduceToNat, Int.reduceAdd, cls, fl, teset, Tryd.ntmps12, Tryd.results12, List.length_map]
  cases hlen : decide ((p.length : Int) > 6) with
  | true =>
    simp only [awset0, awset1, awset2, awset3, awset4, awset5, ne_eq, eq_self, implies_true, imp_self, retR, atup, aresL, ares1, gval, inLz, boxR, buildR, noDead, AV.isDead, acmpnil, appR, appBox, storeB, abin, aint, astr, aun, abuild, afill, fieldPlaces, alit, aindexAddr, aindex, aslice, bnd, cutTag, amin, amax, aappend, appendTo, aelems, aconv, aiface, agetField, reduceIte, reduceCtorEq, Nat.reduceAdd, Nat.reduceLT, Nat.reduceLeDiff, Nat.reduceEqDiff, Nat.reduceSub, Nat.reduceMul, Nat.reduceBEq, Int.reduceBEq, Int.reduceBNe, Int.reduceLT, Int.reduceLE, Int.reduceGT, Int.reduceGE, Int.reduceNeg, Int.reduceEq, Int.reduceNe, Int.reduceToNat, Int.reduceAdd, cls, fl, teset]
    simp only [decide_eq_true_eq] at hlen
    have : ¬ p.length ≤ 6 := by omega
    exact ⟨.refl _, _, rfl, by simp [pathOk, this, AV.erase]⟩
  | false =>
    simp only [awset0, awset1, awset2, awset3, awset4, awset5, ne_eq, eq_self, implies_true, imp_self, retR, atup, aresL, ares1, gval, inLz, boxR, buildR, noDead, AV.isDead, acmpnil, appR, appBox, storeB, abin, aint, astr, aun, abuild, afill, fieldPlaces, alit, aindexAddr, aindex, aslice, bnd, cutTag, amin, amax, aappend, appendTo, aelems, aconv, aiface, agetField, reduceIte, reduceCtorEq, Nat.reduceAdd, Nat.reduceLT, Nat.reduceLeDiff, Nat.reduceEqDiff, Nat.reduceSub, Nat.reduceMul, Nat.reduceBEq, Int.reduceBEq, Int.reduceBNe, Int.reduceLT, Int.reduceLE, Int.reduceGT, Int.reduceGE, Int.reduceNeg, Int.reduceEq, Int.reduceNe, Int.reduceToNat, Int.reduceAdd, cls, fl, teset]
    simp only [decide_eq_false_iff_not] at hlen
    refine ⟨fun n s' h' => ∃ (j : Nat), s' 0 = .sl .ro 2 (p.map injS) ∧ s' 3 = .int .i64 j ∧ h' = h ∧ n + j = p.length ∧ (∀ (j' : Nat) s, j' < j → p[j']? = some s → stepOk s = true), ⟨p.length, 0, ?_⟩, ?_⟩
    · simp only [awset0, awset1, awset2, awset3, awset4, awset5, ne_eq, eq_self, implies_true, imp_self, retR, atup, aresL, ares1, gval, inLz, boxR, buildR, noDead, AV.isDead, acmpnil, appR, appBox, storeB, abin, aint, astr, aun, abuild, afill, fieldPlaces, alit, aindexAddr, aindex, aslice, bnd, cutTag, amin, amax, aappend, appendTo, aelems, aconv, aiface, agetField, reduceIte, reduceCtorEq, Nat.reduceAdd, Nat.reduceLT, Nat.reduceLeDiff, Nat.reduceEqDiff, Nat.reduceSub, Nat.reduceMul, Nat.reduceBEq, Int.reduceBEq, Int.reduceBNe, Int.reduceLT, Int.reduceLE, Int.reduceGT, Int.reduceGE, Int.reduceNeg, Int.reduceEq, Int.reduceNe, Int.reduceToNat, Int.reduceAdd, cls, fl, teset, Int.natCast_zero]
      exact fun j' s hj => absurd hj (Nat.not_lt_zero _)
    · rintro n s' h' ⟨j, e0, e3, hh, hn, hall⟩
      subst hh
      simp only [awset0, awset1, awset2, awset3, awset4, awset5, ne_eq, eq_self, implies_true, imp_self, retR, atup, aresL, ares1, gval, inLz, boxR, buildR, noDead, AV.isDead, acmpnil, appR, appBox, storeB, abin, aint, astr, aun, abuild, afill, fieldPlaces, alit, aindexAddr, aindex, aslice, bnd, cutTag, amin, amax, aappend, appendTo, aelems, aconv, aiface, agetField, reduceIte, reduceCtorEq, Nat.reduceAdd, Nat.reduceLT, Nat.reduceLeDiff, Nat.reduceEqDiff, Nat.reduceSub, Nat.reduceMul, Nat.reduceBEq, Int.reduceBEq, Int.reduceBNe, Int.reduceLT, Int.reduceLE, Int.reduceGT, Int.reduceGE, Int.reduceNeg, Int.reduceEq, Int.reduceNe, Int.reduceToNat, Int.reduceAdd, cls, fl, teset, e0, e3, List.length_map]
      cases hc : decide ((j : Int) < (p.length : Int)) with
      | false =>
        simp only [awset0, awset1, awset2, awset3, awset4, awset5, ne_eq, eq_self, implies_true, imp_self, retR, atup, aresL, ares1, gval, inLz, boxR, buildR, noDead, AV.isDead, acmpnil, appR, appBox, storeB, abin, aint, astr, aun, abuild, afill, fieldPlaces, alit, aindexAddr, aindex, aslice, bnd, cutTag, amin, amax, aappend, appendTo, aelems, aconv, aiface, agetField, reduceIte, reduceCtorEq, Nat.reduceAdd, Nat.reduceLT, Nat.reduceLeDiff, Nat.reduceEqDiff, Nat.reduceSub, Nat.reduceMul, Nat.reduceBEq, Int.reduceBEq, Int.reduceBNe, Int.reduceLT, Int.reduceLE, Int.reduceGT, Int.reduceGE, Int.reduceNeg, Int.reduceEq, Int.reduceNe, Int.reduceToNat, Int.reduceAdd, cls, fl, teset, e0, e3]
        simp only [decide_eq_false_iff_not] at hc
        have h1 : p.length ≤ 6 := by omega
        have h2 : p.all stepOk = true := by
          rw [List.all_eq_true]
          intro s hs
          obtain ⟨j', hj'⟩ := List.mem_iff_getElem?.1 hs
          exact hall j' s (by have := (List.getElem?_eq_some_iff.1 hj').1; omega) hj'
        exact ⟨.refl _, _, rfl, by simp [pathOk, h1, h2, AV.erase]⟩
      | true =>
        simp only [decide_eq_true_eq] at hc
        have hj : j < p.length := by omega
        obtain ⟨s, hs⟩ : ∃ s, p[j]? = some s := ⟨p[j], by simp [hj]⟩
        have hget : (p.map injS)[((j : Nat) : Int).toNat]? = some (.agg [.int .i64 s.index, .str s.key]) := by rw [Int.toNat_natCast, List.getElem?_map, hs]; rfl
        simp only [awset0, awset1, awset2, awset3, awset4, awset5, ne_eq, eq_self, implies_true, imp_self, retR, atup, aresL, ares1, gval, inLz, boxR, buildR, noDead, AV.isDead, acmpnil, appR, appBox, storeB, abin, aint, astr, aun, abuild, afill, fieldPlaces, alit, aindexAddr, aindex, aslice, bnd, cutTag, amin, amax, aappend, appendTo, aelems, aconv, aiface, agetField, reduceIte, reduceCtorEq, Nat.reduceAdd, Nat.reduceLT, Nat.reduceLeDiff, Nat.reduceEqDiff, Nat.reduceSub, Nat.reduceMul, Nat.reduceBEq, Int.reduceBEq, Int.reduceBNe, Int.reduceLT, Int.reduceLE, Int.reduceGT, Int.reduceGE, Int.reduceNeg, Int.reduceEq, Int.reduceNe, Int.reduceToNat, Int.reduceAdd, cls, fl, teset, e0, e3, hget, Int.natCast_nonneg]
        have bad : stepOk s = false → h'.Ext h' ∧ ∃ u, AOut.ret (AV.bool false) = .ret u ∧ u.erase = .bool (pathOk p) := by
          intro hb
          have : p.all stepOk = false := by
            rw [Bool.eq_false_iff]
            intro hq
            rw [List.all_eq_true] at hq
            rw [hq s (List.mem_of_getElem? hs)] at hb; cases hb
          exact ⟨.refl _, _, rfl, by simp [pathOk, this, AV.erase]⟩
        cases hb : (decide (s.index < -1) || decide (s.index > 99) || (decide (s.index ≥ 0) && !(s.key.toList == (⟨#[]⟩ : ByteArray).toList))) with
        | true =>
          simp only [awset0, awset1, awset2, awset3, awset4, awset5, ne_eq, eq_self, implies_true, imp_self, retR, atup, aresL, ares1, gval, inLz, boxR, buildR, noDead, AV.isDead, acmpnil, appR, appBox, storeB, abin, aint, astr, aun, abuild, afill, fieldPlaces, alit, aindexAddr, aindex, aslice, bnd, cutTag, amin, amax, aappend, appendTo, aelems, aconv, aiface, agetField, reduceIte, reduceCtorEq, Nat.reduceAdd, Nat.reduceLT, Nat.reduceLeDiff, Nat.reduceEqDiff, Nat.reduceSub, Nat.reduceMul, Nat.reduceBEq, Int.reduceBEq, Int.reduceBNe, Int.reduceLT, Int.reduceLE, Int.reduceGT, Int.reduceGE, Int.reduceNeg, Int.reduceEq, Int.reduceNe, Int.reduceToNat, Int.reduceAdd, cls, fl, teset, e0, e3, hget, Int.natCast_nonneg]
          exact bad (by unfold stepOk; rw [hb]; rfl)
        | false =>
          simp only [awset0, awset1, awset2, awset3, awset4, awset5, ne_eq, eq_self, implies_true, imp_self, retR, atup, aresL, ares1, gval, inLz, boxR, buildR, noDead, AV.isDead, acmpnil, appR, appBox, storeB, abin, aint, astr, aun, abuild, afill, fieldPlaces, alit, aindexAddr, aindex, aslice, bnd, cutTag, amin, amax, aappend, appendTo, aelems, aconv, aiface, agetField, reduceIte, reduceCtorEq, Nat.reduceAdd, Nat.reduceLT, Nat.reduceLeDiff, Nat.reduceEqDiff, Nat.reduceSub, Nat.reduceMul, Nat.reduceBEq, Int.reduceBEq, Int.reduceBNe, Int.reduceLT, Int.reduceLE, Int.reduceGT, Int.reduceGE, Int.reduceNeg, Int.reduceEq, Int.reduceNe, Int.reduceToNat, Int.reduceAdd, cls, fl, teset, e0, e3, hget, Int.natCast_nonneg]
          refine ACallV.pure (isText_pure _) ?_
          cases ht : isText s.key with
          | false =>
            simp only [awset0, awset1, awset2, awset3, awset4, awset5, ne_eq, eq_self, implies_true, imp_self, retR, atup, aresL, ares1, gval, inLz, boxR, buildR, noDead, AV.isDead, acmpnil, appR, appBox, storeB, abin, aint, astr, aun, abuild, afill, fieldPlaces, alit, aindexAddr, aindex, aslice, bnd, cutTag, amin, amax, aappend, appendTo, aelems, aconv, aiface, agetField, reduceIte, reduceCtorEq, Nat.reduceAdd, Nat.reduceLT, Nat.reduceLeDiff, Nat.reduceEqDiff, Nat.reduceSub, Nat.reduceMul, Nat.reduceBEq, Int.reduceBEq, Int.reduceBNe, Int.reduceLT, Int.reduceLE, Int.reduceGT, Int.reduceGE, Int.reduceNeg, Int.reduceEq, Int.reduceNe, Int.reduceToNat, Int.reduceAdd, cls, fl, teset, e0, e3, hget, Int.natCast_nonneg]
            exact bad (by unfold stepOk; rw [hb, ht]; rfl)
          | true =>
            simp only [awset0, awset1, awset2, awset3, awset4, awset5, ne_eq, eq_self, implies_true, imp_self, retR, atup, aresL, ares1, gval, inLz, boxR, buildR, noDead, AV.isDead, acmpnil, appR, appBox, storeB, abin, aint, astr, aun, abuild, afill, fieldPlaces, alit, aindexAddr, aindex, aslice, bnd, cutTag, amin, amax, aappend, appendTo, aelems, aconv, aiface, agetField, reduceIte, reduceCtorEq, Nat.reduceAdd, Nat.reduceLT, Nat.reduceLeDiff, Nat.reduceEqDiff, Nat.reduceSub, Nat.reduceMul, Nat.reduceBEq, Int.reduceBEq, Int.reduceBNe, Int.reduceLT, Int.reduceLE, Int.reduceGT, Int.reduceGE, Int.reduceNeg, Int.reduceEq, Int.reduceNe, Int.reduceToNat, Int.reduceAdd, cls, fl, teset, e0, e3, hget, Int.natCast_nonneg]
            refine ⟨n - 1, by omega, j + 1, ?_, by omega, fun j' s' hj' hs' => ?_⟩
            · rw [wrap_succ (by omega)]
            · by_cases e : j' = j
              · subst e; rw [hs] at hs'; injection hs' with hs'; subst hs'
                unfold stepOk; rw [hb, ht]; rfl
              · exact hall j' s' (by omega) hs'
end Go.Proofs.YtjdocenbfghglaaDoor.AW
