/- V, part 18: value.Clone. -/
import Derived.Test.YtjdocenbfghglaaDoorV175
import Derived.Test.YtjdocenbfghglaaDoorAw23
set_option linter.unusedSimpArgs false
set_option linter.unusedVariables false
namespace Go.Proofs.YtjdocenbfghglaaDoor.AW
open Go Go.RowKit

theorem clone_pure : ∀ v : V, Vok v → Pure Tryd.prog 18 [inj v] (inj v) := by
  intro v
  induction v using V.ind with
  | h k i t xs ks ih =>
    intro hv
    have hx60 := hv.shape.2
    have hk60 := hv.keys.2
    simp only [V.items, V.keys] at hx60 hk60
    have hcl := clonestr_pure ks (by omega)
    have hu := inj_under (.mk k i t xs ks)
    rw [inj_mk] at hu ⊢
    refine Pure.of0 ⟨Tryd.f18, Tryd.func18, rfl, by kernel_rfl⟩ (by simpa [AV.underL] using hu) hu ?_
    refine acalls_of te_ok [] Tryd.func18 (c := _) rfl (Nat.le_of_ble_eq_true rfl) ?_
    simp only [awset0, awset1, awset2, awset3, awset4, awset5, ne_eq, eq_self, implies_true, imp_self, retR, atup, aresL, ares1, gval, inLz, boxR, buildR, noDead, AV.isDead, acmpnil, appR, appBox, storeB, abin, aint, astr, aun, abuild, afill, fieldPlaces, alit, aindexAddr, aindex, aslice, bnd, cutTag, amin, amax, aappend, appendTo, aelems, aconv, aiface, agetField, reduceIte, reduceCtorEq, Nat.reduceAdd, Nat.reduceLT, Nat.reduceLeDiff, Nat.reduceEqDiff, Nat.reduceSub, Nat.reduceMul, Nat.reduceBEq, Int.reduceBEq, Int.reduceBNe, Int.reduceLT, Int.reduceLE, Int.reduceGT, Int.reduceGE, Int.reduceNeg, Int.reduceEq, Int.reduceNe, Int.reduceToNat, Int.reduceAdd, cls, fl, teset, Tryd.ntmps18, Tryd.results18, boxR, inj_take, inj_drop, inj_agg, inj_len, inj_one, List.length_map, none_nb, none_box]
    refine ACallV.pure hcl ?_
    simp only [awset0, awset1, awset2, awset3, awset4, awset5, ne_eq, eq_self, implies_true, imp_self, retR, atup, aresL, ares1, gval, inLz, boxR, buildR, noDead, AV.isDead, acmpnil, appR, appBox, storeB, abin, aint, astr, aun, abuild, afill, fieldPlaces, alit, aindexAddr, aindex, aslice, bnd, cutTag, amin, amax, aappend, appendTo, aelems, aconv, aiface, agetField, reduceIte, reduceCtorEq, Nat.reduceAdd, Nat.reduceLT, Nat.reduceLeDiff, Nat.reduceEqDiff, Nat.reduceSub, Nat.reduceMul, Nat.reduceBEq, Int.reduceBEq, Int.reduceBNe, Int.reduceLT, Int.reduceLE, Int.reduceGT, Int.reduceGE, Int.reduceNeg, Int.reduceEq, Int.reduceNe, Int.reduceToNat, Int.reduceAdd, cls, fl, teset, inj_take, inj_drop, inj_agg, inj_len, inj_one, List.length_map, none_nb, none_box]
    refine ACallV.mono ?_ (ACallV.of ⟨Tryd.f39, Tryd.func39, rfl, by kernel_rfl⟩ (clonevals_calls xs (by omega) _))
    rintro out h' (⟨rfl, rfl, rfl⟩ | ⟨hne, rfl, rfl⟩)
    · simp only [awset0, awset1, awset2, awset3, awset4, awset5, ne_eq, eq_self, implies_true, imp_self, retR, atup, aresL, ares1, gval, inLz, boxR, buildR, noDead, AV.isDead, acmpnil, appR, appBox, storeB, abin, aint, astr, aun, abuild, afill, fieldPlaces, alit, aindexAddr, aindex, aslice, bnd, cutTag, amin, amax, aappend, appendTo, aelems, aconv, aiface, agetField, reduceIte, reduceCtorEq, Nat.reduceAdd, Nat.reduceLT, Nat.reduceLeDiff, Nat.reduceEqDiff, Nat.reduceSub, Nat.reduceMul, Nat.reduceBEq, Int.reduceBEq, Int.reduceBNe, Int.reduceLT, Int.reduceLE, Int.reduceGT, Int.reduceGE, Int.reduceNeg, Int.reduceEq, Int.reduceNe, Int.reduceToNat, Int.reduceAdd, cls, fl, teset, inj_take, inj_drop, inj_agg, inj_len, inj_one, List.length_map, callK_ret, none_nb, none_box]
      refine ⟨fun n s' h' => s' 1 = .ptr 0 0 ∧ s' 2 = .ptr 1 0 ∧ s' 3 = .sl .ro 5 [] ∧ s' 14 = .int .i64 0 ∧ s' 15 = .int .i64 0 ∧ h'.box 0 = some [.int .i64 k, .int .i64 i, .str t, .sl .ro 5 [], .sl .ro 1 (ks.map .str)] ∧ h'.box 1 = some [.int .i64 0, .int .i64 0, .str ⟨#[]⟩, .sl .full 0 [], .sl .full 0 []], ⟨0, ?_⟩, ?_⟩
      · simp only [awset0, awset1, awset2, awset3, awset4, awset5, ne_eq, eq_self, implies_true, imp_self, retR, atup, aresL, ares1, gval, inLz, boxR, buildR, noDead, AV.isDead, acmpnil, appR, appBox, storeB, abin, aint, astr, aun, abuild, afill, fieldPlaces, alit, aindexAddr, aindex, aslice, bnd, cutTag, amin, amax, aappend, appendTo, aelems, aconv, aiface, agetField, reduceIte, reduceCtorEq, Nat.reduceAdd, Nat.reduceLT, Nat.reduceLeDiff, Nat.reduceEqDiff, Nat.reduceSub, Nat.reduceMul, Nat.reduceBEq, Int.reduceBEq, Int.reduceBNe, Int.reduceLT, Int.reduceLE, Int.reduceGT, Int.reduceGE, Int.reduceNeg, Int.reduceEq, Int.reduceNe, Int.reduceToNat, Int.reduceAdd, cls, fl, teset, inj_take, inj_drop, inj_agg, inj_len, inj_one, List.length_map, Int.natCast_zero, none_nb, none_box]
      · rintro n s' h' ⟨e1, e2, e3, e14, e15, b1, b2⟩
        simp only [awset0, awset1, awset2, awset3, awset4, awset5, ne_eq, eq_self, implies_true, imp_self, retR, atup, aresL, ares1, gval, inLz, boxR, buildR, noDead, AV.isDead, acmpnil, appR, appBox, storeB, abin, aint, astr, aun, abuild, afill, fieldPlaces, alit, aindexAddr, aindex, aslice, bnd, cutTag, amin, amax, aappend, appendTo, aelems, aconv, aiface, agetField, reduceIte, reduceCtorEq, Nat.reduceAdd, Nat.reduceLT, Nat.reduceLeDiff, Nat.reduceEqDiff, Nat.reduceSub, Nat.reduceMul, Nat.reduceBEq, Int.reduceBEq, Int.reduceBNe, Int.reduceLT, Int.reduceLE, Int.reduceGT, Int.reduceGE, Int.reduceNeg, Int.reduceEq, Int.reduceNe, Int.reduceToNat, Int.reduceAdd, cls, fl, teset, e1, e2, e3, e14, e15, b1, b2, inj_take, inj_drop, inj_agg, inj_len, inj_one, List.length_map]
        exact ⟨_, rfl, .refl _ _⟩
    · simp only [awset0, awset1, awset2, awset3, awset4, awset5, ne_eq, eq_self, implies_true, imp_self, retR, atup, aresL, ares1, gval, inLz, boxR, buildR, noDead, AV.isDead, acmpnil, appR, appBox, storeB, abin, aint, astr, aun, abuild, afill, fieldPlaces, alit, aindexAddr, aindex, aslice, bnd, cutTag, amin, amax, aappend, appendTo, aelems, aconv, aiface, agetField, reduceIte, reduceCtorEq, Nat.reduceAdd, Nat.reduceLT, Nat.reduceLeDiff, Nat.reduceEqDiff, Nat.reduceSub, Nat.reduceMul, Nat.reduceBEq, Int.reduceBEq, Int.reduceBNe, Int.reduceLT, Int.reduceLE, Int.reduceGT, Int.reduceGE, Int.reduceNeg, Int.reduceEq, Int.reduceNe, Int.reduceToNat, Int.reduceAdd, cls, fl, teset, inj_take, inj_drop, inj_agg, inj_len, inj_one, List.length_map, callK_ret, none_nb, none_box]
      refine ⟨fun n s' h' => ∃ (j : Nat), s' 1 = .ptr 0 0 ∧ s' 2 = .ptr 1 0 ∧ s' 3 = .ms 2 0 xs.length 5 ∧ s' 13 = .ms 2 0 xs.length 5 ∧ s' 14 = .int .i64 xs.length ∧ s' 15 = .int .i64 j ∧ n + j = xs.length ∧ 3 ≤ h'.nb ∧ h'.box 0 = some [.int .i64 k, .int .i64 i, .str t, .sl .ro 5 (xs.map inj), .sl .ro 1 (ks.map .str)] ∧ h'.box 1 = some [.int .i64 0, .int .i64 0, .str ⟨#[]⟩, .sl .full 0 [], .sl .full 0 []] ∧ h'.box 2 = some ((xs.map inj).flatMap AV.cells), ⟨xs.length, 0, ?_⟩, ?_⟩
      · simp only [awset0, awset1, awset2, awset3, awset4, awset5, ne_eq, eq_self, implies_true, imp_self, retR, atup, aresL, ares1, gval, inLz, boxR, buildR, noDead, AV.isDead, acmpnil, appR, appBox, storeB, abin, aint, astr, aun, abuild, afill, fieldPlaces, alit, aindexAddr, aindex, aslice, bnd, cutTag, amin, amax, aappend, appendTo, aelems, aconv, aiface, agetField, reduceIte, reduceCtorEq, Nat.reduceAdd, Nat.reduceLT, Nat.reduceLeDiff, Nat.reduceEqDiff, Nat.reduceSub, Nat.reduceMul, Nat.reduceBEq, Int.reduceBEq, Int.reduceBNe, Int.reduceLT, Int.reduceLE, Int.reduceGT, Int.reduceGE, Int.reduceNeg, Int.reduceEq, Int.reduceNe, Int.reduceToNat, Int.reduceAdd, cls, fl, teset, inj_take, inj_drop, inj_agg, inj_len, inj_one, List.length_map, Int.natCast_zero, none_nb, none_box]
      · rintro n s' h' ⟨j, e1, e2, e3, e13, e14, e15, hn, hnb, b1, b2, b3⟩
        have ne1 : (0 = h'.nb) = False := by simp only [eq_iff_iff, iff_false]; omega
        have ne2 : (1 = h'.nb) = False := by simp only [eq_iff_iff, iff_false]; omega
        have ne3 : (2 = h'.nb) = False := by simp only [eq_iff_iff, iff_false]; omega
        simp only [awset0, awset1, awset2, awset3, awset4, awset5, ne_eq, eq_self, implies_true, imp_self, retR, atup, aresL, ares1, gval, inLz, boxR, buildR, noDead, AV.isDead, acmpnil, appR, appBox, storeB, abin, aint, astr, aun, abuild, afill, fieldPlaces, alit, aindexAddr, aindex, aslice, bnd, cutTag, amin, amax, aappend, appendTo, aelems, aconv, aiface, agetField, reduceIte, reduceCtorEq, Nat.reduceAdd, Nat.reduceLT, Nat.reduceLeDiff, Nat.reduceEqDiff, Nat.reduceSub, Nat.reduceMul, Nat.reduceBEq, Int.reduceBEq, Int.reduceBNe, Int.reduceLT, Int.reduceLE, Int.reduceGT, Int.reduceGE, Int.reduceNeg, Int.reduceEq, Int.reduceNe, Int.reduceToNat, Int.reduceAdd, cls, fl, teset, e1, e2, e3, e13, e14, e15, b1, b2, b3, inj_take, inj_drop, inj_agg, inj_len, inj_one, List.length_map]
        cases hc : decide ((j : Int) < (xs.length : Int)) with
        | false =>
          simp only [awset0, awset1, awset2, awset3, awset4, awset5, ne_eq, eq_self, implies_true, imp_self, retR, atup, aresL, ares1, gval, inLz, boxR, buildR, noDead, AV.isDead, acmpnil, appR, appBox, storeB, abin, aint, astr, aun, abuild, afill, fieldPlaces, alit, aindexAddr, aindex, aslice, bnd, cutTag, amin, amax, aappend, appendTo, aelems, aconv, aiface, agetField, reduceIte, reduceCtorEq, Nat.reduceAdd, Nat.reduceLT, Nat.reduceLeDiff, Nat.reduceEqDiff, Nat.reduceSub, Nat.reduceMul, Nat.reduceBEq, Int.reduceBEq, Int.reduceBNe, Int.reduceLT, Int.reduceLE, Int.reduceGT, Int.reduceGE, Int.reduceNeg, Int.reduceEq, Int.reduceNe, Int.reduceToNat, Int.reduceAdd, cls, fl, teset, e1, e2, e3, e13, e14, e15, b1, b2, b3, inj_take, inj_drop, inj_agg, inj_len, inj_one, List.length_map, ne1, ne2, ne3]
          refine ⟨_, rfl, To0All.agg (.cons (.refl _ _) (.cons (.refl _ _) (.cons (.refl _ _) (.cons ?_ (.cons (.refl _ _) .nil)))))⟩
          have hms := To0.ms (h := (h'.set 0 [AV.int IntKind.i64 k, AV.int IntKind.i64 i, AV.str t, AV.ms 2 0 xs.length 5, AV.sl Tag.ro 1 (ks.map .str)]).set 1 [AV.int IntKind.i64 k, AV.int IntKind.i64 i, AV.str t, AV.ms 2 0 xs.length 5, AV.sl Tag.ro 1 (ks.map .str)]) (b := 2) (sz := 5) (xs := xs.map inj) (rest := [])
            (by rw [set_box, if_neg (by omega), set_box, if_neg (by omega), List.append_nil]; exact b3)
            (fun i x hi => by
              rw [List.getElem?_map] at hi
              cases hx : xs[i]? with
              | none => rw [hx] at hi; cases hi
              | some y => rw [hx] at hi; injection hi with hi; subst hi; exact inj_len y) (by omega) (by simpa using hne)
          rwa [List.length_map] at hms
        | true =>
          simp only [decide_eq_true_eq] at hc
          have hj : j < xs.length := by omega
          obtain ⟨post, hdrop⟩ := cells_drop xs hj
          have hstore := cells_store xs hj
          have htk : List.take 5 ((inj xs[j]).cells ++ post) = (inj xs[j]).cells := by
            have := inj_len xs[j]
            rw [List.take_append_of_le_length (by omega), inj_take]
          have h5 : 5 ≤ ((inj xs[j]).cells ++ post).length := by rw [List.length_append, inj_len]; omega
          simp only [awset0, awset1, awset2, awset3, awset4, awset5, ne_eq, eq_self, implies_true, imp_self, retR, atup, aresL, ares1, gval, inLz, boxR, buildR, noDead, AV.isDead, acmpnil, appR, appBox, storeB, abin, aint, astr, aun, abuild, afill, fieldPlaces, alit, aindexAddr, aindex, aslice, bnd, cutTag, amin, amax, aappend, appendTo, aelems, aconv, aiface, agetField, reduceIte, reduceCtorEq, Nat.reduceAdd, Nat.reduceLT, Nat.reduceLeDiff, Nat.reduceEqDiff, Nat.reduceSub, Nat.reduceMul, Nat.reduceBEq, Int.reduceBEq, Int.reduceBNe, Int.reduceLT, Int.reduceLE, Int.reduceGT, Int.reduceGE, Int.reduceNeg, Int.reduceEq, Int.reduceNe, Int.reduceToNat, Int.reduceAdd, cls, fl, teset, e1, e2, e3, e13, e14, e15, b1, b2, b3, inj_take, inj_drop, inj_agg, inj_len, inj_one, List.length_map, hc, Int.natCast_nonneg, Int.toNat_natCast, hdrop, htk, h5, ne1, ne2, ne3]
          have hmem : xs[j] ∈ xs := List.getElem_mem _
          have hfit : j * 5 + 5 ≤ ((xs.map inj).flatMap AV.cells).length := by rw [cells_len]; omega
          refine ACallV.pure (ih xs[j] hmem (hv.items _ hmem)) ?_
          simp only [awset0, awset1, awset2, awset3, awset4, awset5, ne_eq, eq_self, implies_true, imp_self, retR, atup, aresL, ares1, gval, inLz, boxR, buildR, noDead, AV.isDead, acmpnil, appR, appBox, storeB, abin, aint, astr, aun, abuild, afill, fieldPlaces, alit, aindexAddr, aindex, aslice, bnd, cutTag, amin, amax, aappend, appendTo, aelems, aconv, aiface, agetField, reduceIte, reduceCtorEq, Nat.reduceAdd, Nat.reduceLT, Nat.reduceLeDiff, Nat.reduceEqDiff, Nat.reduceSub, Nat.reduceMul, Nat.reduceBEq, Int.reduceBEq, Int.reduceBNe, Int.reduceLT, Int.reduceLE, Int.reduceGT, Int.reduceGE, Int.reduceNeg, Int.reduceEq, Int.reduceNe, Int.reduceToNat, Int.reduceAdd, cls, fl, teset, e1, e2, e3, e13, e14, e15, b1, b2, b3, inj_take, inj_drop, inj_agg, inj_len, inj_one, List.length_map, hc, Int.natCast_nonneg, Int.toNat_natCast, hdrop, htk, h5, ne1, ne2, ne3, hfit, hstore]
          exact ⟨n - 1, by omega, j + 1, by rw [wrap_succ (by omega)], by omega, by omega⟩
end Go.Proofs.YtjdocenbfghglaaDoor.AW
