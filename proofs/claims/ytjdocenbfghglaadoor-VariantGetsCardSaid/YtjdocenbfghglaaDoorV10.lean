/- V, part 10: the program's At. -/
import Derived.Test.YtjdocenbfghglaaDoorV9
set_option linter.unusedSimpArgs false
set_option linter.unusedVariables false
namespace Go.Proofs.YtjdocenbfghglaaDoor.AW
open Go Go.RowKit

theorem itemP_in {v : V} (hv : Vok v) (s : Stp) (h : (itemP v s).2 = true) : 0 ≤ (itemP v s).1 ∧ (itemP v s).1.toNat < v.items.length := by
  by_cases h5 : s.index < 0 ∧ v.kind = 5
  · rw [itemP_5 h5.1 h5.2] at h ⊢
    simp only at h ⊢
    refine ⟨Int.natCast_nonneg _, ?_⟩
    rw [Int.toNat_natCast, ← hv.keys.1 h5.2]
    unfold foundS at h
    split at h
    · next x hx => exact (List.getElem?_eq_some_iff.1 hx).1
    · cases h
  · by_cases h4 : 0 ≤ s.index ∧ v.kind = 4
    · rw [itemP_4 h4.1 h4.2] at h ⊢
      simp only [decide_eq_true_eq] at h ⊢
      omega
    · rw [itemP_x h5 h4] at h; cases h
theorem pat_pure (v : V) (p : List Stp) (hv : Vok v) (hp : p.length < 4611686018427387904) : Pure Tryd.prog 17 [inj v, .sl .ro 2 (p.map injS)] (outV (atS v p)) := by
  refine Pure.ofW ⟨Tryd.f17, Tryd.func17, rfl, by kernel_rfl⟩ (outV_under _) (fun h hsc => ?_)
  refine acalls_of te_ok [] Tryd.func17 (c := _) rfl (Nat.le_of_ble_eq_true rfl) ?_
  simp only [awset0, awset1, awset2, awset3, awset4, awset5, ne_eq, eq_self, implies_true, imp_self, retR, atup, aresL, ares1, gval, inLz, boxR, buildR, noDead, AV.isDead, acmpnil, appR, appBox, storeB, abin, aint, astr, aun, abuild, afill, fieldPlaces, alit, aindexAddr, aindex, aslice, bnd, cutTag, amin, amax, aappend, appendTo, aelems, aconv, aiface, agetField, reduceIte, reduceCtorEq, Nat.reduceAdd, Nat.reduceLT, Nat.reduceLeDiff, Nat.reduceEqDiff, Nat.reduceSub, Nat.reduceMul, Nat.reduceBEq, Int.reduceBEq, Int.reduceBNe, Int.reduceLT, Int.reduceLE, Int.reduceGT, Int.reduceGE, Int.reduceNeg, Int.reduceEq, Int.reduceNe, Int.reduceToNat, Int.reduceAdd, cls, fl, teset, Tryd.ntmps17, Tryd.results17, boxR, inj_take, inj_drop, inj_agg, inj_len, inj_one, List.length_map]
  refine ⟨fun n s' h' => ∃ (j : Nat) (cur : V), s' 2 = .ptr h.nb 0 ∧ s' 4 = .ptr (h.nb + 1) 0 ∧ s' 10 = .sl .ro 2 (p.map injS) ∧ s' 11 = .int .i64 p.length ∧ s' 12 = .int .i64 j ∧ n + j = p.length ∧ h.Ext h' ∧ Scoped h' ∧ h.nb + 2 ≤ h'.nb ∧ h'.box h.nb = some (inj cur).cells ∧ h'.box (h.nb + 1) = some [.int .i64 0, .int .i64 0, .str ⟨#[]⟩, .sl .full 0 [], .sl .full 0 []] ∧ Vok cur ∧ atS cur (p.drop j) = atS v p, ⟨p.length, 0, v, ?_⟩, ?_⟩
  · simp only [awset0, awset1, awset2, awset3, awset4, awset5, ne_eq, eq_self, implies_true, imp_self, retR, atup, aresL, ares1, gval, inLz, boxR, buildR, noDead, AV.isDead, acmpnil, appR, appBox, storeB, abin, aint, astr, aun, abuild, afill, fieldPlaces, alit, aindexAddr, aindex, aslice, bnd, cutTag, amin, amax, aappend, appendTo, aelems, aconv, aiface, agetField, reduceIte, reduceCtorEq, Nat.reduceAdd, Nat.reduceLT, Nat.reduceLeDiff, Nat.reduceEqDiff, Nat.reduceSub, Nat.reduceMul, Nat.reduceBEq, Int.reduceBEq, Int.reduceBNe, Int.reduceLT, Int.reduceLE, Int.reduceGT, Int.reduceGE, Int.reduceNeg, Int.reduceEq, Int.reduceNe, Int.reduceToNat, Int.reduceAdd, cls, fl, teset, Int.natCast_zero]
    exact ⟨by (repeat (first | exact AH.Ext.refl _ | assumption | refine AH.Ext.set ?_ (by first | omega | (simp only [new_nb, set_nb, kill_nb, newTok_nb, setTok_nb]; omega)) _ | refine AH.Ext.new ?_ _)), (hsc.new _).new _, Nat.le_refl _, hv⟩
  · rintro n s' h' ⟨j, cur, e2, e4, e10, e11, e12, hn, hext, hsc', hnb, eb, ez, hcur, hat⟩
    have ne1 : (h.nb = h'.nb) = False := by simp only [eq_iff_iff, iff_false]; omega
    have ne2 : (h.nb + 1 = h'.nb) = False := by simp only [eq_iff_iff, iff_false]; omega
    have ne3 : (h'.nb = h.nb) = False := by simp only [eq_iff_iff, iff_false]; omega
    have ne4 : (h'.nb = h.nb + 1) = False := by simp only [eq_iff_iff, iff_false]; omega
    simp only [awset0, awset1, awset2, awset3, awset4, awset5, ne_eq, eq_self, implies_true, imp_self, retR, atup, aresL, ares1, gval, inLz, boxR, buildR, noDead, AV.isDead, acmpnil, appR, appBox, storeB, abin, aint, astr, aun, abuild, afill, fieldPlaces, alit, aindexAddr, aindex, aslice, bnd, cutTag, amin, amax, aappend, appendTo, aelems, aconv, aiface, agetField, reduceIte, reduceCtorEq, Nat.reduceAdd, Nat.reduceLT, Nat.reduceLeDiff, Nat.reduceEqDiff, Nat.reduceSub, Nat.reduceMul, Nat.reduceBEq, Int.reduceBEq, Int.reduceBNe, Int.reduceLT, Int.reduceLE, Int.reduceGT, Int.reduceGE, Int.reduceNeg, Int.reduceEq, Int.reduceNe, Int.reduceToNat, Int.reduceAdd, cls, fl, teset, e2, e4, e10, e11, e12, eb, ez, inj_take, inj_drop, inj_agg, inj_len, inj_one, List.length_map]
    cases hc : decide ((j : Int) < (p.length : Int)) with
    | false =>
      simp only [awset0, awset1, awset2, awset3, awset4, awset5, ne_eq, eq_self, implies_true, imp_self, retR, atup, aresL, ares1, gval, inLz, boxR, buildR, noDead, AV.isDead, acmpnil, appR, appBox, storeB, abin, aint, astr, aun, abuild, afill, fieldPlaces, alit, aindexAddr, aindex, aslice, bnd, cutTag, amin, amax, aappend, appendTo, aelems, aconv, aiface, agetField, reduceIte, reduceCtorEq, Nat.reduceAdd, Nat.reduceLT, Nat.reduceLeDiff, Nat.reduceEqDiff, Nat.reduceSub, Nat.reduceMul, Nat.reduceBEq, Int.reduceBEq, Int.reduceBNe, Int.reduceLT, Int.reduceLE, Int.reduceGT, Int.reduceGE, Int.reduceNeg, Int.reduceEq, Int.reduceNe, Int.reduceToNat, Int.reduceAdd, cls, fl, teset, e2, e4, e10, e11, e12, eb, ez, inj_take, inj_drop, inj_agg, inj_len, inj_one, List.length_map]
      simp only [decide_eq_false_iff_not] at hc
      refine ⟨by (repeat (first | exact AH.Ext.refl _ | assumption | refine AH.Ext.set ?_ (by first | omega | (simp only [new_nb, set_nb, kill_nb, newTok_nb, setTok_nb]; omega)) _ | refine AH.Ext.new ?_ _)), _, rfl, ?_⟩
      rw [← hat, List.drop_eq_nil_of_le (by omega)]
      exact .refl _
    | true =>
      simp only [decide_eq_true_eq] at hc
      have hj : j < p.length := by omega
      obtain ⟨s, hs⟩ : ∃ s, p[j]? = some s := ⟨p[j], by simp [hj]⟩
      have hget : (p.map injS)[((j : Nat) : Int).toNat]? = some (.agg [.int .i64 s.index, .str s.key]) := by rw [Int.toNat_natCast, List.getElem?_map, hs]; rfl
      rw [List.drop_eq_getElem_cons hj, atS] at hat
      have hpj : p[j] = s := by rw [List.getElem?_eq_getElem hj] at hs; injection hs
      rw [hpj, itemP_spec hcur s] at hat
      have hitem := pitem_pure hcur s
      have hmem := fun x (hx : itemS cur s = some x) => itemS_mem hx
      rw [itemP_spec hcur s] at hmem
      have hin := itemP_in hcur s
      generalize itemP cur s = r at *
      obtain ⟨pos, ok⟩ := r
      obtain ⟨k, i, t, xs, ks⟩ := cur
      rw [inj_mk] at eb hitem
      simp only [AV.cells] at eb
      simp only [V.items] at hat hmem hin
      simp only [awset0, awset1, awset2, awset3, awset4, awset5, ne_eq, eq_self, implies_true, imp_self, retR, atup, aresL, ares1, gval, inLz, boxR, buildR, noDead, AV.isDead, acmpnil, appR, appBox, storeB, abin, aint, astr, aun, abuild, afill, fieldPlaces, alit, aindexAddr, aindex, aslice, bnd, cutTag, amin, amax, aappend, appendTo, aelems, aconv, aiface, agetField, reduceIte, reduceCtorEq, Nat.reduceAdd, Nat.reduceLT, Nat.reduceLeDiff, Nat.reduceEqDiff, Nat.reduceSub, Nat.reduceMul, Nat.reduceBEq, Int.reduceBEq, Int.reduceBNe, Int.reduceLT, Int.reduceLE, Int.reduceGT, Int.reduceGE, Int.reduceNeg, Int.reduceEq, Int.reduceNe, Int.reduceToNat, Int.reduceAdd, cls, fl, teset, e2, e4, e10, e11, e12, eb, ez, inj_take, inj_drop, inj_agg, inj_len, inj_one, List.length_map, hget, Int.natCast_nonneg, ne1, ne2, ne3, ne4]
      refine ACallV.pure hitem ?_
      cases ok with
      | false =>
        simp only [awset0, awset1, awset2, awset3, awset4, awset5, ne_eq, eq_self, implies_true, imp_self, retR, atup, aresL, ares1, gval, inLz, boxR, buildR, noDead, AV.isDead, acmpnil, appR, appBox, storeB, abin, aint, astr, aun, abuild, afill, fieldPlaces, alit, aindexAddr, aindex, aslice, bnd, cutTag, amin, amax, aappend, appendTo, aelems, aconv, aiface, agetField, reduceIte, reduceCtorEq, Nat.reduceAdd, Nat.reduceLT, Nat.reduceLeDiff, Nat.reduceEqDiff, Nat.reduceSub, Nat.reduceMul, Nat.reduceBEq, Int.reduceBEq, Int.reduceBNe, Int.reduceLT, Int.reduceLE, Int.reduceGT, Int.reduceGE, Int.reduceNeg, Int.reduceEq, Int.reduceNe, Int.reduceToNat, Int.reduceAdd, cls, fl, teset, e2, e4, e10, e11, e12, eb, ez, inj_take, inj_drop, inj_agg, inj_len, inj_one, List.length_map, ne1, ne2, ne3, ne4]
        refine ⟨by (repeat (first | exact AH.Ext.refl _ | assumption | refine AH.Ext.set ?_ (by first | omega | (simp only [new_nb, set_nb, kill_nb, newTok_nb, setTok_nb]; omega)) _ | refine AH.Ext.new ?_ _)), _, rfl, ?_⟩
        simp at hat
        rw [← hat]
        exact wk_none
      | true =>
        simp only [if_true] at hat hmem
        obtain ⟨hp0, hpl⟩ := hin rfl
        have hxs : xs[pos.toNat]? = some xs[pos.toNat] := List.getElem?_eq_getElem hpl
        have hget2 : (xs.map inj)[pos.toNat]? = some (inj xs[pos.toNat]) := by rw [List.getElem?_map, hxs]; rfl
        simp only [awset0, awset1, awset2, awset3, awset4, awset5, ne_eq, eq_self, implies_true, imp_self, retR, atup, aresL, ares1, gval, inLz, boxR, buildR, noDead, AV.isDead, acmpnil, appR, appBox, storeB, abin, aint, astr, aun, abuild, afill, fieldPlaces, alit, aindexAddr, aindex, aslice, bnd, cutTag, amin, amax, aappend, appendTo, aelems, aconv, aiface, agetField, reduceIte, reduceCtorEq, Nat.reduceAdd, Nat.reduceLT, Nat.reduceLeDiff, Nat.reduceEqDiff, Nat.reduceSub, Nat.reduceMul, Nat.reduceBEq, Int.reduceBEq, Int.reduceBNe, Int.reduceLT, Int.reduceLE, Int.reduceGT, Int.reduceGE, Int.reduceNeg, Int.reduceEq, Int.reduceNe, Int.reduceToNat, Int.reduceAdd, cls, fl, teset, e2, e4, e10, e11, e12, eb, ez, inj_take, inj_drop, inj_agg, inj_len, inj_one, List.length_map, hget2, hp0, ne1, ne2, ne3, ne4]
        rw [hxs, Option.bind_some] at hat
        exact ⟨n - 1, by omega, j + 1, xs[pos.toNat], by rw [wrap_succ (by omega)], by omega, by (repeat (first | exact AH.Ext.refl _ | assumption | refine AH.Ext.set ?_ (by first | omega | (simp only [new_nb, set_nb, kill_nb, newTok_nb, setTok_nb]; omega)) _ | refine AH.Ext.new ?_ _)), by (repeat (first | assumption | refine Scoped.set ?_ (by first | omega | (simp only [new_nb, set_nb, kill_nb, newTok_nb, setTok_nb]; omega)) _ | refine Scoped.new ?_ _)), by omega, rfl, hcur.items _ (hmem _ hxs), hat⟩
end Go.Proofs.YtjdocenbfghglaaDoor.AW
