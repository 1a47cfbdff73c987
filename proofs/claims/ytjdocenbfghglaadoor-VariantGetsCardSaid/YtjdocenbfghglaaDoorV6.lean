/- V, part 6: the reference's At and Get. -/
import Derived.Test.YtjdocenbfghglaaDoorV5
set_option linter.unusedSimpArgs false
set_option linter.unusedVariables false
namespace Go.Proofs.YtjdocenbfghglaaDoor.AW
open Go Go.RowKit

def Vok (v : V) : Prop := ∃ L, nodesS L v ≤ 60
theorem nodesF_all (f : V → Nat) : ∀ (xs : List V) (n : Nat), nodesF f n xs ≤ 60 → ∀ x ∈ xs, f x ≤ 60 := by
  intro xs
  induction xs with
  | nil => intro n _ x hx; cases hx
  | cons y xs ih =>
    intro n h x hx
    simp only [nodesF] at h
    split at h
    · omega
    · rcases List.mem_cons.1 hx with rfl | hx
      · omega
      · exact ih _ h x hx
theorem Vok.items {v : V} (h : Vok v) : ∀ x ∈ v.items, Vok x := by
  obtain ⟨L, h⟩ := h
  cases L with
  | zero => simp [nodesS] at h
  | succ L =>
    simp only [nodesS] at h
    split at h
    · omega
    · split at h
      · exact fun x hx => ⟨L, nodesF_all _ _ _ h x hx⟩
      · omega
theorem Vok.shape {v : V} (h : Vok v) : shape v = true ∧ v.items.length ≤ 60 := by
  obtain ⟨L, h⟩ := h
  cases L with
  | zero => simp [nodesS] at h
  | succ L =>
    simp only [nodesS] at h
    split at h
    · omega
    · next hl =>
      split at h
      · next hs => exact ⟨hs, by omega⟩
      · omega
theorem shape_keys {v : V} (h : shape v = true) : (v.kind = 5 → v.keys.length = v.items.length) ∧ (v.kind ≠ 5 → v.keys.length = 0) := by
  obtain ⟨k, i, t, xs, ks⟩ := v
  simp only [V.kind, V.keys, V.items]
  refine ⟨fun hk => ?_, fun hk => ?_⟩
  · subst hk; rw [shape_5] at h; simp at h; exact h.1.2
  · by_cases h0 : k = 0
    · subst h0; rw [shape_0] at h; simp [plainS, V.keys] at h; simp [h.2]
    by_cases h1 : k = 1
    · subst h1; rw [shape_1] at h; simp [plainS, V.keys] at h; simp [h.1.2]
    by_cases h2 : k = 2
    · subst h2; rw [shape_2] at h; simp [plainS, V.keys] at h; simp [h.1.2]
    by_cases h3 : k = 3
    · subst h3; rw [shape_3] at h; simp [plainS, V.keys] at h; simp [h.1.2]
    by_cases h4 : k = 4
    · subst h4; rw [shape_4] at h; simp [plainS, V.keys] at h; simp [h.2]
    · rw [shape_x _ _ _ _ h0 h1 h2 h3 h4 hk] at h; cases h
theorem Vok.keys {v : V} (h : Vok v) : (v.kind = 5 → v.keys.length = v.items.length) ∧ v.keys.length ≤ 60 := by
  obtain ⟨h1, h2⟩ := h.shape
  obtain ⟨h3, h4⟩ := shape_keys h1
  refine ⟨h3, ?_⟩
  by_cases h5 : v.kind = 5
  · rw [h3 h5]; exact h2
  · rw [h4 h5]; omega
theorem itemS_mem {v : V} {s : Stp} {x : V} (h : itemS v s = some x) : x ∈ v.items := by
  unfold itemS at h
  split at h
  · split at h
    · exact List.mem_of_getElem? h
    · cases h
  · split at h
    · obtain ⟨i, _, hi⟩ := Option.bind_eq_some_iff.1 h
      exact List.mem_of_getElem? hi
    · cases h
def atS : V → List Stp → Option V
  | v, [] => some v
  | v, s :: p => (itemS v s).bind fun x => atS x p
theorem refitem_pure {v : V} (hv : Vok v) (s : Stp) : Pure Tryd.prog 40 [inj v, .agg [.int .i64 s.index, .str s.key]] (outV (itemS v s)) :=
  item_pure v s hv.keys.1 (by have := hv.keys.2; omega)

theorem refat_pure (v : V) (p : List Stp) (hv : Vok v) (hp : p.length < 4611686018427387904) : Pure Tryd.prog 19 [inj v, .sl .ro 2 (p.map injS)] (outV (atS v p)) := by
  refine Pure.ofW ⟨Tryd.f19, Tryd.func19, rfl, by kernel_rfl⟩ (outV_under _) (fun h hsc => ?_)
  refine acalls_of te_ok [] Tryd.func19 (c := _) rfl (Nat.le_of_ble_eq_true rfl) ?_
  simp only [awset0, awset1, awset2, awset3, awset4, awset5, ne_eq, eq_self, implies_true, imp_self, retR, atup, aresL, ares1, gval, inLz, boxR, buildR, noDead, AV.isDead, acmpnil, appR, appBox, storeB, abin, aint, astr, aun, abuild, afill, fieldPlaces, alit, aindexAddr, aindex, aslice, bnd, cutTag, amin, amax, aappend, appendTo, aelems, aconv, aiface, agetField, reduceIte, reduceCtorEq, Nat.reduceAdd, Nat.reduceLT, Nat.reduceLeDiff, Nat.reduceEqDiff, Nat.reduceSub, Nat.reduceMul, Nat.reduceBEq, Int.reduceBEq, Int.reduceBNe, Int.reduceLT, Int.reduceLE, Int.reduceGT, Int.reduceGE, Int.reduceNeg, Int.reduceEq, Int.reduceNe, Int.reduceToNat, Int.reduceAdd, cls, fl, teset, Tryd.ntmps19, Tryd.results19, boxR, inj_one, inj_len]
  refine ⟨fun n s' h' => ∃ (j : Nat) (cur : V), s' 1 = .sl .ro 2 (p.map injS) ∧ s' 2 = .ptr h.nb 0 ∧ s' 4 = .ptr (h.nb + 1) 0 ∧ s' 6 = .int .i64 j ∧ n + j = p.length ∧ h.Ext h' ∧ Scoped h' ∧ h.nb + 2 ≤ h'.nb ∧ h'.box h.nb = some (inj cur).cells ∧ h'.box (h.nb + 1) = some [.int .i64 0, .int .i64 0, .str ⟨#[]⟩, .sl .full 0 [], .sl .full 0 []] ∧ Vok cur ∧ atS cur (p.drop j) = atS v p, ⟨p.length, 0, v, ?_⟩, ?_⟩
  · simp only [awset0, awset1, awset2, awset3, awset4, awset5, ne_eq, eq_self, implies_true, imp_self, retR, atup, aresL, ares1, gval, inLz, boxR, buildR, noDead, AV.isDead, acmpnil, appR, appBox, storeB, abin, aint, astr, aun, abuild, afill, fieldPlaces, alit, aindexAddr, aindex, aslice, bnd, cutTag, amin, amax, aappend, appendTo, aelems, aconv, aiface, agetField, reduceIte, reduceCtorEq, Nat.reduceAdd, Nat.reduceLT, Nat.reduceLeDiff, Nat.reduceEqDiff, Nat.reduceSub, Nat.reduceMul, Nat.reduceBEq, Int.reduceBEq, Int.reduceBNe, Int.reduceLT, Int.reduceLE, Int.reduceGT, Int.reduceGE, Int.reduceNeg, Int.reduceEq, Int.reduceNe, Int.reduceToNat, Int.reduceAdd, cls, fl, teset, Int.natCast_zero]
    exact ⟨by (repeat (first | exact AH.Ext.refl _ | assumption | refine AH.Ext.set ?_ (by first | omega | (simp only [new_nb, set_nb, kill_nb, newTok_nb, setTok_nb]; omega)) _ | refine AH.Ext.new ?_ _)), (hsc.new _).new _, Nat.le_refl _, hv⟩
  · rintro n s' h' ⟨j, cur, e1, e2, e4, e6, hn, hext, hsc', hnb, eb, ez, hcur, hat⟩
    have ne1 : (h.nb = h'.nb) = False := by simp only [eq_iff_iff, iff_false]; omega
    have ne2 : (h.nb + 1 = h'.nb) = False := by simp only [eq_iff_iff, iff_false]; omega
    have ne3 : (h'.nb = h.nb) = False := by simp only [eq_iff_iff, iff_false]; omega
    have ne4 : (h'.nb = h.nb + 1) = False := by simp only [eq_iff_iff, iff_false]; omega
    simp only [awset0, awset1, awset2, awset3, awset4, awset5, ne_eq, eq_self, implies_true, imp_self, retR, atup, aresL, ares1, gval, inLz, boxR, buildR, noDead, AV.isDead, acmpnil, appR, appBox, storeB, abin, aint, astr, aun, abuild, afill, fieldPlaces, alit, aindexAddr, aindex, aslice, bnd, cutTag, amin, amax, aappend, appendTo, aelems, aconv, aiface, agetField, reduceIte, reduceCtorEq, Nat.reduceAdd, Nat.reduceLT, Nat.reduceLeDiff, Nat.reduceEqDiff, Nat.reduceSub, Nat.reduceMul, Nat.reduceBEq, Int.reduceBEq, Int.reduceBNe, Int.reduceLT, Int.reduceLE, Int.reduceGT, Int.reduceGE, Int.reduceNeg, Int.reduceEq, Int.reduceNe, Int.reduceToNat, Int.reduceAdd, cls, fl, teset, e1, e2, e4, e6, eb, ez, inj_take, inj_drop, inj_agg, inj_len, inj_one, List.length_map]
    cases hc : decide ((j : Int) < (p.length : Int)) with
    | false =>
      simp only [awset0, awset1, awset2, awset3, awset4, awset5, ne_eq, eq_self, implies_true, imp_self, retR, atup, aresL, ares1, gval, inLz, boxR, buildR, noDead, AV.isDead, acmpnil, appR, appBox, storeB, abin, aint, astr, aun, abuild, afill, fieldPlaces, alit, aindexAddr, aindex, aslice, bnd, cutTag, amin, amax, aappend, appendTo, aelems, aconv, aiface, agetField, reduceIte, reduceCtorEq, Nat.reduceAdd, Nat.reduceLT, Nat.reduceLeDiff, Nat.reduceEqDiff, Nat.reduceSub, Nat.reduceMul, Nat.reduceBEq, Int.reduceBEq, Int.reduceBNe, Int.reduceLT, Int.reduceLE, Int.reduceGT, Int.reduceGE, Int.reduceNeg, Int.reduceEq, Int.reduceNe, Int.reduceToNat, Int.reduceAdd, cls, fl, teset, e1, e2, e4, e6, eb, ez, inj_take, inj_drop, inj_agg, inj_len, inj_one, List.length_map]
      simp only [decide_eq_false_iff_not] at hc
      refine ⟨by (repeat (first | exact AH.Ext.refl _ | assumption | refine AH.Ext.set ?_ (by first | omega | (simp only [new_nb, set_nb, kill_nb, newTok_nb, setTok_nb]; omega)) _ | refine AH.Ext.new ?_ _)), _, rfl, ?_⟩
      rw [← hat, List.drop_eq_nil_of_le (by omega)]
      exact .refl _
    | true =>
      simp only [decide_eq_true_eq] at hc
      have hj : j < p.length := by omega
      obtain ⟨s, hs⟩ : ∃ s, p[j]? = some s := ⟨p[j], by simp [hj]⟩
      have hget : (p.map injS)[((j : Nat) : Int).toNat]? = some (.agg [.int .i64 s.index, .str s.key]) := by rw [Int.toNat_natCast, List.getElem?_map, hs]; rfl
      simp only [awset0, awset1, awset2, awset3, awset4, awset5, ne_eq, eq_self, implies_true, imp_self, retR, atup, aresL, ares1, gval, inLz, boxR, buildR, noDead, AV.isDead, acmpnil, appR, appBox, storeB, abin, aint, astr, aun, abuild, afill, fieldPlaces, alit, aindexAddr, aindex, aslice, bnd, cutTag, amin, amax, aappend, appendTo, aelems, aconv, aiface, agetField, reduceIte, reduceCtorEq, Nat.reduceAdd, Nat.reduceLT, Nat.reduceLeDiff, Nat.reduceEqDiff, Nat.reduceSub, Nat.reduceMul, Nat.reduceBEq, Int.reduceBEq, Int.reduceBNe, Int.reduceLT, Int.reduceLE, Int.reduceGT, Int.reduceGE, Int.reduceNeg, Int.reduceEq, Int.reduceNe, Int.reduceToNat, Int.reduceAdd, cls, fl, teset, e1, e2, e4, e6, eb, ez, inj_take, inj_drop, inj_agg, inj_len, inj_one, List.length_map]
      refine acode_draw_chain te_ok mixed [] (by kernel_rfl) ?_
      simp only [awset0, awset1, awset2, awset3, awset4, awset5, ne_eq, eq_self, implies_true, imp_self, retR, atup, aresL, ares1, gval, inLz, boxR, buildR, noDead, AV.isDead, acmpnil, appR, appBox, storeB, abin, aint, astr, aun, abuild, afill, fieldPlaces, alit, aindexAddr, aindex, aslice, bnd, cutTag, amin, amax, aappend, appendTo, aelems, aconv, aiface, agetField, reduceIte, reduceCtorEq, Nat.reduceAdd, Nat.reduceLT, Nat.reduceLeDiff, Nat.reduceEqDiff, Nat.reduceSub, Nat.reduceMul, Nat.reduceBEq, Int.reduceBEq, Int.reduceBNe, Int.reduceLT, Int.reduceLE, Int.reduceGT, Int.reduceGE, Int.reduceNeg, Int.reduceEq, Int.reduceNe, Int.reduceToNat, Int.reduceAdd, cls, fl, teset, e1, e2, e4, e6, eb, ez, inj_take, inj_drop, inj_agg, inj_len, inj_one, List.length_map, hget, Int.natCast_nonneg]
      refine skR_pure (refitem_pure hcur s) ?_
      rw [List.drop_eq_getElem_cons hj, atS] at hat
      have hpj : p[j] = s := by rw [List.getElem?_eq_getElem hj] at hs; injection hs
      rw [hpj] at hat
      cases hi : itemS cur s with
      | none =>
        simp only [awset0, awset1, awset2, awset3, awset4, awset5, ne_eq, eq_self, implies_true, imp_self, retR, atup, aresL, ares1, gval, inLz, boxR, buildR, noDead, AV.isDead, acmpnil, appR, appBox, storeB, abin, aint, astr, aun, abuild, afill, fieldPlaces, alit, aindexAddr, aindex, aslice, bnd, cutTag, amin, amax, aappend, appendTo, aelems, aconv, aiface, agetField, reduceIte, reduceCtorEq, Nat.reduceAdd, Nat.reduceLT, Nat.reduceLeDiff, Nat.reduceEqDiff, Nat.reduceSub, Nat.reduceMul, Nat.reduceBEq, Int.reduceBEq, Int.reduceBNe, Int.reduceLT, Int.reduceLE, Int.reduceGT, Int.reduceGE, Int.reduceNeg, Int.reduceEq, Int.reduceNe, Int.reduceToNat, Int.reduceAdd, cls, fl, teset, outV_n, outV_s, e1, e2, e4, e6, eb, ez, inj_take, inj_drop, inj_agg, inj_len, inj_one, List.length_map, ne1, ne2, ne3, ne4, hsc'.none]
        refine ⟨by (repeat (first | exact AH.Ext.refl _ | assumption | refine AH.Ext.set ?_ (by first | omega | (simp only [new_nb, set_nb, kill_nb, newTok_nb, setTok_nb]; omega)) _ | refine AH.Ext.new ?_ _)), _, rfl, ?_⟩
        rw [← hat, hi]
        exact wk_none
      | some x =>
        simp only [awset0, awset1, awset2, awset3, awset4, awset5, ne_eq, eq_self, implies_true, imp_self, retR, atup, aresL, ares1, gval, inLz, boxR, buildR, noDead, AV.isDead, acmpnil, appR, appBox, storeB, abin, aint, astr, aun, abuild, afill, fieldPlaces, alit, aindexAddr, aindex, aslice, bnd, cutTag, amin, amax, aappend, appendTo, aelems, aconv, aiface, agetField, reduceIte, reduceCtorEq, Nat.reduceAdd, Nat.reduceLT, Nat.reduceLeDiff, Nat.reduceEqDiff, Nat.reduceSub, Nat.reduceMul, Nat.reduceBEq, Int.reduceBEq, Int.reduceBNe, Int.reduceLT, Int.reduceLE, Int.reduceGT, Int.reduceGE, Int.reduceNeg, Int.reduceEq, Int.reduceNe, Int.reduceToNat, Int.reduceAdd, cls, fl, teset, outV_n, outV_s, e1, e2, e4, e6, eb, ez, inj_take, inj_drop, inj_agg, inj_len, inj_one, List.length_map, ne1, ne2, ne3, ne4, hsc'.none]
        rw [hi] at hat
        exact ⟨n - 1, by omega, j + 1, x, by rw [wrap_succ (by omega)], by omega, by (repeat (first | exact AH.Ext.refl _ | assumption | refine AH.Ext.set ?_ (by first | omega | (simp only [new_nb, set_nb, kill_nb, newTok_nb, setTok_nb]; omega)) _ | refine AH.Ext.new ?_ _)), by (repeat (first | assumption | refine Scoped.set ?_ (by first | omega | (simp only [new_nb, set_nb, kill_nb, newTok_nb, setTok_nb]; omega)) _ | refine Scoped.new ?_ _)), by omega, rfl, hcur.items x (itemS_mem hi), hat⟩

theorem outV_wk (o : Option V) : ∃ x b, outV o = .tup [x, b] := by cases o <;> exact ⟨_, _, rfl⟩
/-- What Get gives. -/
def getV (v : V) (p : List Stp) : AV := if valid v && pathOk p then (match atS v p with | some x => .tup [inj x, .bool true, .int .i64 0] | none => .tup [inj zeroV, .bool false, .int .i64 0]) else .tup [inj zeroV, .bool false, .int .i64 1]
theorem getV_under (v : V) (p : List Stp) : (getV v p).under 0 0 = true := by
  unfold getV
  split
  · split <;> simp [AV.under, AV.underL, inj_under]
  · simp [AV.under, AV.underL, inj_under]
theorem refget_pure (v : V) (p : List Stp) : Pure Tryd.prog 7 [inj v, .sl .ro 2 (p.map injS)] (getV v p) := by
  refine Pure.ofW ⟨Tryd.f7, Tryd.func7, rfl, by kernel_rfl⟩ (getV_under _ _) (fun h hsc => ?_)
  refine acalls_of te_ok [] Tryd.func7 (c := _) rfl (Nat.le_of_ble_eq_true rfl) ?_
  simp only [awset0, awset1, awset2, awset3, awset4, awset5, ne_eq, eq_self, implies_true, imp_self, retR, atup, aresL, ares1, gval, inLz, boxR, buildR, noDead, AV.isDead, acmpnil, appR, appBox, storeB, abin, aint, astr, aun, abuild, afill, fieldPlaces, alit, aindexAddr, aindex, aslice, bnd, cutTag, amin, amax, aappend, appendTo, aelems, aconv, aiface, agetField, reduceIte, reduceCtorEq, Nat.reduceAdd, Nat.reduceLT, Nat.reduceLeDiff, Nat.reduceEqDiff, Nat.reduceSub, Nat.reduceMul, Nat.reduceBEq, Int.reduceBEq, Int.reduceBNe, Int.reduceLT, Int.reduceLE, Int.reduceGT, Int.reduceGE, Int.reduceNeg, Int.reduceEq, Int.reduceNe, Int.reduceToNat, Int.reduceAdd, cls, fl, teset, Tryd.ntmps7, Tryd.results7, inj_take, inj_drop, inj_agg, inj_len, inj_one, List.length_map, boxR]
  refine ACallV.pure (refvalid_pure v) ?_
  cases hv : valid v with
  | false =>
    simp only [awset0, awset1, awset2, awset3, awset4, awset5, ne_eq, eq_self, implies_true, imp_self, retR, atup, aresL, ares1, gval, inLz, boxR, buildR, noDead, AV.isDead, acmpnil, appR, appBox, storeB, abin, aint, astr, aun, abuild, afill, fieldPlaces, alit, aindexAddr, aindex, aslice, bnd, cutTag, amin, amax, aappend, appendTo, aelems, aconv, aiface, agetField, reduceIte, reduceCtorEq, Nat.reduceAdd, Nat.reduceLT, Nat.reduceLeDiff, Nat.reduceEqDiff, Nat.reduceSub, Nat.reduceMul, Nat.reduceBEq, Int.reduceBEq, Int.reduceBNe, Int.reduceLT, Int.reduceLE, Int.reduceGT, Int.reduceGE, Int.reduceNeg, Int.reduceEq, Int.reduceNe, Int.reduceToNat, Int.reduceAdd, cls, fl, teset, inj_take, inj_drop, inj_agg, inj_len, inj_one, List.length_map]
    refine ⟨by (repeat (first | exact AH.Ext.refl _ | assumption | refine AH.Ext.set ?_ (by first | omega | (simp only [new_nb, set_nb, kill_nb, newTok_nb, setTok_nb]; omega)) _ | refine AH.Ext.new ?_ _)), _, rfl, ?_⟩
    unfold getV; rw [hv]
    exact (WkAll.cons wk_zero (.cons (.refl _) (.cons (.refl _) .nil))).tup
  | true =>
    simp only [awset0, awset1, awset2, awset3, awset4, awset5, ne_eq, eq_self, implies_true, imp_self, retR, atup, aresL, ares1, gval, inLz, boxR, buildR, noDead, AV.isDead, acmpnil, appR, appBox, storeB, abin, aint, astr, aun, abuild, afill, fieldPlaces, alit, aindexAddr, aindex, aslice, bnd, cutTag, amin, amax, aappend, appendTo, aelems, aconv, aiface, agetField, reduceIte, reduceCtorEq, Nat.reduceAdd, Nat.reduceLT, Nat.reduceLeDiff, Nat.reduceEqDiff, Nat.reduceSub, Nat.reduceMul, Nat.reduceBEq, Int.reduceBEq, Int.reduceBNe, Int.reduceLT, Int.reduceLE, Int.reduceGT, Int.reduceGE, Int.reduceNeg, Int.reduceEq, Int.reduceNe, Int.reduceToNat, Int.reduceAdd, cls, fl, teset, inj_take, inj_drop, inj_agg, inj_len, inj_one, List.length_map]
    refine ACallV.pure (refpath_pure p) ?_
    cases hp : pathOk p with
    | false =>
      simp only [awset0, awset1, awset2, awset3, awset4, awset5, ne_eq, eq_self, implies_true, imp_self, retR, atup, aresL, ares1, gval, inLz, boxR, buildR, noDead, AV.isDead, acmpnil, appR, appBox, storeB, abin, aint, astr, aun, abuild, afill, fieldPlaces, alit, aindexAddr, aindex, aslice, bnd, cutTag, amin, amax, aappend, appendTo, aelems, aconv, aiface, agetField, reduceIte, reduceCtorEq, Nat.reduceAdd, Nat.reduceLT, Nat.reduceLeDiff, Nat.reduceEqDiff, Nat.reduceSub, Nat.reduceMul, Nat.reduceBEq, Int.reduceBEq, Int.reduceBNe, Int.reduceLT, Int.reduceLE, Int.reduceGT, Int.reduceGE, Int.reduceNeg, Int.reduceEq, Int.reduceNe, Int.reduceToNat, Int.reduceAdd, cls, fl, teset, inj_take, inj_drop, inj_agg, inj_len, inj_one, List.length_map]
      refine ⟨by (repeat (first | exact AH.Ext.refl _ | assumption | refine AH.Ext.set ?_ (by first | omega | (simp only [new_nb, set_nb, kill_nb, newTok_nb, setTok_nb]; omega)) _ | refine AH.Ext.new ?_ _)), _, rfl, ?_⟩
      unfold getV; rw [hv, hp]
      exact (WkAll.cons wk_zero (.cons (.refl _) (.cons (.refl _) .nil))).tup
    | true =>
      simp only [awset0, awset1, awset2, awset3, awset4, awset5, ne_eq, eq_self, implies_true, imp_self, retR, atup, aresL, ares1, gval, inLz, boxR, buildR, noDead, AV.isDead, acmpnil, appR, appBox, storeB, abin, aint, astr, aun, abuild, afill, fieldPlaces, alit, aindexAddr, aindex, aslice, bnd, cutTag, amin, amax, aappend, appendTo, aelems, aconv, aiface, agetField, reduceIte, reduceCtorEq, Nat.reduceAdd, Nat.reduceLT, Nat.reduceLeDiff, Nat.reduceEqDiff, Nat.reduceSub, Nat.reduceMul, Nat.reduceBEq, Int.reduceBEq, Int.reduceBNe, Int.reduceLT, Int.reduceLE, Int.reduceGT, Int.reduceGE, Int.reduceNeg, Int.reduceEq, Int.reduceNe, Int.reduceToNat, Int.reduceAdd, cls, fl, teset, inj_take, inj_drop, inj_agg, inj_len, inj_one, List.length_map]
      have hvk : Vok v := ⟨6, by simpa [valid] using hv⟩
      have hpl : p.length ≤ 6 := by simp [pathOk] at hp; exact hp.1
      refine ACallV.pure (refat_pure v p hvk (by omega)) ?_
      have hg : getV v p = (match atS v p with | some x => .tup [inj x, .bool true, .int .i64 0] | none => .tup [inj zeroV, .bool false, .int .i64 0]) := by unfold getV; rw [hv, hp]; rfl
      rw [hg]
      cases ha : atS v p with
      | none => simp only [awset0, awset1, awset2, awset3, awset4, awset5, ne_eq, eq_self, implies_true, imp_self, retR, atup, aresL, ares1, gval, inLz, boxR, buildR, noDead, AV.isDead, acmpnil, appR, appBox, storeB, abin, aint, astr, aun, abuild, afill, fieldPlaces, alit, aindexAddr, aindex, aslice, bnd, cutTag, amin, amax, aappend, appendTo, aelems, aconv, aiface, agetField, reduceIte, reduceCtorEq, Nat.reduceAdd, Nat.reduceLT, Nat.reduceLeDiff, Nat.reduceEqDiff, Nat.reduceSub, Nat.reduceMul, Nat.reduceBEq, Int.reduceBEq, Int.reduceBNe, Int.reduceLT, Int.reduceLE, Int.reduceGT, Int.reduceGE, Int.reduceNeg, Int.reduceEq, Int.reduceNe, Int.reduceToNat, Int.reduceAdd, cls, fl, teset, outV_n, outV_s, inj_take, inj_drop, inj_agg, inj_len, inj_one, List.length_map]; exact ⟨by (repeat (first | exact AH.Ext.refl _ | assumption | refine AH.Ext.set ?_ (by first | omega | (simp only [new_nb, set_nb, kill_nb, newTok_nb, setTok_nb]; omega)) _ | refine AH.Ext.new ?_ _)), _, rfl, .refl _⟩
      | some x => simp only [awset0, awset1, awset2, awset3, awset4, awset5, ne_eq, eq_self, implies_true, imp_self, retR, atup, aresL, ares1, gval, inLz, boxR, buildR, noDead, AV.isDead, acmpnil, appR, appBox, storeB, abin, aint, astr, aun, abuild, afill, fieldPlaces, alit, aindexAddr, aindex, aslice, bnd, cutTag, amin, amax, aappend, appendTo, aelems, aconv, aiface, agetField, reduceIte, reduceCtorEq, Nat.reduceAdd, Nat.reduceLT, Nat.reduceLeDiff, Nat.reduceEqDiff, Nat.reduceSub, Nat.reduceMul, Nat.reduceBEq, Int.reduceBEq, Int.reduceBNe, Int.reduceLT, Int.reduceLE, Int.reduceGT, Int.reduceGE, Int.reduceNeg, Int.reduceEq, Int.reduceNe, Int.reduceToNat, Int.reduceAdd, cls, fl, teset, outV_n, outV_s, inj_take, inj_drop, inj_agg, inj_len, inj_one, List.length_map]; exact ⟨by (repeat (first | exact AH.Ext.refl _ | assumption | refine AH.Ext.set ?_ (by first | omega | (simp only [new_nb, set_nb, kill_nb, newTok_nb, setTok_nb]; omega)) _ | refine AH.Ext.new ?_ _)), _, rfl, .refl _⟩
end Go.Proofs.YtjdocenbfghglaaDoor.AW
