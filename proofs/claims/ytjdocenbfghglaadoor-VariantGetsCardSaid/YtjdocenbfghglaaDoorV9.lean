/- V, part 9: the program's item and At. -/
import Derived.Test.YtjdocenbfghglaaDoorV8
set_option linter.unusedSimpArgs false
set_option linter.unusedVariables false
namespace Go.Proofs.YtjdocenbfghglaaDoor.AW
open Go Go.RowKit

theorem found_iff {ks : List ByteArray} (ha : Asc ks) (k : ByteArray) : keyIdx ks k = if foundS ks k = true then some (lb ks k) else none := by
  have none_of : foundS ks k = false → keyIdx ks k = none := by
    intro hf
    unfold keyIdx
    rw [List.findIdx?_eq_none_iff]
    intro x hx
    obtain ⟨j, hj⟩ := List.mem_iff_getElem?.1 hx
    have hlt := (List.getElem?_eq_some_iff.1 hj).1
    have hxe : ks[j] = x := (List.getElem?_eq_some_iff.1 hj).2
    cases hm : (x.toList == k.toList) with
    | false => rfl
    | true =>
      exfalso
      have hm' : x.toList = k.toList := by simpa using hm
      have h1 : sless ks[j] k = false := by rw [hxe]; show Op.bytesLess x.toList k.toList = false; rw [hm']; exact bl_irrefl _
      have h2 := lb_ge hlt h1
      have hl : lb ks k < ks.length := by omega
      have hq : sless ks[lb ks k] k = false := by
        have h3 : (!sless ks[lb ks k] k) = true := List.findIdx_getElem (p := fun x => !sless x k) (xs := ks) (w := hl)
        simpa using h3
      have h5 : lb ks k = j := by
        rcases Nat.eq_or_lt_of_le h2 with e | e
        · exact e
        · exfalso
          have h4 := ha.lt (j - lb ks k - 1) (lb ks k) _ x (List.getElem?_eq_getElem hl) (by rw [show lb ks k + (j - lb ks k - 1) + 1 = j by omega]; exact hj)
          have h6 : sless ks[lb ks k] k = true := by
            show Op.bytesLess _ k.toList = true
            rw [← hm']; exact h4
          rw [hq] at h6; cases h6
      unfold foundS at hf
      rw [h5, hj] at hf
      simp only [hm] at hf; cases hf
  cases hf : foundS ks k with
  | false => rw [none_of hf]; rfl
  | true =>
    simp only [if_true]
    unfold foundS at hf
    split at hf
    · next x hx =>
      have hlt := (List.getElem?_eq_some_iff.1 hx).1
      have hxe : ks[lb ks k] = x := (List.getElem?_eq_some_iff.1 hx).2
      unfold keyIdx
      rw [List.findIdx?_eq_some_iff_getElem]
      refine ⟨hlt, by rw [hxe]; exact hf, fun j hj => ?_⟩
      have h1 := List.not_of_lt_findIdx (p := fun x => !sless x k) (xs := ks) (i := j) hj
      intro hq
      have h2 : sless (ks[j]'(by omega)) k = true := by simpa using h1
      have h3 : (ks[j]'(by omega)).toList = k.toList := by simpa using hq
      unfold sless at h2
      rw [h3, bl_irrefl] at h2; cases h2
    · cases hf

def itemP (v : V) (s : Stp) : Int × Bool :=
  if s.index < 0 ∧ v.kind = 5 then (lb v.keys s.key, foundS v.keys s.key)
  else if 0 ≤ s.index ∧ v.kind = 4 then (s.index, decide (s.index < (v.items.length : Int)))
  else (0, false)
theorem shape_asc {v : V} (h : shape v = true) (hk : v.kind = 5) : Asc v.keys := by
  obtain ⟨k, i, t, xs, ks⟩ := v
  simp only [V.kind] at hk
  subst hk
  rw [shape_5] at h
  simp only [Bool.and_eq_true] at h
  exact keysOk_asc h.2
theorem itemP_4 {v : V} {s : Stp} (h0 : 0 ≤ s.index) (h4 : v.kind = 4) : itemP v s = (s.index, decide (s.index < (v.items.length : Int))) := by
  unfold itemP; rw [if_neg (fun h => absurd h.1 (by omega)), if_pos ⟨h0, h4⟩]
theorem itemP_5 {v : V} {s : Stp} (h0 : s.index < 0) (h5 : v.kind = 5) : itemP v s = ((lb v.keys s.key : Int), foundS v.keys s.key) := by
  unfold itemP; rw [if_pos ⟨h0, h5⟩]
theorem itemP_x {v : V} {s : Stp} (h5 : ¬ (s.index < 0 ∧ v.kind = 5)) (h4 : ¬ (0 ≤ s.index ∧ v.kind = 4)) : itemP v s = (0, false) := by
  unfold itemP; rw [if_neg h5, if_neg h4]
theorem itemP_spec {v : V} (hv : Vok v) (s : Stp) : itemS v s = if (itemP v s).2 = true then v.items[(itemP v s).1.toNat]? else none := by
  by_cases h0 : 0 ≤ s.index
  · by_cases h4 : v.kind = 4
    · rw [itemP_4 h0 h4]
      unfold itemS
      rw [if_pos h0, if_pos h4]
      simp only [decide_eq_true_eq]
      split
      · rfl
      · exact List.getElem?_eq_none (by omega)
    · rw [itemP_x (fun h => absurd h.1 (by omega)) (fun h => h4 h.2)]
      unfold itemS
      rw [if_pos h0, if_neg h4]; rfl
  · by_cases h5 : v.kind = 5
    · rw [itemP_5 (by omega) h5]
      unfold itemS
      rw [if_neg h0, if_pos h5, found_iff (shape_asc hv.shape.1 h5)]
      simp only [Int.toNat_natCast]
      split <;> rfl
    · rw [itemP_x (fun h => h5 h.2) (fun h => h0 h.1)]
      unfold itemS
      rw [if_neg h0, if_neg h5]; rfl

theorem pitem_pure {v : V} (hv : Vok v) (s : Stp) : Pure Tryd.prog 37 [inj v, .agg [.int .i64 s.index, .str s.key]] (.tup [.int .i64 (itemP v s).1, .bool (itemP v s).2]) := by
  have hsh := hv.shape
  have hks := hv.keys.2
  obtain ⟨k, i, t, xs, ks⟩ := v
  simp only [V.keys, V.items] at hks hsh
  rw [inj_mk]
  refine Pure.ofW ⟨Tryd.f37, Tryd.func37, rfl, by kernel_rfl⟩ rfl (fun h hsc => ?_)
  refine acalls_of te_ok [11, 12, 13, 27, 28, 29] Tryd.func37 (c := _) rfl (Nat.le_of_ble_eq_true rfl) ?_
  simp only [awset0, awset1, awset2, awset3, awset4, awset5, ne_eq, eq_self, implies_true, imp_self, retR, atup, aresL, ares1, gval, inLz, boxR, buildR, noDead, AV.isDead, acmpnil, appR, appBox, storeB, abin, aint, astr, aun, abuild, afill, fieldPlaces, alit, aindexAddr, aindex, aslice, bnd, cutTag, amin, amax, aappend, appendTo, aelems, aconv, aiface, agetField, reduceIte, reduceCtorEq, Nat.reduceAdd, Nat.reduceLT, Nat.reduceLeDiff, Nat.reduceEqDiff, Nat.reduceSub, Nat.reduceMul, Nat.reduceBEq, Int.reduceBEq, Int.reduceBNe, Int.reduceLT, Int.reduceLE, Int.reduceGT, Int.reduceGE, Int.reduceNeg, Int.reduceEq, Int.reduceNe, Int.reduceToNat, Int.reduceAdd, cls, fl, teset, Tryd.ntmps37, Tryd.results37, inj_take, inj_drop, inj_agg, inj_len, inj_one, List.length_map]
  cases hx : decide (s.index < 0) with
  | true =>
    simp only [decide_eq_true_eq] at hx
    have hx2 : decide (s.index ≥ 0) = false := by simp; omega
    cases h5 : (k == 5) with
    | true =>
      simp only [awset0, awset1, awset2, awset3, awset4, awset5, ne_eq, eq_self, implies_true, imp_self, retR, atup, aresL, ares1, gval, inLz, boxR, buildR, noDead, AV.isDead, acmpnil, appR, appBox, storeB, abin, aint, astr, aun, abuild, afill, fieldPlaces, alit, aindexAddr, aindex, aslice, bnd, cutTag, amin, amax, aappend, appendTo, aelems, aconv, aiface, agetField, reduceIte, reduceCtorEq, Nat.reduceAdd, Nat.reduceLT, Nat.reduceLeDiff, Nat.reduceEqDiff, Nat.reduceSub, Nat.reduceMul, Nat.reduceBEq, Int.reduceBEq, Int.reduceBNe, Int.reduceLT, Int.reduceLE, Int.reduceGT, Int.reduceGE, Int.reduceNeg, Int.reduceEq, Int.reduceNe, Int.reduceToNat, Int.reduceAdd, cls, fl, teset, inj_take, inj_drop, inj_agg, inj_len, inj_one, List.length_map, hx2, h5]
      have h5' : k = 5 := by simpa using h5
      have hasc : Asc ks := shape_asc hsh.1 h5'
      refine ACallV.pure (search_pure ks s.key (by omega) hasc) ?_
      simp only [awset0, awset1, awset2, awset3, awset4, awset5, ne_eq, eq_self, implies_true, imp_self, retR, atup, aresL, ares1, gval, inLz, boxR, buildR, noDead, AV.isDead, acmpnil, appR, appBox, storeB, abin, aint, astr, aun, abuild, afill, fieldPlaces, alit, aindexAddr, aindex, aslice, bnd, cutTag, amin, amax, aappend, appendTo, aelems, aconv, aiface, agetField, reduceIte, reduceCtorEq, Nat.reduceAdd, Nat.reduceLT, Nat.reduceLeDiff, Nat.reduceEqDiff, Nat.reduceSub, Nat.reduceMul, Nat.reduceBEq, Int.reduceBEq, Int.reduceBNe, Int.reduceLT, Int.reduceLE, Int.reduceGT, Int.reduceGE, Int.reduceNeg, Int.reduceEq, Int.reduceNe, Int.reduceToNat, Int.reduceAdd, cls, fl, teset, inj_take, inj_drop, inj_agg, inj_len, inj_one, List.length_map]
      refine ⟨by (repeat (first | exact AH.Ext.refl _ | assumption | refine AH.Ext.set ?_ (by first | omega | (simp only [new_nb, set_nb, kill_nb, newTok_nb, setTok_nb]; omega)) _ | refine AH.Ext.new ?_ _)), _, rfl, ?_⟩
      have : itemP (.mk k i t xs ks) s = ((lb ks s.key : Int), foundS ks s.key) := itemP_5 hx h5'
      rw [this]; exact .refl _
    | false =>
      simp only [awset0, awset1, awset2, awset3, awset4, awset5, ne_eq, eq_self, implies_true, imp_self, retR, atup, aresL, ares1, gval, inLz, boxR, buildR, noDead, AV.isDead, acmpnil, appR, appBox, storeB, abin, aint, astr, aun, abuild, afill, fieldPlaces, alit, aindexAddr, aindex, aslice, bnd, cutTag, amin, amax, aappend, appendTo, aelems, aconv, aiface, agetField, reduceIte, reduceCtorEq, Nat.reduceAdd, Nat.reduceLT, Nat.reduceLeDiff, Nat.reduceEqDiff, Nat.reduceSub, Nat.reduceMul, Nat.reduceBEq, Int.reduceBEq, Int.reduceBNe, Int.reduceLT, Int.reduceLE, Int.reduceGT, Int.reduceGE, Int.reduceNeg, Int.reduceEq, Int.reduceNe, Int.reduceToNat, Int.reduceAdd, cls, fl, teset, inj_take, inj_drop, inj_agg, inj_len, inj_one, List.length_map, hx2, h5]
      refine ⟨by (repeat (first | exact AH.Ext.refl _ | assumption | refine AH.Ext.set ?_ (by first | omega | (simp only [new_nb, set_nb, kill_nb, newTok_nb, setTok_nb]; omega)) _ | refine AH.Ext.new ?_ _)), _, rfl, ?_⟩
      have h5' : ¬ k = 5 := by simpa using h5
      have : itemP (.mk k i t xs ks) s = (0, false) := itemP_x (fun h => h5' h.2) (fun h => absurd h.1 (by omega))
      rw [this]; exact .refl _
  | false =>
    simp only [decide_eq_false_iff_not] at hx
    have hx2 : decide (s.index ≥ 0) = true := by simp; omega
    cases h4 : (k == 4) with
    | true =>
      simp only [awset0, awset1, awset2, awset3, awset4, awset5, ne_eq, eq_self, implies_true, imp_self, retR, atup, aresL, ares1, gval, inLz, boxR, buildR, noDead, AV.isDead, acmpnil, appR, appBox, storeB, abin, aint, astr, aun, abuild, afill, fieldPlaces, alit, aindexAddr, aindex, aslice, bnd, cutTag, amin, amax, aappend, appendTo, aelems, aconv, aiface, agetField, reduceIte, reduceCtorEq, Nat.reduceAdd, Nat.reduceLT, Nat.reduceLeDiff, Nat.reduceEqDiff, Nat.reduceSub, Nat.reduceMul, Nat.reduceBEq, Int.reduceBEq, Int.reduceBNe, Int.reduceLT, Int.reduceLE, Int.reduceGT, Int.reduceGE, Int.reduceNeg, Int.reduceEq, Int.reduceNe, Int.reduceToNat, Int.reduceAdd, cls, fl, teset, inj_take, inj_drop, inj_agg, inj_len, inj_one, List.length_map, hx2, h4]
      refine acode_draw_chain te_ok mixed [] (by kernel_rfl) ?_
      simp only [awset0, awset1, awset2, awset3, awset4, awset5, ne_eq, eq_self, implies_true, imp_self, retR, atup, aresL, ares1, gval, inLz, boxR, buildR, noDead, AV.isDead, acmpnil, appR, appBox, storeB, abin, aint, astr, aun, abuild, afill, fieldPlaces, alit, aindexAddr, aindex, aslice, bnd, cutTag, amin, amax, aappend, appendTo, aelems, aconv, aiface, agetField, reduceIte, reduceCtorEq, Nat.reduceAdd, Nat.reduceLT, Nat.reduceLeDiff, Nat.reduceEqDiff, Nat.reduceSub, Nat.reduceMul, Nat.reduceBEq, Int.reduceBEq, Int.reduceBNe, Int.reduceLT, Int.reduceLE, Int.reduceGT, Int.reduceGE, Int.reduceNeg, Int.reduceEq, Int.reduceNe, Int.reduceToNat, Int.reduceAdd, cls, fl, teset, inj_take, inj_drop, inj_agg, inj_len, inj_one, List.length_map, hx2, h4]
      refine ⟨by (repeat (first | exact AH.Ext.refl _ | assumption | refine AH.Ext.set ?_ (by first | omega | (simp only [new_nb, set_nb, kill_nb, newTok_nb, setTok_nb]; omega)) _ | refine AH.Ext.new ?_ _)), _, rfl, ?_⟩
      have h4' : k = 4 := by simpa using h4
      have : itemP (.mk k i t xs ks) s = (s.index, decide (s.index < (xs.length : Int))) := itemP_4 (by omega) h4'
      rw [this]; exact .refl _
    | false =>
      simp only [awset0, awset1, awset2, awset3, awset4, awset5, ne_eq, eq_self, implies_true, imp_self, retR, atup, aresL, ares1, gval, inLz, boxR, buildR, noDead, AV.isDead, acmpnil, appR, appBox, storeB, abin, aint, astr, aun, abuild, afill, fieldPlaces, alit, aindexAddr, aindex, aslice, bnd, cutTag, amin, amax, aappend, appendTo, aelems, aconv, aiface, agetField, reduceIte, reduceCtorEq, Nat.reduceAdd, Nat.reduceLT, Nat.reduceLeDiff, Nat.reduceEqDiff, Nat.reduceSub, Nat.reduceMul, Nat.reduceBEq, Int.reduceBEq, Int.reduceBNe, Int.reduceLT, Int.reduceLE, Int.reduceGT, Int.reduceGE, Int.reduceNeg, Int.reduceEq, Int.reduceNe, Int.reduceToNat, Int.reduceAdd, cls, fl, teset, inj_take, inj_drop, inj_agg, inj_len, inj_one, List.length_map, hx2, h4]
      refine ⟨by (repeat (first | exact AH.Ext.refl _ | assumption | refine AH.Ext.set ?_ (by first | omega | (simp only [new_nb, set_nb, kill_nb, newTok_nb, setTok_nb]; omega)) _ | refine AH.Ext.new ?_ _)), _, rfl, ?_⟩
      have h4' : ¬ k = 4 := by simpa using h4
      have : itemP (.mk k i t xs ks) s = (0, false) := itemP_x (fun h => hx h.1) (fun h => h4' h.2)
      rw [this]; exact .refl _
end Go.Proofs.YtjdocenbfghglaaDoor.AW
