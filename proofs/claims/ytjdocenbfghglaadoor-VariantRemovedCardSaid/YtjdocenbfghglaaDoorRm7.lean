/- Texts of this claim, part 7: V30, V31. -/
import Derived.Test.YtjdocenbfghglaaDoorRm1
import Derived.Test.YtjdocenbfghglaaDoorRm2
import Derived.Test.YtjdocenbfghglaaDoorRm3
import Derived.Test.YtjdocenbfghglaaDoorRm4
import Derived.Test.YtjdocenbfghglaaDoorRm5
import Derived.Test.YtjdocenbfghglaaDoorRm6
section
set_option linter.unusedSimpArgs false
set_option linter.unusedVariables false
namespace Go.Proofs.YtjdocenbfghglaaDoor.AW
open Go Go.RowKit

theorem map_erase {α β : Type} (f : α → β) : ∀ (l : List α) (i : Nat), (l.map f).eraseIdx i = (l.eraseIdx i).map f
  | [], _ => by simp
  | a :: l, 0 => by simp
  | a :: l, i + 1 => by simp [map_erase f l i]
theorem del5 (xs : List V) (i : Nat) (hl : xs.length < 1000000) (hi : i < xs.length) (h : AH) (b : Nat) (hb : h.box b = some ((xs.map inj).flatMap AV.cells)) (hbn : b < h.nb) :
    ACalls Tryd.prog 46 [.ms b 0 xs.length 5, .int .i64 i, .int .i64 ((i + 1 : Nat) : Int)] h fun out h' => out = .ret (.sl .ro 5 ((xs.eraseIdx i).map inj)) ∧ h' = h.kill b := by
  have := delvals_calls (xs.map inj) i (fun x hx => by obtain ⟨k, _, rfl⟩ := List.mem_map.1 hx; exact inj_len k) (injs_under xs) (by rw [List.length_map]; exact hl) (by rw [List.length_map]; exact hi) h b hb hbn
  rw [List.length_map, map_erase] at this
  exact this
theorem del1 (ks : List ByteArray) (i : Nat) (hl : ks.length < 1000000) (hi : i < ks.length) (h : AH) (b : Nat) (hb : h.box b = some (ks.map .str)) (hbn : b < h.nb) :
    ACalls Tryd.prog 47 [.ms b 0 ks.length 1, .int .i64 i, .int .i64 ((i + 1 : Nat) : Int)] h fun out h' => out = .ret (.sl .ro 1 ((ks.eraseIdx i).map .str)) ∧ h' = h.kill b := by
  have := delstrs_calls (ks.map .str) i (fun x hx => by obtain ⟨k, _, rfl⟩ := List.mem_map.1 hx; rfl) (strs_under ks) (by rw [List.length_map]; exact hl) (by rw [List.length_map]; exact hi) h b (by rw [strs_cells]; exact hb) hbn
  rw [List.length_map, map_erase] at this
  exact this
theorem itemP_nat {v : V} {s : Stp} {o : V} (hv : Vok v) (h : itemS v s = some o) : ∃ i : Nat, itemP v s = ((i : Int), true) ∧ v.items[i]? = some o ∧ (v.kind = 5 → i < v.keys.length) := by
  obtain ⟨h1, h2⟩ := item_found hv h
  have h3 : 0 ≤ (itemP v s).1 := by
    unfold itemP
    split
    · show (0 : Int) ≤ (lb v.keys s.key : Nat); omega
    · split
      · next hh => exact hh.1
      · exact Int.le_refl _
  refine ⟨(itemP v s).1.toNat, ?_, h2, fun h5 => ?_⟩
  · rw [Int.toNat_of_nonneg h3, ← h1]
  · rw [hv.keys.1 h5]; exact (List.getElem?_eq_some_iff.1 h2).1
set_option maxHeartbeats 2000000 in
theorem without_pure : ∀ (p : List Stp) (v o : V), Vok v → p ≠ [] → atS v p = some o → p.length < 1000000 → Pure Tryd.prog 32 [inj v, .sl .ro 2 (p.map injS)] (inj (withoutP p v)) := by
  intro p
  induction p with
  | nil => intro v o _ h; exact absurd rfl h
  | cons s p ih =>
    intro v o hv _ ho hl
    simp only [List.length_cons] at hl
    refine Pure.of0 ⟨Tryd.f32, Tryd.func32, rfl, by kernel_rfl⟩ (by have := injS_under (s :: p); simp only [AV.underL, inj_under, AV.under, Bool.true_and, Bool.and_true]; exact this) (inj_under _) ?_
    simp only [atS] at ho
    cases ht : itemS v s with
    | none => rw [ht] at ho; cases ho
    | some o1 =>
    rw [ht] at ho
    obtain ⟨i, hi1, hi2, hi3⟩ := itemP_nat hv ht
    have hitem := pitem_pure hv s
    have hlt := (List.getElem?_eq_some_iff.1 hi2).1
    have hx6 : v.items.length < 1000000 := by have := hv.shape.2; omega
    have hk6 : v.keys.length < 1000000 := by have := hv.keys.2; omega
    rw [hi1] at hitem
    have takep : List.take p.length (p.map injS) = p.map injS := List.take_of_length_le (by simp)
    have hw : IntKind.i64.wrap ((i : Int) + 1) = ((i + 1 : Nat) : Int) := wrap_succ (by omega)
    obtain ⟨ix, key⟩ := s
    have hspec1 : p = [] → withoutP (⟨ix, key⟩ :: p) v = delV v i := by rintro rfl; simp only [withoutP, hi1, Int.toNat_natCast]
    have hspec2 : p ≠ [] → withoutP (⟨ix, key⟩ :: p) v = withV v i (withoutP p o1) := by
      intro hp
      obtain ⟨t, p', rfl⟩ := List.exists_cons_of_ne_nil hp
      simp only [withoutP, hi1, Int.toNat_natCast]
      rw [List.getD_eq_getElem?_getD, hi2]; rfl
    have hwp := fun y => with_pure v i y (by omega) hx6
    have hvo : Vok o1 := hv.items o1 (itemS_mem ht)
    obtain ⟨k, n, t, xs, ks⟩ := v
    simp only [V.items, V.keys, V.kind] at hi2 hi3 hlt hx6 hk6
    rw [inj_mk] at hitem ⊢
    simp only [inj_mk k] at hwp
    refine acalls_of te_ok [] Tryd.func32 (c := _) rfl (Nat.le_of_ble_eq_true rfl) ?_
    simp only [awset0, awset1, awset2, awset3, awset4, awset5, awset6, ne_eq, eq_self, implies_true, imp_self, retR, atup, aresL, ares1, gval, inLz, boxR, buildR, noDead, AV.isDead, acmpnil, appR, appBox, storeB, abin, aint, astr, aun, abuild, afill, fieldPlaces, alit, aindexAddr, aindex, aslice, bnd, cutTag, amin, amax, aappend, appendTo, aelems, aconv, aiface, agetField, reduceIte, reduceCtorEq, Nat.reduceAdd, Nat.reduceLT, Nat.reduceLeDiff, Nat.reduceEqDiff, Nat.reduceSub, Nat.reduceMul, Nat.reduceBEq, Int.reduceBEq, Int.reduceBNe, Int.reduceLT, Int.reduceLE, Int.reduceGT, Int.reduceGE, Int.reduceNeg, Int.reduceEq, Int.reduceNe, Int.reduceToNat, Int.reduceAdd, cls, fl, convR, acvB, acvS, capR, aeqL, ZC.leaf, eqTypes, List.contains_cons, List.contains_nil, teset, Tryd.ntmps32, Tryd.results32, inj_take, inj_drop, inj_agg, inj_len, inj_one, List.length_map, boxR, none_nb, none_box, List.map_cons, List.length_cons, injS, Int.natCast_zero]
    refine acode_draw_chain te_ok mixed [] (by kernel_rfl) ?_
    simp only [awset0, awset1, awset2, awset3, awset4, awset5, awset6, ne_eq, eq_self, implies_true, imp_self, retR, atup, aresL, ares1, gval, inLz, boxR, buildR, noDead, AV.isDead, acmpnil, appR, appBox, storeB, abin, aint, astr, aun, abuild, afill, fieldPlaces, alit, aindexAddr, aindex, aslice, bnd, cutTag, amin, amax, aappend, appendTo, aelems, aconv, aiface, agetField, reduceIte, reduceCtorEq, Nat.reduceAdd, Nat.reduceLT, Nat.reduceLeDiff, Nat.reduceEqDiff, Nat.reduceSub, Nat.reduceMul, Nat.reduceBEq, Int.reduceBEq, Int.reduceBNe, Int.reduceLT, Int.reduceLE, Int.reduceGT, Int.reduceGE, Int.reduceNeg, Int.reduceEq, Int.reduceNe, Int.reduceToNat, Int.reduceAdd, cls, fl, convR, acvB, acvS, capR, aeqL, ZC.leaf, eqTypes, List.contains_cons, List.contains_nil, teset, inj_take, inj_drop, inj_agg, inj_len, inj_one, List.length_map, none_nb, none_box, List.map_cons, injS, Int.natCast_zero]
    refine skR_pure hitem ?_
    simp only [awset0, awset1, awset2, awset3, awset4, awset5, awset6, ne_eq, eq_self, implies_true, imp_self, retR, atup, aresL, ares1, gval, inLz, boxR, buildR, noDead, AV.isDead, acmpnil, appR, appBox, storeB, abin, aint, astr, aun, abuild, afill, fieldPlaces, alit, aindexAddr, aindex, aslice, bnd, cutTag, amin, amax, aappend, appendTo, aelems, aconv, aiface, agetField, reduceIte, reduceCtorEq, Nat.reduceAdd, Nat.reduceLT, Nat.reduceLeDiff, Nat.reduceEqDiff, Nat.reduceSub, Nat.reduceMul, Nat.reduceBEq, Int.reduceBEq, Int.reduceBNe, Int.reduceLT, Int.reduceLE, Int.reduceGT, Int.reduceGE, Int.reduceNeg, Int.reduceEq, Int.reduceNe, Int.reduceToNat, Int.reduceAdd, cls, fl, convR, acvB, acvS, capR, aeqL, ZC.leaf, eqTypes, List.contains_cons, List.contains_nil, teset, inj_take, inj_drop, inj_agg, inj_len, inj_one, List.length_map, none_nb, none_box, List.map_cons, List.length_cons, injS, Int.natCast_zero]
    cases hc : decide (((p.length + 1 : Nat) : Int) > 1) with
    | true =>
      simp only [decide_eq_true_eq] at hc
      have hp : p ≠ [] := by rintro rfl; simp at hc
      have hget2 : (xs.map inj)[i]? = some (inj o1) := by rw [List.getElem?_map, hi2]; rfl
      simp only [awset0, awset1, awset2, awset3, awset4, awset5, awset6, ne_eq, eq_self, implies_true, imp_self, retR, atup, aresL, ares1, gval, inLz, boxR, buildR, noDead, AV.isDead, acmpnil, appR, appBox, storeB, abin, aint, astr, aun, abuild, afill, fieldPlaces, alit, aindexAddr, aindex, aslice, bnd, cutTag, amin, amax, aappend, appendTo, aelems, aconv, aiface, agetField, reduceIte, reduceCtorEq, Nat.reduceAdd, Nat.reduceLT, Nat.reduceLeDiff, Nat.reduceEqDiff, Nat.reduceSub, Nat.reduceMul, Nat.reduceBEq, Int.reduceBEq, Int.reduceBNe, Int.reduceLT, Int.reduceLE, Int.reduceGT, Int.reduceGE, Int.reduceNeg, Int.reduceEq, Int.reduceNe, Int.reduceToNat, Int.reduceAdd, cls, fl, convR, acvB, acvS, capR, aeqL, ZC.leaf, eqTypes, List.contains_cons, List.contains_nil, teset, inj_take, inj_drop, inj_agg, inj_len, inj_one, List.length_map, none_nb, none_box, Int.natCast_zero]
      refine acode_draw_chain te_ok mixed [] (by kernel_rfl) ?_
      simp only [awset0, awset1, awset2, awset3, awset4, awset5, awset6, ne_eq, eq_self, implies_true, imp_self, retR, atup, aresL, ares1, gval, inLz, boxR, buildR, noDead, AV.isDead, acmpnil, appR, appBox, storeB, abin, aint, astr, aun, abuild, afill, fieldPlaces, alit, aindexAddr, aindex, aslice, bnd, cutTag, amin, amax, aappend, appendTo, aelems, aconv, aiface, agetField, reduceIte, reduceCtorEq, Nat.reduceAdd, Nat.reduceLT, Nat.reduceLeDiff, Nat.reduceEqDiff, Nat.reduceSub, Nat.reduceMul, Nat.reduceBEq, Int.reduceBEq, Int.reduceBNe, Int.reduceLT, Int.reduceLE, Int.reduceGT, Int.reduceGE, Int.reduceNeg, Int.reduceEq, Int.reduceNe, Int.reduceToNat, Int.reduceAdd, cls, fl, convR, acvB, acvS, capR, aeqL, ZC.leaf, eqTypes, List.contains_cons, List.contains_nil, teset, inj_take, inj_drop, inj_agg, inj_len, inj_one, List.length_map, none_nb, none_box, Int.natCast_zero, hget2, Int.natCast_nonneg, Int.toNat_natCast, Nat.add_sub_cancel, takep, Nat.le_refl, List.length_map, List.map_cons]
      refine skR_pure (ih o1 o hvo hp ho (by omega)) ?_
      refine skR_pure (hwp _) ?_
      simp only [awset0, awset1, awset2, awset3, awset4, awset5, awset6, ne_eq, eq_self, implies_true, imp_self, retR, atup, aresL, ares1, gval, inLz, boxR, buildR, noDead, AV.isDead, acmpnil, appR, appBox, storeB, abin, aint, astr, aun, abuild, afill, fieldPlaces, alit, aindexAddr, aindex, aslice, bnd, cutTag, amin, amax, aappend, appendTo, aelems, aconv, aiface, agetField, reduceIte, reduceCtorEq, Nat.reduceAdd, Nat.reduceLT, Nat.reduceLeDiff, Nat.reduceEqDiff, Nat.reduceSub, Nat.reduceMul, Nat.reduceBEq, Int.reduceBEq, Int.reduceBNe, Int.reduceLT, Int.reduceLE, Int.reduceGT, Int.reduceGE, Int.reduceNeg, Int.reduceEq, Int.reduceNe, Int.reduceToNat, Int.reduceAdd, cls, fl, convR, acvB, acvS, capR, aeqL, ZC.leaf, eqTypes, List.contains_cons, List.contains_nil, teset, inj_take, inj_drop, inj_agg, inj_len, inj_one, List.length_map, none_nb, none_box, Int.natCast_zero]
      refine ⟨_, rfl, ?_⟩
      rw [hspec2 hp]
      exact .refl _ _
    | false =>
      simp only [decide_eq_false_iff_not] at hc
      have hp : p = [] := List.eq_nil_of_length_eq_zero (by omega)
      have hne : xs ≠ [] := by rintro rfl; simp at hlt
      simp only [awset0, awset1, awset2, awset3, awset4, awset5, awset6, ne_eq, eq_self, implies_true, imp_self, retR, atup, aresL, ares1, gval, inLz, boxR, buildR, noDead, AV.isDead, acmpnil, appR, appBox, storeB, abin, aint, astr, aun, abuild, afill, fieldPlaces, alit, aindexAddr, aindex, aslice, bnd, cutTag, amin, amax, aappend, appendTo, aelems, aconv, aiface, agetField, reduceIte, reduceCtorEq, Nat.reduceAdd, Nat.reduceLT, Nat.reduceLeDiff, Nat.reduceEqDiff, Nat.reduceSub, Nat.reduceMul, Nat.reduceBEq, Int.reduceBEq, Int.reduceBNe, Int.reduceLT, Int.reduceLE, Int.reduceGT, Int.reduceGE, Int.reduceNeg, Int.reduceEq, Int.reduceNe, Int.reduceToNat, Int.reduceAdd, cls, fl, convR, acvB, acvS, capR, aeqL, ZC.leaf, eqTypes, List.contains_cons, List.contains_nil, teset, inj_take, inj_drop, inj_agg, inj_len, inj_one, List.length_map, none_nb, none_box, Int.natCast_zero]
      refine ACallV.det ⟨Tryd.f39, Tryd.func39, rfl, by kernel_rfl⟩ rfl (clone5_box' xs hne hx6 _) ?_
      simp only [awset0, awset1, awset2, awset3, awset4, awset5, awset6, ne_eq, eq_self, implies_true, imp_self, retR, atup, aresL, ares1, gval, inLz, boxR, buildR, noDead, AV.isDead, acmpnil, appR, appBox, storeB, abin, aint, astr, aun, abuild, afill, fieldPlaces, alit, aindexAddr, aindex, aslice, bnd, cutTag, amin, amax, aappend, appendTo, aelems, aconv, aiface, agetField, reduceIte, reduceCtorEq, Nat.reduceAdd, Nat.reduceLT, Nat.reduceLeDiff, Nat.reduceEqDiff, Nat.reduceSub, Nat.reduceMul, Nat.reduceBEq, Int.reduceBEq, Int.reduceBNe, Int.reduceLT, Int.reduceLE, Int.reduceGT, Int.reduceGE, Int.reduceNeg, Int.reduceEq, Int.reduceNe, Int.reduceToNat, Int.reduceAdd, cls, fl, convR, acvB, acvS, capR, aeqL, ZC.leaf, eqTypes, List.contains_cons, List.contains_nil, teset, inj_take, inj_drop, inj_agg, inj_len, inj_one, List.length_map, none_nb, none_box, Int.natCast_zero, hw]
      refine ACallV.det ⟨Tryd.f46, Tryd.func46, rfl, by kernel_rfl⟩ rfl (del5 xs i hx6 hlt _ 2 (by simp only [awset0, awset1, awset2, awset3, awset4, awset5, awset6, ne_eq, eq_self, implies_true, imp_self, retR, atup, aresL, ares1, gval, inLz, boxR, buildR, noDead, AV.isDead, acmpnil, appR, appBox, storeB, abin, aint, astr, aun, abuild, afill, fieldPlaces, alit, aindexAddr, aindex, aslice, bnd, cutTag, amin, amax, aappend, appendTo, aelems, aconv, aiface, agetField, reduceIte, reduceCtorEq, Nat.reduceAdd, Nat.reduceLT, Nat.reduceLeDiff, Nat.reduceEqDiff, Nat.reduceSub, Nat.reduceMul, Nat.reduceBEq, Int.reduceBEq, Int.reduceBNe, Int.reduceLT, Int.reduceLE, Int.reduceGT, Int.reduceGE, Int.reduceNeg, Int.reduceEq, Int.reduceNe, Int.reduceToNat, Int.reduceAdd, cls, fl, convR, acvB, acvS, capR, aeqL, ZC.leaf, eqTypes, List.contains_cons, List.contains_nil, teset, none_nb, none_box]) (by simp only [awset0, awset1, awset2, awset3, awset4, awset5, awset6, ne_eq, eq_self, implies_true, imp_self, retR, atup, aresL, ares1, gval, inLz, boxR, buildR, noDead, AV.isDead, acmpnil, appR, appBox, storeB, abin, aint, astr, aun, abuild, afill, fieldPlaces, alit, aindexAddr, aindex, aslice, bnd, cutTag, amin, amax, aappend, appendTo, aelems, aconv, aiface, agetField, reduceIte, reduceCtorEq, Nat.reduceAdd, Nat.reduceLT, Nat.reduceLeDiff, Nat.reduceEqDiff, Nat.reduceSub, Nat.reduceMul, Nat.reduceBEq, Int.reduceBEq, Int.reduceBNe, Int.reduceLT, Int.reduceLE, Int.reduceGT, Int.reduceGE, Int.reduceNeg, Int.reduceEq, Int.reduceNe, Int.reduceToNat, Int.reduceAdd, cls, fl, convR, acvB, acvS, capR, aeqL, ZC.leaf, eqTypes, List.contains_cons, List.contains_nil, teset, none_nb, none_box])) ?_
      simp only [awset0, awset1, awset2, awset3, awset4, awset5, awset6, ne_eq, eq_self, implies_true, imp_self, retR, atup, aresL, ares1, gval, inLz, boxR, buildR, noDead, AV.isDead, acmpnil, appR, appBox, storeB, abin, aint, astr, aun, abuild, afill, fieldPlaces, alit, aindexAddr, aindex, aslice, bnd, cutTag, amin, amax, aappend, appendTo, aelems, aconv, aiface, agetField, reduceIte, reduceCtorEq, Nat.reduceAdd, Nat.reduceLT, Nat.reduceLeDiff, Nat.reduceEqDiff, Nat.reduceSub, Nat.reduceMul, Nat.reduceBEq, Int.reduceBEq, Int.reduceBNe, Int.reduceLT, Int.reduceLE, Int.reduceGT, Int.reduceGE, Int.reduceNeg, Int.reduceEq, Int.reduceNe, Int.reduceToNat, Int.reduceAdd, cls, fl, convR, acvB, acvS, capR, aeqL, ZC.leaf, eqTypes, List.contains_cons, List.contains_nil, teset, inj_take, inj_drop, inj_agg, inj_len, inj_one, List.length_map, none_nb, none_box, Int.natCast_zero, hw]
      cases hk5 : (k == 5) with
      | false =>
        simp only [awset0, awset1, awset2, awset3, awset4, awset5, awset6, ne_eq, eq_self, implies_true, imp_self, retR, atup, aresL, ares1, gval, inLz, boxR, buildR, noDead, AV.isDead, acmpnil, appR, appBox, storeB, abin, aint, astr, aun, abuild, afill, fieldPlaces, alit, aindexAddr, aindex, aslice, bnd, cutTag, amin, amax, aappend, appendTo, aelems, aconv, aiface, agetField, reduceIte, reduceCtorEq, Nat.reduceAdd, Nat.reduceLT, Nat.reduceLeDiff, Nat.reduceEqDiff, Nat.reduceSub, Nat.reduceMul, Nat.reduceBEq, Int.reduceBEq, Int.reduceBNe, Int.reduceLT, Int.reduceLE, Int.reduceGT, Int.reduceGE, Int.reduceNeg, Int.reduceEq, Int.reduceNe, Int.reduceToNat, Int.reduceAdd, cls, fl, convR, acvB, acvS, capR, aeqL, ZC.leaf, eqTypes, List.contains_cons, List.contains_nil, teset, inj_take, inj_drop, inj_agg, inj_len, inj_one, List.length_map, none_nb, none_box, Int.natCast_zero, hw]
        refine ⟨_, rfl, ?_⟩
        have : withoutP (⟨ix, key⟩ :: p) (.mk k n t xs ks) = .mk k n t (xs.eraseIdx i) ks := by
          rw [hspec1 hp]
          unfold delV
          rw [if_neg (show ¬ (V.mk k n t xs ks).kind = 5 by simpa [V.kind] using hk5)]
          rfl
        rw [this, inj_mk]
        exact .refl _ _
      | true =>
        have hk : k = 5 := by simpa using hk5
        have hik := hi3 hk
        have hkne : ks ≠ [] := by rintro rfl; simp at hik
        simp only [awset0, awset1, awset2, awset3, awset4, awset5, awset6, ne_eq, eq_self, implies_true, imp_self, retR, atup, aresL, ares1, gval, inLz, boxR, buildR, noDead, AV.isDead, acmpnil, appR, appBox, storeB, abin, aint, astr, aun, abuild, afill, fieldPlaces, alit, aindexAddr, aindex, aslice, bnd, cutTag, amin, amax, aappend, appendTo, aelems, aconv, aiface, agetField, reduceIte, reduceCtorEq, Nat.reduceAdd, Nat.reduceLT, Nat.reduceLeDiff, Nat.reduceEqDiff, Nat.reduceSub, Nat.reduceMul, Nat.reduceBEq, Int.reduceBEq, Int.reduceBNe, Int.reduceLT, Int.reduceLE, Int.reduceGT, Int.reduceGE, Int.reduceNeg, Int.reduceEq, Int.reduceNe, Int.reduceToNat, Int.reduceAdd, cls, fl, convR, acvB, acvS, capR, aeqL, ZC.leaf, eqTypes, List.contains_cons, List.contains_nil, teset, inj_take, inj_drop, inj_agg, inj_len, inj_one, List.length_map, none_nb, none_box, Int.natCast_zero, hw]
        refine ACallV.det ⟨Tryd.f38, Tryd.func38, rfl, by kernel_rfl⟩ rfl (clone1_box' ks hkne hk6 _) ?_
        simp only [awset0, awset1, awset2, awset3, awset4, awset5, awset6, ne_eq, eq_self, implies_true, imp_self, retR, atup, aresL, ares1, gval, inLz, boxR, buildR, noDead, AV.isDead, acmpnil, appR, appBox, storeB, abin, aint, astr, aun, abuild, afill, fieldPlaces, alit, aindexAddr, aindex, aslice, bnd, cutTag, amin, amax, aappend, appendTo, aelems, aconv, aiface, agetField, reduceIte, reduceCtorEq, Nat.reduceAdd, Nat.reduceLT, Nat.reduceLeDiff, Nat.reduceEqDiff, Nat.reduceSub, Nat.reduceMul, Nat.reduceBEq, Int.reduceBEq, Int.reduceBNe, Int.reduceLT, Int.reduceLE, Int.reduceGT, Int.reduceGE, Int.reduceNeg, Int.reduceEq, Int.reduceNe, Int.reduceToNat, Int.reduceAdd, cls, fl, convR, acvB, acvS, capR, aeqL, ZC.leaf, eqTypes, List.contains_cons, List.contains_nil, teset, inj_take, inj_drop, inj_agg, inj_len, inj_one, List.length_map, none_nb, none_box, Int.natCast_zero, hw]
        refine ACallV.det ⟨Tryd.f47, Tryd.func47, rfl, by kernel_rfl⟩ rfl (del1 ks i hk6 hik _ 3 (by simp only [awset0, awset1, awset2, awset3, awset4, awset5, awset6, ne_eq, eq_self, implies_true, imp_self, retR, atup, aresL, ares1, gval, inLz, boxR, buildR, noDead, AV.isDead, acmpnil, appR, appBox, storeB, abin, aint, astr, aun, abuild, afill, fieldPlaces, alit, aindexAddr, aindex, aslice, bnd, cutTag, amin, amax, aappend, appendTo, aelems, aconv, aiface, agetField, reduceIte, reduceCtorEq, Nat.reduceAdd, Nat.reduceLT, Nat.reduceLeDiff, Nat.reduceEqDiff, Nat.reduceSub, Nat.reduceMul, Nat.reduceBEq, Int.reduceBEq, Int.reduceBNe, Int.reduceLT, Int.reduceLE, Int.reduceGT, Int.reduceGE, Int.reduceNeg, Int.reduceEq, Int.reduceNe, Int.reduceToNat, Int.reduceAdd, cls, fl, convR, acvB, acvS, capR, aeqL, ZC.leaf, eqTypes, List.contains_cons, List.contains_nil, teset, none_nb, none_box]) (by simp only [awset0, awset1, awset2, awset3, awset4, awset5, awset6, ne_eq, eq_self, implies_true, imp_self, retR, atup, aresL, ares1, gval, inLz, boxR, buildR, noDead, AV.isDead, acmpnil, appR, appBox, storeB, abin, aint, astr, aun, abuild, afill, fieldPlaces, alit, aindexAddr, aindex, aslice, bnd, cutTag, amin, amax, aappend, appendTo, aelems, aconv, aiface, agetField, reduceIte, reduceCtorEq, Nat.reduceAdd, Nat.reduceLT, Nat.reduceLeDiff, Nat.reduceEqDiff, Nat.reduceSub, Nat.reduceMul, Nat.reduceBEq, Int.reduceBEq, Int.reduceBNe, Int.reduceLT, Int.reduceLE, Int.reduceGT, Int.reduceGE, Int.reduceNeg, Int.reduceEq, Int.reduceNe, Int.reduceToNat, Int.reduceAdd, cls, fl, convR, acvB, acvS, capR, aeqL, ZC.leaf, eqTypes, List.contains_cons, List.contains_nil, teset, none_nb, none_box])) ?_
        simp only [awset0, awset1, awset2, awset3, awset4, awset5, awset6, ne_eq, eq_self, implies_true, imp_self, retR, atup, aresL, ares1, gval, inLz, boxR, buildR, noDead, AV.isDead, acmpnil, appR, appBox, storeB, abin, aint, astr, aun, abuild, afill, fieldPlaces, alit, aindexAddr, aindex, aslice, bnd, cutTag, amin, amax, aappend, appendTo, aelems, aconv, aiface, agetField, reduceIte, reduceCtorEq, Nat.reduceAdd, Nat.reduceLT, Nat.reduceLeDiff, Nat.reduceEqDiff, Nat.reduceSub, Nat.reduceMul, Nat.reduceBEq, Int.reduceBEq, Int.reduceBNe, Int.reduceLT, Int.reduceLE, Int.reduceGT, Int.reduceGE, Int.reduceNeg, Int.reduceEq, Int.reduceNe, Int.reduceToNat, Int.reduceAdd, cls, fl, convR, acvB, acvS, capR, aeqL, ZC.leaf, eqTypes, List.contains_cons, List.contains_nil, teset, inj_take, inj_drop, inj_agg, inj_len, inj_one, List.length_map, none_nb, none_box, Int.natCast_zero, hw]
        refine ⟨_, rfl, ?_⟩
        have : withoutP (⟨ix, key⟩ :: p) (.mk k n t xs ks) = .mk k n t (xs.eraseIdx i) (ks.eraseIdx i) := by
          rw [hspec1 hp]
          unfold delV
          rw [if_pos (show (V.mk k n t xs ks).kind = 5 from hk)]
          rfl
        rw [this, inj_mk]
        exact .refl _ _
end Go.Proofs.YtjdocenbfghglaaDoor.AW
end
section
set_option linter.unusedSimpArgs false
set_option linter.unusedVariables false
namespace Go.Proofs.YtjdocenbfghglaaDoor.AW
open Go Go.RowKit

theorem tin_mk {k i : Int} {t : ByteArray} {xs : List V} {ks : List ByteArray} (h1 : xs.length < 10000) (h2 : ks.length < 10000) (h3 : ∀ x ∈ xs, x.tin) : (V.mk k i t xs ks).tin := by
  simp only [V.tin, V.tinL_iff]; exact ⟨h1, h2, h3⟩
theorem without_tin : ∀ (p : List Stp) (v : V), Vok v → (withoutP p v).tin := by
  intro p
  induction p with
  | nil => intro v hv; exact hv.tin
  | cons s p ih =>
    intro v hv
    have h1 := hv.shape.2
    have h2 := hv.keys.2
    have h3 := fun x hx => (hv.items x hx).tin
    cases p with
    | nil =>
      show (delV v (itemP v s).1.toNat).tin
      generalize (itemP v s).1.toNat = i
      obtain ⟨k, n, t, xs, ks⟩ := v
      simp only [V.items, V.keys] at h1 h2 h3
      refine tin_mk ?_ ?_ ?_
      · have := List.length_eraseIdx_le xs i; simp only [V.items]; omega
      · have := List.length_eraseIdx_le ks i
        show (if (V.mk k n t xs ks).kind = 5 then ks.eraseIdx i else ks).length < 10000
        by_cases hk : (V.mk k n t xs ks).kind = 5
        · rw [if_pos hk]; omega
        · rw [if_neg hk]; omega
      · intro x hx; exact h3 x (List.mem_of_mem_eraseIdx hx)
    | cons t p =>
      simp only [withoutP]
      generalize (itemP v s).1.toNat = i
      have hc : Vok (v.items.getD i zeroV) := by
        rw [List.getD_eq_getElem?_getD]
        cases h : v.items[i]? with
        | none => exact zero_ok
        | some x => exact hv.items x (List.mem_of_getElem? h)
      have hy := ih _ hc
      generalize withoutP (t :: p) (v.items.getD i zeroV) = y at hy ⊢
      obtain ⟨k, n, t, xs, ks⟩ := v
      simp only [V.items, V.keys] at h1 h2 h3
      refine tin_mk ?_ ?_ ?_
      · simp only [V.items, List.length_append, List.length_take, List.length_cons, List.length_drop]; omega
      · simp only [V.keys]; omega
      · intro x hx
        rcases List.mem_append.1 hx with h | h
        · exact h3 x (List.mem_of_mem_take h)
        · rcases List.mem_cons.1 h with rfl | h
          · exact hy
          · exact h3 x (List.mem_of_mem_drop h)
def removeV (v : V) (p : List Stp) : V × Int :=
  if valid v = true ∧ pathOk p = true then (if p.length = 0 then (zeroV, 3) else if (atS v p).isSome = true then (withoutP p v, 0) else (zeroV, 6)) else (zeroV, 1)
theorem wk_zero2 (n : Int) : Wk (.tup [.agg [.int .i64 0, .int .i64 0, .str ⟨#[]⟩, .sl .full 0 [], .sl .full 0 []], .int .i64 n]) (.tup [inj zeroV, .int .i64 n]) := (WkAll.cons wk_zero (.cons (.refl _) .nil)).tup
theorem premove_pure (v : V) (p : List Stp) (hv : v.sm) (hp : p.length < 4611686018427387904) : Pure Tryd.prog 14 [inj v, .sl .ro 2 (p.map injS)] (.tup [inj (removeV v p).1, .int .i64 (removeV v p).2]) := by
  refine Pure.of0 ⟨Tryd.f14, Tryd.func14, rfl, by kernel_rfl⟩ (by simp [AV.underL, inj_under, AV.under, injS_under]) (tup2_under _ _) ?_
  refine acalls_of te_ok [] Tryd.func14 (c := _) rfl (Nat.le_of_ble_eq_true rfl) ?_
  simp only [awset0, awset1, awset2, awset3, awset4, awset5, awset6, ne_eq, eq_self, implies_true, imp_self, retR, atup, aresL, ares1, gval, inLz, boxR, buildR, noDead, AV.isDead, acmpnil, appR, appBox, storeB, abin, aint, astr, aun, abuild, afill, fieldPlaces, alit, aindexAddr, aindex, aslice, bnd, cutTag, amin, amax, aappend, appendTo, aelems, aconv, aiface, agetField, reduceIte, reduceCtorEq, Nat.reduceAdd, Nat.reduceLT, Nat.reduceLeDiff, Nat.reduceEqDiff, Nat.reduceSub, Nat.reduceMul, Nat.reduceBEq, Int.reduceBEq, Int.reduceBNe, Int.reduceLT, Int.reduceLE, Int.reduceGT, Int.reduceGE, Int.reduceNeg, Int.reduceEq, Int.reduceNe, Int.reduceToNat, Int.reduceAdd, cls, fl, convR, acvB, acvS, capR, aeqL, ZC.leaf, eqTypes, List.contains_cons, List.contains_nil, teset, Tryd.ntmps14, Tryd.results14, inj_take, inj_drop, inj_agg, inj_len, inj_one, List.length_map, boxR, none_nb, none_box]
  refine ACallV.pure (pvalid_pure v hv) ?_
  cases h1 : valid v with
  | false =>
    simp only [awset0, awset1, awset2, awset3, awset4, awset5, awset6, ne_eq, eq_self, implies_true, imp_self, retR, atup, aresL, ares1, gval, inLz, boxR, buildR, noDead, AV.isDead, acmpnil, appR, appBox, storeB, abin, aint, astr, aun, abuild, afill, fieldPlaces, alit, aindexAddr, aindex, aslice, bnd, cutTag, amin, amax, aappend, appendTo, aelems, aconv, aiface, agetField, reduceIte, reduceCtorEq, Nat.reduceAdd, Nat.reduceLT, Nat.reduceLeDiff, Nat.reduceEqDiff, Nat.reduceSub, Nat.reduceMul, Nat.reduceBEq, Int.reduceBEq, Int.reduceBNe, Int.reduceLT, Int.reduceLE, Int.reduceGT, Int.reduceGE, Int.reduceNeg, Int.reduceEq, Int.reduceNe, Int.reduceToNat, Int.reduceAdd, cls, fl, convR, acvB, acvS, capR, aeqL, ZC.leaf, eqTypes, List.contains_cons, List.contains_nil, teset, inj_take, inj_drop, inj_agg, inj_len, inj_one, List.length_map, none_nb, none_box]
    refine ⟨_, rfl, ?_⟩
    have : removeV v p = (zeroV, 1) := by unfold removeV; rw [if_neg (fun h => by rw [h1] at h; cases h.1)]
    rw [this]
    exact .wk (wk_zero2 _)
  | true =>
    simp only [awset0, awset1, awset2, awset3, awset4, awset5, awset6, ne_eq, eq_self, implies_true, imp_self, retR, atup, aresL, ares1, gval, inLz, boxR, buildR, noDead, AV.isDead, acmpnil, appR, appBox, storeB, abin, aint, astr, aun, abuild, afill, fieldPlaces, alit, aindexAddr, aindex, aslice, bnd, cutTag, amin, amax, aappend, appendTo, aelems, aconv, aiface, agetField, reduceIte, reduceCtorEq, Nat.reduceAdd, Nat.reduceLT, Nat.reduceLeDiff, Nat.reduceEqDiff, Nat.reduceSub, Nat.reduceMul, Nat.reduceBEq, Int.reduceBEq, Int.reduceBNe, Int.reduceLT, Int.reduceLE, Int.reduceGT, Int.reduceGE, Int.reduceNeg, Int.reduceEq, Int.reduceNe, Int.reduceToNat, Int.reduceAdd, cls, fl, convR, acvB, acvS, capR, aeqL, ZC.leaf, eqTypes, List.contains_cons, List.contains_nil, teset, inj_take, inj_drop, inj_agg, inj_len, inj_one, List.length_map, none_nb, none_box]
    refine ACallV.pure (ppath_pure p (by omega)) ?_
    cases h2 : pathOk p with
    | false =>
      simp only [awset0, awset1, awset2, awset3, awset4, awset5, awset6, ne_eq, eq_self, implies_true, imp_self, retR, atup, aresL, ares1, gval, inLz, boxR, buildR, noDead, AV.isDead, acmpnil, appR, appBox, storeB, abin, aint, astr, aun, abuild, afill, fieldPlaces, alit, aindexAddr, aindex, aslice, bnd, cutTag, amin, amax, aappend, appendTo, aelems, aconv, aiface, agetField, reduceIte, reduceCtorEq, Nat.reduceAdd, Nat.reduceLT, Nat.reduceLeDiff, Nat.reduceEqDiff, Nat.reduceSub, Nat.reduceMul, Nat.reduceBEq, Int.reduceBEq, Int.reduceBNe, Int.reduceLT, Int.reduceLE, Int.reduceGT, Int.reduceGE, Int.reduceNeg, Int.reduceEq, Int.reduceNe, Int.reduceToNat, Int.reduceAdd, cls, fl, convR, acvB, acvS, capR, aeqL, ZC.leaf, eqTypes, List.contains_cons, List.contains_nil, teset, inj_take, inj_drop, inj_agg, inj_len, inj_one, List.length_map, none_nb, none_box]
      refine ⟨_, rfl, ?_⟩
      have : removeV v p = (zeroV, 1) := by unfold removeV; rw [if_neg (fun h => by rw [h2] at h; cases h.2)]
      rw [this]
      exact .wk (wk_zero2 _)
    | true =>
      have hvk := valid_ok h1
      have hspec : removeV v p = (if p.length = 0 then (zeroV, 3) else if (atS v p).isSome = true then (withoutP p v, 0) else (zeroV, 6)) := by unfold removeV; rw [if_pos ⟨h1, h2⟩]
      simp only [awset0, awset1, awset2, awset3, awset4, awset5, awset6, ne_eq, eq_self, implies_true, imp_self, retR, atup, aresL, ares1, gval, inLz, boxR, buildR, noDead, AV.isDead, acmpnil, appR, appBox, storeB, abin, aint, astr, aun, abuild, afill, fieldPlaces, alit, aindexAddr, aindex, aslice, bnd, cutTag, amin, amax, aappend, appendTo, aelems, aconv, aiface, agetField, reduceIte, reduceCtorEq, Nat.reduceAdd, Nat.reduceLT, Nat.reduceLeDiff, Nat.reduceEqDiff, Nat.reduceSub, Nat.reduceMul, Nat.reduceBEq, Int.reduceBEq, Int.reduceBNe, Int.reduceLT, Int.reduceLE, Int.reduceGT, Int.reduceGE, Int.reduceNeg, Int.reduceEq, Int.reduceNe, Int.reduceToNat, Int.reduceAdd, cls, fl, convR, acvB, acvS, capR, aeqL, ZC.leaf, eqTypes, List.contains_cons, List.contains_nil, teset, inj_take, inj_drop, inj_agg, inj_len, inj_one, List.length_map, none_nb, none_box]
      refine ACallV.pure (pat_pure v p hvk (by omega)) ?_
      rw [hspec]
      cases ha : atS v p with
      | none =>
        simp only [awset0, awset1, awset2, awset3, awset4, awset5, awset6, ne_eq, eq_self, implies_true, imp_self, retR, atup, aresL, ares1, gval, inLz, boxR, buildR, noDead, AV.isDead, acmpnil, appR, appBox, storeB, abin, aint, astr, aun, abuild, afill, fieldPlaces, alit, aindexAddr, aindex, aslice, bnd, cutTag, amin, amax, aappend, appendTo, aelems, aconv, aiface, agetField, reduceIte, reduceCtorEq, Nat.reduceAdd, Nat.reduceLT, Nat.reduceLeDiff, Nat.reduceEqDiff, Nat.reduceSub, Nat.reduceMul, Nat.reduceBEq, Int.reduceBEq, Int.reduceBNe, Int.reduceLT, Int.reduceLE, Int.reduceGT, Int.reduceGE, Int.reduceNeg, Int.reduceEq, Int.reduceNe, Int.reduceToNat, Int.reduceAdd, cls, fl, convR, acvB, acvS, capR, aeqL, ZC.leaf, eqTypes, List.contains_cons, List.contains_nil, teset, inj_take, inj_drop, inj_agg, inj_len, inj_one, List.length_map, none_nb, none_box, outV_n, outV_s]
        cases hc : ((p.length : Int) == 0) with
        | true =>
          simp only [beq_iff_eq] at hc
          simp only [awset0, awset1, awset2, awset3, awset4, awset5, awset6, ne_eq, eq_self, implies_true, imp_self, retR, atup, aresL, ares1, gval, inLz, boxR, buildR, noDead, AV.isDead, acmpnil, appR, appBox, storeB, abin, aint, astr, aun, abuild, afill, fieldPlaces, alit, aindexAddr, aindex, aslice, bnd, cutTag, amin, amax, aappend, appendTo, aelems, aconv, aiface, agetField, reduceIte, reduceCtorEq, Nat.reduceAdd, Nat.reduceLT, Nat.reduceLeDiff, Nat.reduceEqDiff, Nat.reduceSub, Nat.reduceMul, Nat.reduceBEq, Int.reduceBEq, Int.reduceBNe, Int.reduceLT, Int.reduceLE, Int.reduceGT, Int.reduceGE, Int.reduceNeg, Int.reduceEq, Int.reduceNe, Int.reduceToNat, Int.reduceAdd, cls, fl, convR, acvB, acvS, capR, aeqL, ZC.leaf, eqTypes, List.contains_cons, List.contains_nil, teset, inj_take, inj_drop, inj_agg, inj_len, inj_one, List.length_map, none_nb, none_box]
          refine ⟨_, rfl, ?_⟩
          rw [if_pos (by omega)]
          exact .wk (wk_zero2 _)
        | false =>
          simp only [beq_eq_false_iff_ne, ne_eq] at hc
          simp only [awset0, awset1, awset2, awset3, awset4, awset5, awset6, ne_eq, eq_self, implies_true, imp_self, retR, atup, aresL, ares1, gval, inLz, boxR, buildR, noDead, AV.isDead, acmpnil, appR, appBox, storeB, abin, aint, astr, aun, abuild, afill, fieldPlaces, alit, aindexAddr, aindex, aslice, bnd, cutTag, amin, amax, aappend, appendTo, aelems, aconv, aiface, agetField, reduceIte, reduceCtorEq, Nat.reduceAdd, Nat.reduceLT, Nat.reduceLeDiff, Nat.reduceEqDiff, Nat.reduceSub, Nat.reduceMul, Nat.reduceBEq, Int.reduceBEq, Int.reduceBNe, Int.reduceLT, Int.reduceLE, Int.reduceGT, Int.reduceGE, Int.reduceNeg, Int.reduceEq, Int.reduceNe, Int.reduceToNat, Int.reduceAdd, cls, fl, convR, acvB, acvS, capR, aeqL, ZC.leaf, eqTypes, List.contains_cons, List.contains_nil, teset, inj_take, inj_drop, inj_agg, inj_len, inj_one, List.length_map, none_nb, none_box]
          refine ⟨_, rfl, ?_⟩
          rw [if_neg (by omega)]
          exact .wk (wk_zero2 _)
      | some x =>
        simp only [awset0, awset1, awset2, awset3, awset4, awset5, awset6, ne_eq, eq_self, implies_true, imp_self, retR, atup, aresL, ares1, gval, inLz, boxR, buildR, noDead, AV.isDead, acmpnil, appR, appBox, storeB, abin, aint, astr, aun, abuild, afill, fieldPlaces, alit, aindexAddr, aindex, aslice, bnd, cutTag, amin, amax, aappend, appendTo, aelems, aconv, aiface, agetField, reduceIte, reduceCtorEq, Nat.reduceAdd, Nat.reduceLT, Nat.reduceLeDiff, Nat.reduceEqDiff, Nat.reduceSub, Nat.reduceMul, Nat.reduceBEq, Int.reduceBEq, Int.reduceBNe, Int.reduceLT, Int.reduceLE, Int.reduceGT, Int.reduceGE, Int.reduceNeg, Int.reduceEq, Int.reduceNe, Int.reduceToNat, Int.reduceAdd, cls, fl, convR, acvB, acvS, capR, aeqL, ZC.leaf, eqTypes, List.contains_cons, List.contains_nil, teset, inj_take, inj_drop, inj_agg, inj_len, inj_one, List.length_map, none_nb, none_box, outV_n, outV_s]
        cases hc : ((p.length : Int) == 0) with
        | true =>
          simp only [beq_iff_eq] at hc
          simp only [awset0, awset1, awset2, awset3, awset4, awset5, awset6, ne_eq, eq_self, implies_true, imp_self, retR, atup, aresL, ares1, gval, inLz, boxR, buildR, noDead, AV.isDead, acmpnil, appR, appBox, storeB, abin, aint, astr, aun, abuild, afill, fieldPlaces, alit, aindexAddr, aindex, aslice, bnd, cutTag, amin, amax, aappend, appendTo, aelems, aconv, aiface, agetField, reduceIte, reduceCtorEq, Nat.reduceAdd, Nat.reduceLT, Nat.reduceLeDiff, Nat.reduceEqDiff, Nat.reduceSub, Nat.reduceMul, Nat.reduceBEq, Int.reduceBEq, Int.reduceBNe, Int.reduceLT, Int.reduceLE, Int.reduceGT, Int.reduceGE, Int.reduceNeg, Int.reduceEq, Int.reduceNe, Int.reduceToNat, Int.reduceAdd, cls, fl, convR, acvB, acvS, capR, aeqL, ZC.leaf, eqTypes, List.contains_cons, List.contains_nil, teset, inj_take, inj_drop, inj_agg, inj_len, inj_one, List.length_map, none_nb, none_box]
          refine ⟨_, rfl, ?_⟩
          rw [if_pos (by omega)]
          exact .wk (wk_zero2 _)
        | false =>
          simp only [beq_eq_false_iff_ne, ne_eq] at hc
          have hp0 : p ≠ [] := by rintro rfl; simp at hc
          simp only [awset0, awset1, awset2, awset3, awset4, awset5, awset6, ne_eq, eq_self, implies_true, imp_self, retR, atup, aresL, ares1, gval, inLz, boxR, buildR, noDead, AV.isDead, acmpnil, appR, appBox, storeB, abin, aint, astr, aun, abuild, afill, fieldPlaces, alit, aindexAddr, aindex, aslice, bnd, cutTag, amin, amax, aappend, appendTo, aelems, aconv, aiface, agetField, reduceIte, reduceCtorEq, Nat.reduceAdd, Nat.reduceLT, Nat.reduceLeDiff, Nat.reduceEqDiff, Nat.reduceSub, Nat.reduceMul, Nat.reduceBEq, Int.reduceBEq, Int.reduceBNe, Int.reduceLT, Int.reduceLE, Int.reduceGT, Int.reduceGE, Int.reduceNeg, Int.reduceEq, Int.reduceNe, Int.reduceToNat, Int.reduceAdd, cls, fl, convR, acvB, acvS, capR, aeqL, ZC.leaf, eqTypes, List.contains_cons, List.contains_nil, teset, inj_take, inj_drop, inj_agg, inj_len, inj_one, List.length_map, none_nb, none_box]
          refine ACallV.pure (without_pure p v x hvk hp0 ha (by have := pathOk_len h2; omega)) ?_
          simp only [awset0, awset1, awset2, awset3, awset4, awset5, awset6, ne_eq, eq_self, implies_true, imp_self, retR, atup, aresL, ares1, gval, inLz, boxR, buildR, noDead, AV.isDead, acmpnil, appR, appBox, storeB, abin, aint, astr, aun, abuild, afill, fieldPlaces, alit, aindexAddr, aindex, aslice, bnd, cutTag, amin, amax, aappend, appendTo, aelems, aconv, aiface, agetField, reduceIte, reduceCtorEq, Nat.reduceAdd, Nat.reduceLT, Nat.reduceLeDiff, Nat.reduceEqDiff, Nat.reduceSub, Nat.reduceMul, Nat.reduceBEq, Int.reduceBEq, Int.reduceBNe, Int.reduceLT, Int.reduceLE, Int.reduceGT, Int.reduceGE, Int.reduceNeg, Int.reduceEq, Int.reduceNe, Int.reduceToNat, Int.reduceAdd, cls, fl, convR, acvB, acvS, capR, aeqL, ZC.leaf, eqTypes, List.contains_cons, List.contains_nil, teset, inj_take, inj_drop, inj_agg, inj_len, inj_one, List.length_map, none_nb, none_box]
          refine ACallV.pure (clone_tin _ (without_tin p v hvk)) ?_
          simp only [awset0, awset1, awset2, awset3, awset4, awset5, awset6, ne_eq, eq_self, implies_true, imp_self, retR, atup, aresL, ares1, gval, inLz, boxR, buildR, noDead, AV.isDead, acmpnil, appR, appBox, storeB, abin, aint, astr, aun, abuild, afill, fieldPlaces, alit, aindexAddr, aindex, aslice, bnd, cutTag, amin, amax, aappend, appendTo, aelems, aconv, aiface, agetField, reduceIte, reduceCtorEq, Nat.reduceAdd, Nat.reduceLT, Nat.reduceLeDiff, Nat.reduceEqDiff, Nat.reduceSub, Nat.reduceMul, Nat.reduceBEq, Int.reduceBEq, Int.reduceBNe, Int.reduceLT, Int.reduceLE, Int.reduceGT, Int.reduceGE, Int.reduceNeg, Int.reduceEq, Int.reduceNe, Int.reduceToNat, Int.reduceAdd, cls, fl, convR, acvB, acvS, capR, aeqL, ZC.leaf, eqTypes, List.contains_cons, List.contains_nil, teset, inj_take, inj_drop, inj_agg, inj_len, inj_one, List.length_map, none_nb, none_box]
          refine ⟨_, rfl, ?_⟩
          rw [if_neg (by omega)]
          exact .refl _ _
end Go.Proofs.YtjdocenbfghglaaDoor.AW
end
