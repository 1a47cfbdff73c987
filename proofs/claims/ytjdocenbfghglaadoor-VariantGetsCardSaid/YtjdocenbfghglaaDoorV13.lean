/- V, part 13: the program's right and Valid. -/
import Derived.Test.YtjdocenbfghglaaDoorV12
set_option linter.unusedSimpArgs false
set_option linter.unusedVariables false
namespace Go.Proofs.YtjdocenbfghglaaDoor.AW
open Go Go.RowKit

set_option maxHeartbeats 4000000 in
theorem right_calls : ∀ (L : Nat), L < 1000 → ∀ v : V, v.sm → RightAt L v := by
  intro L
  induction L with
  | zero =>
    intro _ v _ n b h hn hb
    refine ACalls.cutSet rfl rfl (fun hs hbn => ?_) ⟨_, hb⟩
    have ne1 : (b = h.nb) = False := by simp only [eq_iff_iff, iff_false]; omega
    have ne2 : (b = h.nb + 1) = False := by simp only [eq_iff_iff, iff_false]; omega
    have ne3 : (b = h.nb + 1 + 1) = False := by simp only [eq_iff_iff, iff_false]; omega
    have ne4 : (h.nb = b) = False := by simp only [eq_iff_iff, iff_false]; omega
    have ne5 : (h.nb + 1 = b) = False := by simp only [eq_iff_iff, iff_false]; omega
    have ne6 : (h.nb + 1 + 1 = b) = False := by simp only [eq_iff_iff, iff_false]; omega
    have hw : IntKind.i64.wrap ((n : Int) + 1) = ((n + 1 : Nat) : Int) := wrap_succ (by omega)
    refine acalls_of te_ok [18, 19, 20, 21] Tryd.func33 (c := _) rfl (Nat.le_of_ble_eq_true rfl) ?_
    simp only [awset0, awset1, awset2, awset3, awset4, awset5, ne_eq, eq_self, implies_true, imp_self, retR, atup, aresL, ares1, gval, inLz, boxR, buildR, noDead, AV.isDead, acmpnil, appR, appBox, storeB, abin, aint, astr, aun, abuild, afill, fieldPlaces, alit, aindexAddr, aindex, aslice, bnd, cutTag, amin, amax, aappend, appendTo, aelems, aconv, aiface, agetField, reduceIte, reduceCtorEq, Nat.reduceAdd, Nat.reduceLT, Nat.reduceLeDiff, Nat.reduceEqDiff, Nat.reduceSub, Nat.reduceMul, Nat.reduceBEq, Int.reduceBEq, Int.reduceBNe, Int.reduceLT, Int.reduceLE, Int.reduceGT, Int.reduceGE, Int.reduceNeg, Int.reduceEq, Int.reduceNe, Int.reduceToNat, Int.reduceAdd, cls, fl, teset, Tryd.ntmps33, Tryd.results33, boxR, inj_take, inj_drop, inj_agg, inj_len, inj_one, List.length_map, hb, ne1, ne2, ne3, ne4, ne5, ne6, hw, Int.natCast_zero]
    exact ⟨rfl, ((h.new (inj v).cells).new [.int .i64 0]).new [.ptr b 0], by (repeat (first | exact AH.Ext.refl _ | assumption | refine AH.Ext.set ?_ (by first | omega | (simp only [new_nb, set_nb, kill_nb, newTok_nb, setTok_nb]; omega)) _ | refine AH.Ext.new ?_ _)), rfl⟩
  | succ L ih =>
    intro hL v hsm n b h hn hb
    obtain ⟨k, i, t, xs, ks⟩ := v
    simp only [V.sm, V.smL_iff] at hsm
    obtain ⟨hxl, hkl, hxs⟩ := hsm
    rw [inj_mk]
    refine ACalls.cutSet rfl rfl (fun hs hbn => ?_) ⟨_, hb⟩
    have ne1 : (b = h.nb) = False := by simp only [eq_iff_iff, iff_false]; omega
    have ne2 : (b = h.nb + 1) = False := by simp only [eq_iff_iff, iff_false]; omega
    have ne3 : (b = h.nb + 1 + 1) = False := by simp only [eq_iff_iff, iff_false]; omega
    have ne4 : (h.nb = b) = False := by simp only [eq_iff_iff, iff_false]; omega
    have ne5 : (h.nb + 1 = b) = False := by simp only [eq_iff_iff, iff_false]; omega
    have ne6 : (h.nb + 1 + 1 = b) = False := by simp only [eq_iff_iff, iff_false]; omega
    have hw : IntKind.i64.wrap ((n : Int) + 1) = ((n + 1 : Nat) : Int) := wrap_succ (by omega)
    have hlev : decide (((L + 1 : Nat) : Int) < 1) = false := by simp; omega
    refine acalls_of te_ok [18, 19, 20, 21, 28, 29, 30, 31, 39, 40, 41, 44, 45, 46, 52, 53, 54, 55, 56, 57, 58, 59, 62, 63, 64, 70, 71, 72, 75, 76, 77, 80, 81, 82, 88, 89, 90, 142, 143, 144] Tryd.func33 (c := _) rfl (Nat.le_of_ble_eq_true rfl) ?_
    simp only [awset0, awset1, awset2, awset3, awset4, awset5, ne_eq, eq_self, implies_true, imp_self, retR, atup, aresL, ares1, gval, inLz, boxR, buildR, noDead, AV.isDead, acmpnil, appR, appBox, storeB, abin, aint, astr, aun, abuild, afill, fieldPlaces, alit, aindexAddr, aindex, aslice, bnd, cutTag, amin, amax, aappend, appendTo, aelems, aconv, aiface, agetField, reduceIte, reduceCtorEq, Nat.reduceAdd, Nat.reduceLT, Nat.reduceLeDiff, Nat.reduceEqDiff, Nat.reduceSub, Nat.reduceMul, Nat.reduceBEq, Int.reduceBEq, Int.reduceBNe, Int.reduceLT, Int.reduceLE, Int.reduceGT, Int.reduceGE, Int.reduceNeg, Int.reduceEq, Int.reduceNe, Int.reduceToNat, Int.reduceAdd, cls, fl, teset, Tryd.ntmps33, Tryd.results33, boxR, inj_take, inj_drop, inj_agg, inj_len, inj_one, List.length_map, hb, ne1, ne2, ne3, ne4, ne5, ne6, hw, hlev]
    generalize hH : ((h.new [AV.int IntKind.i64 k, AV.int IntKind.i64 i, AV.str t, AV.sl Tag.ro 5 (List.map inj xs), AV.sl Tag.ro 1 (List.map AV.str ks)]).new [.int .i64 ((L + 1 : Nat) : Int)]).new [.ptr b 0] = H
    have g0 : H.box h.nb = some [AV.int IntKind.i64 k, AV.int IntKind.i64 i, AV.str t, AV.sl Tag.ro 5 (List.map inj xs), AV.sl Tag.ro 1 (List.map AV.str ks)] := by rw [← hH, new_box, if_neg (by simp only [new_nb]; omega), new_box, if_neg (by simp only [new_nb]; omega), new_box, if_pos rfl]
    have g1 : H.box (h.nb + 1) = some [.int .i64 ((L + 1 : Nat) : Int)] := by rw [← hH, new_box, if_neg (by simp only [new_nb]; omega), new_box, if_pos (by simp only [new_nb])]
    have g2 : H.box (h.nb + 1 + 1) = some [.ptr b 0] := by rw [← hH]; simp [new_box, new_nb]
    have hext : h.Ext H := by rw [← hH]; (repeat (first | exact AH.Ext.refl _ | assumption | refine AH.Ext.set ?_ (by first | omega | (simp only [new_nb, set_nb, kill_nb, newTok_nb, setTok_nb]; omega)) _ | refine AH.Ext.new ?_ _))
    have badfin : rightS (L + 1) n (.mk k i t xs ks) = (false, n + 1) → AOut.ret (.bool false) = .ret (.bool (rightS (L + 1) n (.mk k i t xs ks)).1) ∧ ∃ h1, h.Ext h1 ∧ H.set b [.int .i64 ((n + 1 : Nat) : Int)] = h1.set b [.int .i64 (rightS (L + 1) n (.mk k i t xs ks)).2] := by
      intro e; rw [e]; exact ⟨rfl, H, hext, rfl⟩
    by_cases hn60 : n + 1 > 60
    · have hq : decide (((n + 1 : Nat) : Int) > 60) = true := by simp; omega
      simp only [awset0, awset1, awset2, awset3, awset4, awset5, ne_eq, eq_self, implies_true, imp_self, retR, atup, aresL, ares1, gval, inLz, boxR, buildR, noDead, AV.isDead, acmpnil, appR, appBox, storeB, abin, aint, astr, aun, abuild, afill, fieldPlaces, alit, aindexAddr, aindex, aslice, bnd, cutTag, amin, amax, aappend, appendTo, aelems, aconv, aiface, agetField, reduceIte, reduceCtorEq, Nat.reduceAdd, Nat.reduceLT, Nat.reduceLeDiff, Nat.reduceEqDiff, Nat.reduceSub, Nat.reduceMul, Nat.reduceBEq, Int.reduceBEq, Int.reduceBNe, Int.reduceLT, Int.reduceLE, Int.reduceGT, Int.reduceGE, Int.reduceNeg, Int.reduceEq, Int.reduceNe, Int.reduceToNat, Int.reduceAdd, cls, fl, teset, hq]
      exact badfin (by simp only [rightS]; rw [if_pos hn60])
    have hq : decide (((n + 1 : Nat) : Int) > 60) = false := by simp; omega
    have hsp : rightS (L + 1) n (.mk k i t xs ks) = if shape (.mk k i t xs ks) = true then (decide ((rightL (rightS L) (n + 1) xs 0).1 < 0), (rightL (rightS L) (n + 1) xs 0).2) else (false, n + 1) := by simp only [rightS, V.items]; rw [if_neg hn60]; rfl
    have leaf : ∀ B : Bool, shape (.mk k i t xs ks) = B → (B = true → xs = []) → AOut.ret (.bool B) = .ret (.bool (rightS (L + 1) n (.mk k i t xs ks)).1) ∧ ∃ h1, h.Ext h1 ∧ H.set b [.int .i64 ((n + 1 : Nat) : Int)] = h1.set b [.int .i64 (rightS (L + 1) n (.mk k i t xs ks)).2] := by
      intro B e1 e2
      rw [hsp, e1]
      cases B with
      | false => exact ⟨rfl, H, hext, rfl⟩
      | true => rw [e2 rfl]; exact ⟨rfl, H, hext, rfl⟩
    simp only [awset0, awset1, awset2, awset3, awset4, awset5, ne_eq, eq_self, implies_true, imp_self, retR, atup, aresL, ares1, gval, inLz, boxR, buildR, noDead, AV.isDead, acmpnil, appR, appBox, storeB, abin, aint, astr, aun, abuild, afill, fieldPlaces, alit, aindexAddr, aindex, aslice, bnd, cutTag, amin, amax, aappend, appendTo, aelems, aconv, aiface, agetField, reduceIte, reduceCtorEq, Nat.reduceAdd, Nat.reduceLT, Nat.reduceLeDiff, Nat.reduceEqDiff, Nat.reduceSub, Nat.reduceMul, Nat.reduceBEq, Int.reduceBEq, Int.reduceBNe, Int.reduceLT, Int.reduceLE, Int.reduceGT, Int.reduceGE, Int.reduceNeg, Int.reduceEq, Int.reduceNe, Int.reduceToNat, Int.reduceAdd, cls, fl, teset, hq, inj_take, inj_drop, inj_agg, inj_len, inj_one, List.length_map, g0, g1, g2, ne1, ne2, ne3, ne4, ne5, ne6]
    by_cases h0 : k = 0
    · have q0 : (k == 0) = true := by simp [h0]
      simp only [awset0, awset1, awset2, awset3, awset4, awset5, ne_eq, eq_self, implies_true, imp_self, retR, atup, aresL, ares1, gval, inLz, boxR, buildR, noDead, AV.isDead, acmpnil, appR, appBox, storeB, abin, aint, astr, aun, abuild, afill, fieldPlaces, alit, aindexAddr, aindex, aslice, bnd, cutTag, amin, amax, aappend, appendTo, aelems, aconv, aiface, agetField, reduceIte, reduceCtorEq, Nat.reduceAdd, Nat.reduceLT, Nat.reduceLeDiff, Nat.reduceEqDiff, Nat.reduceSub, Nat.reduceMul, Nat.reduceBEq, Int.reduceBEq, Int.reduceBNe, Int.reduceLT, Int.reduceLE, Int.reduceGT, Int.reduceGE, Int.reduceNeg, Int.reduceEq, Int.reduceNe, Int.reduceToNat, Int.reduceAdd, cls, fl, teset, q0, g0, g1, g2, ne1, ne2, ne3, ne4, ne5, ne6]
      refine leaf _ ?_ (fun hB => ?_)
      · subst h0
        rw [shape_0]
        simp only [plainS, V.int, V.text, V.items, V.keys, Bool.false_or, Bool.true_or, Bool.true_and, ge_iff_le]
        generalize ((xs.length : Int) == 0) = x1
        generalize ((ks.length : Int) == 0) = x2
        generalize (t.toList == (⟨#[]⟩ : ByteArray).toList) = x3
        cases x1 <;> cases x2 <;> cases x3 <;> simp
      · simp only [Bool.and_eq_true, beq_iff_eq] at hB
        exact List.eq_nil_of_length_eq_zero (by omega)
    have q0 : (k == 0) = false := by simp [h0]
    by_cases h1 : k = 1
    · have q1 : (k == 1) = true := by simp [h1]
      simp only [awset0, awset1, awset2, awset3, awset4, awset5, ne_eq, eq_self, implies_true, imp_self, retR, atup, aresL, ares1, gval, inLz, boxR, buildR, noDead, AV.isDead, acmpnil, appR, appBox, storeB, abin, aint, astr, aun, abuild, afill, fieldPlaces, alit, aindexAddr, aindex, aslice, bnd, cutTag, amin, amax, aappend, appendTo, aelems, aconv, aiface, agetField, reduceIte, reduceCtorEq, Nat.reduceAdd, Nat.reduceLT, Nat.reduceLeDiff, Nat.reduceEqDiff, Nat.reduceSub, Nat.reduceMul, Nat.reduceBEq, Int.reduceBEq, Int.reduceBNe, Int.reduceLT, Int.reduceLE, Int.reduceGT, Int.reduceGE, Int.reduceNeg, Int.reduceEq, Int.reduceNe, Int.reduceToNat, Int.reduceAdd, cls, fl, teset, q0, q1, g0, g1, g2, ne1, ne2, ne3, ne4, ne5, ne6]
      refine leaf _ ?_ (fun hB => ?_)
      · subst h1
        rw [shape_1]
        simp only [plainS, V.int, V.text, V.items, V.keys, Bool.false_or, Bool.true_or, Bool.true_and, ge_iff_le]
        generalize ((xs.length : Int) == 0) = x1
        generalize ((ks.length : Int) == 0) = x2
        generalize (t.toList == (⟨#[]⟩ : ByteArray).toList) = x3
        cases x1 <;> cases x2 <;> cases x3 <;> simp
      · simp only [Bool.and_eq_true, beq_iff_eq] at hB
        exact List.eq_nil_of_length_eq_zero (by omega)
    have q1 : (k == 1) = false := by simp [h1]
    by_cases h2 : k = 2
    · have q2 : (k == 2) = true := by simp [h2]
      simp only [awset0, awset1, awset2, awset3, awset4, awset5, ne_eq, eq_self, implies_true, imp_self, retR, atup, aresL, ares1, gval, inLz, boxR, buildR, noDead, AV.isDead, acmpnil, appR, appBox, storeB, abin, aint, astr, aun, abuild, afill, fieldPlaces, alit, aindexAddr, aindex, aslice, bnd, cutTag, amin, amax, aappend, appendTo, aelems, aconv, aiface, agetField, reduceIte, reduceCtorEq, Nat.reduceAdd, Nat.reduceLT, Nat.reduceLeDiff, Nat.reduceEqDiff, Nat.reduceSub, Nat.reduceMul, Nat.reduceBEq, Int.reduceBEq, Int.reduceBNe, Int.reduceLT, Int.reduceLE, Int.reduceGT, Int.reduceGE, Int.reduceNeg, Int.reduceEq, Int.reduceNe, Int.reduceToNat, Int.reduceAdd, cls, fl, teset, q0, q1, q2, g0, g1, g2, ne1, ne2, ne3, ne4, ne5, ne6]
      refine leaf _ ?_ (fun hB => ?_)
      · subst h2
        rw [shape_2]
        simp only [plainS, V.int, V.text, V.items, V.keys, Bool.false_or, Bool.true_or, Bool.true_and, ge_iff_le]
        generalize ((xs.length : Int) == 0) = x1
        generalize ((ks.length : Int) == 0) = x2
        generalize (t.toList == (⟨#[]⟩ : ByteArray).toList) = x3
        generalize decide (-1000000000000 ≤ i) = x4
        generalize decide (i ≤ 1000000000000) = x5
        cases x4 <;> cases x5 <;> cases x1 <;> cases x2 <;> cases x3 <;> simp
      · simp only [Bool.and_eq_true, beq_iff_eq] at hB
        exact List.eq_nil_of_length_eq_zero (by omega)
    have q2 : (k == 2) = false := by simp [h2]
    by_cases h3 : k = 3
    · have q3 : (k == 3) = true := by simp [h3]
      simp only [awset0, awset1, awset2, awset3, awset4, awset5, ne_eq, eq_self, implies_true, imp_self, retR, atup, aresL, ares1, gval, inLz, boxR, buildR, noDead, AV.isDead, acmpnil, appR, appBox, storeB, abin, aint, astr, aun, abuild, afill, fieldPlaces, alit, aindexAddr, aindex, aslice, bnd, cutTag, amin, amax, aappend, appendTo, aelems, aconv, aiface, agetField, reduceIte, reduceCtorEq, Nat.reduceAdd, Nat.reduceLT, Nat.reduceLeDiff, Nat.reduceEqDiff, Nat.reduceSub, Nat.reduceMul, Nat.reduceBEq, Int.reduceBEq, Int.reduceBNe, Int.reduceLT, Int.reduceLE, Int.reduceGT, Int.reduceGE, Int.reduceNeg, Int.reduceEq, Int.reduceNe, Int.reduceToNat, Int.reduceAdd, cls, fl, teset, q0, q1, q2, q3, g0, g1, g2, ne1, ne2, ne3, ne4, ne5, ne6]
      have hs3 : shape (.mk k i t xs ks) = (((xs.length : Int) == 0 && (ks.length : Int) == 0 && i == 0) && isText t) := by
        subst h3
        rw [shape_3]
        simp only [plainS, V.int, V.text, V.items, V.keys, Bool.false_or, Bool.true_or, Bool.true_and]
        generalize ((xs.length : Int) == 0) = x1
        generalize ((ks.length : Int) == 0) = x2
        generalize (i == 0) = x3
        cases x1 <;> cases x2 <;> cases x3 <;> simp
      cases hB : ((xs.length : Int) == 0 && (ks.length : Int) == 0 && i == 0) with
      | false =>
        simp only [awset0, awset1, awset2, awset3, awset4, awset5, ne_eq, eq_self, implies_true, imp_self, retR, atup, aresL, ares1, gval, inLz, boxR, buildR, noDead, AV.isDead, acmpnil, appR, appBox, storeB, abin, aint, astr, aun, abuild, afill, fieldPlaces, alit, aindexAddr, aindex, aslice, bnd, cutTag, amin, amax, aappend, appendTo, aelems, aconv, aiface, agetField, reduceIte, reduceCtorEq, Nat.reduceAdd, Nat.reduceLT, Nat.reduceLeDiff, Nat.reduceEqDiff, Nat.reduceSub, Nat.reduceMul, Nat.reduceBEq, Int.reduceBEq, Int.reduceBNe, Int.reduceLT, Int.reduceLE, Int.reduceGT, Int.reduceGE, Int.reduceNeg, Int.reduceEq, Int.reduceNe, Int.reduceToNat, Int.reduceAdd, cls, fl, teset, g0, g1, g2, ne1, ne2, ne3, ne4, ne5, ne6]
        exact leaf false (by rw [hs3, hB]; rfl) (fun e => by cases e)
      | true =>
        simp only [awset0, awset1, awset2, awset3, awset4, awset5, ne_eq, eq_self, implies_true, imp_self, retR, atup, aresL, ares1, gval, inLz, boxR, buildR, noDead, AV.isDead, acmpnil, appR, appBox, storeB, abin, aint, astr, aun, abuild, afill, fieldPlaces, alit, aindexAddr, aindex, aslice, bnd, cutTag, amin, amax, aappend, appendTo, aelems, aconv, aiface, agetField, reduceIte, reduceCtorEq, Nat.reduceAdd, Nat.reduceLT, Nat.reduceLeDiff, Nat.reduceEqDiff, Nat.reduceSub, Nat.reduceMul, Nat.reduceBEq, Int.reduceBEq, Int.reduceBNe, Int.reduceLT, Int.reduceLE, Int.reduceGT, Int.reduceGE, Int.reduceNeg, Int.reduceEq, Int.reduceNe, Int.reduceToNat, Int.reduceAdd, cls, fl, teset, g0, g1, g2, ne1, ne2, ne3, ne4, ne5, ne6]
        refine ACallV.pure (text_pure t) ?_
        simp only [awset0, awset1, awset2, awset3, awset4, awset5, ne_eq, eq_self, implies_true, imp_self, retR, atup, aresL, ares1, gval, inLz, boxR, buildR, noDead, AV.isDead, acmpnil, appR, appBox, storeB, abin, aint, astr, aun, abuild, afill, fieldPlaces, alit, aindexAddr, aindex, aslice, bnd, cutTag, amin, amax, aappend, appendTo, aelems, aconv, aiface, agetField, reduceIte, reduceCtorEq, Nat.reduceAdd, Nat.reduceLT, Nat.reduceLeDiff, Nat.reduceEqDiff, Nat.reduceSub, Nat.reduceMul, Nat.reduceBEq, Int.reduceBEq, Int.reduceBNe, Int.reduceLT, Int.reduceLE, Int.reduceGT, Int.reduceGE, Int.reduceNeg, Int.reduceEq, Int.reduceNe, Int.reduceToNat, Int.reduceAdd, cls, fl, teset, g0, g1, g2, ne1, ne2, ne3, ne4, ne5, ne6]
        refine leaf _ (by rw [hs3, hB]; rfl) (fun _ => ?_)
        simp only [Bool.and_eq_true, beq_iff_eq] at hB
        exact List.eq_nil_of_length_eq_zero (by omega)
    have q3 : (k == 3) = false := by simp [h3]
    by_cases h5 : k = 5
    · have q5 : (k == 5) = true := by simp [h5]
      simp only [awset0, awset1, awset2, awset3, awset4, awset5, ne_eq, eq_self, implies_true, imp_self, retR, atup, aresL, ares1, gval, inLz, boxR, buildR, noDead, AV.isDead, acmpnil, appR, appBox, storeB, abin, aint, astr, aun, abuild, afill, fieldPlaces, alit, aindexAddr, aindex, aslice, bnd, cutTag, amin, amax, aappend, appendTo, aelems, aconv, aiface, agetField, reduceIte, reduceCtorEq, Nat.reduceAdd, Nat.reduceLT, Nat.reduceLeDiff, Nat.reduceEqDiff, Nat.reduceSub, Nat.reduceMul, Nat.reduceBEq, Int.reduceBEq, Int.reduceBNe, Int.reduceLT, Int.reduceLE, Int.reduceGT, Int.reduceGE, Int.reduceNeg, Int.reduceEq, Int.reduceNe, Int.reduceToNat, Int.reduceAdd, cls, fl, teset, q0, q1, q2, q3, q5, g0, g1, g2, ne1, ne2, ne3, ne4, ne5, ne6, inj_take, inj_drop, inj_agg, inj_len, inj_one, List.length_map]
      have hs5 : shape (.mk k i t xs ks) = ((i == 0 && t.toList == (⟨#[]⟩ : ByteArray).toList) && (ks.length == xs.length && keysOk ks)) := by
        subst h5
        rw [shape_5]
        simp only [plainS, V.int, V.text, V.items, V.keys, Bool.false_or, Bool.true_or, Bool.true_and, Bool.and_true, Bool.and_assoc]
      cases hk : ((ks.length : Int) != (xs.length : Int)) with
      | true =>
        simp only [awset0, awset1, awset2, awset3, awset4, awset5, ne_eq, eq_self, implies_true, imp_self, retR, atup, aresL, ares1, gval, inLz, boxR, buildR, noDead, AV.isDead, acmpnil, appR, appBox, storeB, abin, aint, astr, aun, abuild, afill, fieldPlaces, alit, aindexAddr, aindex, aslice, bnd, cutTag, amin, amax, aappend, appendTo, aelems, aconv, aiface, agetField, reduceIte, reduceCtorEq, Nat.reduceAdd, Nat.reduceLT, Nat.reduceLeDiff, Nat.reduceEqDiff, Nat.reduceSub, Nat.reduceMul, Nat.reduceBEq, Int.reduceBEq, Int.reduceBNe, Int.reduceLT, Int.reduceLE, Int.reduceGT, Int.reduceGE, Int.reduceNeg, Int.reduceEq, Int.reduceNe, Int.reduceToNat, Int.reduceAdd, cls, fl, teset, g0, g1, g2, ne1, ne2, ne3, ne4, ne5, ne6]
        have : (ks.length == xs.length) = false := by rw [beq_eq_false_iff_ne]; simp only [bne_iff_ne] at hk; omega
        exact badfin (by rw [hsp, hs5, this]; simp)
      | false =>
        have hkx : ks.length = xs.length := by simp only [bne_eq_false_iff_eq] at hk; omega
        simp only [awset0, awset1, awset2, awset3, awset4, awset5, ne_eq, eq_self, implies_true, imp_self, retR, atup, aresL, ares1, gval, inLz, boxR, buildR, noDead, AV.isDead, acmpnil, appR, appBox, storeB, abin, aint, astr, aun, abuild, afill, fieldPlaces, alit, aindexAddr, aindex, aslice, bnd, cutTag, amin, amax, aappend, appendTo, aelems, aconv, aiface, agetField, reduceIte, reduceCtorEq, Nat.reduceAdd, Nat.reduceLT, Nat.reduceLeDiff, Nat.reduceEqDiff, Nat.reduceSub, Nat.reduceMul, Nat.reduceBEq, Int.reduceBEq, Int.reduceBNe, Int.reduceLT, Int.reduceLE, Int.reduceGT, Int.reduceGE, Int.reduceNeg, Int.reduceEq, Int.reduceNe, Int.reduceToNat, Int.reduceAdd, cls, fl, teset, g0, g1, g2, ne1, ne2, ne3, ne4, ne5, ne6, inj_take, inj_drop, inj_agg, inj_len, inj_one, List.length_map]
        refine ⟨fun m s' h' => ∃ (j : Nat), s' 3 = .ptr h.nb 0 ∧ s' 4 = .ptr (h.nb + 1) 0 ∧ s' 5 = .ptr (h.nb + 1 + 1) 0 ∧ s' 107 = .sl .ro 1 (ks.map .str) ∧ s' 108 = .int .i64 ks.length ∧ s' 109 = .int .i64 j ∧ h' = H.set b [.int .i64 ((n + 1 : Nat) : Int)] ∧ m + j = ks.length ∧ (∀ j', j' < j → keyOk ks j' = true), ⟨ks.length, 0, ?_⟩, ?_⟩
        · simp only [awset0, awset1, awset2, awset3, awset4, awset5, ne_eq, eq_self, implies_true, imp_self, retR, atup, aresL, ares1, gval, inLz, boxR, buildR, noDead, AV.isDead, acmpnil, appR, appBox, storeB, abin, aint, astr, aun, abuild, afill, fieldPlaces, alit, aindexAddr, aindex, aslice, bnd, cutTag, amin, amax, aappend, appendTo, aelems, aconv, aiface, agetField, reduceIte, reduceCtorEq, Nat.reduceAdd, Nat.reduceLT, Nat.reduceLeDiff, Nat.reduceEqDiff, Nat.reduceSub, Nat.reduceMul, Nat.reduceBEq, Int.reduceBEq, Int.reduceBNe, Int.reduceLT, Int.reduceLE, Int.reduceGT, Int.reduceGE, Int.reduceNeg, Int.reduceEq, Int.reduceNe, Int.reduceToNat, Int.reduceAdd, cls, fl, teset, Int.natCast_zero]
          exact fun j' hj' => absurd hj' (Nat.not_lt_zero _)
        · rintro m s' h' ⟨j, e3, e4, e5, e107, e108, e109, hh, hm, hall⟩
          subst hh
          simp only [awset0, awset1, awset2, awset3, awset4, awset5, ne_eq, eq_self, implies_true, imp_self, retR, atup, aresL, ares1, gval, inLz, boxR, buildR, noDead, AV.isDead, acmpnil, appR, appBox, storeB, abin, aint, astr, aun, abuild, afill, fieldPlaces, alit, aindexAddr, aindex, aslice, bnd, cutTag, amin, amax, aappend, appendTo, aelems, aconv, aiface, agetField, reduceIte, reduceCtorEq, Nat.reduceAdd, Nat.reduceLT, Nat.reduceLeDiff, Nat.reduceEqDiff, Nat.reduceSub, Nat.reduceMul, Nat.reduceBEq, Int.reduceBEq, Int.reduceBNe, Int.reduceLT, Int.reduceLE, Int.reduceGT, Int.reduceGE, Int.reduceNeg, Int.reduceEq, Int.reduceNe, Int.reduceToNat, Int.reduceAdd, cls, fl, teset, e3, e4, e5, e107, e108, e109]
          cases hc : decide ((j : Int) < (ks.length : Int)) with
          | false =>
            simp only [decide_eq_false_iff_not] at hc
            have hko : keysOk ks = true := by
              unfold keysOk
              rw [List.all_eq_true]
              intro j' hj'
              exact hall j' (by have := List.mem_range.1 hj'; omega)
            have hnoshape : (i == 0 && t.toList == (⟨#[]⟩ : ByteArray).toList) = false → shape (.mk k i t xs ks) = false := fun e => by rw [hs5, e]; rfl
            have hshape : (i == 0 && t.toList == (⟨#[]⟩ : ByteArray).toList) = true → shape (.mk k i t xs ks) = true := fun e => by rw [hs5, hko, hkx, e]; simp
            simp only [awset0, awset1, awset2, awset3, awset4, awset5, ne_eq, eq_self, implies_true, imp_self, retR, atup, aresL, ares1, gval, inLz, boxR, buildR, noDead, AV.isDead, acmpnil, appR, appBox, storeB, abin, aint, astr, aun, abuild, afill, fieldPlaces, alit, aindexAddr, aindex, aslice, bnd, cutTag, amin, amax, aappend, appendTo, aelems, aconv, aiface, agetField, reduceIte, reduceCtorEq, Nat.reduceAdd, Nat.reduceLT, Nat.reduceLeDiff, Nat.reduceEqDiff, Nat.reduceSub, Nat.reduceMul, Nat.reduceBEq, Int.reduceBEq, Int.reduceBNe, Int.reduceLT, Int.reduceLE, Int.reduceGT, Int.reduceGE, Int.reduceNeg, Int.reduceEq, Int.reduceNe, Int.reduceToNat, Int.reduceAdd, cls, fl, teset, e3, e4, e5, g0, g1, g2, ne1, ne2, ne3, ne4, ne5, ne6]
            cases hB : (i == 0 && t.toList == (⟨#[]⟩ : ByteArray).toList) with
            | false =>
              simp only [awset0, awset1, awset2, awset3, awset4, awset5, ne_eq, eq_self, implies_true, imp_self, retR, atup, aresL, ares1, gval, inLz, boxR, buildR, noDead, AV.isDead, acmpnil, appR, appBox, storeB, abin, aint, astr, aun, abuild, afill, fieldPlaces, alit, aindexAddr, aindex, aslice, bnd, cutTag, amin, amax, aappend, appendTo, aelems, aconv, aiface, agetField, reduceIte, reduceCtorEq, Nat.reduceAdd, Nat.reduceLT, Nat.reduceLeDiff, Nat.reduceEqDiff, Nat.reduceSub, Nat.reduceMul, Nat.reduceBEq, Int.reduceBEq, Int.reduceBNe, Int.reduceLT, Int.reduceLE, Int.reduceGT, Int.reduceGE, Int.reduceNeg, Int.reduceEq, Int.reduceNe, Int.reduceToNat, Int.reduceAdd, cls, fl, teset, e3, e4, e5, g0, g1, g2, ne1, ne2, ne3, ne4, ne5, ne6]
              exact badfin (by rw [hsp, hnoshape hB]; rfl)
            | true =>
              simp only [awset0, awset1, awset2, awset3, awset4, awset5, ne_eq, eq_self, implies_true, imp_self, retR, atup, aresL, ares1, gval, inLz, boxR, buildR, noDead, AV.isDead, acmpnil, appR, appBox, storeB, abin, aint, astr, aun, abuild, afill, fieldPlaces, alit, aindexAddr, aindex, aslice, bnd, cutTag, amin, amax, aappend, appendTo, aelems, aconv, aiface, agetField, reduceIte, reduceCtorEq, Nat.reduceAdd, Nat.reduceLT, Nat.reduceLeDiff, Nat.reduceEqDiff, Nat.reduceSub, Nat.reduceMul, Nat.reduceBEq, Int.reduceBEq, Int.reduceBNe, Int.reduceLT, Int.reduceLE, Int.reduceGT, Int.reduceGE, Int.reduceNeg, Int.reduceEq, Int.reduceNe, Int.reduceToNat, Int.reduceAdd, cls, fl, teset, e3, e4, e5, g0, g1, g2, ne1, ne2, ne3, ne4, ne5, ne6]
              refine ACallV.det ⟨Tryd.f49, Tryd.func49, rfl, by kernel_rfl⟩ rfl (containsfn_calls L (by omega) xs (fun x hx => ih (by omega) x (hxs x hx)) hxl (n + 1) b (h.nb + 1) (h.nb + 1 + 1) (H.set b [.int .i64 ((n + 1 : Nat) : Int)]) (by omega) (by rw [set_box, if_pos rfl]) (by rw [set_box, if_neg (by omega)]; exact g1) (by rw [set_box, if_neg (by omega)]; exact g2) (by omega) (by omega)) ?_
              simp only [awset0, awset1, awset2, awset3, awset4, awset5, ne_eq, eq_self, implies_true, imp_self, retR, atup, aresL, ares1, gval, inLz, boxR, buildR, noDead, AV.isDead, acmpnil, appR, appBox, storeB, abin, aint, astr, aun, abuild, afill, fieldPlaces, alit, aindexAddr, aindex, aslice, bnd, cutTag, amin, amax, aappend, appendTo, aelems, aconv, aiface, agetField, reduceIte, reduceCtorEq, Nat.reduceAdd, Nat.reduceLT, Nat.reduceLeDiff, Nat.reduceEqDiff, Nat.reduceSub, Nat.reduceMul, Nat.reduceBEq, Int.reduceBEq, Int.reduceBNe, Int.reduceLT, Int.reduceLE, Int.reduceGT, Int.reduceGE, Int.reduceNeg, Int.reduceEq, Int.reduceNe, Int.reduceToNat, Int.reduceAdd, cls, fl, teset, e3, e4, e5, g0, g1, g2, ne1, ne2, ne3, ne4, ne5, ne6]
              rw [AH.set_set, hsp, hshape hB]
              refine ⟨?_, H, hext, rfl⟩
              simp only [if_true]
              have : (!decide ((rightL (rightS L) (n + 1) xs 0).1 ≥ 0)) = decide ((rightL (rightS L) (n + 1) xs 0).1 < 0) := by
                rw [Bool.eq_iff_iff]; simp
              rw [this]
          | true =>
            simp only [decide_eq_true_eq] at hc
            have hj : j < ks.length := by omega
            have hget : (ks.map AV.str)[((j : Nat) : Int).toNat]? = some (.str ks[j]) := by simp [hj]
            have hgd : ks.getD j default = ks[j] := by simp [hj]
            have badkey : keyOk ks j = false → shape (.mk k i t xs ks) = false := by
              intro hk
              rw [hs5]
              have : keysOk ks = false := by
                rw [Bool.eq_false_iff]
                intro hq
                unfold keysOk at hq
                rw [List.all_eq_true] at hq
                have := hq j (List.mem_range.2 hj)
                rw [hk] at this; cases this
              rw [this]; simp
            simp only [awset0, awset1, awset2, awset3, awset4, awset5, ne_eq, eq_self, implies_true, imp_self, retR, atup, aresL, ares1, gval, inLz, boxR, buildR, noDead, AV.isDead, acmpnil, appR, appBox, storeB, abin, aint, astr, aun, abuild, afill, fieldPlaces, alit, aindexAddr, aindex, aslice, bnd, cutTag, amin, amax, aappend, appendTo, aelems, aconv, aiface, agetField, reduceIte, reduceCtorEq, Nat.reduceAdd, Nat.reduceLT, Nat.reduceLeDiff, Nat.reduceEqDiff, Nat.reduceSub, Nat.reduceMul, Nat.reduceBEq, Int.reduceBEq, Int.reduceBNe, Int.reduceLT, Int.reduceLE, Int.reduceGT, Int.reduceGE, Int.reduceNeg, Int.reduceEq, Int.reduceNe, Int.reduceToNat, Int.reduceAdd, cls, fl, teset, e3, e4, e5, e107, e108, e109, g0, g1, g2, ne1, ne2, ne3, ne4, ne5, ne6, hget, Int.natCast_nonneg]
            refine ACallV.pure (text_pure _) ?_
            cases hit : isText ks[j] with
            | false =>
              simp only [awset0, awset1, awset2, awset3, awset4, awset5, ne_eq, eq_self, implies_true, imp_self, retR, atup, aresL, ares1, gval, inLz, boxR, buildR, noDead, AV.isDead, acmpnil, appR, appBox, storeB, abin, aint, astr, aun, abuild, afill, fieldPlaces, alit, aindexAddr, aindex, aslice, bnd, cutTag, amin, amax, aappend, appendTo, aelems, aconv, aiface, agetField, reduceIte, reduceCtorEq, Nat.reduceAdd, Nat.reduceLT, Nat.reduceLeDiff, Nat.reduceEqDiff, Nat.reduceSub, Nat.reduceMul, Nat.reduceBEq, Int.reduceBEq, Int.reduceBNe, Int.reduceLT, Int.reduceLE, Int.reduceGT, Int.reduceGE, Int.reduceNeg, Int.reduceEq, Int.reduceNe, Int.reduceToNat, Int.reduceAdd, cls, fl, teset, e3, e4, e5, e107, e108, e109, g0, g1, g2, ne1, ne2, ne3, ne4, ne5, ne6, hget, Int.natCast_nonneg]
              exact badfin (by rw [hsp, badkey (by unfold keyOk; rw [hgd, hit]; rfl)]; rfl)
            | true =>
              cases j with
              | zero =>
                simp only [awset0, awset1, awset2, awset3, awset4, awset5, ne_eq, eq_self, implies_true, imp_self, retR, atup, aresL, ares1, gval, inLz, boxR, buildR, noDead, AV.isDead, acmpnil, appR, appBox, storeB, abin, aint, astr, aun, abuild, afill, fieldPlaces, alit, aindexAddr, aindex, aslice, bnd, cutTag, amin, amax, aappend, appendTo, aelems, aconv, aiface, agetField, reduceIte, reduceCtorEq, Nat.reduceAdd, Nat.reduceLT, Nat.reduceLeDiff, Nat.reduceEqDiff, Nat.reduceSub, Nat.reduceMul, Nat.reduceBEq, Int.reduceBEq, Int.reduceBNe, Int.reduceLT, Int.reduceLE, Int.reduceGT, Int.reduceGE, Int.reduceNeg, Int.reduceEq, Int.reduceNe, Int.reduceToNat, Int.reduceAdd, cls, fl, teset, e3, e4, e5, e107, e108, e109, g0, g1, g2, ne1, ne2, ne3, ne4, ne5, ne6, hget, Int.natCast_nonneg, Int.natCast_zero]
                have hok : keyOk ks 0 = true := by unfold keyOk; rw [hgd, hit]; rfl
                refine ⟨m - 1, by omega, 1, rfl, by omega, fun j' hj' => ?_⟩
                have : j' = 0 := by omega
                subst this; exact hok
              | succ j =>
                have hpos : decide ((((j + 1 : Nat) : Int)) > 0) = true := by simp
                have hw2 : IntKind.i64.wrap (((j + 1 : Nat) : Int) - 1) = (j : Int) := by rw [wrap_i64 (by omega) (by omega)]; omega
                have hget2 : (ks.map AV.str)[((j : Nat) : Int).toNat]? = some (.str ks[j]) := by simp
                have hgd2 : ks.getD j default = ks[j] := by simp [show j < ks.length by omega]
                have hko : keyOk ks (j + 1) = sless ks[j] ks[j + 1] := by
                  unfold keyOk
                  rw [hgd, hit, Nat.add_sub_cancel, hgd2]
                  simp
                simp only [awset0, awset1, awset2, awset3, awset4, awset5, ne_eq, eq_self, implies_true, imp_self, retR, atup, aresL, ares1, gval, inLz, boxR, buildR, noDead, AV.isDead, acmpnil, appR, appBox, storeB, abin, aint, astr, aun, abuild, afill, fieldPlaces, alit, aindexAddr, aindex, aslice, bnd, cutTag, amin, amax, aappend, appendTo, aelems, aconv, aiface, agetField, reduceIte, reduceCtorEq, Nat.reduceAdd, Nat.reduceLT, Nat.reduceLeDiff, Nat.reduceEqDiff, Nat.reduceSub, Nat.reduceMul, Nat.reduceBEq, Int.reduceBEq, Int.reduceBNe, Int.reduceLT, Int.reduceLE, Int.reduceGT, Int.reduceGE, Int.reduceNeg, Int.reduceEq, Int.reduceNe, Int.reduceToNat, Int.reduceAdd, cls, fl, teset, e3, e4, e5, e107, e108, e109, g0, g1, g2, ne1, ne2, ne3, ne4, ne5, ne6, hget, hget2, hpos, hw2, Int.natCast_nonneg]
                cases hsl : Op.bytesLess ks[j].toList ks[j + 1].toList with
                | false =>
                  simp only [awset0, awset1, awset2, awset3, awset4, awset5, ne_eq, eq_self, implies_true, imp_self, retR, atup, aresL, ares1, gval, inLz, boxR, buildR, noDead, AV.isDead, acmpnil, appR, appBox, storeB, abin, aint, astr, aun, abuild, afill, fieldPlaces, alit, aindexAddr, aindex, aslice, bnd, cutTag, amin, amax, aappend, appendTo, aelems, aconv, aiface, agetField, reduceIte, reduceCtorEq, Nat.reduceAdd, Nat.reduceLT, Nat.reduceLeDiff, Nat.reduceEqDiff, Nat.reduceSub, Nat.reduceMul, Nat.reduceBEq, Int.reduceBEq, Int.reduceBNe, Int.reduceLT, Int.reduceLE, Int.reduceGT, Int.reduceGE, Int.reduceNeg, Int.reduceEq, Int.reduceNe, Int.reduceToNat, Int.reduceAdd, cls, fl, teset, e3, e4, e5, e107, e108, e109, g0, g1, g2, ne1, ne2, ne3, ne4, ne5, ne6]
                  exact badfin (by rw [hsp, badkey (by rw [hko]; exact hsl)]; rfl)
                | true =>
                  simp only [awset0, awset1, awset2, awset3, awset4, awset5, ne_eq, eq_self, implies_true, imp_self, retR, atup, aresL, ares1, gval, inLz, boxR, buildR, noDead, AV.isDead, acmpnil, appR, appBox, storeB, abin, aint, astr, aun, abuild, afill, fieldPlaces, alit, aindexAddr, aindex, aslice, bnd, cutTag, amin, amax, aappend, appendTo, aelems, aconv, aiface, agetField, reduceIte, reduceCtorEq, Nat.reduceAdd, Nat.reduceLT, Nat.reduceLeDiff, Nat.reduceEqDiff, Nat.reduceSub, Nat.reduceMul, Nat.reduceBEq, Int.reduceBEq, Int.reduceBNe, Int.reduceLT, Int.reduceLE, Int.reduceGT, Int.reduceGE, Int.reduceNeg, Int.reduceEq, Int.reduceNe, Int.reduceToNat, Int.reduceAdd, cls, fl, teset, e3, e4, e5, e107, e108, e109, g0, g1, g2, ne1, ne2, ne3, ne4, ne5, ne6]
                  refine ⟨m - 1, by omega, j + 1 + 1, by rw [wrap_succ (by omega)], by omega, fun j' hj' => ?_⟩
                  by_cases e : j' = j + 1
                  · subst e; rw [hko]; exact hsl
                  · exact hall j' (by omega)
    have q5 : (k == 5) = false := by simp [h5]
    by_cases h4 : k = 4
    · have q4 : (k == 4) = true := by simp [h4]
      simp only [awset0, awset1, awset2, awset3, awset4, awset5, ne_eq, eq_self, implies_true, imp_self, retR, atup, aresL, ares1, gval, inLz, boxR, buildR, noDead, AV.isDead, acmpnil, appR, appBox, storeB, abin, aint, astr, aun, abuild, afill, fieldPlaces, alit, aindexAddr, aindex, aslice, bnd, cutTag, amin, amax, aappend, appendTo, aelems, aconv, aiface, agetField, reduceIte, reduceCtorEq, Nat.reduceAdd, Nat.reduceLT, Nat.reduceLeDiff, Nat.reduceEqDiff, Nat.reduceSub, Nat.reduceMul, Nat.reduceBEq, Int.reduceBEq, Int.reduceBNe, Int.reduceLT, Int.reduceLE, Int.reduceGT, Int.reduceGE, Int.reduceNeg, Int.reduceEq, Int.reduceNe, Int.reduceToNat, Int.reduceAdd, cls, fl, teset, q0, q1, q2, q3, q4, q5, g0, g1, g2, ne1, ne2, ne3, ne4, ne5, ne6, inj_take, inj_drop, inj_agg, inj_len, inj_one, List.length_map]
      have hs4 : shape (.mk k i t xs ks) = ((ks.length : Int) == 0 && (i == 0 && t.toList == (⟨#[]⟩ : ByteArray).toList)) := by
        subst h4
        rw [shape_4]
        simp only [plainS, V.int, V.text, V.items, V.keys, Bool.false_or, Bool.true_or, Bool.true_and]
        generalize ((ks.length : Int) == 0) = x2
        generalize (i == 0) = x3
        cases x2 <;> cases x3 <;> simp
      cases hk : decide ((ks.length : Int) > 0) with
      | true =>
        simp only [awset0, awset1, awset2, awset3, awset4, awset5, ne_eq, eq_self, implies_true, imp_self, retR, atup, aresL, ares1, gval, inLz, boxR, buildR, noDead, AV.isDead, acmpnil, appR, appBox, storeB, abin, aint, astr, aun, abuild, afill, fieldPlaces, alit, aindexAddr, aindex, aslice, bnd, cutTag, amin, amax, aappend, appendTo, aelems, aconv, aiface, agetField, reduceIte, reduceCtorEq, Nat.reduceAdd, Nat.reduceLT, Nat.reduceLeDiff, Nat.reduceEqDiff, Nat.reduceSub, Nat.reduceMul, Nat.reduceBEq, Int.reduceBEq, Int.reduceBNe, Int.reduceLT, Int.reduceLE, Int.reduceGT, Int.reduceGE, Int.reduceNeg, Int.reduceEq, Int.reduceNe, Int.reduceToNat, Int.reduceAdd, cls, fl, teset, g0, g1, g2, ne1, ne2, ne3, ne4, ne5, ne6]
        have : ((ks.length : Int) == 0) = false := by rw [beq_eq_false_iff_ne]; simp only [decide_eq_true_eq] at hk; omega
        exact badfin (by rw [hsp, hs4, this]; rfl)
      | false =>
        have hk0 : ((ks.length : Int) == 0) = true := by simp at hk ⊢; exact hk
        have hnoshape : (i == 0 && t.toList == (⟨#[]⟩ : ByteArray).toList) = false → shape (.mk k i t xs ks) = false := fun e => by rw [hs4, hk0, e]; rfl
        have hshape : (i == 0 && t.toList == (⟨#[]⟩ : ByteArray).toList) = true → shape (.mk k i t xs ks) = true := fun e => by rw [hs4, hk0, e]; rfl
        simp only [awset0, awset1, awset2, awset3, awset4, awset5, ne_eq, eq_self, implies_true, imp_self, retR, atup, aresL, ares1, gval, inLz, boxR, buildR, noDead, AV.isDead, acmpnil, appR, appBox, storeB, abin, aint, astr, aun, abuild, afill, fieldPlaces, alit, aindexAddr, aindex, aslice, bnd, cutTag, amin, amax, aappend, appendTo, aelems, aconv, aiface, agetField, reduceIte, reduceCtorEq, Nat.reduceAdd, Nat.reduceLT, Nat.reduceLeDiff, Nat.reduceEqDiff, Nat.reduceSub, Nat.reduceMul, Nat.reduceBEq, Int.reduceBEq, Int.reduceBNe, Int.reduceLT, Int.reduceLE, Int.reduceGT, Int.reduceGE, Int.reduceNeg, Int.reduceEq, Int.reduceNe, Int.reduceToNat, Int.reduceAdd, cls, fl, teset, g0, g1, g2, ne1, ne2, ne3, ne4, ne5, ne6]
        cases hB : (i == 0 && t.toList == (⟨#[]⟩ : ByteArray).toList) with
        | false =>
          simp only [awset0, awset1, awset2, awset3, awset4, awset5, ne_eq, eq_self, implies_true, imp_self, retR, atup, aresL, ares1, gval, inLz, boxR, buildR, noDead, AV.isDead, acmpnil, appR, appBox, storeB, abin, aint, astr, aun, abuild, afill, fieldPlaces, alit, aindexAddr, aindex, aslice, bnd, cutTag, amin, amax, aappend, appendTo, aelems, aconv, aiface, agetField, reduceIte, reduceCtorEq, Nat.reduceAdd, Nat.reduceLT, Nat.reduceLeDiff, Nat.reduceEqDiff, Nat.reduceSub, Nat.reduceMul, Nat.reduceBEq, Int.reduceBEq, Int.reduceBNe, Int.reduceLT, Int.reduceLE, Int.reduceGT, Int.reduceGE, Int.reduceNeg, Int.reduceEq, Int.reduceNe, Int.reduceToNat, Int.reduceAdd, cls, fl, teset, g0, g1, g2, ne1, ne2, ne3, ne4, ne5, ne6]
          exact badfin (by rw [hsp, hnoshape hB]; rfl)
        | true =>
          simp only [awset0, awset1, awset2, awset3, awset4, awset5, ne_eq, eq_self, implies_true, imp_self, retR, atup, aresL, ares1, gval, inLz, boxR, buildR, noDead, AV.isDead, acmpnil, appR, appBox, storeB, abin, aint, astr, aun, abuild, afill, fieldPlaces, alit, aindexAddr, aindex, aslice, bnd, cutTag, amin, amax, aappend, appendTo, aelems, aconv, aiface, agetField, reduceIte, reduceCtorEq, Nat.reduceAdd, Nat.reduceLT, Nat.reduceLeDiff, Nat.reduceEqDiff, Nat.reduceSub, Nat.reduceMul, Nat.reduceBEq, Int.reduceBEq, Int.reduceBNe, Int.reduceLT, Int.reduceLE, Int.reduceGT, Int.reduceGE, Int.reduceNeg, Int.reduceEq, Int.reduceNe, Int.reduceToNat, Int.reduceAdd, cls, fl, teset, g0, g1, g2, ne1, ne2, ne3, ne4, ne5, ne6]
          refine ACallV.det ⟨Tryd.f49, Tryd.func49, rfl, by kernel_rfl⟩ rfl (containsfn_calls L (by omega) xs (fun x hx => ih (by omega) x (hxs x hx)) hxl (n + 1) b (h.nb + 1) (h.nb + 1 + 1) (H.set b [.int .i64 ((n + 1 : Nat) : Int)]) (by omega) (by rw [set_box, if_pos rfl]) (by rw [set_box, if_neg (by omega)]; exact g1) (by rw [set_box, if_neg (by omega)]; exact g2) (by omega) (by omega)) ?_
          simp only [awset0, awset1, awset2, awset3, awset4, awset5, ne_eq, eq_self, implies_true, imp_self, retR, atup, aresL, ares1, gval, inLz, boxR, buildR, noDead, AV.isDead, acmpnil, appR, appBox, storeB, abin, aint, astr, aun, abuild, afill, fieldPlaces, alit, aindexAddr, aindex, aslice, bnd, cutTag, amin, amax, aappend, appendTo, aelems, aconv, aiface, agetField, reduceIte, reduceCtorEq, Nat.reduceAdd, Nat.reduceLT, Nat.reduceLeDiff, Nat.reduceEqDiff, Nat.reduceSub, Nat.reduceMul, Nat.reduceBEq, Int.reduceBEq, Int.reduceBNe, Int.reduceLT, Int.reduceLE, Int.reduceGT, Int.reduceGE, Int.reduceNeg, Int.reduceEq, Int.reduceNe, Int.reduceToNat, Int.reduceAdd, cls, fl, teset, g0, g1, g2, ne1, ne2, ne3, ne4, ne5, ne6]
          rw [AH.set_set, hsp, hshape hB]
          refine ⟨?_, H, hext, rfl⟩
          simp only [if_true]
          have : (!decide ((rightL (rightS L) (n + 1) xs 0).1 ≥ 0)) = decide ((rightL (rightS L) (n + 1) xs 0).1 < 0) := by
            rw [Bool.eq_iff_iff]; simp
          rw [this]
    · have q4 : (k == 4) = false := by simp [h4]
      simp only [awset0, awset1, awset2, awset3, awset4, awset5, ne_eq, eq_self, implies_true, imp_self, retR, atup, aresL, ares1, gval, inLz, boxR, buildR, noDead, AV.isDead, acmpnil, appR, appBox, storeB, abin, aint, astr, aun, abuild, afill, fieldPlaces, alit, aindexAddr, aindex, aslice, bnd, cutTag, amin, amax, aappend, appendTo, aelems, aconv, aiface, agetField, reduceIte, reduceCtorEq, Nat.reduceAdd, Nat.reduceLT, Nat.reduceLeDiff, Nat.reduceEqDiff, Nat.reduceSub, Nat.reduceMul, Nat.reduceBEq, Int.reduceBEq, Int.reduceBNe, Int.reduceLT, Int.reduceLE, Int.reduceGT, Int.reduceGE, Int.reduceNeg, Int.reduceEq, Int.reduceNe, Int.reduceToNat, Int.reduceAdd, cls, fl, teset, q0, q1, q2, q3, q4, q5, g0, g1, g2, ne1, ne2, ne3, ne4, ne5, ne6, inj_take, inj_drop, inj_agg, inj_len, inj_one, List.length_map]
      exact badfin (by rw [hsp, shape_x _ _ _ _ h0 h1 h2 h3 h4 h5]; rfl)
end Go.Proofs.YtjdocenbfghglaaDoor.AW
