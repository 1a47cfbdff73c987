/- Texts of this claim, part 13: V54. -/
import Derived.Test.YtjdocenbfghglaaGreatDoorMg1
import Derived.Test.YtjdocenbfghglaaGreatDoorMg2
import Derived.Test.YtjdocenbfghglaaGreatDoorMg3
import Derived.Test.YtjdocenbfghglaaGreatDoorMg4
import Derived.Test.YtjdocenbfghglaaGreatDoorMg5
import Derived.Test.YtjdocenbfghglaaGreatDoorMg6
import Derived.Test.YtjdocenbfghglaaGreatDoorMg7
import Derived.Test.YtjdocenbfghglaaGreatDoorMg8
import Derived.Test.YtjdocenbfghglaaGreatDoorMg9
import Derived.Test.YtjdocenbfghglaaGreatDoorMg10
import Derived.Test.YtjdocenbfghglaaGreatDoorMg11
import Derived.Test.YtjdocenbfghglaaGreatDoorMg12
section
set_option linter.unusedSimpArgs false
set_option linter.unusedVariables false
namespace Go.Proofs.YtjdocenbfghglaaGreatDoor.AW
open Go Go.RowKit

theorem fm_none {e : ByteArray → Option V} {us : List ByteArray} {j : Nat} (hj : j < us.length) (h : e us[j] = none) : (us.take (j + 1)).filterMap e = (us.take j).filterMap e ∧ (us.take (j + 1)).filter (fun k => (e k).isSome) = (us.take j).filter (fun k => (e k).isSome) := by
  rw [List.take_succ_eq_append_getElem hj, List.filterMap_append, List.filter_append]
  simp [h]
theorem fm_some {e : ByteArray → Option V} {us : List ByteArray} {j : Nat} {y : V} (hj : j < us.length) (h : e us[j] = some y) : (us.take (j + 1)).filterMap e = (us.take j).filterMap e ++ [y] ∧ (us.take (j + 1)).filter (fun k => (e k).isSome) = (us.take j).filter (fun k => (e k).isSome) ++ [us[j]] := by
  rw [List.take_succ_eq_append_getElem hj, List.filterMap_append, List.filter_append]
  simp [h]
theorem fm_len (e : ByteArray → Option V) (us : List ByteArray) (j : Nat) : ((us.take j).filterMap e).length ≤ j ∧ ((us.take j).filter (fun k => (e k).isSome)).length ≤ j := by
  have h1 := List.length_filterMap_le e (us.take j)
  have h2 := List.length_filter_le (fun k => (e k).isSome) (us.take j)
  have h3 : (us.take j).length ≤ j := by rw [List.length_take]; omega
  omega
theorem wk_mcms {b o n c sz : Nat} : Wk (.mc b o n c sz) (.ms b o n sz) := fun _ _ h => h.forget
theorem scoped0 : Scoped AH.none := ⟨fun b cs h => (by cases h), fun t g h => (by cases h)⟩
theorem zz2 (a b : Nat) (hab : a < b) : ((a = b) = False) ∧ ((b = a) = False) := ⟨by rw [eq_iff_iff]; exact ⟨fun e => by omega, False.elim⟩, by rw [eq_iff_iff]; exact ⟨fun e => by omega, False.elim⟩⟩
theorem b80c {a j : Nat} (h : a ≤ j) (hj : j < 1000000) : (a + 1) * 80 ≤ 140737488355328 := by omega
theorem b16c {a j : Nat} (h : a ≤ j) (hj : j < 1000000) : (a + 1) * 16 ≤ 140737488355328 := by omega
set_option maxHeartbeats 8000000 in
theorem patch_pure : ∀ (L : Nat) (b a : V), Vok a → nodesS L b ≤ 60 → Pure Tryz.prog 67 [inj a, inj b] (inj (patchP L a b)) := by
  intro L
  induction L with
  | zero => intro b a _ h; simp [nodesS] at h
  | succ L ih =>
    intro b a ha hnb0
    have hb : Vok b := ⟨L + 1, hnb0⟩
    have hch : ∀ x ∈ b.items, nodesS L x ≤ 60 := by
      simp only [nodesS] at hnb0
      split at hnb0
      · omega
      · split at hnb0
        · exact nodesF_all _ _ _ hnb0
        · omega
    obtain ⟨k, i, t, xs, ks⟩ := b
    obtain ⟨ak, ai, at_, ax, as_⟩ := a
    rw [patchP]
    have u1 := injs_under xs
    have u2 := strs_under ks
    have u3 := injs_under ax
    have u4 := strs_under as_
    rw [inj_mk ak, inj_mk k]
    refine Pure.of0 ⟨Tryz.f67, Tryz.func67, rfl, by kernel_rfl⟩ (by simp [AV.underL, AV.under, u1, u2, u3, u4]) (inj_under _) ?_
    refine acalls_of te_ok [] Tryz.func67 (c := _) rfl (Nat.le_of_ble_eq_true rfl) ?_
    simp only [aws, eq_self, implies_true, imp_self, reduceIte, Nat.reduceAdd, Nat.reduceLT, Nat.reduceEqDiff, Int.reduceNeg, acmpnil, teset, Tryz.ntmps67, Tryz.results67, boxR]
    cases hak : (ak != 5) with
    | true =>
      have hak5 : ak ≠ 5 := by simpa using hak
      simp only [aws, eq_self, reduceIte, Nat.reduceAdd, Nat.reduceLT, Nat.reduceLeDiff, Nat.reduceEqDiff, Int.reduceNeg, storeB, ares1, teset]
      rw [if_neg (fun hh => hak5 hh.1), inj_mk]
      exact ⟨_, rfl, .refl _ _⟩
    | false =>
      have hak5 : ak = 5 := by simpa using hak
      subst hak5
      cases hk : (k != 5) with
      | true =>
        have hk5 : k ≠ 5 := by simpa using hk
        simp only [aws, eq_self, implies_true, reduceIte, Nat.reduceAdd, Nat.reduceLT, Nat.reduceLeDiff, Nat.reduceEqDiff, Int.reduceNeg, acmpnil, storeB, ares1, teset, hk]
        rw [if_neg (fun hh => hk5 hh.2), inj_mk]
        exact ⟨_, rfl, .refl _ _⟩
      | false =>
        have hk5 : k = 5 := by simpa using hk
        subst hk5
        have oa := ha.w.ok5 rfl
        have ob := hb.w.ok5 rfl
        obtain ⟨_, a2, a3, a4, a5, a6⟩ := id oa
        obtain ⟨_, b2, b3, b4, b5, b6⟩ := id ob
        simp only [V.int, V.text, V.items, V.keys] at a2 a3 a4 a5 a6 b2 b3 b4 b5 b6 hch
        subst a2 a3 b2 b3
        have hal : as_.length ≤ 60 := by have := ha.shape.2; simp only [V.items] at this; omega
        have hbl : ks.length ≤ 60 := by have := hb.shape.2; simp only [V.items] at this; omega
        rw [if_pos ⟨rfl, rfl⟩]
        simp only [V.keys]
        simp only [aws, eq_self, implies_true, reduceIte, Nat.reduceAdd, Nat.reduceLT, Nat.reduceLeDiff, Nat.reduceEqDiff, Nat.reduceMul, Int.reduceNeg, acmpnil, teset, hak, range2]
        by_cases hpos : 0 < as_.length + ks.length
        · have hcc := fun h hs => concat_calls as_ ks hpos (by omega) h hs
          refine ACallV.of ⟨Tryz.f102, Tryz.func102, rfl, by kernel_rfl⟩ ((hcc _ (by (repeat (first | assumption | refine Scoped.set ?_ (by first | omega | (simp only [new_nb, set_nb, kill_nb, newTok_nb, setTok_nb]; omega)) _ | refine Scoped.new ?_ _)); exact scoped0)).mono ?_)
          rintro out h2 ⟨c, hc, rfl, rfl⟩
          simp only [aws, eq_self, reduceIte, Nat.reduceAdd, Nat.reduceLT, Nat.reduceEqDiff, Int.reduceNeg]
          have hne : as_ ++ ks ≠ [] := fun e => by
            have := congrArg List.length e
            rw [List.length_append, List.length_nil] at this; omega
          have hso := fun (h : AH) hb => sortS_calls (xs := as_ ++ ks) (rest := blanks (c - (as_.length + ks.length))) hne (by rw [List.length_append]; omega) (b := 3) (c := c) (h := h) hb
          simp only [List.length_append] at hso
          refine ACallV.of ⟨Tryz.f103, Tryz.func103, rfl, by kernel_rfl⟩ ((hso _ rfl).mono ?_)
          rintro out h3 ⟨rfl, hh3⟩
          have c0 : h3.box 0 = some [.int .i64 5, .int .i64 0, .str ⟨#[]⟩, .sl .ro 5 (ax.map inj), .sl .ro 1 (as_.map .str)] := by rw [hh3]; rfl
          have c1 : h3.box 1 = some [.int .i64 5, .int .i64 0, .str ⟨#[]⟩, .sl .ro 5 (xs.map inj), .sl .ro 1 (ks.map .str)] := by rw [hh3]; rfl
          have c2 : h3.box 2 = some [.int .i64 0, .int .i64 0, .str ⟨#[]⟩, .sl .full 0 [], .sl .full 0 []] := by rw [hh3]; rfl
          have c3 : h3.box 3 = some (sR (sortS (as_ ++ ks)) (blanks (c - (as_.length + ks.length)))) := by rw [hh3]; rfl
          have cn : h3.nb = 4 := by rw [hh3]; rfl
          have ct : h3.nt = 0 := by rw [hh3]; rfl
          have c4 : h3.box 4 = none := by rw [hh3]; rfl
          clear hh3
          simp only [aws, eq_self, reduceIte, Nat.reduceAdd, Nat.reduceLT, Nat.reduceLeDiff, Nat.reduceEqDiff, Int.reduceNeg, storeB, afill, teset, cn, c4]
          have hcm := fun (h : AH) hb => compactS_calls (xs := sortS (as_ ++ ks)) (rest := blanks (c - (as_.length + ks.length))) (by
            intro e
            have := congrArg List.length e
            rw [sortS_len, List.length_append, List.length_nil] at this; omega) (by rw [sortS_len, List.length_append]; omega) (b := 3) (h := h) hb
          simp only [sortS_len, List.length_append] at hcm
          obtain ⟨us, hus⟩ : ∃ us, us = uniS as_ ks := ⟨_, rfl⟩
          have husl : us.length ≤ 120 := by have := uniS_len as_ ks; rw [hus]; omega
          have hdd : ddS (sortS (as_ ++ ks)) = us := by rw [hus]; rfl
          rw [hdd] at hcm
          rw [← hus]
          obtain ⟨e, he⟩ : ∃ e, e = entV (patchP L) (.mk 5 0 ⟨#[]⟩ ax as_) (.mk 5 0 ⟨#[]⟩ xs ks) := ⟨_, rfl⟩
          rw [← he]
          refine ACallV.of ⟨Tryz.f104, Tryz.func104, rfl, by kernel_rfl⟩ ((ACalls.wk (.cons wk_mcms .nil) (hcm _ ?_)).mono ?_)
          · rw [set_box, if_neg (by decide), new_box, if_neg (by rw [cn]; decide)]; exact c3
          rintro out h4 ⟨rfl, hh4⟩
          have d0 : h4.box 0 = some [.int .i64 5, .int .i64 0, .str ⟨#[]⟩, .sl .ro 5 (ax.map inj), .sl .ro 1 (as_.map .str)] := by rw [hh4, kill_box, if_neg (by decide), set_box, if_neg (by decide), new_box, if_neg (by rw [cn]; decide)]; exact c0
          have d1 : h4.box 1 = some [.int .i64 5, .int .i64 0, .str ⟨#[]⟩, .sl .ro 5 (xs.map inj), .sl .ro 1 (ks.map .str)] := by rw [hh4, kill_box, if_neg (by decide), set_box, if_neg (by decide), new_box, if_neg (by rw [cn]; decide)]; exact c1
          have d4 : h4.box 4 = some [.int .i64 5, .int .i64 0, .str ⟨#[]⟩, .sl .full 0 [], .sl .full 0 []] := by rw [hh4, kill_box, if_neg (by decide), set_box, if_pos rfl]
          have d2 : h4.box 2 = some [.int .i64 0, .int .i64 0, .str ⟨#[]⟩, .sl .full 0 [], .sl .full 0 []] := by rw [hh4, kill_box, if_neg (by decide), set_box, if_neg (by decide), new_box, if_neg (by rw [cn]; decide)]; exact c2
          have dn : h4.nb = 5 := by rw [hh4]; show h3.nb + 1 = 5; rw [cn]
          have dt : h4.nt = 0 := by rw [hh4]; exact ct
          clear hh4 c0 c1 c2 c3 cn ct c4 hcm hso hcc
          simp only [aws, eq_self, reduceIte, Nat.reduceLT, Nat.reduceEqDiff, Int.reduceNeg, teset]
          refine ⟨fun n' s' h' => ∃ (j : Nat) (cx : List V) (ck : List ByteArray) (aX aK : AV), s' 2 = .ptr 0 0 ∧ s' 3 = .ptr 1 0 ∧ s' 4 = .ptr 2 0 ∧ s' 6 = .ptr 4 0 ∧ s' 33 = .sl .ro 1 (strs us) ∧ s' 34 = .int .i64 us.length ∧ s' 35 = .int .i64 j ∧ n' + j = us.length ∧ 5 ≤ h'.nb ∧ h'.box 0 = some [.int .i64 5, .int .i64 0, .str ⟨#[]⟩, .sl .ro 5 (ax.map inj), .sl .ro 1 (as_.map .str)] ∧ h'.box 1 = some [.int .i64 5, .int .i64 0, .str ⟨#[]⟩, .sl .ro 5 (xs.map inj), .sl .ro 1 (ks.map .str)] ∧ h'.box 2 = some [.int .i64 0, .int .i64 0, .str ⟨#[]⟩, .sl .full 0 [], .sl .full 0 []] ∧ h'.box 4 = some [.int .i64 5, .int .i64 0, .str ⟨#[]⟩, aX, aK] ∧ ((cx = [] ∧ ck = [] ∧ aX = .sl .full 0 [] ∧ aK = .sl .full 0 [] ∧ h'.nt = 0) ∨ (∃ g g' : Nat, aX = .sl (.tok 1 g) 5 (cx.map inj) ∧ h'.tok 1 = some g ∧ aK = .sl (.tok 0 g') 1 (ck.map .str) ∧ h'.tok 0 = some g' ∧ h'.nt = 2)) ∧ cx = (us.take j).filterMap e ∧ ck = (us.take j).filter fun k => (e k).isSome, ⟨us.length, 0, [], [], .sl .full 0 [], .sl .full 0 [], ?_⟩, ?_⟩
          · simp only [aws, eq_self, reduceIte, Nat.reduceEqDiff, d0, d1, d2, d4, dn, dt, strs_len, Int.natCast_zero, List.filterMap_nil, List.filter_nil, Nat.le_refl]
          · rintro n' s' h' ⟨j, cx, ck, aX, aK, e2, e3, e4, e6, e33, e34, e35, hn', hnb, g0, g1, g2, g4, hown, hcx, hck⟩
            have hjm : j < 1000000 := by omega
            have hfl := fm_len e us j
            rw [← hcx, ← hck] at hfl
            have y0 := zz2 0 h'.nb (by omega)
            have y1 := zz2 1 h'.nb (by omega)
            have y2 := zz2 2 h'.nb (by omega)
            have y4 := zz2 4 h'.nb (by omega)
            have z0 := zz2 0 (h'.nb + 1) (by omega)
            have z1 := zz2 1 (h'.nb + 1) (by omega)
            have z2 := zz2 2 (h'.nb + 1) (by omega)
            have z4 := zz2 4 (h'.nb + 1) (by omega)
            have y7 := zz2 h'.nb (h'.nb + 1) (by omega)
            have hoo : aX.one = true ∧ aK.one = true ∧ Wk aX (.sl .ro 5 (cx.map inj)) ∧ Wk aK (.sl .ro 1 (ck.map .str)) := by
              rcases hown with ⟨rfl, rfl, rfl, rfl, _⟩ | ⟨g, g', rfl, _, rfl, _, _⟩
              · exact ⟨rfl, rfl, wk_nil5, wk_nil1⟩
              · exact ⟨rfl, rfl, .ro, .ro⟩
            simp only [aws, eq_self, reduceIte, Nat.reduceLT, Int.reduceNeg, acmpnil, e34, e35]
            cases hc : decide ((j : Int) < (us.length : Int)) with
            | false =>
              have hjl : us.length ≤ j := nlt (by simpa only [decide_eq_false_iff_not] using hc)
              rw [List.take_of_length_le hjl] at hcx hck
              simp only [aws, eq_self, reduceIte, Nat.reduceAdd, Nat.reduceLT, Nat.reduceLeDiff, Nat.reduceEqDiff, Int.reduceNeg, storeB, ares1, teset, e4, e6, g2, g4, hoo.1, hoo.2.1]
              unfold pobj
              rw [← hcx, ← hck]
              exact ⟨_, rfl, To0.wk (wk_agg5 hoo.2.2.1 hoo.2.2.2)⟩
            | true =>
              simp only [decide_eq_true_eq] at hc
              have hj : j < us.length := Int.ofNat_lt.1 hc
              have hgk : (strs us)[((j : Nat) : Int).toNat]? = some (.str us[j]) := by rw [Int.toNat_natCast, strs, List.getElem?_map, List.getElem?_eq_getElem hj]; rfl
              have hatA := at1_pure oa ha.w us[j]
              have hatB := at1_pure ob hb.w us[j]
              have hsA := item_found5 oa us[j]
              have hsB := item_found5 ob us[j]
              rw [itemS_lk rfl] at hsA hsB
              rw [← hsA, inj_mk 5] at hatA
              rw [← hsB, inj_mk 5] at hatB
              have hent : e us[j] = (match lk as_ ax us[j], lk ks xs us[j] with
                | some x, some y => if ord x y = 0 then none else some (patchP L x y)
                | none, some y => some (patchP L zeroV y)
                | _, none => some zeroV) := by rw [he]; rfl
              have hmA : ∀ x, lk as_ ax us[j] = some x → Vok x := fun x hx => ha.items x (lk_mem hx).1
              have hmB : ∀ y, lk ks xs us[j] = some y → Vok y ∧ nodesS L y ≤ 60 := fun y hy => ⟨hb.items y (lk_mem hy).1, hch y (lk_mem hy).1⟩
              simp only [V.keys, V.items] at hatA hatB
              generalize lk as_ ax us[j] = oA at *
              generalize lk ks xs us[j] = oB at *
              simp only [aws, eq_self, reduceIte, Nat.reduceAdd, Nat.reduceLT, Nat.reduceLeDiff, Nat.reduceEqDiff, Nat.reduceMul, Int.reduceNeg, afill, teset, e2, e33, e35, g0, range1, hgk, Int.natCast_nonneg]
              refine ACallV.pureW hatA (.cons (.refl _) (.cons .ro .nil)) ?_
              simp only [aws, eq_self, reduceIte, Nat.reduceAdd, Nat.reduceLT, Nat.reduceLeDiff, Nat.reduceEqDiff, Int.reduceNeg, storeB, teset, e3, g1, inj_len, inj_one, y1.1]
              refine ACallV.pureW hatB (.cons (.refl _) (.cons .ro .nil)) ?_
              simp only [aws, eq_self, implies_true, reduceIte, Nat.reduceAdd, Nat.reduceLT, Nat.reduceLeDiff, Nat.reduceEqDiff, Int.reduceNeg, storeB, teset, inj_take, inj_agg, inj_len, inj_one, y7.1, y7.2]
              cases oB with
              | none =>
                cases oA with
                | none =>
                  simp only at hent
                  simp only [aws, eq_self, implies_true, reduceIte, Nat.reduceLT, Nat.reduceLeDiff, Nat.reduceEqDiff, Int.reduceNeg, teset, inj_take, inj_agg, inj_len, y7.1, y7.2, Option.isSome_none, Option.getD_none]
                  have hb1 : (0 + 1) * 16 ≤ 140737488355328 := by decide
                  have hb3 : (0 + 1) * 80 ≤ 140737488355328 := by decide
                  have hbX := b80c hfl.1 hjm
                  have hbK := b16c hfl.2 hjm
                  rcases hown with ⟨hx0, hq0, rfl, rfl, hnt⟩ | ⟨g, g', rfl, hk1, rfl, hk0, hnt⟩
                  · have hk0 : True := trivial
                    have hk1 : True := trivial
                    refine acode_draw_chain te_ok mixed [] (by kernel_rfl) ?_
                    simp only [aws, eq_self, implies_true, imp_self, reduceIte, reduceCtorEq, Nat.reduceAdd, Nat.reduceLT, Nat.reduceLeDiff, Nat.reduceEqDiff, Nat.reduceMul, Int.reduceNeg, acmpnil, appBox, storeB, appendTo, teset, e2, e3, e4, e6, e33, e34, e35, g0, g1, g2, g4, inj_take, inj_agg, inj_len, inj_one, range1, y0.1, y1.1, y2.1, y4.1, z0.1, z1.1, z2.1, z4.1, y7.2, newTok_boxf, skR_app1, hnt, hb1, hb3]
                    refine ⟨n' - 1, nlt1 hn' hj, j + 1, cx ++ [zeroV], ck ++ [us[j]], _, _, by rw [wrap_succ (jwrap hjm)], nadd hn' hj, Nat.le_trans (by decide) hnb, rfl, .inr ⟨0, 0, by simp [hx0], rfl, by simp [hq0], rfl⟩, by rw [hcx]; exact (fm_some hj hent).1.symm, by rw [hck]; exact (fm_some hj hent).2.symm⟩
                  · refine acode_draw_chain te_ok mixed [] (by kernel_rfl) ?_
                    simp only [aws, eq_self, implies_true, imp_self, reduceIte, reduceCtorEq, Nat.reduceAdd, Nat.reduceLT, Nat.reduceLeDiff, Nat.reduceEqDiff, Nat.reduceMul, Int.reduceNeg, acmpnil, appBox, storeB, appendTo, teset, e2, e3, e4, e6, e33, e34, e35, g0, g1, g2, g4, inj_take, inj_agg, inj_len, inj_one, List.length_map, range1, y0.1, y1.1, y2.1, y4.1, z0.1, z1.1, z2.1, z4.1, y7.2, setTok_boxf, List.length_map, hnt, hb1, hbX, hbK, hk0, hk1]
                    refine ⟨n' - 1, nlt1 hn' hj, j + 1, cx ++ [zeroV], ck ++ [us[j]], _, _, by rw [wrap_succ (jwrap hjm)], nadd hn' hj, Nat.le_trans (by decide) hnb, rfl, .inr ⟨g + 1, g' + 1, by simp, rfl, by simp, rfl⟩, by rw [hcx]; exact (fm_some hj hent).1.symm, by rw [hck]; exact (fm_some hj hent).2.symm⟩
            
                | some x =>
                  simp only at hent
                  simp only [aws, eq_self, implies_true, reduceIte, Nat.reduceLT, Nat.reduceLeDiff, Nat.reduceEqDiff, Int.reduceNeg, teset, inj_take, inj_agg, inj_len, y7.1, y7.2, Option.isSome_none, Option.getD_none, Option.getD_some]
                  have hb1 : (0 + 1) * 16 ≤ 140737488355328 := by decide
                  have hb3 : (0 + 1) * 80 ≤ 140737488355328 := by decide
                  have hbX := b80c hfl.1 hjm
                  have hbK := b16c hfl.2 hjm
                  rcases hown with ⟨hx0, hq0, rfl, rfl, hnt⟩ | ⟨g, g', rfl, hk1, rfl, hk0, hnt⟩
                  · have hk0 : True := trivial
                    have hk1 : True := trivial
                    refine acode_draw_chain te_ok mixed [] (by kernel_rfl) ?_
                    simp only [aws, eq_self, implies_true, imp_self, reduceIte, reduceCtorEq, Nat.reduceAdd, Nat.reduceLT, Nat.reduceLeDiff, Nat.reduceEqDiff, Nat.reduceMul, Int.reduceNeg, acmpnil, appBox, storeB, appendTo, teset, e2, e3, e4, e6, e33, e34, e35, g0, g1, g2, g4, inj_take, inj_agg, inj_len, inj_one, range1, y0.1, y1.1, y2.1, y4.1, z0.1, z1.1, z2.1, z4.1, y7.2, newTok_boxf, skR_app1, hnt, hb1, hb3]
                    refine ⟨n' - 1, nlt1 hn' hj, j + 1, cx ++ [zeroV], ck ++ [us[j]], _, _, by rw [wrap_succ (jwrap hjm)], nadd hn' hj, Nat.le_trans (by decide) hnb, rfl, .inr ⟨0, 0, by simp [hx0], rfl, by simp [hq0], rfl⟩, by rw [hcx]; exact (fm_some hj hent).1.symm, by rw [hck]; exact (fm_some hj hent).2.symm⟩
                  · refine acode_draw_chain te_ok mixed [] (by kernel_rfl) ?_
                    simp only [aws, eq_self, implies_true, imp_self, reduceIte, reduceCtorEq, Nat.reduceAdd, Nat.reduceLT, Nat.reduceLeDiff, Nat.reduceEqDiff, Nat.reduceMul, Int.reduceNeg, acmpnil, appBox, storeB, appendTo, teset, e2, e3, e4, e6, e33, e34, e35, g0, g1, g2, g4, inj_take, inj_agg, inj_len, inj_one, List.length_map, range1, y0.1, y1.1, y2.1, y4.1, z0.1, z1.1, z2.1, z4.1, y7.2, setTok_boxf, List.length_map, hnt, hb1, hbX, hbK, hk0, hk1]
                    refine ⟨n' - 1, nlt1 hn' hj, j + 1, cx ++ [zeroV], ck ++ [us[j]], _, _, by rw [wrap_succ (jwrap hjm)], nadd hn' hj, Nat.le_trans (by decide) hnb, rfl, .inr ⟨g + 1, g' + 1, by simp, rfl, by simp, rfl⟩, by rw [hcx]; exact (fm_some hj hent).1.symm, by rw [hck]; exact (fm_some hj hent).2.symm⟩
            
              | some y =>
                obtain ⟨hyo, hyn⟩ := hmB y rfl
                cases oA with
                | none =>
                  simp only at hent
                  simp only [aws, eq_self, implies_true, reduceIte, Nat.reduceLT, Nat.reduceLeDiff, Nat.reduceEqDiff, Int.reduceNeg, teset, inj_take, inj_agg, inj_len, y7.1, y7.2, Option.isSome_none, Option.getD_none, Option.getD_some]
                  refine ACallV.pure (ih y zeroV zero_ok hyn) ?_
                  simp only [aws, eq_self, reduceIte, Nat.reduceLeDiff, Nat.reduceEqDiff, Int.reduceNeg, storeB, teset, inj_drop, inj_len, inj_one, y7.2]
                  have hb1 : (0 + 1) * 16 ≤ 140737488355328 := by decide
                  have hb3 : (0 + 1) * 80 ≤ 140737488355328 := by decide
                  have hbX := b80c hfl.1 hjm
                  have hbK := b16c hfl.2 hjm
                  rcases hown with ⟨hx0, hq0, rfl, rfl, hnt⟩ | ⟨g, g', rfl, hk1, rfl, hk0, hnt⟩
                  · have hk0 : True := trivial
                    have hk1 : True := trivial
                    refine acode_draw_chain te_ok mixed [] (by kernel_rfl) ?_
                    simp only [aws, eq_self, implies_true, imp_self, reduceIte, reduceCtorEq, Nat.reduceAdd, Nat.reduceLT, Nat.reduceLeDiff, Nat.reduceEqDiff, Nat.reduceMul, Int.reduceNeg, acmpnil, appBox, storeB, appendTo, teset, e2, e3, e4, e6, e33, e34, e35, g0, g1, g2, g4, inj_take, inj_agg, inj_len, inj_one, range1, y0.1, y1.1, y2.1, y4.1, z0.1, z1.1, z2.1, z4.1, y7.2, newTok_boxf, skR_app1, hnt, hb1, hb3]
                    refine ⟨n' - 1, nlt1 hn' hj, j + 1, cx ++ [patchP L zeroV y], ck ++ [us[j]], _, _, by rw [wrap_succ (jwrap hjm)], nadd hn' hj, Nat.le_trans (by decide) hnb, rfl, .inr ⟨0, 0, by simp [hx0], rfl, by simp [hq0], rfl⟩, by rw [hcx]; exact (fm_some hj hent).1.symm, by rw [hck]; exact (fm_some hj hent).2.symm⟩
                  · refine acode_draw_chain te_ok mixed [] (by kernel_rfl) ?_
                    simp only [aws, eq_self, implies_true, imp_self, reduceIte, reduceCtorEq, Nat.reduceAdd, Nat.reduceLT, Nat.reduceLeDiff, Nat.reduceEqDiff, Nat.reduceMul, Int.reduceNeg, acmpnil, appBox, storeB, appendTo, teset, e2, e3, e4, e6, e33, e34, e35, g0, g1, g2, g4, inj_take, inj_agg, inj_len, inj_one, List.length_map, range1, y0.1, y1.1, y2.1, y4.1, z0.1, z1.1, z2.1, z4.1, y7.2, setTok_boxf, List.length_map, hnt, hb1, hbX, hbK, hk0, hk1]
                    refine ⟨n' - 1, nlt1 hn' hj, j + 1, cx ++ [patchP L zeroV y], ck ++ [us[j]], _, _, by rw [wrap_succ (jwrap hjm)], nadd hn' hj, Nat.le_trans (by decide) hnb, rfl, .inr ⟨g + 1, g' + 1, by simp, rfl, by simp, rfl⟩, by rw [hcx]; exact (fm_some hj hent).1.symm, by rw [hck]; exact (fm_some hj hent).2.symm⟩
            
                | some x =>
                  have hxo := hmA x rfl
                  simp only at hent
                  simp only [aws, eq_self, implies_true, reduceIte, Nat.reduceLT, Nat.reduceLeDiff, Nat.reduceEqDiff, Int.reduceNeg, teset, inj_take, inj_agg, inj_len, y7.1, y7.2, Option.getD_some]
                  refine ACallV.pure (equal_pure x y hxo hyo) ?_
                  by_cases h0 : ord x y = 0
                  · rw [if_pos h0] at hent
                    have hq : (ord x y == 0) = true := by rw [h0]; rfl
                    simp only [aws, eq_self, reduceIte, Nat.reduceAdd, Nat.reduceLT, Nat.reduceLeDiff, Nat.reduceEqDiff, Int.reduceNeg, acmpnil, storeB, teset, e2, e3, e4, e6, e33, e34, e35, g0, g1, g2, g4, y0.1, y1.1, y2.1, y4.1, z0.1, z1.1, z2.1, z4.1, hq]
                    exact ⟨n' - 1, nlt1 hn' hj, j + 1, cx, ck, aX, aK, by rw [wrap_succ (jwrap hjm)], nadd hn' hj, Nat.le_trans (by decide) hnb, rfl, hown, by rw [hcx]; exact (fm_none hj hent).1.symm, by rw [hck]; exact (fm_none hj hent).2.symm⟩
                  · rw [if_neg h0] at hent
                    have hq : (ord x y == 0) = false := by rw [beq_eq_false_iff_ne]; exact h0
                    simp only [aws, eq_self, reduceIte, Nat.reduceLT, Nat.reduceLeDiff, Nat.reduceEqDiff, Int.reduceNeg, teset, inj_take, inj_agg, inj_len, y7.1, y7.2, hq]
                    refine ACallV.pure (ih y x hxo hyn) ?_
                    simp only [aws, eq_self, reduceIte, Nat.reduceLeDiff, Nat.reduceEqDiff, Int.reduceNeg, storeB, teset, inj_drop, inj_len, inj_one, y7.2]
                    have hb1 : (0 + 1) * 16 ≤ 140737488355328 := by decide
                    have hb3 : (0 + 1) * 80 ≤ 140737488355328 := by decide
                    have hbX := b80c hfl.1 hjm
                    have hbK := b16c hfl.2 hjm
                    rcases hown with ⟨hx0, hq0, rfl, rfl, hnt⟩ | ⟨g, g', rfl, hk1, rfl, hk0, hnt⟩
                    · have hk0 : True := trivial
                      have hk1 : True := trivial
                      refine acode_draw_chain te_ok mixed [] (by kernel_rfl) ?_
                      simp only [aws, eq_self, implies_true, imp_self, reduceIte, reduceCtorEq, Nat.reduceAdd, Nat.reduceLT, Nat.reduceLeDiff, Nat.reduceEqDiff, Nat.reduceMul, Int.reduceNeg, acmpnil, appBox, storeB, appendTo, teset, e2, e3, e4, e6, e33, e34, e35, g0, g1, g2, g4, inj_take, inj_agg, inj_len, inj_one, range1, y0.1, y1.1, y2.1, y4.1, z0.1, z1.1, z2.1, z4.1, y7.2, newTok_boxf, skR_app1, hnt, hb1, hb3]
                      refine ⟨n' - 1, nlt1 hn' hj, j + 1, cx ++ [patchP L x y], ck ++ [us[j]], _, _, by rw [wrap_succ (jwrap hjm)], nadd hn' hj, Nat.le_trans (by decide) hnb, rfl, .inr ⟨0, 0, by simp [hx0], rfl, by simp [hq0], rfl⟩, by rw [hcx]; exact (fm_some hj hent).1.symm, by rw [hck]; exact (fm_some hj hent).2.symm⟩
                    · refine acode_draw_chain te_ok mixed [] (by kernel_rfl) ?_
                      simp only [aws, eq_self, implies_true, imp_self, reduceIte, reduceCtorEq, Nat.reduceAdd, Nat.reduceLT, Nat.reduceLeDiff, Nat.reduceEqDiff, Nat.reduceMul, Int.reduceNeg, acmpnil, appBox, storeB, appendTo, teset, e2, e3, e4, e6, e33, e34, e35, g0, g1, g2, g4, inj_take, inj_agg, inj_len, inj_one, List.length_map, range1, y0.1, y1.1, y2.1, y4.1, z0.1, z1.1, z2.1, z4.1, y7.2, setTok_boxf, List.length_map, hnt, hb1, hbX, hbK, hk0, hk1]
                      refine ⟨n' - 1, nlt1 hn' hj, j + 1, cx ++ [patchP L x y], ck ++ [us[j]], _, _, by rw [wrap_succ (jwrap hjm)], nadd hn' hj, Nat.le_trans (by decide) hnb, rfl, .inr ⟨g + 1, g' + 1, by simp, rfl, by simp, rfl⟩, by rw [hcx]; exact (fm_some hj hent).1.symm, by rw [hck]; exact (fm_some hj hent).2.symm⟩
        · have n1 : as_ = [] := List.eq_nil_of_length_eq_zero (by omega)
          have n2 : ks = [] := List.eq_nil_of_length_eq_zero (by omega)
          have n3 : ax = [] := List.eq_nil_of_length_eq_zero (by rw [← a4, n1]; rfl)
          have n4 : xs = [] := List.eq_nil_of_length_eq_zero (by rw [← b4, n2]; rfl)
          subst n1 n2 n3 n4
          refine ACallV.pure concat_nil ?_
          simp only [aws, eq_self, reduceIte, Nat.reduceLT, Nat.reduceEqDiff, Int.reduceNeg]
          refine ACallV.pure sort_nil ?_
          simp only [aws, eq_self, reduceIte, Nat.reduceAdd, Nat.reduceLT, Nat.reduceLeDiff, Nat.reduceEqDiff, Int.reduceNeg, storeB, afill, teset]
          refine ACallV.pure compact_nil ?_
          simp only [aws, eq_self, reduceIte, Nat.reduceLT, Nat.reduceEqDiff, Int.reduceNeg, teset]
          refine ⟨fun n' s' h' => s' 4 = .ptr 2 0 ∧ s' 6 = .ptr 3 0 ∧ s' 34 = .int .i64 0 ∧ s' 35 = .int .i64 0 ∧ h'.box 2 = some [.int .i64 0, .int .i64 0, .str ⟨#[]⟩, .sl .full 0 [], .sl .full 0 []] ∧ h'.box 3 = some [.int .i64 5, .int .i64 0, .str ⟨#[]⟩, .sl .full 0 [], .sl .full 0 []], ⟨0, ?_⟩, ?_⟩
          · simp only [aws, eq_self, reduceIte, Nat.reduceAdd, Nat.reduceEqDiff, Int.natCast_zero]
          · rintro n' s' h' ⟨e4, e6, e34, e35, g2, g3⟩
            have hl0 : decide ((0 : Int) < 0) = false := rfl
            simp only [aws, eq_self, reduceIte, Nat.reduceAdd, Nat.reduceLT, Nat.reduceLeDiff, Nat.reduceEqDiff, Int.reduceLT, Int.reduceNeg, acmpnil, storeB, ares1, teset, e4, e6, e34, e35, g2, g3]
            have hu : uniS [] [] = [] := by unfold uniS sortS; simp [ddS]
            rw [hu]
            refine ⟨_, rfl, To0.wk ?_⟩
            exact wk_agg5 wk_nil5 wk_nil1
theorem hpatch (a b : V) (ha : valid a = true) (hb : valid b = true) : Pure Tryz.prog 67 [inj a, inj b] (inj (patchP 6 a b)) := patch_pure 6 b a (valid_ok ha) (of_decide_eq_true hb)
end Go.Proofs.YtjdocenbfghglaaGreatDoor.AW
end
