/- Texts of this claim, part 14: V46, V47, V48, V49, L5, L6. -/
import Derived.Test.YtjdocenbfghglaaGreatDoorMg1
import Derived.Test.YtjdocenbfghglaaGreatDoorMg2
import Derived.Test.YtjdocenbfghglaaGreatDoorMg3
import Derived.Test.YtjdocenbfghglaaGreatDoorMg7
import Derived.Test.YtjdocenbfghglaaGreatDoorMg8
import Derived.Test.YtjdocenbfghglaaGreatDoorMg10
section
set_option linter.unusedSimpArgs false
set_option linter.unusedVariables false
namespace Go.Proofs.YtjdocenbfghglaaGreatDoor.AW
open Go Go.RowKit

def mergedV (a b : V) : V × Int := if valid a = true ∧ valid b = true then wholeV (mergeV a b) else (zeroV, 1)
theorem wk_bad2 (n : Int) : Wk (.tup [.agg [.int .i64 0, .int .i64 0, .str ⟨#[]⟩, .sl .full 0 [], .sl .full 0 []], .int .i64 n]) (.tup [inj zeroV, .int .i64 n]) := (WkAll.cons wk_zero (.cons (.refl _) .nil)).tup
set_option maxHeartbeats 2000000 in
theorem pmerge_pure (a b : V) (ha : a.sm) (hb : b.sm) : Pure Tryz.prog 26 [inj a, inj b] (.tup [inj (mergedV a b).1, .int .i64 (mergedV a b).2]) := by
  have va := pvalid_pure a ha
  have vb := pvalid_pure b hb
  have hmp := fun h1 h2 => merge_pure b a (valid_ok h1) (valid_ok h2)
  have hws := fun h1 h2 => whole_pure _ (merge_wok b a (valid_ok h1) (valid_ok h2)).sm
  obtain ⟨ak, ai, at_, ax, as_⟩ := a
  obtain ⟨bk, bi, bt, bx, bs⟩ := b
  simp only [inj_mk ak, inj_mk bk] at va vb hmp ⊢
  refine Pure.ofW ⟨Tryz.f26, Tryz.func26, rfl, by kernel_rfl⟩ (tup2_under _ _) (fun h hsc => ?_)
  refine acalls_of te_ok [] Tryz.func26 (c := _) rfl (Nat.le_of_ble_eq_true rfl) ?_
  simp only [aws, eq_self, reduceIte, Nat.reduceAdd, Nat.reduceLT, Nat.reduceLeDiff, teset, Tryz.ntmps26, Tryz.results26, boxR]
  refine ACallV.pure va ?_
  cases h1 : valid (V.mk ak ai at_ ax as_) with
  | false =>
    have hno : ¬ (valid (V.mk ak ai at_ ax as_) = true ∧ valid (V.mk bk bi bt bx bs) = true) := fun hh => by rw [h1] at hh; cases hh.1
    simp only [aws, eq_self, implies_true, reduceIte, Nat.reduceAdd, Nat.reduceLT, Nat.reduceLeDiff, Nat.reduceEqDiff, storeB, ares1, afill, teset]
    refine ⟨by (repeat (first | exact AH.Ext.refl _ | assumption | refine AH.Ext.set ?_ (by first | omega | (simp only [new_nb, set_nb, kill_nb, newTok_nb, setTok_nb]; omega)) _ | refine AH.Ext.new ?_ _)), _, rfl, ?_⟩
    rw [show mergedV (V.mk ak ai at_ ax as_) (V.mk bk bi bt bx bs) = (zeroV, 1) from if_neg hno]
    exact wk_bad2 1
  | true =>
    simp only [aws, eq_self, implies_true, reduceIte, Nat.reduceAdd, Nat.reduceLT, Nat.reduceLeDiff, teset]
    refine ACallV.pure vb ?_
    cases h2 : valid (V.mk bk bi bt bx bs) with
    | false =>
      have hno : ¬ (valid (V.mk ak ai at_ ax as_) = true ∧ valid (V.mk bk bi bt bx bs) = true) := fun hh => by rw [h2] at hh; cases hh.2
      simp only [aws, eq_self, implies_true, reduceIte, Nat.reduceAdd, Nat.reduceLT, Nat.reduceLeDiff, Nat.reduceEqDiff, storeB, ares1, afill, teset]
      refine ⟨by (repeat (first | exact AH.Ext.refl _ | assumption | refine AH.Ext.set ?_ (by first | omega | (simp only [new_nb, set_nb, kill_nb, newTok_nb, setTok_nb]; omega)) _ | refine AH.Ext.new ?_ _)), _, rfl, ?_⟩
      rw [show mergedV (V.mk ak ai at_ ax as_) (V.mk bk bi bt bx bs) = (zeroV, 1) from if_neg hno]
      exact wk_bad2 1
    | true =>
      have hw := hws h1 h2
      simp only [aws, eq_self, implies_true, reduceIte, Nat.reduceAdd, Nat.reduceLT, Nat.reduceLeDiff, Nat.reduceEqDiff, teset]
      refine ACallV.pure (hmp h1 h2) ?_
      simp only [aws, eq_self, reduceIte, Nat.reduceLT, Nat.reduceEqDiff]
      refine ACallV.pure hw ?_
      rw [show mergedV (V.mk ak ai at_ ax as_) (V.mk bk bi bt bx bs) = wholeV (mergeV (V.mk ak ai at_ ax as_) (V.mk bk bi bt bx bs)) from if_pos ⟨h1, h2⟩]
      generalize wholeV (mergeV (V.mk ak ai at_ ax as_) (V.mk bk bi bt bx bs)) = r
      obtain ⟨⟨rk, ri, rt, rx, rs⟩, n⟩ := r
      simp only [inj_mk rk]
      simp only [aws, eq_self, reduceIte, Nat.reduceAdd, Nat.reduceLT, Nat.reduceLeDiff, Nat.reduceEqDiff, storeB, ares1, teset]
      exact ⟨by (repeat (first | exact AH.Ext.refl _ | assumption | refine AH.Ext.set ?_ (by first | omega | (simp only [new_nb, set_nb, kill_nb, newTok_nb, setTok_nb]; omega)) _ | refine AH.Ext.new ?_ _)), _, rfl, .refl _⟩
set_option maxHeartbeats 2000000 in
theorem refMerge_pure (a b : V) (ha : a.sm) (hb : b.sm) : Pure Tryz.prog 27 [inj a, inj b] (.tup [inj (mergedV a b).1, .int .i64 (mergedV a b).2]) := by
  have va := refvalid_pure a
  have vb := refvalid_pure b
  have hmp := fun h1 h2 => refmerge_pure b a (valid_ok h1) (valid_ok h2)
  have hws := refvalid_pure (mergeV a b)
  obtain ⟨ak, ai, at_, ax, as_⟩ := a
  obtain ⟨bk, bi, bt, bx, bs⟩ := b
  simp only [inj_mk ak, inj_mk bk] at va vb hmp ⊢
  refine Pure.ofW ⟨Tryz.f27, Tryz.func27, rfl, by kernel_rfl⟩ (tup2_under _ _) (fun h hsc => ?_)
  refine acalls_of te_ok [] Tryz.func27 (c := _) rfl (Nat.le_of_ble_eq_true rfl) ?_
  simp only [aws, eq_self, reduceIte, Nat.reduceAdd, Nat.reduceLT, Nat.reduceLeDiff, teset, Tryz.ntmps27, Tryz.results27, boxR]
  refine ACallV.pure va ?_
  cases h1 : valid (V.mk ak ai at_ ax as_) with
  | false =>
    have hno : ¬ (valid (V.mk ak ai at_ ax as_) = true ∧ valid (V.mk bk bi bt bx bs) = true) := fun hh => by rw [h1] at hh; cases hh.1
    simp only [aws, eq_self, implies_true, reduceIte, Nat.reduceAdd, Nat.reduceLT, Nat.reduceLeDiff, Nat.reduceEqDiff, storeB, ares1, afill, teset]
    refine ⟨by (repeat (first | exact AH.Ext.refl _ | assumption | refine AH.Ext.set ?_ (by first | omega | (simp only [new_nb, set_nb, kill_nb, newTok_nb, setTok_nb]; omega)) _ | refine AH.Ext.new ?_ _)), _, rfl, ?_⟩
    rw [show mergedV (V.mk ak ai at_ ax as_) (V.mk bk bi bt bx bs) = (zeroV, 1) from if_neg hno]
    exact wk_bad2 1
  | true =>
    simp only [aws, eq_self, implies_true, reduceIte, Nat.reduceAdd, Nat.reduceLT, Nat.reduceLeDiff, Nat.reduceEqDiff, teset]
    refine ACallV.pure vb ?_
    cases h2 : valid (V.mk bk bi bt bx bs) with
    | false =>
      have hno : ¬ (valid (V.mk ak ai at_ ax as_) = true ∧ valid (V.mk bk bi bt bx bs) = true) := fun hh => by rw [h2] at hh; cases hh.2
      simp only [aws, eq_self, implies_true, reduceIte, Nat.reduceAdd, Nat.reduceLT, Nat.reduceLeDiff, Nat.reduceEqDiff, storeB, ares1, afill, teset]
      refine ⟨by (repeat (first | exact AH.Ext.refl _ | assumption | refine AH.Ext.set ?_ (by first | omega | (simp only [new_nb, set_nb, kill_nb, newTok_nb, setTok_nb]; omega)) _ | refine AH.Ext.new ?_ _)), _, rfl, ?_⟩
      rw [show mergedV (V.mk ak ai at_ ax as_) (V.mk bk bi bt bx bs) = (zeroV, 1) from if_neg hno]
      exact wk_bad2 1
    | true =>
      have hw := hws
      have hm := hmp h1 h2
      rw [show mergedV (V.mk ak ai at_ ax as_) (V.mk bk bi bt bx bs) = wholeV (mergeV (V.mk ak ai at_ ax as_) (V.mk bk bi bt bx bs)) from if_pos ⟨h1, h2⟩]
      generalize mergeV (V.mk ak ai at_ ax as_) (V.mk bk bi bt bx bs) = r at hm hw ⊢
      obtain ⟨rk, ri, rt, rx, rs⟩ := r
      simp only [inj_mk rk] at hm hw
      simp only [aws, eq_self, implies_true, reduceIte, Nat.reduceAdd, Nat.reduceLT, Nat.reduceLeDiff, Nat.reduceEqDiff, teset]
      refine ACallV.pure hm ?_
      simp only [aws, eq_self, reduceIte, Nat.reduceAdd, Nat.reduceLT, Nat.reduceLeDiff, Nat.reduceEqDiff, storeB, teset]
      refine ACallV.pure hw ?_
      unfold wholeV
      cases h3 : valid (V.mk rk ri rt rx rs) with
      | false =>
        simp only [aws, eq_self, reduceIte, Nat.reduceAdd, Nat.reduceLT, Nat.reduceLeDiff, Nat.reduceEqDiff, storeB, ares1, afill, teset]
        exact ⟨by (repeat (first | exact AH.Ext.refl _ | assumption | refine AH.Ext.set ?_ (by first | omega | (simp only [new_nb, set_nb, kill_nb, newTok_nb, setTok_nb]; omega)) _ | refine AH.Ext.new ?_ _)), _, rfl, wk_bad2 2⟩
      | true =>
        simp only [if_true, inj_mk rk]
        simp only [aws, eq_self, reduceIte, Nat.reduceAdd, Nat.reduceLT, Nat.reduceLeDiff, Nat.reduceEqDiff, storeB, ares1, teset]
        exact ⟨by (repeat (first | exact AH.Ext.refl _ | assumption | refine AH.Ext.set ?_ (by first | omega | (simp only [new_nb, set_nb, kill_nb, newTok_nb, setTok_nb]; omega)) _ | refine AH.Ext.new ?_ _)), _, rfl, .refl _⟩
end Go.Proofs.YtjdocenbfghglaaGreatDoor.AW
end
section
set_option linter.unusedSimpArgs false
set_option linter.unusedVariables false
namespace Go.Proofs.YtjdocenbfghglaaGreatDoor.AW
open Go Go.RowKit

theorem refnull_pure : Pure Tryz.prog 51 [] (inj zeroV) := by
  refine Pure.ofW ⟨Tryz.f51, Tryz.func51, rfl, by kernel_rfl⟩ (inj_under _) (fun h hsc => ?_)
  refine acalls_of te_ok [] Tryz.func51 (c := _) rfl (Nat.le_of_ble_eq_true rfl) ?_
  simp only [aws, eq_self, reduceIte, Nat.reduceAdd, Nat.reduceLT, Nat.reduceLeDiff, storeB, ares1, afill, teset, Tryz.ntmps51, Tryz.results51]
  exact ⟨by (repeat (first | exact AH.Ext.refl _ | assumption | refine AH.Ext.set ?_ (by first | omega | (simp only [new_nb, set_nb, kill_nb, newTok_nb, setTok_nb]; omega)) _ | refine AH.Ext.new ?_ _)), _, rfl, wk_zero⟩
/-- What is made so far. -/
def AI (v : V) (n : Nat) : Prop := OK5 v ∧ (∀ x ∈ v.items, Wok x) ∧ v.items.length + n ≤ 120
theorem AI.wok {v : V} {n : Nat} (h : AI v n) : Wok v := h.1.wok (by have := h.2.2; omega) h.2.1
theorem AI.set {v y : V} {n : Nat} {k : ByteArray} (h : AI v (n + 1)) (hk : isText k = true) (hy : Wok y) : AI (setK v k y) n := by
  refine ⟨set_ok5 h.1 hk, fun x hx => ?_, ?_⟩
  · rcases set_items x hx with rfl | hx
    · exact hy
    · exact h.2.1 x hx
  · have := setK_len (v := v) (k := k) (y := y) h.1.2.2.2.1
    have := h.2.2
    omega
theorem AI.less {v : V} {n : Nat} (h : AI v (n + 1)) : AI v n := ⟨h.1, h.2.1, by have := h.2.2; omega⟩
set_option maxHeartbeats 8000000 in
theorem refpatch_pure : ∀ (L : Nat) (b a : V), Vok a → nodesS L b ≤ 60 → Pure Tryz.prog 69 [inj a, inj b] (inj (refpatchP L a b)) := by
  intro L
  induction L with
  | zero => intro b a _ h; simp [nodesS] at h
  | succ L ih =>
    intro b a ha hnb0
    have hb : Vok b := ⟨L + 1, hnb0⟩
    have hch : ∀ x ∈ b.items, nodesS L x ≤ 60 := by
      simp only [nodesS] at hnb0
      split at hnb0
      · omega
      · split at hnb0
        · exact nodesF_all _ _ _ hnb0
        · omega
    obtain ⟨k, i, t, xs, ks⟩ := b
    obtain ⟨ak, ai, at_, ax, as_⟩ := a
    rw [refpatchP]
    rw [inj_mk ak, inj_mk k]
    have zz : ∀ a b : Nat, a < b → ((a = b) = False) ∧ ((b = a) = False) := fun a b hab => ⟨by rw [eq_iff_iff]; exact ⟨fun e => by omega, False.elim⟩, by rw [eq_iff_iff]; exact ⟨fun e => by omega, False.elim⟩⟩
    refine Pure.ofW ⟨Tryz.f69, Tryz.func69, rfl, by kernel_rfl⟩ (inj_under _) (fun h hsc => ?_)
    refine acalls_of te_ok [] Tryz.func69 (c := _) rfl (Nat.le_of_ble_eq_true rfl) ?_
    simp only [aws, eq_self, implies_true, imp_self, reduceIte, Nat.reduceLT, Nat.reduceEqDiff, acmpnil, teset, Tryz.ntmps69, Tryz.results69, boxR]
    cases hak : (ak != 5) with
    | true =>
      have hak5 : ak ≠ 5 := by simpa using hak
      simp only [aws, eq_self, reduceIte, Nat.reduceAdd, Nat.reduceLT, Nat.reduceLeDiff, Nat.reduceEqDiff, storeB, ares1, teset]
      refine ⟨by (repeat (first | exact AH.Ext.refl _ | assumption | refine AH.Ext.set ?_ (by first | omega | (simp only [new_nb, set_nb, kill_nb, newTok_nb, setTok_nb]; omega)) _ | refine AH.Ext.new ?_ _)), _, rfl, ?_⟩
      rw [if_neg (fun hh => hak5 hh.1), inj_mk]
      exact .refl _
    | false =>
      have hak5 : ak = 5 := by simpa using hak
      subst hak5
      cases hk : (k != 5) with
      | true =>
        have hk5 : k ≠ 5 := by simpa using hk
        simp only [aws, eq_self, implies_true, reduceIte, Nat.reduceAdd, Nat.reduceLT, Nat.reduceLeDiff, Nat.reduceEqDiff, acmpnil, storeB, ares1, teset, hk]
        refine ⟨by (repeat (first | exact AH.Ext.refl _ | assumption | refine AH.Ext.set ?_ (by first | omega | (simp only [new_nb, set_nb, kill_nb, newTok_nb, setTok_nb]; omega)) _ | refine AH.Ext.new ?_ _)), _, rfl, ?_⟩
        rw [if_neg (fun hh => hk5 hh.2), inj_mk]
        exact .refl _
      | false =>
        have hk5 : k = 5 := by simpa using hk
        subst hk5
        have oa := ha.w.ok5 rfl
        have ob := hb.w.ok5 rfl
        obtain ⟨_, a2, a3, a4, a5, a6⟩ := id oa
        obtain ⟨_, b2, b3, b4, b5, b6⟩ := id ob
        simp only [V.int, V.text, V.items, V.keys] at a2 a3 a4 a5 a6 b2 b3 b4 b5 b6 hch
        subst a2 a3 b2 b3
        have hal : as_.length ≤ 60 := by have := ha.shape.2; simp only [V.items] at this; omega
        have hbl : ks.length ≤ 60 := by have := hb.shape.2; simp only [V.items] at this; omega
        rw [if_pos ⟨rfl, rfl⟩]
        simp only [V.keys, V.items]
        simp only [aws, eq_self, implies_true, reduceIte, Nat.reduceLT, Nat.reduceEqDiff, acmpnil, teset, hak]
        refine ACallV.det ⟨Tryz.f30, Tryz.func30, rfl, by kernel_rfl⟩ rfl (objnil_calls _) ?_
        simp only [aws, eq_self, reduceIte, Nat.reduceAdd, Nat.reduceLT, Nat.reduceLeDiff, Nat.reduceEqDiff, storeB, teset]
        refine ⟨fun n s' h' => ∃ (j : Nat) (cx : List V) (ck : List ByteArray) (aX aK : AV), s' 2 = .ptr h.nb 0 ∧ s' 3 = .ptr (h.nb + 1) 0 ∧ s' 4 = .ptr (h.nb + 1 + 1) 0 ∧ s' 5 = .ptr (h.nb + 1 + 1 + 1 + 1) 0 ∧ s' 6 = .int .i64 j ∧ n + j = as_.length ∧ h.Ext h' ∧ Scoped h' ∧ h.nb + 1 + 1 + 1 + 1 < h'.nb ∧ h'.box h.nb = some [.int .i64 5, .int .i64 0, .str ⟨#[]⟩, .sl .ro 5 (ax.map inj), .sl .ro 1 (as_.map .str)] ∧ h'.box (h.nb + 1) = some [.int .i64 5, .int .i64 0, .str ⟨#[]⟩, .sl .ro 5 (xs.map inj), .sl .ro 1 (ks.map .str)] ∧ h'.box (h.nb + 1 + 1) = some [.int .i64 0, .int .i64 0, .str ⟨#[]⟩, .sl .full 0 [], .sl .full 0 []] ∧ h'.box (h.nb + 1 + 1 + 1 + 1) = some [.int .i64 5, .int .i64 0, .str ⟨#[]⟩, aX, aK] ∧ aX.one = true ∧ aK.one = true ∧ Wk aX (.sl .ro 5 (cx.map inj)) ∧ Wk aK (.sl .ro 1 (ck.map .str)) ∧ AI (.mk 5 0 ⟨#[]⟩ cx ck) ((as_.drop j).length + ks.length) ∧ goneA (.mk 5 0 ⟨#[]⟩ xs ks) (as_.drop j) (.mk 5 0 ⟨#[]⟩ cx ck) = goneA (.mk 5 0 ⟨#[]⟩ xs ks) as_ (emptyV 5), ⟨as_.length, 0, [], [], .sl .full 0 [], .sl .full 0 [], ?_⟩, ?_⟩
        · simp only [aws, eq_self, reduceIte, Nat.reduceEqDiff, Int.natCast_zero]
          exact ⟨by (repeat (first | exact AH.Ext.refl _ | assumption | refine AH.Ext.set ?_ (by first | omega | (simp only [new_nb, set_nb, kill_nb, newTok_nb, setTok_nb]; omega)) _ | refine AH.Ext.new ?_ _)), by (repeat (first | assumption | refine Scoped.set ?_ (by first | omega | (simp only [new_nb]; omega)) _ | refine Scoped.new ?_ _)), by omega, wk_nil5, wk_nil1, ⟨empty5, fun x hx => (by cases hx), (by show 0 + _ ≤ 120; omega)⟩, rfl⟩
        · rintro n s' h' ⟨j, cx, ck, aX, aK, e2, e3, e4, e5, e6, hn, hE, hS, hnb, g1, g2, g3, g4, o1, o2, wX, wK, hAI, hit⟩
          simp only [aws, eq_self, reduceIte, Nat.reduceLT, Nat.reduceEqDiff, acmpnil, teset, e2, e6, g1, List.length_map]
          cases hc : decide ((j : Int) < (as_.length : Int)) with
          | false =>
            simp only [decide_eq_false_iff_not] at hc
            rw [List.drop_eq_nil_of_le (by omega), goneA] at hit
            rw [List.drop_eq_nil_of_le (by omega), List.length_nil, Nat.zero_add] at hAI
            simp only [aws, eq_self, reduceIte, Nat.reduceLT]
            refine ⟨fun n s' h' => ∃ (j : Nat) (cx : List V) (ck : List ByteArray) (aX aK : AV), s' 2 = .ptr h.nb 0 ∧ s' 3 = .ptr (h.nb + 1) 0 ∧ s' 4 = .ptr (h.nb + 1 + 1) 0 ∧ s' 5 = .ptr (h.nb + 1 + 1 + 1 + 1) 0 ∧ s' 9 = .int .i64 j ∧ n + j = ks.length ∧ h.Ext h' ∧ Scoped h' ∧ h.nb + 1 + 1 + 1 + 1 < h'.nb ∧ h'.box h.nb = some [.int .i64 5, .int .i64 0, .str ⟨#[]⟩, .sl .ro 5 (ax.map inj), .sl .ro 1 (as_.map .str)] ∧ h'.box (h.nb + 1) = some [.int .i64 5, .int .i64 0, .str ⟨#[]⟩, .sl .ro 5 (xs.map inj), .sl .ro 1 (ks.map .str)] ∧ h'.box (h.nb + 1 + 1) = some [.int .i64 0, .int .i64 0, .str ⟨#[]⟩, .sl .full 0 [], .sl .full 0 []] ∧ h'.box (h.nb + 1 + 1 + 1 + 1) = some [.int .i64 5, .int .i64 0, .str ⟨#[]⟩, aX, aK] ∧ aX.one = true ∧ aK.one = true ∧ Wk aX (.sl .ro 5 (cx.map inj)) ∧ Wk aK (.sl .ro 1 (ck.map .str)) ∧ AI (.mk 5 0 ⟨#[]⟩ cx ck) (ks.drop j).length ∧ newB (refpatchP L) (.mk 5 0 ⟨#[]⟩ ax as_) (ks.drop j) (xs.drop j) (.mk 5 0 ⟨#[]⟩ cx ck) = newB (refpatchP L) (.mk 5 0 ⟨#[]⟩ ax as_) ks xs (goneA (.mk 5 0 ⟨#[]⟩ xs ks) as_ (emptyV 5)), ⟨ks.length, 0, cx, ck, aX, aK, ?_⟩, ?_⟩
            · simp only [aws, eq_self, reduceIte, Nat.reduceEqDiff, e2, e3, e4, e5, g1, g2, g3, g4, o1, o2, Int.natCast_zero]
              exact ⟨hE, hS, hnb, wX, wK, hAI, by rw [hit]⟩
            · clear e2 e3 e4 e5 e6 g1 g2 g3 g4 o1 o2 wX wK hAI hit hn hnb hE hS hc
              rintro n s' h' ⟨j, cx, ck, aX, aK, f2, f3, f4, f5, f9, hn, hE, hS, hnb, g1, g2, g3, g4, o1, o2, wX, wK, hAI, hit⟩
              simp only [aws, eq_self, reduceIte, Nat.reduceLT, Nat.reduceEqDiff, acmpnil, teset, f3, f9, g2, List.length_map]
              cases hc : decide ((j : Int) < (ks.length : Int)) with
              | false =>
                simp only [decide_eq_false_iff_not] at hc
                rw [List.drop_eq_nil_of_le (show ks.length ≤ j by omega), newB] at hit
                simp only [aws, eq_self, reduceIte, Nat.reduceAdd, Nat.reduceLT, Nat.reduceLeDiff, Nat.reduceEqDiff, storeB, ares1, teset, f4, f5, g3, g4, o1, o2]
                refine ⟨by (repeat (first | exact AH.Ext.refl _ | assumption | refine AH.Ext.set ?_ (by first | omega | (simp only [new_nb, set_nb, kill_nb, newTok_nb, setTok_nb]; omega)) _ | refine AH.Ext.new ?_ _)), _, rfl, ?_⟩
                rw [← hit]
                exact wk_agg5 wX wK
                intro _ _ _ _ hh
                cases hh
              | true =>
                simp only [decide_eq_true_eq] at hc
                have hj : j < ks.length := by omega
                have hjx : j < xs.length := by omega
                have hgetk : (ks.map AV.str)[((j : Nat) : Int).toNat]? = some (.str ks[j]) := by simp [hj]
                have hgetx : (xs.map inj)[((j : Nat) : Int).toNat]? = some (inj xs[j]) := by simp [hjx]
                have hstp := refstep_pure 0 ⟨#[]⟩ xs ks j hj
                rw [inj_mk] at hstp
                have hko := b6 _ (List.getElem_mem hj)
                have hyo : Vok xs[j] := hb.items _ (List.getElem_mem hjx)
                have hyc := hch _ (List.getElem_mem hjx)
                rw [List.drop_eq_getElem_cons hj] at hit hAI
                rw [List.drop_eq_getElem_cons hjx, newB] at hit
                rw [List.length_cons] at hAI
                have hat := refitem1_pure oa ha.w ks[j]
                rw [inj_mk 5] at hat
                have hsome := item_found5 oa ks[j]
                rw [itemS_lk rfl] at hsome
                simp only [V.keys, V.items] at hat hsome hit
                have hold : Vok ((lk as_ ax ks[j]).getD zeroV) := by
                  cases hq : lk as_ ax ks[j] with
                  | none => exact zero_ok
                  | some o => exact ha.items o (lk_mem hq).1
                have hfacts : ∀ o, Vok o → AI (setK (V.mk 5 0 ⟨#[]⟩ cx ck) ks[j] (refpatchP L o xs[j])) (ks.drop (j + 1)).length := fun o ho => hAI.set hko (by rw [patch_same L o _ ho hyo]; exact patch_wok L o _ ho hyo)
                have hputs := fun o => refwith1_pure hAI.1 hAI.wok ks[j] (refpatchP L o xs[j])
                have hms := fun o ho => ih xs[j] o ho hyc
                have heqs := fun o ho => refequal_pure o xs[j] ho hyo
                have hwa := wk_agg5 (k := 5) (i := 0) (t := ⟨#[]⟩) wX wK
                have hforms := fun o => (set_ok5 (y := refpatchP L o xs[j]) hAI.1 hko).form
                have hnb1 := hE.nb
                have y1 := zz h.nb h'.nb (by omega)
                have y2 := zz (h.nb + 1) h'.nb (by omega)
                have y3 := zz (h.nb + 1 + 1) h'.nb (by omega)
                have y4 := zz (h.nb + 1 + 1 + 1 + 1) h'.nb (by omega)
                generalize ks[j] = key at *
                generalize xs[j] = y at *
                rw [← hsome] at hat
                generalize lk as_ ax key = ol at *
                obtain ⟨old, hole⟩ : ∃ o, o = ol.getD zeroV := ⟨_, rfl⟩
                rw [← hole] at hat hold
                have hA3 := hfacts old hold
                have hput := hputs old
                have hm := hms old hold
                have heq := heqs old hold
                obtain ⟨cx', ck', hset⟩ : ∃ cx' ck', setK (.mk 5 0 ⟨#[]⟩ cx ck) key (refpatchP L old y) = .mk 5 0 ⟨#[]⟩ cx' ck' := ⟨_, _, hforms old⟩
                have hit2 : newB (refpatchP L) (.mk 5 0 ⟨#[]⟩ ax as_) (ks.drop (j + 1)) (xs.drop (j + 1)) (if ol.isSome = true ∧ ord old y = 0 then V.mk 5 0 ⟨#[]⟩ cx ck else setK (V.mk 5 0 ⟨#[]⟩ cx ck) key (refpatchP L old y)) = newB (refpatchP L) (.mk 5 0 ⟨#[]⟩ ax as_) ks xs (goneA (.mk 5 0 ⟨#[]⟩ xs ks) as_ (emptyV 5)) := by
                  rw [← hit]
                  congr 1
                  subst hole
                  cases ol with
                  | none => rw [if_neg (fun hh => by cases hh.1)]; rfl
                  | some o =>
                    show (if (true = true) ∧ ord o y = 0 then _ else _) = (if ord o y = 0 then _ else _)
                    by_cases h0 : ord o y = 0
                    · rw [if_pos ⟨rfl, h0⟩, if_pos h0]
                    · rw [if_neg (fun hh => h0 hh.2), if_neg h0]; rfl
                clear hit hfacts hputs hms heqs hforms hole hsome
                rw [hset] at hput hA3 hit2
                rw [inj_mk 5 0 ⟨#[]⟩ cx' ck'] at hput
                obtain ⟨ok, oi, ot, ox, os⟩ := old
                obtain ⟨yk, yi, yt, yx, ys⟩ := y
                rw [inj_mk ok] at hat
                rw [inj_mk ok, inj_mk yk] at hm heq
                rw [inj_mk yk] at hgetx
                generalize ol.isSome = fnd at *
                simp only [aws]
                refine acode_draw_chain te_ok mixed [] (by kernel_rfl) ?_
                simp only [aws, eq_self, reduceIte, Nat.reduceAdd, Nat.reduceLT, Nat.reduceLeDiff, Nat.reduceEqDiff, storeB, teset, f2, f3, f9, g1, g2]
                refine skR_pure hstp ?_
                refine skR_pure hat ?_
                simp only [aws, eq_self, reduceIte, Nat.reduceAdd, Int.reduceNeg, hS.none]
                refine acode_draw_chain te_ok mixed [] (by kernel_rfl) ?_
                cases fnd with
                | false =>
                  simp only [Bool.false_eq_true, false_and, if_false] at hit2
                  simp only [aws, eq_self, reduceIte, Nat.reduceAdd, Nat.reduceLT, Nat.reduceEqDiff, Int.reduceNeg]
                  refine acode_draw_chain te_ok mixed [] (by kernel_rfl) ?_
                  simp only [aws, eq_self, implies_true, imp_self, reduceIte, reduceCtorEq, Nat.reduceAdd, Nat.reduceLT, Nat.reduceLeDiff, Nat.reduceEqDiff, Int.reduceNeg, acmpnil, storeB, teset, hS.none, f2, f3, f4, f5, f9, g2, g4, y2.1, y4.1, hgetk, hgetx, Int.natCast_nonneg]
                  refine skR_pure hm ?_
                  refine skR_pure (Pure.wk hput (.cons hwa (.cons (.refl _) (.cons (.refl _) .nil))) (.refl _)) ?_
                  simp only [aws, eq_self, reduceIte, Nat.reduceAdd, Nat.reduceLeDiff, g1, g2, g3, g4, y1.1, y2.1, y3.1, y4.1]
                  exact ⟨n - 1, by omega, j + 1, cx', ck', _, _, by rw [wrap_succ (by omega)], by omega, by (repeat (first | exact AH.Ext.refl _ | assumption | refine AH.Ext.set ?_ (by first | omega | (simp only [new_nb, set_nb, kill_nb, newTok_nb, setTok_nb]; omega)) _ | refine AH.Ext.new ?_ _)), by (repeat (first | assumption | refine Scoped.set ?_ (by first | omega | (simp only [new_nb, set_nb]; omega)) _ | refine Scoped.new ?_ _)), by omega, rfl, rfl, rfl, .refl _, .refl _, hA3, hit2⟩
                | true =>
                  simp only [true_and] at hit2
                  simp only [aws, eq_self, reduceIte, Nat.reduceAdd, Nat.reduceLT, Nat.reduceLeDiff, Nat.reduceEqDiff, Int.reduceNeg, teset, hS.none, f3, f9, g2, y2.1, hgetx, Int.natCast_nonneg]
                  refine skR_pure heq ?_
                  by_cases h0 : ord (V.mk ok oi ot ox os) (V.mk yk yi yt yx ys) = 0
                  · rw [if_pos h0] at hit2
                    have hq : (ord (V.mk ok oi ot ox os) (V.mk yk yi yt yx ys) == 0) = true := by rw [h0]; rfl
                    simp only [aws, eq_self, reduceIte, Nat.reduceLT, Nat.reduceEqDiff, Int.reduceNeg, acmpnil, f2, f3, f4, f5, f9, g1, g2, g3, g4, y1.1, y2.1, y3.1, y4.1, hq]
                    exact ⟨n - 1, by omega, j + 1, cx, ck, aX, aK, by rw [wrap_succ (by omega)], by omega, by (repeat (first | exact AH.Ext.refl _ | assumption | refine AH.Ext.set ?_ (by first | omega | (simp only [new_nb, set_nb, kill_nb, newTok_nb, setTok_nb]; omega)) _ | refine AH.Ext.new ?_ _)), by (repeat (first | assumption | refine Scoped.set ?_ (by first | omega | (simp only [new_nb]; omega)) _ | refine Scoped.new ?_ _)), by omega, rfl, o1, o2, wX, wK, hAI.less, hit2⟩
                  · rw [if_neg h0] at hit2
                    have hq : (ord (V.mk ok oi ot ox os) (V.mk yk yi yt yx ys) == 0) = false := by rw [beq_eq_false_iff_ne]; exact h0
                    simp only [aws, eq_self, Int.reduceNeg, hq]
                    refine acode_draw_chain te_ok mixed [] (by kernel_rfl) ?_
                    simp only [aws, eq_self, implies_true, imp_self, reduceIte, reduceCtorEq, Nat.reduceAdd, Nat.reduceLT, Nat.reduceLeDiff, Nat.reduceEqDiff, Int.reduceNeg, acmpnil, storeB, teset, hS.none, f2, f3, f4, f5, f9, g2, g4, y2.1, y4.1, hgetk, hgetx, Int.natCast_nonneg]
                    refine skR_pure hm ?_
                    refine skR_pure (Pure.wk hput (.cons hwa (.cons (.refl _) (.cons (.refl _) .nil))) (.refl _)) ?_
                    simp only [aws, eq_self, reduceIte, Nat.reduceAdd, Nat.reduceLeDiff, g1, g2, g3, g4, y1.1, y2.1, y3.1, y4.1]
                    exact ⟨n - 1, by omega, j + 1, cx', ck', _, _, by rw [wrap_succ (by omega)], by omega, by (repeat (first | exact AH.Ext.refl _ | assumption | refine AH.Ext.set ?_ (by first | omega | (simp only [new_nb, set_nb, kill_nb, newTok_nb, setTok_nb]; omega)) _ | refine AH.Ext.new ?_ _)), by (repeat (first | assumption | refine Scoped.set ?_ (by first | omega | (simp only [new_nb, set_nb]; omega)) _ | refine Scoped.new ?_ _)), by omega, rfl, rfl, rfl, .refl _, .refl _, hA3, hit2⟩
          | true =>
            simp only [decide_eq_true_eq] at hc
            have hj : j < as_.length := by omega
            have hgetk : (as_.map AV.str)[((j : Nat) : Int).toNat]? = some (.str as_[j]) := by simp [hj]
            have hstp := refstep_pure 0 ⟨#[]⟩ ax as_ j hj
            rw [inj_mk] at hstp
            have hko := a6 _ (List.getElem_mem hj)
            rw [List.drop_eq_getElem_cons hj] at hit hAI
            rw [goneA] at hit
            have hAI2 : AI (V.mk 5 0 ⟨#[]⟩ cx ck) (((as_.drop (j + 1)).length + ks.length) + 1) := ⟨hAI.1, hAI.2.1, by have := hAI.2.2; rw [List.length_cons] at this; omega⟩
            have hat := refitem1_pure ob hb.w as_[j]
            rw [inj_mk 5] at hat
            have hsome := item_found5 ob as_[j]
            rw [itemS_lk rfl] at hsome
            simp only [V.keys, V.items] at hat hsome hit
            simp only [hsome] at hit
            have hput := refwith1_pure hAI.1 hAI.wok as_[j] zeroV
            have hwa := wk_agg5 (k := 5) (i := 0) (t := ⟨#[]⟩) wX wK
            obtain ⟨cx', ck', hset⟩ : ∃ cx' ck', setK (.mk 5 0 ⟨#[]⟩ cx ck) as_[j] zeroV = .mk 5 0 ⟨#[]⟩ cx' ck' := ⟨_, _, (set_ok5 hAI.1 hko).form⟩
            have hAI3 := hAI2.set hko zero_ok.w
            rw [hset] at hput hAI3 hit
            rw [inj_mk 5 0 ⟨#[]⟩ cx' ck'] at hput
            generalize as_[j] = key at *
            generalize (lk ks xs key).getD zeroV = old at *
            obtain ⟨ok, oi, ot, ox, os⟩ := old
            rw [inj_mk ok] at hat
            have hnb1 := hE.nb
            have y1 := zz h.nb h'.nb (by omega)
            have y2 := zz (h.nb + 1) h'.nb (by omega)
            have y3 := zz (h.nb + 1 + 1) h'.nb (by omega)
            have y4 := zz (h.nb + 1 + 1 + 1 + 1) h'.nb (by omega)
            simp only [aws]
            refine acode_draw_chain te_ok mixed [] (by kernel_rfl) ?_
            simp only [aws, eq_self, reduceIte, Nat.reduceAdd, Nat.reduceLT, Nat.reduceLeDiff, Nat.reduceEqDiff, storeB, teset, e2, e3, e6, g1, g2]
            refine skR_pure hstp ?_
            refine skR_pure hat ?_
            simp only [aws, eq_self, reduceIte, Nat.reduceAdd, Nat.reduceEqDiff, Int.reduceNeg, hS.none]
            cases hf : foundS ks key with
            | true =>
              simp only [hf, if_true] at hit
              simp only [aws, eq_self, reduceIte, Nat.reduceLT, Nat.reduceEqDiff, Int.reduceNeg, acmpnil, e2, e3, e4, e5, e6, g1, g2, g3, g4, y1.1, y2.1, y3.1, y4.1]
              exact ⟨n - 1, by omega, j + 1, cx, ck, aX, aK, by rw [wrap_succ (by omega)], by omega, by (repeat (first | exact AH.Ext.refl _ | assumption | refine AH.Ext.set ?_ (by first | omega | (simp only [new_nb, set_nb, kill_nb, newTok_nb, setTok_nb]; omega)) _ | refine AH.Ext.new ?_ _)), by (repeat (first | assumption | refine Scoped.set ?_ (by first | omega | (simp only [new_nb]; omega)) _ | refine Scoped.new ?_ _)), by omega, rfl, o1, o2, wX, wK, hAI2.less, hit⟩
            | false =>
              simp only [hf, Bool.false_eq_true, if_false] at hit
              simp only [aws, Int.reduceNeg]
              refine acode_draw_chain te_ok mixed [] (by kernel_rfl) ?_
              simp only [aws, eq_self, implies_true, imp_self, reduceIte, reduceCtorEq, Nat.reduceAdd, Nat.reduceLT, Nat.reduceLeDiff, Nat.reduceEqDiff, Int.reduceNeg, acmpnil, storeB, teset, e2, e3, e4, e5, e6, g1, g4, y1.1, y4.1, hgetk, Int.natCast_nonneg]
              refine skR_pure refnull_pure ?_
              refine skR_pure (Pure.wk hput (.cons hwa (.cons (.refl _) (.cons (.refl _) .nil))) (.refl _)) ?_
              simp only [aws, eq_self, reduceIte, Nat.reduceAdd, Nat.reduceLeDiff, g1, g2, g3, g4, y1.1, y2.1, y3.1, y4.1]
              exact ⟨n - 1, by omega, j + 1, cx', ck', _, _, by rw [wrap_succ (by omega)], by omega, by (repeat (first | exact AH.Ext.refl _ | assumption | refine AH.Ext.set ?_ (by first | omega | (simp only [new_nb, set_nb, kill_nb, newTok_nb, setTok_nb]; omega)) _ | refine AH.Ext.new ?_ _)), by (repeat (first | assumption | refine Scoped.set ?_ (by first | omega | (simp only [new_nb, set_nb]; omega)) _ | refine Scoped.new ?_ _)), by omega, rfl, rfl, rfl, .refl _, .refl _, hAI3, hit⟩
end Go.Proofs.YtjdocenbfghglaaGreatDoor.AW
end
section
set_option linter.unusedSimpArgs false
set_option linter.unusedVariables false
namespace Go.Proofs.YtjdocenbfghglaaGreatDoor.AW
open Go Go.RowKit

mutual
theorem sameS_eq : ∀ (x y : V), sameS x y = true → x = y
  | .mk k i t xs ks, .mk k' i' t' xs' ks' => by
    intro h
    simp only [sameS, Bool.and_eq_true] at h
    obtain ⟨⟨h1, h2⟩, h3⟩ := h
    have h1' : k = k' ∧ i = i' ∧ t.toList = t'.toList ∧ ks.length = ks'.length := by
      simp only [Bool.not_eq_true', Bool.or_eq_false_iff, bne_eq_false_iff_eq, Bool.not_eq_false', beq_iff_eq] at h1
      exact ⟨h1.1.1.1, h1.1.1.2, h1.1.2, by have := h1.2; omega⟩
    obtain ⟨rfl, rfl, ht, hl⟩ := h1'
    have ht2 : t = t' := ba_ext ht
    have hk : ks = ks' := by
      apply List.ext_getElem hl
      intro j a b
      rw [List.all_eq_true] at h2
      have hz : j < (ks.zip ks').length := by rw [List.length_zip]; omega
      have := h2 (ks.zip ks')[j] (List.getElem_mem hz)
      rw [List.getElem_zip] at this
      exact ba_ext (by simpa using this)
    rw [ht2, hk, sameL_eq2 xs xs' h3]
theorem sameL_eq2 : ∀ (xs ys : List V), sameL xs ys = true → xs = ys
  | [], [], _ => rfl
  | [], y :: ys, h => by simp [sameL] at h
  | x :: xs, [], h => by simp [sameL] at h
  | x :: xs, y :: ys, h => by
    simp only [sameL, Bool.and_eq_true] at h
    rw [sameS_eq x y h.1, sameL_eq2 xs ys h.2]
end
/-- What Patch gives. -/
def patchedV (a b : V) : V × Int :=
  if valid a = true ∧ valid b = true then
    (if valid (patchP 6 a b) = true then (if sameS (mergeV a (patchP 6 a b)) b = true then (patchP 6 a b, 0) else (zeroV, 3)) else (zeroV, 2))
  else (zeroV, 1)
set_option maxHeartbeats 2000000 in
theorem refPatch_pure (a b : V) (ha : a.sm) (hb : b.sm) : Pure Tryz.prog 29 [inj a, inj b] (.tup [inj (patchedV a b).1, .int .i64 (patchedV a b).2]) := by
  have va := refvalid_pure a
  have vb := refvalid_pure b
  have hpp : ∀ h1 : valid a = true, ∀ h2 : valid b = true, Pure Tryz.prog 69 [inj a, inj b] (inj (patchP 6 a b)) := fun h1 h2 => by
    have := refpatch_pure 6 b a (valid_ok h1) (of_decide_eq_true h2)
    rw [patch_same 6 a b (valid_ok h1) (valid_ok h2)] at this
    exact this
  have vp := refvalid_pure (patchP 6 a b)
  have hmp := fun h1 h2 => refmerge_pure (patchP 6 a b) a (valid_ok h1) (valid_ok h2)
  have hms : ∀ h1 : valid a = true, ∀ h2 : valid (patchP 6 a b) = true, Pure Tryz.prog 15 [inj (mergeV a (patchP 6 a b)), inj b] (.bool (sameS (mergeV a (patchP 6 a b)) b)) := fun h1 h2 => same_pure _ _ (merge_wok _ a (valid_ok h1) (valid_ok h2)).sm
  have hpv : ∀ h1 : valid a = true, ∀ h2 : valid b = true, patchedV a b = if valid (patchP 6 a b) = true then (if sameS (mergeV a (patchP 6 a b)) b = true then (patchP 6 a b, 0) else (zeroV, 3)) else (zeroV, 2) := fun h1 h2 => if_pos ⟨h1, h2⟩
  generalize hp : patchP 6 a b = p at *
  obtain ⟨ak, ai, at_, ax, as_⟩ := a
  obtain ⟨bk, bi, bt, bx, bs⟩ := b
  generalize hm0 : mergeV (V.mk ak ai at_ ax as_) p = m at *
  obtain ⟨pk, pi, pt, px, ps⟩ := p
  obtain ⟨mk_, mi, mt, mx, ms⟩ := m
  simp only [inj_mk ak, inj_mk bk, inj_mk pk, inj_mk mk_] at va vb hpp vp hmp hms ⊢
  refine Pure.ofW ⟨Tryz.f29, Tryz.func29, rfl, by kernel_rfl⟩ (tup2_under _ _) (fun h hsc => ?_)
  refine acalls_of te_ok [] Tryz.func29 (c := _) rfl (Nat.le_of_ble_eq_true rfl) ?_
  simp only [aws, eq_self, reduceIte, Nat.reduceAdd, Nat.reduceLT, Nat.reduceLeDiff, teset, Tryz.ntmps29, Tryz.results29, boxR]
  refine ACallV.pure va ?_
  cases h1 : valid (V.mk ak ai at_ ax as_) with
  | false =>
    have hno : ¬ (valid (V.mk ak ai at_ ax as_) = true ∧ valid (V.mk bk bi bt bx bs) = true) := fun hh => by rw [h1] at hh; cases hh.1
    simp only [aws, eq_self, implies_true, reduceIte, Nat.reduceAdd, Nat.reduceLT, Nat.reduceLeDiff, Nat.reduceEqDiff, storeB, ares1, afill, teset]
    refine ⟨by (repeat (first | exact AH.Ext.refl _ | assumption | refine AH.Ext.set ?_ (by first | omega | (simp only [new_nb, set_nb, kill_nb, newTok_nb, setTok_nb]; omega)) _ | refine AH.Ext.new ?_ _)), _, rfl, ?_⟩
    rw [show patchedV (V.mk ak ai at_ ax as_) (V.mk bk bi bt bx bs) = (zeroV, 1) from if_neg hno]
    exact wk_bad2 1
  | true =>
    simp only [aws, eq_self, implies_true, reduceIte, Nat.reduceAdd, Nat.reduceLT, Nat.reduceLeDiff, Nat.reduceEqDiff, teset]
    refine ACallV.pure vb ?_
    cases h2 : valid (V.mk bk bi bt bx bs) with
    | false =>
      have hno : ¬ (valid (V.mk ak ai at_ ax as_) = true ∧ valid (V.mk bk bi bt bx bs) = true) := fun hh => by rw [h2] at hh; cases hh.2
      simp only [aws, eq_self, implies_true, reduceIte, Nat.reduceAdd, Nat.reduceLT, Nat.reduceLeDiff, Nat.reduceEqDiff, storeB, ares1, afill, teset]
      refine ⟨by (repeat (first | exact AH.Ext.refl _ | assumption | refine AH.Ext.set ?_ (by first | omega | (simp only [new_nb, set_nb, kill_nb, newTok_nb, setTok_nb]; omega)) _ | refine AH.Ext.new ?_ _)), _, rfl, ?_⟩
      rw [show patchedV (V.mk ak ai at_ ax as_) (V.mk bk bi bt bx bs) = (zeroV, 1) from if_neg hno]
      exact wk_bad2 1
    | true =>
      rw [hpv h1 h2]
      simp only [aws, eq_self, implies_true, reduceIte, Nat.reduceAdd, Nat.reduceLT, Nat.reduceLeDiff, Nat.reduceEqDiff, teset]
      refine ACallV.pure (hpp h1 h2) ?_
      simp only [aws, eq_self, reduceIte, Nat.reduceAdd, Nat.reduceLT, Nat.reduceLeDiff, Nat.reduceEqDiff, storeB, teset]
      refine ACallV.pure vp ?_
      cases h3 : valid (V.mk pk pi pt px ps) with
      | false =>
        simp only [aws, eq_self, reduceIte, Nat.reduceAdd, Nat.reduceLT, Nat.reduceLeDiff, Nat.reduceEqDiff, storeB, ares1, afill, teset]
        exact ⟨by (repeat (first | exact AH.Ext.refl _ | assumption | refine AH.Ext.set ?_ (by first | omega | (simp only [new_nb, set_nb, kill_nb, newTok_nb, setTok_nb]; omega)) _ | refine AH.Ext.new ?_ _)), _, rfl, wk_bad2 2⟩
      | true =>
        simp only [aws, eq_self, reduceIte, Nat.reduceLT, Nat.reduceEqDiff]
        refine acode_draw_chain te_ok mixed [] (by kernel_rfl) ?_
        simp only [aws, eq_self, reduceIte, Nat.reduceAdd, Nat.reduceLT, Nat.reduceLeDiff, Nat.reduceEqDiff, teset]
        refine skR_pure (hmp h1 h3) ?_
        simp only [aws, eq_self, reduceIte, Nat.reduceAdd, Nat.reduceLeDiff]
        refine skR_pure (hms h1 h3) ?_
        cases h4 : sameS (V.mk mk_ mi mt mx ms) (V.mk bk bi bt bx bs) with
        | false =>
          simp only [aws, eq_self, reduceIte, Nat.reduceAdd, Nat.reduceLT, Nat.reduceLeDiff, Nat.reduceEqDiff, storeB, ares1, afill, teset]
          exact ⟨by (repeat (first | exact AH.Ext.refl _ | assumption | refine AH.Ext.set ?_ (by first | omega | (simp only [new_nb, set_nb, kill_nb, newTok_nb, setTok_nb]; omega)) _ | refine AH.Ext.new ?_ _)), _, rfl, wk_bad2 3⟩
        | true =>
          simp only [if_true, inj_mk pk]
          simp only [aws, eq_self, reduceIte, Nat.reduceAdd, Nat.reduceLT, Nat.reduceLeDiff, Nat.reduceEqDiff, storeB, ares1, teset]
          exact ⟨by (repeat (first | exact AH.Ext.refl _ | assumption | refine AH.Ext.set ?_ (by first | omega | (simp only [new_nb, set_nb, kill_nb, newTok_nb, setTok_nb]; omega)) _ | refine AH.Ext.new ?_ _)), _, rfl, .refl _⟩
end Go.Proofs.YtjdocenbfghglaaGreatDoor.AW
end
section
set_option linter.unusedSimpArgs false
set_option linter.unusedVariables false
namespace Go.Proofs.YtjdocenbfghglaaGreatDoor.AW
open Go Go.RowKit

theorem sameW_ord {x y : V} (hx : Wok x) (hy : Wok y) : (ord x y == 0) = sameS x y := by
  rw [Bool.eq_iff_iff, beq_iff_eq]
  constructor
  · intro h
    rw [ordW_eq x y hx hy] at h
    rw [ordNW_zero x y hx hy h]; exact sameS_self y
  · intro h
    rw [sameS_eq x y h, ordW_eq y y hy hy, ordN_self]
set_option maxHeartbeats 2000000 in
theorem pPatch_pure (hpatch : ∀ a b : V, valid a = true → valid b = true → Pure Tryz.prog 67 [inj a, inj b] (inj (patchP 6 a b))) (a b : V) (ha : a.sm) (hb : b.sm) : Pure Tryz.prog 28 [inj a, inj b] (.tup [inj (patchedV a b).1, .int .i64 (patchedV a b).2]) := by
  have va := pvalid_pure a ha
  have vb := pvalid_pure b hb
  have hpp := hpatch a b
  have vp : ∀ h1 : valid a = true, ∀ h2 : valid b = true, Pure Tryz.prog 40 [inj (patchP 6 a b)] (.bool (valid (patchP 6 a b))) := fun h1 h2 => pvalid_pure _ (patch_wok 6 a b (valid_ok h1) (valid_ok h2)).sm
  have hmp := fun h1 h2 => merge_pure (patchP 6 a b) a (valid_ok h1) (valid_ok h2)
  have hms : ∀ h1 : valid a = true, ∀ h2 : valid (patchP 6 a b) = true, ∀ h3 : valid b = true, Pure Tryz.prog 68 [inj (mergeV a (patchP 6 a b)), inj b] (.bool (sameS (mergeV a (patchP 6 a b)) b)) := fun h1 h2 h3 => by
    have hw := merge_wok _ a (valid_ok h1) (valid_ok h2)
    have := equalW_pure _ b hw (valid_ok h3).w
    rw [sameW_ord hw (valid_ok h3).w] at this
    exact this
  have hcl := fun h2 => clone_pure (patchP 6 a b) (valid_ok h2)
  have hpv : ∀ h1 : valid a = true, ∀ h2 : valid b = true, patchedV a b = if valid (patchP 6 a b) = true then (if sameS (mergeV a (patchP 6 a b)) b = true then (patchP 6 a b, 0) else (zeroV, 3)) else (zeroV, 2) := fun h1 h2 => if_pos ⟨h1, h2⟩
  generalize hp : patchP 6 a b = p at *
  obtain ⟨ak, ai, at_, ax, as_⟩ := a
  obtain ⟨bk, bi, bt, bx, bs⟩ := b
  generalize hm0 : mergeV (V.mk ak ai at_ ax as_) p = m at *
  obtain ⟨pk, pi, pt, px, ps⟩ := p
  obtain ⟨mk_, mi, mt, mx, ms⟩ := m
  simp only [inj_mk ak, inj_mk bk, inj_mk pk, inj_mk mk_] at va vb hpp vp hmp hms hcl ⊢
  refine Pure.ofW ⟨Tryz.f28, Tryz.func28, rfl, by kernel_rfl⟩ (tup2_under _ _) (fun h hsc => ?_)
  refine acalls_of te_ok [] Tryz.func28 (c := _) rfl (Nat.le_of_ble_eq_true rfl) ?_
  simp only [aws, eq_self, reduceIte, Nat.reduceAdd, Nat.reduceLT, Nat.reduceLeDiff, teset, Tryz.ntmps28, Tryz.results28, boxR]
  refine ACallV.pure va ?_
  cases h1 : valid (V.mk ak ai at_ ax as_) with
  | false =>
    have hno : ¬ (valid (V.mk ak ai at_ ax as_) = true ∧ valid (V.mk bk bi bt bx bs) = true) := fun hh => by rw [h1] at hh; cases hh.1
    simp only [aws, eq_self, implies_true, reduceIte, Nat.reduceAdd, Nat.reduceLT, Nat.reduceLeDiff, Nat.reduceEqDiff, storeB, ares1, afill, teset]
    refine ⟨by (repeat (first | exact AH.Ext.refl _ | assumption | refine AH.Ext.set ?_ (by first | omega | (simp only [new_nb, set_nb, kill_nb, newTok_nb, setTok_nb]; omega)) _ | refine AH.Ext.new ?_ _)), _, rfl, ?_⟩
    rw [show patchedV (V.mk ak ai at_ ax as_) (V.mk bk bi bt bx bs) = (zeroV, 1) from if_neg hno]
    exact wk_bad2 1
  | true =>
    simp only [aws, eq_self, implies_true, reduceIte, Nat.reduceAdd, Nat.reduceLT, Nat.reduceLeDiff, Nat.reduceEqDiff, teset]
    refine ACallV.pure vb ?_
    cases h2 : valid (V.mk bk bi bt bx bs) with
    | false =>
      have hno : ¬ (valid (V.mk ak ai at_ ax as_) = true ∧ valid (V.mk bk bi bt bx bs) = true) := fun hh => by rw [h2] at hh; cases hh.2
      simp only [aws, eq_self, implies_true, reduceIte, Nat.reduceAdd, Nat.reduceLT, Nat.reduceLeDiff, Nat.reduceEqDiff, storeB, ares1, afill, teset]
      refine ⟨by (repeat (first | exact AH.Ext.refl _ | assumption | refine AH.Ext.set ?_ (by first | omega | (simp only [new_nb, set_nb, kill_nb, newTok_nb, setTok_nb]; omega)) _ | refine AH.Ext.new ?_ _)), _, rfl, ?_⟩
      rw [show patchedV (V.mk ak ai at_ ax as_) (V.mk bk bi bt bx bs) = (zeroV, 1) from if_neg hno]
      exact wk_bad2 1
    | true =>
      rw [hpv h1 h2]
      simp only [aws, eq_self, implies_true, reduceIte, Nat.reduceAdd, Nat.reduceLT, Nat.reduceLeDiff, Nat.reduceEqDiff, teset]
      refine ACallV.pure (hpp h1 h2) ?_
      simp only [aws, eq_self, reduceIte, Nat.reduceAdd, Nat.reduceLT, Nat.reduceLeDiff, Nat.reduceEqDiff, storeB, teset]
      refine ACallV.pure (vp h1 h2) ?_
      cases h3 : valid (V.mk pk pi pt px ps) with
      | false =>
        simp only [aws, eq_self, reduceIte, Nat.reduceAdd, Nat.reduceLT, Nat.reduceLeDiff, Nat.reduceEqDiff, storeB, ares1, afill, teset]
        exact ⟨by (repeat (first | exact AH.Ext.refl _ | assumption | refine AH.Ext.set ?_ (by first | omega | (simp only [new_nb, set_nb, kill_nb, newTok_nb, setTok_nb]; omega)) _ | refine AH.Ext.new ?_ _)), _, rfl, wk_bad2 2⟩
      | true =>
        simp only [aws, eq_self, reduceIte, Nat.reduceLT, Nat.reduceEqDiff]
        refine acode_draw_chain te_ok mixed [] (by kernel_rfl) ?_
        simp only [aws, eq_self, reduceIte, Nat.reduceAdd, Nat.reduceLT, Nat.reduceLeDiff, Nat.reduceEqDiff, teset]
        refine skR_pure (hmp h1 h3) ?_
        simp only [aws, eq_self, reduceIte, Nat.reduceAdd, Nat.reduceLeDiff]
        refine skR_pure (hms h1 h3 h2) ?_
        cases h4 : sameS (V.mk mk_ mi mt mx ms) (V.mk bk bi bt bx bs) with
        | false =>
          simp only [aws, eq_self, reduceIte, Nat.reduceAdd, Nat.reduceLT, Nat.reduceLeDiff, Nat.reduceEqDiff, storeB, ares1, afill, teset]
          exact ⟨by (repeat (first | exact AH.Ext.refl _ | assumption | refine AH.Ext.set ?_ (by first | omega | (simp only [new_nb, set_nb, kill_nb, newTok_nb, setTok_nb]; omega)) _ | refine AH.Ext.new ?_ _)), _, rfl, wk_bad2 3⟩
        | true =>
          simp only [if_true, inj_mk pk]
          simp only [aws, eq_self, reduceIte, Nat.reduceAdd, Nat.reduceLT, Nat.reduceLeDiff, Nat.reduceEqDiff, teset]
          refine ACallV.pure (hcl h3) ?_
          simp only [aws, eq_self, reduceIte, Nat.reduceAdd, Nat.reduceLT, Nat.reduceLeDiff, Nat.reduceEqDiff, storeB, ares1, teset]
          exact ⟨by (repeat (first | exact AH.Ext.refl _ | assumption | refine AH.Ext.set ?_ (by first | omega | (simp only [new_nb, set_nb, kill_nb, newTok_nb, setTok_nb]; omega)) _ | refine AH.Ext.new ?_ _)), _, rfl, .refl _⟩
end Go.Proofs.YtjdocenbfghglaaGreatDoor.AW
end
section
set_option linter.unusedSimpArgs false
set_option linter.unusedVariables false
namespace Go.Proofs.YtjdocenbfghglaaGreatDoor.AW
open Go Go.RowKit

theorem merged_sm {a b : V} (ha : a.sm) (hb : b.sm) : (mergedV a b).1.sm := by
  unfold mergedV wholeV
  split
  · next h =>
    split
    · exact (merge_wok b a (valid_ok h.1) (valid_ok h.2)).sm
    · exact zero_sm
  · exact zero_sm
theorem patched_sm {a b : V} (ha : a.sm) (hb : b.sm) : (patchedV a b).1.sm := by
  unfold patchedV
  split
  · next h =>
    split
    · split
      · exact (patch_wok 6 a b (valid_ok h.1) (valid_ok h.2)).sm
      · exact zero_sm
    · exact zero_sm
  · exact zero_sm
theorem merges_law (haw : Pure Tryz.prog 16 [] (.bool true)) (hpatch : ∀ a b : V, valid a = true → valid b = true → Pure Tryz.prog 67 [inj a, inj b] (inj (patchP 6 a b))) (a b : V) (ha : a.sm) (hb : b.sm) : Pure Tryz.prog 7 [inj a, inj b] (.bool true) := by
  refine Pure.of0 ⟨Tryz.f7, Tryz.func7, rfl, by kernel_rfl⟩ (by simp [AV.underL, inj_under]) rfl ?_
  have c1 := pmerge_pure a b ha hb
  have c2 := refMerge_pure a b ha hb
  have c3 := pPatch_pure hpatch a b ha hb
  have c4 := refPatch_pure a b ha hb
  have s1 := same_pure _ (mergedV a b).1 (merged_sm ha hb)
  have s2 := same_pure _ (patchedV a b).1 (patched_sm ha hb)
  rw [sameS_self] at s1 s2
  generalize mergedV a b = q1 at *
  generalize patchedV a b = q2 at *
  obtain ⟨y1, e1⟩ := q1
  obtain ⟨y2, e2⟩ := q2
  refine acalls_of te_ok [] Tryz.func7 (c := _) rfl (Nat.le_of_ble_eq_true rfl) ?_
  simp only [aws, eq_self, reduceIte, Nat.reduceLT, Nat.reduceLeDiff, Nat.reduceEqDiff, teset, Tryz.ntmps7, Tryz.results7, inj_take, inj_agg, inj_len, inj_one, boxR]
  refine ACallV.pure c1 ?_
  simp only [aws, eq_self, reduceIte, Nat.reduceAdd, Nat.reduceLT, Nat.reduceLeDiff, Nat.reduceEqDiff, storeB, teset, inj_take, inj_agg, inj_len, inj_one]
  refine ACallV.pure c2 ?_
  simp only [aws, eq_self, reduceIte, Nat.reduceAdd, Nat.reduceLT, Nat.reduceLeDiff, Nat.reduceEqDiff, storeB, teset, inj_take, inj_agg, inj_len, inj_one]
  refine ACallV.pure c3 ?_
  simp only [aws, eq_self, reduceIte, Nat.reduceAdd, Nat.reduceLT, Nat.reduceLeDiff, Nat.reduceEqDiff, storeB, teset, inj_take, inj_agg, inj_len, inj_one]
  refine ACallV.pure c4 ?_
  simp only [aws, eq_self, reduceIte, Nat.reduceAdd, Nat.reduceLT, Nat.reduceLeDiff, Nat.reduceEqDiff, storeB, teset, inj_take, inj_agg, inj_len, inj_one]
  refine ACallV.pure s1 ?_
  simp only [aws, eq_self, implies_true, reduceIte, Nat.reduceAdd, Nat.reduceLT, Nat.reduceLeDiff, Nat.reduceEqDiff, Nat.reduceBEq, acmpnil, teset, inj_take, inj_agg, inj_len]
  refine ACallV.pure s2 ?_
  simp only [aws, eq_self, implies_true, reduceIte, Nat.reduceLT, Nat.reduceEqDiff, Nat.reduceBEq, acmpnil]
  refine ACallV.pure haw ?_
  simp only [aws, eq_self, reduceIte, Nat.reduceLT, Nat.reduceEqDiff, ares1]
  exact ⟨_, rfl, .refl _ _⟩
end Go.Proofs.YtjdocenbfghglaaGreatDoor.AW
end
section
set_option linter.unusedSimpArgs false
set_option linter.unusedVariables false
namespace Go.Proofs.YtjdocenbfghglaaGreatDoor.AW
open Go Go.RowKit

theorem patched_ok {a b p : V} (h : patchedV a b = (p, 0)) : valid a = true ∧ valid b = true ∧ valid p = true ∧ mergeV a p = b := by
  unfold patchedV at h
  split at h
  · next h1 =>
    split at h
    · next h2 =>
      split at h
      · next h3 => injection h with h _; subst h; exact ⟨h1.1, h1.2, h2, sameS_eq _ _ h3⟩
      · cases h
    · cases h
  · cases h
theorem merged_of {a p b : V} (h1 : valid a = true) (h2 : valid p = true) (h3 : valid b = true) (h : mergeV a p = b) : mergedV a p = (b, 0) := by
  unfold mergedV wholeV
  rw [if_pos ⟨h1, h2⟩, h, if_pos h3]
theorem patched_self {a : V} (ha : valid a = true) (h5 : a.kind = 5) : patchedV a a = (emptyV 5, 0) := by
  have hv : valid (emptyV 5) = true := by decide +kernel
  unfold patchedV
  rw [if_pos ⟨ha, ha⟩, patch_self (L := 5) (valid_ok ha) h5, if_pos hv, merge_empty h5, if_pos (sameS_self a)]
theorem objnil_pure : Pure Tryz.prog 30 [.sl .full 0 [], .sl .full 0 []] (inj (emptyV 5)) := by
  refine Pure.ofW ⟨Tryz.f30, Tryz.func30, rfl, by kernel_rfl⟩ (inj_under _) (fun h hsc => ?_)
  refine acalls_of te_ok [] Tryz.func30 (c := _) rfl (Nat.le_of_ble_eq_true rfl) ?_
  simp only [aws, eq_self, reduceIte, Nat.reduceAdd, Nat.reduceLT, Nat.reduceLeDiff, storeB, ares1, afill, teset, Tryz.ntmps30, Tryz.results30]
  exact ⟨by (repeat (first | exact AH.Ext.refl _ | assumption | refine AH.Ext.set ?_ (by first | omega | (simp only [new_nb, set_nb, kill_nb, newTok_nb, setTok_nb]; omega)) _ | refine AH.Ext.new ?_ _)), _, rfl, wk_empty5⟩
set_option maxHeartbeats 2000000 in
theorem patched_law (haw : Pure Tryz.prog 16 [] (.bool true)) (hpatch : ∀ a b : V, valid a = true → valid b = true → Pure Tryz.prog 67 [inj a, inj b] (inj (patchP 6 a b))) (a b : V) (ha : a.sm) (hb : b.sm) : Pure Tryz.prog 8 [inj a, inj b] (.bool true) := by
  have va := refvalid_pure a
  have vb := refvalid_pure b
  have c1 := pPatch_pure hpatch a b ha hb
  have c2 := pPatch_pure hpatch a a ha ha
  have s1 := same_pure b b hb
  have s2 := same_pure (emptyV 5) (emptyV 5) (empty_ok (.inr rfl)).sm
  rw [sameS_self] at s1 s2
  rcases hq : patchedV a b with ⟨p, e⟩
  rw [hq] at c1
  have cm : e = 0 → Pure Tryz.prog 26 [inj a, inj p] (.tup [inj b, .int .i64 0]) := fun he => by
    subst he
    obtain ⟨h1, h2, h3, h4⟩ := patched_ok hq
    have := pmerge_pure a p ha (valid_ok h3).sm
    rw [merged_of h1 h3 h2 h4] at this
    exact this
  obtain ⟨ak, ai, at_, ax, as_⟩ := a
  obtain ⟨bk, bi, bt, bx, bs⟩ := b
  obtain ⟨pk, pi, pt, px, ps⟩ := p
  simp only [inj_mk ak, inj_mk bk, inj_mk pk] at va vb c1 c2 s1 cm ⊢
  refine Pure.ofW ⟨Tryz.f8, Tryz.func8, rfl, by kernel_rfl⟩ rfl (fun h hsc => ?_)
  refine acalls_of te_ok [] Tryz.func8 (c := _) rfl (Nat.le_of_ble_eq_true rfl) ?_
  simp only [aws, eq_self, reduceIte, Nat.reduceAdd, Nat.reduceLT, Nat.reduceLeDiff, Nat.reduceEqDiff, teset, Tryz.ntmps8, Tryz.results8, boxR]
  refine ACallV.pure va ?_
  cases h1 : valid (V.mk ak ai at_ ax as_) with
  | false =>
    simp only [aws, eq_self, implies_true, reduceIte, Nat.reduceAdd, Nat.reduceLT, Nat.reduceLeDiff, Nat.reduceEqDiff, teset]
    refine ACallV.pure haw ?_
    simp only [aws, eq_self, reduceIte, Nat.reduceLT, Nat.reduceEqDiff, ares1]
    exact ⟨by (repeat (first | exact AH.Ext.refl _ | assumption | refine AH.Ext.set ?_ (by first | omega | (simp only [new_nb, set_nb, kill_nb, newTok_nb, setTok_nb]; omega)) _ | refine AH.Ext.new ?_ _)), _, rfl, .refl _⟩
  | true =>
    simp only [aws, eq_self, implies_true, reduceIte, Nat.reduceAdd, Nat.reduceLT, Nat.reduceLeDiff, Nat.reduceEqDiff, teset]
    refine ACallV.pure vb ?_
    cases h2 : valid (V.mk bk bi bt bx bs) with
    | false =>
      simp only [aws, eq_self, implies_true, reduceIte, Nat.reduceLT, Nat.reduceEqDiff]
      refine ACallV.pure haw ?_
      simp only [aws, eq_self, reduceIte, Nat.reduceLT, Nat.reduceEqDiff, ares1]
      exact ⟨by (repeat (first | exact AH.Ext.refl _ | assumption | refine AH.Ext.set ?_ (by first | omega | (simp only [new_nb, set_nb, kill_nb, newTok_nb, setTok_nb]; omega)) _ | refine AH.Ext.new ?_ _)), _, rfl, .refl _⟩
    | true =>
      simp only [aws, eq_self, implies_true, reduceIte, Nat.reduceAdd, Nat.reduceLT, Nat.reduceLeDiff, Nat.reduceEqDiff, teset]
      refine ACallV.pure c1 ?_
      by_cases he : e = 0
      · have hm := cm he
        subst he
        simp only [aws, eq_self, reduceIte, Nat.reduceAdd, Nat.reduceLT, Nat.reduceLeDiff, Nat.reduceEqDiff, acmpnil, storeB, teset]
        refine ACallV.pure hm ?_
        simp only [aws, eq_self, implies_true, reduceIte, Nat.reduceAdd, Nat.reduceLT, Nat.reduceLeDiff, Nat.reduceEqDiff, Int.reduceBNe, acmpnil, storeB, teset]
        refine ACallV.pure s1 ?_
        simp only [aws, eq_self, implies_true, reduceIte, Nat.reduceLT, Nat.reduceEqDiff, acmpnil, teset]
        cases hk : (ak == 5) with
        | false =>
          simp only [aws, eq_self, Nat.reduceLT]
          refine ACallV.pure haw ?_
          simp only [aws, eq_self, reduceIte, Nat.reduceLT, Nat.reduceEqDiff, ares1]
          exact ⟨by (repeat (first | exact AH.Ext.refl _ | assumption | refine AH.Ext.set ?_ (by first | omega | (simp only [new_nb, set_nb, kill_nb, newTok_nb, setTok_nb]; omega)) _ | refine AH.Ext.new ?_ _)), _, rfl, .refl _⟩
        | true =>
          have hk5 : ak = 5 := by simpa using hk
          have hps := patched_self h1 (show (V.mk ak ai at_ ax as_).kind = 5 from hk5)
          rw [hps] at c2
          unfold emptyV at c2
          rw [inj_mk 5] at c2
          have s2' := s2
          simp only [aws, eq_self, reduceIte, Nat.reduceAdd, Nat.reduceLT, Nat.reduceLeDiff, Nat.reduceEqDiff, teset]
          refine ACallV.pure c2 ?_
          simp only [aws, eq_self, reduceIte, Nat.reduceAdd, Nat.reduceLT, Nat.reduceLeDiff, Nat.reduceEqDiff, storeB, teset]
          refine acode_draw_chain te_ok mixed [] (by kernel_rfl) ?_
          simp only [aws, eq_self, reduceIte, Nat.reduceAdd, Nat.reduceLT, Nat.reduceLeDiff, Nat.reduceEqDiff, Int.reduceBNe, acmpnil, teset]
          refine skR_pure objnil_pure ?_
          refine skR_pure s2 ?_
          simp only [aws, eq_self, Nat.reduceLT]
          refine ACallV.pure haw ?_
          simp only [aws, eq_self, reduceIte, Nat.reduceLT, Nat.reduceEqDiff, ares1]
          exact ⟨by (repeat (first | exact AH.Ext.refl _ | assumption | refine AH.Ext.set ?_ (by first | omega | (simp only [new_nb, set_nb, kill_nb, newTok_nb, setTok_nb]; omega)) _ | refine AH.Ext.new ?_ _)), _, rfl, .refl _⟩
      · have he2 : (e == 0) = false := by rw [beq_eq_false_iff_ne]; exact he
        simp only [aws, eq_self, reduceIte, Nat.reduceAdd, Nat.reduceLT, Nat.reduceLeDiff, Nat.reduceEqDiff, acmpnil, storeB, teset, he2]
        cases hk : (ak == 5) with
        | false =>
          simp only [aws, eq_self, Nat.reduceLT]
          refine ACallV.pure haw ?_
          simp only [aws, eq_self, reduceIte, Nat.reduceLT, Nat.reduceEqDiff, ares1]
          exact ⟨by (repeat (first | exact AH.Ext.refl _ | assumption | refine AH.Ext.set ?_ (by first | omega | (simp only [new_nb, set_nb, kill_nb, newTok_nb, setTok_nb]; omega)) _ | refine AH.Ext.new ?_ _)), _, rfl, .refl _⟩
        | true =>
          have hk5 : ak = 5 := by simpa using hk
          have hps := patched_self h1 (show (V.mk ak ai at_ ax as_).kind = 5 from hk5)
          rw [hps] at c2
          unfold emptyV at c2
          rw [inj_mk 5] at c2
          have s2' := s2
          simp only [aws, eq_self, reduceIte, Nat.reduceAdd, Nat.reduceLT, Nat.reduceLeDiff, Nat.reduceEqDiff, teset]
          refine ACallV.pure c2 ?_
          simp only [aws, eq_self, reduceIte, Nat.reduceAdd, Nat.reduceLT, Nat.reduceLeDiff, Nat.reduceEqDiff, storeB, teset]
          refine acode_draw_chain te_ok mixed [] (by kernel_rfl) ?_
          simp only [aws, eq_self, reduceIte, Nat.reduceAdd, Nat.reduceLT, Nat.reduceLeDiff, Nat.reduceEqDiff, Int.reduceBNe, acmpnil, teset]
          refine skR_pure objnil_pure ?_
          refine skR_pure s2 ?_
          simp only [aws, eq_self, Nat.reduceLT]
          refine ACallV.pure haw ?_
          simp only [aws, eq_self, reduceIte, Nat.reduceLT, Nat.reduceEqDiff, ares1]
          exact ⟨by (repeat (first | exact AH.Ext.refl _ | assumption | refine AH.Ext.set ?_ (by first | omega | (simp only [new_nb, set_nb, kill_nb, newTok_nb, setTok_nb]; omega)) _ | refine AH.Ext.new ?_ _)), _, rfl, .refl _⟩
end Go.Proofs.YtjdocenbfghglaaGreatDoor.AW
end
