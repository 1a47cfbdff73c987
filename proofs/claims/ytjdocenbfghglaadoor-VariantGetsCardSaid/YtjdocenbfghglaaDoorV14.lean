/- V, part 14: the program's Valid is the reference's. -/
import Derived.Test.YtjdocenbfghglaaDoorV13
set_option linter.unusedSimpArgs false
set_option linter.unusedVariables false
namespace Go.Proofs.YtjdocenbfghglaaDoor.AW
open Go Go.RowKit

theorem nodesF_ge (f : V → Nat) : ∀ (xs : List V) (a : Nat), a ≤ 61 → a ≤ nodesF f a xs := by
  intro xs
  induction xs with
  | nil => intro a _; exact Nat.le_refl _
  | cons x xs ih =>
    intro a ha
    simp only [nodesF]
    split
    · exact ha
    · exact Nat.le_trans (Nat.le_add_right _ _) (ih _ (by omega))
theorem nodesF_many (f : V → Nat) (hf : ∀ x, 1 ≤ f x) : ∀ (xs : List V) (a : Nat), a ≤ 61 → min 61 (a + xs.length) ≤ nodesF f a xs := by
  intro xs
  induction xs with
  | nil => intro a ha; simp only [nodesF, List.length_nil]; omega
  | cons x xs ih =>
    intro a ha
    simp only [nodesF, List.length_cons]
    split
    · omega
    · have h1 := ih (a + f x) (by omega)
      have h2 := hf x
      omega
theorem nodesS_pos (L : Nat) (v : V) : 1 ≤ nodesS L v := by
  cases L with
  | zero => simp [nodesS]
  | succ L =>
    simp only [nodesS]
    split
    · omega
    · split
      · exact nodesF_ge _ _ _ (by omega)
      · omega
theorem rightL_eq (L : Nat) (ih : ∀ n x, n ≤ 60 → ((rightS L n x).1 = true ↔ n + nodesS L x ≤ 60) ∧ ((rightS L n x).1 = true → (rightS L n x).2 = n + nodesS L x)) :
    ∀ (xs : List V) (n a i : Nat), n + a ≤ 60 → ((rightL (rightS L) (n + a) xs i).1 < 0 ↔ n + nodesF (nodesS L) a xs ≤ 60) ∧ ((rightL (rightS L) (n + a) xs i).1 < 0 → (rightL (rightS L) (n + a) xs i).2 = n + nodesF (nodesS L) a xs) := by
  intro xs
  induction xs with
  | nil => intro n a i h; exact ⟨⟨fun _ => h, fun _ => by simp only [rightL]; omega⟩, fun _ => rfl⟩
  | cons x xs ihx =>
    intro n a i h
    obtain ⟨h1, h2⟩ := ih (n + a) x h
    simp only [rightL, nodesF]
    by_cases hok : n + a + nodesS L x ≤ 60
    · have ht : (rightS L (n + a) x).1 = true := h1.2 hok
      rw [if_pos ht, h2 ht, if_neg (by omega), Nat.add_assoc]
      exact ihx n (a + nodesS L x) (i + 1) (by omega)
    · have ht : ¬ (rightS L (n + a) x).1 = true := fun e => hok (h1.1 e)
      rw [if_neg ht]
      have hge : a + nodesS L x ≤ 60 → a + nodesS L x ≤ nodesF (nodesS L) (a + nodesS L x) xs := fun h => nodesF_ge _ _ _ (by omega)
      constructor
      · constructor
        · intro hx; simp only at hx; omega
        · intro hx
          split at hx
          · omega
          · have := hge (by omega); omega
      · intro hx; simp only at hx; omega
theorem right_eq : ∀ (L n : Nat) (v : V), n ≤ 60 → ((rightS L n v).1 = true ↔ n + nodesS L v ≤ 60) ∧ ((rightS L n v).1 = true → (rightS L n v).2 = n + nodesS L v) := by
  intro L
  induction L with
  | zero => intro n v h; simp only [rightS, nodesS]; exact ⟨⟨fun e => (by cases e), fun e => (by omega)⟩, fun e => (by cases e)⟩
  | succ L ih =>
    intro n v h
    have hpos := nodesS_pos (L + 1) v
    simp only [rightS]
    by_cases h1 : n + 1 > 60
    · rw [if_pos h1]
      exact ⟨⟨fun e => (by cases e), fun e => by omega⟩, fun e => (by cases e)⟩
    · rw [if_neg h1]
      have hN : nodesS (L + 1) v = if v.items.length > 60 then 61 else if shape v then nodesF (nodesS L) 1 v.items else 61 := rfl
      generalize nodesS (L + 1) v = N at *
      by_cases hs : shape v = true
      · rw [if_pos hs]
        rw [if_pos hs] at hN
        obtain ⟨g1, g2⟩ := rightL_eq L (fun n x hn => ih n x hn) v.items n 1 0 (by omega)
        have hm := nodesF_many (nodesS L) (nodesS_pos L) v.items 1 (by omega)
        by_cases hl : v.items.length > 60
        · rw [if_pos hl] at hN
          have : ¬ (rightL (rightS L) (n + 1) v.items 0).1 < 0 := by rw [g1]; omega
          simp only [decide_eq_true_eq]
          exact ⟨⟨fun e => absurd e this, fun e => by omega⟩, fun e => absurd e this⟩
        · rw [if_neg hl] at hN
          subst hN
          simp only [decide_eq_true_eq]
          exact ⟨g1, g2⟩
      · rw [if_neg hs]
        rw [if_neg hs] at hN
        have : N = 61 := by rw [hN]; split <;> rfl
        exact ⟨⟨fun e => (by cases e), fun e => by omega⟩, fun e => (by cases e)⟩
theorem valid_eq (v : V) : (rightS 6 0 v).1 = valid v := by
  rw [Bool.eq_iff_iff, (right_eq 6 0 v (by omega)).1]; unfold valid; rw [Nat.zero_add, decide_eq_true_eq]

theorem pvalid_pure (v : V) (hv : v.sm) : Pure Tryd.prog 15 [inj v] (.bool (valid v)) := by
  refine Pure.ofW ⟨Tryd.f15, Tryd.func15, rfl, by kernel_rfl⟩ rfl (fun h hsc => ?_)
  refine acalls_of te_ok [] Tryd.func15 (c := _) rfl (Nat.le_of_ble_eq_true rfl) ?_
  simp only [awset0, awset1, awset2, awset3, awset4, awset5, ne_eq, eq_self, implies_true, imp_self, retR, atup, aresL, ares1, gval, inLz, boxR, buildR, noDead, AV.isDead, acmpnil, appR, appBox, storeB, abin, aint, astr, aun, abuild, afill, fieldPlaces, alit, aindexAddr, aindex, aslice, bnd, cutTag, amin, amax, aappend, appendTo, aelems, aconv, aiface, agetField, reduceIte, reduceCtorEq, Nat.reduceAdd, Nat.reduceLT, Nat.reduceLeDiff, Nat.reduceEqDiff, Nat.reduceSub, Nat.reduceMul, Nat.reduceBEq, Int.reduceBEq, Int.reduceBNe, Int.reduceLT, Int.reduceLE, Int.reduceGT, Int.reduceGE, Int.reduceNeg, Int.reduceEq, Int.reduceNe, Int.reduceToNat, Int.reduceAdd, cls, fl, teset, Tryd.ntmps15, Tryd.results15, boxR, inj_take, inj_drop, inj_agg, inj_len, inj_one, List.length_map]
  have hr := right_calls 6 (by omega) v hv 0 (h.nb + 1) (((h.new (inj v).cells).new [.int .i64 0]).set (h.nb + 1) [.int .i64 0]) (by omega) (by rw [set_box, if_pos rfl]; rfl)
  refine ACallV.det ⟨Tryd.f33, Tryd.func33, rfl, by kernel_rfl⟩ rfl hr ?_
  simp only [awset0, awset1, awset2, awset3, awset4, awset5, ne_eq, eq_self, implies_true, imp_self, retR, atup, aresL, ares1, gval, inLz, boxR, buildR, noDead, AV.isDead, acmpnil, appR, appBox, storeB, abin, aint, astr, aun, abuild, afill, fieldPlaces, alit, aindexAddr, aindex, aslice, bnd, cutTag, amin, amax, aappend, appendTo, aelems, aconv, aiface, agetField, reduceIte, reduceCtorEq, Nat.reduceAdd, Nat.reduceLT, Nat.reduceLeDiff, Nat.reduceEqDiff, Nat.reduceSub, Nat.reduceMul, Nat.reduceBEq, Int.reduceBEq, Int.reduceBNe, Int.reduceLT, Int.reduceLE, Int.reduceGT, Int.reduceGE, Int.reduceNeg, Int.reduceEq, Int.reduceNe, Int.reduceToNat, Int.reduceAdd, cls, fl, teset]
  exact ⟨by (repeat (first | exact AH.Ext.refl _ | assumption | refine AH.Ext.set ?_ (by first | omega | (simp only [new_nb, set_nb, kill_nb, newTok_nb, setTok_nb]; omega)) _ | refine AH.Ext.new ?_ _)), _, rfl, by rw [valid_eq]; exact .refl _⟩
end Go.Proofs.YtjdocenbfghglaaDoor.AW
