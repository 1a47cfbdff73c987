/- Texts of this claim, part 8: P14, P16, P15. -/
import Derived.Test.YtjdocenbfghglaaGreatDoorMg1
import Derived.Test.YtjdocenbfghglaaGreatDoorMg2
import Derived.Test.YtjdocenbfghglaaGreatDoorMg3
import Derived.Test.YtjdocenbfghglaaGreatDoorMg7
section
set_option linter.unusedSimpArgs false
set_option linter.unusedVariables false
namespace Go.Proofs.YtjdocenbfghglaaGreatDoor.AW
open Go Go.RowKit

def leS (a b : ByteArray) : Bool := !sless b a
def sortS (l : List ByteArray) : List ByteArray := l.mergeSort leS
def ddS : List ByteArray → List ByteArray
  | [] => []
  | [k] => [k]
  | k :: l :: ks => if k = l then ddS (l :: ks) else k :: ddS (l :: ks)
theorem leS_trans (a b c : ByteArray) (h1 : leS a b = true) (h2 : leS b c = true) : leS a c = true := by
  unfold leS at *
  simp only [Bool.not_eq_true'] at *
  rw [Bool.eq_false_iff]
  intro h
  by_cases e : b = c
  · subst e; rw [h1] at h; cases h
  · have h3 := sless_tri h2 (fun e2 => e e2.symm)
    have h4 : sless b a = true := bl_trans h3 h
    rw [h1] at h4; cases h4
theorem leS_total (a b : ByteArray) : (leS a b || leS b a) = true := by
  unfold leS
  cases h : sless b a with
  | false => rfl
  | true => rw [show sless a b = false from bl_asymm h]; rfl
theorem sortS_mem {l : List ByteArray} {k : ByteArray} : k ∈ sortS l ↔ k ∈ l := (List.mergeSort_perm l leS).mem_iff
theorem sortS_pw (l : List ByteArray) : (sortS l).Pairwise fun a b => leS a b = true := List.pairwise_mergeSort leS_trans leS_total l
theorem ddS_mem : ∀ {l : List ByteArray} {k : ByteArray}, k ∈ ddS l ↔ k ∈ l
  | [], k => by rw [ddS]
  | [q], k => by rw [ddS]
  | q :: r :: l, k => by
    rw [ddS]
    have ih := ddS_mem (l := r :: l) (k := k)
    split
    · next e =>
      subst e
      rw [ih]
      constructor
      · intro h; exact List.mem_cons_of_mem _ h
      · intro h
        rcases List.mem_cons.1 h with rfl | h
        · exact List.mem_cons_self
        · exact h
    · rw [List.mem_cons, ih, List.mem_cons (b := q)]
theorem ddS_pw : ∀ {l : List ByteArray}, (l.Pairwise fun a b => leS a b = true) → (ddS l).Pairwise fun a b => sless a b = true
  | [], _ => by rw [ddS]; exact .nil
  | [q], _ => by rw [ddS]; exact List.pairwise_singleton _ _
  | q :: r :: l, h => by
    rw [ddS]
    have h2 := (List.pairwise_cons.1 h).2
    have ih := ddS_pw h2
    split
    · exact ih
    · next e =>
      rw [List.pairwise_cons]
      refine ⟨fun x hx => ?_, ih⟩
      have hx2 := ddS_mem.1 hx
      have hqr : sless q r = true := by
        have := (List.pairwise_cons.1 h).1 r List.mem_cons_self
        unfold leS at this
        simp only [Bool.not_eq_true'] at this
        exact sless_tri this (fun e2 => e e2.symm)
      rcases List.mem_cons.1 hx2 with rfl | hx3
      · exact hqr
      · have h3 := (List.pairwise_cons.1 h2).1 x hx3
        unfold leS at h3
        simp only [Bool.not_eq_true'] at h3
        by_cases e2 : r = x
        · rw [← e2]; exact hqr
        · have h4 := sless_tri h3 (fun e3 => e2 e3.symm)
          exact bl_trans hqr h4
/-- All keys of two lists, ascending. -/
def uniS (ka kb : List ByteArray) : List ByteArray := ddS (sortS (ka ++ kb))
theorem uniS_mem {ka kb : List ByteArray} {k : ByteArray} : k ∈ uniS ka kb ↔ k ∈ ka ∨ k ∈ kb := by
  unfold uniS
  rw [ddS_mem, sortS_mem, List.mem_append]
theorem uniS_pw (ka kb : List ByteArray) : (uniS ka kb).Pairwise fun a b => sless a b = true := ddS_pw (sortS_pw _)
/-- What a patch has at a key. -/
def entV (f : V → V → V) (a b : V) (k : ByteArray) : Option V := match lk a.keys a.items k, lk b.keys b.items k with
  | some x, some y => if ord x y = 0 then none else some (f x y)
  | none, some y => some (f zeroV y)
  | _, none => some zeroV
def pobj (us : List ByteArray) (e : ByteArray → Option V) : V := .mk 5 0 ⟨#[]⟩ (us.filterMap e) (us.filter fun k => (e k).isSome)
def patchP : Nat → V → V → V
  | 0, _, b => b
  | L + 1, a, b => if a.kind = 5 ∧ b.kind = 5 then pobj (uniS a.keys b.keys) (entV (patchP L) a b) else b
open Classical in
theorem lk_pobj (e : ByteArray → Option V) : ∀ (us : List ByteArray) (q : ByteArray), (us.Pairwise fun a b => sless a b = true) → lk (us.filter fun k => (e k).isSome) (us.filterMap e) q = if q ∈ us then e q else none
  | [], q, _ => by rw [if_neg (by simp)]; rfl
  | u :: us, q, h => by
    have ih := lk_pobj e us q (List.pairwise_cons.1 h).2
    have hn := pw_not h
    rw [List.filter_cons, List.filterMap_cons]
    cases he : e u with
    | none =>
      simp only [Option.isSome_none, Bool.false_eq_true, if_false]
      rw [ih]
      by_cases e1 : q = u
      · subst e1
        rw [if_neg hn, if_pos List.mem_cons_self, he]
      · simp only [List.mem_cons, e1, false_or]
    | some x =>
      simp only [Option.isSome_some, if_true]
      rw [lk, ih]
      by_cases e1 : u = q
      · subst e1
        rw [if_pos rfl, if_pos List.mem_cons_self, he]
      · rw [if_neg e1]
        simp only [List.mem_cons, show ¬ q = u from fun e2 => e1 e2.symm, false_or]
theorem filter_lens (e : ByteArray → Option V) : ∀ us : List ByteArray, (us.filter fun k => (e k).isSome).length = (us.filterMap e).length
  | [] => rfl
  | u :: us => by
    rw [List.filter_cons, List.filterMap_cons]
    cases he : e u with
    | none => simp only [Option.isSome_none, Bool.false_eq_true, if_false]; exact filter_lens e us
    | some x => simp only [Option.isSome_some, if_true, List.length_cons]; rw [filter_lens e us]
theorem pobj_ok5 {us : List ByteArray} {e : ByteArray → Option V} (hp : us.Pairwise fun a b => sless a b = true) (ht : ∀ k ∈ us, isText k = true) : OK5 (pobj us e) :=
  ⟨rfl, rfl, rfl, filter_lens e us, pw_asc (hp.sublist List.filter_sublist), fun k hk => ht k (List.mem_filter.1 hk).1⟩
/-- The reference's patch: what is not there any more, then what is new or other. -/
def goneA (b : V) : List ByteArray → V → V
  | [], acc => acc
  | k :: ks, acc => goneA b ks (if (lk b.keys b.items k).isSome = true then acc else setK acc k zeroV)
def newB (f : V → V → V) (a : V) : List ByteArray → List V → V → V
  | k :: ks, y :: ys, acc => newB f a ks ys (match lk a.keys a.items k with
    | some x => if ord x y = 0 then acc else setK acc k (f x y)
    | none => setK acc k (f zeroV y))
  | _, _, acc => acc
open Classical in
theorem goneA_spec (b : V) : ∀ (ks : List ByteArray) (acc : V), OK5 acc → (∀ k ∈ ks, isText k = true) → OK5 (goneA b ks acc) ∧ ∀ q, lk (goneA b ks acc).keys (goneA b ks acc).items q = if q ∈ ks ∧ lk b.keys b.items q = none then some zeroV else lk acc.keys acc.items q
  | [], acc, h, _ => ⟨h, fun q => by rw [goneA, if_neg (by simp)]⟩
  | k :: ks, acc, h, ht => by
    rw [goneA]
    cases hb : lk b.keys b.items k with
    | some y =>
      simp only [Option.isSome_some, if_true]
      obtain ⟨g1, g2⟩ := goneA_spec b ks acc h (fun q hq => ht q (List.mem_cons_of_mem _ hq))
      refine ⟨g1, fun q => ?_⟩
      rw [g2 q]
      by_cases e : q = k
      · subst e
        rw [hb]; simp
      · simp only [List.mem_cons, e, false_or]
    | none =>
      simp only [Option.isSome_none, Bool.false_eq_true, if_false]
      have hs := set_ok5 (y := zeroV) h (ht k List.mem_cons_self)
      obtain ⟨g1, g2⟩ := goneA_spec b ks _ hs (fun q hq => ht q (List.mem_cons_of_mem _ hq))
      refine ⟨g1, fun q => ?_⟩
      rw [g2 q]
      by_cases e : q = k
      · subst e
        rw [hb, lk_set_same h]; simp
      · rw [lk_set h (fun e2 => e e2.symm)]
        simp only [List.mem_cons, e, false_or]
theorem newB_spec (f : V → V → V) (a : V) : ∀ (ks : List ByteArray) (ys : List V) (acc : V), OK5 acc → (∀ k ∈ ks, isText k = true) → (ks.Pairwise fun a b => sless a b = true) → ks.length = ys.length → OK5 (newB f a ks ys acc) ∧ ∀ q, lk (newB f a ks ys acc).keys (newB f a ks ys acc).items q = match lk ks ys q with
    | none => lk acc.keys acc.items q
    | some y => (match lk a.keys a.items q with
      | some x => if ord x y = 0 then lk acc.keys acc.items q else some (f x y)
      | none => some (f zeroV y))
  | [], [], acc, h, _, _, _ => ⟨h, fun q => rfl⟩
  | [], _ :: _, _, _, _, _, h => by simp at h
  | _ :: _, [], _, _, _, _, h => by simp at h
  | k :: ks, y :: ys, acc, h, ht, hp, hl => by
    rw [newB]
    have ht2 := fun q hq => ht q (List.mem_cons_of_mem k hq)
    have hp2 := (List.pairwise_cons.1 hp).2
    have hn := pw_not hp
    have hl2 : ks.length = ys.length := by simpa using hl
    have key : ∀ acc', OK5 acc' → (∀ q, q ≠ k → lk acc'.keys acc'.items q = lk acc.keys acc.items q) → (lk acc'.keys acc'.items k = match lk a.keys a.items k with
      | some x => if ord x y = 0 then lk acc.keys acc.items k else some (f x y)
      | none => some (f zeroV y)) → OK5 (newB f a ks ys acc') ∧ ∀ q, lk (newB f a ks ys acc').keys (newB f a ks ys acc').items q = match lk (k :: ks) (y :: ys) q with
      | none => lk acc.keys acc.items q
      | some y => (match lk a.keys a.items q with
        | some x => if ord x y = 0 then lk acc.keys acc.items q else some (f x y)
        | none => some (f zeroV y)) := by
      intro acc' h1 h2 h3
      obtain ⟨g1, g2⟩ := newB_spec f a ks ys acc' h1 ht2 hp2 hl2
      refine ⟨g1, fun q => ?_⟩
      rw [g2 q, lk]
      by_cases e : k = q
      · subst e
        rw [if_pos rfl, lk_none hn]
        exact h3
      · rw [if_neg e, h2 q (fun e2 => e e2.symm)]
    cases ha : lk a.keys a.items k with
    | none =>
      simp only
      exact key _ (set_ok5 h (ht k List.mem_cons_self)) (fun q hq => lk_set h (fun e => hq e.symm)) (by rw [ha]; exact lk_set_same h)
    | some x =>
      simp only
      split
      · next h0 => exact key _ h (fun q hq => rfl) (by rw [ha]; simp only; rw [if_pos h0])
      · next h0 => exact key _ (set_ok5 h (ht k List.mem_cons_self)) (fun q hq => lk_set h (fun e => hq e.symm)) (by rw [ha]; simp only; rw [if_neg h0]; exact lk_set_same h)
def refpatchP : Nat → V → V → V
  | 0, _, b => b
  | L + 1, a, b => if a.kind = 5 ∧ b.kind = 5 then newB (refpatchP L) a b.keys b.items (goneA b a.keys (emptyV 5)) else b
theorem patch_same : ∀ (L : Nat) (a b : V), Vok a → Vok b → refpatchP L a b = patchP L a b
  | 0, a, b, _, _ => rfl
  | L + 1, a, b, ha, hb => by
    rw [refpatchP, patchP]
    split
    · next h5 =>
      have oa := ha.w.ok5 h5.1
      have ob := hb.w.ok5 h5.2
      obtain ⟨g1, g2⟩ := goneA_spec b a.keys (emptyV 5) empty5 oa.2.2.2.2.2
      obtain ⟨g3, g4⟩ := newB_spec (refpatchP L) a b.keys b.items _ g1 ob.2.2.2.2.2 (asc_pw ob.2.2.2.2.1) ob.2.2.2.1
      have hu : ∀ k ∈ uniS a.keys b.keys, isText k = true := fun k hk => (uniS_mem.1 hk).elim (oa.2.2.2.2.2 k) (ob.2.2.2.2.2 k)
      refine ext5 g3 (pobj_ok5 (uniS_pw _ _) hu) (fun q => ?_)
      rw [g4 q, g2 q, show lk (pobj (uniS a.keys b.keys) (entV (patchP L) a b)).keys (pobj (uniS a.keys b.keys) (entV (patchP L) a b)).items q = _ from lk_pobj (entV (patchP L) a b) (uniS a.keys b.keys) q (uniS_pw _ _)]
      unfold entV
      cases hqb : lk b.keys b.items q with
      | none =>
        simp only
        by_cases hqa : q ∈ a.keys
        · obtain ⟨x, hx⟩ := lk_some hqa oa.2.2.2.1
          rw [if_pos ⟨hqa, rfl⟩, if_pos (uniS_mem.2 (.inl hqa))]
        · have hqb2 : q ∉ b.keys := fun h => by
            obtain ⟨x, hx⟩ := lk_some h ob.2.2.2.1
            rw [hqb] at hx; cases hx
          rw [if_neg (fun h => hqa h.1), if_neg (fun h => (uniS_mem.1 h).elim hqa hqb2)]
          rfl
      | some y =>
        have hy := hb.items y (lk_mem hqb).1
        have hqu : q ∈ uniS a.keys b.keys := uniS_mem.2 (.inr (lk_mem hqb).2)
        simp only
        rw [if_pos hqu]
        cases hqa : lk a.keys a.items q with
        | none => simp only; rw [patch_same L zeroV y zero_ok hy]
        | some x =>
          simp only
          rw [patch_same L x y (ha.items x (lk_mem hqa).1) hy]
          split
          · rw [if_neg (fun h => by cases h.2)]; rfl
          · rfl
    · rfl
end Go.Proofs.YtjdocenbfghglaaGreatDoor.AW
end
section
set_option linter.unusedSimpArgs false
set_option linter.unusedVariables false
namespace Go.Proofs.YtjdocenbfghglaaGreatDoor.AW
open Go Go.RowKit

/-- What follows, without those that are equal to the one before. -/
def gS : ByteArray → List ByteArray → List ByteArray
  | _, [] => []
  | p, y :: r => if y = p then gS y r else y :: gS y r
theorem ddS_cons : ∀ (r : List ByteArray) (x : ByteArray), ddS (x :: r) = x :: gS x r
  | [], x => rfl
  | y :: r, x => by
    rw [ddS, ddS_cons r y, gS]
    by_cases h : x = y
    · rw [if_pos h, if_pos h.symm, h]
    · rw [if_neg h, if_neg (fun e => h e.symm)]
theorem gS_step {xs : List ByteArray} {j : Nat} (p : ByteArray) (hj : j < xs.length) : gS p (xs.drop j) = if xs[j] = p then gS xs[j] (xs.drop (j + 1)) else xs[j] :: gS xs[j] (xs.drop (j + 1)) := by
  rw [List.drop_eq_getElem_cons hj, gS]
theorem ddS_start {xs : List ByteArray} (h : 0 < xs.length) : ddS xs = xs.take 1 ++ gS xs[0] (xs.drop 1) := by
  cases xs with
  | nil => simp at h
  | cons x r => rw [ddS_cons]; rfl
theorem ddS_ne {xs : List ByteArray} (h : xs ≠ []) : ddS xs ≠ [] := by
  cases xs with
  | nil => exact absurd rfl h
  | cons x r => rw [ddS_cons]; exact List.cons_ne_nil _ _
end Go.Proofs.YtjdocenbfghglaaGreatDoor.AW
end
section
set_option linter.unusedSimpArgs false
set_option linter.unusedVariables false
namespace Go.Proofs.YtjdocenbfghglaaGreatDoor.AW
open Go Go.RowKit

theorem Wok.sm {v : V} (h : Wok v) : v.sm := by
  induction v using V.ind with
  | h k i t xs ks ih =>
    have h1 := h.shape.2
    have h2 := h.keys.2
    simp only [V.items, V.keys] at h1 h2
    simp only [V.sm, V.smL_iff]
    exact ⟨by omega, by omega, fun x hx => ih x hx (h.items x hx)⟩
theorem ddS_len : ∀ l : List ByteArray, (ddS l).length ≤ l.length
  | [] => by rw [ddS]; exact Nat.le_refl _
  | [k] => by rw [ddS]; exact Nat.le_refl _
  | k :: l :: ks => by
    have ih := ddS_len (l :: ks)
    rw [ddS]
    split
    · simp only [List.length_cons] at ih ⊢; omega
    · simp only [List.length_cons] at ih ⊢; omega
theorem uniS_len (ka kb : List ByteArray) : (uniS ka kb).length ≤ ka.length + kb.length := by
  have h1 := ddS_len (sortS (ka ++ kb))
  have h2 : (sortS (ka ++ kb)).length = (ka ++ kb).length := (List.mergeSort_perm _ _).length_eq
  rw [h2, List.length_append] at h1
  exact h1
theorem patch_wok : ∀ (L : Nat) (a b : V), Vok a → Vok b → Wok (patchP L a b)
  | 0, a, b, _, hb => hb.w
  | L + 1, a, b, ha, hb => by
    rw [patchP]
    split
    · next h5 =>
      have oa := ha.w.ok5 h5.1
      have ob := hb.w.ok5 h5.2
      have hu : ∀ k ∈ uniS a.keys b.keys, isText k = true := fun k hk => (uniS_mem.1 hk).elim (oa.2.2.2.2.2 k) (ob.2.2.2.2.2 k)
      refine (pobj_ok5 (uniS_pw _ _) hu).wok ?_ (fun x hx => ?_)
      · show ((uniS a.keys b.keys).filterMap _).length ≤ 1000
        have h1 := uniS_len a.keys b.keys
        have h2 := ha.keys.2
        have h3 := hb.keys.2
        have h4 := List.length_filterMap_le (entV (patchP L) a b) (uniS a.keys b.keys)
        omega
      · obtain ⟨k, _, hk⟩ := List.mem_filterMap.1 (show x ∈ (uniS a.keys b.keys).filterMap (entV (patchP L) a b) from hx)
        unfold entV at hk
        cases hqb : lk b.keys b.items k with
        | none =>
          rw [hqb] at hk
          cases hqa : lk a.keys a.items k with
          | none => rw [hqa] at hk; injection hk with hk; rw [← hk]; exact zero_ok.w
          | some y => rw [hqa] at hk; injection hk with hk; rw [← hk]; exact zero_ok.w
        | some y =>
          have hy := hb.items y (lk_mem hqb).1
          rw [hqb] at hk
          cases hqa : lk a.keys a.items k with
          | none => rw [hqa] at hk; injection hk with hk; rw [← hk]; exact patch_wok L _ _ zero_ok hy
          | some z =>
            rw [hqa] at hk
            simp only at hk
            split at hk
            · cases hk
            · injection hk with hk; rw [← hk]; exact patch_wok L _ _ (ha.items z (lk_mem hqa).1) hy
    · exact hb.w
theorem patch_self {L : Nat} {a : V} (ha : Vok a) (h5 : a.kind = 5) : patchP (L + 1) a a = emptyV 5 := by
  rw [patchP, if_pos ⟨h5, h5⟩]
  have oa := ha.w.ok5 h5
  have hu : ∀ k ∈ uniS a.keys a.keys, isText k = true := fun k hk => (uniS_mem.1 hk).elim (oa.2.2.2.2.2 k) (oa.2.2.2.2.2 k)
  refine ext5 (pobj_ok5 (uniS_pw _ _) hu) empty5 (fun q => ?_)
  rw [show lk (pobj (uniS a.keys a.keys) (entV (patchP L) a a)).keys (pobj (uniS a.keys a.keys) (entV (patchP L) a a)).items q = _ from lk_pobj (entV (patchP L) a a) (uniS a.keys a.keys) q (uniS_pw _ _)]
  show _ = none
  split
  · next hq =>
    have hqa : q ∈ a.keys := (uniS_mem.1 hq).elim id id
    obtain ⟨x, hx⟩ := lk_some hqa oa.2.2.2.1
    have hxo := ha.items x (lk_mem hx).1
    have h0 : ord x x = 0 := by rw [ord_eq x x hxo hxo, ordN_self]
    unfold entV
    rw [hx]
    exact if_pos h0
  · rfl
theorem merge_empty {a : V} (h5 : a.kind = 5) : mergeV a (emptyV 5) = a := by
  unfold emptyV
  rw [mergeV, if_pos rfl, if_pos h5, mergeL]
end Go.Proofs.YtjdocenbfghglaaGreatDoor.AW
end
