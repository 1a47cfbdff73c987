/- Texts of this claim, part 5: P71, P72, P73. -/
import Derived.Test.YtlbhgoffiigfbaaGreatUb1
import Derived.Test.YtlbhgoffiigfbaaGreatUb4
import Derived.Sort.Statements
import Derived.Sort.Grow
section
set_option linter.unusedSimpArgs false
set_option linter.unusedVariables false
namespace Go.Proofs.YtlbhgoffiigfbaaGreat.AW
open Go Go.RowKit Go.Sort

def leV (a b : V) : Bool := decide (ordN a b ≤ 0)
def sortV (xs : List V) : List V := xs.mergeSort leV
theorem leV_trans (a b c : V) : leV a b = true → leV b c = true → leV a c = true := by
  unfold leV
  simp only [decide_eq_true_eq]
  have := ordN_T3 a b c
  unfold T3 at this
  omega
theorem leV_total (a b : V) : (leV a b || leV b a) = true := by
  unfold leV
  simp only [Bool.or_eq_true, decide_eq_true_eq]
  have := ordN_anti a b
  omega
theorem sortV_perm (xs : List V) : (sortV xs).Perm xs := List.mergeSort_perm xs leV
theorem sortV_sorted (xs : List V) : (sortV xs).Pairwise fun a b => leV a b = true := List.pairwise_mergeSort leV_trans leV_total xs
theorem sortV_len (xs : List V) : (sortV xs).length = xs.length := (sortV_perm xs).length_eq
theorem sortV_mem {xs : List V} {x : V} : x ∈ sortV xs ↔ x ∈ xs := (sortV_perm xs).mem_iff
theorem leV_anti {a b : V} (ha : Vok a) (hb : Vok b) (h1 : leV a b = true) (h2 : leV b a = true) : a = b := by
  unfold leV at h1 h2
  simp only [decide_eq_true_eq] at h1 h2
  have := ordN_anti a b
  exact ordN_zero a b ha hb (by omega)
theorem sorted_one : ∀ {l1 l2 : List V}, (∀ a ∈ l1, Vok a) → l1.Perm l2 → (l1.Pairwise fun a b => leV a b = true) → (l2.Pairwise fun a b => leV a b = true) → l1 = l2
  | [], l2, _, hp, _, _ => by rw [List.nil_perm.1 hp]
  | a :: l1, [], _, hp, _, _ => by cases List.perm_nil.1 hp
  | a :: l1, b :: l2, hv, hp, h1, h2 => by
    rw [List.pairwise_cons] at h1 h2
    have hab : a = b := by
      rcases List.mem_cons.1 (hp.mem_iff.1 List.mem_cons_self) with e | ha
      · exact e
      · rcases List.mem_cons.1 (hp.mem_iff.2 (List.mem_cons_self (a := b) (l := l2))) with e | hb
        · exact e.symm
        · exact leV_anti (hv a List.mem_cons_self) (hv b (List.mem_cons_of_mem _ hb)) (h1.1 b hb) (h2.1 a ha)
    subst hab
    rw [sorted_one (fun x hx => hv x (List.mem_cons_of_mem _ hx)) ((List.perm_cons a).1 hp) h1.2 h2.2]
theorem bel_grow {W w' : World} (h : Bel W.heap.size W w') : ∃ q os, w' = grow (W.drewN q) os := by
  refine ⟨w'.drawn - W.drawn, w'.heap.extract W.heap.size w'.heap.size, ?_⟩
  obtain ⟨⟨h1, h2, h3, h4, h5⟩, h6⟩ := h
  have hh : w'.heap = W.heap ++ w'.heap.extract W.heap.size w'.heap.size := by
    apply Array.ext_getElem?
    intro i
    by_cases hi : i < W.heap.size
    · rw [Array.getElem?_append_left hi, h5 i hi]
    · rw [Array.getElem?_append_right (by omega), Array.getElem?_extract]
      by_cases hi2 : i < w'.heap.size
      · rw [if_pos (by omega)]; congr 1; omega
      · rw [if_neg (by omega), Array.getElem?_eq_none (by omega)]
  cases w' with | mk heap tape drawn os output =>
  cases W with | mk heap0 tape0 drawn0 os0 output0 =>
  simp only [grow, World.drewN] at *
  subst h1 h2 h3
  congr 1
  omega
end Go.Proofs.YtlbhgoffiigfbaaGreat.AW
end
section
set_option linter.unusedSimpArgs false
set_option linter.unusedVariables false
namespace Go.Proofs.YtlbhgoffiigfbaaGreat.AW
open Go Go.RowKit

theorem isText_size {s : ByteArray} (h : isText s = true) : s.size ≤ 100 := by
  unfold isText at h
  rw [Bool.and_eq_true] at h
  exact of_decide_eq_true h.1
theorem keysOk_size {ks : List ByteArray} (h : keysOk ks = true) : ∀ k ∈ ks, k.size ≤ 100 := by
  intro k hk
  obtain ⟨i, hi⟩ := List.mem_iff_getElem?.1 hk
  have hlt := (List.getElem?_eq_some_iff.1 hi).1
  unfold keysOk at h
  rw [List.all_eq_true] at h
  have := h i (List.mem_range.2 hlt)
  unfold keyOk at this
  rw [Bool.and_eq_true, List.getD_eq_getElem?_getD, hi] at this
  exact isText_size this.1
theorem shape_small {k i : Int} {t : ByteArray} {xs : List V} {ks : List ByteArray} (h : shape (.mk k i t xs ks) = true) : (-1000000000000 ≤ i ∧ i ≤ 1000000000000) ∧ t.size ≤ 100 ∧ ∀ k ∈ ks, k.size ≤ 100 := by
  have pl : ∀ {n t' i' k' : Bool}, plainS (.mk k i t xs ks) n t' i' k' = true → (n = true ∨ i = 0) ∧ (t' = true ∨ t = ⟨#[]⟩) ∧ (k' = true ∨ ks = []) := by
    intro n t' i' k' hp
    simp only [plainS, V.int, V.text, V.items, V.keys, Bool.and_eq_true, Bool.or_eq_true, beq_iff_eq] at hp
    obtain ⟨⟨⟨h1, h2⟩, h3⟩, h4⟩ := hp
    exact ⟨h1, h2.imp id (fun e => ba_ext2 e), h4.imp id (fun e => List.eq_nil_of_length_eq_zero (by omega))⟩
  have hz : (⟨#[]⟩ : ByteArray).size ≤ 100 := by decide
  have hn : ∀ k ∈ ([] : List ByteArray), k.size ≤ 100 := fun k hk => by cases hk
  by_cases h0 : k = 0
  · subst h0; rw [shape_0] at h
    have := pl h; simp at this; obtain ⟨rfl, rfl, rfl⟩ := this
    exact ⟨by omega, hz, hn⟩
  by_cases h1 : k = 1
  · subst h1; rw [shape_1, Bool.and_eq_true] at h
    have hi := h.2
    have := pl h.1; simp at this; obtain ⟨rfl, rfl⟩ := this
    simp at hi
    exact ⟨by omega, hz, hn⟩
  by_cases h2 : k = 2
  · subst h2; rw [shape_2, Bool.and_eq_true] at h
    have hi := h.2
    have := pl h.1; simp at this; obtain ⟨rfl, rfl⟩ := this
    simp at hi
    exact ⟨by omega, hz, hn⟩
  by_cases h3 : k = 3
  · subst h3; rw [shape_3, Bool.and_eq_true] at h
    have := pl h.1; simp at this; obtain ⟨rfl, rfl⟩ := this
    exact ⟨by omega, isText_size h.2, hn⟩
  by_cases h4 : k = 4
  · subst h4; rw [shape_4] at h
    have := pl h; simp at this; obtain ⟨rfl, rfl, rfl⟩ := this
    exact ⟨by omega, hz, hn⟩
  by_cases h5 : k = 5
  · subst h5; rw [shape_5, Bool.and_eq_true, Bool.and_eq_true] at h
    have := pl h.1.1; simp at this; obtain ⟨rfl, rfl⟩ := this
    exact ⟨by omega, hz, keysOk_size h.2⟩
  rw [shape_x _ _ _ _ h0 h1 h2 h3 h4 h5] at h; cases h
theorem Vok.wr : ∀ {v : V}, Vok v → v.wr := by
  intro v
  induction v using V.ind with
  | h k i t xs ks ih =>
    intro hv
    have hs := shape_small (Vok.shape hv).1
    have hl := (Vok.shape hv).2
    have hk := (Vok.keys hv).1
    simp only [V.kind, V.keys, V.items] at hl hk
    simp only [V.wr, V.wrL_iff]
    refine ⟨by omega, by omega, by omega, hk, fun k hk => by have := hs.2.2 k hk; omega, fun x hx => ih x hx (Vok.items hv x hx)⟩
theorem strA_len (s : ByteArray) (h : s.size ≤ 100) : (strA s).length ≤ 109 := by
  have h1 := numA_len s.size (by omega)
  unfold strA
  rw [List.length_append, List.length_map]
  have : s.data.toList.length = s.size := by simp
  omega
theorem nodesF_step (f : V → Nat) : ∀ (xs : List V) (n : Nat), n ≤ nodesF f n xs ∨ 60 < nodesF f n xs
  | [], n => .inl (Nat.le_refl _)
  | x :: xs, n => by
    simp only [nodesF]
    split
    · right; omega
    · rcases nodesF_step f xs (n + f x) with h | h
      · left; omega
      · right; exact h
theorem valL_len (f : V → Nat) (obj : Bool) : ∀ (xs : List V) (ks : List ByteArray) (n : Nat), (∀ x ∈ xs, (valA x).length + 109 ≤ 220 * f x) → (∀ k ∈ ks, k.size ≤ 100) → nodesF f n xs ≤ 60 → (valL obj xs ks).length + 220 * n ≤ 220 * nodesF f n xs
  | [], ks, n, _, _, _ => by cases obj <;> simp [valL, nodesF]
  | x :: xs, ks, n, hx, hk, hn => by
    simp only [nodesF] at hn ⊢
    split at hn
    · omega
    · next hle =>
      rw [if_neg hle]
      have h1 := hx x List.mem_cons_self
      cases obj with
      | false =>
        have ih := valL_len f false xs ks (n + f x) (fun y hy => hx y (List.mem_cons_of_mem _ hy)) hk hn
        simp only [valL, List.length_append]
        omega
      | true =>
        cases ks with
        | nil =>
          have ih := valL_len f true xs [] (n + f x) (fun y hy => hx y (List.mem_cons_of_mem _ hy)) hk hn
          simp only [valL, List.length_nil]
          omega
        | cons k ks =>
          have ih := valL_len f true xs ks (n + f x) (fun y hy => hx y (List.mem_cons_of_mem _ hy)) (fun z hz => hk z (List.mem_cons_of_mem _ hz)) hn
          have h2 := strA_len k (hk k List.mem_cons_self)
          simp only [valL, List.length_append]
          omega
theorem valA_len : ∀ (L : Nat) (v : V), nodesS L v ≤ 60 → (valA v).length + 109 ≤ 220 * nodesS L v := by
  intro L
  induction L with
  | zero => intro v h; simp [nodesS] at h
  | succ L ih =>
    intro v h
    simp only [nodesS] at h ⊢
    split at h
    · omega
    · next hl =>
      rw [if_neg hl]
      split at h
      · next hs =>
        rw [if_pos hs]
        obtain ⟨k, i, t, xs, ks⟩ := v
        simp only [V.items] at h hl ⊢
        obtain ⟨hi, ht, hk⟩ := shape_small hs
        have hall := nodesF_all (nodesS L) xs 1 h
        have hL := valL_len (nodesS L) (k == 5) xs ks 1 (fun x hx => ih x (hall x hx)) hk h
        have hge : 1 ≤ nodesF (nodesS L) 1 xs := by
          rcases nodesF_step (nodesS L) xs 1 with h | h <;> omega
        rw [valA]
        have n1 := numA_len (zig i) (zig_lt (by omega) (by omega))
        have n2 := numA_len xs.length (by omega)
        have n3 := strA_len t ht
        rw [List.length_cons]
        split
        · simp only [List.length_cons, List.length_nil]; omega
        · split
          · omega
          · split
            · omega
            · split
              · rw [List.length_append]; omega
              · simp only [List.length_nil]; omega
      · omega
theorem Vok.valA_len {v : V} (h : Vok v) : (valA v).length ≤ 13200 := by
  obtain ⟨L, hL⟩ := h
  have := AW.valA_len L v hL
  omega
def valsA (xs : List V) : List AV := xs.flatMap valA
theorem valsA_len : ∀ {xs : List V}, (∀ x ∈ xs, Vok x) → (valsA xs).length ≤ 13200 * xs.length
  | [], _ => by simp [valsA]
  | x :: xs, h => by
    have h1 := (h x List.mem_cons_self).valA_len
    have h2 := valsA_len (xs := xs) (fun y hy => h y (List.mem_cons_of_mem _ hy))
    simp only [valsA, List.flatMap_cons, List.length_append, List.length_cons] at *
    omega
theorem bytes_numA (n : Nat) : ∀ x ∈ numA n, ∃ k, x = .int .u8 k := by
  intro x hx
  unfold numA at hx
  obtain ⟨k, _, rfl⟩ := List.mem_map.1 hx
  exact ⟨_, rfl⟩
theorem bytes_strA (s : ByteArray) : ∀ x ∈ strA s, ∃ k, x = .int .u8 k := by
  intro x hx
  unfold strA at hx
  rcases List.mem_append.1 hx with h | h
  · exact bytes_numA _ x h
  · obtain ⟨b, _, rfl⟩ := List.mem_map.1 h
    exact ⟨_, rfl⟩
mutual
theorem bytes_valA : ∀ (v : V), ∀ x ∈ valA v, ∃ k, x = .int .u8 k
  | .mk k i t xs ks => by
    intro x hx
    rw [valA] at hx
    rcases List.mem_cons.1 hx with rfl | hx
    · exact ⟨_, rfl⟩
    · split at hx
      · rcases List.mem_cons.1 hx with rfl | hx
        · exact ⟨_, rfl⟩
        · cases hx
      · split at hx
        · exact bytes_numA _ x hx
        · split at hx
          · exact bytes_strA _ x hx
          · split at hx
            · rcases List.mem_append.1 hx with h | h
              · exact bytes_numA _ x h
              · exact bytes_valL _ xs ks x h
            · cases hx
theorem bytes_valL : ∀ (obj : Bool) (xs : List V) (ks : List ByteArray), ∀ x ∈ valL obj xs ks, ∃ k, x = .int .u8 k
  | true, [], _ => by intro x hx; simp [valL] at hx
  | false, [], _ => by intro x hx; simp [valL] at hx
  | true, v :: xs, k :: ks => by
    intro x hx
    rw [valL] at hx
    rcases List.mem_append.1 hx with h | h
    · exact bytes_strA _ x h
    · rcases List.mem_append.1 h with h | h
      · exact bytes_valA v x h
      · exact bytes_valL true xs ks x h
  | true, _ :: _, [] => by intro x hx; simp [valL] at hx
  | false, v :: xs, ks => by
    intro x hx
    rw [valL] at hx
    rcases List.mem_append.1 hx with h | h
    · exact bytes_valA v x h
    · exact bytes_valL false xs ks x h
end
theorem bytes_valsA (xs : List V) : ∀ x ∈ valsA xs, ∃ k, x = .int .u8 k := by
  intro x hx
  unfold valsA at hx
  obtain ⟨v, _, h⟩ := List.mem_flatMap.1 hx
  exact bytes_valA v x h
end Go.Proofs.YtlbhgoffiigfbaaGreat.AW
end
section
set_option linter.unusedSimpArgs false
set_option linter.unusedVariables false
namespace Go.Proofs.YtlbhgoffiigfbaaGreat.AW
open Go Go.RowKit

/-- What follows, without those that are equal to the one before. -/
def ddG : V → List V → List V
  | _, [] => []
  | p, y :: r => if ord y p = 0 then ddG y r else y :: ddG y r
def dd : List V → List V
  | [] => []
  | x :: r => x :: ddG x r
theorem ddG_step {xs : List V} {j : Nat} (p : V) (hj : j < xs.length) : ddG p (xs.drop j) = if ord xs[j] p = 0 then ddG xs[j] (xs.drop (j + 1)) else xs[j] :: ddG xs[j] (xs.drop (j + 1)) := by
  rw [List.drop_eq_getElem_cons hj, ddG]
theorem dd_start {xs : List V} (h : 0 < xs.length) : dd xs = xs.take 1 ++ ddG xs[0] (xs.drop 1) := by
  cases xs with
  | nil => simp at h
  | cons x r => rfl
theorem ddG_mem : ∀ (r : List V) (p : V), ∀ y ∈ ddG p r, y ∈ r
  | [], _ => by intro y hy; simp [ddG] at hy
  | a :: r, p => by
    intro y hy
    rw [ddG] at hy
    split at hy
    · exact List.mem_cons_of_mem _ (ddG_mem r a y hy)
    · rcases List.mem_cons.1 hy with rfl | hy
      · exact List.mem_cons_self
      · exact List.mem_cons_of_mem _ (ddG_mem r a y hy)
theorem dd_mem {xs : List V} : ∀ y ∈ dd xs, y ∈ xs := by
  cases xs with
  | nil => intro y hy; simp [dd] at hy
  | cons x r =>
    intro y hy
    rw [dd] at hy
    rcases List.mem_cons.1 hy with rfl | hy
    · exact List.mem_cons_self
    · exact List.mem_cons_of_mem _ (ddG_mem r x y hy)
theorem ddG_len : ∀ (r : List V) (p : V), (ddG p r).length ≤ r.length
  | [], _ => by simp [ddG]
  | a :: r, p => by
    rw [ddG]
    have := ddG_len r a
    split <;> simp only [List.length_cons] <;> omega
theorem dd_len (xs : List V) : (dd xs).length ≤ xs.length := by
  cases xs with
  | nil => simp [dd]
  | cons x r => rw [dd]; have := ddG_len r x; simp only [List.length_cons]; omega
end Go.Proofs.YtlbhgoffiigfbaaGreat.AW
end
