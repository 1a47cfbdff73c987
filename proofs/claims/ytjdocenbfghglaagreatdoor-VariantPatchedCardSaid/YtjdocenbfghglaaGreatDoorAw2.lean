/- AW, part 2: how the relation between the abstract heap and memory goes on behind each change of memory. -/
import Derived.Test.YtjdocenbfghglaaGreatDoorAw1
set_option linter.unusedSimpArgs false
set_option linter.unusedVariables false
namespace Go.Proofs.YtjdocenbfghglaaGreatDoor.AW
open Go Go.RowKit

def World.putBlk (w : World) (g : Nat) (o : Obj) : World := { w with heap := w.heap.setIfInBounds g o }
theorem putBlk_same (w : World) (g : Nat) (o : Obj) (h : g < w.heap.size) : (World.putBlk w g o).heap[g]? = some o := by
  simp [World.putBlk, h]
theorem putBlk_other (w : World) (g k : Nat) (o : Obj) (h : k ≠ g) : (World.putBlk w g o).heap[k]? = w.heap[k]? := by
  simp [World.putBlk, Array.getElem?_setIfInBounds, Ne.symm h]
theorem putBlk_size (w : World) (g : Nat) (o : Obj) : (World.putBlk w g o).heap.size = w.heap.size := by simp [World.putBlk]
theorem putBlk_putBlk (w : World) (g : Nat) (o o' : Obj) : World.putBlk (World.putBlk w g o) g o' = World.putBlk w g o' := by
  simp [World.putBlk]
theorem putBlk_self (w : World) (g : Nat) (o : Obj) (h : w.heap[g]? = some o) : World.putBlk w g o = w := by
  have hlt : g < w.heap.size := (Array.getElem?_eq_some_iff.1 h).1
  have e : w.heap.setIfInBounds g o = w.heap := by
    apply Array.ext_getElem?
    intro i
    by_cases hi : i = g
    · subst hi; rw [h]; simp [hlt]
    · simp [Array.getElem?_setIfInBounds, Ne.symm hi]
  simp [World.putBlk, e]
theorem setCell_putBlk (w : World) (g o : Nat) (v : Value) (arr : Array Value) (ty : TypeId) (fr : Nat × Nat) (h : w.heap[g]? = some (.cells arr ty fr)) :
    w.setCell ⟨g, o, none⟩ v = World.putBlk w g (.cells (arr.setIfInBounds o v) ty fr) := by
  have hlt : g < w.heap.size := (Array.getElem?_eq_some_iff.1 h).1
  unfold World.setCell World.putBlk
  congr 1
  apply Array.ext_getElem?
  intro i
  by_cases hi : i = g
  · subst hi; rw [Array.getElem?_modify, if_pos rfl, h]; simp [hlt]
  · simp [Array.getElem?_modify, Array.getElem?_setIfInBounds, Ne.symm hi]
theorem cell_of_blk {w : World} {g : Nat} {arr : Array Value} {ty : TypeId} {fr : Nat × Nat} (h : w.heap[g]? = some (.cells arr ty fr)) (o : Nat) : w.cell? ⟨g, o, none⟩ = arr[o]? := by
  simp [World.cell?, h]
theorem frozen_of_blk {w : World} {g : Nat} {arr : Array Value} {ty : TypeId} {fr : Nat × Nat} (h : w.heap[g]? = some (.cells arr ty fr)) (hf : fr.1 = fr.2 ∨ arr.size ≤ fr.1) (o : Nat) (ho : o < arr.size) :
    w.frozen? ⟨g, o, none⟩ = false := by
  obtain ⟨lo, hi⟩ := fr
  simp only [World.frozen?, h]
  simp at hf
  simp
  omega

/-- Values laid over an array from a place on. -/
def splice (arr : Array Value) (k : Nat) : List Value → Array Value
  | [] => arr
  | v :: vs => splice (arr.setIfInBounds k v) (k + 1) vs
theorem splice_size (vs : List Value) : ∀ (arr : Array Value) (k : Nat), (splice arr k vs).size = arr.size := by
  induction vs with
  | nil => intro arr k; rfl
  | cons v vs ih => intro arr k; simp [splice, ih]
theorem splice_get (vs : List Value) : ∀ (arr : Array Value) (k j : Nat), k + vs.length ≤ arr.size → (splice arr k vs)[j]? = if k ≤ j ∧ j < k + vs.length then vs[j - k]? else arr[j]? := by
  induction vs with
  | nil => intro arr k j h; simp only [splice, List.length_nil]; rw [if_neg (by omega)]
  | cons v vs ih =>
    intro arr k j h
    simp only [List.length_cons] at h
    simp only [splice]
    rw [ih _ _ _ (by simp; omega)]
    by_cases h1 : k + 1 ≤ j ∧ j < k + 1 + vs.length
    · rw [if_pos h1, if_pos (by simp only [List.length_cons]; omega)]
      have : j - k = (j - (k + 1)) + 1 := by omega
      rw [this, List.getElem?_cons_succ]
    · rw [if_neg h1]
      by_cases h2 : j = k
      · subst h2
        rw [if_pos (by simp only [List.length_cons]; omega)]
        have hlt : j < arr.size := by omega
        simp [hlt]
      · rw [if_neg (by simp only [List.length_cons]; omega)]
        simp [Array.getElem?_setIfInBounds, Ne.symm h2]

theorem add_none (g o i : Nat) : (⟨g, o, none⟩ : Addr).add i = ⟨g, o + i, none⟩ := by
  unfold Addr.add; split
  · next h => simp [h]
  · rfl

theorem run_storeCells_blk {P : Program} (g o : Nat) (ty : TypeId) (fr : Nat × Nat) : ∀ (vs : List Value) (i : Nat) (arr : Array Value) (w : World), w.heap[g]? = some (.cells arr ty fr) → (fr.1 = fr.2 ∨ arr.size ≤ fr.1) →
    o + i + vs.length ≤ arr.size → (∀ v ∈ vs, v.oneCell' = true) → (storeCells ⟨g, o, none⟩ vs i).run P w = .ok () (World.putBlk w g (.cells (splice arr (o + i) vs) ty fr)) := by
  intro vs
  induction vs with
  | nil =>
    intro i arr w hg hf hl ho
    simp only [storeCells, splice, Sem.run_pure]
    rw [putBlk_self w g _ hg]
  | cons v vs ih =>
    intro i arr w hg hf hl ho
    simp only [List.length_cons] at hl
    have hlt : g < w.heap.size := (Array.getElem?_eq_some_iff.1 hg).1
    simp only [storeCells, Sem.run_bind]
    have hc : w.cell? ⟨g, o + i, none⟩ = some (arr[o + i]'(by omega)) := by rw [cell_of_blk hg]; exact Array.getElem?_eq_getElem (by omega)
    have hz : w.frozen? ⟨g, o + i, none⟩ = false := frozen_of_blk hg hf _ (by omega)
    have hs : (store ((⟨g, o, none⟩ : Addr).add i) v).run P w = .ok () (World.putBlk w g (.cells (arr.setIfInBounds (o + i) v) ty fr)) := by
      rw [add_none, run_store P w _ v _ (ho v (by simp))]
      simp [stored, hc, hz, setCell_putBlk w g (o + i) v arr ty fr hg]
    rw [hs]
    simp only [Result.andThen_ok]
    rw [ih (i + 1) (arr.setIfInBounds (o + i) v) _ (putBlk_same _ _ _ hlt) (by simpa using hf) (by simp; omega) (fun v hv => ho v (by simp [hv]))]
    rw [putBlk_putBlk]
    rfl

section
variable {w0 : Base} {w : World} {m : Mem} {h : AH}

theorem WR.drew (r : WR w0 m w h) : WR w0 m w.drew h :=
  ⟨r.below.drew, fun b o v hk => r.K b o v hk, r.Mlt, r.Blt, r.Tlt, r.Klt,
    fun b cs hb => by
      obtain ⟨blk, arr, ty, fr, h1, h2, h3⟩ := r.box b cs hb
      exact ⟨blk, arr, ty, fr, h1, h2, ⟨h3.here, h3.size, h3.free, h3.rel, h3.one, h3.apart, h3.cap, h3.nomark⟩⟩,
    fun t g ht => by
      obtain ⟨blk, e, room, arr, ty, fr, h1, h2, h3⟩ := r.tok t g ht
      exact ⟨blk, e, room, arr, ty, fr, h1, h2, ⟨h3.here, h3.free, h3.fits, h3.apart⟩⟩,
    r.gens, r.bb, r.tt, r.bt, r.past⟩

theorem WR.size_le (r : WR w0 m w h) : w0.heap.size ≤ w.heap.size := r.below.size
theorem WR.Klt' (r : WR w0 m w h) {b o : Nat} {v : Value} (hk : m.K b o = some v) : b < w.heap.size :=
  World.block_lt_of_cell? w ⟨b, o, none⟩ (r.K b o v hk).1


/-- A new block is laid, nothing said of it. -/
theorem WR.alloc (r : WR w0 m w h) (o : Obj) : WR w0 m (w.alloc o) h :=
  ⟨r.below.alloc r.size_le o, fun b off v hk => by
      have hlt := r.Klt' hk
      exact ⟨by rw [World.cell?_alloc_lt w o _ hlt]; exact (r.K b off v hk).1, (r.K b off v hk).2⟩,
    r.Mlt, r.Blt, r.Tlt, r.Klt,
    fun b cs hb => by
      obtain ⟨blk, arr, ty, fr, h1, h2, h3⟩ := r.box b cs hb
      have hlt : blk < w.heap.size := (Array.getElem?_eq_some_iff.1 h3.here).1
      exact ⟨blk, arr, ty, fr, h1, h2, ⟨by rw [Below.heap_alloc w o blk hlt]; exact h3.here, h3.size, h3.free, h3.rel, h3.one, h3.apart, h3.cap, h3.nomark⟩⟩,
    fun t g ht => by
      obtain ⟨blk, e, room, arr, ty, fr, h1, h2, h3⟩ := r.tok t g ht
      have hlt : blk < w.heap.size := (Array.getElem?_eq_some_iff.1 h3.here).1
      exact ⟨blk, e, room, arr, ty, fr, h1, h2, ⟨by rw [Below.heap_alloc w o blk hlt]; exact h3.here, h3.free, h3.fits, h3.apart⟩⟩,
    r.gens, r.bb, r.tt, r.bt, r.past⟩

/-- A new variable. -/
theorem WR.newBox (r : WR w0 m w h) (cs : List AV) (arr : Array Value) (ty : TypeId) (hs : cs.length ≤ arr.size) (hr : ∀ (j : Nat) (c : AV), cs[j]? = some c → VR m c (arr.getD j undef))
    (h1 : ∀ j : Nat, j < arr.size → (arr.getD j undef).oneCell' = true) :
    ∃ m', m.le m' ∧ m'.M h.nb = some w.heap.size ∧ m'.C h.nb = arr.size ∧ WR w0 m' (w.alloc (.cells arr ty)) (h.new cs) := by
  have hnone : m.M h.nb = none := by
    cases hm : m.M h.nb with
    | none => rfl
    | some x => exact absurd (r.Mlt _ _ hm) (by omega)
  have hbn : h.box h.nb = none := by
    cases hm : h.box h.nb with
    | none => rfl
    | some x => exact absurd (r.Blt _ _ hm) (by omega)
  have hKn : ∀ o, m.K w.heap.size o = none := by
    intro o
    cases hk : m.K w.heap.size o with
    | none => rfl
    | some v => exact absurd (r.Klt' hk) (by omega)
  let m' : Mem := { m with M := upd m.M h.nb (some w.heap.size), C := upd m.C h.nb arr.size }
  have hle : m.le m' := ⟨fun _ _ _ x => x, fun b x hb => by
    have : b ≠ h.nb := fun e => by subst e; rw [hnone] at hb; cases hb
    show upd m.M h.nb _ b = _
    rw [upd_other _ _ _ this]; exact hb, fun _ _ _ x => x, fun b x hb => by
    have : b ≠ h.nb := fun e => by subst e; rw [hnone] at hb; cases hb
    exact upd_other _ _ _ this⟩
  have ra := r.alloc (.cells arr ty)
  refine ⟨m', hle, upd_same _ _ _, upd_same _ _ _, ra.below, ra.K, ?_, ?_, r.Tlt, r.Klt, ?_, ?_, r.gens, ?_, r.tt, ?_, r.past⟩
  · intro b x hb
    show b < h.nb + 1
    by_cases e : b = h.nb
    · omega
    · have := r.Mlt b x (by rw [← upd_other m.M h.nb (some w.heap.size) e]; exact hb); omega
  · intro b cs' hb
    show b < h.nb + 1
    by_cases e : b = h.nb
    · omega
    · have := r.Blt b cs' (by rw [← upd_other h.box h.nb (some cs) e]; exact hb); omega
  · intro b cs' hb
    by_cases e : b = h.nb
    · subst e
      have : cs = cs' := by
        have h2 : (h.new cs).box h.nb = some cs := upd_same _ _ _
        rw [h2] at hb; injection hb
      subst this
      exact ⟨w.heap.size, arr, ty, (0, 0), upd_same _ _ _, r.size_le, ⟨heap_alloc_new w _, hs, .inl rfl, fun j c hj => (hr j c hj).mono hle, h1, hKn, Nat.le_of_eq (upd_same _ _ _), fun _ => rfl⟩⟩
    · have hb' : h.box b = some cs' := by rw [← upd_other h.box h.nb (some cs) e]; exact hb
      obtain ⟨blk, a2, t2, f2, q1, q2, q3⟩ := ra.box b cs' hb'
      exact ⟨blk, a2, t2, f2, hle.M _ _ q1, q2, ⟨q3.here, q3.size, q3.free, fun j c hj => (q3.rel j c hj).mono hle, q3.one, q3.apart, by rw [hle.C _ _ q1]; exact q3.cap, q3.nomark⟩⟩
  · intro t g ht
    obtain ⟨blk, e, room, a2, t2, f2, q1, q2, q3⟩ := ra.tok t g ht
    exact ⟨blk, e, room, a2, t2, f2, q1, q2, ⟨q3.here, q3.free, q3.fits, q3.apart⟩⟩
  · intro b b' c1 c2 x hb hb' hx hx'
    have hlt : ∀ b'' y, m.M b'' = some y → h.box b'' ≠ none → y < w.heap.size := by
      intro b'' y hy hne
      cases hq : h.box b'' with
      | none => exact absurd hq hne
      | some c3 =>
        obtain ⟨blk, a2, t2, f2, q1, q2, q3⟩ := r.box b'' c3 hq
        rw [hy] at q1; injection q1 with q1; subst q1
        exact (Array.getElem?_eq_some_iff.1 q3.here).1
    by_cases e : b = h.nb
    · by_cases e' : b' = h.nb
      · omega
      · exfalso
        have k1 : upd m.M h.nb (some w.heap.size) b = some w.heap.size := by rw [e]; exact upd_same _ _ _
        have hx2 : some w.heap.size = some x := k1.symm.trans hx
        injection hx2 with hx2
        have k2 : m.M b' = some x := by rw [← upd_other m.M h.nb (some w.heap.size) e']; exact hx'
        have k3 : h.box b' = some c2 := by rw [← upd_other h.box h.nb (some cs) e']; exact hb'
        have := hlt b' x k2 (by rw [k3]; simp)
        omega
    · by_cases e' : b' = h.nb
      · exfalso
        have k1 : upd m.M h.nb (some w.heap.size) b' = some w.heap.size := by rw [e']; exact upd_same _ _ _
        have hx2 : some w.heap.size = some x := k1.symm.trans hx'
        injection hx2 with hx2
        have k2 : m.M b = some x := by rw [← upd_other m.M h.nb (some w.heap.size) e]; exact hx
        have k3 : h.box b = some c1 := by rw [← upd_other h.box h.nb (some cs) e]; exact hb
        have := hlt b x k2 (by rw [k3]; simp)
        omega
      · exact r.bb b b' c1 c2 x (by rw [← upd_other h.box h.nb (some cs) e]; exact hb) (by rw [← upd_other h.box h.nb (some cs) e']; exact hb')
          (by rw [← upd_other m.M h.nb (some w.heap.size) e]; exact hx) (by rw [← upd_other m.M h.nb (some w.heap.size) e']; exact hx')
  · intro b t c1 g x y hb ht hx hy
    by_cases e : b = h.nb
    · have k1 : upd m.M h.nb (some w.heap.size) b = some w.heap.size := by rw [e]; exact upd_same _ _ _
      have hx2 : some w.heap.size = some x := k1.symm.trans hx
      injection hx2 with hx2
      obtain ⟨blk, e2, room, a2, t2, f2, q1, q2, q3⟩ := r.tok t g ht
      have hy' : m.T t g = some y := hy
      rw [hy'] at q1; injection q1 with q1
      have := (Array.getElem?_eq_some_iff.1 q3.here).1
      rw [q1]; simp; omega
    · exact r.bt b t c1 g x y (by rw [← upd_other h.box h.nb (some cs) e]; exact hb) ht (by rw [← upd_other m.M h.nb (some w.heap.size) e]; exact hx) hy

/-- A variable's cells are written. -/
theorem WR.setBoxF (r : WR w0 m w h) {b g : Nat} {cs cs' : List AV} {arr' : Array Value} {ty : TypeId} {fr fr' : Nat × Nat} {arr : Array Value} (hb : h.box b = some cs) (hM : m.M b = some g)
    (hg : w.heap[g]? = some (.cells arr ty fr)) (hs : arr'.size = arr.size) (hl : cs'.length ≤ arr'.size) (hr : ∀ (j : Nat) (c : AV), cs'[j]? = some c → VR m c (arr'.getD j undef))
    (h1 : ∀ j : Nat, j < arr'.size → (arr'.getD j undef).oneCell' = true) (hf : fr'.1 = fr'.2 ∨ arr'.size ≤ fr'.1) (hmk : allowMark = false → fr'.1 = fr'.2) : WR w0 m (World.putBlk w g (.cells arr' ty fr')) (h.set b cs') := by
  have hlt : g < w.heap.size := (Array.getElem?_eq_some_iff.1 hg).1
  obtain ⟨blk, a2, t2, f2, q1, q2, q3⟩ := r.box b cs hb
  rw [hM] at q1; injection q1 with q1; subst q1
  have hsame := q3.here
  rw [hg] at hsame; injection hsame with hsame
  have e1 : arr = a2 ∧ ty = t2 ∧ fr = f2 := by injection hsame with x y z; exact ⟨x, y, z⟩
  obtain ⟨rfl, rfl, rfl⟩ := e1
  have hput : ∀ k, k ≠ g → (World.putBlk w g (.cells arr' ty fr')).heap[k]? = w.heap[k]? := fun k hk => putBlk_other w g k _ hk
  refine ⟨⟨⟨r.below.os, r.below.tape, r.below.output, by rw [putBlk_size]; exact r.below.size, fun k hk => by rw [hput k (by omega)]; exact r.below.block k hk⟩, r.below.drawn⟩, ?_, r.Mlt, ?_, r.Tlt, r.Klt, ?_, ?_, r.gens, ?_, r.tt, ?_, r.past⟩
  · intro b' o v hk
    have hne : b' ≠ g := fun e => by subst e; rw [q3.apart o] at hk; cases hk
    exact ⟨by rw [World.cell?_of_block (w := w) (hput b' hne)]; exact (r.K b' o v hk).1, (r.K b' o v hk).2⟩
  · intro b' c hb'
    by_cases e : b' = b
    · subst e; exact r.Blt _ _ hb
    · exact r.Blt b' c (by rw [← upd_other h.box b (some cs') e]; exact hb')
  · intro b' c hb'
    by_cases e : b' = b
    · subst e
      have : cs' = c := by
        have h2 : (h.set b' cs').box b' = some cs' := upd_same _ _ _
        rw [h2] at hb'; injection hb'
      subst this
      exact ⟨g, arr', ty, fr', hM, q2, ⟨putBlk_same _ _ _ hlt, hl, hf, hr, h1, q3.apart, by rw [hs]; exact q3.cap, hmk⟩⟩
    · have hb2 : h.box b' = some c := by rw [← upd_other h.box b (some cs') e]; exact hb'
      obtain ⟨blk, a3, t3, f3, p1, p2, p3⟩ := r.box b' c hb2
      have hne : blk ≠ g := fun e2 => by subst e2; exact e (r.bb b' b c cs blk hb2 hb p1 hM)
      exact ⟨blk, a3, t3, f3, p1, p2, ⟨by rw [hput blk hne]; exact p3.here, p3.size, p3.free, p3.rel, p3.one, p3.apart, p3.cap, p3.nomark⟩⟩
  · intro t gg ht
    obtain ⟨blk, e2, room, a3, t3, f3, p1, p2, p3⟩ := r.tok t gg ht
    have hne : blk ≠ g := fun e2 => r.bt b t cs gg g _ hb ht hM p1 e2.symm
    exact ⟨blk, e2, room, a3, t3, f3, p1, p2, ⟨by rw [hput blk hne]; exact p3.here, p3.free, p3.fits, p3.apart⟩⟩
  · intro b1 b2 c1 c2 x hb1 hb2 hx1 hx2
    have f : ∀ b3 c3, (h.set b cs').box b3 = some c3 → ∃ c4, h.box b3 = some c4 := by
      intro b3 c3 h3
      by_cases e : b3 = b
      · subst e; exact ⟨cs, hb⟩
      · exact ⟨c3, by rw [← upd_other h.box b (some cs') e]; exact h3⟩
    obtain ⟨d1, hd1⟩ := f b1 c1 hb1
    obtain ⟨d2, hd2⟩ := f b2 c2 hb2
    exact r.bb b1 b2 d1 d2 x hd1 hd2 hx1 hx2
  · intro b1 t c1 gg x y hb1 ht hx hy
    by_cases e : b1 = b
    · subst e; exact r.bt b1 t cs gg x y hb ht hx hy
    · exact r.bt b1 t c1 gg x y (by rw [← upd_other h.box b (some cs') e]; exact hb1) ht hx hy
theorem WR.setBox (r : WR w0 m w h) {b g : Nat} {cs cs' : List AV} {arr' : Array Value} {ty : TypeId} {fr : Nat × Nat} {arr : Array Value} (hb : h.box b = some cs) (hM : m.M b = some g)
    (hg : w.heap[g]? = some (.cells arr ty fr)) (hs : arr'.size = arr.size) (hl : cs'.length = cs.length) (hr : ∀ (j : Nat) (c : AV), cs'[j]? = some c → VR m c (arr'.getD j undef))
    (h1 : ∀ j : Nat, j < arr'.size → (arr'.getD j undef).oneCell' = true) : WR w0 m (World.putBlk w g (.cells arr' ty fr)) (h.set b cs') := by
  obtain ⟨blk, a2, t2, f2, q1, q2, q3⟩ := r.box b cs hb
  rw [hM] at q1; injection q1 with q1; subst q1
  have hsame := q3.here
  rw [hg] at hsame; injection hsame with hsame
  have e1 : arr = a2 ∧ ty = t2 ∧ fr = f2 := by injection hsame with x y z; exact ⟨x, y, z⟩
  obtain ⟨rfl, rfl, rfl⟩ := e1
  exact r.setBoxF hb hM hg hs (by rw [hs, hl]; exact q3.size) hr h1 (by rw [hs]; exact q3.free) q3.nomark
end
end Go.Proofs.YtjdocenbfghglaaGreatDoor.AW
