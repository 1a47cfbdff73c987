/- AW, part 3: rows that are committed, rows that may be appended to, and what is forgotten at a function's end. -/
import Derived.Test.YtjdocenbfghglaaGreatDoorAw2
set_option linter.unusedSimpArgs false
set_option linter.unusedVariables false
namespace Go.Proofs.YtjdocenbfghglaaGreatDoor.AW
open Go Go.RowKit
section
variable {w0 : Base} {w : World} {m : Mem} {h : AH}

/-- The first e cells of a block change no more from here on. -/
def Mem.commit (m : Mem) (blk lo e : Nat) (arr : Array Value) : Mem := { m with K := fun b o => if b = blk ∧ lo ≤ o ∧ o < e then arr[o]? else m.K b o }
theorem Mem.commit_le {m : Mem} {blk lo e : Nat} {arr : Array Value} (ha : ∀ o v, m.K blk o = some v → arr[o]? = some v) : m.le (m.commit blk lo e arr) :=
  ⟨fun b o v hk => by
    show (if b = blk ∧ lo ≤ o ∧ o < e then arr[o]? else m.K b o) = some v
    split
    · next hb => obtain ⟨rfl, _⟩ := hb; exact ha o v hk
    · exact hk, fun _ _ x => x, fun _ _ _ x => x, fun _ _ _ => rfl⟩
theorem Mem.commit_at (m : Mem) (blk lo e : Nat) (arr : Array Value) {o : Nat} (hl : lo ≤ o) (ho : o < e) : (m.commit blk lo e arr).K blk o = arr[o]? := by
  show (if blk = blk ∧ lo ≤ o ∧ o < e then arr[o]? else m.K blk o) = _
  rw [if_pos ⟨rfl, hl, ho⟩]

theorem WR.commit (r : WR w0 m w h) (blk lo e : Nat) (arr : Array Value) (ty : TypeId) (fr : Nat × Nat) (hg : w.heap[blk]? = some (.cells arr ty fr)) (hB : w0.heap.size ≤ blk)
    (hbox : ∀ b cs, h.box b = some cs → m.M b ≠ some blk) (htok : ∀ t g x, h.tok t = some g → m.T t g = some x → x.1 = blk → e ≤ x.2.1)
    (hone : ∀ j : Nat, lo ≤ j → j < e → (arr.getD j undef).oneCell' = true) (ha : ∀ o v, m.K blk o = some v → arr[o]? = some v) :
    m.le (m.commit blk lo e arr) ∧ WR w0 (m.commit blk lo e arr) w h := by
  have hle := Mem.commit_le (lo := lo) (e := e) ha
  refine ⟨hle, r.below, ?_, r.Mlt, r.Blt, r.Tlt, r.Klt, ?_, ?_, r.gens, r.bb, r.tt, r.bt, ?_⟩
  · intro b o v hk
    change (if b = blk ∧ lo ≤ o ∧ o < e then arr[o]? else m.K b o) = some v at hk
    split at hk
    · next hb =>
      obtain ⟨rfl, hlo, ho⟩ := hb
      refine ⟨by rw [cell_of_blk hg]; exact hk, ?_⟩
      have := hone o hlo ho
      rw [Array.getD_eq_getD_getElem?, hk] at this
      exact this
    · exact r.K b o v hk
  · intro b cs hb
    obtain ⟨bk, a2, t2, f2, q1, q2, q3⟩ := r.box b cs hb
    refine ⟨bk, a2, t2, f2, q1, q2, ⟨q3.here, q3.size, q3.free, fun j c hj => (q3.rel j c hj).mono hle, q3.one, fun o => ?_, q3.cap, q3.nomark⟩⟩
    show (if bk = blk ∧ lo ≤ o ∧ o < e then arr[o]? else m.K bk o) = none
    rw [if_neg (fun hx => hbox b cs hb (by rw [q1, hx.1]))]
    exact q3.apart o
  · intro t g ht
    obtain ⟨bk, e2, room, a2, t2, f2, q1, q2, q3⟩ := r.tok t g ht
    refine ⟨bk, e2, room, a2, t2, f2, q1, q2, ⟨q3.here, q3.free, q3.fits, fun o ho => ?_⟩⟩
    show (if bk = blk ∧ lo ≤ o ∧ o < e then arr[o]? else m.K bk o) = none
    by_cases hx : bk = blk
    · have := htok t g _ ht q1 hx
      simp at this
      rw [if_neg (by omega)]
      exact q3.apart o ho
    · rw [if_neg (fun hy => hx hy.1)]
      exact q3.apart o ho
  · intro b o v hk hlt
    change (if b = blk ∧ lo ≤ o ∧ o < e then arr[o]? else m.K b o) = some v at hk
    rw [if_neg (by omega)] at hk
    exact r.past b o v hk hlt

/-- A row's cells beyond its end are written. -/
theorem WR.putTok (r : WR w0 m w h) {t g blk e room : Nat} {arr arr' : Array Value} {ty : TypeId} {fr : Nat × Nat} (ht : h.tok t = some g) (hT : m.T t g = some (blk, e, room))
    (hg : w.heap[blk]? = some (.cells arr ty fr)) (hs : arr'.size = arr.size) (hsame : ∀ j : Nat, j < e → arr'[j]? = arr[j]?) : WR w0 m (World.putBlk w blk (.cells arr' ty fr)) h := by
  have hlt : blk < w.heap.size := (Array.getElem?_eq_some_iff.1 hg).1
  obtain ⟨bk, e2, room2, a2, t2, f2, q1, q2, q3⟩ := r.tok t g ht
  rw [hT] at q1; injection q1 with q1; injection q1 with q1 q1'; injection q1' with q1' q1''; subst q1 q1' q1''
  have hsm := q3.here
  rw [hg] at hsm; injection hsm with hsm
  have e1 : arr = a2 ∧ ty = t2 ∧ fr = f2 := by injection hsm with x y z; exact ⟨x, y, z⟩
  obtain ⟨rfl, rfl, rfl⟩ := e1
  have hput : ∀ k, k ≠ blk → (World.putBlk w blk (.cells arr' ty fr)).heap[k]? = w.heap[k]? := fun k hk => putBlk_other w blk k _ hk
  refine ⟨⟨⟨r.below.os, r.below.tape, r.below.output, by rw [putBlk_size]; exact r.below.size, fun k hk => by rw [hput k (by omega)]; exact r.below.block k hk⟩, r.below.drawn⟩, ?_, r.Mlt, r.Blt, r.Tlt, r.Klt, ?_, ?_, r.gens, r.bb, r.tt, r.bt, r.past⟩
  · intro b o v hk
    by_cases e1 : b = blk
    · subst e1
      have ho : o < e := by
        rcases Nat.lt_or_ge o e with h1 | h1
        · exact h1
        · rw [q3.apart o h1] at hk; cases hk
      refine ⟨?_, (r.K _ _ _ hk).2⟩
      rw [cell_of_blk (putBlk_same _ _ _ hlt), hsame o ho, ← cell_of_blk hg]
      exact (r.K _ _ _ hk).1
    · exact ⟨by rw [World.cell?_of_block (w := w) (hput b e1)]; exact (r.K b o v hk).1, (r.K b o v hk).2⟩
  · intro b cs hb
    obtain ⟨bk, a3, t3, f3, p1, p2, p3⟩ := r.box b cs hb
    have hne : bk ≠ blk := fun e2 => r.bt b t cs g bk _ hb ht p1 hT e2
    exact ⟨bk, a3, t3, f3, p1, p2, ⟨by rw [hput bk hne]; exact p3.here, p3.size, p3.free, p3.rel, p3.one, p3.apart, p3.cap, p3.nomark⟩⟩
  · intro t' g' ht'
    obtain ⟨bk, e3, room3, a3, t3, f3, p1, p2, p3⟩ := r.tok t' g' ht'
    by_cases e1 : bk = blk
    · have htt := r.tt t' t g' g _ _ ht' ht p1 hT e1
      subst htt
      rw [ht] at ht'; injection ht' with ht'; subst ht'
      rw [hT] at p1; injection p1 with p1; injection p1 with p1 p1'; injection p1' with p1' p1''; subst p1 p1' p1''
      exact ⟨blk, e, room, arr', ty, fr, hT, p2, ⟨putBlk_same _ _ _ hlt, by rw [hs]; exact q3.free, by rw [hs]; exact q3.fits, q3.apart⟩⟩
    · exact ⟨bk, e3, room3, a3, t3, f3, p1, p2, ⟨by rw [hput bk e1]; exact p3.here, p3.free, p3.fits, p3.apart⟩⟩

/-- A row goes on: token t is now at (blk, e, room). -/
theorem WR.bump (r : WR w0 m w h) {t g blk e room : Nat} {arr : Array Value} {ty : TypeId} {fr : Nat × Nat} (ht : h.tok t = some g) (hB : w0.heap.size ≤ blk) (hat : TokAt m w blk e room arr ty fr)
    (hbox : ∀ b cs, h.box b = some cs → m.M b ≠ some blk) (htok : ∀ t' g' x, t' ≠ t → h.tok t' = some g' → m.T t' g' = some x → x.1 ≠ blk) :
    ∃ m', m.le m' ∧ m'.K = m.K ∧ m'.M = m.M ∧ m'.T t (g + 1) = some (blk, e, room) ∧ (∀ t' g', t' ≠ t → m'.T t' g' = m.T t' g') ∧ WR w0 m' w (h.setTok t (g + 1)) := by
  have hn : ∀ g', g < g' → m.T t g' = none := by
    intro g' hg'
    cases hx : m.T t g' with
    | none => rfl
    | some x => exact absurd (r.gens t g' x g hx ht) (by omega)
  let m' : Mem := { m with T := fun t' g' => if t' = t ∧ g' = g + 1 then some (blk, e, room) else m.T t' g' }
  have hTn : m'.T t (g + 1) = some (blk, e, room) := by show (if t = t ∧ g + 1 = g + 1 then _ else _) = _; rw [if_pos ⟨rfl, rfl⟩]
  have hTo : ∀ t' g', (t' ≠ t ∨ g' ≠ g + 1) → m'.T t' g' = m.T t' g' := by
    intro t' g' hx
    show (if t' = t ∧ g' = g + 1 then _ else _) = _
    rw [if_neg (by omega)]
  have hle : m.le m' := ⟨fun _ _ _ x => x, fun _ _ x => x, fun t' g' x hx => by
    by_cases e1 : t' = t ∧ g' = g + 1
    · obtain ⟨rfl, rfl⟩ := e1; rw [hn _ (by omega)] at hx; cases hx
    · rw [hTo t' g' (by omega)]; exact hx, fun _ _ _ => rfl⟩
  have hset : ∀ t', t' ≠ t → (h.setTok t (g + 1)).tok t' = h.tok t' := fun t' hx => upd_other _ _ _ hx
  have hsets : (h.setTok t (g + 1)).tok t = some (g + 1) := upd_same _ _ _
  refine ⟨m', hle, rfl, rfl, hTn, fun t' g' hx => hTo t' g' (.inl hx), r.below, r.K, r.Mlt, r.Blt, ?_, ?_, ?_, ?_, ?_, r.bb, ?_, ?_, r.past⟩
  · intro t' g' x hx
    by_cases e1 : t' = t ∧ g' = g + 1
    · rw [e1.1]; exact r.Klt t g ht
    · rw [hTo t' g' (by omega)] at hx; exact r.Tlt t' g' x hx
  · intro t' g' hx
    by_cases e1 : t' = t
    · subst e1; exact r.Klt t' g ht
    · rw [hset t' e1] at hx; exact r.Klt t' g' hx
  · intro b cs hb
    obtain ⟨bk, a2, t2, f2, q1, q2, q3⟩ := r.box b cs hb
    exact ⟨bk, a2, t2, f2, q1, q2, ⟨q3.here, q3.size, q3.free, fun j c hj => (q3.rel j c hj).mono hle, q3.one, q3.apart, q3.cap, q3.nomark⟩⟩
  · intro t' g' hx
    by_cases e1 : t' = t
    · subst e1
      rw [hsets] at hx; injection hx with hx; subst hx
      exact ⟨blk, e, room, arr, ty, fr, hTn, hB, ⟨hat.here, hat.free, hat.fits, hat.apart⟩⟩
    · rw [hset t' e1] at hx
      obtain ⟨bk, e3, room3, a3, t3, f3, p1, p2, p3⟩ := r.tok t' g' hx
      exact ⟨bk, e3, room3, a3, t3, f3, by rw [hTo t' g' (.inl e1)]; exact p1, p2, ⟨p3.here, p3.free, p3.fits, p3.apart⟩⟩
  · intro t' g1 x g2 hx hy
    by_cases e1 : t' = t
    · subst e1
      rw [hsets] at hy; injection hy with hy; subst hy
      by_cases e2 : g1 = g + 1
      · omega
      · rw [hTo _ _ (.inr e2)] at hx
        have := r.gens t' g1 x g hx ht
        omega
    · rw [hset t' e1] at hy
      rw [hTo _ _ (.inl e1)] at hx
      exact r.gens t' g1 x g2 hx hy
  · intro t1 t2 g1 g2 x1 x2 h1 h2 hx1 hx2 heq
    by_cases e1 : t1 = t
    · by_cases e2 : t2 = t
      · omega
      · exfalso
        subst e1
        rw [hsets] at h1; injection h1 with h1; subst h1
        rw [hTn] at hx1; injection hx1 with hx1; subst hx1
        rw [hset t2 e2] at h2
        rw [hTo _ _ (.inl e2)] at hx2
        exact htok t2 g2 x2 e2 h2 hx2 heq.symm
    · rw [hset t1 e1] at h1
      rw [hTo _ _ (.inl e1)] at hx1
      by_cases e2 : t2 = t
      · exfalso
        subst e2
        rw [hsets] at h2; injection h2 with h2; subst h2
        rw [hTn] at hx2; injection hx2 with hx2; subst hx2
        exact htok t1 g1 x1 e1 h1 hx1 heq
      · rw [hset t2 e2] at h2
        rw [hTo _ _ (.inl e2)] at hx2
        exact r.tt t1 t2 g1 g2 x1 x2 h1 h2 hx1 hx2 heq
  · intro b t' cs g1 x y hb h1 hx hy
    by_cases e1 : t' = t
    · subst e1
      rw [hsets] at h1; injection h1 with h1; subst h1
      rw [hTn] at hy; injection hy with hy; subst hy
      intro e2; have e3 : x = blk := e2; subst e3; exact hbox b cs hb hx
    · rw [hset t' e1] at h1
      rw [hTo _ _ (.inl e1)] at hy
      exact r.bt b t' cs g1 x y hb h1 hx hy

/-- A new token for a row at (blk, e, room). -/
theorem WR.newTok (r : WR w0 m w h) {blk e room : Nat} {arr : Array Value} {ty : TypeId} {fr : Nat × Nat} (hB : w0.heap.size ≤ blk) (hat : TokAt m w blk e room arr ty fr)
    (hbox : ∀ b cs, h.box b = some cs → m.M b ≠ some blk) (htok : ∀ t' g' x, h.tok t' = some g' → m.T t' g' = some x → x.1 ≠ blk) :
    ∃ m', m.le m' ∧ m'.K = m.K ∧ m'.M = m.M ∧ m'.T h.nt 0 = some (blk, e, room) ∧ (∀ t' g', t' ≠ h.nt → m'.T t' g' = m.T t' g') ∧ WR w0 m' w h.newTok := by
  have hn : ∀ g', m.T h.nt g' = none := by
    intro g'
    cases hx : m.T h.nt g' with
    | none => rfl
    | some x => exact absurd (r.Tlt _ _ _ hx) (by omega)
  have hkn : ∀ t g, h.tok t = some g → t ≠ h.nt := fun t g hx => by have := r.Klt t g hx; omega
  let m' : Mem := { m with T := fun t' g' => if t' = h.nt ∧ g' = 0 then some (blk, e, room) else m.T t' g' }
  have hTn : m'.T h.nt 0 = some (blk, e, room) := by show (if h.nt = h.nt ∧ 0 = 0 then _ else _) = _; rw [if_pos ⟨rfl, rfl⟩]
  have hTo : ∀ t' g', (t' ≠ h.nt ∨ g' ≠ 0) → m'.T t' g' = m.T t' g' := by
    intro t' g' hx
    show (if t' = h.nt ∧ g' = 0 then _ else _) = _
    rw [if_neg (by omega)]
  have hle : m.le m' := ⟨fun _ _ _ x => x, fun _ _ x => x, fun t' g' x hx => by
    by_cases e1 : t' = h.nt ∧ g' = 0
    · obtain ⟨rfl, rfl⟩ := e1; rw [hn] at hx; cases hx
    · rw [hTo t' g' (by omega)]; exact hx, fun _ _ _ => rfl⟩
  have hset : ∀ t', t' ≠ h.nt → h.newTok.tok t' = h.tok t' := fun t' hx => upd_other _ _ _ hx
  have hsets : h.newTok.tok h.nt = some 0 := upd_same _ _ _
  refine ⟨m', hle, rfl, rfl, hTn, fun t' g' hx => hTo t' g' (.inl hx), r.below, r.K, r.Mlt, r.Blt, ?_, ?_, ?_, ?_, ?_, r.bb, ?_, ?_, r.past⟩
  · intro t' g' x hx
    show t' < h.nt + 1
    by_cases e1 : t' = h.nt ∧ g' = 0
    · omega
    · rw [hTo t' g' (by omega)] at hx; have := r.Tlt t' g' x hx; omega
  · intro t' g' hx
    show t' < h.nt + 1
    by_cases e1 : t' = h.nt
    · omega
    · rw [hset t' e1] at hx; have := r.Klt t' g' hx; omega
  · intro b cs hb
    obtain ⟨bk, a2, t2, f2, q1, q2, q3⟩ := r.box b cs hb
    exact ⟨bk, a2, t2, f2, q1, q2, ⟨q3.here, q3.size, q3.free, fun j c hj => (q3.rel j c hj).mono hle, q3.one, q3.apart, q3.cap, q3.nomark⟩⟩
  · intro t' g' hx
    by_cases e1 : t' = h.nt
    · subst e1
      rw [hsets] at hx; injection hx with hx; subst hx
      exact ⟨blk, e, room, arr, ty, fr, hTn, hB, ⟨hat.here, hat.free, hat.fits, hat.apart⟩⟩
    · rw [hset t' e1] at hx
      obtain ⟨bk, e3, room3, a3, t3, f3, p1, p2, p3⟩ := r.tok t' g' hx
      exact ⟨bk, e3, room3, a3, t3, f3, by rw [hTo t' g' (.inl e1)]; exact p1, p2, ⟨p3.here, p3.free, p3.fits, p3.apart⟩⟩
  · intro t' g1 x g2 hx hy
    by_cases e1 : t' = h.nt
    · subst e1
      rw [hsets] at hy; injection hy with hy; subst hy
      by_cases e2 : g1 = 0
      · omega
      · rw [hTo _ _ (.inr e2), hn] at hx; cases hx
    · rw [hset t' e1] at hy
      rw [hTo _ _ (.inl e1)] at hx
      exact r.gens t' g1 x g2 hx hy
  · intro t1 t2 g1 g2 x1 x2 h1 h2 hx1 hx2 heq
    by_cases e1 : t1 = h.nt
    · by_cases e2 : t2 = h.nt
      · omega
      · exfalso
        rw [hset t2 e2] at h2
        rw [hTo _ _ (.inl e2)] at hx2
        subst e1
        rw [hsets] at h1; injection h1 with h1; subst h1
        rw [hTn] at hx1; injection hx1 with hx1; subst hx1
        exact htok t2 g2 x2 h2 hx2 heq.symm
    · rw [hset t1 e1] at h1
      rw [hTo _ _ (.inl e1)] at hx1
      by_cases e2 : t2 = h.nt
      · exfalso
        subst e2
        rw [hsets] at h2; injection h2 with h2; subst h2
        rw [hTn] at hx2; injection hx2 with hx2; subst hx2
        exact htok t1 g1 x1 h1 hx1 heq
      · rw [hset t2 e2] at h2
        rw [hTo _ _ (.inl e2)] at hx2
        exact r.tt t1 t2 g1 g2 x1 x2 h1 h2 hx1 hx2 heq
  · intro b t' cs g1 x y hb h1 hx hy
    by_cases e1 : t' = h.nt
    · subst e1
      rw [hsets] at h1; injection h1 with h1; subst h1
      rw [hTn] at hy; injection hy with hy; subst hy
      intro e2; have e3 : x = blk := e2; subst e3; exact hbox b cs hb hx
    · rw [hset t' e1] at h1
      rw [hTo _ _ (.inl e1)] at hy
      exact r.bt b t' cs g1 x y hb h1 hx hy

/-- Boxes and rows may be forgotten. -/
theorem WR.less (r : WR w0 m w h) (h' : AH) (hb : ∀ b cs, h'.box b = some cs → h.box b = some cs) (ht : ∀ t g, h'.tok t = some g → h.tok t = some g) (hnb : h'.nb = h.nb) (hnt : h'.nt = h.nt) : WR w0 m w h' :=
  ⟨r.below, r.K, by rw [hnb]; exact r.Mlt, by rw [hnb]; exact fun b cs x => r.Blt b cs (hb b cs x), by rw [hnt]; exact r.Tlt, by rw [hnt]; exact fun t g x => r.Klt t g (ht t g x),
    fun b cs x => r.box b cs (hb b cs x), fun t g x => r.tok t g (ht t g x), fun t g x g' a b => r.gens t g x g' a (ht t g' b), fun b b' cs cs' x a c => r.bb b b' cs cs' x (hb _ _ a) (hb _ _ c),
    fun t t' g g' x x' a c => r.tt t t' g g' x x' (ht _ _ a) (ht _ _ c), fun b t cs g x y a c => r.bt b t cs g x y (hb _ _ a) (ht _ _ c), r.past⟩
theorem WR.kill (r : WR w0 m w h) (b : Nat) : WR w0 m w (h.kill b) :=
  r.less _ (fun b' cs x => by
    by_cases e : b' = b
    · subst e
      have : (h.kill b').box b' = none := upd_same _ _ _
      rw [this] at x; cases x
    · rwa [show (h.kill b).box b' = h.box b' from upd_other _ _ _ e] at x) (fun _ _ x => x) rfl rfl
end
end Go.Proofs.YtjdocenbfghglaaGreatDoor.AW
