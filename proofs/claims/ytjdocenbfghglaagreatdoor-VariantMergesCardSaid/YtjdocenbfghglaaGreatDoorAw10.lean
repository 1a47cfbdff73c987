/- AW, part 10: append, its law. -/
import Derived.Test.YtjdocenbfghglaaGreatDoorAw9
set_option linter.unusedSimpArgs false
set_option linter.unusedVariables false
namespace Go.Proofs.YtjdocenbfghglaaGreatDoor.AW
open Go Go.RowKit

/-- Where a run ends: a value and a heap. -/
def Gives (P : Program) (w0 : Base) (m : Mem) (w : World) (x : Sem Value) (v : AV) (h' : AH) : Prop :=
  ∃ v' w' m', x.run P w = .ok v' w' ∧ m.le m' ∧ VR m' v v' ∧ WR w0 m' w' h'

def appendTo (h : AH) (sz : Nat) (tag : Tag) (sz0 : Nat) (xs ys : List AV) : Option (AV × AH) :=
  match ys with
  | [] => some (.sl tag sz0 xs, h)
  | _ :: _ => (match tag with
    | .ro => none
    | .full => some (.sl (.tok h.nt 0) sz (xs ++ ys), h.newTok)
    | .tok t g => if h.tok t = some g ∧ sz0 = sz then some (.sl (.tok t (g + 1)) sz (xs ++ ys), h.setTok t (g + 1)) else none)
def aappend (te : TE) (h : AH) (t xt : Nat) (s x : AV) : Option (AV × AH) :=
  match te t with
  | some i => (match i.k, s with
    | .slice e, .sl tag sz xs => (match te e with
      | some ei => (match aelems te xt ei.size x with
        | some ys => if 0 < ei.size ∧ (xs = [] ∨ sz = ei.size) ∧ 0 < ei.bytes ∧ (xs.length + ys.length) * ei.bytes ≤ 140737488355328 then appendTo h ei.size tag sz xs ys else none
        | none => none)
      | none => none)
    | _, _ => none)
  | none => none

section
variable {P : Program} {te : TE} {w0 : Base} {w : World} {m : Mem} {h : AH}

theorem grown_at {arr0 : Array Value} {sz n m0 cap : Nat} {f g : Nat → Nat → Value} {z : Array Value} (hz : z.size = sz) (hsz : 0 < sz) (hcap : n + m0 ≤ cap) (he : arr0 = (flat sz n f).toArray ++ (flat sz m0 g).toArray ++ Builtin.zeroCells z (cap - (n + m0))) :
    arr0.size = cap * sz ∧ (∀ i, i < n → ∀ j, j < sz → arr0[i * sz + j]? = some (f i j)) ∧ (∀ i, i < m0 → ∀ j, j < sz → arr0[(n + i) * sz + j]? = some (g i j)) := by
  have hs : arr0.size = cap * sz := by
    rw [he]; simp [flat_length, size_zeroCells, hz]
    rw [← Nat.add_mul, ← Nat.add_mul]
    congr 1; omega
  have bound : ∀ a b i j : Nat, i < a → a ≤ b → j < sz → i * sz + j < b * sz := by
    intro a b i j h1 h2 h3
    have : (i + 1) * sz ≤ b * sz := Nat.mul_le_mul_right _ (by omega)
    rw [Nat.add_mul] at this; omega
  refine ⟨hs, fun i hi j hj => ?_, fun i hi j hj => ?_⟩
  · have h1 := bound n n i j hi (Nat.le_refl _) hj
    rw [he, Array.append_assoc, Array.getElem?_append_left (by simp [flat_length]; exact h1)]
    simpa using flat_at f hi hj
  · have h1 := bound m0 m0 i j hi (Nat.le_refl _) hj
    have e1 : (n + i) * sz + j = n * sz + (i * sz + j) := by rw [Nat.add_mul]; omega
    rw [he, e1, Array.getElem?_append_left (by simp [flat_length]; omega), Array.getElem?_append_right (by simp [flat_length])]
    simp only [List.size_toArray, flat_length, Nat.add_sub_cancel_left]
    simpa using flat_at g hi hj
theorem grown_one {arr0 : Array Value} {sz n m0 cap : Nat} {f g : Nat → Nat → Value} {z : Array Value} (hz : ∀ j : Nat, j < z.size → (z.getD j undef).oneCell' = true) (h1 : ∀ v ∈ flat sz n f, v.oneCell' = true) (h2 : ∀ v ∈ flat sz m0 g, v.oneCell' = true)
    (he : arr0 = (flat sz n f).toArray ++ (flat sz m0 g).toArray ++ Builtin.zeroCells z (cap - (n + m0))) : ∀ j : Nat, j < n * sz + m0 * sz → (arr0.getD j undef).oneCell' = true := by
  intro j hj
  rw [he, Array.getD_eq_getD_getElem?, Array.getElem?_append_left (by simp [flat_length]; exact hj)]
  by_cases h3 : j < n * sz
  · rw [Array.getElem?_append_left (by simp [flat_length]; exact h3)]
    have hlt : j < (flat sz n f).length := by rw [flat_length]; exact h3
    simp only [List.getElem?_toArray, List.getElem?_eq_getElem hlt, Option.getD_some]
    exact h1 _ (List.getElem_mem hlt)
  · rw [Array.getElem?_append_right (by simp [flat_length]; omega)]
    have hlt : j - n * sz < (flat sz m0 g).length := by rw [flat_length]; omega
    simp only [List.size_toArray, flat_length, List.getElem?_toArray, List.getElem?_eq_getElem hlt, Option.getD_some]
    exact h2 _ (List.getElem_mem hlt)

theorem VR.sz {m : Mem} {tag : Tag} {sz sz' : Nat} {v : Value} (h : VR m (.sl tag sz []) v) (hp : 0 < sz') (ht : ∀ t g, tag ≠ .tok t g) : VR m (.sl tag sz' []) v := by
  rcases h.sl_inv with ⟨_, ⟨a, rfl, _⟩, h1⟩ | ⟨blk, o, cap, f, rfl, h1, h2, h3, h4, h5, h6⟩
  · exact .empty h1 (.inr hp)
  · refine .sl tag sz' [] blk o cap f hp h2 (fun i x hi => by simp at hi) (fun i x hi => by simp at hi) (fun i x hi => by simp at hi) ?_
    cases tag with
    | ro => trivial
    | full => exact h6
    | tok t g => exact absurd rfl (ht t g)

theorem not_live {w0 : Base} {w : World} {m : Mem} {h : AH} (hW : WR w0 m w h) : (∀ b cs, h.box b = some cs → m.M b ≠ some w.heap.size) ∧ ∀ t g x, h.tok t = some g → m.T t g = some x → x.1 ≠ w.heap.size := by
  refine ⟨fun b cs hb e => ?_, fun t g x ht hx e => ?_⟩
  · obtain ⟨blk, arr, ty, fr, q1, q2, q3⟩ := hW.box b cs hb
    rw [e] at q1; injection q1 with q1; subst q1
    have := (Array.getElem?_eq_some_iff.1 q3.here).1
    omega
  · obtain ⟨blk, e2, room, arr, ty, fr, q1, q2, q3⟩ := hW.tok t g ht
    rw [hx] at q1; injection q1 with q1; subst q1
    have := (Array.getElem?_eq_some_iff.1 q3.here).1
    simp at e; omega

theorem aappend_sound (hte : te.ok P) (hW : WR w0 m w h) {t xt tt : Nat} {s x r : AV} {s' x' : Value} {h' : AH} (hs : VR m s s') (hx : VR m x x') (hv : aappend te h t xt s x = some (r, h')) :
    Gives P w0 m w (Builtin.append_ #[t, xt] tt #[s', x']) r h' := by
  unfold aappend at hv
  split at hv
  case h_2 => cases hv
  next i hi =>
  split at hv
  case h_2 => cases hv
  next e tag sz0 xs hk =>
  split at hv
  case h_2 => cases hv
  next ei hei =>
  split at hv
  case h_2 => cases hv
  next ys hys =>
  split at hv
  case isFalse => cases hv
  next hc =>
  obtain ⟨hsz, hxs, hbp, hbytes⟩ := hc
  have hu := slice_at hte hi hk
  obtain ⟨info, d, hinfo, hud, _, hisz, hib⟩ := hte.info hei
  obtain ⟨z, hz, hz1, hz2, hz3, hz4, hz5⟩ := hte.zero hei m
  have hzero : info.zero = some z := by
    have := hz w
    simp [zeroValue, typeInfo, hinfo] at this
    cases hzz : info.zero with
    | none => rw [hzz] at this; simp [unsupported] at this
    | some z' => rw [hzz] at this; simp at this; rw [this]
  obtain ⟨by_, g, hy1, hy2, happ, hy3⟩ := aelems_sound (e := e) hte hW hx hsz hys
  obtain ⟨base, cap, f, rfl, hr, hcap, hb⟩ := hs.row
  have h63 : xs.length + ys.length ≤ 9223372036854775807 := by
    have : xs.length + ys.length ≤ (xs.length + ys.length) * ei.bytes := Nat.le_mul_of_pos_right _ hbp
    omega
  have hib' : (xs.length + ys.length) * info.bytes ≤ 140737488355328 := by rw [hib]; exact hbytes
  -- the old slice's cells, as its elements have the size of the type's
  have hr' : Row m ei.size xs base f := by
    rcases hxs with rfl | rfl
    · exact ⟨fun i x hx => by simp at hx, fun h => absurd rfl h, fun i x hx => by simp at hx⟩
    · exact hr
  have hn : base = none → xs = [] := by
    intro e0
    rcases hb with ⟨h1, _⟩ | ⟨blk, o, h1, _⟩
    · exact h1
    · rw [e0] at h1; cases h1
  have hsp : ∀ a, base = some a → xs ≠ [] → a.spot = none := by
    intro a e0 hne
    rcases hb with ⟨h1, _⟩ | ⟨blk, o, h1, _⟩
    · exact absurd h1 hne
    · rw [e0] at h1; injection h1 with h1; subst h1; rfl
  unfold appendTo at hv
  split at hv
  · -- nothing is appended
    injection hv with hv; injection hv with e1 e2; subst e1 e2
    refine ⟨.slice base xs.length cap, w, m, ?_, Mem.le.refl m, ?_, hW⟩
    · have hfl : flat ei.size ([] : List AV).length g = [] := by simp [flat]
      have h1 := happ.first
      rw [hfl] at h1
      have h1' : (Builtin.firstCells ei.size 0 x').run P w = .ok #[] w := by simpa using h1
      rcases happ.kind with ⟨e', hd⟩ | hd <;> cases base <;> simp [Builtin.append_, run_underlying hu, run_underlying hd, sizeOf, typeInfo, hinfo, hisz, happ.lenOf, hcap, h1', storeCells]
    · exact hs
  · next y ys' =>
    split at hv
    · cases hv
    · -- no room, or nil: a new row
      injection hv with hv; injection hv with e1 e2; subst e1 e2
      have hfull : cap = xs.length := by
        rcases hb with ⟨h1, h2, _⟩ | ⟨blk, o, _, _, h2⟩
        · subst h1; simpa using h2
        · exact h2
      have hcge := grownCap_ge w (xs.length + (y :: ys').length) cap e
      have hrun := run_append_new (P := P) (w := w) (tt := tt) hu hinfo hisz hzero happ (run_firstCells_row hr' hW.drew cap hn hsp) (by simp; omega) h63 hcap hib'
      generalize hcc : grownCap w (xs.length + (y :: ys').length) cap e = cc at hrun hcge
      generalize harr : (flat ei.size xs.length f).toArray ++ (flat ei.size (y :: ys').length g).toArray ++ Builtin.zeroCells z.cells (cc - (xs.length + (y :: ys').length)) = arr at hrun
      obtain ⟨a1, a2, a3⟩ := grown_at hz2 hsz hcge harr.symm
      have aone := grown_one hz5 (hr'.one hW) hy3 harr.symm
      have hW1 : WR w0 m (w.drew.alloc (.cells arr e)) h := hW.drew.alloc _
      obtain ⟨nl1, nl2⟩ := not_live hW
      have hKn : ∀ o, m.K w.heap.size o = none := by
        intro o
        cases hk : m.K w.heap.size o with
        | none => rfl
        | some v => exact absurd (hW.Klt' hk) (by omega)
      have hhere : (w.drew.alloc (.cells arr e)).heap[w.heap.size]? = some (.cells arr e (0, 0)) := heap_alloc_new w.drew _
      have hfits : xs.length * ei.size + (y :: ys').length * ei.size ≤ cc * ei.size := by rw [← Nat.add_mul]; exact Nat.mul_le_mul_right _ hcge
      obtain ⟨m1, l1, k1, k2, k3, k4, hW2⟩ := hW1.newTok (blk := w.heap.size) (e := xs.length * ei.size + (y :: ys').length * ei.size) (room := cc * ei.size) (arr := arr) (ty := e) (fr := (0, 0)) hW.size_le
        ⟨hhere, .inl rfl, ⟨hfits, by omega⟩, fun o _ => hKn o⟩ nl1 nl2
      obtain ⟨l2, hW3⟩ := hW2.commit w.heap.size 0 (xs.length * ei.size + (y :: ys').length * ei.size) arr e (0, 0) hhere hW.size_le (fun b cs hb => by rw [k2]; exact nl1 b cs hb)
        (fun t' g' x' ht' hT' hx1 => by
          by_cases e1 : t' = h.nt
          · subst e1
            have : h.newTok.tok h.nt = some 0 := upd_same _ _ _
            rw [this] at ht'; injection ht' with ht'; subst ht'
            rw [k3] at hT'; injection hT' with hT'; subst hT'
            exact Nat.le_refl _
          · have ht2 : h.tok t' = some g' := by rw [← upd_other h.tok h.nt (some 0) e1]; exact ht'
            rw [k4 t' g' e1] at hT'
            exact absurd hx1 (nl2 t' g' x' ht2 hT'))
        (fun j _ hj => aone j hj) (fun o v hk => by rw [k1, hKn o] at hk; cases hk)
      refine ⟨_, _, _, hrun, (l1.trans l2), ?_, hW3⟩
      have hle := l1.trans l2
      have bound : ∀ a i j : Nat, i < a → j < ei.size → i * ei.size + j < a * ei.size := by
        intro a i j h1 h3
        have : (i + 1) * ei.size ≤ a * ei.size := Nat.mul_le_mul_right _ (by omega)
        rw [Nat.add_mul] at this; omega
      exact both_vr hle hr' hy1 hy2 hsz (.tok h.nt 0) w.heap.size 0 cc
        (fun i hi j hj => by
          have := bound _ i j hi hj
          rw [Mem.commit_at _ _ _ _ _ (by omega) (by omega), Nat.zero_add]; exact a2 i hi j hj)
        (fun i hi j hj => by
          have := bound _ i j hi hj
          rw [Mem.commit_at _ _ _ _ _ (by omega) (by rw [Nat.add_mul]; omega), Nat.zero_add]; exact a3 i hi j hj)
        hcge (by
          show m1.T h.nt 0 = _
          rw [k3, Nat.zero_add, Nat.zero_add, Nat.add_mul])
    · next tk gk =>
      split at hv
      case isFalse => cases hv
      next hlive =>
      obtain ⟨hlive, rfl⟩ := hlive
      injection hv with hv; injection hv with e1 e2; subst e1 e2
      have bound : ∀ a i j : Nat, i < a → j < ei.size → i * ei.size + j < a * ei.size := by
        intro a i j h1 h3
        have : (i + 1) * ei.size ≤ a * ei.size := Nat.mul_le_mul_right _ (by omega)
        rw [Nat.add_mul] at this; omega
      rcases hb with ⟨_, _, hne⟩ | ⟨blk, o, rfl, _, htag⟩
      · exact absurd rfl (hne _ _)
      have htag' : m.T tk gk = some (blk, o + xs.length * ei.size, o + cap * ei.size) := htag
      obtain ⟨bk, e2, room, arr0, ty, fr, q1, q2, q3⟩ := hW.tok tk gk hlive
      rw [htag'] at q1; injection q1 with q1; injection q1 with q1 q1'; injection q1' with q1' q1''; subst q1 q1' q1''
      have tokne : ∀ t' g' x, t' ≠ tk → h.tok t' = some g' → m.T t' g' = some x → x.1 ≠ blk := fun t' g' x hne ht hT e => hne (hW.tt t' tk g' gk x _ ht hlive hT htag' e)
      have boxne : ∀ b cs, h.box b = some cs → m.M b ≠ some blk := fun b cs hb e => hW.bt b tk cs gk blk _ hb hlive e htag' rfl
      by_cases hroom : xs.length + (y :: ys').length ≤ cap
      · -- in place
        have hmul : xs.length * ei.size + (y :: ys').length * ei.size ≤ cap * ei.size := by rw [← Nat.add_mul]; exact Nat.mul_le_mul_right _ hroom
        have hfit : o + xs.length * ei.size + (flat ei.size (y :: ys').length g).length ≤ arr0.size := by rw [flat_length]; have := q3.fits.2; omega
        have hrun := run_append_in (P := P) (w := w) (tt := tt) hu hinfo hisz happ q3.here q3.free hfit hy3 hroom
        have hget := splice_get (flat ei.size (y :: ys').length g) arr0 (o + xs.length * ei.size)
        have hsize := splice_size (flat ei.size (y :: ys').length g) arr0 (o + xs.length * ei.size)
        generalize hsp2 : splice arr0 (o + xs.length * ei.size) (flat ei.size (y :: ys').length g) = arr1 at hrun hget hsize
        have hlt : blk < w.heap.size := (Array.getElem?_eq_some_iff.1 q3.here).1
        have hW1 := hW.putTok hlive htag' q3.here hsize (fun j hj => by rw [hget j hfit, if_neg (by omega)])
        have hhere : (World.putBlk w blk (.cells arr1 ty fr)).heap[blk]? = some (.cells arr1 ty fr) := putBlk_same _ _ _ hlt
        obtain ⟨m1, l1, k1, k2, k3, k4, hW2⟩ := hW1.bump (blk := blk) (e := o + xs.length * ei.size + (y :: ys').length * ei.size) (room := o + cap * ei.size) (arr := arr1) (ty := ty) (fr := fr) hlive q2
          ⟨hhere, by rw [hsize]; exact q3.free, ⟨by omega, by rw [hsize]; exact q3.fits.2⟩, fun o' ho' => q3.apart o' (by omega)⟩ boxne tokne
        have hone : ∀ j : Nat, o + xs.length * ei.size ≤ j → j < o + xs.length * ei.size + (y :: ys').length * ei.size → (arr1.getD j undef).oneCell' = true := by
          intro j h1 hj
          rw [Array.getD_eq_getD_getElem?, hget j hfit, if_pos (by rw [flat_length]; omega)]
          have hlt2 : j - (o + xs.length * ei.size) < (flat ei.size (y :: ys').length g).length := by rw [flat_length]; omega
          rw [List.getElem?_eq_getElem hlt2]
          exact hy3 _ (List.getElem_mem hlt2)
        obtain ⟨l2, hW3⟩ := hW2.commit blk (o + xs.length * ei.size) (o + xs.length * ei.size + (y :: ys').length * ei.size) arr1 ty fr hhere q2 (fun b cs hb => by rw [k2]; exact boxne b cs hb)
          (fun t' g' x' ht' hT' hx1 => by
            by_cases e1 : t' = tk
            · subst e1
              have : (h.setTok t' (gk + 1)).tok t' = some (gk + 1) := upd_same _ _ _
              rw [this] at ht'; injection ht' with ht'; subst ht'
              rw [k3] at hT'; injection hT' with hT'; subst hT'
              exact Nat.le_refl _
            · have ht2 : h.tok t' = some g' := by rw [← upd_other h.tok tk (some (gk + 1)) e1]; exact ht'
              rw [k4 t' g' e1] at hT'
              exact absurd hx1 (tokne t' g' x' e1 ht2 hT'))
          hone (fun o' v hk => by
            rw [k1] at hk
            have h2 := hW.K _ _ _ hk
            rw [cell_of_blk q3.here] at h2
            have ho' : o' < o + xs.length * ei.size := by
              rcases Nat.lt_or_ge o' (o + xs.length * ei.size) with h1 | h1
              · exact h1
              · rw [q3.apart o' h1] at hk; cases hk
            rw [hget o' hfit, if_neg (by omega)]; exact h2.1)
        have hle := l1.trans l2
        refine ⟨_, _, _, hrun, hle, ?_, hW3⟩
        refine both_vr hle hr' hy1 hy2 hsz (.tok tk (gk + 1)) blk o cap ?_ ?_ hroom ?_
        · intro i hi j hj
          obtain ⟨b3, o3, e3, hk3⟩ := hr'.at_ (by intro e; subst e; simp at hi)
          injection e3 with e3; injection e3 with e3 e4; subst e3 e4
          exact hle.K _ _ _ (hk3 i _ (List.getElem?_eq_getElem hi) j hj)
        · intro i hi j hj
          have hb1 := bound _ i j hi hj
          have e5 : o + (xs.length + i) * ei.size + j = o + xs.length * ei.size + (i * ei.size + j) := by rw [Nat.add_mul]; omega
          rw [e5, Mem.commit_at _ _ _ _ _ (by omega) (by omega), hget _ hfit, if_pos (by rw [flat_length]; omega), Nat.add_sub_cancel_left]
          exact flat_at g hi hj
        · show m1.T tk (gk + 1) = _
          have e6 : o + (xs.length + (y :: ys').length) * ei.size = o + xs.length * ei.size + (y :: ys').length * ei.size := by rw [Nat.add_mul]; omega
          rw [k3, e6]
      · -- a new row
        have hcge := grownCap_ge w (xs.length + (y :: ys').length) cap e
        have hrun := run_append_new (P := P) (w := w) (tt := tt) hu hinfo hisz hzero happ (run_firstCells_row hr' hW.drew cap hn hsp) (by omega) h63 hcap hib'
        generalize hcc : grownCap w (xs.length + (y :: ys').length) cap e = cc at hrun hcge
        generalize harr : (flat ei.size xs.length f).toArray ++ (flat ei.size (y :: ys').length g).toArray ++ Builtin.zeroCells z.cells (cc - (xs.length + (y :: ys').length)) = arr at hrun
        obtain ⟨a1, a2, a3⟩ := grown_at hz2 hsz hcge harr.symm
        have aone := grown_one hz5 (hr'.one hW) hy3 harr.symm
        have hW1 : WR w0 m (w.drew.alloc (.cells arr e)) h := hW.drew.alloc _
        obtain ⟨nl1, nl2⟩ := not_live hW
        have hKn : ∀ o, m.K w.heap.size o = none := by
          intro o
          cases hk : m.K w.heap.size o with
          | none => rfl
          | some v => exact absurd (hW.Klt' hk) (by omega)
        have hhere : (w.drew.alloc (.cells arr e)).heap[w.heap.size]? = some (.cells arr e (0, 0)) := heap_alloc_new w.drew _
        have hfits : xs.length * ei.size + (y :: ys').length * ei.size ≤ cc * ei.size := by rw [← Nat.add_mul]; exact Nat.mul_le_mul_right _ hcge
        obtain ⟨m1, l1, k1, k2, k3, k4, hW2⟩ := hW1.bump (blk := w.heap.size) (e := xs.length * ei.size + (y :: ys').length * ei.size) (room := cc * ei.size) (arr := arr) (ty := e) (fr := (0, 0)) hlive hW.size_le
          ⟨hhere, .inl rfl, ⟨hfits, by omega⟩, fun o _ => hKn o⟩ nl1 (fun t' g' x _ => nl2 t' g' x)
        obtain ⟨l2, hW3⟩ := hW2.commit w.heap.size 0 (xs.length * ei.size + (y :: ys').length * ei.size) arr e (0, 0) hhere hW.size_le (fun b cs hb => by rw [k2]; exact nl1 b cs hb)
          (fun t' g' x' ht' hT' hx1 => by
            by_cases e1 : t' = tk
            · subst e1
              have : (h.setTok t' (gk + 1)).tok t' = some (gk + 1) := upd_same _ _ _
              rw [this] at ht'; injection ht' with ht'; subst ht'
              rw [k3] at hT'; injection hT' with hT'; subst hT'
              exact Nat.le_refl _
            · have ht2 : h.tok t' = some g' := by rw [← upd_other h.tok tk (some (gk + 1)) e1]; exact ht'
              rw [k4 t' g' e1] at hT'
              exact absurd hx1 (nl2 t' g' x' ht2 hT'))
          (fun j _ hj => aone j hj) (fun o v hk => by rw [k1, hKn o] at hk; cases hk)
        have hle := l1.trans l2
        refine ⟨_, _, _, hrun, hle, ?_, hW3⟩
        exact both_vr hle hr' hy1 hy2 hsz (.tok tk (gk + 1)) w.heap.size 0 cc
          (fun i hi j hj => by
            have := bound _ i j hi hj
            rw [Mem.commit_at _ _ _ _ _ (by omega) (by omega), Nat.zero_add]; exact a2 i hi j hj)
          (fun i hi j hj => by
            have := bound _ i j hi hj
            rw [Mem.commit_at _ _ _ _ _ (by omega) (by rw [Nat.add_mul]; omega), Nat.zero_add]; exact a3 i hi j hj)
          hcge (by
            show m1.T tk (gk + 1) = _
            rw [k3, Nat.zero_add, Nat.zero_add, Nat.add_mul])
end
end Go.Proofs.YtjdocenbfghglaaGreatDoor.AW
