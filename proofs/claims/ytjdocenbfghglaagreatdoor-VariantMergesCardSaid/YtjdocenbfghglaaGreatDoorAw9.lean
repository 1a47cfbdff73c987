/- AW, part 9: append. -/
import Derived.Test.YtjdocenbfghglaaGreatDoorAw8
set_option linter.unusedSimpArgs false
set_option linter.unusedVariables false
namespace Go.Proofs.YtjdocenbfghglaaGreatDoor.AW
open Go Go.RowKit

def flat (sz n : Nat) (f : Nat → Nat → Value) : List Value := (List.range (n * sz)).map fun q => f (q / sz) (q % sz)
theorem flat_length (sz n : Nat) (f : Nat → Nat → Value) : (flat sz n f).length = n * sz := by simp [flat]
theorem flat_at {sz n i j : Nat} (f : Nat → Nat → Value) (hi : i < n) (hj : j < sz) : (flat sz n f)[i * sz + j]? = some (f i j) := by
  have h1 : i * sz + j < n * sz := by
    have : (i + 1) * sz ≤ n * sz := Nat.mul_le_mul_right _ hi
    rw [Nat.add_mul] at this; omega
  have hp : 0 < sz := by omega
  unfold flat
  rw [List.getElem?_map, List.getElem?_range h1]
  simp only [Option.map_some]
  rw [Nat.mul_comm i sz, Nat.mul_add_div hp, Nat.mul_add_mod, Nat.div_eq_of_lt hj, Nat.mod_eq_of_lt hj, Nat.add_zero]
theorem flat_inv {sz n q : Nat} {f : Nat → Nat → Value} {v : Value} (h : (flat sz n f)[q]? = some v) : v = f (q / sz) (q % sz) ∧ q / sz < n ∧ q % sz < sz ∧ q = q / sz * sz + q % sz := by
  have hl : q < n * sz := by rw [← flat_length sz n f]; exact (List.getElem?_eq_some_iff.1 h).1
  have hp : 0 < sz := by
    rcases Nat.eq_zero_or_pos sz with h0 | h0
    · subst h0; simp at hl
    · exact h0
  unfold flat at h
  rw [List.getElem?_map, List.getElem?_range hl] at h
  simp only [Option.map_some, Option.some.injEq] at h
  refine ⟨h.symm, (Nat.div_lt_iff_lt_mul hp).2 hl, Nat.mod_lt _ hp, ?_⟩
  have := Nat.div_add_mod q sz
  rw [Nat.mul_comm] at this; omega

/-- What a slice's cells are, told once for all: nil or not. -/
structure Row (m : Mem) (sz : Nat) (xs : List AV) (base : Option Addr) (f : Nat → Nat → Value) : Prop where
  len : ∀ (i : Nat) (x : AV), xs[i]? = some x → x.cells.length = sz
  at_ : xs ≠ [] → ∃ blk o, base = some ⟨blk, o, none⟩ ∧ ∀ (i : Nat) (x : AV), xs[i]? = some x → ∀ j, j < sz → m.K blk (o + i * sz + j) = some (f i j)
  rel : ∀ (i : Nat) (x : AV), xs[i]? = some x → ∀ (j : Nat) (c : AV), x.cells[j]? = some c → VR m c (f i j)
theorem VR.row {m : Mem} {tag : Tag} {sz : Nat} {xs : List AV} {v : Value} (h : VR m (.sl tag sz xs) v) : ∃ base cap f, v = .slice base xs.length cap ∧ Row m sz xs base f ∧ xs.length ≤ cap ∧
    ((xs = [] ∧ cap = 0 ∧ ∀ t g, tag ≠ .tok t g) ∨ ∃ blk o, base = some ⟨blk, o, none⟩ ∧ 0 < sz ∧ tagOk m tag blk o xs.length cap sz) := by
  rcases h.sl_inv with ⟨rfl, ⟨a, rfl, _⟩, ht⟩ | ⟨blk, o, cap, f, rfl, h1, h2, h3, h4, h5, h6⟩
  · exact ⟨a, 0, fun _ _ => undef, rfl, ⟨fun i x hx => by simp at hx, fun h => absurd rfl h, fun i x hx => by simp at hx⟩, Nat.le_refl _, .inl ⟨rfl, rfl, ht⟩⟩
  · exact ⟨_, cap, f, rfl, ⟨h3, fun _ => ⟨blk, o, rfl, h4⟩, h5⟩, h2, .inr ⟨blk, o, rfl, h1, h6⟩⟩
theorem Row.mono {m m' : Mem} (hm : m.le m') {sz : Nat} {xs : List AV} {base : Option Addr} {f : Nat → Nat → Value} (h : Row m sz xs base f) : Row m' sz xs base f :=
  ⟨h.len, fun hx => by
    obtain ⟨blk, o, e, hk⟩ := h.at_ hx
    exact ⟨blk, o, e, fun i x hi j hj => hm.K _ _ _ (hk i x hi j hj)⟩, fun i x hi j c hc => (h.rel i x hi j c hc).mono hm⟩

section
variable {P : Program} {te : TE} {w0 : Base} {w : World} {m : Mem} {h : AH}
theorem Row.cells {sz : Nat} {xs : List AV} {base : Option Addr} {f : Nat → Nat → Value} (hr : Row m sz xs base f) (hW : WR w0 m w h) {blk o : Nat} (hb : base = some ⟨blk, o, none⟩) :
    ∀ (q : Nat) (v : Value), (flat sz xs.length f)[q]? = some v → w.cell? ((⟨blk, o, none⟩ : Addr).add q) = some v := by
  intro q v hq
  obtain ⟨e, h1, h2, h3⟩ := flat_inv hq
  have hne : xs ≠ [] := by intro e; subst e; simp at h1
  obtain ⟨b2, o2, e2, hk⟩ := hr.at_ hne
  rw [hb] at e2; injection e2 with e2; injection e2 with e2 e3; subst e2 e3
  have hx : xs[q / sz]? = some xs[q / sz] := List.getElem?_eq_getElem h1
  have := (hW.K _ _ _ (hk _ _ hx _ h2)).1
  rw [add_none, e]
  rw [show o + q = o + q / sz * sz + q % sz by omega]
  exact this
theorem Row.one {sz : Nat} {xs : List AV} {base : Option Addr} {f : Nat → Nat → Value} (hr : Row m sz xs base f) (hW : WR w0 m w h) : ∀ v ∈ flat sz xs.length f, v.oneCell' = true := by
  intro v hv
  obtain ⟨q, hq⟩ := List.mem_iff_getElem?.1 hv
  obtain ⟨e, h1, h2, h3⟩ := flat_inv hq
  have hne : xs ≠ [] := by intro e; subst e; simp at h1
  obtain ⟨b2, o2, e2, hk⟩ := hr.at_ hne
  have hx : xs[q / sz]? = some xs[q / sz] := List.getElem?_eq_getElem h1
  rw [e]
  exact (hW.K _ _ _ (hk _ _ hx _ h2)).2
theorem run_firstCells_row {sz : Nat} {ys : List AV} {base : Option Addr} {f : Nat → Nat → Value} (hr : Row m sz ys base f) (hW : WR w0 m w h) (c : Nat) (hn : base = none → ys = []) (hb : ∀ a, base = some a → ys ≠ [] → a.spot = none) :
    (Builtin.firstCells sz ys.length (.slice base ys.length c)).run P w = .ok (flat sz ys.length f).toArray w := by
  cases base with
  | none =>
    rw [hn rfl]
    simp [Builtin.firstCells, flat]
  | some a =>
    cases ys with
    | nil => simp [Builtin.firstCells, flat, loadCells, loadCellsFrom]
    | cons y ys =>
    obtain ⟨blk, o, sp⟩ := a
    have : sp = none := hb _ rfl (by simp)
    subst this
    exact run_firstCells_some (P := P) w sz (y :: ys).length ⟨blk, o, none⟩ (y :: ys).length c (flat sz (y :: ys).length f) (flat_length _ _ _) (hr.cells hW rfl)

/-- Behind a write of new cells, or in a new block: the value that has both. -/
theorem both_vr {m' : Mem} (hm : m.le m') {sz : Nat} {xs ys : List AV} {bx : Option Addr} {f g : Nat → Nat → Value} (hx : Row m sz xs bx f) (hyl : ∀ (i : Nat) (x : AV), ys[i]? = some x → x.cells.length = sz) (hyr : ∀ (i : Nat) (x : AV), ys[i]? = some x → ∀ (j : Nat) (c : AV), x.cells[j]? = some c → VR m c (g i j)) (hsz : 0 < sz) (tag : Tag) (blk o cap : Nat)
    (hold : ∀ (i : Nat), i < xs.length → ∀ j, j < sz → m'.K blk (o + i * sz + j) = some (f i j)) (hnew : ∀ (i : Nat), i < ys.length → ∀ j, j < sz → m'.K blk (o + (xs.length + i) * sz + j) = some (g i j))
    (hcap : xs.length + ys.length ≤ cap) (ht : tagOk m' tag blk o (xs.length + ys.length) cap sz) :
    VR m' (.sl tag sz (xs ++ ys)) (.slice (some ⟨blk, o, none⟩) (xs.length + ys.length) cap) := by
  have hl : (xs ++ ys).length = xs.length + ys.length := List.length_append
  have e : Value.slice (some ⟨blk, o, none⟩) (xs.length + ys.length) cap = .slice (some ⟨blk, o, none⟩) (xs ++ ys).length cap := by rw [hl]
  rw [e]
  refine .sl tag sz _ blk o cap (fun i j => if i < xs.length then f i j else g (i - xs.length) j) hsz (by omega) ?_ ?_ ?_ (by rw [hl]; exact ht)
  · intro i x hi
    by_cases h1 : i < xs.length
    · rw [List.getElem?_append_left h1] at hi; exact hx.len _ _ hi
    · rw [List.getElem?_append_right (by omega)] at hi; exact hyl _ _ hi
  · intro i x hi j hj
    by_cases h1 : i < xs.length
    · rw [if_pos h1]; exact hold i h1 j hj
    · rw [if_neg h1]
      have hlt : i < (xs ++ ys).length := (List.getElem?_eq_some_iff.1 hi).1
      have := hnew (i - xs.length) (by omega) j hj
      rw [show xs.length + (i - xs.length) = i by omega] at this
      exact this
  · intro i x hi j c hc
    by_cases h1 : i < xs.length
    · simp only [if_pos h1]
      rw [List.getElem?_append_left h1] at hi; exact (hx.rel _ _ hi _ _ hc).mono hm
    · simp only [if_neg h1]
      rw [List.getElem?_append_right (by omega)] at hi; exact (hyr _ _ hi _ _ hc).mono hm

/-- How an append reads: by the elements' own slice, or by a string. -/
structure Appends (P : Program) (w : World) (e : Nat) (sz : Nat) (xt : Nat) (x' : Value) (n : Nat) (news : List Value) : Prop where
  len : news.length = n * sz
  kind : (∃ e', P.underlying xt = some (.slice e')) ∨ P.underlying xt = some .string
  lenOf : ∀ w, (Builtin.lenOf x').run P w = .ok n w
  first : (Builtin.firstCells sz n x').run P w = .ok news.toArray w
  first' : (Builtin.firstCells sz n x').run P w.drew = .ok news.toArray w.drew

theorem run_append_in {t e sz n m0 xt blk o cap : Nat} {i : TypeInfo} {x' : Value} {news : List Value} {arr : Array Value} {ty : TypeId} {fr : Nat × Nat} (ht : P.underlying t = some (.slice e)) (hi : P.info? e = some i) (hs : i.size = sz)
    (ha : Appends P w e sz xt x' m0 news) (hg : w.heap[blk]? = some (.cells arr ty fr)) (hf : fr.1 = fr.2 ∨ arr.size ≤ fr.1) (hfit : o + n * sz + news.length ≤ arr.size) (h1 : ∀ v ∈ news, v.oneCell' = true) (hroom : n + m0 ≤ cap) (tt : TypeId) :
    (Builtin.append_ #[t, xt] tt #[.slice (some ⟨blk, o, none⟩) n cap, x']).run P w = .ok (.slice (some ⟨blk, o, none⟩) (n + m0) cap) (World.putBlk w blk (.cells (splice arr (o + n * sz) news) ty fr)) := by
  have hst := run_storeCells_blk (P := P) blk (o + n * sz) ty fr news 0 arr w hg hf (by simpa using hfit) h1
  simp only [Nat.add_zero] at hst
  rcases ha.kind with ⟨e', hd⟩ | hd <;> simp [Builtin.append_, run_underlying ht, run_underlying hd, sizeOf, typeInfo, hi, hs, ha.lenOf, hroom, ha.first, add_none, hst]

theorem run_append_new {t e sz n m0 xt cap : Nat} {base : Option Addr} {i : TypeInfo} {z : Value} {x' : Value} {olds news : List Value} (ht : P.underlying t = some (.slice e)) (hi : P.info? e = some i) (hs : i.size = sz) (hz : i.zero = some z)
    (ha : Appends P w e sz xt x' m0 news) (hold : (Builtin.firstCells sz n (.slice base n cap)).run P w.drew = .ok olds.toArray w.drew) (hg : cap < n + m0) (h63 : n + m0 ≤ 9223372036854775807) (hnc : n ≤ cap)
    (hb : (n + m0) * i.bytes ≤ 140737488355328) (tt : TypeId) :
    (Builtin.append_ #[t, xt] tt #[.slice base n cap, x']).run P w = .ok (.slice (some ⟨w.heap.size, 0, none⟩) (n + m0) (grownCap w (n + m0) cap e))
      (w.drew.alloc (.cells (olds.toArray ++ news.toArray ++ Builtin.zeroCells z.cells (grownCap w (n + m0) cap e - (n + m0))) e)) := by
  have hn : ¬ (n + m0 ≤ cap) := by omega
  have h63' : ¬ (9223372036854775807 < ((n : Int) + (m0 : Int))) := by omega
  have h48' : ¬ (281474976710656 < Builtin.nextslicecap (n + m0) cap * i.bytes) := by have := growslice_fits hg hb; omega
  rcases ha.kind with ⟨e', hd⟩ | hd <;>
    (simp [Builtin.append_, run_underlying ht, run_underlying hd, sizeOf, typeInfo, zeroValue, hi, hs, hz, ha.lenOf, hn, h63', h48', Question.forced, ha.first', hold, newRow, grownCap]
     congr 2
     apply Array.ext'
     simp)

/-- The values that an append appends. -/
def aelems (te : TE) (xt : Nat) (sz : Nat) (y : AV) : Option (List AV) :=
  match te xt with
  | some i => (match i.k, y with
    | .slice _, .sl _ sz' ys => if ys = [] ∨ sz' = sz then some ys else none
    | .str, .str s => if sz = 1 then some (s.data.toList.map fun b => .int .u8 b.toNat) else none
    | _, _ => none)
  | none => none

theorem aelems_sound (hte : te.ok P) (hW : WR w0 m w h) {xt sz e : Nat} {y : AV} {y' : Value} {ys : List AV} (hy : VR m y y') (hsz : 0 < sz) (hv : aelems te xt sz y = some ys) :
    ∃ (by_ : Option Addr) (g : Nat → Nat → Value), (∀ (i : Nat) (x : AV), ys[i]? = some x → x.cells.length = sz) ∧ (∀ (i : Nat) (x : AV), ys[i]? = some x → ∀ (j : Nat) (c : AV), x.cells[j]? = some c → VR m c (g i j)) ∧
      Appends P w e sz xt y' ys.length (flat sz ys.length g) ∧ ∀ v ∈ flat sz ys.length g, v.oneCell' = true := by
  unfold aelems at hv
  split at hv
  case h_2 => cases hv
  next i hi =>
    split at hv
    · next e' tag sz' ys' hk =>
      split at hv
      case isFalse => cases hv
      next hs =>
        injection hv with hv; subst hv
        have hu := slice_at hte hi hk
        obtain ⟨base, cap, f, rfl, hr, hc, hb⟩ := hy.row
        have hn : base = none → ys' = [] := by
          intro e0
          rcases hb with ⟨h1, _⟩ | ⟨blk, o, h1, _⟩
          · exact h1
          · rw [e0] at h1; cases h1
        have hsp : ∀ a, base = some a → ys' ≠ [] → a.spot = none := by
          intro a e0 hne
          rcases hb with ⟨h1, _⟩ | ⟨blk, o, h1, _⟩
          · exact absurd h1 hne
          · rw [e0] at h1; injection h1 with h1; subst h1; rfl
        rcases hs with rfl | rfl
        · refine ⟨base, f, fun i x hx => by simp at hx, fun i x hx => by simp at hx, ⟨by simp [flat_length], .inl ⟨_, hu⟩, fun w => by simp [Builtin.lenOf], ?_, ?_⟩, fun v hv => by simp [flat] at hv⟩
          · cases base with
            | none => simp [Builtin.firstCells, flat]
            | some a => simp [Builtin.firstCells, flat, loadCells, loadCellsFrom]
          · cases base with
            | none => simp [Builtin.firstCells, flat]
            | some a => simp [Builtin.firstCells, flat, loadCells, loadCellsFrom]
        · exact ⟨base, f, hr.len, hr.rel, ⟨flat_length _ _ _, .inl ⟨_, hu⟩, fun w => by simp [Builtin.lenOf], run_firstCells_row hr hW cap hn hsp, run_firstCells_row hr hW.drew cap hn hsp⟩, hr.one hW⟩
    · next s hk =>
      split at hv
      case isFalse => cases hv
      next hs =>
        injection hv with hv; subst hv hs
        have hu := str_at hte hi hk
        obtain rfl := hy.str_inv
        have hget : ∀ (i : Nat) (x : AV), (s.data.toList.map fun b => AV.int .u8 b.toNat)[i]? = some x → ∃ b : UInt8, s.data.toList[i]? = some b ∧ x = .int .u8 b.toNat := by
          intro i x hx
          rw [List.getElem?_map] at hx
          cases hb : s.data.toList[i]? with
          | none => rw [hb] at hx; cases hx
          | some b => rw [hb] at hx; injection hx with hx; exact ⟨b, rfl, hx.symm⟩
        have hfl : flat 1 (s.data.toList.map fun b => AV.int .u8 b.toNat).length (fun i _ => Value.int .u8 ((s.data.getD i 0).toNat : Int)) = s.data.toList.map fun b => Value.int .u8 b.toNat := by
          apply List.ext_getElem?
          intro q
          by_cases hq : q < s.data.size
          · have h1 := flat_at (sz := 1) (n := (s.data.toList.map fun b => AV.int .u8 b.toNat).length) (i := q) (j := 0) (fun i _ => Value.int .u8 ((s.data.getD i 0).toNat : Int)) (by simpa using hq) (by omega)
            rw [show q * 1 + 0 = q by omega] at h1
            rw [h1, List.getElem?_map]
            have h2 : s.data.toList[q]? = some s.data[q] := by rw [Array.getElem?_toList]; exact Array.getElem?_eq_getElem hq
            rw [h2, Array.getD_eq_getD_getElem?, Array.getElem?_eq_getElem hq]
            rfl
          · have h3 : s.data.toList.length ≤ q := by rw [Array.length_toList]; omega
            rw [List.getElem?_eq_none (by rw [flat_length, List.length_map]; omega), List.getElem?_eq_none (by rw [List.length_map]; omega)]
        have hfc : ∀ w, (Builtin.firstCells 1 (s.data.toList.map fun b => AV.int .u8 b.toNat).length (.string s)).run P w = .ok (s.data.toList.map fun b => Value.int .u8 b.toNat).toArray w := by
          intro w
          have hx : (s.extract 0 (s.data.toList.map fun b => AV.int .u8 b.toNat).length).data = s.data := by
            simp
          simp only [Builtin.firstCells, Sem.run_pure]
          rw [hx]
          congr 1
          apply Array.ext'
          simp
        refine ⟨none, fun i _ => .int .u8 ((s.data.getD i 0).toNat : Int), ?_, ?_, ⟨flat_length _ _ _, .inr hu, fun w => by simp only [Builtin.lenOf, Sem.run_pure, List.length_map, Array.length_toList]; rfl, by rw [hfl]; exact hfc w, by rw [hfl]; exact hfc w.drew⟩, ?_⟩
        · intro i x hx
          obtain ⟨b, _, rfl⟩ := hget i x hx
          rfl
        · intro i x hx j c hc
          obtain ⟨b, hb, rfl⟩ := hget i x hx
          cases j with
          | zero =>
            simp [AV.cells] at hc; subst hc
            have hlt : i < s.data.size := by have := (List.getElem?_eq_some_iff.1 hb).1; rw [Array.length_toList] at this; exact this
            have hb' : s.data[i] = b := by
              rw [Array.getElem?_toList, Array.getElem?_eq_getElem hlt] at hb
              injection hb
            simp only [Array.getD_eq_getD_getElem?, Array.getElem?_eq_getElem hlt, Option.getD_some, hb']
            exact .int _ _
          | succ j => simp [AV.cells] at hc
        · intro v hv
          rw [hfl] at hv
          obtain ⟨b, _, rfl⟩ := List.mem_map.1 hv
          rfl
    · cases hv

end
end Go.Proofs.YtjdocenbfghglaaGreatDoor.AW
