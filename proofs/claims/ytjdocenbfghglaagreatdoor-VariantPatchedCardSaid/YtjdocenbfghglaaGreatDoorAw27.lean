/- AW, part 27: a slice's capacity is looked at; whether two slices overlap; a box that is given away. -/
import Derived.Test.YtjdocenbfghglaaGreatDoorAw26
import GoSem.Extern.SlicesOverlaps
import Derived.Laws.Externs
set_option linter.unusedSimpArgs false
set_option linter.unusedVariables false
namespace Go.Proofs.YtjdocenbfghglaaGreatDoor.AW
open Go Go.RowKit

def deads (d : Nat) : List AV := List.replicate d .dead
theorem deads_length (d : Nat) : (deads d).length = d := by simp [deads]
/-- A box's room, told. -/
theorem WR.longer {w0 : Base} {w : World} {m : Mem} {h : AH} (hW : WR w0 m w h) {b : Nat} {cs : List AV} (hb : h.box b = some cs) : ∃ d, WR w0 m w (h.set b (cs ++ deads d)) ∧ m.C b ≤ cs.length + d := by
  obtain ⟨blk, arr, ty, fr, q1, q2, q3⟩ := hW.box b cs hb
  have hs := q3.size
  have hlt := (Array.getElem?_eq_some_iff.1 q3.here).1
  refine ⟨arr.size - cs.length, ?_, by have := q3.cap; omega⟩
  have := hW.setBoxF (cs' := cs ++ deads (arr.size - cs.length)) (arr' := arr) (fr' := fr) hb q1 q3.here rfl (by rw [List.length_append, deads_length]; omega) (fun j c hj => by
    by_cases hj1 : j < cs.length
    · rw [List.getElem?_append_left hj1] at hj; exact q3.rel j c hj
    · rw [List.getElem?_append_right (by omega)] at hj
      have : c = .dead := by
        unfold deads at hj
        rw [List.getElem?_replicate] at hj
        split at hj
        · injection hj with hj; exact hj.symm
        · cases hj
      subst this
      exact .dead _) q3.one q3.free q3.nomark
  rwa [putBlk_self w blk _ q3.here] at this

/-- A function is handed a slice of a box: its capacity may be looked at. -/
theorem ACalls.opn {P : Program} {f : FuncId} {b o n sz : Nat} {rest : List AV} {h : AH} {cs : List AV} {R : AOut → AH → Prop} (hb : h.box b = some cs)
    (hk : ∀ c d, n ≤ c → o + c * sz ≤ cs.length + d → ACalls P f (.mc b o n c sz :: rest) (h.set b (cs ++ deads d)) R) : ACalls P f (.ms b o n sz :: rest) h R := by
  intro w0 m w args' h1 h2 hW
  have h0 := h2 0 _ rfl
  obtain ⟨blk, cap, a, e, g1, g2, g3, g4⟩ := h0.ms_inv'
  obtain ⟨d, hW', hd⟩ := hW.longer hb
  refine hk cap d g3 (by omega) w0 m w args' (by simpa using h1) (fun i c hi => ?_) hW'
  cases i with
  | zero =>
    injection hi with hi; subst hi
    rw [e]
    exact .mc _ _ _ _ _ blk a g1 g2 g3 g4
  | succ i => exact h2 (i + 1) c (by simpa using hi)

theorem run_overlaps_box {P : Program} (w : World) (tS tR e : TypeId) (ht : P.underlying tS = some (.slice e)) (size : Nat) (hz : ∀ w, (Go.sizeOf e).run P w = .ok size w)
    (a b : Addr) (la ca lb cb : Nat) (hne : a.block ≠ b.block) (tA tB : TypeId) (kA kB : Nat)
    (hsa : w.shape? a.block = some (tA, kA)) (hsb : w.shape? b.block = some (tB, kB)) (hkA : kA ≠ 0)
    (hfa : w.frozen? b = false) (hfe : w.frozen? { block := b.block, off := kB } = false) :
    (Extern.SlicesOverlaps.overlaps #[tS, tS] #[tR] #[.slice (some a) la ca, .slice (some b) lb cb]).run P w = .ok (.bool false) w := by
  have hnb : (a.block != b.block) = true := by simpa using hne
  have hnb' : (a.block == b.block) = false := by simpa using hne
  change Sem.run P (α := Value) (do
    let some t := (#[tS, tS] : Array TypeId)[0]? | stuck "slices.overlaps: no parameter types"
    let .slice elem ← underlying t | stuck "slices.overlaps: slice type expected"
    let size ← sizeOf elem
    match (some a : Option Addr), (some b : Option Addr) with
    | some a, some b =>
      if la = 0 ∨ lb = 0 ∨ size = 0 then pure (Value.bool false)
      else if a.block != b.block && (← frozen a) && (← frozen b) then unsupported .addressObserved
      else do
        if a.block != b.block then do
          noView a; noView b
          if ← mayBeOne a b then return Value.bool ((← choose (.extern "sameAddr.stringBytes" 2)) == 1)
        pure (Value.bool (a.block == b.block && a.off < b.off + lb * size && b.off < a.off + la * size))
    | _, _ => pure (Value.bool false)) w = _
  by_cases h0 : la = 0 ∨ lb = 0 ∨ size = 0
  · simp [run_underlying ht, hz, h0]
  · cases kA with
    | zero => exact absurd rfl hkA
    | succ kA =>
      cases h1 : w.frozen? a <;> cases h2 : w.frozen? { block := a.block, off := kA + 1 } <;>
        simp [run_underlying ht, hz, h0, hnb, hnb', frozen, noView, viewAt, mayBeOne, stringish, shape, Sem.run, hsa, hsb, hfa, hfe, h1, h2]

theorem run_overlaps_none {P : Program} (w : World) (tS tR e : TypeId) (ht : P.underlying tS = some (.slice e)) (size : Nat) (hz : ∀ w, (Go.sizeOf e).run P w = .ok size w) (a : Addr) (b : Option Addr) (la ca cb : Nat) :
    (Extern.SlicesOverlaps.overlaps #[tS, tS] #[tR] #[.slice (some a) la ca, .slice b 0 cb]).run P w = .ok (.bool false) w := by
  change Sem.run P (α := Value) (do
    let some t := (#[tS, tS] : Array TypeId)[0]? | stuck "slices.overlaps: no parameter types"
    let .slice elem ← underlying t | stuck "slices.overlaps: slice type expected"
    let size ← sizeOf elem
    match (some a : Option Addr), b with
    | some a, some b =>
      if la = 0 ∨ 0 = 0 ∨ size = 0 then pure (Value.bool false)
      else if a.block != b.block && (← frozen a) && (← frozen b) then unsupported .addressObserved
      else do
        if a.block != b.block then do
          noView a; noView b
          if ← mayBeOne a b then return Value.bool ((← choose (.extern "sameAddr.stringBytes" 2)) == 1)
        pure (Value.bool (a.block == b.block && a.off < b.off + 0 * size && b.off < a.off + la * size))
    | _, _ => pure (Value.bool false)) w = _
  cases b <;> simp [run_underlying ht, hz]
theorem overlaps_false (hmk : allowMark = false) {P : Program} {te : TE} {w0 : Base} {w : World} {m : Mem} {h : AH} (hte : te.ok P) (hW : WR w0 m w h) {t tR e : Nat} {s1 b1 : Nat} {z1 : List ZC} {ei : TI} (hi : te t = some ⟨.slice e, s1, b1, z1⟩) (hei : te e = some ei)
    {tag : Tag} {sz sz' b o n c : Nat} {xs cs : List AV} (hne : xs ≠ []) (hb : h.box b = some cs) {c1 c2 : Value} (h1 : VR m (.sl tag sz xs) c1) (h2 : VR m (.mc b o n c sz') c2) :
    (Extern.SlicesOverlaps.overlaps #[t, t] #[tR] #[c1, c2]).run P w = .ok (.bool false) w := by
  have hu := slice_at hte hi rfl
  obtain ⟨blk2, a2, rfl, hM, ha, hn, hroom⟩ := h2.mc_inv
  rcases h1.sl_inv with ⟨e0, _⟩ | ⟨blk, o1, cap, f, rfl, g1, g2, g3, g4, g5, g6⟩
  · exact absurd e0 hne
  by_cases hn0 : n = 0
  · subst hn0
    exact run_overlaps_none w t tR e hu ei.size (run_sizeOf hte hei) _ _ _ _ _
  · rw [ha (by omega)]
    obtain ⟨bk, arr, ty, fr, q1, q2, q3⟩ := hW.box b cs hb
    rw [hM] at q1; injection q1 with q1; subst q1
    have hlen : 0 < xs.length := List.length_pos_iff.2 hne
    have hk := g4 0 _ (List.getElem?_eq_getElem hlen) 0 g1
    have hblk : blk ≠ blk2 := fun e => by rw [e, q3.apart] at hk; cases hk
    have hcell := (hW.K _ _ _ hk).1
    have hshape : ∃ tA kA, w.shape? blk = some (tA, kA) ∧ kA ≠ 0 := by
      unfold World.cell? at hcell
      unfold World.shape?
      split at hcell
      · next cc ty2 fr2 hh =>
        refine ⟨ty2, cc.size, by simp only at hh; rw [hh], ?_⟩
        simp only [Option.isSome_none, Bool.false_eq_true, if_false] at hcell
        have := (Array.getElem?_eq_some_iff.1 hcell).1
        omega
      · cases hcell
    obtain ⟨tA, kA, hsa, hkA⟩ := hshape
    have hfr := q3.nomark hmk
    have hfz : ∀ off, w.frozen? ⟨blk2, off, none⟩ = false := by
      intro off
      obtain ⟨lo, hi⟩ := fr
      simp only [World.frozen?, q3.here]
      simp at hfr
      simp
      omega
    exact run_overlaps_box w t tR e hu ei.size (run_sizeOf hte hei) _ _ _ _ _ _ hblk tA ty kA arr.size hsa (by simp [World.shape?, q3.here]) hkA (hfz _) (hfz _)
theorem ACalls.give {P : Program} {f : FuncId} {args : List AV} {h : AH} {b sz : Nat} {ys : List AV} (hsz : 0 < sz) (hys : ys ≠ []) (hl : ∀ x ∈ ys, x.cells.length = sz) (hu : AV.underL 0 0 ys = true)
    (hc : ACalls P f args h fun out h2 => ∃ b' rest v, out = .ret v ∧ v.low = .ms b' 0 ys.length sz ∧ h2.box b' = some (ys.flatMap AV.cells ++ rest) ∧ (b' = b ∨ h.nb ≤ b') ∧ (∀ b2, b2 < h.nb → b2 ≠ b → h2.box b2 = h.box b2) ∧ (∀ t, t < h.nt → h2.tok t = h.tok t)) :
    ACalls P f args h fun out h2 => out = .ret (.sl .ro sz ys) ∧ h2 = h.kill b := by
  intro w0 m w args' h1 h2 hW
  refine (hc w0 m w args' h1 h2 hW).mono ?_
  rintro e w' ⟨m', out, h2', q1, q2, q3, b', rest, v, rfl, g1, g2, g3, g4, g5⟩
  cases e with
  | returned c =>
    have q2' : VR m' v c := q2
    have q4 := q2'.low
    rw [g1] at q4
    obtain ⟨m3, l3, W3, hv⟩ := q3.freeze g2 (fun i x hi => hl x (List.mem_of_getElem? hi)) hsz hys
    have hs := hW.isScoped
    obtain ⟨l4, W4⟩ := hW.cut (q1.trans l3) W3 (h' := h.kill b) ⟨rfl, rfl, fun z cs hz => by
      rw [kill_box] at hz
      split at hz
      · cases hz
      · next hne =>
        have hzn := hs.box z cs hz
        refine ⟨?_, .inl hz⟩
        rw [kill_box, if_neg (by rcases g3 with e | e <;> omega), g4 z hzn hne]; exact hz, fun t g ht => by
      have ht' : h.tok t = some g := ht
      exact ⟨(g5 t (hs.tok t g ht')).trans ht', hs.tok t g ht'⟩⟩
    refine ⟨_, _, _, l4, ?_, W4, rfl, rfl⟩
    exact (hv c q4).cutTo (by show AV.underL h.nb h.nt ys = true; exact AV.underL_mono hu)
  | panicked c => exact q2.elim
  | outgrown => exact q2.elim

theorem flatCells_len {sz : Nat} : ∀ {xs : List AV}, (∀ x ∈ xs, x.cells.length = sz) → (xs.flatMap AV.cells).length = xs.length * sz := by
  intro xs
  induction xs with
  | nil => intro _; simp
  | cons x xs ih =>
    intro h
    rw [List.flatMap_cons, List.length_append, h x (by simp), ih (fun y hy => h y (by simp [hy])), List.length_cons, Nat.add_mul]; omega
theorem flatCells_split {sz : Nat} {xs : List AV} (h : ∀ x ∈ xs, x.cells.length = sz) (i : Nat) (hi : i ≤ xs.length) : xs.flatMap AV.cells = (xs.take i).flatMap AV.cells ++ (xs.drop i).flatMap AV.cells ∧ ((xs.take i).flatMap AV.cells).length = i * sz ∧ ((xs.drop i).flatMap AV.cells).length = (xs.length - i) * sz := by
  refine ⟨by rw [← List.flatMap_append, List.take_append_drop], ?_, ?_⟩
  · rw [flatCells_len (fun x hx => h x (List.mem_of_mem_take hx)), List.length_take, Nat.min_eq_left hi]
  · rw [flatCells_len (fun x hx => h x (List.mem_of_mem_drop hx)), List.length_drop]
theorem VR.ms_nil {m : Mem} {b o sz : Nat} {v : Value} (hz : 0 < sz) (h : VR m (.ms b o 0 sz) v) : VR m (.sl .ro sz []) v := by
  obtain ⟨blk, cap, a, rfl, h1, h2, h3, h4⟩ := h.ms_inv'
  by_cases hc : 0 < cap
  · rw [h2 hc]
    exact .sl .ro sz [] blk o cap (fun _ _ => undef) hz (Nat.zero_le _) (fun i x hi => by cases hi) (fun i x hi => by cases hi) (fun i x hi => by cases hi) trivial
  · obtain rfl : cap = 0 := by omega
    cases a with
    | none => exact .slnil .ro sz (fun _ _ e => by cases e)
    | some a => exact .slemp .ro sz a hz (fun _ _ e => by cases e)
theorem ACalls.giveE {P : Program} {f : FuncId} {args : List AV} {h : AH} {b sz : Nat} {ys : List AV} (hsz : 0 < sz) (hl : ∀ x ∈ ys, x.cells.length = sz) (hu : AV.underL 0 0 ys = true)
    (hc : ACalls P f args h fun out h2 => ∃ b' rest v, out = .ret v ∧ v.low = .ms b' 0 ys.length sz ∧ h2.box b' = some (ys.flatMap AV.cells ++ rest) ∧ (b' = b ∨ h.nb ≤ b') ∧ (∀ b2, b2 < h.nb → b2 ≠ b → h2.box b2 = h.box b2) ∧ (∀ t, t < h.nt → h2.tok t = h.tok t)) :
    ACalls P f args h fun out h2 => out = .ret (.sl .ro sz ys) ∧ h2 = h.kill b := by
  by_cases hys : ys = []
  · subst hys
    intro w0 m w args' h1 h2 hW
    refine (hc w0 m w args' h1 h2 hW).mono ?_
    rintro e w' ⟨m', out, h2', q1, q2, q3, b', rest, v, rfl, g1, g2, g3, g4, g5⟩
    cases e with
    | returned c =>
      have q2' : VR m' v c := q2
      have q4 := q2'.low
      rw [g1] at q4
      have hs := hW.isScoped
      obtain ⟨l4, W4⟩ := hW.cut q1 q3 (h' := h.kill b) ⟨rfl, rfl, fun z cs hz => by
        rw [kill_box] at hz
        split at hz
        · cases hz
        · next hne =>
          have hzn := hs.box z cs hz
          exact ⟨by rw [g4 z hzn hne]; exact hz, .inl hz⟩, fun t g ht => by
        have ht' : h.tok t = some g := ht
        exact ⟨(g5 t (hs.tok t g ht')).trans ht', hs.tok t g ht'⟩⟩
      refine ⟨_, _, _, l4, ?_, W4, rfl, rfl⟩
      exact (q4.ms_nil hsz).cutTo rfl
    | panicked c => exact q2.elim
    | outgrown => exact q2.elim
  · exact ACalls.give hsz hys hl hu hc
end Go.Proofs.YtjdocenbfghglaaGreatDoor.AW
