/- AW, part 10 (c): make; bytes and strings. -/
import Derived.Test.YtjdocenbfghglaaGreatDoorAw106
set_option linter.unusedSimpArgs false
set_option linter.unusedVariables false
namespace Go.Proofs.YtjdocenbfghglaaGreatDoor.AW
open Go Go.RowKit

/-- make([]T, l, c) -/
def amake (te : TE) (h : AH) (t : Nat) (l c : AV) : Option (AV × AH) :=
  match te t with
  | some ⟨.slice e, _, _, _⟩ => (match te e with
    | some ei => (match l, c with
      | .int _ l, .int _ c => if 0 < ei.size ∧ 0 < ei.bytes ∧ 0 ≤ l ∧ l ≤ c ∧ c * ei.bytes ≤ 140737488355328 then some (.ms h.nb 0 l.toNat ei.size, h.new (zeros ei.av.cells l.toNat)) else none
      | _, _ => none)
    | none => none)
  | _ => none
def avB : List AV → Option (List UInt8)
  | [] => some []
  | .int .u8 n :: r => if 0 ≤ n ∧ n < 256 then (match avB r with | some l => some (UInt8.ofNat n.toNat :: l) | none => none) else none
  | _ => none
/-- string(x) -/
def acvS (te : TE) (h : AH) (src dst : Nat) (x : AV) : Option AV :=
  match te src, te dst with
  | some ⟨.slice e, _, _, _⟩, some ⟨.str, _, _, _⟩ => (match te e with
    | some ⟨.int .u8, _, _, _⟩ => (match cellsOf h 1 x with
      | some (_, ys) => (match avB ys with
        | some bs => some (.str ⟨⟨bs⟩⟩)
        | none => none)
      | none => none)
    | _ => none)
  | _, _ => none
/-- []byte(x) -/
def acvB (te : TE) (h : AH) (src dst : Nat) (x : AV) : Option (AV × AH) :=
  match te src, te dst with
  | some ⟨.str, _, _, _⟩, some ⟨.slice e, _, _, _⟩ => (match te e with
    | some ⟨.int .u8, _, _, _⟩ => (match x with
      | .str s => if allowMark = true then some (.ms h.nb 0 s.size 1, h.new (s.data.toList.map fun b => .int .u8 b.toNat)) else none
      | _ => none)
    | _ => none)
  | _, _ => none

section
variable {P : Program} {te : TE} {w0 : Base} {w : World} {m : Mem} {h : AH}
theorem amake_sound (hte : te.ok P) (hW : WR w0 m w h) {t : Nat} {l c v : AV} {l' c' : Value} {h' : AH} (hl : VR m l l') (hc : VR m c c') (hv : amake te h t l c = some (v, h')) :
    Gives P w0 m w (Instr.makeSlice t l' c') v h' := by
  unfold amake at hv
  split at hv
  case h_2 => cases hv
  next e s1 b1 z1 hi =>
  split at hv
  case h_2 => cases hv
  next ei hei =>
  split at hv
  case h_2 => cases hv
  next k1 l k2 c =>
  split at hv
  case isFalse => cases hv
  next hcond =>
  obtain ⟨hsz, hbt, hl0, hlc, hroom⟩ := hcond
  injection hv with hv; injection hv with e1 e2; subst e1 e2
  obtain rfl := hl.int_inv
  obtain rfl := hc.int_inv
  have hu := slice_at hte hi rfl
  obtain ⟨info, d, hinfo, hud, _, hisz, hib⟩ := hte.info hei
  obtain ⟨z, hz0, hz1, hz2, hz3, hz4, hz5⟩ := hte.zero hei m
  have hcb : c ≤ 140737488355328 := by
    have : c * 1 ≤ c * (ei.bytes : Int) := Int.mul_le_mul_of_nonneg_left (by omega) (by omega)
    omega
  have hwl : IntKind.i64.wrap l = l := by
    simp only [IntKind.wrap, IntKind.bits, IntKind.signed, Bool.true_and, decide_eq_true_eq, Int.reducePow, Nat.reduceSub]
    split <;> (rename_i hx; simp only [ge_iff_le, decide_eq_true_eq] at hx; omega)
  have hwc : IntKind.i64.wrap c = c := by
    simp only [IntKind.wrap, IntKind.bits, IntKind.signed, Bool.true_and, decide_eq_true_eq, Int.reducePow, Nat.reduceSub]
    split <;> (rename_i hx; simp only [ge_iff_le, decide_eq_true_eq] at hx; omega)
  have hbig : ¬ ((ei.bytes : Int) * c > 2 ^ 48) := by rw [Int.mul_comm]; omega
  have hroomN : ¬ (c.toNat * ei.bytes > roomBytes) := by
    have h1 : ((c.toNat * ei.bytes : Nat) : Int) = c * ei.bytes := by rw [Int.natCast_mul, Int.toNat_of_nonneg (by omega)]
    have h2 : roomBytes = 140737488355328 := by decide
    omega
  let arr : Array Value := (Array.range (c.toNat * ei.size)).map fun q => z.cells.getD (q % ei.size) undef
  have harr : arr.size = c.toNat * ei.size := by simp [arr]
  have hrun : (Instr.makeSlice t (.int k1 l) (.int k2 c)).run P w = .ok (.slice (some ⟨w.heap.size, 0, none⟩) l.toNat c.toNat) (w.alloc (.cells arr e)) := by
    have hneg : ¬ (c < 0) := by omega
    have hneg2 : ¬ (l < 0) := by omega
    have hgt : ¬ (l > c) := by omega
    have hz' : (fun i => z.cells[i % z.cells.size]!) = fun q => z.cells.getD (q % ei.size) undef := by
      funext q
      have hm : q % ei.size < z.cells.size := by rw [hz2]; exact Nat.mod_lt _ hsz
      rw [hz2, getElem!_pos z.cells _ hm, Array.getD_eq_getD_getElem?, Array.getElem?_eq_getElem hm]; rfl
    simp only [Instr.makeSlice, Sem.run_bind, run_underlying hu, Result.andThen_ok, asInt, asIntOf, Sem.run_map, Sem.run_pure, typeInfo, run_program, hinfo]
    simp only [Sem.run_bind, Sem.run_pure, Result.andThen_ok, hwl, hwc, hib]
    rw [if_neg (by simp only [hneg, hneg2, hgt, hbig, decide_false, Bool.or_false, Bool.false_eq_true, not_false_eq_true])]
    simp only [Sem.run_bind, askRoom, if_neg hroomN, Sem.run_pure, Result.andThen_ok, run_sizeOf hte hei]
    by_cases hn0 : c.toNat * ei.size = 0
    · have hae : arr = #[] := Array.eq_empty_of_size_eq_zero (by omega)
      rw [if_pos hn0]
      simp only [Sem.run_pure, Result.andThen_ok, hae, hn0]
      have h00 : ∀ f : Nat → Value, Array.map f (Array.range 0) = #[] := fun f => Array.eq_empty_of_size_eq_zero (by simp)
      simp only [h00]
      simp [newRow]
    · rw [if_neg hn0]
      simp only [Sem.run_bind, hz0, Sem.run_pure, Result.andThen_ok]
      rw [hz']
      simp [newRow, arr]
  have hlcN : l.toNat * ei.size ≤ c.toNat * ei.size := Nat.mul_le_mul_right _ (by omega)
  obtain ⟨hzr1, hzr2⟩ := zeros_rel hz2 hz3 hsz hz4 hz5 l.toNat (fun q => z.cells.getD (q % ei.size) undef) (fun q _ => rfl)
  have harrq : ∀ q, q < c.toNat * ei.size → arr.getD q undef = z.cells.getD (q % ei.size) undef := by
    intro q hq
    simp [arr, Array.getD_eq_getD_getElem?, hq]
  obtain ⟨m', l1, k1', kC, hW1⟩ := hW.newBox (zeros ei.av.cells l.toNat) arr e (by rw [zeros_length, hz3, harr]; exact hlcN) (fun j c hj => by
    have hlt : j < l.toNat * ei.size := by have := (List.getElem?_eq_some_iff.1 hj).1; rw [zeros_length, hz3] at this; exact this
    have := hzr1 j c hj
    rw [List.getD_eq_getElem?_getD, List.getElem?_map, List.getElem?_range hlt] at this
    rw [harrq j (by omega)]; exact this) (fun j hj => by
    rw [harr] at hj
    rw [harrq j hj]
    exact hz5 _ (by rw [hz2]; exact Nat.mod_lt _ hsz))
  exact ⟨_, _, m', hrun, l1, .ms _ _ _ _ _ _ _ k1' (fun _ => rfl) (by omega) (by rw [kC, harr, Nat.zero_add]; exact Nat.le_refl _), hW1⟩

theorem avB_spec : ∀ {ys : List AV} {bs : List UInt8}, avB ys = some bs → ys.length = bs.length ∧ ∀ (j : Nat) (c : AV), ys[j]? = some c → ∃ n : Int, c = .int .u8 n ∧ bs[j]? = some (UInt8.ofNat n.toNat) := by
  intro ys
  induction ys with
  | nil => intro bs h; simp [avB] at h; subst h; exact ⟨rfl, fun j c h => by simp at h⟩
  | cons y ys ih =>
    intro bs hh
    unfold avB at hh
    split at hh
    · next hx => cases hx
    · next n r hx =>
      injection hx with e1 e2; subst e1 e2
      split at hh
      case isFalse => cases hh
      split at hh
      · next l hl =>
        injection hh with hh; subst hh
        obtain ⟨g1, g2⟩ := ih hl
        refine ⟨by simp [g1], fun j c hc => ?_⟩
        cases j with
        | zero => simp at hc; exact ⟨n, hc.symm, rfl⟩
        | succ j => exact g2 j c (by simpa using hc)
      · cases hh
    · cases hh
theorem fold_push : ∀ (ns : List Int) (s : ByteArray), (ns.foldl (fun (r : ByteArray) n => r.push (UInt8.ofNat n.toNat)) s).data.toList = s.data.toList ++ ns.map fun n => UInt8.ofNat n.toNat := by
  intro ns
  induction ns with
  | nil => intro s; simp
  | cons n ns ih => intro s; rw [List.foldl_cons, ih]; simp [ByteArray.push]
theorem acvS_sound (hte : te.ok P) (hW : WR w0 m w h) {src dst : Nat} {x v : AV} {x' : Value} (hx : VR m x x') (hv : acvS te h src dst x = some v) : ∃ v', (convert src dst x').run P w = .ok v' w ∧ VR m v v' := by
  unfold acvS at hv
  split at hv
  case h_2 => cases hv
  next e s1 b1 z1 s2 b2 z2 hi hd =>
  split at hv
  case h_2 => cases hv
  next s3 b3 z3 hei =>
  split at hv
  case h_2 => cases hv
  next n ys hc =>
  split at hv
  case h_2 => cases hv
  next bs hbs =>
  injection hv with hv; subst hv
  have hu := slice_at hte hi rfl
  have hud := str_at hte hd rfl
  have hue : P.underlying e = some (.int .u8) := by
    obtain ⟨info, d, _, h2, h3, _, _⟩ := hte.info hei
    cases d <;> simp [AT.fits] at h3
    subst h3; exact h2
  obtain ⟨L, hR⟩ := cellsOf_sound (P := P) hW (Nat.succ_pos 0) hx hc
  obtain ⟨a, c, rfl, han⟩ := hR.form
  obtain ⟨g1, g2⟩ := avB_spec hbs
  have hlen : ys.length = n := by have := hR.len; omega
  have hlenL : L.length = n := by have := hR.lenL; omega
  refine ⟨_, ?_, .str _⟩
  rw [run_convert_bytes_string w src dst e a n c hu hue hud]
  cases a with
  | none =>
    have := han rfl
    subst this
    have : bs = [] := List.eq_nil_of_length_eq_zero (by omega)
    subst this
    simp [Conv.bytesToString]; rfl
  | some a =>
    have hns : ∃ ns : List Int, L = ns.map (Value.int .u8) ∧ bs = ns.map fun n => UInt8.ofNat n.toNat := by
      refine ⟨ys.map fun c => match c with | .int _ n => n | _ => 0, List.ext_getElem? fun j => ?_, List.ext_getElem? fun j => ?_⟩
      · rw [List.map_map, List.getElem?_map]
        cases hy : ys[j]? with
        | none => rw [List.getElem?_eq_none (by have := List.getElem?_eq_none_iff.1 hy; omega)]; rfl
        | some c =>
          obtain ⟨q, rfl, _⟩ := g2 j c hy
          have := hR.rel j _ hy
          have hlt : j < L.length := by have := (List.getElem?_eq_some_iff.1 hy).1; omega
          rw [List.getD_eq_getElem?_getD, List.getElem?_eq_getElem hlt] at this
          rw [List.getElem?_eq_getElem hlt]
          exact congrArg some this.int_inv
      · rw [List.map_map, List.getElem?_map]
        cases hy : ys[j]? with
        | none => rw [List.getElem?_eq_none (by have := List.getElem?_eq_none_iff.1 hy; omega)]; rfl
        | some c =>
          obtain ⟨q, rfl, hq⟩ := g2 j c hy
          rw [hq]; rfl
    obtain ⟨ns, e1, e2⟩ := hns
    have hload : (loadCells a n).run P w = .ok (ns.map (Value.int .u8)).toArray w := by
      have := hR.first n (Nat.le_refl _)
      simp only [Builtin.firstCells, Nat.mul_one] at this
      rw [this, e1, List.take_of_length_le (by rw [← e1]; omega)]
    rw [run_bytesToString w a n c ns hload]
    congr 2
    apply ByteArray.ext
    apply Array.toList_inj.1
    rw [fold_push, e2]; rfl
theorem acvB_sound (hte : te.ok P) (hW : WR w0 m w h) {src dst : Nat} {x v : AV} {x' : Value} {h' : AH} (hx : VR m x x') (hv : acvB te h src dst x = some (v, h')) : Gives P w0 m w (convert src dst x') v h' := by
  unfold acvB at hv
  split at hv
  case h_2 => cases hv
  next s2 b2 z2 e s1 b1 z1 hi hd =>
  split at hv
  case h_2 => cases hv
  next s3 b3 z3 hei =>
  split at hv
  case h_2 => cases hv
  next s =>
  split at hv
  case isFalse => cases hv
  next hmk =>
  injection hv with hv; injection hv with e1 e2; subst e1 e2
  obtain rfl := hx.str_inv
  have hu := str_at hte hi rfl
  have hud := slice_at hte hd rfl
  have hue : P.underlying e = some (.int .u8) := by
    obtain ⟨info, d, _, h2, h3, _, _⟩ := hte.info hei
    cases d <;> simp [AT.fits] at h3
    subst h3; exact h2
  have hrun := Lib.run_convert_string_bytes (P := P) w src dst e s hu hud hue
  have hcge := grownCap_ge w s.size 0 e
  generalize hcc : grownCap w s.size 0 e = cc at hrun hcge
  have hcells : Lib.bytesCells w e s = (s.data.map fun b => Value.int .u8 b.toNat) ++ Array.replicate (cc - s.size) (.int .u8 0) := by unfold Lib.bytesCells; rw [hcc]
  have hsize : (Lib.bytesCells w e s).size = s.size + (cc - s.size) := by rw [hcells]; simp
  have hone : ∀ j : Nat, j < (Lib.bytesCells w e s).size → ((Lib.bytesCells w e s).getD j undef).oneCell' = true := by
    intro j hj
    have hmem : (Lib.bytesCells w e s)[j] ∈ Lib.bytesCells w e s := Array.getElem_mem hj
    rw [Array.getD_eq_getD_getElem?, Array.getElem?_eq_getElem hj, Option.getD_some]
    generalize (Lib.bytesCells w e s)[j] = v at hmem
    rw [hcells] at hmem
    rcases Array.mem_append.1 hmem with h1 | h1
    · obtain ⟨b, _, rfl⟩ := Array.mem_map.1 h1; rfl
    · have := (Array.mem_replicate.1 h1).2; subst this; rfl
  have hrel : ∀ (j : Nat) (c : AV), (s.data.toList.map fun b => AV.int .u8 b.toNat)[j]? = some c → VR m c ((Lib.bytesCells w e s).getD j undef) := by
    intro j c hj
    rw [List.getElem?_map] at hj
    cases hb : s.data.toList[j]? with
    | none => rw [hb] at hj; cases hj
    | some b =>
      rw [hb] at hj; injection hj with hj; subst hj
      have hlt : j < s.data.size := by have := (List.getElem?_eq_some_iff.1 hb).1; simpa using this
      rw [Array.getD_eq_getD_getElem?, hcells, Array.getElem?_append_left (by simpa using hlt), Array.getElem?_map]
      have : s.data[j]? = some b := by rw [← Array.getElem?_toList]; exact hb
      rw [this]; exact .int _ _
  obtain ⟨m', l1, k1, kC, hW1⟩ := hW.drew.newBox (s.data.toList.map fun b => AV.int .u8 b.toNat) (Lib.bytesCells w e s) e (by rw [hsize]; simp) hrel hone
  have hb1 : (h.new (s.data.toList.map fun b => AV.int .u8 b.toNat)).box h.nb = some (s.data.toList.map fun b => AV.int .u8 b.toNat) := upd_same _ _ _
  have hM1 : m'.M h.nb = some w.heap.size := k1
  have hhere : (w.drew.alloc (.cells (Lib.bytesCells w e s) e)).heap[w.heap.size]? = some (.cells (Lib.bytesCells w e s) e (0, 0)) := heap_alloc_new w.drew _
  have hW2 := hW1.setBoxF (fr' := ((Lib.bytesCells w e s).size, (Lib.bytesCells w e s).size + 1)) hb1 hM1 hhere rfl (by rw [hsize]; simp) (fun j c hj => (hrel j c hj).mono l1) hone (.inr (Nat.le_refl _)) (fun hx => by rw [hmk] at hx; cases hx)
  have hset : (h.new (s.data.toList.map fun b => AV.int .u8 b.toNat)).set h.nb (s.data.toList.map fun b => AV.int .u8 b.toNat) = h.new (s.data.toList.map fun b => AV.int .u8 b.toNat) := by
    unfold AH.set AH.new
    simp only [AH.mk.injEq, and_self, and_true]
    funext q
    by_cases hq : q = h.nb
    · subst hq; rw [upd_same, upd_same]
    · rw [upd_other _ _ _ hq]
  rw [hset] at hW2
  have hworld : Lib.bytesWorld w e s = World.putBlk (w.drew.alloc (.cells (Lib.bytesCells w e s) e)) w.heap.size (.cells (Lib.bytesCells w e s) e ((Lib.bytesCells w e s).size, (Lib.bytesCells w e s).size + 1)) := by
    have hh : (Lib.bytesWorld w e s).heap = (World.putBlk (w.drew.alloc (.cells (Lib.bytesCells w e s) e)) w.heap.size (.cells (Lib.bytesCells w e s) e ((Lib.bytesCells w e s).size, (Lib.bytesCells w e s).size + 1))).heap := by
      apply Array.ext_getElem?
      intro j
      rcases Nat.lt_trichotomy j w.heap.size with hj | hj | hj
      · rw [Lib.bytesWorld_at_old w e s j hj, putBlk_other _ _ _ _ (by omega), Below.heap_alloc w.drew _ j hj]; rfl
      · subst hj
        rw [Lib.bytesWorld_at_new, putBlk_same _ _ _ (by exact (Array.getElem?_eq_some_iff.1 hhere).1)]
      · rw [Array.getElem?_eq_none (by rw [Lib.bytesWorld_size]; omega), Array.getElem?_eq_none (by
          rw [putBlk_size]
          have : (w.drew.alloc (.cells (Lib.bytesCells w e s) e)).heap.size = w.heap.size + 1 := by simp [World.alloc, World.drew, -World.alloc_eq, -World.drew_eq]
          omega)]
    unfold Lib.bytesWorld World.freeze World.putBlk at hh ⊢
    rw [if_neg (by decide)] at hh ⊢
    simp only at hh
    simp only [hh]
  refine ⟨_, _, m', hrun, l1, .ms _ _ _ _ _ cc _ hM1 (fun _ => rfl) hcge (by rw [kC, hsize, Nat.zero_add, Nat.mul_one]; omega), ?_⟩
  rw [hworld]; exact hW2
end
end Go.Proofs.YtjdocenbfghglaaGreatDoor.AW
