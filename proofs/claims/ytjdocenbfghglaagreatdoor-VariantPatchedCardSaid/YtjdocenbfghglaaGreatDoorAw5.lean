/- AW, part 5: operations that only compute. -/
import Derived.Test.YtjdocenbfghglaaGreatDoorAw4
set_option linter.unusedSimpArgs false
set_option linter.unusedVariables false
namespace Go.Proofs.YtjdocenbfghglaaGreatDoor.AW
open Go Go.RowKit

abbrev AS := Nat → AV
structure SR (m : Mem) (N : Nat) (s : AS) (a : Act) : Prop where
  size : a.tmps.size = N
  defers : a.defers = []
  rel : ∀ t : Nat, VR m (s t) (a.tmps.getD t undef)
theorem SR.mono {m m' : Mem} {N : Nat} {s : AS} {a : Act} (h : SR m N s a) (hm : m.le m') : SR m' N s a := ⟨h.size, h.defers, fun t => (h.rel t).mono hm⟩
theorem SR.put {m : Mem} {N : Nat} {s : AS} {a : Act} (h : SR m N s a) {d : Nat} (hd : d < N) {v : AV} {v' : Value} (hv : VR m v v') : SR m N (upd s d v) (a.put (some d) v') := by
  refine ⟨by simp [Act.put, h.size], by simp [Act.put, h.defers], fun t => ?_⟩
  by_cases e : t = d
  · subst e
    rw [upd_same]
    have hlt : t < a.tmps.size := by rw [h.size]; exact hd
    simpa [Act.put, Array.getD_eq_getD_getElem?, hlt] using hv
  · rw [upd_other _ _ _ e]
    have := h.rel t
    simpa [Act.put, Array.getD_eq_getD_getElem?, Array.getElem?_setIfInBounds, Ne.symm e] using this

def avOf1 : Value → AV
  | .int k n => .int k n
  | .bool b => .bool b
  | .string s => .str s
  | .pointer none => .nilp
  | .slice none 0 0 => .sl .full 0 []
  | .nilFunc => .nilf
  | .nilIface => .nili
  | _ => .dead
def avOf : Value → AV
  | .agg cs => .agg (cs.toList.map avOf1)
  | v => avOf1 v
theorem avOf1_vr (m : Mem) (v : Value) : VR m (avOf1 v) v := by
  unfold avOf1
  split <;> first
    | exact .int _ _
    | exact .bool _
    | exact .str _
    | exact .nilp
    | exact .slnil _ _ (fun _ _ e => by cases e)
    | exact .nilf
    | exact .nili
    | exact .dead _
theorem avOf_vr (m : Mem) (v : Value) : VR m (avOf v) v := by
  unfold avOf
  split
  · next cs =>
    refine .agg _ _ (by simp) (fun i c hi => ?_)
    rw [List.getElem?_map] at hi
    cases hx : cs.toList[i]? with
    | none => rw [hx] at hi; cases hi
    | some x =>
      rw [hx] at hi; injection hi with hi; subst hi
      have : cs[i]? = some x := by simpa using hx
      rw [Array.getD_eq_getD_getElem?, this]
      exact avOf1_vr m x
  · exact avOf1_vr m v

def ev (s : AS) : Operand → AV
  | .tmp t => s t
  | .const v => avOf v
  | .global _ => .dead
  | .func f => .fn (.func f) [] []
theorem SR.ev {m : Mem} {N : Nat} {s : AS} {a : Act} (h : SR m N s a) (x : Operand) : VR m (ev s x) (a.eval x) := by
  cases x with
  | tmp t => exact h.rel t
  | const v => exact avOf_vr m v
  | global g => exact .dead _
  | func f => exact .fn _ _ _ _ _ rfl rfl (fun i c hi => by simp at hi) (fun i c hi => by simp at hi)

/-! What the relation says of each form. -/
section
variable {m : Mem}
theorem VR.int_inv {k : IntKind} {n : Int} {v : Value} (h : VR m (.int k n) v) : v = .int k n := by cases h; rfl
theorem VR.bool_inv {b : Bool} {v : Value} (h : VR m (.bool b) v) : v = .bool b := by cases h; rfl
theorem VR.str_inv {s : ByteArray} {v : Value} (h : VR m (.str s) v) : v = .string s := by cases h; rfl
theorem VR.nili_inv {v : Value} (h : VR m .nili v) : v = .nilIface := by cases h; rfl
theorem VR.ptr_inv {b o : Nat} {v : Value} (h : VR m (.ptr b o) v) : ∃ blk, v = .pointer (some ⟨blk, o, none⟩) ∧ m.M b = some blk := by
  cases h with | ptr _ _ blk h => exact ⟨blk, rfl, h⟩
theorem VR.agg_inv {cs : List AV} {v : Value} (h : VR m (.agg cs) v) : ∃ cs' : Array Value, v = .agg cs' ∧ cs'.size = cs.length ∧ ∀ (i : Nat) (c : AV), cs[i]? = some c → VR m c (cs'.getD i undef) := by
  cases h with | agg _ cs' h1 h2 => exact ⟨cs', rfl, h1, h2⟩
theorem VR.tup_inv {cs : List AV} {v : Value} (h : VR m (.tup cs) v) : ∃ cs' : Array Value, v = .tuple cs' ∧ cs'.size = cs.length ∧ ∀ (i : Nat) (c : AV), cs[i]? = some c → VR m c (cs'.getD i undef) := by
  cases h with | tup _ cs' h1 h2 => exact ⟨cs', rfl, h1, h2⟩
theorem VR.iface_inv {t : TypeId} {x : AV} {v : Value} (h : VR m (.iface t x) v) : ∃ v', v = .iface t v' ∧ VR m x v' := by
  cases h with | iface _ _ v' h => exact ⟨v', rfl, h⟩
theorem VR.sl_inv {tag : Tag} {sz : Nat} {xs : List AV} {v : Value} (h : VR m (.sl tag sz xs) v) :
    (xs = [] ∧ (∃ a : Option Addr, v = .slice a 0 0 ∧ (a = none ∨ 0 < sz)) ∧ ∀ t g, tag ≠ .tok t g) ∨ ∃ (blk o cap : Nat) (f : Nat → Nat → Value), v = .slice (some ⟨blk, o, none⟩) xs.length cap ∧ 0 < sz ∧ xs.length ≤ cap ∧
      (∀ (i : Nat) (x : AV), xs[i]? = some x → x.cells.length = sz) ∧ (∀ (i : Nat) (x : AV), xs[i]? = some x → ∀ j, j < sz → m.K blk (o + i * sz + j) = some (f i j)) ∧
      (∀ (i : Nat) (x : AV), xs[i]? = some x → ∀ (j : Nat) (c : AV), x.cells[j]? = some c → VR m c (f i j)) ∧ tagOk m tag blk o xs.length cap sz := by
  cases h with
  | slnil _ _ h => exact .inl ⟨rfl, ⟨none, rfl, .inl rfl⟩, h⟩
  | slemp _ _ a hz h => exact .inl ⟨rfl, ⟨some a, rfl, .inr hz⟩, h⟩
  | sl _ _ _ blk o cap f h1 h2 h3 h4 h5 h6 => exact .inr ⟨blk, o, cap, f, rfl, h1, h2, h3, h4, h5, h6⟩
theorem VR.ms_inv' {b o n sz : Nat} {v : Value} (h : VR m (.ms b o n sz) v) : ∃ (blk cap : Nat) (a : Option Addr), v = .slice a n cap ∧ m.M b = some blk ∧ (0 < cap → a = some ⟨blk, o, none⟩) ∧ n ≤ cap ∧ o + cap * sz ≤ m.C b := by
  cases h with | ms _ _ _ _ blk cap a h1 h2 h3 h4 => exact ⟨blk, cap, a, rfl, h1, h2, h3, h4⟩
theorem VR.ms_inv {b o n sz : Nat} {v : Value} (h : VR m (.ms b o n sz) v) : ∃ (blk cap : Nat) (a : Option Addr), v = .slice a n cap ∧ m.M b = some blk ∧ (0 < n → a = some ⟨blk, o, none⟩) ∧ n ≤ cap := by
  obtain ⟨blk, cap, a, h0, h1, h2, h3, _⟩ := h.ms_inv'
  exact ⟨blk, cap, a, h0, h1, fun hp => h2 (by omega), h3⟩
theorem VR.mc_inv {b o n c sz : Nat} {v : Value} (h : VR m (.mc b o n c sz) v) : ∃ (blk : Nat) (a : Option Addr), v = .slice a n c ∧ m.M b = some blk ∧ (0 < c → a = some ⟨blk, o, none⟩) ∧ n ≤ c ∧ o + c * sz ≤ m.C b := by
  cases h with | mc _ _ _ _ _ blk a h1 h2 h3 h4 => exact ⟨blk, a, rfl, h1, h2, h3, h4⟩
/-- The capacity is forgotten. -/
theorem VR.forget {b o n c sz : Nat} {v : Value} (h : VR m (.mc b o n c sz) v) : VR m (.ms b o n sz) v := by
  cases h with | mc _ _ _ _ _ blk a h1 h2 h3 h4 => exact .ms _ _ _ _ blk c a h1 h2 h3 h4
theorem VR.rptr_inv {cs : List AV} {v : Value} (h : VR m (.rptr cs) v) : ∃ (blk o : Nat) (f : Nat → Value), v = .pointer (some ⟨blk, o, none⟩) ∧ (∀ (j : Nat) (c : AV), cs[j]? = some c → m.K blk (o + j) = some (f j)) ∧ ∀ (j : Nat) (c : AV), cs[j]? = some c → VR m c (f j) := by
  cases h with | rptr _ blk o f h1 h2 => exact ⟨blk, o, f, rfl, h1, h2⟩
theorem VR.fn_inv {f : Fn} {first cap : List AV} {v : Value} (h : VR m (.fn f first cap) v) : ∃ first' cap' : Array Value, v = .func f first' cap' ∧ first'.size = first.length ∧ cap'.size = cap.length ∧
    (∀ (i : Nat) (c : AV), first[i]? = some c → VR m c (first'.getD i undef)) ∧ ∀ (i : Nat) (c : AV), cap[i]? = some c → VR m c (cap'.getD i undef) := by
  cases h with | fn _ _ _ f' c' h1 h2 h3 h4 => exact ⟨f', c', rfl, h1, h2, h3, h4⟩
end

theorem VR.empty {m : Mem} {tag : Tag} {sz : Nat} {a : Option Addr} (ht : ∀ t g, tag ≠ .tok t g) (ha : a = none ∨ 0 < sz) : VR m (.sl tag sz []) (.slice a 0 0) := by
  cases a with
  | none => exact .slnil _ _ ht
  | some a => exact .slemp _ _ a (ha.resolve_left (by simp)) ht
/-- One cell of a value that is no struct. -/
def AV.one : AV → Bool
  | .agg _ => false
  | .tup _ => false
  | .opt _ _ => false
  | .dead => false
  | _ => true
theorem VR.one {m : Mem} {c : AV} {v : Value} (h : VR m c v) (h1 : c.one = true) : v.oneCell' = true ∧ c.cells = [c] ∧ v.cells = #[v] := by
  cases h <;> first | exact ⟨rfl, rfl, rfl⟩ | cases h1
theorem VR.cells {m : Mem} {c : AV} {v : Value} (h : VR m c v) (h1 : c.cells.all AV.one = true) : v.cells.size = c.cells.length ∧ (∀ (j : Nat) (x : AV), c.cells[j]? = some x → VR m x (v.cells.getD j undef)) ∧
    ∀ j : Nat, j < v.cells.size → (v.cells.getD j undef).oneCell' = true := by
  by_cases hag : ∃ cs, c = .agg cs
  · obtain ⟨cs, rfl⟩ := hag
    obtain ⟨cs', rfl, hs, hr⟩ := h.agg_inv
    refine ⟨hs, hr, fun j hj => ?_⟩
    change j < cs'.size at hj
    have hlt : j < cs.length := by omega
    have hx := hr j cs[j] (List.getElem?_eq_getElem hlt)
    exact (hx.one (by
      have := List.all_eq_true.1 h1 cs[j] (List.getElem_mem hlt)
      exact this)).1
  · have hc : c.cells = [c] := by
      cases c <;> first | rfl | exact absurd ⟨_, rfl⟩ hag
    have h2 : c.one = true := by rw [hc] at h1; simpa using h1
    obtain ⟨a1, a2, a3⟩ := h.one h2
    rw [a3, hc]
    refine ⟨rfl, fun j x hj => ?_, fun j hj => ?_⟩
    · cases j with
      | zero => simp at hj; subst hj; exact h
      | succ j => simp at hj
    · have : j = 0 := by simp at hj; omega
      subst this; exact a1

/-! Reading. -/
def aload (te : TE) (t : Nat) (p : AV) (h : AH) : Option AV :=
  match te t with
  | none => none
  | some i => match p with
    | .ptr b o => match h.box b with
      | some cs => takeAs i (cs.drop o)
      | none => none
    | .rptr cs => takeAs i cs
    | _ => none
section
variable {P : Program} {te : TE} {w0 : Base} {w : World} {m : Mem} {h : AH}
theorem aload_sound (hte : te.ok P) (hW : WR w0 m w h) {t : Nat} {p v : AV} {p' : Value} (hp : VR m p p') (hv : aload te t p h = some v) :
    ∃ v', (Instr.loadAt t p').run P w = .ok v' w ∧ VR m v v' := by
  unfold aload at hv
  split at hv
  · cases hv
  · next i hi =>
    split at hv
    · next b o =>
      obtain ⟨blk, rfl, hM⟩ := hp.ptr_inv
      split at hv
      · next cs hb =>
        obtain ⟨bk, arr, ty, fr, q1, q2, q3⟩ := hW.box b cs hb
        rw [hM] at q1; injection q1 with q1; subst q1
        obtain ⟨v', h1, h2⟩ := run_loadVar_at (w := w) hte hi (m := m) (blk := blk) (o := o) (cs := cs.drop o) (f := fun j => arr.getD (o + j) undef)
          (fun j c hj => by
            rw [List.getElem?_drop] at hj
            have hlt : o + j < cs.length := (List.getElem?_eq_some_iff.1 hj).1
            have hlt2 : o + j < arr.size := by have := q3.size; omega
            rw [cell_of_blk q3.here]
            simp [Array.getD_eq_getD_getElem?, hlt2])
          (fun j c hj => by rw [List.getElem?_drop] at hj; exact q3.rel _ _ hj) hv
        exact ⟨v', by simpa [Instr.loadAt, Instr.sureAddr] using h1, h2⟩
      · cases hv
    · next cs =>
      obtain ⟨blk, o, f, rfl, h1, h2⟩ := hp.rptr_inv
      obtain ⟨v', h3, h4⟩ := run_loadVar_at (w := w) hte hi (m := m) (blk := blk) (o := o) (cs := cs) (f := f) (fun j c hj => (hW.K _ _ _ (h1 j c hj)).1) h2 hv
      exact ⟨v', by simpa [Instr.loadAt, Instr.sureAddr] using h3, h4⟩
    · cases hv

/-! Addresses. -/
def afield (te : TE) (t : Nat) (p : AV) (k : Nat) : Option AV :=
  match te t with
  | some ⟨.struct fs, _, _, _⟩ => match fs[k]? with
    | some (off, ft) => match te ft with
      | some i => if i.size = 0 then none else match p with
        | .ptr b o => some (.ptr b (o + off))
        | .rptr cs => some (.rptr (cs.drop off))
        | _ => none
      | none => none
    | none => none
  | _ => none
theorem struct_at (hte : te.ok P) {t : Nat} {i : TI} (hi : te t = some i) {fs : List (Nat × Nat)} (hk : i.k = .struct fs) : ∃ f : Array Field, P.underlying t = some (.struct f) ∧ f.toList.map (fun x => (x.offset, x.type)) = fs := by
  obtain ⟨info, d, _, h2, h3, _, _⟩ := hte.info hi
  rw [hk] at h3
  cases d <;> simp [AT.fits] at h3
  exact ⟨_, h2, h3⟩
theorem afield_sound (hte : te.ok P) {t k : Nat} {p v : AV} {p' : Value} (hp : VR m p p') (hv : afield te t p k = some v) :
    ∃ v', (Instr.fieldAt t p' k).run P w = .ok v' w ∧ VR m v v' := by
  unfold afield at hv
  split at hv
  · next fs sz by_ zr hi =>
    split at hv
    · next off ft hf =>
      split at hv
      · next i hft =>
        split at hv
        · cases hv
        · next hz =>
          obtain ⟨fa, hu, hm⟩ := struct_at hte hi rfl
          have hfa : ∃ x, fa[k]? = some x ∧ x.offset = off ∧ x.type = ft := by
            rw [← hm, List.getElem?_map] at hf
            cases hx : fa.toList[k]? with
            | none => rw [hx] at hf; cases hf
            | some x =>
              rw [hx] at hf; injection hf with hf; injection hf with e1 e2
              exact ⟨x, by simpa using hx, e1, e2⟩
          obtain ⟨x, hx, rfl, rfl⟩ := hfa
          have hadd : ∀ (blk o : Nat), (Instr.fieldAt t (.pointer (some ⟨blk, o, none⟩)) k).run P w = .ok (.pointer (some ⟨blk, o + x.offset, none⟩)) w := by
            intro blk o
            simp [Instr.fieldAt, run_underlying hu, hx, Instr.sureAddr, fieldPlace, run_sizeOf hte hft, hz, add_none]
          split at hv
          · next b o =>
            injection hv with hv; subst hv
            obtain ⟨blk, rfl, hM⟩ := hp.ptr_inv
            exact ⟨_, hadd blk o, .ptr _ _ _ hM⟩
          · next cs =>
            injection hv with hv; subst hv
            obtain ⟨blk, o, f, rfl, h1, h2⟩ := hp.rptr_inv
            refine ⟨_, hadd blk o, .rptr _ blk (o + x.offset) (fun j => f (x.offset + j)) (fun j c hj => ?_) (fun j c hj => ?_)⟩
            · rw [List.getElem?_drop] at hj; rw [Nat.add_assoc]; exact h1 _ c hj
            · rw [List.getElem?_drop] at hj; exact h2 _ c hj
          · cases hv
      · cases hv
    · cases hv
  · cases hv

def aindexAddr (te : TE) (t : Nat) (x i : AV) : Option AV :=
  match te t with
  | some ⟨.slice e, _, _, _⟩ => match te e with
    | some ei => match x, i with
      | .sl _ sz xs, .int _ n => if sz = ei.size then (if 0 ≤ n then (match xs[n.toNat]? with | some y => some (.rptr y.cells) | none => none) else none) else none
      | .ms b o len sz, .int _ n => if sz = ei.size then (if 0 ≤ n ∧ n < len then some (.ptr b (o + n.toNat * sz)) else none) else none
      | _, _ => none
    | none => none
  | some ⟨.arr len e, _, _, _⟩ => match te e with
    | some ei => match x, i with
      | .ptr b o, .int _ n => if 0 ≤ n ∧ n < len then some (.ptr b (o + n.toNat * ei.size)) else none
      | _, _ => none
    | none => none
  | _ => none
theorem slice_at (hte : te.ok P) {t : Nat} {i : TI} (hi : te t = some i) {e : Nat} (hk : i.k = .slice e) : P.underlying t = some (.slice e) := by
  obtain ⟨info, d, _, h2, h3, _, _⟩ := hte.info hi
  rw [hk] at h3
  cases d <;> simp [AT.fits] at h3
  subst h3; exact h2
theorem arr_at (hte : te.ok P) {t : Nat} {i : TI} (hi : te t = some i) {n e : Nat} (hk : i.k = .arr n e) : P.underlying t = some (.array n e) := by
  obtain ⟨info, d, _, h2, h3, _, _⟩ := hte.info hi
  rw [hk] at h3
  cases d <;> simp [AT.fits] at h3
  obtain ⟨rfl, rfl⟩ := h3; exact h2
theorem aindexAddr_sound (hte : te.ok P) {t : Nat} {x i v : AV} {x' i' : Value} (hx : VR m x x') (hi : VR m i i') (hv : aindexAddr te t x i = some v) :
    ∃ v', (Instr.indexAt t x' i').run P w = .ok v' w ∧ VR m v v' := by
  unfold aindexAddr at hv
  split at hv
  · next e sz0 by0 z0 ht =>
    split at hv
    · next ei hei =>
      have hu := slice_at hte ht rfl
      split at hv
      · next tag sz xs k n =>
        split at hv
        · next hsz =>
          split at hv
          · next hn =>
            split at hv
            · next y hy =>
              injection hv with hv; subst hv
              have hlt : n.toNat < xs.length := (List.getElem?_eq_some_iff.1 hy).1
              obtain rfl := hi.int_inv
              rcases hx.sl_inv with ⟨rfl, _⟩ | ⟨blk, o, cap, f, rfl, h1, h2, h3, h4, h5, h6⟩
              · simp at hy
              · have hnl : n < (xs.length : Int) := by omega
                refine ⟨.pointer (some ⟨blk, o + n.toNat * ei.size, none⟩), ?_, ?_⟩
                · simp [Instr.indexAt, asIntOf, run_underlying hu, hn, hnl, run_sizeOf hte hei, add_none]
                · refine .rptr _ blk (o + n.toNat * ei.size) (fun j => f n.toNat j) (fun j c hj => ?_) (fun j c hj => h5 _ _ hy j c hj)
                  have hjl : j < sz := by rw [← h3 _ _ hy]; exact (List.getElem?_eq_some_iff.1 hj).1
                  rw [← hsz]; exact h4 _ _ hy j hjl
            · cases hv
          · cases hv
        · cases hv
      · next b o len sz k n =>
        split at hv
        · next hsz =>
          split at hv
          · next hn =>
            injection hv with hv; subst hv
            obtain rfl := hi.int_inv
            obtain ⟨blk, cap, a, rfl, hM, ha, hc⟩ := hx.ms_inv
            have ha' := ha (by omega)
            subst ha'
            refine ⟨.pointer (some ⟨blk, o + n.toNat * ei.size, none⟩), ?_, ?_⟩
            · simp [Instr.indexAt, asIntOf, run_underlying hu, hn.1, hn.2, run_sizeOf hte hei, add_none]
            · rw [hsz]; exact .ptr _ _ _ hM
          · cases hv
        · cases hv
      · cases hv
    · cases hv
  · next len e sz0 by0 z0 ht =>
    split at hv
    · next ei hei =>
      have hu := arr_at hte ht rfl
      split at hv
      · next b o k n =>
        split at hv
        · next hn =>
          injection hv with hv; subst hv
          obtain rfl := hi.int_inv
          obtain ⟨blk, rfl, hM⟩ := hx.ptr_inv
          refine ⟨.pointer (some ⟨blk, o + n.toNat * ei.size, none⟩), ?_, .ptr _ _ _ hM⟩
          simp [Instr.indexAt, asIntOf, run_underlying hu, hn.1, hn.2, run_sizeOf hte hei, add_none, Instr.sureAddr]
        · cases hv
      · cases hv
    · cases hv
  · cases hv
end
end Go.Proofs.YtjdocenbfghglaaGreatDoor.AW
