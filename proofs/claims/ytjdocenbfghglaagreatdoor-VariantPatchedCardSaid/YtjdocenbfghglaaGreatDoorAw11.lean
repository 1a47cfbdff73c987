/- AW, part 11: every operation. -/
import Derived.Test.YtjdocenbfghglaaGreatDoorAw109
set_option linter.unusedSimpArgs false
set_option linter.unusedVariables false
namespace Go.Proofs.YtjdocenbfghglaaGreatDoor.AW
open Go Go.RowKit

def astore (te : TE) (t : Nat) (p v : AV) (h : AH) : Option AH :=
  match te t, p with
  | some i, .ptr b o => (match h.box b with
    | some cs => if v.cells.length = i.size ∧ v.cells.all AV.one = true ∧ o + i.size ≤ cs.length then some (h.set b (cs.take o ++ v.cells ++ cs.drop (o + i.size))) else none
    | none => none)
  | _, _ => none
def alit (te : TE) (t len : Nat) (parts : List (Nat × AV)) : Option AV :=
  match te t with
  | some i => (match i.k with
    | .slice e => (match te e with
      | some ei => if parts.map (·.1) = List.range len ∧ 0 < ei.size ∧ len * ei.size ≤ 16777216 ∧ (parts.all fun p => p.2.cells.length == ei.size && p.2.cells.all AV.one) = true then some (.sl .full ei.size (parts.map (·.2))) else none
      | none => none)
    | _ => none)
  | none => none
def amin : AV → AV → Option AV
  | .int k x, .int _ y => some (.int k (if y < x then y else x))
  | _, _ => none
def amax : AV → AV → Option AV
  | .int k x, .int _ y => some (.int k (if y > x then y else x))
  | _, _ => none
/-- An append: a row, or a box. -/
def appR (te : TE) (h : AH) (t xt : Nat) (a b : AV) : OpR := match aappend te h t xt a b with
  | some (v, h') => (match appBox te t xt a b with
    | some (n, sz, cells) => .app v h' h n sz cells
    | none => .go v h')
  | none => (match appMc te h t xt a b with
    | some (v, h') => .go v h'
    | none => .bad)
/-- Whether a slice is nil: known, or either. -/
def eqnil (sz : Nat) (xs : List AV) : Bool × Bool := if xs.isEmpty = true then (if sz = 0 then (true, true) else (true, false)) else (false, false)
def acmpnil (te : TE) (op : BinOp) (t : Nat) : AV → AV → Option (AV × AV)
  | .sl _ sz xs, .sl .full 0 [] => (match te t with
    | some ⟨.slice _, _, _, _⟩ => (match op with
      | .eql => some (.bool (eqnil sz xs).1, .bool (eqnil sz xs).2)
      | .neq => some (.bool (!(eqnil sz xs).1), .bool (!(eqnil sz xs).2))
      | _ => none)
    | _ => none)
  | .bool x, .bool y => (match te t with
    | some ⟨.bool, _, _, _⟩ => (match op with
      | .eql => some (.bool (x == y), .bool (x == y))
      | .neq => some (.bool (!(x == y)), .bool (!(x == y)))
      | _ => none)
    | _ => none)
  | .agg xs, .agg ys => (match te t with
    | some ⟨.struct fs, _, _, zs⟩ => if (eqTypes.contains t && (fs.length == zs.length && zs.all ZC.leaf)) = true then (match aeqL zs xs ys with
        | some r => (match op with
          | .eql => some (.bool r, .bool r)
          | .neq => some (.bool (!r), .bool (!r))
          | _ => none)
        | none => none) else none
    | some ⟨.arr n _, _, _, zs⟩ => if (eqTypes.contains t && (n == zs.length && zs.all ZC.leaf)) = true then (match aeqL zs xs ys with
        | some r => (match op with
          | .eql => some (.bool r, .bool r)
          | .neq => some (.bool (!r), .bool (!r))
          | _ => none)
        | none => none) else none
    | _ => none)
  | _, _ => none
/-- A conversion. -/
def convR (te : TE) (h : AH) (src dst : Nat) (x : AV) : OpR := match acvB te h src dst x with
  | some (v, h') => .go v h'
  | none => (match acvS te h src dst x with
    | some v => .go v h
    | none => (match aconv te src dst x with
      | some v => .go v h
      | none => .bad))
/-- An operation. -/
def aop (te : TE) (s : AS) (h : AH) : Op → OpR
  | .alloc t => (match te t with | some i => .go (.ptr h.nb 0) (h.new i.av.cells) | none => .bad)
  | .box t x => if (ev s x).cells.all AV.one then .go (.ptr h.nb 0) (h.new (ev s x).cells) else .bad
  | .buildSlice t len parts => (match alit te t len (parts.toList.map fun p => (p.1, ev s p.2)) with | some v => .go v h | none => .bad)
  | .store t a x => (match astore te t (ev s a) (ev s x) h with | some h' => .go .dead h' | none => .bad)
  | .panic x => (match ev s x with | .iface t v => .panic (.iface t v) | _ => .bad)
  | .convert src dst x => convR te h src dst (ev s x)
  | .makeSlice t l c => (match amake te h t (ev s l) (ev s c) with | some (v, h') => .go v h' | none => .bad)
  | .binOp op t x y u => (match acmpnil te op t (ev s x) (ev s y) with | some (v1, v2) => .two v1 v2 | none => (match apure te s h (.binOp op t x y u) with | some v => .go v h | none => .bad))
  | .call c => (match c.callee with
    | .value f => .call (ev s f) (c.args.toList.map (ev s))
    | .invoke r name => (match ev s r with | .iface t v => .meth t name v (c.args.toList.map (ev s)) | _ => .bad)
    | .builtin .append => (match c.args.toList, c.argTypes.toList with
      | [a, b], [t, xt] => appR te h t xt (ev s a) (ev s b)
      | _, _ => .bad)
    | .builtin .min => (match c.args.toList with
      | [a, b] => (match amin (ev s a) (ev s b) with | some v => .go v h | none => .bad)
      | _ => .bad)
    | .builtin .copy => (match c.args.toList, c.argTypes.toList with
      | [a, b], [t, xt] => (match acopy te h t (ev s a).low (ev s b).low with | some (v, h') => .go v h' | none => .bad)
      | _, _ => .bad)
    | .builtin .clear => (match c.args.toList, c.argTypes.toList with
      | [a], [t] => (match aclear te h t (ev s a).low with | some h' => .go (.tup []) h' | none => .bad)
      | _, _ => .bad)
    | .builtin .max => (match c.args.toList with
      | [a, b] => (match amax (ev s a) (ev s b) with | some v => .go v h | none => .bad)
      | _ => .bad)
    | .builtin .cap => (match c.args.toList, c.argTypes.toList with
      | [a], [t] => (match te t, ev s a with | some ⟨.slice _, _, _, _⟩, .mc _ _ _ k _ => .go (.int .i64 k) h | _, _ => .bad)
      | _, _ => .bad)
    | .builtin .len => (match apure te s h (.call c) with | some v => .go v h | none => .bad)
    | _ => .bad)
  | op => (match apure te s h op with | some v => .go v h | none => .bad)

section
variable {P : Program} {te : TE} {w0 : Base} {w : World} {m : Mem} {h : AH} {N : Nat} {s : AS} {a : Act}

theorem astore_sound (hte : te.ok P) (hW : WR w0 m w h) {t : Nat} {p v : AV} {p' v' : Value} {h' : AH} (hp : VR m p p') (hv : VR m v v') (hst : astore te t p v h = some h') :
    ∃ w', (Instr.storeAt t p' v').run P w = .ok () w' ∧ WR w0 m w' h' := by
  unfold astore at hst
  split at hst
  case h_2 => cases hst
  next i b o hi =>
  split at hst
  case h_2 => cases hst
  next cs hb =>
  split at hst
  case isFalse => cases hst
  next hc =>
  obtain ⟨hl, hone, hfit⟩ := hc
  injection hst with hst; subst hst
  obtain ⟨blk, rfl, hM⟩ := hp.ptr_inv
  obtain ⟨bk, arr, ty, fr, q1, q2, q3⟩ := hW.box b cs hb
  rw [hM] at q1; injection q1 with q1; subst q1
  obtain ⟨c1, c2, c3⟩ := hv.cells hone
  have hvl : v'.cells.toList.length = i.size := by rw [Array.length_toList]; omega
  have hfit' : o + v'.cells.toList.length ≤ arr.size := by have := q3.size; omega
  have hrun := run_storeCells_blk (P := P) blk o ty fr v'.cells.toList 0 arr w q3.here q3.free (by simpa using hfit') (fun x hx => by
    obtain ⟨j, hj⟩ := List.mem_iff_getElem?.1 hx
    have hlt : j < v'.cells.size := by have := (List.getElem?_eq_some_iff.1 hj).1; rw [Array.length_toList] at this; exact this
    have := c3 j hlt
    rw [Array.getElem?_toList, Array.getElem?_eq_getElem hlt] at hj
    injection hj with hj
    rw [Array.getD_eq_getD_getElem?, Array.getElem?_eq_getElem hlt, hj] at this
    exact this)
  simp only [Nat.add_zero] at hrun
  have hget := splice_get v'.cells.toList arr o
  have hsize := splice_size v'.cells.toList arr o
  refine ⟨_, ?_, hW.setBox (arr' := splice arr o v'.cells.toList) (cs' := cs.take o ++ v.cells ++ cs.drop (o + i.size)) hb hM q3.here hsize ?_ ?_ ?_⟩
  · simp only [Instr.storeAt, Instr.sureAddr, Sem.run_bind, Sem.run_pure, Result.andThen_ok, storeVar, run_sizeOf hte hi]
    have hne : ¬ (v'.cells.size ≠ i.size) := by omega
    rw [if_neg hne]
    exact hrun
  · simp; omega
  · intro j c hj
    rw [Array.getD_eq_getD_getElem?, hget j hfit']
    have hx : (cs.take o ++ v.cells ++ cs.drop (o + i.size))[j]? = if o ≤ j ∧ j < o + i.size then v.cells[j - o]? else cs[j]? := by
      by_cases g1 : j < o
      · rw [if_neg (by omega), List.append_assoc, List.getElem?_append_left (by simp; omega), List.getElem?_take, if_pos g1]
      · by_cases g2 : j < o + i.size
        · rw [if_pos (by omega), List.append_assoc, List.getElem?_append_right (by simp; omega), List.getElem?_append_left (by simp; omega)]
          congr 1; simp; omega
        · rw [if_neg (by omega), List.getElem?_append_right (by simp; omega), List.getElem?_drop]
          congr 1; simp; omega
    rw [hx] at hj
    rw [hvl]
    split at hj
    · next hc =>
      rw [if_pos hc]
      have := c2 _ _ hj
      rw [Array.getD_eq_getD_getElem?] at this
      rw [Array.getElem?_toList]; exact this
    · next hc =>
      rw [if_neg hc]
      have := q3.rel _ _ hj
      rw [Array.getD_eq_getD_getElem?] at this
      exact this
  · intro j hj
    rw [hsize] at hj
    rw [Array.getD_eq_getD_getElem?, hget j hfit']
    split
    · next hc =>
      have hlt : j - o < v'.cells.size := by rw [Array.length_toList] at hc; omega
      have := c3 _ hlt
      rw [Array.getD_eq_getD_getElem?] at this
      rw [Array.getElem?_toList]; exact this
    · have := q3.one j hj
      rw [Array.getD_eq_getD_getElem?] at this
      exact this

theorem fill_seq (size : Nat) (hs : 0 < size) : ∀ (vs : List Value) (k : Nat) (cs : Array Value), (∀ v ∈ vs, v.cells.size = size) → (k + vs.length) * size ≤ cs.size →
    ∃ r, Instr.fill (fun i => some (i * size, size)) cs ((vs.zipIdx k).map fun x => (x.2, x.1)) = some r ∧ r.size = cs.size ∧
      (∀ i v, vs[i]? = some v → ∀ j, j < size → r[(k + i) * size + j]? = v.cells[j]?) ∧ ∀ q, q < k * size → r[q]? = cs[q]? := by
  intro vs
  induction vs with
  | nil => intro k cs _ _; exact ⟨cs, rfl, rfl, fun i v hv => by simp at hv, fun _ _ => rfl⟩
  | cons v vs ih =>
    intro k cs hall hfit
    have hv : v.cells.size = size := hall v (by simp)
    simp only [List.length_cons] at hfit
    have e1 : (k + (vs.length + 1)) * size = k * size + size + vs.length * size := by rw [Nat.add_mul, Nat.add_mul, Nat.one_mul]; omega
    have hfe : (v.cells.zipIdx.foldl (fun cs (x : Value × Nat) => cs.setIfInBounds (k * size + x.2) x.1) cs) = ((v.cells.toList.zipIdx 0).foldl (fun (cs : Array Value) x => cs.setIfInBounds (k * size + x.2) x.1) cs) := by
      rw [← Array.foldl_toList, Array.toList_zipIdx]
    have hvl : v.cells.toList.length = size := by rw [Array.length_toList]; exact hv
    have hget := fold_cells cs (k * size) v.cells.toList 0 (by omega)
    have hsz := fold_cells_size cs (k * size) v.cells.toList 0
    have e3 : (k + 1 + vs.length) * size = k * size + size + vs.length * size := by rw [Nat.add_mul, Nat.add_mul, Nat.one_mul]
    have hs2 : (v.cells.zipIdx.foldl (fun cs (x : Value × Nat) => cs.setIfInBounds (k * size + x.2) x.1) cs).size = cs.size := by rw [hfe]; exact hsz
    obtain ⟨r, q1, q2, q3, q4⟩ := ih (k + 1) (v.cells.zipIdx.foldl (fun cs (x : Value × Nat) => cs.setIfInBounds (k * size + x.2) x.1) cs) (fun u hu => hall u (by simp [hu])) (by
      rw [hs2, e3]; omega)
    refine ⟨r, ?_, by rw [q2, hfe, hsz], ?_, ?_⟩
    · simp only [List.zipIdx_cons, List.map_cons, Instr.fill]
      rw [if_neg (by rw [hv]; simp; omega)]
      exact q1
    · intro i u hu j hj
      cases i with
      | zero =>
        simp at hu; subst hu
        rw [Nat.add_zero, q4 _ (by rw [Nat.add_mul, Nat.one_mul]; omega), hfe, hget _, if_pos (by rw [hvl]; omega)]
        rw [Array.getElem?_toList]; congr 1; omega
      | succ i =>
        have := q3 i u (by simpa using hu) j hj
        rw [show k + (i + 1) = k + 1 + i by omega]; exact this
    · intro q hq
      rw [q4 q (by rw [Nat.add_mul, Nat.one_mul]; omega), hfe, hget, if_neg (by omega)]

theorem alit_sound (hte : te.ok P) (hW : WR w0 m w h) {t len : Nat} {parts : List (Nat × AV)} {parts' : Array (Nat × Value)} {v : AV} (hl : parts'.size = parts.length)
    (hrel : ∀ (i : Nat) (p : Nat × AV) (p' : Nat × Value), parts[i]? = some p → parts'.toList[i]? = some p' → p.1 = p'.1 ∧ VR m p.2 p'.2) (hv : alit te t len parts = some v) :
    Gives P w0 m w (Instr.buildSlice t len parts') v h := by
  unfold alit at hv
  split at hv
  case h_2 => cases hv
  next i hi =>
  split at hv
  case h_2 => cases hv
  next e hk =>
  split at hv
  case h_2 => cases hv
  next ei hei =>
  split at hv
  case isFalse => cases hv
  next hc =>
  obtain ⟨hseq, hsz, h24, hall⟩ := hc
  injection hv with hv; subst hv
  have hu := slice_at hte hi hk
  obtain ⟨z, hz, hz1, hz2, hz3, hz4, hz5⟩ := hte.zero hei m
  have hplen : parts.length = len := by
    have := congrArg List.length hseq
    simpa using this
  -- the parts, in their order
  have hp' : parts'.toList = ((parts'.toList.map (·.2)).zipIdx 0).map fun x => (x.2, x.1) := by
    apply List.ext_getElem?
    intro q
    by_cases hq : q < parts.length
    · have h1 : parts[q]? = some parts[q] := List.getElem?_eq_getElem hq
      have hq' : q < parts'.toList.length := by rw [Array.length_toList]; omega
      have h2 : parts'.toList[q]? = some parts'.toList[q] := List.getElem?_eq_getElem hq'
      obtain ⟨h3, _⟩ := hrel q _ _ h1 h2
      have h4 : (parts.map (·.1))[q]? = some parts[q].1 := by rw [List.getElem?_map, h1]; rfl
      rw [hseq, List.getElem?_range (by omega)] at h4
      injection h4 with h4
      rw [List.getElem?_map, List.getElem?_zipIdx, List.getElem?_map, h2]
      simp only [Option.map_some]
      rw [show parts'.toList[q] = (parts'.toList[q].1, parts'.toList[q].2) from rfl, ← h3, ← h4]
      simp
    · have hq' : parts'.toList.length ≤ q := by rw [Array.length_toList]; omega
      rw [List.getElem?_eq_none hq', List.getElem?_eq_none (by simp; omega)]
  have hcells : ∀ (i : Nat) (x : AV) (x' : Value), (parts.map (·.2))[i]? = some x → (parts'.toList.map (·.2))[i]? = some x' → x.cells.length = ei.size ∧ x.cells.all AV.one = true ∧ VR m x x' := by
    intro i x x' hx hx'
    rw [List.getElem?_map] at hx hx'
    cases hp1 : parts[i]? with
    | none => rw [hp1] at hx; cases hx
    | some p =>
      cases hp2 : parts'.toList[i]? with
      | none => rw [hp2] at hx'; cases hx'
      | some p' =>
        rw [hp1] at hx; rw [hp2] at hx'
        injection hx with hx; injection hx' with hx'; subst hx hx'
        have := List.all_eq_true.1 hall p (List.mem_of_getElem? hp1)
        simp only [Bool.and_eq_true, beq_iff_eq] at this
        exact ⟨this.1, this.2, (hrel i p p' hp1 hp2).2⟩
  have hlen2 : (parts'.toList.map (·.2)).length = len := by simp; omega
  have hvs : ∀ u ∈ parts'.toList.map (·.2), u.cells.size = ei.size := by
    intro u hu
    obtain ⟨j, hj⟩ := List.mem_iff_getElem?.1 hu
    have hjl : j < parts.length := by have := (List.getElem?_eq_some_iff.1 hj).1; omega
    have hx : (parts.map (·.2))[j]? = some parts[j].2 := by rw [List.getElem?_map, List.getElem?_eq_getElem hjl]; rfl
    obtain ⟨c1, c2, c3⟩ := hcells j _ _ hx hj
    rw [(c3.cells c2).1, c1]
  have hzc : ((Array.range (len * ei.size)).map (fun i => z.cells[i % z.cells.size]!)).size = len * ei.size := by simp
  obtain ⟨r, q1, q2, q3, q4⟩ := fill_seq ei.size hsz (parts'.toList.map (·.2)) 0 ((Array.range (len * ei.size)).map (fun i => z.cells[i % z.cells.size]!)) hvs (by rw [hzc, hlen2, Nat.zero_add]; exact Nat.le_refl _)
  rw [hzc] at q2
  simp only [Nat.zero_add] at q3
  have hrun : (Instr.buildSlice t len parts').run P w = .ok (.slice (some ⟨w.heap.size, 0, none⟩) len len) (w.alloc (.cells r e)) := by
    have h24' : ¬ (len * ei.size > 2 ^ 24) := by omega
    simp only [Instr.buildSlice, Sem.run_bind, run_underlying hu, Result.andThen_ok, run_sizeOf hte hei, if_neg h24', Sem.run_pure]
    by_cases h0 : len * ei.size = 0
    · have hl0 : len = 0 := by
        rcases Nat.mul_eq_zero.1 h0 with h1 | h1
        · exact h1
        · omega
      have hr0 : r = #[] := Array.eq_empty_of_size_eq_zero (by omega)
      subst hl0
      have hpn : parts'.toList = [] := List.eq_nil_of_length_eq_zero (by rw [Array.length_toList]; omega)
      subst hr0
      simp [hpn, Instr.fill, newRow]
      congr 2
      apply Array.eq_empty_of_size_eq_zero
      simp
    · simp only [if_neg h0, Sem.run_bind, hz, Result.andThen_ok, Sem.run_pure]
      rw [hp', q1]
      simp [newRow]
  have hone : ∀ j : Nat, j < len * ei.size → ∃ i jj, j = i * ei.size + jj ∧ i < len ∧ jj < ei.size := by
    intro j hj
    exact ⟨j / ei.size, j % ei.size, by have := Nat.div_add_mod j ei.size; rw [Nat.mul_comm] at this; omega, (Nat.div_lt_iff_lt_mul hsz).2 hj, Nat.mod_lt _ hsz⟩
  have hcell : ∀ i : Nat, i < len → ∃ x x', (parts.map (·.2))[i]? = some x ∧ (parts'.toList.map (·.2))[i]? = some x' := by
    intro i hi
    exact ⟨_, _, List.getElem?_eq_getElem (by simp; omega), List.getElem?_eq_getElem (by omega)⟩
  obtain ⟨nl1, nl2⟩ := not_live hW
  have hKn : ∀ o, m.K w.heap.size o = none := by
    intro o
    cases hk : m.K w.heap.size o with
    | none => rfl
    | some v => exact absurd (hW.Klt' hk) (by omega)
  obtain ⟨l2, hW2⟩ := (hW.alloc (.cells r e)).commit w.heap.size 0 (len * ei.size) r e (0, 0) (heap_alloc_new w _) hW.size_le nl1 (fun t g x a b c => absurd c (nl2 t g x a b)) (fun j _ hj => by
      obtain ⟨i, jj, rfl, h1, h2⟩ := hone j hj
      obtain ⟨x, x', hx, hx'⟩ := hcell i h1
      obtain ⟨c1, c2, c3⟩ := hcells i x x' hx hx'
      obtain ⟨d1, d2, d3⟩ := c3.cells c2
      have := d3 jj (by omega)
      rw [Array.getD_eq_getD_getElem?] at this ⊢
      rw [q3 i x' hx' jj h2]; exact this) (fun o v hk => by rw [hKn o] at hk; cases hk)
  refine ⟨_, _, _, hrun, l2, ?_, hW2⟩
  have el : (parts.map (·.2)).length = len := by simp; omega
  have ev : Value.slice (some ⟨w.heap.size, 0, none⟩) len len = .slice (some ⟨w.heap.size, 0, none⟩) (parts.map (·.2)).length len := by rw [el]
  rw [ev]
  refine .sl .full ei.size _ w.heap.size 0 len (fun i j => r.getD (i * ei.size + j) undef) hsz (by omega) ?_ ?_ ?_ (by show len = _; omega)
  · intro i x hx
    have hil : i < len := by have := (List.getElem?_eq_some_iff.1 hx).1; omega
    obtain ⟨_, x', _, hx'⟩ := hcell i hil
    exact (hcells i x x' hx hx').1
  · intro i x hx j hj
    have hil : i < len := by have := (List.getElem?_eq_some_iff.1 hx).1; omega
    have hlt : i * ei.size + j < len * ei.size := by
      have : (i + 1) * ei.size ≤ len * ei.size := Nat.mul_le_mul_right _ hil
      rw [Nat.add_mul] at this; omega
    rw [Mem.commit_at _ _ _ _ _ (by omega) (by omega), Nat.zero_add, Array.getD_eq_getD_getElem?]
    rw [Array.getElem?_eq_getElem (by omega)]; rfl
  · intro i x hx j c hc
    have hil : i < len := by have := (List.getElem?_eq_some_iff.1 hx).1; omega
    obtain ⟨_, x', _, hx'⟩ := hcell i hil
    obtain ⟨c1, c2, c3⟩ := hcells i x x' hx hx'
    obtain ⟨d1, d2, d3⟩ := c3.cells c2
    have hj : j < ei.size := by rw [← c1]; exact (List.getElem?_eq_some_iff.1 hc).1
    have := (d2 j c hc).mono l2
    rw [Array.getD_eq_getD_getElem?] at this ⊢
    rw [q3 i x' hx' j hj]; exact this

/-- What is known of a run whose operation is told by 'aop'. -/
def OpR.Holds (P : Program) (w0 : Base) (m : Mem) (w : World) (x : Sem Next) : OpR → Prop
  | .go v h' => ∃ w' m', m.le m' ∧ WR w0 m' w' h' ∧ ((∃ v', x.run P w = .ok (.value v') w' ∧ VR m' v v') ∨ (x.run P w = .ok .skip w' ∧ v = .dead))
  | .call f args => ∃ (fv : Value) (args' : Array Value), VR m f fv ∧ args'.size = args.length ∧ (∀ (i : Nat) (c : AV), args[i]? = some c → VR m c (args'.getD i undef)) ∧
      x.run P w = (do let d ← Deferred.ofValue fv args'; invoke d.target d.args : Sem Next).run P w
  | .panic v => ∃ v', x.run P w = .halt (.panic v') w ∧ VR m v v'
  | .two v1 v2 => ∃ v', x.run P w = .ok (.value v') w ∧ (VR m v1 v' ∨ VR m v2 v')
  | .meth t name v args => ∃ (v' : Value) (args' : Array Value), VR m v v' ∧ args'.size = args.length ∧ (∀ (i : Nat) (c : AV), args[i]? = some c → VR m c (args'.getD i undef)) ∧ x.run P w = (callMethod (.iface t v') name args').run P w
  | .app v h' h n sz cells => (∃ w' m', m.le m' ∧ WR w0 m' w' h' ∧ ∃ v', x.run P w = .ok (.value v') w' ∧ VR m' v v') ∧
      ∃ (v' : Value) (w' : World) (m' : Mem), x.run P w = .ok (.value v') w' ∧ m.le m' ∧ VR m' (.ms h.nb 0 n sz) v' ∧ WR w0 m' w' (h.new cells)
  | .bad => True

theorem eqnil_sound (hte : te.ok P) {t e sz' by' : Nat} {z : List ZC} (hi : te t = some ⟨.slice e, sz', by', z⟩) {tag : Tag} {sz : Nat} {xs : List AV} {a' : Value} (ha : VR m (.sl tag sz xs) a') :
    ∃ c : Bool, (∀ w, (Op.equal t a' (.slice none 0 0)).run P w = .ok c w) ∧ (c = (eqnil sz xs).1 ∨ c = (eqnil sz xs).2) := by
  obtain ⟨info, d, h1, h2, h3, _, _⟩ := hte.info hi
  have hd : ∃ e', d = .slice e' := by cases d <;> simp_all [AT.fits]
  obtain ⟨e', rfl⟩ := hd
  cases ha with
  | slnil =>
    refine ⟨true, fun w => ?_, ?_⟩
    · rw [Op.equal, show Op.maxDepth = 9999 + 1 from rfl, Op.equalIn]; simp [run_underlying h2]
    · left; unfold eqnil; simp; split <;> rfl
  | slemp _ _ a hz =>
    refine ⟨false, fun w => ?_, ?_⟩
    · rw [Op.equal, show Op.maxDepth = 9999 + 1 from rfl, Op.equalIn]; simp [run_underlying h2]
    · right; unfold eqnil; simp; rw [if_neg (by omega)]
  | sl _ _ _ blk o cap f hsz =>
    refine ⟨false, fun w => ?_, ?_⟩
    · rw [Op.equal, show Op.maxDepth = 9999 + 1 from rfl, Op.equalIn]; simp [run_underlying h2]
    · right
      unfold eqnil
      split
      · rw [if_neg (by omega)]
      · rfl
theorem acmpnil_sound (hte : te.ok P) {op : BinOp} {t : Nat} {ox oy : Operand} {a b v1 v2 : AV} {a' b' : Value} (ha : VR m a a') (hb : VR m b b') (hv : acmpnil te op t a b = some (v1, v2)) :
    ∃ v', (do eqGuard op t ox oy a' b'; binOp op t a' b' : Sem Value).run P w = .ok v' w ∧ (VR m v1 v' ∨ VR m v2 v') := by
  unfold acmpnil at hv
  split at hv
  · next tag sz xs =>
    split at hv
    case h_2 => cases hv
    next e x1 x2 x3 hi =>
    have hb' : b' = .slice none 0 0 := by
      cases hb with
      | slnil => rfl
      | slemp _ _ _ h1 => exact absurd h1 (Nat.lt_irrefl 0)
      | sl _ _ _ blk o cap f h1 => exact absurd h1 (Nat.lt_irrefl 0)
    subst hb'
    obtain ⟨c, h1, h2⟩ := eqnil_sound hte hi ha
    obtain ⟨r, n, cp, rfl⟩ : ∃ r n cp, a' = .slice r n cp := by cases ha <;> exact ⟨_, _, _, rfl⟩
    have hg : (eqGuard op t ox oy (.slice r n cp) (.slice none 0 0)).run P w = .ok () w := eqGuard_plain op t ox oy _ _ w (fun _ e => by cases e) (.inl (fun e => by cases e))
    simp only [Sem.run_bind, hg, Result.andThen_ok]
    split at hv
    · injection hv with hv; injection hv with e1 e2; subst e1 e2
      refine ⟨.bool c, by simp [binOp, h1], ?_⟩
      rcases h2 with rfl | rfl
      · exact .inl (.bool _)
      · exact .inr (.bool _)
    · injection hv with hv; injection hv with e1 e2; subst e1 e2
      refine ⟨.bool (!c), by simp [binOp, h1], ?_⟩
      rcases h2 with rfl | rfl
      · exact .inl (.bool _)
      · exact .inr (.bool _)
    · cases hv
  · next x y =>
    split at hv
    case h_2 => cases hv
    next x1 x2 x3 hi =>
    obtain rfl := ha.bool_inv
    obtain rfl := hb.bool_inv
    obtain ⟨info, d, h1, h2, h3, _, _⟩ := hte.info hi
    have hd : d = .bool := by cases d <;> simp_all [AT.fits]
    subst hd
    have hq : ∀ w, (Op.equal t (.bool x) (.bool y)).run P w = .ok (x == y) w := by intro w; rw [Op.equal, show Op.maxDepth = 9999 + 1 from rfl, Op.equalIn]; simp [run_underlying h2]
    have hg : (eqGuard op t ox oy (.bool x) (.bool y)).run P w = .ok () w := eqGuard_plain op t ox oy _ _ w (fun _ e => by cases e) (.inl (fun e => by cases e))
    simp only [Sem.run_bind, hg, Result.andThen_ok]
    split at hv
    · injection hv with hv; injection hv with e1 e2; subst e1 e2; exact ⟨.bool (x == y), by simp [binOp, hq], .inl (.bool _)⟩
    · injection hv with hv; injection hv with e1 e2; subst e1 e2; exact ⟨.bool (!(x == y)), by simp [binOp, hq], .inl (.bool _)⟩
    · cases hv
  · next xs ys =>
    obtain ⟨xs', rfl, hx1, hx2⟩ : ∃ xs', a' = .agg xs' ∧ xs'.size = xs.length ∧ ∀ (i : Nat) (c : AV), xs[i]? = some c → VR m c (xs'.getD i undef) := by
      cases ha with | agg _ cs' h1 h2 => exact ⟨cs', rfl, h1, h2⟩
    obtain ⟨ys', rfl, hy1, hy2⟩ : ∃ xs', b' = .agg xs' ∧ xs'.size = ys.length ∧ ∀ (i : Nat) (c : AV), ys[i]? = some c → VR m c (xs'.getD i undef) := by
      cases hb with | agg _ cs' h1 h2 => exact ⟨cs', rfl, h1, h2⟩
    have get : ∀ {l : List AV} {cs : Array Value}, cs.size = l.length → (∀ (i : Nat) (c : AV), l[i]? = some c → VR m c (cs.getD i undef)) → ∀ (i : Nat) (c : AV), l[i]? = some c → ∃ v, cs[0 + i]? = some v ∧ VR m c v := by
      intro l cs h1 h2 i c hi
      have hlt : i < cs.size := by rw [h1]; exact (List.getElem?_eq_some_iff.1 hi).1
      have := h2 i c hi
      rw [Array.getD_eq_getD_getElem?, Array.getElem?_eq_getElem hlt] at this
      exact ⟨cs[i], by rw [Nat.zero_add]; exact Array.getElem?_eq_getElem hlt, this⟩
    split at hv
    case h_3 => cases hv
    · next fs0 s1 b1 zs hi =>
      split at hv
      case isFalse => cases hv
      next hleaf =>
      split at hv
      case h_2 => cases hv
      next r hr =>
      have hck := hte t _ hi
      unfold TI.check at hck
      rw [Bool.and_eq_true] at hck
      have hq := hck.2
      have hes : (eqTypes.contains t && TI.eqS ⟨.struct fs0, s1, b1, zs⟩) = true := by unfold TI.eqS; exact hleaf
      rw [hes] at hq
      simp only [Bool.not_true, Bool.false_or] at hq
      unfold eqStructOk at hq
      simp only [Bool.and_eq_true, Bool.not_eq_true'] at hq
      obtain ⟨⟨g1, g2⟩, g3⟩ := hq
      obtain ⟨fs, hu, _⟩ := struct_at hte hi rfl
      rw [hu] at g3
      simp only at g3
      have hfo : P.fieldsOf t = fs := by unfold Program.fieldsOf; rw [hu]
      have heq : ∀ w, (Op.equalIn 10000 t (.agg xs') (.agg ys')).run P w = .ok r w := by
        intro w
        rw [show (10000 : Nat) = 9999 + 1 from rfl, run_equalIn_agg w 9999 t _ _ (by rw [hfo]; exact hu) g2, hfo]
        exact eqFields_sound 9998 _ _ _ _ 0 r g3 hr (get hx1 hx2) (get hy1 hy2) w
      have hg := run_eqGuard_agg (P := P) w op t ox oy xs' ys' g1
      simp only [Sem.run_bind, hg, Result.andThen_ok]
      split at hv
      · injection hv with hv; injection hv with e1 e2; subst e1 e2
        exact ⟨.bool r, by rw [run_eql_struct, heq]; rfl, .inl (.bool _)⟩
      · injection hv with hv; injection hv with e1 e2; subst e1 e2
        exact ⟨.bool (!r), by rw [run_neq_struct, heq]; rfl, .inl (.bool _)⟩
      · cases hv
    · next n0 e0 s1 b1 zs hi =>
      split at hv
      case isFalse => cases hv
      next hleaf =>
      split at hv
      case h_2 => cases hv
      next r hr =>
      have hck := hte t _ hi
      unfold TI.check at hck
      rw [Bool.and_eq_true] at hck
      have hq := hck.2
      have hes : (eqTypes.contains t && TI.eqS ⟨.arr n0 e0, s1, b1, zs⟩) = true := by unfold TI.eqS; exact hleaf
      rw [hes] at hq
      simp only [Bool.not_true, Bool.false_or] at hq
      unfold eqStructOk at hq
      simp only [Bool.and_eq_true, Bool.not_eq_true'] at hq
      obtain ⟨⟨g1, g2⟩, g3⟩ := hq
      have hu := arr_at hte hi rfl
      rw [hu] at g3
      simp only [Bool.and_eq_true, beq_iff_eq] at g3
      obtain ⟨⟨g3, g4⟩, g5⟩ := g3
      obtain ⟨ei, hei⟩ := Option.isSome_iff_exists.1 g4
      have heq : ∀ w, (Op.equalIn 10000 t (.agg xs') (.agg ys')).run P w = .ok r w := by
        intro w
        rw [show (10000 : Nat) = 9999 + 1 from rfl, run_equalIn_array w 9999 _ _ hu hei, g5, eqItems_fields]
        exact eqFields_sound 9998 _ _ _ _ 0 r g3 hr (get hx1 hx2) (get hy1 hy2) w
      have hg := run_eqGuard_agg (P := P) w op t ox oy xs' ys' g1
      simp only [Sem.run_bind, hg, Result.andThen_ok]
      split at hv
      · injection hv with hv; injection hv with e1 e2; subst e1 e2
        exact ⟨.bool r, by rw [run_eql_struct, heq]; rfl, .inl (.bool _)⟩
      · injection hv with hv; injection hv with e1 e2; subst e1 e2
        exact ⟨.bool (!r), by rw [run_neq_struct, heq]; rfl, .inl (.bool _)⟩
      · cases hv
  · cases hv
theorem aop_sound (hte : te.ok P) (hS : SR m N s a) (hW : WR w0 m w h) (o : Oper) : (aop te s h o.op).Holds P w0 m w (execOp a.eval o) := by
  have hpure : ∀ op, o.op = op → (match apure te s h op with | some v => OpR.go v h | none => OpR.bad).Holds P w0 m w (execOp a.eval o) := by
    intro op hop
    split
    · next v hv =>
      rw [← hop] at hv
      obtain ⟨v', h1, h2⟩ := apure_sound hte hS hW hv
      exact ⟨w, m, Mem.le.refl m, hW, .inl ⟨v', h1, h2⟩⟩
    · trivial
  unfold aop
  split
  · next t hop =>
    split
    · next i hi =>
      obtain ⟨z, hz, hz1, hz2, hz3, hz4, hz5⟩ := hte.zero hi m
      obtain ⟨m', l1, k1, _, hW1⟩ := hW.newBox i.av.cells z.cells t (by omega) hz4 hz5
      refine ⟨_, m', l1, hW1, .inl ⟨.pointer (some ⟨w.heap.size, 0, none⟩), ?_, .ptr _ _ _ k1⟩⟩
      unfold execOp
      rw [hop]
      simp [Instr.alloc, hz, newVar, newRow]
    · trivial
  · next t x hop =>
    split
    · next hall =>
      obtain ⟨c1, c2, c3⟩ := (hS.ev x).cells hall
      obtain ⟨m', l1, k1, _, hW1⟩ := hW.newBox (ev s x).cells (a.eval x).cells t (Nat.le_of_eq c1.symm) c2 c3
      refine ⟨_, m', l1, hW1, .inl ⟨.pointer (some ⟨w.heap.size, 0, none⟩), ?_, .ptr _ _ _ k1⟩⟩
      unfold execOp
      rw [hop]
      simp [Instr.box, newVar, newRow]
    · trivial
  · next t len parts hop =>
    split
    · next v hv =>
      obtain ⟨v', w', m', h1, h2, h3, h4⟩ := alit_sound hte hW (parts' := parts.map fun p => (p.1, a.eval p.2)) (by simp) (fun i p p' hp hp' => by
        rw [List.getElem?_map] at hp
        cases hx : parts.toList[i]? with
        | none => rw [hx] at hp; cases hp
        | some x =>
          rw [hx] at hp; injection hp with hp; subst hp
          simp only [Array.toList_map, List.getElem?_map, hx, Option.map_some, Option.some.injEq] at hp'
          subst hp'
          exact ⟨rfl, hS.ev x.2⟩) hv
      refine ⟨w', m', h2, h4, .inl ⟨v', ?_, h3⟩⟩
      unfold execOp
      rw [hop]
      simp only [Sem.run_bind, h1, Result.andThen_ok, Sem.run_pure]
    · trivial
  · next t p x hop =>
    split
    · next h' hst =>
      obtain ⟨w', h1, h2⟩ := astore_sound hte hW (hS.ev p) (hS.ev x) hst
      refine ⟨w', m, Mem.le.refl m, h2, .inr ⟨?_, rfl⟩⟩
      unfold execOp
      rw [hop]
      simp only [Sem.run_bind, h1, Result.andThen_ok, Sem.run_pure]
    · trivial
  · next x hop =>
    split
    · next t v hv =>
      have hx := hS.ev x
      rw [hv] at hx
      obtain ⟨v', e, _⟩ := hx.iface_inv
      refine ⟨.iface t v', ?_, by rw [← e]; exact hx⟩
      unfold execOp
      rw [hop]
      simp [e, Instr.panic, goPanic]
    · trivial
  · next src dst x hop =>
    unfold convR
    split
    · next v h' hv =>
      obtain ⟨v', w', m', h1, h2, h3, h4⟩ := acvB_sound hte hW (hS.ev x) hv
      refine ⟨w', m', h2, h4, .inl ⟨v', ?_, h3⟩⟩
      unfold execOp
      rw [hop]
      simp only [Sem.run_bind, h1, Result.andThen_ok, Sem.run_pure]
    · split
      · next v hv =>
        obtain ⟨v', h1, h2⟩ := acvS_sound hte hW (hS.ev x) hv
        refine ⟨w, m, Mem.le.refl m, hW, .inl ⟨v', ?_, h2⟩⟩
        unfold execOp
        rw [hop]
        simp only [Sem.run_bind, h1, Result.andThen_ok, Sem.run_pure]
      · exact hpure (.convert src dst x) hop
  · next t l c hop =>
    split
    · next v h' hv =>
      obtain ⟨v', w', m', h1, h2, h3, h4⟩ := amake_sound hte hW (hS.ev l) (hS.ev c) hv
      refine ⟨w', m', h2, h4, .inl ⟨v', ?_, h3⟩⟩
      unfold execOp
      rw [hop]
      simp only [Sem.run_bind, h1, Result.andThen_ok, Sem.run_pure]
    · trivial
  · next op t x y u hop =>
    split
    · next v1 v2 hv =>
      obtain ⟨v', h1, h2⟩ := acmpnil_sound (w := w) (ox := x) (oy := y) hte (hS.ev x) (hS.ev y) hv
      refine ⟨v', ?_, h2⟩
      unfold execOp
      rw [hop]
      show Sem.run P ((do eqGuard op t x y (a.eval x) (a.eval y); binOp op t (a.eval x) (a.eval y) : Sem Value) >>= fun v => pure (Next.value v)) w = _
      simp only [Sem.run_bind] at h1 ⊢
      rw [h1]; rfl
    · exact hpure _ hop
  · next c hop =>
    split
    · next f hcal =>
      obtain ⟨h1, h2⟩ := map_rel hS c.args
      refine ⟨a.eval f, c.args.map a.eval, hS.ev f, h1, h2, ?_⟩
      unfold execOp
      rw [hop]
      simp only [resolve, hcal]
    · next r name hcal =>
      split
      · next t v hv =>
        have hx := hS.ev r
        rw [hv] at hx
        obtain ⟨v', e, h0⟩ := hx.iface_inv
        obtain ⟨h1, h2⟩ := map_rel hS c.args
        refine ⟨v', c.args.map a.eval, h0, h1, h2, ?_⟩
        have hex : (#[Value.iface t v'] ++ c.args.map a.eval).extract 1 (#[Value.iface t v'] ++ c.args.map a.eval).size = c.args.map a.eval := by
          simp
        unfold execOp
        rw [hop]
        simp only [resolve, hcal, Sem.run_bind, Sem.run_pure, Result.andThen_ok, invoke, e]
        rw [hex]
        have h00 : (#[Value.iface t v'] ++ Array.map a.eval c.args)[0]? = some (Value.iface t v') := by rw [Array.getElem?_append_left (by simp)]; rfl
        rw [h00]
      · trivial
    · next hcal =>
      split
      · next x y t xt hxs hts =>
        have hxs' : c.args = #[x, y] := by rw [← Array.toArray_toList (xs := c.args), hxs]
        have hts' : c.argTypes = #[t, xt] := by rw [← Array.toArray_toList (xs := c.argTypes), hts]
        have hrun : ∀ (v' : Value) (w' : World), (Builtin.append_ #[t, xt] o.type #[a.eval x, a.eval y]).run P w = .ok v' w' → (execOp a.eval o).run P w = .ok (.value v') w' := by
          intro v' w' h1
          unfold execOp
          rw [hop]
          simp [resolve, hcal, hxs', hts', invoke, builtin, h1]
        unfold appR
        split
        · next v h' hv =>
          obtain ⟨v', w', m', h1, h2, h3, h4⟩ := aappend_sound (tt := o.type) hte hW (hS.ev x) (hS.ev y) hv
          split
          · next n sz cells hb =>
            obtain ⟨u', w2, m2, g1, g2, g3, g4⟩ := appBox_sound (tt := o.type) hte hW (hS.ev x) (hS.ev y) hb
            exact ⟨⟨w', m', h2, h4, v', hrun _ _ h1, h3⟩, u', w2, m2, hrun _ _ g1, g2, g3, g4⟩
          · exact ⟨w', m', h2, h4, .inl ⟨v', hrun _ _ h1, h3⟩⟩
        · split
          · next v h' hv =>
            obtain ⟨v', w', m', h1, h2, h3, h4⟩ := appMc_sound (tt := o.type) hte hW (hS.ev x) (hS.ev y) hv
            exact ⟨w', m', h2, h4, .inl ⟨v', hrun _ _ h1, h3⟩⟩
          · trivial
      · trivial
    · next hcal =>
      split
      · next x y hxs =>
        have hxs' : c.args = #[x, y] := by rw [← Array.toArray_toList (xs := c.args), hxs]
        split
        · next v hv =>
          unfold amin at hv
          split at hv
          · next k n k' n' e1 e2 =>
            injection hv with hv; subst hv
            have hx := hS.ev x
            have hy := hS.ev y
            rw [e1] at hx; rw [e2] at hy
            refine ⟨w, m, Mem.le.refl m, hW, .inl ⟨.int k (if n' < n then n' else n), ?_, .int _ _⟩⟩
            unfold execOp
            rw [hop]
            simp [resolve, hcal, hxs', invoke, builtin, hx.int_inv, hy.int_inv, Builtin.min_, Builtin.min2]
          · cases hv
        · trivial
      · trivial
    · next hcal =>
      split
      · next x y t xt hxs hts =>
        have hxs' : c.args = #[x, y] := by rw [← Array.toArray_toList (xs := c.args), hxs]
        have hts' : c.argTypes = #[t, xt] := by rw [← Array.toArray_toList (xs := c.argTypes), hts]
        split
        · next v h' hv =>
          obtain ⟨v', w', h1, h2, h3⟩ := acopy_sound (P := P) (xt := xt) (tt := o.type) hte hW (hS.ev x).low (hS.ev y).low hv
          refine ⟨w', m, Mem.le.refl m, h3, .inl ⟨v', ?_, h2⟩⟩
          unfold execOp
          rw [hop]
          simp [resolve, hcal, hxs', hts', invoke, builtin, h1]
        · trivial
      · trivial
    · next hcal =>
      split
      · next x t hxs hts =>
        have hxs' : c.args = #[x] := by rw [← Array.toArray_toList (xs := c.args), hxs]
        have hts' : c.argTypes = #[t] := by rw [← Array.toArray_toList (xs := c.argTypes), hts]
        split
        · next h' hv =>
          obtain ⟨w', h1, h2⟩ := aclear_sound (P := P) (tt := o.type) hte hW (hS.ev x).low hv
          refine ⟨w', m, Mem.le.refl m, h2, .inl ⟨.tuple #[], ?_, .tup _ _ rfl (fun i c hi => by simp at hi)⟩⟩
          unfold execOp
          rw [hop]
          simp [resolve, hcal, hxs', hts', invoke, builtin, h1]
        · trivial
      · trivial
    · next hcal =>
      split
      · next x y hxs =>
        have hxs' : c.args = #[x, y] := by rw [← Array.toArray_toList (xs := c.args), hxs]
        split
        · next v hv =>
          unfold amax at hv
          split at hv
          · next k n k' n' e1 e2 =>
            injection hv with hv; subst hv
            have hx := hS.ev x
            have hy := hS.ev y
            rw [e1] at hx; rw [e2] at hy
            refine ⟨w, m, Mem.le.refl m, hW, .inl ⟨.int k (if n' > n then n' else n), ?_, .int _ _⟩⟩
            unfold execOp
            rw [hop]
            simp [resolve, hcal, hxs', invoke, builtin, hx.int_inv, hy.int_inv, Builtin.max_, Builtin.max2]
          · cases hv
        · trivial
      · trivial
    · next hcal =>
      split
      · next x t hxs hts =>
        have hxs' : c.args = #[x] := by rw [← Array.toArray_toList (xs := c.args), hxs]
        have hts' : c.argTypes = #[t] := by rw [← Array.toArray_toList (xs := c.argTypes), hts]
        split
        · next b o1 n k sz hti hev =>
          have hx := hS.ev x
          rw [hev] at hx
          obtain ⟨blk, ad, e1, _⟩ := hx.mc_inv
          have hu := slice_at hte hti rfl
          refine ⟨w, m, Mem.le.refl m, hW, .inl ⟨.int .i64 k, ?_, .int _ _⟩⟩
          unfold execOp
          rw [hop]
          simp [resolve, hcal, hxs', hts', invoke, builtin, e1, Builtin.cap_, run_underlying hu, goInt]
        · trivial
      · trivial
    · next hcal => exact hpure _ hop
    · trivial
  · exact hpure _ rfl
end
end Go.Proofs.YtjdocenbfghglaaGreatDoor.AW
