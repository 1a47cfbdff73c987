/- AW, part 6: operations that only compute, continued. -/
import Derived.Test.YtjdocenbfghglaaGreatDoorAw5
set_option linter.unusedSimpArgs false
set_option linter.unusedVariables false
namespace Go.Proofs.YtjdocenbfghglaaGreatDoor.AW
open Go Go.RowKit

def aint (op : BinOp) (k : IntKind) (x y : Int) : Option AV :=
  match op with
  | .add => some (.int k (k.wrap (x + y)))
  | .sub => some (.int k (k.wrap (x - y)))
  | .mul => some (.int k (k.wrap (x * y)))
  | .quo => if y = 0 then none else some (.int k (k.wrap (x.tdiv y)))
  | .rem => if y = 0 then none else some (.int k (x.tmod y))
  | .eql => some (.bool (x == y))
  | .neq => some (.bool (x != y))
  | .lss => some (.bool (decide (x < y)))
  | .leq => some (.bool (decide (x ≤ y)))
  | .gtr => some (.bool (decide (x > y)))
  | .geq => some (.bool (decide (x ≥ y)))
  | .and => some (.int k (k.wrap (BitVec.ofInt k.bits x &&& BitVec.ofInt k.bits y).toNat))
  | .or => some (.int k (k.wrap (BitVec.ofInt k.bits x ||| BitVec.ofInt k.bits y).toNat))
  | .xor => some (.int k (k.wrap (BitVec.ofInt k.bits x ^^^ BitVec.ofInt k.bits y).toNat))
  | _ => none
def astr (op : BinOp) (x y : ByteArray) : Option AV :=
  match op with
  | .add => if x.size + y.size ≤ 9223372036854775807 then some (.str (x ++ y)) else none
  | .eql => some (.bool (x.toList == y.toList))
  | .neq => some (.bool (!(x.toList == y.toList)))
  | .lss => some (.bool (Op.bytesLess x.toList y.toList))
  | .leq => some (.bool (Op.bytesLess x.toList y.toList || x.toList == y.toList))
  | .gtr => some (.bool (!(Op.bytesLess x.toList y.toList || x.toList == y.toList)))
  | .geq => some (.bool (!Op.bytesLess x.toList y.toList))
  | _ => none
def abin (op : BinOp) (a b : AV) : Option AV :=
  match a, b with
  | .int k x, .int k' y => match op with
    | .shl => if 0 ≤ y then some (.int k (k.wrap (x * 2 ^ (min y.toNat k.bits)))) else none
    | .shr => if 0 ≤ y then some (.int k (x.fdiv (2 ^ (min y.toNat k.bits)))) else none
    | _ => if k = k' then aint op k x y else none
  | .str x, .str y => astr op x y
  | _, _ => none
section
variable {P : Program} {te : TE} {w0 : Base} {w : World} {m : Mem} {h : AH}
theorem eqGuard_plain (op : BinOp) (t : TypeId) (x y : Operand) (a b : Value) (w : World) (h1 : ∀ cs, a ≠ .agg cs) (h2 : a ≠ .nilIface ∨ b ≠ .nilIface) : (eqGuard op t x y a b).run P w = .ok () w := by
  unfold eqGuard
  cases a <;> first
    | exact absurd rfl (h1 _)
    | (cases op <;> simp <;> (cases b <;> simp at h2 ⊢))
    | (cases op <;> simp)
theorem aint_sound {op : BinOp} {t : Nat} {k : IntKind} {x y : Int} {v : AV} (hv : aint op k x y = some v) : ∃ v', (binOp op t (.int k x) (.int k y)).run P w = .ok v' w ∧ VR m v v' := by
  cases op
  case add => simp [aint] at hv; subst hv; exact ⟨.int _ _, by simp [binOp, Op.intArith], .int _ _⟩
  case sub => simp [aint] at hv; subst hv; exact ⟨.int _ _, by simp [binOp, Op.intArith], .int _ _⟩
  case mul => simp [aint] at hv; subst hv; exact ⟨.int _ _, by simp [binOp, Op.intArith], .int _ _⟩
  case quo =>
    by_cases hy : y = 0
    · simp [aint, hy] at hv
    · simp [aint, hy] at hv; subst hv; exact ⟨.int _ _, by simp [binOp, Op.intDiv, hy], .int _ _⟩
  case rem =>
    by_cases hy : y = 0
    · simp [aint, hy] at hv
    · simp [aint, hy] at hv; subst hv; exact ⟨.int _ _, by simp [binOp, Op.intDiv, hy], .int _ _⟩
  case eql => simp [aint] at hv; subst hv; exact ⟨.bool _, by simp [binOp, Op.intCmp], .bool _⟩
  case neq => simp [aint] at hv; subst hv; exact ⟨.bool _, by simp [binOp, Op.intCmp], .bool _⟩
  case lss => simp [aint] at hv; subst hv; exact ⟨.bool _, by simp [binOp, Op.intCmp], .bool _⟩
  case leq => simp [aint] at hv; subst hv; exact ⟨.bool _, by simp [binOp, Op.intCmp], .bool _⟩
  case gtr => simp [aint] at hv; subst hv; exact ⟨.bool _, by simp [binOp, Op.intCmp], .bool _⟩
  case geq => simp [aint] at hv; subst hv; exact ⟨.bool _, by simp [binOp, Op.intCmp], .bool _⟩
  case and => simp [aint] at hv; subst hv; exact ⟨.int _ _, by simp [binOp, Op.intBits], .int _ _⟩
  case or => simp [aint] at hv; subst hv; exact ⟨.int _ _, by simp [binOp, Op.intBits], .int _ _⟩
  case xor => simp [aint] at hv; subst hv; exact ⟨.int _ _, by simp [binOp, Op.intBits], .int _ _⟩
  all_goals simp [aint] at hv
theorem astr_sound {op : BinOp} {t : Nat} {x y : ByteArray} {v : AV} (hv : astr op x y = some v) : ∃ v', (binOp op t (.string x) (.string y)).run P w = .ok v' w ∧ VR m v v' := by
  cases op
  case add =>
    by_cases hl : x.size + y.size ≤ 9223372036854775807
    · simp [astr, hl] at hv; subst hv
      have hl2 : ¬ ((((x.size + y.size : Nat) : Int)) > IntKind.i64.max) := by
        have : IntKind.i64.max = 9223372036854775807 := rfl
        rw [this]; omega
      exact ⟨.string _, by simp only [binOp, Op.stringOp, if_neg hl2, Sem.run_pure], .str _⟩
    · simp [astr, hl] at hv
  case eql => simp [astr] at hv; subst hv; exact ⟨.bool _, by simp [binOp, Op.stringOp], .bool _⟩
  case neq => simp [astr] at hv; subst hv; exact ⟨.bool _, by simp [binOp, Op.stringOp], .bool _⟩
  case lss => simp [astr] at hv; subst hv; exact ⟨.bool _, by simp [binOp, Op.stringOp], .bool _⟩
  case leq => simp [astr] at hv; subst hv; exact ⟨.bool _, by simp [binOp, Op.stringOp], .bool _⟩
  case gtr => simp [astr] at hv; subst hv; exact ⟨.bool _, by simp [binOp, Op.stringOp], .bool _⟩
  case geq => simp [astr] at hv; subst hv; exact ⟨.bool _, by simp [binOp, Op.stringOp], .bool _⟩
  all_goals simp [astr] at hv
theorem abin_sound {op : BinOp} {t : Nat} {ox oy : Operand} {a b v : AV} {a' b' : Value} (ha : VR m a a') (hb : VR m b b') (hv : abin op a b = some v) :
    ∃ v', (do eqGuard op t ox oy a' b'; binOp op t a' b' : Sem Value).run P w = .ok v' w ∧ VR m v v' := by
  unfold abin at hv
  split at hv
  · next k x k' y =>
    obtain rfl := ha.int_inv
    obtain rfl := hb.int_inv
    have hg : (eqGuard op t ox oy (.int k x) (.int k' y)).run P w = .ok () w := eqGuard_plain op t ox oy _ _ w (fun _ e => by cases e) (.inl (fun e => by cases e))
    simp only [Sem.run_bind, hg, Result.andThen_ok]
    split at hv
    · split at hv
      · next hy => injection hv with hv; subst hv; exact ⟨_, by simp [binOp, Op.shift, Int.not_lt.2 hy], .int _ _⟩
      · cases hv
    · split at hv
      · next hy => injection hv with hv; subst hv; exact ⟨_, by simp [binOp, Op.shift, Int.not_lt.2 hy], .int _ _⟩
      · cases hv
    · split at hv
      · next n1 n2 hk =>
        subst hk
        exact aint_sound hv
      · cases hv
  · next x y =>
    obtain rfl := ha.str_inv
    obtain rfl := hb.str_inv
    have hg : (eqGuard op t ox oy (.string x) (.string y)).run P w = .ok () w := eqGuard_plain op t ox oy _ _ w (fun _ e => by cases e) (.inl (fun e => by cases e))
    simp only [Sem.run_bind, hg, Result.andThen_ok]
    exact astr_sound hv
  · cases hv

/-! Structs built, parts taken. -/
def afill (place : Nat → Option (Nat × Nat)) (cs : List AV) : List (Nat × AV) → Option (List AV)
  | [] => some cs
  | (i, v) :: rest => match place i with
    | none => none
    | some (off, size) => if v.cells.length = size ∧ off + size ≤ cs.length then afill place (cs.take off ++ v.cells ++ cs.drop (off + size)) rest else none
def fieldPlaces (te : TE) (fs : List (Nat × Nat)) (i : Nat) : Option (Nat × Nat) :=
  match fs[i]? with
  | some (off, ft) => match te ft with
    | some ti => some (off, ti.size)
    | none => none
  | none => none
def abuild (te : TE) (t : Nat) (parts : List (Nat × AV)) : Option AV :=
  match te t with
  | some i => match i.k with
    | .struct fs => if (fs.all fun f => (te f.2).isSome) then (match afill (fieldPlaces te fs) i.av.cells parts with | some cs => some (.agg cs) | none => none) else none
    | _ => none
  | none => none

/-- One value's cells laid over an array: each place holds what it held, or the value's cell. -/
theorem fold_cells (cs : Array Value) (off : Nat) (v : List Value) (n : Nat) (hn : off + n + v.length ≤ cs.size) :
    ∀ j : Nat, ((v.zipIdx n).foldl (fun (a : Array Value) x => a.setIfInBounds (off + x.2) x.1) cs)[j]? = if off + n ≤ j ∧ j < off + n + v.length then v[j - (off + n)]? else cs[j]? := by
  induction v generalizing cs n with
  | nil => intro j; simp only [List.zipIdx_nil, List.foldl_nil, List.length_nil]; rw [if_neg (by omega)]
  | cons x v ih =>
    intro j
    simp only [List.length_cons] at hn
    rw [List.zipIdx_cons, List.foldl_cons, ih _ _ (by simp; omega) j]
    by_cases h1 : off + (n + 1) ≤ j ∧ j < off + (n + 1) + v.length
    · rw [if_pos h1, if_pos (by simp only [List.length_cons]; omega), show j - (off + n) = (j - (off + (n + 1))) + 1 by omega, List.getElem?_cons_succ]
    · rw [if_neg h1]
      by_cases h2 : j = off + n
      · subst h2
        rw [if_pos (by simp only [List.length_cons]; omega)]
        have : off + n < cs.size := by omega
        simp [this]
      · rw [if_neg (by simp only [List.length_cons]; omega)]
        simp [Array.getElem?_setIfInBounds, Ne.symm h2]
theorem fold_cells_size (cs : Array Value) (off : Nat) (v : List Value) (n : Nat) : ((v.zipIdx n).foldl (fun (a : Array Value) x => a.setIfInBounds (off + x.2) x.1) cs).size = cs.size := by
  induction v generalizing cs n with
  | nil => rfl
  | cons x v ih => rw [List.zipIdx_cons, List.foldl_cons, ih]; simp

def AV.isDead : AV → Bool | .dead => true | .opt _ _ => true | _ => false
theorem VR.cells' {m : Mem} {c : AV} {v : Value} (h : VR m c v) (hd : c.isDead = false) : v.cells.size = c.cells.length ∧ (∀ (j : Nat) (x : AV), c.cells[j]? = some x → VR m x (v.cells.getD j undef)) := by
  cases h <;> first
    | (refine ⟨rfl, fun j x hj => ?_⟩
       cases j with
       | zero => simp [AV.cells] at hj; subst hj; first | exact .int _ _ | exact .bool _ | exact .str _ | exact .nilp | exact .nilf | exact .nili | (rename_i hq; exact .ptr _ _ _ hq) | (exact .rptr _ _ _ _ ‹_› ‹_›) | (exact .slnil _ _ ‹_›) | (exact .slemp _ _ _ ‹_› ‹_›) | (exact .sl _ _ _ _ _ _ _ ‹_› ‹_› ‹_› ‹_› ‹_› ‹_›) | (exact .ms _ _ _ _ _ _ _ ‹_› ‹_› ‹_› ‹_›) | (exact .mc _ _ _ _ _ _ _ ‹_› ‹_› ‹_› ‹_›) | (exact .fn _ _ _ _ _ ‹_› ‹_› ‹_› ‹_›) | (exact .iface _ _ _ ‹_›) | (exact .tup _ _ ‹_› ‹_›)
       | succ j => simp [AV.cells] at hj)
    | exact ⟨‹_›, ‹_›⟩
    | exact absurd hd (by simp [AV.isDead])

theorem afill_sound {place : Nat → Option (Nat × Nat)} {pc : Nat → Option (Nat × Nat)} (hp : ∀ i x, place i = some x → pc i = some x) : ∀ (parts : List (Nat × AV)) (parts' : List (Nat × Value)) (cs : List AV) (cs' : Array Value) (r : List AV),
    parts'.length = parts.length → (∀ (i : Nat) (p : Nat × AV) (p' : Nat × Value), parts[i]? = some p → parts'[i]? = some p' → p.1 = p'.1 ∧ VR m p.2 p'.2 ∧ p.2.isDead = false) →
    cs'.size = cs.length → (∀ (j : Nat) (c : AV), cs[j]? = some c → VR m c (cs'.getD j undef)) → afill place cs parts = some r →
    ∃ r', Instr.fill pc cs' parts' = some r' ∧ r'.size = r.length ∧ (∀ (j : Nat) (c : AV), r[j]? = some c → VR m c (r'.getD j undef)) ∧ r.length = cs.length := by
  intro parts
  induction parts with
  | nil =>
    intro parts' cs cs' r hl _ hs hr hf
    have : parts' = [] := List.eq_nil_of_length_eq_zero (by simpa using hl)
    subst this
    simp [afill] at hf; subst hf
    exact ⟨cs', rfl, hs, hr, rfl⟩
  | cons p parts ih =>
    intro parts' cs cs' r hl hrel hs hr hf
    cases parts' with
    | nil => simp at hl
    | cons p' parts' =>
      obtain ⟨i, v⟩ := p
      obtain ⟨i', v'⟩ := p'
      obtain ⟨e1, e2, e3⟩ := hrel 0 (i, v) (i', v') rfl rfl
      change i = i' at e1
      subst e1
      simp only [afill] at hf
      split at hf
      · cases hf
      · next off size hpl =>
        split at hf
        · next hsz =>
          obtain ⟨hsz, hfit⟩ := hsz
          obtain ⟨c1, c2⟩ := VR.cells' e2 e3
          change v'.cells.size = v.cells.length at c1
          have hpc := hp i _ hpl
          have hgo : ¬ (v'.cells.size ≠ size ∨ off + v'.cells.size > cs'.size) := by omega
          have hfe : ∀ (a : Array Value), (v'.cells.zipIdx.foldl (fun cs (x : Value × Nat) => cs.setIfInBounds (off + x.2) x.1) a) = ((v'.cells.toList.zipIdx 0).foldl (fun (cs : Array Value) x => cs.setIfInBounds (off + x.2) x.1) a) := by
            intro a
            rw [← Array.foldl_toList, Array.toList_zipIdx]
          have hlen : v'.cells.toList.length = size := by simp; omega
          have hget := fold_cells cs' off v'.cells.toList 0 (by omega)
          have hsize := fold_cells_size cs' off v'.cells.toList 0
          obtain ⟨r', q1, q2, q3, q4⟩ := ih parts' (cs.take off ++ v.cells ++ cs.drop (off + size)) (v'.cells.zipIdx.foldl (fun cs (x : Value × Nat) => cs.setIfInBounds (off + x.2) x.1) cs') r (by simpa using hl)
            (fun k q q' hq hq' => hrel (k + 1) q q' (by simpa using hq) (by simpa using hq'))
            (by rw [hfe, hsize]; simp; omega)
            (fun j c hj => by
              rw [hfe, Array.getD_eq_getD_getElem?, hget j]
              have hx : (cs.take off ++ v.cells ++ cs.drop (off + size))[j]? = if off ≤ j ∧ j < off + size then v.cells[j - off]? else cs[j]? := by
                by_cases g1 : j < off
                · rw [if_neg (by omega), List.append_assoc, List.getElem?_append_left (by simp; omega), List.getElem?_take, if_pos g1]
                · by_cases g2 : j < off + size
                  · rw [if_pos (by omega), List.append_assoc, List.getElem?_append_right (by simp; omega), List.getElem?_append_left (by simp; omega)]
                    congr 1; simp; omega
                  · rw [if_neg (by omega), List.getElem?_append_right (by simp; omega), List.getElem?_drop]
                    congr 1; simp; omega
              rw [hx] at hj
              simp only [Nat.add_zero, hlen]
              split at hj
              · next hc =>
                rw [if_pos hc]
                have := c2 _ _ hj
                simpa [Array.getD_eq_getD_getElem?] using this
              · next hc =>
                rw [if_neg hc]
                have := hr _ _ hj
                simpa [Array.getD_eq_getD_getElem?] using this)
            hf
          refine ⟨r', ?_, q2, q3, by rw [q4]; simp; omega⟩
          simp only [Instr.fill, hpc]
          rw [if_neg (by simpa using hgo)]
          exact q1
        · cases hf
theorem places_run (hte : te.ok P) (w : World) : ∀ (fa : List Field), (∀ f ∈ fa, (te f.type).isSome = true) →
    (fa.mapM fun f => do pure (f.offset, ← sizeOf f.type) : Sem (List (Nat × Nat))).run P w = .ok (fa.map fun f => (f.offset, ((te f.type).map TI.size).getD 0)) w := by
  intro fa
  induction fa with
  | nil => intro _; simp
  | cons f fa ih =>
    intro hall
    obtain ⟨i, hi⟩ := Option.isSome_iff_exists.1 (hall f (by simp))
    simp only [List.mapM_cons, Sem.run_bind, run_sizeOf hte hi, Result.andThen_ok, Sem.run_pure]
    rw [ih (fun g hg => hall g (by simp [hg]))]
    simp [hi]
theorem abuild_sound (hte : te.ok P) {t : Nat} {parts : List (Nat × AV)} {parts' : Array (Nat × Value)} {v : AV} (hl : parts'.size = parts.length)
    (hrel : ∀ (i : Nat) (p : Nat × AV) (p' : Nat × Value), parts[i]? = some p → parts'.toList[i]? = some p' → p.1 = p'.1 ∧ VR m p.2 p'.2 ∧ p.2.isDead = false) (hv : abuild te t parts = some v) :
    ∃ v', (Instr.build t parts').run P w = .ok v' w ∧ VR m v v' := by
  unfold abuild at hv
  split at hv
  · next i hi =>
    split at hv
    · next fs hk =>
      split at hv
      · next hall =>
        split at hv
        · next cs hcs =>
          injection hv with hv; subst hv
          obtain ⟨fa, hu, hm⟩ := struct_at hte hi hk
          obtain ⟨z, hz, hz1, hz2, hz3, hz4, hz5⟩ := hte.zero hi m
          have hall2 : ∀ f ∈ fa.toList, (te f.type).isSome = true := by
            intro f hf
            have := List.all_eq_true.1 hall (f.offset, f.type) (by rw [← hm]; exact List.mem_map.2 ⟨f, hf, rfl⟩)
            exact this
          have hpl := places_run hte w fa.toList hall2
          have hmapM : (fa.mapM fun f => do pure (f.offset, ← sizeOf f.type) : Sem (Array (Nat × Nat))).run P w = .ok (fa.toList.map fun f => (f.offset, ((te f.type).map TI.size).getD 0)).toArray w := by
            rw [← Array.toArray_toList (xs := fa), List.mapM_toArray]
            simp only [Sem.run_map, hpl, Result.andThen_ok]
          obtain ⟨r', q1, q2, q3, q4⟩ := afill_sound (m := m) (place := fieldPlaces te fs) (pc := fun i => (fa.toList.map fun f => (f.offset, ((te f.type).map TI.size).getD 0)).toArray[i]?)
            (fun i x hx => by
              unfold fieldPlaces at hx
              split at hx
              · next off ft hf =>
                split at hx
                · next ti hti =>
                  injection hx with hx; subst hx
                  rw [← hm, List.getElem?_map] at hf
                  cases hfa : fa.toList[i]? with
                  | none => rw [hfa] at hf; cases hf
                  | some f =>
                    rw [hfa] at hf; injection hf with hf; injection hf with e1 e2
                    subst e1 e2
                    simp at hfa
                    simp [hfa, hti]
                · cases hx
              · cases hx)
            parts parts'.toList i.av.cells z.cells cs (by simpa using hl) hrel (by omega) hz4 hcs
          refine ⟨.agg r', ?_, .agg _ _ q2 q3⟩
          simp only [Instr.build, Sem.run_bind, hz, Result.andThen_ok, run_underlying hu, hmapM]
          rw [q1]
          rfl
        · cases hv
      · cases hv
    · cases hv
  · cases hv
end
end Go.Proofs.YtjdocenbfghglaaGreatDoor.AW
