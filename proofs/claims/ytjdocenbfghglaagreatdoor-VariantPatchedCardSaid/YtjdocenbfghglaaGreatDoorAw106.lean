/- AW, part 10 (b): cells behind a slice; copy, clear, make; bytes and strings. -/
import Derived.Test.YtjdocenbfghglaaGreatDoorAw105
import Derived.Laws.BytesString
import Derived.Lib.ConvBytes
set_option linter.unusedSimpArgs false
set_option linter.unusedVariables false
namespace Go.Proofs.YtjdocenbfghglaaGreatDoor.AW
open Go Go.RowKit

/-- How many elements a slice has, and their cells. -/
def cellsOf (h : AH) (sz : Nat) : AV → Option (Nat × List AV)
  | .sl _ sz' xs => if xs = [] ∨ sz' = sz then some (xs.length, xs.flatMap AV.cells) else none
  | .ms b o n sz' => if sz' = sz then (match h.box b with
    | some cs => if o + n * sz ≤ cs.length then some (n, (cs.drop o).take (n * sz)) else none
    | none => none) else none
  | _ => none
structure Reads (P : Program) (m : Mem) (w : World) (sz n : Nat) (ys : List AV) (x' : Value) (L : List Value) : Prop where
  len : ys.length = n * sz
  lenL : L.length = n * sz
  lenOf : ∀ w, (Builtin.lenOf x').run P w = .ok n w
  rel : ∀ (j : Nat) (c : AV), ys[j]? = some c → VR m c (L.getD j undef)
  one : ∀ v ∈ L, v.oneCell' = true
  first : ∀ k, k ≤ n → (Builtin.firstCells sz k x').run P w = .ok (L.take (k * sz)).toArray w
  form : ∃ a c, x' = .slice a n c ∧ (a = none → n = 0)

section
variable {P : Program} {te : TE} {w0 : Base} {w : World} {m : Mem} {h : AH}
theorem first_zero {sz c : Nat} {a : Option Addr} : (Builtin.firstCells sz 0 (.slice a 0 c)).run P w = .ok #[] w := by
  cases a with
  | none => simp [Builtin.firstCells]
  | some a => simp [Builtin.firstCells, loadCells, loadCellsFrom]
theorem first_zero' {sz n c : Nat} {a : Option Addr} : (Builtin.firstCells sz 0 (.slice a n c)).run P w = .ok #[] w := by
  cases a with
  | none => simp [Builtin.firstCells]
  | some a => simp [Builtin.firstCells, loadCells, loadCellsFrom]
theorem cellsOf_sound (hW : WR w0 m w h) {sz n : Nat} {x : AV} {x' : Value} {ys : List AV} (hsz : 0 < sz) (hx : VR m x x') (hv : cellsOf h sz x = some (n, ys)) : ∃ L, Reads P m w sz n ys x' L := by
  unfold cellsOf at hv
  split at hv
  · next tag sz' xs =>
    split at hv
    case isFalse => cases hv
    next hs =>
    injection hv with hv; injection hv with e1 e2; subst e1 e2
    obtain ⟨base, cap, f, rfl, hr, hc, hb⟩ := hx.row
    by_cases hne : xs = []
    · subst hne
      refine ⟨[], by simp, by simp, fun w => by simp [Builtin.lenOf], fun j c hj => by simp at hj, (fun v hv => by cases hv), fun k hk => ?_, base, cap, rfl, fun _ => rfl⟩
      have : k = 0 := by simpa using hk
      subst this
      simpa using first_zero
    · have hs' : sz' = sz := hs.resolve_left hne
      subst hs'
      obtain ⟨blk, o, rfl, hk0⟩ := hr.at_ hne
      have hfl := flatCells_get hsz hr.len
      refine ⟨flat sz' xs.length f, hfl.1, flat_length _ _ _, fun w => by simp [Builtin.lenOf], fun j c hj => ?_, hr.one hW, fun k hk => ?_, _, cap, rfl, fun e => by cases e⟩
      · obtain ⟨x, h1, h2⟩ := hfl.2 j c hj
        have hdiv : j / sz' < xs.length := (List.getElem?_eq_some_iff.1 h1).1
        have hat := flat_at f hdiv (Nat.mod_lt j hsz)
        have hdm : j / sz' * sz' + j % sz' = j := by rw [Nat.mul_comm]; exact Nat.div_add_mod j sz'
        rw [hdm] at hat
        rw [List.getD_eq_getElem?_getD, hat]
        exact hr.rel _ _ h1 _ _ h2
      · have hkl : k * sz' ≤ xs.length * sz' := Nat.mul_le_mul_right _ hk
        refine run_firstCells_some (P := P) w sz' k ⟨blk, o, none⟩ xs.length cap _ (by rw [List.length_take, flat_length]; omega) (fun j v hj => ?_)
        rw [List.getElem?_take] at hj
        split at hj
        · exact hr.cells hW rfl j v hj
        · cases hj
  · next b o nn sz' =>
    split at hv
    case isFalse => cases hv
    next hs =>
    subst hs
    split at hv
    case h_2 => cases hv
    next cs hb =>
    split at hv
    case isFalse => cases hv
    next hfit =>
    injection hv with hv; injection hv with e1 e2; subst e1 e2
    obtain ⟨blk, cap, a, rfl, hM, ha, hc⟩ := hx.ms_inv
    obtain ⟨bk, arr, ty, fr, q1, q2, q3⟩ := hW.box b cs hb
    rw [hM] at q1; injection q1 with q1; subst q1
    have hsize := q3.size
    refine ⟨(List.range (nn * sz')).map fun j => arr.getD (o + j) undef, by simp; omega, by simp, fun w => by simp [Builtin.lenOf], fun j c hj => ?_, fun v hv => ?_, fun k hk => ?_, a, cap, rfl, fun e => ?_⟩
    · rw [List.getElem?_take] at hj
      split at hj
      · next hlt =>
        rw [List.getElem?_drop] at hj
        rw [List.getD_eq_getElem?_getD, List.getElem?_map, List.getElem?_range hlt]
        exact q3.rel _ _ hj
      · cases hj
    · obtain ⟨j, hj, rfl⟩ := List.mem_map.1 hv
      exact q3.one _ (by have := List.mem_range.1 hj; omega)
    · by_cases hk0 : k = 0
      · subst hk0; simpa using first_zero'
      · have hkl : k * sz' ≤ nn * sz' := Nat.mul_le_mul_right _ hk
        rw [ha (by omega)]
        refine run_firstCells_some (P := P) w sz' k ⟨blk, o, none⟩ nn cap _ (by rw [List.length_take, List.length_map, List.length_range]; omega) (fun j v hj => ?_)
        rw [List.getElem?_take] at hj
        split at hj
        · next hlt =>
          have hlt2 : j < nn * sz' := by omega
          rw [List.getElem?_map, List.getElem?_range hlt2] at hj
          simp only [Option.map_some, Option.some.injEq] at hj
          rw [add_none, cell_of_blk q3.here, ← hj, Array.getD_eq_getD_getElem?, Array.getElem?_eq_getElem (by omega)]
          rfl
        · cases hj
    · rcases Nat.eq_zero_or_pos nn with h0 | h0
      · exact h0
      · rw [ha h0] at e; cases e
  · cases hv

/-! Laying cells over a box. -/
theorem lay_box (hW : WR w0 m w h) {b o : Nat} {cs ys : List AV} {blk : Nat} {L : List Value} (hb : h.box b = some cs) (hM : m.M b = some blk) (hl : ys.length = L.length) (hr : ∀ (j : Nat) (c : AV), ys[j]? = some c → VR m c (L.getD j undef))
    (h1 : ∀ v ∈ L, v.oneCell' = true) (hfit : o + ys.length ≤ cs.length) :
    ∃ w', (storeCells ⟨blk, o, none⟩ L).run P w = .ok () w' ∧ WR w0 m w' (h.set b (cs.take o ++ ys ++ cs.drop (o + ys.length))) := by
  obtain ⟨bk, arr, ty, fr, q1, q2, q3⟩ := hW.box b cs hb
  rw [hM] at q1; injection q1 with q1; subst q1
  have hsz := q3.size
  have hfit' : o + L.length ≤ arr.size := by omega
  have hrun := run_storeCells_blk (P := P) blk o ty fr L 0 arr w q3.here q3.free (by simpa using hfit') h1
  simp only [Nat.add_zero] at hrun
  have hget := splice_get L arr o
  have hsize := splice_size L arr o
  refine ⟨_, hrun, hW.setBox (arr' := splice arr o L) hb hM q3.here hsize ?_ ?_ ?_⟩
  · simp; omega
  · intro j c hj
    rw [Array.getD_eq_getD_getElem?, hget j hfit']
    have hx : (cs.take o ++ ys ++ cs.drop (o + ys.length))[j]? = if o ≤ j ∧ j < o + ys.length then ys[j - o]? else cs[j]? := by
      by_cases g1 : j < o
      · rw [if_neg (by omega), List.append_assoc, List.getElem?_append_left (by simp; omega), List.getElem?_take, if_pos g1]
      · by_cases g2 : j < o + ys.length
        · rw [if_pos (by omega), List.append_assoc, List.getElem?_append_right (by simp; omega), List.getElem?_append_left (by simp; omega)]
          congr 1; simp; omega
        · rw [if_neg (by omega), List.getElem?_append_right (by simp; omega), List.getElem?_drop]
          congr 1; simp; omega
    rw [hx] at hj
    rw [← hl]
    split at hj
    · next hc =>
      rw [if_pos hc, ← List.getD_eq_getElem?_getD]
      exact hr _ _ hj
    · next hc =>
      rw [if_neg hc]
      have := q3.rel _ _ hj
      rw [Array.getD_eq_getD_getElem?] at this
      exact this
  · intro j hj
    rw [hsize] at hj
    rw [Array.getD_eq_getD_getElem?, hget j hfit']
    split
    · next hc =>
      have hlt : j - o < L.length := by omega
      rw [List.getElem?_eq_getElem hlt]
      exact h1 _ (List.getElem_mem hlt)
    · have := q3.one j hj
      rw [Array.getD_eq_getD_getElem?] at this
      exact this

/-- copy(d, x) -/
def acopy (te : TE) (h : AH) (t : Nat) (d x : AV) : Option (AV × AH) :=
  match te t with
  | some ⟨.slice e, _, _, _⟩ => (match te e with
    | some ei => if ei.size = 0 then none else (match d, cellsOf h ei.size x with
      | .ms b o n sz, some (k, ys) => if sz = ei.size then (if min k n = 0 then some (.int .i64 0, h) else (match h.box b with
        | some cs => if o + n * sz ≤ cs.length then some (.int .i64 (min k n : Nat), h.set b (cs.take o ++ ys.take (min k n * sz) ++ cs.drop (o + (ys.take (min k n * sz)).length))) else none
        | none => none)) else none
      | .sl _ _ [], some (k, ys) => some (.int .i64 0, h)
      | _, _ => none)
    | none => none)
  | _ => none
theorem store_nil (a : Addr) : (storeCells a ([] : List Value)).run P w = .ok () w := by simp [storeCells]
theorem acopy_sound (hte : te.ok P) (hW : WR w0 m w h) {t xt tt : Nat} {d x v : AV} {d' x' : Value} {h' : AH} (hd : VR m d d') (hx : VR m x x') (hv : acopy te h t d x = some (v, h')) :
    ∃ v' w', (Builtin.copy_ #[t, xt] tt #[d', x']).run P w = .ok v' w' ∧ VR m v v' ∧ WR w0 m w' h' := by
  unfold acopy at hv
  split at hv
  case h_2 => cases hv
  next e s1 b1 z1 hi =>
  split at hv
  case h_2 => cases hv
  next ei hei =>
  split at hv
  case isTrue => cases hv
  next hz =>
  have hu := slice_at hte hi rfl
  have hzp : 0 < ei.size := by omega
  split at hv
  · next b o n sz k ys hc =>
    obtain ⟨L, hR⟩ := cellsOf_sound (P := P) hW hzp hx hc
    split at hv
    case isFalse => cases hv
    next hs =>
    subst hs
    obtain ⟨blk, cap, a, rfl, hM, ha, hcap⟩ := hd.ms_inv
    split at hv
    · next hm0 =>
      injection hv with hv; injection hv with e1 e2; subst e1 e2
      refine ⟨.int .i64 0, w, ?_, .int _ _, hW⟩
      have h0 : Nat.min k n = 0 := hm0
      have hf := hR.first 0 (Nat.zero_le _)
      simp at hf
      cases a <;> simp [Builtin.copy_, run_underlying hu, hR.lenOf, h0, run_sizeOf hte hei, hf, store_nil, goInt]
    · next hm0 =>
      split at hv
      case h_2 => cases hv
      next cs hb =>
      split at hv
      case isFalse => cases hv
      next hfit =>
      injection hv with hv; injection hv with e1 e2; subst e1 e2
      have hle1 : min k n ≤ k := Nat.min_le_left _ _
      have hle2 : min k n ≤ n := Nat.min_le_right _ _
      have hmul : min k n * ei.size ≤ n * ei.size := Nat.mul_le_mul_right _ hle2
      have hmul1 : min k n * ei.size ≤ k * ei.size := Nat.mul_le_mul_right _ hle1
      have hlen := hR.len
      have hlenL := hR.lenL
      obtain ⟨w', h1, h2⟩ := lay_box (P := P) (o := o) (ys := ys.take (min k n * ei.size)) (L := L.take (min k n * ei.size)) hW hb hM (by simp; omega) (fun j c hj => by
        rw [List.getElem?_take] at hj
        split at hj
        · next hlt =>
          have := hR.rel j c hj
          rw [List.getD_eq_getElem?_getD] at this
          rw [List.getD_eq_getElem?_getD, List.getElem?_take, if_pos hlt]; exact this
        · cases hj) (fun v hv => hR.one v (List.mem_of_mem_take hv)) (by rw [List.length_take]; omega)
      refine ⟨.int .i64 (min k n : Nat), w', ?_, .int _ _, h2⟩
      have hf := hR.first (min k n) hle1
      have hpos : 0 < n := by omega
      rw [ha hpos]
      simp [Builtin.copy_, run_underlying hu, hR.lenOf, run_sizeOf hte hei]
      rw [show Nat.min k n = min k n from rfl, hf]
      simp [h1, goInt]
  · next k ys hc =>
    obtain ⟨L, hR⟩ := cellsOf_sound (P := P) hW hzp hx hc
    injection hv with hv; injection hv with e1 e2; subst e1 e2
    refine ⟨.int .i64 0, w, ?_, .int _ _, hW⟩
    have hf := hR.first 0 (Nat.zero_le _)
    simp at hf
    rcases hd.sl_inv with ⟨_, ⟨a, rfl, _⟩, _⟩ | ⟨blk, o, cap, f, rfl, _⟩
    · cases a <;> simp [Builtin.copy_, run_underlying hu, hR.lenOf, run_sizeOf hte hei, hf, store_nil, goInt]
    · simp [Builtin.copy_, run_underlying hu, hR.lenOf, run_sizeOf hte hei, hf, store_nil, goInt]
  · cases hv

/-- Zero values, so many of a type. -/
def zeros (zc : List AV) (n : Nat) : List AV := (List.range (n * zc.length)).map fun q => zc.getD (q % zc.length) .dead
theorem zeros_length (zc : List AV) (n : Nat) : (zeros zc n).length = n * zc.length := by simp [zeros]
/-- clear(x) -/
def aclear (te : TE) (h : AH) (t : Nat) (x : AV) : Option AH :=
  match te t with
  | some ⟨.slice e, _, _, _⟩ => (match te e with
    | some ei => if ei.size = 0 then none else (match x with
      | .ms b o n sz => if sz = ei.size then (if n = 0 then some h else (match h.box b with
        | some cs => if o + n * sz ≤ cs.length then some (h.set b (cs.take o ++ zeros ei.av.cells n ++ cs.drop (o + (zeros ei.av.cells n).length))) else none
        | none => none)) else none
      | .sl _ _ [] => some h
      | _ => none)
    | none => none)
  | _ => none
theorem zeros_rel {zc : List AV} {z : Value} {sz : Nat} (hz2 : z.cells.size = sz) (hz3 : zc.length = sz) (hsz : 0 < sz) (hz4 : ∀ (j : Nat) (c : AV), zc[j]? = some c → VR m c (z.cells.getD j undef)) (hz5 : ∀ j : Nat, j < z.cells.size → (z.cells.getD j undef).oneCell' = true) (n : Nat) (f : Nat → Value) (hf : ∀ q, q < n * sz → f q = z.cells.getD (q % sz) undef) :
    (∀ (j : Nat) (c : AV), (zeros zc n)[j]? = some c → VR m c (((List.range (n * sz)).map f).getD j undef)) ∧ ∀ v ∈ (List.range (n * sz)).map f, v.oneCell' = true := by
  refine ⟨fun j c hj => ?_, fun v hv => ?_⟩
  · unfold zeros at hj
    rw [List.getElem?_map, hz3] at hj
    by_cases hlt : j < n * sz
    · rw [List.getElem?_range hlt] at hj
      simp only [Option.map_some, Option.some.injEq] at hj
      rw [List.getD_eq_getElem?_getD, List.getElem?_map, List.getElem?_range hlt]
      simp only [Option.map_some, Option.getD_some]
      rw [hf j hlt]
      have hm : j % sz < zc.length := by rw [hz3]; exact Nat.mod_lt _ hsz
      refine hz4 _ _ ?_
      rw [← hj, List.getD_eq_getElem?_getD, List.getElem?_eq_getElem hm]; rfl
    · rw [List.getElem?_eq_none (by simpa using hlt)] at hj; cases hj
  · obtain ⟨q, hq, rfl⟩ := List.mem_map.1 hv
    rw [hf q (List.mem_range.1 hq)]
    exact hz5 _ (by rw [hz2]; exact Nat.mod_lt _ hsz)
theorem zeroCells_list {z : Value} {sz n : Nat} (hz2 : z.cells.size = sz) (hsz : 0 < sz) : (Builtin.zeroCells z.cells n).toList = (List.range (n * sz)).map fun q => z.cells.getD (q % sz) undef := by
  unfold Builtin.zeroCells
  rw [hz2]
  simp only [Array.toList_map, Array.toList_range]
  refine List.map_congr_left fun q hq => ?_
  have hm : q % sz < z.cells.size := by rw [hz2]; exact Nat.mod_lt _ hsz
  rw [getElem!_pos z.cells _ hm, Array.getD_eq_getD_getElem?, Array.getElem?_eq_getElem hm]; rfl
theorem aclear_sound (hte : te.ok P) (hW : WR w0 m w h) {t tt : Nat} {x : AV} {x' : Value} {h' : AH} (hx : VR m x x') (hv : aclear te h t x = some h') :
    ∃ w', (Builtin.clear_ #[t] tt #[x']).run P w = .ok (.tuple #[]) w' ∧ WR w0 m w' h' := by
  unfold aclear at hv
  split at hv
  case h_2 => cases hv
  next e s1 b1 z1 hi =>
  split at hv
  case h_2 => cases hv
  next ei hei =>
  split at hv
  case isTrue => cases hv
  next hz =>
  have hu := slice_at hte hi rfl
  have hzp : 0 < ei.size := by omega
  split at hv
  · next b o n sz =>
    split at hv
    case isFalse => cases hv
    next hs =>
    subst hs
    obtain ⟨blk, cap, a, rfl, hM, ha, hcap⟩ := hx.ms_inv
    split at hv
    · next hn =>
      injection hv with hv; subst hv hn
      refine ⟨w, ?_, hW⟩
      cases a <;> simp [Builtin.clear_, run_underlying hu]
    · next hn =>
      split at hv
      case h_2 => cases hv
      next cs hb =>
      split at hv
      case isFalse => cases hv
      next hfit =>
      injection hv with hv; subst hv
      obtain ⟨z, hz0, hz1, hz2, hz3, hz4, hz5⟩ := hte.zero hei m
      obtain ⟨hzr1, hzr2⟩ := zeros_rel hz2 hz3 hzp hz4 hz5 n (fun q => z.cells.getD (q % ei.size) undef) (fun q _ => rfl)
      obtain ⟨w', h1, h2⟩ := lay_box (P := P) (o := o) (ys := zeros ei.av.cells n) (L := (List.range (n * ei.size)).map fun q => z.cells.getD (q % ei.size) undef) hW hb hM (by rw [zeros_length, hz3]; simp) hzr1 hzr2 (by rw [zeros_length, hz3]; omega)
      refine ⟨w', ?_, h2⟩
      have hpos : 0 < n := by omega
      rw [ha hpos]
      obtain ⟨n0, rfl⟩ : ∃ n0, n = n0 + 1 := ⟨n - 1, by omega⟩
      simp only [Builtin.clear_, Sem.run_bind, run_underlying hu, Result.andThen_ok, hz0]
      simp only [List.getElem?_toArray, List.getElem?_cons_zero, Sem.run_bind, run_underlying hu, Result.andThen_ok, hz0]
      rw [zeroCells_list hz2 hzp, h1]
      simp
  · injection hv with hv; subst hv
    refine ⟨w, ?_, hW⟩
    rcases hx.sl_inv with ⟨_, ⟨a, rfl, _⟩, _⟩ | ⟨blk, o, cap, f, rfl, _⟩
    · cases a <;> simp [Builtin.clear_, run_underlying hu]
    · simp [Builtin.clear_, run_underlying hu]
  · cases hv
end
end Go.Proofs.YtjdocenbfghglaaGreatDoor.AW
