/- AW, part 10, its second half: an append onto nothing gives a box. -/
import Derived.Test.YtjdocenbfghglaaGreatDoorAw10
set_option linter.unusedSimpArgs false
set_option linter.unusedVariables false
namespace Go.Proofs.YtjdocenbfghglaaGreatDoor.AW
open Go Go.RowKit

theorem flatCells_get {sz : Nat} (hsz : 0 < sz) : ∀ {ys : List AV}, (∀ (i : Nat) (x : AV), ys[i]? = some x → x.cells.length = sz) → (ys.flatMap AV.cells).length = ys.length * sz ∧ ∀ (q : Nat) (c : AV), (ys.flatMap AV.cells)[q]? = some c → ∃ x, ys[q / sz]? = some x ∧ x.cells[q % sz]? = some c := by
  intro ys
  induction ys with
  | nil => intro _; exact ⟨by simp, fun q c h => by simp at h⟩
  | cons y ys ih =>
    intro h
    have hy := h 0 y rfl
    obtain ⟨i1, i2⟩ := ih (fun i x hx => h (i + 1) x (by simpa using hx))
    refine ⟨by simp only [List.flatMap_cons, List.length_append, i1, hy, List.length_cons, Nat.add_mul]; omega, fun q c hq => ?_⟩
    rw [List.flatMap_cons] at hq
    by_cases hlt : q < sz
    · rw [List.getElem?_append_left (by omega)] at hq
      exact ⟨y, by rw [Nat.div_eq_of_lt hlt]; rfl, by rw [Nat.mod_eq_of_lt hlt]; exact hq⟩
    · rw [List.getElem?_append_right (by omega), hy] at hq
      obtain ⟨x, hx, hc⟩ := i2 _ _ hq
      refine ⟨x, ?_, ?_⟩
      · rw [Nat.div_eq_sub_div hsz (by omega)]; exact hx
      · rw [Nat.mod_eq_sub_mod (by omega)]; exact hc

section
variable {P : Program} {te : TE} {w0 : Base} {w : World} {m : Mem} {h : AH}
theorem appendBox_sound (hte : te.ok P) (hW : WR w0 m w h) {t xt tt e : Nat} {i ei : TI} {x : AV} {s' x' : Value} {sz0 : Nat} {y : AV} {ys : List AV} (hi : te t = some i) (hk : i.k = .slice e) (hei : te e = some ei)
    (hs : VR m (.sl .full sz0 []) s') (hx : VR m x x') (hys : aelems te xt ei.size x = some (y :: ys)) (hsz : 0 < ei.size) (hbp : 0 < ei.bytes) (hbytes : (y :: ys).length * ei.bytes ≤ 140737488355328) :
    ∃ (v' : Value) (w' : World) (m' : Mem), (Builtin.append_ #[t, xt] tt #[s', x']).run P w = .ok v' w' ∧ m.le m' ∧ VR m' (.ms h.nb 0 (y :: ys).length ei.size) v' ∧ WR w0 m' w' (h.new ((y :: ys).flatMap AV.cells)) := by
  have hu := slice_at hte hi hk
  obtain ⟨info, d, hinfo, hud, _, hisz, hib⟩ := hte.info hei
  obtain ⟨z, hz, hz1, hz2, hz3, hz4, hz5⟩ := hte.zero hei m
  have hzero : info.zero = some z := by
    have := hz w
    simp [zeroValue, typeInfo, hinfo] at this
    cases hzz : info.zero with
    | none => rw [hzz] at this; simp [unsupported] at this
    | some z' => rw [hzz] at this; simp at this; rw [this]
  obtain ⟨by_, g, hy1, hy2, happ, hy3⟩ := aelems_sound (e := e) hte hW hx hsz hys
  obtain ⟨base, cap, f, rfl, hr, hcap, hb⟩ := hs.row
  have hfull : cap = 0 := by
    rcases hb with ⟨_, h2, _⟩ | ⟨blk, o, _, _, h2⟩
    · exact h2
    · exact h2
  subst hfull
  have h63 : 0 + (y :: ys).length ≤ 9223372036854775807 := by
    have : (y :: ys).length ≤ (y :: ys).length * ei.bytes := Nat.le_mul_of_pos_right _ hbp
    omega
  have hold : (Builtin.firstCells ei.size 0 (.slice base 0 0)).run P w.drew = .ok ([] : List Value).toArray w.drew := by
    cases base with
    | none => simp [Builtin.firstCells]
    | some a => simp [Builtin.firstCells, loadCells, loadCellsFrom]
  have hcge := grownCap_ge w (0 + (y :: ys).length) 0 e
  have hrun := run_append_new (P := P) (w := w) (tt := tt) (n := 0) (base := base) hu hinfo hisz hzero happ hold (by simp) h63 (Nat.le_refl _) (by rw [hib, Nat.zero_add]; exact hbytes)
  generalize grownCap w (0 + (y :: ys).length) 0 e = cc at hrun hcge
  simp only [Nat.zero_add] at hrun hcge h63
  have hfl := flatCells_get hsz hy1
  generalize harr : ([] : List Value).toArray ++ (flat ei.size (y :: ys).length g).toArray ++ Builtin.zeroCells z.cells (cc - (y :: ys).length) = arr at hrun
  have hs : arr.size = (y :: ys).length * ei.size + (cc - (y :: ys).length) * ei.size := by
    rw [← harr]; simp [flat_length, size_zeroCells, hz2]
  have hlow : ∀ (q : Nat), q < (y :: ys).length * ei.size → arr[q]? = (flat ei.size (y :: ys).length g)[q]? := by
    intro q hq
    rw [← harr, Array.getElem?_append_left (by simp [flat_length]; simpa using hq)]
    simp
  have aone : ∀ j : Nat, j < arr.size → (arr.getD j undef).oneCell' = true := by
    intro j hj
    rw [Array.getD_eq_getD_getElem?, Array.getElem?_eq_getElem hj, Option.getD_some]
    have hmem : arr[j] ∈ arr := Array.getElem_mem hj
    generalize arr[j] = v at hmem
    rw [← harr] at hmem
    simp only [Array.mem_append, List.mem_toArray, List.not_mem_nil, false_or] at hmem
    rcases hmem with h1 | h1
    · exact hy3 _ h1
    · unfold Builtin.zeroCells at h1
      obtain ⟨q, hq, rfl⟩ := Array.mem_map.1 h1
      have hlt : q % z.cells.size < z.cells.size := Nat.mod_lt _ (by omega)
      have := hz5 _ hlt
      rw [Array.getD_eq_getD_getElem?, Array.getElem?_eq_getElem hlt, Option.getD_some] at this
      rw [getElem!_pos z.cells _ hlt]; exact this
  obtain ⟨m', l1, k1, kC, hW1⟩ := hW.drew.newBox ((y :: ys).flatMap AV.cells) arr e (by rw [hfl.1, hs]; omega)
    (fun j c hc => by
      have hj : j < (y :: ys).length * ei.size := by rw [← hfl.1]; exact (List.getElem?_eq_some_iff.1 hc).1
      · obtain ⟨x, hx1, hx2⟩ := hfl.2 _ _ hc
        have hdiv : j / ei.size < (y :: ys).length := (List.getElem?_eq_some_iff.1 hx1).1
        have := hy2 _ _ hx1 _ _ hx2
        rw [Array.getD_eq_getD_getElem?, hlow j hj]
        have hat := flat_at g hdiv (Nat.mod_lt j hsz)
        have hdm : j / ei.size * ei.size + j % ei.size = j := by rw [Nat.mul_comm]; exact Nat.div_add_mod j ei.size
        rw [hdm] at hat
        rw [hat]; exact this)
    aone
  exact ⟨_, _, m', hrun, l1, .ms _ _ _ _ _ _ _ k1 (fun _ => rfl) hcge (by
    have e1 : (y :: ys).length * ei.size + (cc - (y :: ys).length) * ei.size = cc * ei.size := by rw [← Nat.add_mul]; congr 1; omega
    rw [kC, hs, e1, Nat.zero_add]; exact Nat.le_refl _), hW1⟩

/-- An append onto an empty slice without room: how many elements, their size, their cells. -/
def appBox (te : TE) (t xt : Nat) (a b : AV) : Option (Nat × Nat × List AV) := match a with
  | .sl .full _ [] => (match te t with
    | some ⟨.slice e, _, _, _⟩ => (match te e with
      | some ei => (match aelems te xt ei.size b with
        | some (y :: ys) => if 0 < ei.size ∧ 0 < ei.bytes ∧ (y :: ys).length * ei.bytes ≤ 140737488355328 then some ((y :: ys).length, ei.size, (y :: ys).flatMap AV.cells) else none
        | _ => none)
      | none => none)
    | _ => none)
  | _ => none
theorem appBox_sound (hte : te.ok P) (hW : WR w0 m w h) {t xt tt : Nat} {a b : AV} {a' b' : Value} {n sz : Nat} {cells : List AV} (ha : VR m a a') (hb : VR m b b') (hv : appBox te t xt a b = some (n, sz, cells)) :
    ∃ (v' : Value) (w' : World) (m' : Mem), (Builtin.append_ #[t, xt] tt #[a', b']).run P w = .ok v' w' ∧ m.le m' ∧ VR m' (.ms h.nb 0 n sz) v' ∧ WR w0 m' w' (h.new cells) := by
  unfold appBox at hv
  split at hv
  case h_2 => cases hv
  next sz0 =>
  split at hv
  case h_2 => cases hv
  next e x1 x2 x3 hi =>
  split at hv
  case h_2 => cases hv
  next ei hei =>
  split at hv
  case h_2 => cases hv
  next y ys hys =>
  split at hv
  case isFalse => cases hv
  next hc =>
  injection hv with hv; injection hv with e1 e2; injection e2 with e2 e3; subst e1 e2 e3
  exact appendBox_sound hte hW hi rfl hei ha hb hys hc.1 hc.2.1 hc.2.2
end
end Go.Proofs.YtjdocenbfghglaaGreatDoor.AW
