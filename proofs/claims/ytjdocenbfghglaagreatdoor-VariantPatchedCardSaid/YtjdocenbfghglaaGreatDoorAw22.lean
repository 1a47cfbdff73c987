/- AW, part 23: a box that is written no more is a row to read. -/
import Derived.Test.YtjdocenbfghglaaGreatDoorAw21
set_option linter.unusedSimpArgs false
set_option linter.unusedVariables false
namespace Go.Proofs.YtjdocenbfghglaaGreatDoor.AW
open Go Go.RowKit

theorem flatCells_at {sz : Nat} : ∀ {ys : List AV}, (∀ (i : Nat) (x : AV), ys[i]? = some x → x.cells.length = sz) → ∀ (i j : Nat) (x c : AV), ys[i]? = some x → x.cells[j]? = some c → (ys.flatMap AV.cells)[i * sz + j]? = some c := by
  intro ys
  induction ys with
  | nil => intro _ i j x c hx; simp at hx
  | cons y ys ih =>
    intro h i j x c hx hc
    have hy := h 0 y rfl
    rw [List.flatMap_cons]
    cases i with
    | zero =>
      simp at hx; subst hx
      have := (List.getElem?_eq_some_iff.1 hc).1
      rw [List.getElem?_append_left (by omega), Nat.zero_mul, Nat.zero_add]; exact hc
    | succ i =>
      rw [List.getElem?_append_right (by rw [hy, Nat.add_mul]; omega), hy, show (i + 1) * sz + j - sz = i * sz + j by rw [Nat.add_mul]; omega]
      exact ih (fun i x hx => h (i + 1) x (by simpa using hx)) i j x c (by simpa using hx) hc

theorem WR.freeze {w0 : Base} {w : World} {m : Mem} {h : AH} (hW : WR w0 m w h) {b sz : Nat} {xs rest : List AV} (hb : h.box b = some (xs.flatMap AV.cells ++ rest)) (hl : ∀ (i : Nat) (x : AV), xs[i]? = some x → x.cells.length = sz) (hsz : 0 < sz) (hne : xs ≠ []) :
    ∃ m', m.le m' ∧ WR w0 m' w (h.kill b) ∧ ∀ c, VR m (.ms b 0 xs.length sz) c → VR m' (.sl .ro sz xs) c := by
  obtain ⟨blk, arr, ty, fr, q1, q2, q3⟩ := hW.box b _ hb
  have hlen := (flatCells_get hsz hl).1
  have hsize : xs.length * sz ≤ arr.size := by have := q3.size; rw [List.length_append, hlen] at this; omega
  obtain ⟨l1, hW1⟩ := (hW.kill b).commit blk 0 (xs.length * sz) arr ty fr q3.here q2
    (fun b' cs hb' e => by
      rw [kill_box] at hb'
      split at hb'
      · cases hb'
      · next hne => exact hne (hW.bb b' b cs _ blk hb' hb e q1))
    (fun t g x ht hT e => absurd e.symm (hW.bt b t _ g blk x hb ht q1 hT))
    (fun j _ hj => q3.one j (by omega)) (fun o v hk => by rw [q3.apart o] at hk; cases hk)
  refine ⟨_, l1, hW1, fun c hc => ?_⟩
  obtain ⟨bk, cap, a, rfl, e1, e2, e3⟩ := hc.ms_inv
  rw [q1] at e1; injection e1 with e1; subst e1
  have hpos : 0 < xs.length := List.length_pos_iff.2 hne
  rw [e2 hpos]
  have bound : ∀ i j : Nat, i < xs.length → j < sz → i * sz + j < xs.length * sz := by
    intro i j h1 h3
    have : (i + 1) * sz ≤ xs.length * sz := Nat.mul_le_mul_right _ (by omega)
    rw [Nat.add_mul] at this; omega
  refine .sl .ro sz xs blk 0 cap (fun i j => arr.getD (i * sz + j) undef) hsz e3 hl (fun i x hi j hj => ?_) (fun i x hi j d hd => ?_) trivial
  · have hi' := (List.getElem?_eq_some_iff.1 hi).1
    have := bound i j hi' hj
    rw [Nat.zero_add, Mem.commit_at _ _ _ _ _ (by omega) this, Array.getD_eq_getD_getElem?, Array.getElem?_eq_getElem (by omega)]; rfl
  · have hi' := (List.getElem?_eq_some_iff.1 hi).1
    have hj : j < sz := by have := (List.getElem?_eq_some_iff.1 hd).1; rw [hl i x hi] at this; exact this
    have := bound i j hi' hj
    refine (q3.rel (i * sz + j) d ?_).mono l1
    rw [List.getElem?_append_left (by omega)]
    exact flatCells_at hl i j x d hi hd
end Go.Proofs.YtjdocenbfghglaaGreatDoor.AW
