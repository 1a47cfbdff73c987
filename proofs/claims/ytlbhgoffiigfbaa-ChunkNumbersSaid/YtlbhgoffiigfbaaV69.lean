/- V, part 69: Caught, in the logic. -/
import Derived.Test.YtlbhgoffiigfbaaV68
set_option linter.unusedSimpArgs false
set_option linter.unusedVariables false
namespace Go.Proofs.Ytlbhgoffiigfbaa.AW
open Go Go.RowKit

theorem caught_acalls {g : FuncId} {first cap : List AV} {h : AH} {R : AOut → AH → Prop} (hg : FOk Try.prog g)
    (hc : ACalls Try.prog g (first ++ [] ++ cap) (h.new [.bool false]) (fun out h2 => (∃ v, out = .ret v) ∧ h2.box h.nb = some [.bool false] ∧ R (.ret (.bool true)) (h2.set h.nb [.bool true]))) :
    ACalls Try.prog 27 [.fn (.func g) first cap] h R := by
  intro w0 m w args' hn hr hW
  have hx := hr 0 _ rfl
  have harr : args' = #[args'.getD 0 undef] := by
    apply Array.ext
    · simpa using hn
    · intro i h1 h2
      simp at h2; subst h2
      simp [Array.getD, h1]
  obtain ⟨m1, hm1, hM, hC, hW1⟩ := hW.newBox [.bool false] #[.bool false] 4 (by simp) (fun j c hj => by
    cases j with
    | zero => simp at hj; subst hj; exact .bool _
    | succ j => simp at hj) (fun j hj => by
    simp at hj; subst hj; rfl)
  rw [harr]
  generalize args'.getD 0 undef = fv at hx ⊢
  obtain ⟨first', cap', rfl, q1, q2, q3, q4⟩ := hx.fn_inv
  refine caught_calls g hg first' cap' w _ ((hc w0 m1 _ (first' ++ #[] ++ cap') ?_ ?_ hW1).mono ?_)
  · simp; omega
  · intro i c hi
    simp only [List.append_nil, Array.append_empty] at hi ⊢
    rw [Array.getD_eq_getD_getElem?]
    by_cases hlt : i < first.length
    · rw [List.getElem?_append_left hlt] at hi
      rw [Array.getElem?_append_left (by omega)]
      have := (q3 i c hi).mono hm1
      rw [Array.getD_eq_getD_getElem?] at this
      exact this
    · rw [List.getElem?_append_right (by omega)] at hi
      rw [Array.getElem?_append_right (by omega), q1]
      have := (q4 _ c hi).mono hm1
      rw [Array.getD_eq_getD_getElem?] at this
      exact this
  · rintro e w1 ⟨m2, out, h2, hm2, ho, hW2, ⟨v, rfl⟩, hbx, hR⟩
    cases e with
    | panicked c => exact ho.elim
    | outgrown => exact ho.elim
    | returned c =>
      obtain ⟨blk, arr, ty, fr, b1, b2, b3⟩ := hW2.box _ _ hbx
      have hM2 := hm2.M _ _ hM
      rw [hM2] at b1; injection b1 with b1; subst b1
      have hsz : 0 < arr.size := by have h9 : [AV.bool false].length ≤ arr.size := b3.size; exact h9
      have h0 := b3.rel 0 _ rfl
      have h0 := h0.bool_inv
      refine ⟨c, rfl, ?_, frozen_of_blk b3.here b3.free _ (by simpa using hsz), m2, .ret (.bool true), h2.set h.nb [.bool true], hm1.trans hm2, .bool _, ?_, hR⟩
      · rw [cell_of_blk b3.here, Array.getElem?_eq_getElem hsz]
        rw [Array.getD_eq_getD_getElem?, Array.getElem?_eq_getElem hsz, Option.getD_some] at h0
        rw [h0]
      · rw [setCell_putBlk _ _ _ _ _ _ _ b3.here]
        refine hW2.setBox hbx hM2 b3.here (by simp) rfl (fun j c hj => ?_) (fun j hj => ?_)
        · cases j with
          | zero =>
            simp at hj
            subst hj
            rw [Array.getD_eq_getD_getElem?, Array.getElem?_setIfInBounds_self_of_lt hsz, Option.getD_some]
            exact .bool _
          | succ j => simp at hj
        · simp only [Array.size_setIfInBounds] at hj
          by_cases e : j = 0
          · subst e
            rw [Array.getD_eq_getD_getElem?, Array.getElem?_setIfInBounds_self_of_lt hsz, Option.getD_some]
            rfl
          · rw [Array.getD_eq_getD_getElem?, Array.getElem?_setIfInBounds_ne (by omega), ← Array.getD_eq_getD_getElem?]
            exact b3.one j hj
end Go.Proofs.Ytlbhgoffiigfbaa.AW
