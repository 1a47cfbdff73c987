/- AW, part 27: a slice's capacity is looked at; whether two slices overlap; a box that is given away. -/
import Derived.Test.YtlbhgoffiigfbaaGreatAw26
import GoSem.Extern.SlicesOverlaps
import Derived.Laws.Externs
set_option linter.unusedSimpArgs false
set_option linter.unusedVariables false
namespace Go.Proofs.YtlbhgoffiigfbaaGreat.AW
open Go Go.RowKit

def deads (d : Nat) : List AV := List.replicate d .dead
theorem deads_length (d : Nat) : (deads d).length = d := by simp [deads]
/-- A box's room, told. -/
theorem WR.longer {w0 : Base} {w : World} {m : Mem} {h : AH} (hW : WR w0 m w h) {b : Nat} {cs : List AV} (hb : h.box b = some cs) : ∃ d, WR w0 m w (h.set b (cs ++ deads d)) ∧ m.C b ≤ cs.length + d := by
  obtain ⟨blk, arr, ty, fr, q1, q2, q3⟩ := hW.box b cs hb
  have hs := q3.size
  have hlt := (Array.getElem?_eq_some_iff.1 q3.here).1
  refine ⟨arr.size - cs.length, ?_, by have := q3.cap; omega⟩
  have := hW.setBoxF (cs' := cs ++ deads (arr.size - cs.length)) (arr' := arr) (fr' := fr) hb q1 q3.here rfl (by rw [List.length_append, deads_length]; omega) (fun j c hj => by
    by_cases hj1 : j < cs.length
    · rw [List.getElem?_append_left hj1] at hj; exact q3.rel j c hj
    · rw [List.getElem?_append_right (by omega)] at hj
      have : c = .dead := by
        unfold deads at hj
        rw [List.getElem?_replicate] at hj
        split at hj
        · injection hj with hj; exact hj.symm
        · cases hj
      subst this
      exact .dead _) q3.one q3.free q3.nomark
  rwa [putBlk_self w blk _ q3.here] at this

theorem ACalls.give {P : Program} {f : FuncId} {args : List AV} {h : AH} {b sz : Nat} {ys : List AV} (hsz : 0 < sz) (hys : ys ≠ []) (hl : ∀ x ∈ ys, x.cells.length = sz) (hu : AV.underL 0 0 ys = true)
    (hc : ACalls P f args h fun out h2 => ∃ b' rest v, out = .ret v ∧ v.low = .ms b' 0 ys.length sz ∧ h2.box b' = some (ys.flatMap AV.cells ++ rest) ∧ (b' = b ∨ h.nb ≤ b') ∧ (∀ b2, b2 < h.nb → b2 ≠ b → h2.box b2 = h.box b2) ∧ (∀ t, t < h.nt → h2.tok t = h.tok t)) :
    ACalls P f args h fun out h2 => out = .ret (.sl .ro sz ys) ∧ h2 = h.kill b := by
  intro w0 m w args' h1 h2 hW
  refine (hc w0 m w args' h1 h2 hW).mono ?_
  rintro e w' ⟨m', out, h2', q1, q2, q3, b', rest, v, rfl, g1, g2, g3, g4, g5⟩
  cases e with
  | returned c =>
    have q2' : VR m' v c := q2
    have q4 := q2'.low
    rw [g1] at q4
    obtain ⟨m3, l3, W3, hv⟩ := q3.freeze g2 (fun i x hi => hl x (List.mem_of_getElem? hi)) hsz hys
    have hs := hW.isScoped
    obtain ⟨l4, W4⟩ := hW.cut (q1.trans l3) W3 (h' := h.kill b) ⟨rfl, rfl, fun z cs hz => by
      rw [kill_box] at hz
      split at hz
      · cases hz
      · next hne =>
        have hzn := hs.box z cs hz
        refine ⟨?_, .inl hz⟩
        rw [kill_box, if_neg (by rcases g3 with e | e <;> omega), g4 z hzn hne]; exact hz, fun t g ht => by
      have ht' : h.tok t = some g := ht
      exact ⟨(g5 t (hs.tok t g ht')).trans ht', hs.tok t g ht'⟩⟩
    refine ⟨_, _, _, l4, ?_, W4, rfl, rfl⟩
    exact (hv c q4).cutTo (by show AV.underL h.nb h.nt ys = true; exact AV.underL_mono hu)
  | panicked c => exact q2.elim
  | outgrown => exact q2.elim

theorem VR.ms_nil {m : Mem} {b o sz : Nat} {v : Value} (hz : 0 < sz) (h : VR m (.ms b o 0 sz) v) : VR m (.sl .ro sz []) v := by
  obtain ⟨blk, cap, a, rfl, h1, h2, h3, h4⟩ := h.ms_inv'
  by_cases hc : 0 < cap
  · rw [h2 hc]
    exact .sl .ro sz [] blk o cap (fun _ _ => undef) hz (Nat.zero_le _) (fun i x hi => by cases hi) (fun i x hi => by cases hi) (fun i x hi => by cases hi) trivial
  · obtain rfl : cap = 0 := by omega
    cases a with
    | none => exact .slnil .ro sz (fun _ _ e => by cases e)
    | some a => exact .slemp .ro sz a hz (fun _ _ e => by cases e)
end Go.Proofs.YtlbhgoffiigfbaaGreat.AW
