/- Texts of this claim, part 5: V60. -/
import Derived.Test.YtlbhgoffiigfbaaBe3
import Derived.Test.YtlbhgoffiigfbaaTab
section
set_option linter.unusedSimpArgs false
set_option linter.unusedVariables false
namespace Go.Proofs.Ytlbhgoffiigfbaa.AW
open Go Go.RowKit

section
variable {H : Type} {enc : TypeId × Value → H} {W : World}
theorem CR.one1' {a : AV} {v : Value} (h : CR W [a] v.cells.toList) (hn : ∀ cs, v ≠ .agg cs) : VR (memOf W) a v := by
  have hc : v.cells = #[v] := by cases v <;> first | rfl | exact absurd rfl (hn _)
  rw [hc] at h
  exact h.rel 0 a rfl
set_option maxRecDepth 100000 in
theorem hand_intk {t : Nat} {i : TI} {k : IntKind} (hi : te t = some i) (hk : i.k = .int k) {r : Reach} {base : Nat} {v : Value} {d : DataW H} {ps : List MemPlace} (h : DataW.Trod enc Try.prog W 0 (fun _ => true) true t v d ps) (hv : Value.okWide Try.prog W r base t v) :
    ∃ n : Int, (k.min ≤ n ∧ n ≤ k.max) ∧ VR (memOf W) (.int k n) v := by
  obtain ⟨fuel, h⟩ := h
  obtain ⟨n0, rfl⟩ := WideShapes.okWide_int (int_at te_ok hi hk) hv
  obtain ⟨n, c, b⟩ := read_int te_ok hi hk h
  exact ⟨n, b, c.one1' (fun cs e => by cases e)⟩
set_option maxRecDepth 100000 in
theorem hand_str {r : Reach} {base : Nat} {v : Value} {d : DataW H} {ps : List MemPlace} (h : DataW.Trod enc Try.prog W 0 (fun _ => true) true 9 v d ps) (hs : small Try.prog 9 d) (hv : Value.okWide Try.prog W r base 9 v) :
    ∃ s : ByteArray, s.size ≤ 140737488351232 ∧ VR (memOf W) (.str s) v := by
  obtain ⟨fuel, h⟩ := h
  obtain ⟨s0, rfl⟩ := WideShapes.okWide_string (str_at te_ok te_9 rfl) hv
  obtain ⟨s, c, b⟩ := read_str te_ok te_9 rfl h hs
  exact ⟨s, b, c.one1' (fun cs e => by cases e)⟩
end
end Go.Proofs.Ytlbhgoffiigfbaa.AW
end
