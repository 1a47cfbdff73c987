/- Texts of this claim, part 16: V20. -/
import Derived.Test.YtjdocenbfghglaaGreatDoorMg1
import Derived.Test.YtjdocenbfghglaaGreatDoorMg2
import Derived.Test.YtjdocenbfghglaaGreatDoorMg15
section
set_option linter.unusedSimpArgs false
set_option linter.unusedVariables false
namespace Go.Proofs.YtjdocenbfghglaaGreatDoor.AW
open Go Go.RowKit

mutual
/-- What no value that is handed passes. -/
def V.fit : V → Prop
  | .mk k i t xs ks => -9223372036854775808 ≤ k ∧ k ≤ 9223372036854775807 ∧ -9223372036854775808 ≤ i ∧ i ≤ 9223372036854775807 ∧ t.size ≤ 140737488351232 ∧ xs.length ≤ 1759218604390 ∧ ks.length ≤ 8796093021952 ∧ (∀ k ∈ ks, k.size ≤ 140737488351232) ∧ V.fitL xs
def V.fitL : List V → Prop
  | [] => True
  | x :: xs => x.fit ∧ V.fitL xs
end
theorem V.fitL_iff {xs : List V} : V.fitL xs ↔ ∀ x ∈ xs, x.fit := by
  induction xs with
  | nil => simp [V.fitL]
  | cons x xs ih => simp [V.fitL, ih]
theorem V.fit.sm {v : V} (h : v.fit) : v.sm := by
  induction v using V.ind with
  | h k i t xs ks ih =>
    simp only [V.fit, V.fitL_iff] at h
    simp only [V.sm, V.smL_iff]
    exact ⟨by omega, by omega, fun x hx => ih x hx (h.2.2.2.2.2.2.2.2 x hx)⟩
def Stp.fit (s : Stp) : Prop := -9223372036854775808 ≤ s.index ∧ s.index ≤ 9223372036854775807 ∧ s.key.size ≤ 140737488351232
theorem i64_min : IntKind.i64.min = -9223372036854775808 := by decide
theorem i64_max : IntKind.i64.max = 9223372036854775807 := by decide
section
variable {H : Type} {enc : TypeId × Value → H} {W : World}
theorem str_cells (s : ByteArray) : (AV.str s).cells.length = 1 := rfl
theorem read_strs {fuel : Nat} {cs : List Value} {x : DataW H × List MemPlace} (h : DataW.trod enc Tryz.prog W 0 (fun _ => true) true fuel 23 cs = some x) (hs : small Tryz.prog 23 x.1) :
    ∃ ks : List ByteArray, (∀ k ∈ ks, k.size ≤ 140737488351232) ∧ ks.length ≤ 8796093021952 ∧ CR W [.sl .ro 1 (ks.map .str)] cs := by
  obtain ⟨ys, h1, h2, h3⟩ := read_slice te_ok (i := _) te_23 rfl (ei := _) te_9 (by decide) (by decide) AV.str (fun k => k.size ≤ 140737488351232)
    (fun n cs x _ hx hsx => by
      obtain ⟨s, h1, h2⟩ := read_str te_ok te_9 rfl hx hsx
      exact ⟨s, h2, h1⟩) str_cells h hs
  exact ⟨ys, h1, by simp only at h2; omega, h3⟩
theorem inj_cells5 (v : V) : (inj v).cells = [.int .i64 v.kind] ++ ([.int .i64 v.int] ++ ([.str v.text] ++ ([.sl .ro 5 (v.items.map inj)] ++ [.sl .ro 1 (v.keys.map .str)]))) := by rw [inj_eq]; rfl
theorem split5 {cs : List Value} (h : cs.length = 5) : cs = (cs.drop 0).take 1 ++ ((cs.drop 1).take 1 ++ ((cs.drop 2).take 1 ++ ((cs.drop 3).take 1 ++ (cs.drop 4).take 1))) := by
  match cs, h with
  | [a, b, c, d, e], _ => rfl
theorem read_V : ∀ (fuel : Nat) (cs : List Value) (x : DataW H × List MemPlace), DataW.trod enc Tryz.prog W 0 (fun _ => true) true fuel 25 cs = some x → small Tryz.prog 25 x.1 → ∃ v : V, v.fit ∧ CR W (inj v).cells cs := by
  intro fuel
  induction fuel using Nat.strongRecOn with
  | _ fuel ih =>
    intro cs x h hs
    obtain ⟨hl, n, rfl, hf⟩ := read_struct te_ok te_25 rfl h hs
    obtain ⟨y0, g0, s0⟩ := hf 0 _ _ _ rfl te_3
    obtain ⟨y1, g1, s1⟩ := hf 1 _ _ _ rfl te_3
    obtain ⟨y2, g2, s2⟩ := hf 2 _ _ _ rfl te_9
    obtain ⟨y3, g3, s3⟩ := hf 3 _ _ _ rfl te_22
    obtain ⟨y4, g4, s4⟩ := hf 4 _ _ _ rfl te_23
    obtain ⟨k, c0, k1, k2⟩ := read_int te_ok te_3 rfl g0
    obtain ⟨i, c1, i1, i2⟩ := read_int te_ok te_3 rfl g1
    obtain ⟨t, c2, t1⟩ := read_str te_ok te_9 rfl g2 s2
    obtain ⟨xs, x1, x2, c3⟩ := read_slice te_ok (i := _) te_22 rfl (ei := _) te_25 (by decide) (by decide) inj V.fit (fun m cs x hm hx hsx => ih m (by omega) cs x hx hsx) inj_len g3 s3
    obtain ⟨ks, q1, q2, c4⟩ := read_strs g4 s4
    refine ⟨.mk k i t xs ks, ?_, ?_⟩
    · simp only [V.fit, V.fitL_iff]
      rw [i64_min] at k1 i1
      rw [i64_max] at k2 i2
      simp only at x2
      exact ⟨k1, k2, i1, i2, t1, by omega, q2, q1, x1⟩
    · rw [inj_cells5, split5 hl]
      exact .append c0 (.append c1 (.append c2 (.append c3 c4)))
set_option maxRecDepth 100000 in
theorem struct_V {r : Reach} {base : Nat} {v : Value} (h : Value.okWide Tryz.prog W r base 25 v) : ∃ cs, v = .agg cs := okWide_struct' te_ok te_25 rfl h
theorem hand_V {v : Value} {d : DataW H} {ps : List MemPlace} (h : DataW.Trod enc Tryz.prog W 0 (fun _ => true) true 25 v d ps) (hs : small Tryz.prog 25 d) (hv : ∃ cs, v = .agg cs) : ∃ w : V, w.fit ∧ VR (memOf W) (inj w) v := by
  obtain ⟨fuel, h⟩ := h
  obtain ⟨cs, rfl⟩ := hv
  obtain ⟨w, h1, h2⟩ := read_V fuel _ _ h hs
  refine ⟨w, h1, ?_⟩
  rw [← inj_agg w]
  exact h2.agg
end
end Go.Proofs.YtjdocenbfghglaaGreatDoor.AW
end
