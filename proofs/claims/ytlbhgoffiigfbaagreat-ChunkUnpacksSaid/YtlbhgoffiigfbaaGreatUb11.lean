/- Texts of this claim, part 11: E51. -/
import Derived.Test.YtlbhgoffiigfbaaGreatUb1
import Derived.Test.YtlbhgoffiigfbaaGreatUb3
import Derived.Lib.Bytealg
import Derived.Shelf.Strings.Count
section
set_option linter.unusedSimpArgs false
set_option linter.unusedVariables false
namespace Go.Proofs.YtlbhgoffiigfbaaGreat.AW
open Go Go.RowKit

theorem all_names {P : Program} (h : (P.funcs.toList.all fun fn => !(fn.name == "runtime.NumGoroutine")) = true) : ∀ (f : FuncId) (fn : Func), P.funcs[f]? = some fn → (fn.name == "runtime.NumGoroutine") = false := by
  intro f fn hf
  have := List.all_eq_true.1 h fn (Array.mem_toList_iff.2 (Array.mem_of_getElem? hf))
  simpa using this
theorem cmpB_eq : ∀ a b : List UInt8, cmpB a b = Lib.compareBytes a b
  | [], [] => rfl
  | [], _ :: _ => rfl
  | _ :: _, [] => rfl
  | x :: xs, y :: ys => by
    simp only [cmpB, Lib.compareBytes, blt_iff, UInt8.lt_iff_toNat_lt]
    rw [cmpB_eq xs ys]
    by_cases h1 : x.toNat < y.toNat
    · simp [h1]
    · by_cases h2 : y.toNat < x.toNat
      · simp [h1, h2]
      · simp [h1, h2]
theorem cmp_ext (a b : ByteArray) (h : AH) (R : AOut → AH → Prop) (hR : R (.ret (.int .i64 (cmpB a.data.toList b.data.toList))) h) : AExt Tryz.prog 119 [.str a, .str b] h R := by
  refine ⟨_, fun w0 m w args' h1 h2 hW => ?_, hR⟩
  have e0 := h2 0 _ rfl
  have e1 := h2 1 _ rfl
  have hargs : args' = #[.string a, .string b] := by
    apply Array.ext_getElem?
    intro i
    match i with
    | 0 =>
      have := e0.str_inv
      rw [Array.getD_eq_getD_getElem?, Array.getElem?_eq_getElem (by simp at h1; omega)] at this
      rw [Array.getElem?_eq_getElem (by simp at h1; omega)]; simpa using this
    | 1 =>
      have := e1.str_inv
      rw [Array.getD_eq_getD_getElem?, Array.getElem?_eq_getElem (by simp at h1; omega)] at this
      rw [Array.getElem?_eq_getElem (by simp at h1; omega)]; simpa using this
    | i + 2 => rw [Array.getElem?_eq_none (by simp at h1; omega), Array.getElem?_eq_none (by simp)]
  subst hargs
  refine ⟨_, ?_, .int _ _⟩
  rw [run_callFunc_extern (fn := Tryz.f119) (by kernel_rfl) (by kernel_rfl) (by kernel_rfl) (by kernel_rfl) (e := Extern.BytealgCompare.compare) (by kernel_rfl), Lib.run_compareString, cmpB_eq]
  rfl
theorem meth_dec {b : Bool} {x y : Option FuncId} {f : FuncId} (h : (bif b then x else y) = some f) : (b = true ∧ x = some f) ∨ (b = false ∧ y = some f) := by
  cases b with
  | true => exact .inl ⟨rfl, h⟩
  | false => exact .inr ⟨rfl, h⟩
theorem m_plainly_can : AMeth Tryz.prog 76 "cirrus/chunk.can" 89 := fun _ _ => by kernel_rfl
theorem m_inRuns_can : AMeth Tryz.prog 77 "cirrus/chunk.can" 104 := fun _ _ => by kernel_rfl
theorem m_byDict_can : AMeth Tryz.prog 78 "cirrus/chunk.can" 120 := fun _ _ => by kernel_rfl
theorem m_byDelta_can : AMeth Tryz.prog 79 "cirrus/chunk.can" 144 := fun _ _ => by kernel_rfl
theorem m_plainly_read : AMeth Tryz.prog 76 "cirrus/chunk.read" 90 := fun _ _ => by kernel_rfl
theorem m_inRuns_read : AMeth Tryz.prog 77 "cirrus/chunk.read" 105 := fun _ _ => by kernel_rfl
theorem m_byDict_read : AMeth Tryz.prog 78 "cirrus/chunk.read" 121 := fun _ _ => by kernel_rfl
theorem m_byDelta_read : AMeth Tryz.prog 79 "cirrus/chunk.read" 145 := fun _ _ => by kernel_rfl
theorem m_plainly_write : AMeth Tryz.prog 76 "cirrus/chunk.write" 91 := fun _ _ => by kernel_rfl
theorem m_inRuns_write : AMeth Tryz.prog 77 "cirrus/chunk.write" 106 := fun _ _ => by kernel_rfl
theorem m_byDict_write : AMeth Tryz.prog 78 "cirrus/chunk.write" 122 := fun _ _ => by kernel_rfl
theorem m_byDelta_write : AMeth Tryz.prog 79 "cirrus/chunk.write" 146 := fun _ _ => by kernel_rfl
theorem ec5_ok : ec5.Ok where
  te := te_ok
  mixed := by kernel_rfl
  names := all_names (by kernel_rfl)
  rowk := rowk5_ok
  caught := by
    intro f hf
    obtain rfl := Nat.eq_of_beq_eq_true hf
    exact ⟨⟨Tryz.f27, Tryz.func27, rfl, by kernel_rfl⟩, fun g first cap h R hg hc => caught_acalls hg hc⟩
  meth := by
    intro t name f h
    change meth5 t name = some f at h
    unfold meth5 at h
    rcases meth_dec h with ⟨e0, h0⟩ | ⟨_, h0⟩
    · obtain rfl := eq_of_beq e0
      rcases meth_dec h0 with ⟨e, k0⟩ | ⟨_, k0⟩
      · obtain rfl := eq_of_beq e; injection k0 with k; subst k; exact m_plainly_can
      rcases meth_dec k0 with ⟨e, k1⟩ | ⟨_, k1⟩
      · obtain rfl := eq_of_beq e; injection k1 with k; subst k; exact m_inRuns_can
      rcases meth_dec k1 with ⟨e, k2⟩ | ⟨_, k2⟩
      · obtain rfl := eq_of_beq e; injection k2 with k; subst k; exact m_byDict_can
      rcases meth_dec k2 with ⟨e, k3⟩ | ⟨_, k3⟩
      · obtain rfl := eq_of_beq e; injection k3 with k; subst k; exact m_byDelta_can
      cases k3
    rcases meth_dec h0 with ⟨e0, h1⟩ | ⟨_, h1⟩
    · obtain rfl := eq_of_beq e0
      rcases meth_dec h1 with ⟨e, k0⟩ | ⟨_, k0⟩
      · obtain rfl := eq_of_beq e; injection k0 with k; subst k; exact m_plainly_read
      rcases meth_dec k0 with ⟨e, k1⟩ | ⟨_, k1⟩
      · obtain rfl := eq_of_beq e; injection k1 with k; subst k; exact m_inRuns_read
      rcases meth_dec k1 with ⟨e, k2⟩ | ⟨_, k2⟩
      · obtain rfl := eq_of_beq e; injection k2 with k; subst k; exact m_byDict_read
      rcases meth_dec k2 with ⟨e, k3⟩ | ⟨_, k3⟩
      · obtain rfl := eq_of_beq e; injection k3 with k; subst k; exact m_byDelta_read
      cases k3
    rcases meth_dec h1 with ⟨e0, h2⟩ | ⟨_, h2⟩
    · obtain rfl := eq_of_beq e0
      rcases meth_dec h2 with ⟨e, k0⟩ | ⟨_, k0⟩
      · obtain rfl := eq_of_beq e; injection k0 with k; subst k; exact m_plainly_write
      rcases meth_dec k0 with ⟨e, k1⟩ | ⟨_, k1⟩
      · obtain rfl := eq_of_beq e; injection k1 with k; subst k; exact m_inRuns_write
      rcases meth_dec k1 with ⟨e, k2⟩ | ⟨_, k2⟩
      · obtain rfl := eq_of_beq e; injection k2 with k; subst k; exact m_byDict_write
      rcases meth_dec k2 with ⟨e, k3⟩ | ⟨_, k3⟩
      · obtain rfl := eq_of_beq e; injection k3 with k; subst k; exact m_byDelta_write
      cases k3
    cases h2
  ext := by
    intro f args v hv h R hR
    change known5 f args = some v at hv
    unfold known5 at hv
    cases h1 : Nat.beq f 119 with
    | true =>
      rw [h1, cond_true] at hv
      obtain rfl := Nat.eq_of_beq_eq_true h1
      split at hv
      · injection hv with hv; subst hv; exact .inr (cmp_ext _ _ h R hR)
      · cases hv
    | false => rw [h1, cond_false] at hv; cases hv
theorem awake_pure : Pure Tryz.prog 7 [] (.bool true) := erun_pure ec5_ok (d := 60) rfl (by kernel_rfl)
end Go.Proofs.YtlbhgoffiigfbaaGreat.AW
end
