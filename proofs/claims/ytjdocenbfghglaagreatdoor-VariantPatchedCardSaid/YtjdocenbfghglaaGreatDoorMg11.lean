/- Texts of this claim, part 11: E0. -/
import Derived.Test.YtjdocenbfghglaaGreatDoorMg1
import Derived.Test.YtjdocenbfghglaaGreatDoorMg2
import Derived.Test.YtjdocenbfghglaaGreatDoorAw25
import Derived.Shelf.Strings.Count
section
set_option linter.unusedSimpArgs false
set_option linter.unusedVariables false
namespace Go.Proofs.YtjdocenbfghglaaGreatDoor.AW
open Go Go.RowKit

/-- Functions of which the value is known. -/
def known (f : FuncId) (args : List AV) : Option AV :=
  bif Nat.beq f 127 then (match args with
    | [.str s] => some (.bool (isText s))
    | _ => none)
  else bif Nat.beq f 241 then (match args with
    | [.str s, .int .u8 c] => some (.int .i64 (Lib.countByte s.data.toList c.toNat.toUInt8))
    | _ => none)
  else none
/-- How the examples are run. -/
noncomputable def ec : EC := { P := Tryz.prog, te := te, lim := 5000, inl := fun f => Nat.beq f 88, bx := fun f => Nat.beq f 88, meth := fun _ _ => none, ext := known }
theorem all_names {P : Program} (h : (P.funcs.toList.all fun fn => !(fn.name == "runtime.NumGoroutine")) = true) : ∀ (f : FuncId) (fn : Func), P.funcs[f]? = some fn → (fn.name == "runtime.NumGoroutine") = false := by
  intro f fn hf
  have := List.all_eq_true.1 h fn (Array.mem_toList_iff.2 (Array.mem_of_getElem? hf))
  simpa using this
theorem count_ext (s : ByteArray) (c : Int) (h : AH) (R : AOut → AH → Prop) (hR : R (.ret (.int .i64 (Lib.countByte s.data.toList c.toNat.toUInt8))) h) : AExt Tryz.prog 241 [.str s, .int .u8 c] h R := by
  refine ⟨_, fun w0 m w args' h1 h2 hW => ?_, hR⟩
  have e0 := h2 0 _ rfl
  have e1 := h2 1 _ rfl
  have hargs : args' = #[.string s, .int .u8 c] := by
    apply Array.ext_getElem?
    intro i
    match i with
    | 0 =>
      have := e0.str_inv
      rw [Array.getD_eq_getD_getElem?, Array.getElem?_eq_getElem (by simp at h1; omega)] at this
      rw [Array.getElem?_eq_getElem (by simp at h1; omega)]; simpa using this
    | 1 =>
      have := e1.int_inv
      rw [Array.getD_eq_getD_getElem?, Array.getElem?_eq_getElem (by simp at h1; omega)] at this
      rw [Array.getElem?_eq_getElem (by simp at h1; omega)]; simpa using this
    | i + 2 => rw [Array.getElem?_eq_none (by simp at h1; omega), Array.getElem?_eq_none (by simp)]
  subst hargs
  refine ⟨_, ?_, .int _ _⟩
  rw [run_callFunc_extern (fn := Tryz.f241) (by kernel_rfl) (by kernel_rfl) (by kernel_rfl) (by kernel_rfl) (e := Extern.BytealgCount.count) (by kernel_rfl), Lib.run_countString]
  rfl
theorem ec_ok : ec.Ok where
  te := te_ok
  mixed := mixed
  names := all_names (by kernel_rfl)
  meth := fun t name f h => by cases h
  rowk := RowkOk.none _
  caught := fun _ h => by cases h
  ext := by
    intro f args v hv h R hR
    change known f args = some v at hv
    unfold known at hv
    cases h1 : Nat.beq f 127 with
    | true =>
      rw [h1, cond_true] at hv
      obtain rfl := Nat.eq_of_beq_eq_true h1
      split at hv
      · injection hv with hv; subst hv; exact .ofPure (text_pure _) hR
      · cases hv
    | false =>
      rw [h1, cond_false] at hv
      cases h2 : Nat.beq f 241 with
      | true =>
        rw [h2, cond_true] at hv
        obtain rfl := Nat.eq_of_beq_eq_true h2
        split at hv
        · injection hv with hv; subst hv; exact .inr (count_ext _ _ h R hR)
        · cases hv
      | false => rw [h2] at hv; cases hv
theorem awake_pure : Pure Tryz.prog 16 [] (.bool true) := erun_pure ec_ok (d := 50) rfl (by kernel_rfl)
end Go.Proofs.YtjdocenbfghglaaGreatDoor.AW
end
