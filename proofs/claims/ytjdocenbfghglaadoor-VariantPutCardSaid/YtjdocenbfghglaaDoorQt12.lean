/- VariantPut: for every input (of the row's form), behind Put the value at the path is what was put, the value at any path that is neither longer nor shorter is what it was, and the examples of the chapter hold. -/
import Derived.Test.YtjdocenbfghglaaDoorQt1
import Derived.Test.YtjdocenbfghglaaDoorQt2
import Derived.Test.YtjdocenbfghglaaDoorQt3
import Derived.Test.YtjdocenbfghglaaDoorQt4
import Derived.Test.YtjdocenbfghglaaDoorQt5
import Derived.Test.YtjdocenbfghglaaDoorQt6
import Derived.Test.YtjdocenbfghglaaDoorQt7
import Derived.Test.YtjdocenbfghglaaDoorQt8
import Derived.Test.YtjdocenbfghglaaDoorQt9
import Derived.Test.YtjdocenbfghglaaDoorQt10
import Derived.Test.YtjdocenbfghglaaDoorQt11
import Derived.Test.YtjdocenbfghglaaDoorCards
import Derived.Test.YtjdocenbfghglaaDoorTie
section
set_option linter.unusedSimpArgs false
set_option linter.unusedVariables false
namespace Go.Proofs.YtjdocenbfghglaaDoor.VariantPut
open Go Go.ChangeShapes Go.WideShapes Go.ChangeAt Go.RowKit Go.Proofs.YtjdocenbfghglaaDoor.AW

theorem own : ownKnob Tryd.prog.godebug = none := by kernel_rfl
theorem laidOut : laidOutB Tryd.prog = true := by kernel_rfl

/-- A world for the witness: the settled one, the listed variables holding what their initialisers lay. -/
noncomputable def laidWorld (os : Os) : World :=
  { World.holding Tryd.prog os ⟨#[], #[], []⟩ with heap := layAll Tryd.prog Rows.variantPutRow.laid (World.holding Tryd.prog os ⟨#[], #[], []⟩).heap }
def wit : Array Value := #[.agg #[.int .i64 0, .int .i64 0, .string ⟨#[]⟩, .slice none 0 0, .slice none 0 0], .slice none 0 0, .agg #[.int .i64 0, .int .i64 0, .string ⟨#[]⟩, .slice none 0 0, .slice none 0 0], .slice none 0 0]
theorem laid_met (os : Os) : laidMet Tryd.prog Rows.variantPutRow.laid ((laidWorld os).forCall (fun _ _ => 0) ⟨#[], wit, []⟩).memory :=
  laidMet_of_run' 8 (by kernel_rfl) (by kernel_rfl)
theorem reads (os : Os) {H : Type} (enc : TypeId × Value → H) : ∃ ds places, DataW.whole enc Tryd.prog ((laidWorld os).forCall (fun _ _ => 0) ⟨#[], wit, []⟩).memory Tryd.f4.params.toList Rows.variantPutSpec.vars false wit.toList 8 = some (ds, [], places) :=
  ⟨[.agg [.lit (.int .i64 0), .lit (.int .i64 0), .lit (.string []), .nil, .nil], .nil, .agg [.lit (.int .i64 0), .lit (.int .i64 0), .lit (.string []), .nil, .nil], .nil], [], by kernel_rfl⟩

set_option maxRecDepth 100000 in
theorem contract (H : Type) (enc : TypeId × Value → H) (W : World) (base : Nat) (args : Array Value) (ds gs : List (DataW H)) (before : List MemPlace)
    (hval : ∀ (j : Nat) t v, Tryd.f4.params[j]? = some t → args[j]? = some v → Value.okWide Tryd.prog W .any base t v)
    (hW : DataW.Whole enc Tryd.prog Tryd.f4.params.toList Rows.variantPutSpec.vars false W args.toList ds gs before)
    (hz : (DataW.weightsEach Tryd.prog (Tryd.f4.params.toList ++ []) (ds ++ gs)).all (· ≤ reachBytes) = true) :
    Calls Tryd.prog 4 args W fun e W' => ∃ v, e = .returned v ∧ Rows.variantPutSpec.post enc Tryd.prog Tryd.f4 false true false false W args v W' := by
  have hW' := hW
  obtain ⟨p, q, hA0, hV, rfl, hfz, hnd⟩ := hW
  have hA : DataW.TrodAll enc Tryd.prog W 0 (fun _ => true) true Tryd.f4.params.toList args.toList ds p := hA0
  rw [Tryd.params4] at hA hval hz
  have hsm : ∀ (i : Nat) t (d : DataW H), [25, 26, 25, 26][i]? = some t → ds[i]? = some d → small Tryd.prog t d := by
    intro i t d ht hd n hn
    have h1 := weightsEach_mem (P := Tryd.prog) ht hd n hn
    obtain ⟨rfl, rfl⟩ := trodVars_none hV
    rw [List.append_nil, List.append_nil] at hz
    have h2 := of_decide_eq_true (List.all_eq_true.1 hz n h1)
    rw [reach_eq] at h2
    exact h2
  obtain ⟨v0, vs0, d0, ds0, p0, q0, hargs, rfl, rfl, h0, r0⟩ := trodAll_cons hA
  obtain ⟨v1, vs1, d1, ds1, p1, q1, rfl, rfl, rfl, h1, r1⟩ := trodAll_cons r0
  obtain ⟨v2, vs2, d2, ds2, p2, q2, rfl, rfl, rfl, h2, r2⟩ := trodAll_cons r1
  obtain ⟨v3, vs3, d3, ds3, p3, q3, rfl, rfl, rfl, h3, r3⟩ := trodAll_cons r2
  obtain ⟨rfl, rfl, rfl⟩ := trodAll_nil r3
  obtain rfl : args = #[v0, v1, v2, v3] := by cases args; simp_all
  obtain ⟨a0, g0, e0⟩ := hand_V h0 (hsm 0 _ _ rfl rfl) (struct_V (hval 0 25 v0 rfl rfl))
  obtain ⟨a1, g1, l1, e1⟩ := hand_path h1 (hsm 1 _ _ rfl rfl) (slice_path (hval 1 26 v1 rfl rfl))
  obtain ⟨a2, g2, e2⟩ := hand_V h2 (hsm 2 _ _ rfl rfl) (struct_V (hval 2 25 v2 rfl rfl))
  obtain ⟨a3, g3, l3, e3⟩ := hand_path h3 (hsm 3 _ _ rfl rfl) (slice_path (hval 3 26 v3 rfl rfl))
  refine ((put_law a0 a1 a2 a3 g0.sm (by omega) g2.sm (by omega)).law (w := W) (m := memOf W) #[v0, v1, v2, v3] rfl (args_ok (.cons e0 (.cons e1 (.cons e2 (.cons e3 .nil))))) (.start W) rfl).mono ?_
  rintro e W' ⟨rfl, hb⟩
  exact ⟨_, rfl, post_law laidOut (by kernel_rfl) hW' rfl rfl (bool_at te_ok te_4 rfl) rfl rfl rfl hb⟩

set_option maxRecDepth 100000 in
theorem lifted (os : Os) (started : os.Started) (H : Type) (enc : TypeId × Value → H) (F : Stop.Interp) :
    ReturnsInHanded {} Tryd.checked os 4 .any ((OpenSpec.ofChange Rows.variantPutSpec).preRow enc Tryd.prog Tryd.f4 Rows.variantPutRow.domain false Rows.variantPutRow.laid) (((OpenSpec.ofChange Rows.variantPutSpec).at F).post enc Tryd.prog Tryd.f4 false true false false) := by
  obtain ⟨ds, places, hx⟩ := reads os enc
  refine returnsInHanded_of_row (C := Tryd.checked) (s := OpenSpec.ofChange Rows.variantPutSpec) own started (by kernel_rfl) Tryd.func4
    (witness_row_at (enc := enc) (C := Tryd.checked) false (laidWorld os) wit rfl (by kernel_rfl) (by kernel_rfl) (by kernel_rfl)
      (OpenSpec.preRow_of_cond 8 hx (by kernel_rfl) (fun k hk => by cases hk) (by kernel_rfl) (laid_met os))) ?_
  intro W base args ds gs before hval hW _ _ hz hL _ _
  exact contract H enc W base args ds gs before hval hW hz

theorem said : Rows.VariantPutSaid :=
  OpenClaim.holds_of_cond 4 Tryd.f4 rfl rfl rfl rfl rfl rfl rfl ⟨rfl, rfl, rfl, rfl, rfl⟩ rfl rfl rfl rfl rfl (by kernel_rfl) Tryd.func4 (by kernel_rfl)
    (of_decide_eq_true (by kernel_rfl)) (by unfold Func.isWrapper; first | (rw [if_pos (by decide +kernel)]; kernel_rfl) | (rw [if_neg (by decide +kernel)]; exact ⟨rfl, rfl⟩))
    (fun os started H enc _ F => by rw [OpenClaim.pre_eq_preRow]; exact lifted os started H enc F)
theorem plain (f : FuncId) (fn : Func) (hf : Tryd.pinned.checked.prog.funcNamed "cirrus/cirruslaw02.VariantPut" = some f) (hfn : Tryd.pinned.checked.prog.funcs[f]? = some fn) :
    false = Tryd.pinned.checked.prog.looks [] ∧ ∀ (j : Nat) t, fn.params[j]? = some t → Tryd.pinned.checked.prog.wantsStandIn t = false := by
  obtain rfl : f = 4 := Option.some.inj ((show Tryd.prog.funcNamed "cirrus/cirruslaw02.VariantPut" = some 4 by kernel_rfl).symm.trans hf) |>.symm
  obtain rfl : fn = Tryd.f4 := (Option.some.inj (Tryd.func4.symm.trans hfn)).symm
  refine ⟨by kernel_rfl, fun j t ht => ?_⟩
  have hall : (Tryd.f4.params.all fun t => !Tryd.prog.wantsStandIn t) = true := by kernel_rfl
  have := Array.all_eq_true'.1 hall t (Array.mem_of_getElem? ht)
  exact (by simpa using this : Tryd.prog.wantsStandIn t = false)
theorem card : Rows.VariantPutCardSaid :=
  Claim7.holds_tied_plain_at .later [] _ _ _ _ said (fun _ h => by cases h) (by kernel_rfl) (fun _ h => by cases h) variantPut_row_tie rfl ⟨rfl, rfl⟩ (by kernel_rfl) rfl plain (by kernel_rfl)
end Go.Proofs.YtjdocenbfghglaaDoor.VariantPut
end
