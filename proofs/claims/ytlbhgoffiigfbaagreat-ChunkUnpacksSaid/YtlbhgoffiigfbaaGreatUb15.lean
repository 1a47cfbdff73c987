/- ChunkUnpacks: Unpack is as the chapter says. For bytes and a number of an encoding of every form; no condition. -/
import Derived.Test.YtlbhgoffiigfbaaGreatUb1
import Derived.Test.YtlbhgoffiigfbaaGreatUb2
import Derived.Test.YtlbhgoffiigfbaaGreatUb3
import Derived.Test.YtlbhgoffiigfbaaGreatUb4
import Derived.Test.YtlbhgoffiigfbaaGreatUb5
import Derived.Test.YtlbhgoffiigfbaaGreatUb6
import Derived.Test.YtlbhgoffiigfbaaGreatUb7
import Derived.Test.YtlbhgoffiigfbaaGreatUb8
import Derived.Test.YtlbhgoffiigfbaaGreatUb9
import Derived.Test.YtlbhgoffiigfbaaGreatUb10
import Derived.Test.YtlbhgoffiigfbaaGreatUb11
import Derived.Test.YtlbhgoffiigfbaaGreatUb12
import Derived.Test.YtlbhgoffiigfbaaGreatUb13
import Derived.Test.YtlbhgoffiigfbaaGreatUb14
import Derived.Test.YtlbhgoffiigfbaaGreatRows
import Derived.ProofKit
section
set_option linter.unusedSimpArgs false
set_option linter.unusedVariables false
namespace Go.Proofs.YtlbhgoffiigfbaaGreat.ChunkUnpacks
open Go Go.ChangeShapes Go.WideShapes Go.ChangeAt Go.RowKit Go.Proofs.YtlbhgoffiigfbaaGreat.AW

theorem own : ownKnob Tryz.prog.godebug = none := by kernel_rfl
theorem laidOut : laidOutB Tryz.prog = true := by kernel_rfl

set_option maxRecDepth 100000 in
theorem contract (H : Type) (enc : TypeId × Value → H) (W : World) (base : Nat) (args : Array Value) (ds gs : List (DataW H)) (before : List MemPlace)
    (hval : ∀ (j : Nat) t v, Tryz.f4.params[j]? = some t → args[j]? = some v → Value.okWide Tryz.prog W .any base t v)
    (hW : DataW.Whole enc Tryz.prog Tryz.f4.params.toList Rows.chunkUnpacksSpec.vars false W args.toList ds gs before)
    (hz : (DataW.weightsEach Tryz.prog (Tryz.f4.params.toList ++ []) (ds ++ gs)).all (· ≤ reachBytes) = true) :
    Calls Tryz.prog 4 args W fun e W' => ∃ v, e = .returned v ∧ Rows.chunkUnpacksSpec.post enc Tryz.prog Tryz.f4 false true false false W args v W' := by
  have hW' := hW
  obtain ⟨p, q, hA0, hV, rfl, hfz, hnd⟩ := hW
  have hA : DataW.TrodAll enc Tryz.prog W 0 (fun _ => true) true Tryz.f4.params.toList args.toList ds p := hA0
  rw [Tryz.params4] at hA hval hz
  have hsm : ∀ (i : Nat) t (d : DataW H), [9, 3][i]? = some t → ds[i]? = some d → small Tryz.prog t d := by
    intro i t d ht hd n hn
    have h1 := weightsEach_mem (P := Tryz.prog) ht hd n hn
    obtain ⟨rfl, rfl⟩ := trodVars_none hV
    rw [List.append_nil, List.append_nil] at hz
    have h2 := of_decide_eq_true (List.all_eq_true.1 hz n h1)
    rw [reach_eq] at h2
    exact h2
  obtain ⟨v0, vs0, d0, ds0, p0, q0, hargs, rfl, rfl, h0, r0⟩ := trodAll_cons hA
  obtain ⟨v1, vs1, d1, ds1, p1, q1, rfl, rfl, rfl, h1, r1⟩ := trodAll_cons r0
  obtain ⟨rfl, rfl, rfl⟩ := trodAll_nil r1
  obtain rfl : args = #[v0, v1] := by cases args; simp_all
  obtain ⟨a0, g0, e0⟩ := hand_str h0 (hsm 0 _ _ rfl rfl) (hval 0 9 v0 rfl rfl)
  obtain ⟨a1, g1, e1⟩ := hand_intk te_3 rfl h1 (hval 1 3 v1 rfl rfl)
  refine ((unpacks_law a0 a1).law (w := W) (m := memOf W) #[v0, v1] rfl (args_ok (.cons e0 (.cons e1 .nil))) (.start W) rfl).mono ?_
  rintro e W' ⟨rfl, hb⟩
  exact ⟨_, rfl, post_law laidOut (by kernel_rfl) hW' rfl rfl (bool_at te_ok te_4 rfl) rfl rfl rfl hb⟩

set_option maxRecDepth 100000 in
theorem lifted (os : Os) (started : os.Started) (H : Type) (enc : TypeId × Value → H) :
    ReturnsInHanded {} Tryz.checked os 4 .any (Rows.chunkUnpacksSpec.pre6 enc Tryz.prog Tryz.f4 Rows.chunkUnpacksRow.domain false) (Rows.chunkUnpacksSpec.post enc Tryz.prog Tryz.f4 false true false false) := by
  refine returnsInHanded_of_calls (C := Tryz.checked) own started (by kernel_rfl)
    (ChangeSpec.witness6 (enc := enc) (C := Tryz.checked) false ⟨#[], #[.string ⟨#[]⟩, .int .i64 0], []⟩ 8 (by kernel_rfl) (by kernel_rfl) (by kernel_rfl) (by kernel_rfl)) ?_
  intro w tape i _ _ _ hok hpre _
  obtain ⟨_, _, _, fn', hfn', _, _, _, _, hval⟩ := hok
  have e : fn' = Tryz.f4 := Option.some.inj (hfn'.symm.trans Tryz.func4)
  subst e
  obtain ⟨⟨ds, gs, before, hw, hc⟩, hz⟩ := hpre
  have hw' := DataW.Whole.of_heap (w' := w.forCall tape i) (by rfl) hw
  refine (contract H enc (w.forCall tape i) w.heap.size i.args ds gs before hval hw' (hz.weights hw)).mono fun e W' hp => ?_
  obtain ⟨v, he, hp⟩ := hp
  subst he
  exact ChangeSpec.post_blind hp

theorem said : Rows.ChunkUnpacksSaid :=
  OpenClaim.holds_of_wide 4 Tryz.f4 rfl rfl rfl rfl rfl rfl rfl ⟨rfl, rfl, rfl, rfl, rfl⟩ rfl rfl rfl rfl rfl (by kernel_rfl) Tryz.func4 (by kernel_rfl)
    (of_decide_eq_true (by kernel_rfl)) (by unfold Func.isWrapper; first | (rw [if_pos (by decide +kernel)]; kernel_rfl) | (rw [if_neg (by decide +kernel)]; exact ⟨rfl, rfl⟩))
    (fun os started H enc _ => lifted os started H enc)
end Go.Proofs.YtlbhgoffiigfbaaGreat.ChunkUnpacks
end
