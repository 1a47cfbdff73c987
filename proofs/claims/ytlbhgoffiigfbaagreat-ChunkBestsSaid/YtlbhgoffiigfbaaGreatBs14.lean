/- ChunkBests: Best and Sizes are as the chapter says, for any values, at most 400. -/
import Derived.Test.YtlbhgoffiigfbaaGreatBs1
import Derived.Test.YtlbhgoffiigfbaaGreatBs2
import Derived.Test.YtlbhgoffiigfbaaGreatBs3
import Derived.Test.YtlbhgoffiigfbaaGreatBs4
import Derived.Test.YtlbhgoffiigfbaaGreatBs5
import Derived.Test.YtlbhgoffiigfbaaGreatBs6
import Derived.Test.YtlbhgoffiigfbaaGreatBs7
import Derived.Test.YtlbhgoffiigfbaaGreatBs8
import Derived.Test.YtlbhgoffiigfbaaGreatBs9
import Derived.Test.YtlbhgoffiigfbaaGreatBs10
import Derived.Test.YtlbhgoffiigfbaaGreatBs11
import Derived.Test.YtlbhgoffiigfbaaGreatBs12
import Derived.Test.YtlbhgoffiigfbaaGreatBs13
import Derived.Test.YtlbhgoffiigfbaaGreatRows
import Derived.ProofKit
section
set_option linter.unusedSimpArgs false
set_option linter.unusedVariables false
namespace Go.Proofs.YtlbhgoffiigfbaaGreat.ChunkBests
open Go Go.ChangeShapes Go.WideShapes Go.ChangeAt Go.RowKit Go.Proofs.YtlbhgoffiigfbaaGreat.AW

theorem own : ownKnob Tryz.prog.godebug = none := by kernel_rfl
theorem laidOut : laidOutB Tryz.prog = true := by kernel_rfl

set_option maxRecDepth 100000 in
theorem contract (H : Type) (enc : TypeId × Value → H) (W : World) (base : Nat) (args : Array Value) (ds gs : List (DataW H)) (before : List MemPlace)
    (hval : ∀ (j : Nat) t v, Tryz.f5.params[j]? = some t → args[j]? = some v → Value.okWide Tryz.prog W .any base t v)
    (hW : DataW.Whole enc Tryz.prog Tryz.f5.params.toList Rows.chunkBestsSpec.vars false W args.toList ds gs before)
    (hz : (DataW.weightsEach Tryz.prog (Tryz.f5.params.toList ++ []) (ds ++ gs)).all (· ≤ reachBytes) = true) :
    Calls Tryz.prog 5 args W fun e W' => ∃ v, e = .returned v ∧ Rows.chunkBestsSpec.post enc Tryz.prog Tryz.f5 false true false false W args v W' := by
  have hW' := hW
  obtain ⟨p, q, hA0, hV, rfl, hfz, hnd⟩ := hW
  have hA : DataW.TrodAll enc Tryz.prog W 0 (fun _ => true) true Tryz.f5.params.toList args.toList ds p := hA0
  rw [Tryz.params5] at hA hval hz
  have hsm : ∀ (i : Nat) t (d : DataW H), [22][i]? = some t → ds[i]? = some d → small Tryz.prog t d := by
    intro i t d ht hd n hn
    have h1 := weightsEach_mem (P := Tryz.prog) ht hd n hn
    obtain ⟨rfl, rfl⟩ := trodVars_none hV
    rw [List.append_nil, List.append_nil] at hz
    have h2 := of_decide_eq_true (List.all_eq_true.1 hz n h1)
    rw [reach_eq] at h2
    exact h2
  obtain ⟨v0, vs0, d0, ds0, p0, q0, hargs, rfl, rfl, h0, r0⟩ := trodAll_cons hA
  obtain ⟨rfl, rfl, rfl⟩ := trodAll_nil r0
  obtain rfl : args = #[v0] := by cases args; simp_all
  obtain ⟨a0, g0, l0, e0⟩ := hand_vals h0 (hsm 0 _ _ rfl rfl) (slice_vals (hval 0 22 v0 rfl rfl))
  refine ((bests_law a0 (fun x hx => (g0 x hx).sm) (by omega)).law (w := W) (m := memOf W) #[v0] rfl (args_ok (.cons e0 .nil)) (.start W) rfl).mono ?_
  rintro e W' ⟨rfl, hb⟩
  exact ⟨_, rfl, post_law laidOut (by kernel_rfl) hW' rfl rfl (bool_at te_ok te_4 rfl) rfl rfl rfl hb⟩

set_option maxRecDepth 100000 in
theorem lifted (os : Os) (started : os.Started) (H : Type) (enc : TypeId × Value → H) :
    ReturnsInHanded {} Tryz.checked os 5 .any (Rows.chunkBestsSpec.pre6 enc Tryz.prog Tryz.f5 Rows.chunkBestsRow.domain false) (Rows.chunkBestsSpec.post enc Tryz.prog Tryz.f5 false true false false) := by
  refine returnsInHanded_of_calls (C := Tryz.checked) own started (by kernel_rfl)
    (ChangeSpec.witness6 (enc := enc) (C := Tryz.checked) false ⟨#[], #[.slice none 0 0], []⟩ 8 (by kernel_rfl) (by kernel_rfl) (by kernel_rfl) (by kernel_rfl)) ?_
  intro w tape i _ _ _ hok hpre _
  obtain ⟨_, _, _, fn', hfn', _, _, _, _, hval⟩ := hok
  have e : fn' = Tryz.f5 := Option.some.inj (hfn'.symm.trans Tryz.func5)
  subst e
  obtain ⟨⟨ds, gs, before, hw, hc⟩, hz⟩ := hpre
  have hw' := DataW.Whole.of_heap (w' := w.forCall tape i) (by rfl) hw
  refine (contract H enc (w.forCall tape i) w.heap.size i.args ds gs before hval hw' (hz.weights hw)).mono fun e W' hp => ?_
  obtain ⟨v, he, hp⟩ := hp
  subst he
  exact ChangeSpec.post_blind hp

theorem said : Rows.ChunkBestsSaid :=
  OpenClaim.holds_of_wide 5 Tryz.f5 rfl rfl rfl rfl rfl rfl rfl ⟨rfl, rfl, rfl, rfl, rfl⟩ rfl rfl rfl rfl rfl (by kernel_rfl) Tryz.func5 (by kernel_rfl)
    (of_decide_eq_true (by kernel_rfl)) (by unfold Func.isWrapper; first | (rw [if_pos (by decide +kernel)]; kernel_rfl) | (rw [if_neg (by decide +kernel)]; exact ⟨rfl, rfl⟩))
    (fun os started H enc _ => lifted os started H enc)
end Go.Proofs.YtlbhgoffiigfbaaGreat.ChunkBests
end
