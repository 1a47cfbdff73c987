/- ChunkOnly, ChunkBack, ChunkRuns: what Unpack takes of bytes is what Pack makes of that; Unpack of Pack, in each encoding, is the values; values repeated in place have the same runs, but for the counts. For all inputs; no condition. -/
import Derived.Test.YtlbhgoffiigfbaaOb1
import Derived.Test.YtlbhgoffiigfbaaOb2
import Derived.Test.YtlbhgoffiigfbaaOb3
import Derived.Test.YtlbhgoffiigfbaaOb4
import Derived.Test.YtlbhgoffiigfbaaOb5
import Derived.Test.YtlbhgoffiigfbaaOb6
import Derived.Test.YtlbhgoffiigfbaaOb7
import Derived.Test.YtlbhgoffiigfbaaOb8
import Derived.Test.YtlbhgoffiigfbaaOb9
import Derived.Test.YtlbhgoffiigfbaaOb10
import Derived.Test.YtlbhgoffiigfbaaOb11
import Derived.Test.YtlbhgoffiigfbaaOb12
import Derived.Test.YtlbhgoffiigfbaaOb13
import Derived.Test.YtlbhgoffiigfbaaRows
import Derived.ProofKit
section
set_option linter.unusedSimpArgs false
set_option linter.unusedVariables false
namespace Go.Proofs.Ytlbhgoffiigfbaa.ChunkOnly
open Go Go.ChangeShapes Go.WideShapes Go.ChangeAt Go.RowKit Go.Proofs.Ytlbhgoffiigfbaa.AW

theorem own : ownKnob Try.prog.godebug = none := by kernel_rfl
theorem laidOut : laidOutB Try.prog = true := by kernel_rfl

set_option maxRecDepth 100000 in
theorem contract (H : Type) (enc : TypeId × Value → H) (W : World) (base : Nat) (args : Array Value) (ds gs : List (DataW H)) (before : List MemPlace)
    (hval : ∀ (j : Nat) t v, Try.f5.params[j]? = some t → args[j]? = some v → Value.okWide Try.prog W .any base t v)
    (hW : DataW.Whole enc Try.prog Try.f5.params.toList Rows.chunkOnlySpec.vars false W args.toList ds gs before)
    (hz : (DataW.weightsEach Try.prog (Try.f5.params.toList ++ []) (ds ++ gs)).all (· ≤ reachBytes) = true) :
    Calls Try.prog 5 args W fun e W' => ∃ v, e = .returned v ∧ Rows.chunkOnlySpec.post enc Try.prog Try.f5 false true false false W args v W' := by
  have hW' := hW
  obtain ⟨p, q, hA0, hV, rfl, hfz, hnd⟩ := hW
  have hA : DataW.TrodAll enc Try.prog W 0 (fun _ => true) true Try.f5.params.toList args.toList ds p := hA0
  rw [Try.params5] at hA hval hz
  have hsm : ∀ (i : Nat) t (d : DataW H), [9, 3][i]? = some t → ds[i]? = some d → small Try.prog t d := by
    intro i t d ht hd n hn
    have h1 := weightsEach_mem (P := Try.prog) ht hd n hn
    obtain ⟨rfl, rfl⟩ := trodVars_none hV
    rw [List.append_nil, List.append_nil] at hz
    have h2 := of_decide_eq_true (List.all_eq_true.1 hz n h1)
    rw [reach_eq] at h2
    exact h2
  obtain ⟨v0, vs0, d0, ds0, p0, q0, hargs, rfl, rfl, h0, r0⟩ := trodAll_cons hA
  obtain ⟨v1, vs1, d1, ds1, p1, q1, rfl, rfl, rfl, h1, r1⟩ := trodAll_cons r0
  obtain ⟨rfl, rfl, rfl⟩ := trodAll_nil r1
  obtain rfl : args = #[v0, v1] := by cases args; simp_all
  obtain ⟨a0, g0, e0⟩ := hand_str h0 (hsm 0 _ _ rfl rfl) (hval 0 9 v0 rfl rfl)
  obtain ⟨a1, g1, e1⟩ := hand_intk te_3 rfl h1 (hval 1 3 v1 rfl rfl)
  refine ((only_law a0 a1).law (w := W) (m := memOf W) #[v0, v1] rfl (args_ok (.cons e0 (.cons e1 .nil))) (.start W) rfl).mono ?_
  rintro e W' ⟨rfl, hb⟩
  exact ⟨_, rfl, post_law laidOut (by kernel_rfl) hW' rfl rfl (bool_at te_ok te_4 rfl) rfl rfl rfl hb⟩

set_option maxRecDepth 100000 in
theorem lifted (os : Os) (started : os.Started) (H : Type) (enc : TypeId × Value → H) :
    ReturnsInHanded {} Try.checked os 5 .any (Rows.chunkOnlySpec.pre6 enc Try.prog Try.f5 Rows.chunkOnlyRow.domain false) (Rows.chunkOnlySpec.post enc Try.prog Try.f5 false true false false) := by
  refine returnsInHanded_of_calls (C := Try.checked) own started (by kernel_rfl)
    (ChangeSpec.witness6 (enc := enc) (C := Try.checked) false ⟨#[], #[.string ⟨#[]⟩, .int .i64 0], []⟩ 8 (by kernel_rfl) (by kernel_rfl) (by kernel_rfl) (by kernel_rfl)) ?_
  intro w tape i _ _ _ hok hpre _
  obtain ⟨_, _, _, fn', hfn', _, _, _, _, hval⟩ := hok
  have e : fn' = Try.f5 := Option.some.inj (hfn'.symm.trans Try.func5)
  subst e
  obtain ⟨⟨ds, gs, before, hw, hc⟩, hz⟩ := hpre
  have hw' := DataW.Whole.of_heap (w' := w.forCall tape i) (by rfl) hw
  refine (contract H enc (w.forCall tape i) w.heap.size i.args ds gs before hval hw' (hz.weights hw)).mono fun e W' hp => ?_
  obtain ⟨v, he, hp⟩ := hp
  subst he
  exact ChangeSpec.post_blind hp

theorem said : Rows.ChunkOnlySaid :=
  OpenClaim.holds_of_wide 5 Try.f5 rfl rfl rfl rfl rfl rfl rfl ⟨rfl, rfl, rfl, rfl, rfl⟩ rfl rfl rfl rfl rfl (by kernel_rfl) Try.func5 (by kernel_rfl)
    (of_decide_eq_true (by kernel_rfl)) (by unfold Func.isWrapper; first | (rw [if_pos (by decide +kernel)]; kernel_rfl) | (rw [if_neg (by decide +kernel)]; exact ⟨rfl, rfl⟩))
    (fun os started H enc _ => lifted os started H enc)
end Go.Proofs.Ytlbhgoffiigfbaa.ChunkOnly

namespace Go.Proofs.Ytlbhgoffiigfbaa.ChunkBack
open Go Go.ChangeShapes Go.WideShapes Go.ChangeAt Go.RowKit Go.Proofs.Ytlbhgoffiigfbaa.AW

theorem own : ownKnob Try.prog.godebug = none := by kernel_rfl
theorem laidOut : laidOutB Try.prog = true := by kernel_rfl

set_option maxRecDepth 100000 in
theorem contract (H : Type) (enc : TypeId × Value → H) (W : World) (base : Nat) (args : Array Value) (ds gs : List (DataW H)) (before : List MemPlace)
    (hval : ∀ (j : Nat) t v, Try.f4.params[j]? = some t → args[j]? = some v → Value.okWide Try.prog W .any base t v)
    (hW : DataW.Whole enc Try.prog Try.f4.params.toList Rows.chunkBackSpec.vars false W args.toList ds gs before)
    (hz : (DataW.weightsEach Try.prog (Try.f4.params.toList ++ []) (ds ++ gs)).all (· ≤ reachBytes) = true) :
    Calls Try.prog 4 args W fun e W' => ∃ v, e = .returned v ∧ Rows.chunkBackSpec.post enc Try.prog Try.f4 false true false false W args v W' := by
  have hW' := hW
  obtain ⟨p, q, hA0, hV, rfl, hfz, hnd⟩ := hW
  have hA : DataW.TrodAll enc Try.prog W 0 (fun _ => true) true Try.f4.params.toList args.toList ds p := hA0
  rw [Try.params4] at hA hval hz
  have hsm : ∀ (i : Nat) t (d : DataW H), [28][i]? = some t → ds[i]? = some d → small Try.prog t d := by
    intro i t d ht hd n hn
    have h1 := weightsEach_mem (P := Try.prog) ht hd n hn
    obtain ⟨rfl, rfl⟩ := trodVars_none hV
    rw [List.append_nil, List.append_nil] at hz
    have h2 := of_decide_eq_true (List.all_eq_true.1 hz n h1)
    rw [reach_eq] at h2
    exact h2
  obtain ⟨v0, vs0, d0, ds0, p0, q0, hargs, rfl, rfl, h0, r0⟩ := trodAll_cons hA
  obtain ⟨rfl, rfl, rfl⟩ := trodAll_nil r0
  obtain rfl : args = #[v0] := by cases args; simp_all
  obtain ⟨a0, g0, l0, e0⟩ := hand_vals h0 (hsm 0 _ _ rfl rfl) (slice_vals (hval 0 28 v0 rfl rfl))
  refine ((back_law a0 (fun x hx => (g0 x hx).sm) (by omega)).law (w := W) (m := memOf W) #[v0] rfl (args_ok (.cons e0 .nil)) (.start W) rfl).mono ?_
  rintro e W' ⟨rfl, hb⟩
  exact ⟨_, rfl, post_law laidOut (by kernel_rfl) hW' rfl rfl (bool_at te_ok te_4 rfl) rfl rfl rfl hb⟩

set_option maxRecDepth 100000 in
theorem lifted (os : Os) (started : os.Started) (H : Type) (enc : TypeId × Value → H) :
    ReturnsInHanded {} Try.checked os 4 .any (Rows.chunkBackSpec.pre6 enc Try.prog Try.f4 Rows.chunkBackRow.domain false) (Rows.chunkBackSpec.post enc Try.prog Try.f4 false true false false) := by
  refine returnsInHanded_of_calls (C := Try.checked) own started (by kernel_rfl)
    (ChangeSpec.witness6 (enc := enc) (C := Try.checked) false ⟨#[], #[.slice none 0 0], []⟩ 8 (by kernel_rfl) (by kernel_rfl) (by kernel_rfl) (by kernel_rfl)) ?_
  intro w tape i _ _ _ hok hpre _
  obtain ⟨_, _, _, fn', hfn', _, _, _, _, hval⟩ := hok
  have e : fn' = Try.f4 := Option.some.inj (hfn'.symm.trans Try.func4)
  subst e
  obtain ⟨⟨ds, gs, before, hw, hc⟩, hz⟩ := hpre
  have hw' := DataW.Whole.of_heap (w' := w.forCall tape i) (by rfl) hw
  refine (contract H enc (w.forCall tape i) w.heap.size i.args ds gs before hval hw' (hz.weights hw)).mono fun e W' hp => ?_
  obtain ⟨v, he, hp⟩ := hp
  subst he
  exact ChangeSpec.post_blind hp

theorem said : Rows.ChunkBackSaid :=
  OpenClaim.holds_of_wide 4 Try.f4 rfl rfl rfl rfl rfl rfl rfl ⟨rfl, rfl, rfl, rfl, rfl⟩ rfl rfl rfl rfl rfl (by kernel_rfl) Try.func4 (by kernel_rfl)
    (of_decide_eq_true (by kernel_rfl)) (by unfold Func.isWrapper; first | (rw [if_pos (by decide +kernel)]; kernel_rfl) | (rw [if_neg (by decide +kernel)]; exact ⟨rfl, rfl⟩))
    (fun os started H enc _ => lifted os started H enc)
end Go.Proofs.Ytlbhgoffiigfbaa.ChunkBack

namespace Go.Proofs.Ytlbhgoffiigfbaa.ChunkRuns
open Go Go.ChangeShapes Go.WideShapes Go.ChangeAt Go.RowKit Go.Proofs.Ytlbhgoffiigfbaa.AW

theorem own : ownKnob Try.prog.godebug = none := by kernel_rfl
theorem laidOut : laidOutB Try.prog = true := by kernel_rfl

set_option maxRecDepth 100000 in
theorem contract (H : Type) (enc : TypeId × Value → H) (W : World) (base : Nat) (args : Array Value) (ds gs : List (DataW H)) (before : List MemPlace)
    (hval : ∀ (j : Nat) t v, Try.f7.params[j]? = some t → args[j]? = some v → Value.okWide Try.prog W .any base t v)
    (hW : DataW.Whole enc Try.prog Try.f7.params.toList Rows.chunkRunsSpec.vars false W args.toList ds gs before)
    (hz : (DataW.weightsEach Try.prog (Try.f7.params.toList ++ []) (ds ++ gs)).all (· ≤ reachBytes) = true) :
    Calls Try.prog 7 args W fun e W' => ∃ v, e = .returned v ∧ Rows.chunkRunsSpec.post enc Try.prog Try.f7 false true false false W args v W' := by
  have hW' := hW
  obtain ⟨p, q, hA0, hV, rfl, hfz, hnd⟩ := hW
  have hA : DataW.TrodAll enc Try.prog W 0 (fun _ => true) true Try.f7.params.toList args.toList ds p := hA0
  rw [Try.params7] at hA hval hz
  have hsm : ∀ (i : Nat) t (d : DataW H), [28, 5][i]? = some t → ds[i]? = some d → small Try.prog t d := by
    intro i t d ht hd n hn
    have h1 := weightsEach_mem (P := Try.prog) ht hd n hn
    obtain ⟨rfl, rfl⟩ := trodVars_none hV
    rw [List.append_nil, List.append_nil] at hz
    have h2 := of_decide_eq_true (List.all_eq_true.1 hz n h1)
    rw [reach_eq] at h2
    exact h2
  obtain ⟨v0, vs0, d0, ds0, p0, q0, hargs, rfl, rfl, h0, r0⟩ := trodAll_cons hA
  obtain ⟨v1, vs1, d1, ds1, p1, q1, rfl, rfl, rfl, h1, r1⟩ := trodAll_cons r0
  obtain ⟨rfl, rfl, rfl⟩ := trodAll_nil r1
  obtain rfl : args = #[v0, v1] := by cases args; simp_all
  obtain ⟨a0, g0, l0, e0⟩ := hand_vals h0 (hsm 0 _ _ rfl rfl) (slice_vals (hval 0 28 v0 rfl rfl))
  obtain ⟨a1, g1, e1⟩ := hand_intk te_5 rfl h1 (hval 1 5 v1 rfl rfl)
  refine ((runs_law a0 a1 (fun x hx => (g0 x hx).sm) (by omega) g1.1 g1.2).law (w := W) (m := memOf W) #[v0, v1] rfl (args_ok (.cons e0 (.cons e1 .nil))) (.start W) rfl).mono ?_
  rintro e W' ⟨rfl, hb⟩
  exact ⟨_, rfl, post_law laidOut (by kernel_rfl) hW' rfl rfl (bool_at te_ok te_4 rfl) rfl rfl rfl hb⟩

set_option maxRecDepth 100000 in
theorem lifted (os : Os) (started : os.Started) (H : Type) (enc : TypeId × Value → H) :
    ReturnsInHanded {} Try.checked os 7 .any (Rows.chunkRunsSpec.pre6 enc Try.prog Try.f7 Rows.chunkRunsRow.domain false) (Rows.chunkRunsSpec.post enc Try.prog Try.f7 false true false false) := by
  refine returnsInHanded_of_calls (C := Try.checked) own started (by kernel_rfl)
    (ChangeSpec.witness6 (enc := enc) (C := Try.checked) false ⟨#[], #[.slice none 0 0, .int .u8 0], []⟩ 8 (by kernel_rfl) (by kernel_rfl) (by kernel_rfl) (by kernel_rfl)) ?_
  intro w tape i _ _ _ hok hpre _
  obtain ⟨_, _, _, fn', hfn', _, _, _, _, hval⟩ := hok
  have e : fn' = Try.f7 := Option.some.inj (hfn'.symm.trans Try.func7)
  subst e
  obtain ⟨⟨ds, gs, before, hw, hc⟩, hz⟩ := hpre
  have hw' := DataW.Whole.of_heap (w' := w.forCall tape i) (by rfl) hw
  refine (contract H enc (w.forCall tape i) w.heap.size i.args ds gs before hval hw' (hz.weights hw)).mono fun e W' hp => ?_
  obtain ⟨v, he, hp⟩ := hp
  subst he
  exact ChangeSpec.post_blind hp

theorem said : Rows.ChunkRunsSaid :=
  OpenClaim.holds_of_wide 7 Try.f7 rfl rfl rfl rfl rfl rfl rfl ⟨rfl, rfl, rfl, rfl, rfl⟩ rfl rfl rfl rfl rfl (by kernel_rfl) Try.func7 (by kernel_rfl)
    (of_decide_eq_true (by kernel_rfl)) (by unfold Func.isWrapper; first | (rw [if_pos (by decide +kernel)]; kernel_rfl) | (rw [if_neg (by decide +kernel)]; exact ⟨rfl, rfl⟩))
    (fun os started H enc _ => lifted os started H enc)
end Go.Proofs.Ytlbhgoffiigfbaa.ChunkRuns
end
