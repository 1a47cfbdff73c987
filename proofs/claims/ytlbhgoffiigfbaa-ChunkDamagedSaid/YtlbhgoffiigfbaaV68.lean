/- V, part 68: Caught (under way). -/
import Derived.Test.YtlbhgoffiigfbaaV67
import Derived.Tactics
import Derived.Tactics2
import Derived.Defers
import Derived.Recover
import Derived.Laws.Pointers
set_option linter.unusedSimpArgs false
set_option linter.unusedVariables false
namespace Go.Proofs.Ytlbhgoffiigfbaa.AW
open Go Go.RowKit

theorem caught_idle (p : Addr) (w : World) :
    CallsD Try.prog 35 #[.pointer (some p)] .returning w fun e u' w' => e = .returned (.tuple #[]) ∧ u' = .returning ∧ w' = w := by
  refine callsD_of_wpS Try.func35 rfl fun c₀ cs hu => ?_
  apply wpS_seq
  apply wpS_region
  simp [wpOpsS, go_sem, recoverD, hu, Try.ntmps35, Exit.thenS]
  apply wpS_seq
  apply wpS_region
  simp [wpOpsS, go_sem, Exit.thenS]
  refine wpS_cond (t := false) (by simp [Act.eval, Array.replicate]) ?_
  simp only [Bool.false_eq_true, if_false]
  refine wpS_of_wp (wp_skip ?_)
  cases c₀
  simp_all [bodyPostS, results, Try.results35]
set_option maxRecDepth 8000 in
theorem caught_calls (g : FuncId) (hg : FOk Try.prog g) (first cap : Array Value) (w : World) (R : Ending → World → Prop)
    (hc : Calls Try.prog g (first ++ #[] ++ cap) (w.alloc (.cells #[.bool false] 4)) fun e w1 => ∃ v, e = .returned v ∧ w1.cell? ⟨w.heap.size, 0, none⟩ = some (.bool false) ∧ w1.frozen? ⟨w.heap.size, 0, none⟩ = false ∧ R (.returned (.bool true)) (w1.setCell ⟨w.heap.size, 0, none⟩ (.bool true))) :
    Calls Try.prog 27 #[.func (.func g) first cap] w R := by
  have hmf : ∀ (fn : Fn) (first cap : Array Value) (w : World), (Instr.makeFunc fn first cap).run Try.prog w = .ok (.func fn first cap) w := fun _ _ _ _ => rfl
  go_enter_defers Try.func27, Try.ntmps27
  go_wp2
  rename_i K1 hK1 K2 hK2
  obtain ⟨fn, hfn, hbody, hname⟩ := hg
  have hb : fn.body ≠ none := by intro hx; rw [hx] at hbody; cases hbody
  have hn2 : fn.name ≠ "runtime.NumGoroutine" := by intro hx; rw [hx] at hname; simp at hname
  have hrun2 : ∀ (args : Array Value) (w : World), (callFunc g args).run Try.prog w = .ok (.enter g args) w := fun args w => by simp [callFunc, run_program, hfn, hn2, hb]
  rw [hrun2]
  simp only [Array.append_empty] at hc
  refine hc.mono ?_
  rintro e w1 ⟨v, rfl, h1, h2, h3⟩
  refine hK2 _ _ ?_
  simp only [Act.put]
  go_wp2
  refine leaves_cons (f := 35) (args := #[.pointer (some ⟨w.heap.size, 0, none⟩)]) (by simp) (by simp [go_sem]) ?_
  refine (caught_idle ⟨w.heap.size, 0, none⟩ _).mono ?_
  rintro e u' w'' ⟨rfl, rfl, rfl⟩
  simp [Leaves, settle, results, Try.results27, go_sem, h1, h2]
  exact h3
end Go.Proofs.Ytlbhgoffiigfbaa.AW
