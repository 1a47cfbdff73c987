/- Texts of this claim, part 3: V68, V69, V101, E50, V103. -/
import Derived.Test.YtlbhgoffiigfbaaGreatUb1
import Derived.Tactics
import Derived.Tactics2
import Derived.Defers
import Derived.Recover
import Derived.Laws.Pointers
import Derived.Test.YtlbhgoffiigfbaaGreatTab
section
set_option linter.unusedSimpArgs false
set_option linter.unusedVariables false
namespace Go.Proofs.YtlbhgoffiigfbaaGreat.AW
open Go Go.RowKit

theorem caught_idle (p : Addr) (w : World) :
    CallsD Tryz.prog 41 #[.pointer (some p)] .returning w fun e u' w' => e = .returned (.tuple #[]) ∧ u' = .returning ∧ w' = w := by
  refine callsD_of_wpS Tryz.func41 rfl fun c₀ cs hu => ?_
  apply wpS_seq
  apply wpS_region
  simp [wpOpsS, go_sem, recoverD, hu, Tryz.ntmps41, Exit.thenS]
  apply wpS_seq
  apply wpS_region
  simp [wpOpsS, go_sem, Exit.thenS]
  refine wpS_cond (t := false) (by simp [Act.eval, Array.replicate]) ?_
  simp only [Bool.false_eq_true, if_false]
  refine wpS_of_wp (wp_skip ?_)
  cases c₀
  simp_all [bodyPostS, results, Tryz.results41]
set_option maxRecDepth 8000 in
theorem caught_calls (g : FuncId) (hg : FOk Tryz.prog g) (first cap : Array Value) (w : World) (R : Ending → World → Prop)
    (hc : Calls Tryz.prog g (first ++ #[] ++ cap) (w.alloc (.cells #[.bool false] 4)) fun e w1 => ∃ v, e = .returned v ∧ w1.cell? ⟨w.heap.size, 0, none⟩ = some (.bool false) ∧ w1.frozen? ⟨w.heap.size, 0, none⟩ = false ∧ R (.returned (.bool true)) (w1.setCell ⟨w.heap.size, 0, none⟩ (.bool true))) :
    Calls Tryz.prog 27 #[.func (.func g) first cap] w R := by
  have hmf : ∀ (fn : Fn) (first cap : Array Value) (w : World), (Instr.makeFunc fn first cap).run Tryz.prog w = .ok (.func fn first cap) w := fun _ _ _ _ => rfl
  go_enter_defers Tryz.func27, Tryz.ntmps27
  go_wp2
  rename_i K1 hK1 K2 hK2
  obtain ⟨fn, hfn, hbody, hname⟩ := hg
  have hb : fn.body ≠ none := by intro hx; rw [hx] at hbody; cases hbody
  have hn2 : fn.name ≠ "runtime.NumGoroutine" := by intro hx; rw [hx] at hname; simp at hname
  have hrun2 : ∀ (args : Array Value) (w : World), (callFunc g args).run Tryz.prog w = .ok (.enter g args) w := fun args w => by simp [callFunc, run_program, hfn, hn2, hb]
  rw [hrun2]
  simp only [Array.append_empty] at hc
  refine hc.mono ?_
  rintro e w1 ⟨v, rfl, h1, h2, h3⟩
  refine hK2 _ _ ?_
  simp only [Act.put]
  go_wp2
  refine leaves_cons (f := 41) (args := #[.pointer (some ⟨w.heap.size, 0, none⟩)]) (by simp) (by simp [go_sem]) ?_
  refine (caught_idle ⟨w.heap.size, 0, none⟩ _).mono ?_
  rintro e u' w'' ⟨rfl, rfl, rfl⟩
  simp [Leaves, settle, results, Tryz.results27, go_sem, h1]
  exact h3
end Go.Proofs.YtlbhgoffiigfbaaGreat.AW
end
section
set_option linter.unusedSimpArgs false
set_option linter.unusedVariables false
namespace Go.Proofs.YtlbhgoffiigfbaaGreat.AW
open Go Go.RowKit

theorem caught_acalls {g : FuncId} {first cap : List AV} {h : AH} {R : AOut → AH → Prop} (hg : FOk Tryz.prog g)
    (hc : ACalls Tryz.prog g (first ++ [] ++ cap) (h.new [.bool false]) (fun out h2 => (∃ v, out = .ret v) ∧ h2.box h.nb = some [.bool false] ∧ R (.ret (.bool true)) (h2.set h.nb [.bool true]))) :
    ACalls Tryz.prog 27 [.fn (.func g) first cap] h R := by
  intro w0 m w args' hn hr hW
  have hx := hr 0 _ rfl
  have harr : args' = #[args'.getD 0 undef] := by
    apply Array.ext
    · simpa using hn
    · intro i h1 h2
      simp at h2; subst h2
      simp [Array.getD, h1]
  obtain ⟨m1, hm1, hM, hC, hW1⟩ := hW.newBox [.bool false] #[.bool false] 4 (by simp) (fun j c hj => by
    cases j with
    | zero => simp at hj; subst hj; exact .bool _
    | succ j => simp at hj) (fun j hj => by
    simp at hj; subst hj; rfl)
  rw [harr]
  generalize args'.getD 0 undef = fv at hx ⊢
  obtain ⟨first', cap', rfl, q1, q2, q3, q4⟩ := hx.fn_inv
  refine caught_calls g hg first' cap' w _ ((hc w0 m1 _ (first' ++ #[] ++ cap') ?_ ?_ hW1).mono ?_)
  · simp; omega
  · intro i c hi
    simp only [List.append_nil, Array.append_empty] at hi ⊢
    rw [Array.getD_eq_getD_getElem?]
    by_cases hlt : i < first.length
    · rw [List.getElem?_append_left hlt] at hi
      rw [Array.getElem?_append_left (by omega)]
      have := (q3 i c hi).mono hm1
      rw [Array.getD_eq_getD_getElem?] at this
      exact this
    · rw [List.getElem?_append_right (by omega)] at hi
      rw [Array.getElem?_append_right (by omega), q1]
      have := (q4 _ c hi).mono hm1
      rw [Array.getD_eq_getD_getElem?] at this
      exact this
  · rintro e w1 ⟨m2, out, h2, hm2, ho, hW2, ⟨v, rfl⟩, hbx, hR⟩
    cases e with
    | panicked c => exact ho.elim
    | outgrown => exact ho.elim
    | returned c =>
      obtain ⟨blk, arr, ty, fr, b1, b2, b3⟩ := hW2.box _ _ hbx
      have hM2 := hm2.M _ _ hM
      rw [hM2] at b1; injection b1 with b1; subst b1
      have hsz : 0 < arr.size := by have h9 : [AV.bool false].length ≤ arr.size := b3.size; exact h9
      have h0 := b3.rel 0 _ rfl
      have h0 := h0.bool_inv
      refine ⟨c, rfl, ?_, frozen_of_blk b3.here b3.free _ (by simpa using hsz), m2, .ret (.bool true), h2.set h.nb [.bool true], hm1.trans hm2, .bool _, ?_, hR⟩
      · rw [cell_of_blk b3.here, Array.getElem?_eq_getElem hsz]
        rw [Array.getD_eq_getD_getElem?, Array.getElem?_eq_getElem hsz, Option.getD_some] at h0
        rw [h0]
      · rw [setCell_putBlk _ _ _ _ _ _ _ b3.here]
        refine hW2.setBox hbx hM2 b3.here (by simp) rfl (fun j c hj => ?_) (fun j hj => ?_)
        · cases j with
          | zero =>
            simp at hj
            subst hj
            rw [Array.getD_eq_getD_getElem?, Array.getElem?_setIfInBounds_self_of_lt hsz, Option.getD_some]
            exact .bool _
          | succ j => simp at hj
        · simp only [Array.size_setIfInBounds] at hj
          by_cases e : j = 0
          · subst e
            rw [Array.getD_eq_getD_getElem?, Array.getElem?_setIfInBounds_self_of_lt hsz, Option.getD_some]
            rfl
          · rw [Array.getD_eq_getD_getElem?, Array.getElem?_setIfInBounds_ne (by omega), ← Array.getD_eq_getD_getElem?]
            exact b3.one j hj
end Go.Proofs.YtlbhgoffiigfbaaGreat.AW
end
section
set_option linter.unusedSimpArgs false
set_option linter.unusedVariables false
namespace Go.Proofs.YtlbhgoffiigfbaaGreat.AW
open Go Go.RowKit

/-- The panic of wrong bytes. -/
def wrongV : AV := .iface 69 (.agg [])
def wrongC : Value := .iface 69 (.agg #[])
set_option maxRecDepth 8000 in
theorem caught_wrong (p : Addr) (w : World) (x : Value) (hx : (w.alloc (.cells #[] 69)).cell? p = some x) (hf : (w.alloc (.cells #[] 69)).frozen? p = false) :
    CallsD Tryz.prog 41 #[.pointer (some p)] (.panicking [{ v := wrongC, recovered := false }]) w fun e u' w' => e = .returned (.tuple #[]) ∧ u' = .panicking [{ v := wrongC, recovered := true }] ∧ w' = (w.alloc (.cells #[] 69)).setCell p (.bool false) := by
  unfold wrongC
  refine callsD_of_wpS Tryz.func41 rfl fun c₀ cs hu => ?_
  apply wpS_seq
  apply wpS_region
  simp [wpOpsS, go_sem, recoverD, hu, Tryz.ntmps41, Exit.thenS]
  apply wpS_seq
  apply wpS_region
  simp [wpOpsS, go_sem, Exit.thenS]
  refine wpS_cond (t := true) (by simp [Act.eval, Array.replicate]) ?_
  simp only [if_true]
  apply wpS_seq
  apply wpS_seq
  apply wpS_region
  have hta : ∀ w : World, (Instr.typeAssert (Value.iface 69 (Value.agg #[])) 20 69 true).run Tryz.prog w = .ok (.tuple #[.agg #[], .bool true]) w := fun _ => by kernel_rfl
  simp [wpOpsS, go_sem, Exit.thenS, hta]
  apply wpS_seq
  apply wpS_region
  simp [wpOpsS, go_sem, Exit.thenS]
  refine wpS_cond (t := false) (by simp [Act.eval, Array.replicate]) ?_
  simp only [Bool.false_eq_true, if_false]
  refine wpS_of_wp (wp_skip ?_)
  apply wpS_region
  simp [wpOpsS, go_sem, hx, hf]
  cases c₀
  simp_all [bodyPostS, results, Tryz.results41]
set_option maxRecDepth 8000 in
theorem caught_both (g : FuncId) (hg : FOk Tryz.prog g) (first cap : Array Value) (w : World) (R : Ending → World → Prop)
    (hc : Calls Tryz.prog g (first ++ #[] ++ cap) (w.alloc (.cells #[.bool false] 4)) fun e w1 =>
      (∃ v, e = .returned v ∧ w1.cell? ⟨w.heap.size, 0, none⟩ = some (.bool false) ∧ w1.frozen? ⟨w.heap.size, 0, none⟩ = false ∧ R (.returned (.bool true)) (w1.setCell ⟨w.heap.size, 0, none⟩ (.bool true))) ∨
      (e = .panicked [{ v := wrongC, recovered := false }] ∧ (∃ x, (w1.alloc (.cells #[] 69)).cell? ⟨w.heap.size, 0, none⟩ = some x) ∧ (w1.alloc (.cells #[] 69)).frozen? ⟨w.heap.size, 0, none⟩ = false ∧
        ((w1.alloc (.cells #[] 69)).setCell ⟨w.heap.size, 0, none⟩ (.bool false)).cell? ⟨w.heap.size, 0, none⟩ = some (.bool false) ∧
        R (.returned (.bool false)) ((w1.alloc (.cells #[] 69)).setCell ⟨w.heap.size, 0, none⟩ (.bool false)))) :
    Calls Tryz.prog 27 #[.func (.func g) first cap] w R := by
  have hmf : ∀ (fn : Fn) (first cap : Array Value) (w : World), (Instr.makeFunc fn first cap).run Tryz.prog w = .ok (.func fn first cap) w := fun _ _ _ _ => rfl
  go_enter_defers Tryz.func27, Tryz.ntmps27
  go_wp2
  rename_i K1 hK1 K2 hK2
  obtain ⟨fn, hfn, hbody, hname⟩ := hg
  have hb : fn.body ≠ none := by intro hx; rw [hx] at hbody; cases hbody
  have hn2 : fn.name ≠ "runtime.NumGoroutine" := by intro hx; rw [hx] at hname; simp at hname
  have hrun2 : ∀ (args : Array Value) (w : World), (callFunc g args).run Tryz.prog w = .ok (.enter g args) w := fun args w => by simp [callFunc, run_program, hfn, hn2, hb]
  rw [hrun2]
  simp only [Array.append_empty] at hc
  refine hc.mono ?_
  rintro e w1 (⟨v, rfl, h1, h2, h3⟩ | ⟨rfl, ⟨x, h1⟩, h2, h4, h3⟩)
  · refine hK2 _ _ ?_
    simp only [Act.put]
    go_wp2
    refine leaves_cons (f := 41) (args := #[.pointer (some ⟨w.heap.size, 0, none⟩)]) (by simp) (by simp [go_sem]) ?_
    refine (caught_idle ⟨w.heap.size, 0, none⟩ _).mono ?_
    rintro e u' w'' ⟨rfl, rfl, rfl⟩
    simp [Leaves, settle, results, Tryz.results27, go_sem, h1]
    exact h3
  · show Leaves _ _ _ _ _ _ _
    refine leaves_cons (f := 41) (args := #[.pointer (some ⟨w.heap.size, 0, none⟩)]) (by simp) (by simp [go_sem]) ?_
    refine (caught_wrong ⟨w.heap.size, 0, none⟩ _ x h1 h2).mono ?_
    rintro e u' w'' ⟨rfl, rfl, rfl⟩
    simp [Leaves, settle, results, Tryz.results27, go_sem, h4]
    exact h3
end Go.Proofs.YtlbhgoffiigfbaaGreat.AW
end
section
set_option linter.unusedSimpArgs false
set_option linter.unusedVariables false
namespace Go.Proofs.YtlbhgoffiigfbaaGreat.AW
open Go Go.RowKit

def meth5 (t : Nat) (name : String) : Option FuncId :=
  bif name == "cirrus/chunk.can" then (bif t == 76 then some 89 else bif t == 77 then some 104 else bif t == 78 then some 120 else bif t == 79 then some 144 else none)
  else bif name == "cirrus/chunk.read" then (bif t == 76 then some 90 else bif t == 77 then some 105 else bif t == 78 then some 121 else bif t == 79 then some 145 else none)
  else bif name == "cirrus/chunk.write" then (bif t == 76 then some 91 else bif t == 77 then some 106 else bif t == 78 then some 122 else bif t == 79 then some 146 else none)
  else none
def inl5 (f : FuncId) : Bool := Nat.beq f 53 || Nat.beq f 32 || Nat.beq f 101 || Nat.beq f 102 || Nat.beq f 97 || Nat.beq f 93 || Nat.beq f 91 || Nat.beq f 106 || Nat.beq f 122 || Nat.beq f 146
def cmpB : List UInt8 → List UInt8 → Int
  | [], [] => 0
  | [], _ :: _ => -1
  | _ :: _, [] => 1
  | x :: xs, y :: ys => bif Nat.blt x.toNat y.toNat then -1 else bif Nat.blt y.toNat x.toNat then 1 else cmpB xs ys
def known5 (f : FuncId) (args : List AV) : Option AV :=
  bif Nat.beq f 119 then (match args with
    | [.str a, .str b] => some (.int .i64 (cmpB a.data.toList b.data.toList))
    | _ => none)
  else none
noncomputable def ec5 : EC := { P := Tryz.prog, te := te, lim := 5000, inl := inl5, bx := fun f => Nat.beq f 53, meth := meth5, ext := known5, row := fun f => Nat.beq f 32 || Nat.beq f 97, rowk := rowk5, caught := fun f => Nat.beq f 27 }
end Go.Proofs.YtlbhgoffiigfbaaGreat.AW
end
section
set_option linter.unusedSimpArgs false
set_option linter.unusedVariables false
namespace Go.Proofs.YtlbhgoffiigfbaaGreat.AW
open Go Go.RowKit

/-- A box of one cell, written. -/
theorem box_write {w0 : Base} {w : World} {m : Mem} {h : AH} (hW : WR w0 m w h) {b blk : Nat} {c c' : AV} {v : Value} (hb : h.box b = some [c]) (hM : m.M b = some blk) (hv : VR m c' v) (h1 : v.oneCell' = true) :
    (∃ x, w.cell? ⟨blk, 0, none⟩ = some x ∧ VR m c x) ∧ w.frozen? ⟨blk, 0, none⟩ = false ∧ WR w0 m (w.setCell ⟨blk, 0, none⟩ v) (h.set b [c']) := by
  obtain ⟨blk', arr, ty, fr, b1, b2, b3⟩ := hW.box _ _ hb
  rw [hM] at b1; injection b1 with b1; subst b1
  have hsz : 0 < arr.size := by have h9 : [c].length ≤ arr.size := b3.size; exact h9
  have h0 := b3.rel 0 _ rfl
  rw [Array.getD_eq_getD_getElem?, Array.getElem?_eq_getElem hsz, Option.getD_some] at h0
  refine ⟨⟨arr[0], ?_, h0⟩, frozen_of_blk b3.here b3.free _ (by simpa using hsz), ?_⟩
  · rw [cell_of_blk b3.here, Array.getElem?_eq_getElem hsz]
  · rw [setCell_putBlk _ _ _ _ _ _ _ b3.here]
    refine hW.setBox hb hM b3.here (by simp) rfl (fun j c hj => ?_) (fun j hj => ?_)
    · cases j with
      | zero =>
        simp at hj
        subst hj
        rw [Array.getD_eq_getD_getElem?, Array.getElem?_setIfInBounds_self_of_lt hsz, Option.getD_some]
        exact hv
      | succ j => simp at hj
    · simp only [Array.size_setIfInBounds] at hj
      by_cases e : j = 0
      · subst e
        rw [Array.getD_eq_getD_getElem?, Array.getElem?_setIfInBounds_self_of_lt hsz, Option.getD_some]
        exact h1
      · rw [Array.getD_eq_getD_getElem?, Array.getElem?_setIfInBounds_ne (by omega), ← Array.getD_eq_getD_getElem?]
        exact b3.one j hj
theorem wrong_inv {m : Mem} {c : Value} (h : VR m wrongV c) : c = wrongC := by
  unfold wrongV at h
  cases h with
  | iface _ _ _ h =>
    cases h with
    | agg _ cs' h1 h2 =>
      have : cs' = #[] := Array.eq_empty_of_size_eq_zero (by simpa using h1)
      subst this; rfl
theorem caught_acalls2 {g : FuncId} {first cap : List AV} {h : AH} {R : AOut → AH → Prop} (hg : FOk Tryz.prog g)
    (hc : ACalls Tryz.prog g (first ++ [] ++ cap) (h.new [.bool false]) (fun out h2 => h2.box h.nb = some [.bool false] ∧ h.nb < h2.nb ∧
      (((∃ v, out = .ret v) ∧ R (.ret (.bool true)) (h2.set h.nb [.bool true])) ∨ (out = .panic wrongV ∧ R (.ret (.bool false)) ((h2.new []).set h.nb [.bool false]))))) :
    ACalls Tryz.prog 27 [.fn (.func g) first cap] h R := by
  intro w0 m w args' hn hr hW
  have hx := hr 0 _ rfl
  have harr : args' = #[args'.getD 0 undef] := by
    apply Array.ext
    · simpa using hn
    · intro i h1 h2
      simp at h2; subst h2
      simp [Array.getD, h1]
  obtain ⟨m1, hm1, hM, hC, hW1⟩ := hW.newBox [.bool false] #[.bool false] 4 (by simp) (fun j c hj => by
    cases j with
    | zero => simp at hj; subst hj; exact .bool _
    | succ j => simp at hj) (fun j hj => by
    simp at hj; subst hj; rfl)
  rw [harr]
  generalize args'.getD 0 undef = fv at hx ⊢
  obtain ⟨first', cap', rfl, q1, q2, q3, q4⟩ := hx.fn_inv
  refine caught_both g hg first' cap' w _ ((hc w0 m1 _ (first' ++ #[] ++ cap') ?_ ?_ hW1).mono ?_)
  · simp; omega
  · intro i c hi
    simp only [List.append_nil, Array.append_empty] at hi ⊢
    rw [Array.getD_eq_getD_getElem?]
    by_cases hlt : i < first.length
    · rw [List.getElem?_append_left hlt] at hi
      rw [Array.getElem?_append_left (by omega)]
      have := (q3 i c hi).mono hm1
      rw [Array.getD_eq_getD_getElem?] at this
      exact this
    · rw [List.getElem?_append_right (by omega)] at hi
      rw [Array.getElem?_append_right (by omega), q1]
      have := (q4 _ c hi).mono hm1
      rw [Array.getD_eq_getD_getElem?] at this
      exact this
  · rintro e w1 ⟨m2, out, h2, hm2, ho, hW2, hbx, hlt, ⟨⟨v, rfl⟩, hR⟩ | ⟨rfl, hR⟩⟩
    · cases e with
      | panicked c => exact ho.elim
      | outgrown => exact ho.elim
      | returned c =>
        obtain ⟨⟨x, e1, e2⟩, e3, e4⟩ := box_write hW2 hbx (hm2.M _ _ hM) (c' := .bool true) (v := .bool true) (.bool _) rfl
        have e5 := e2.bool_inv
        subst e5
        exact .inl ⟨c, rfl, e1, e3, m2, .ret (.bool true), h2.set h.nb [.bool true], hm1.trans hm2, .bool _, e4, hR⟩
    · cases e with
      | returned c => exact ho.elim
      | outgrown => exact ho.elim
      | panicked ch =>
        obtain ⟨c, rfl, hcw⟩ := ho
        have := wrong_inv hcw
        subst this
        obtain ⟨m3, hm3, _, _, hW3⟩ := hW2.newBox [] #[] 69 (by simp) (fun j c hj => by simp at hj) (fun j hj => by simp at hj)
        have hbx3 : (h2.new []).box h.nb = some [.bool false] := by
          rw [new_box, if_neg (by omega)]; exact hbx
        have hM3 := hm3.M _ _ (hm2.M _ _ hM)
        obtain ⟨⟨x, e1, e2⟩, e3, e4⟩ := box_write hW3 hbx3 hM3 (c' := .bool false) (v := .bool false) (.bool _) rfl
        obtain ⟨⟨x', f1, f2⟩, _, _⟩ := box_write e4 (show ((h2.new []).set h.nb [.bool false]).box h.nb = some [.bool false] by rw [set_box, if_pos rfl]) hM3 (c' := .bool false) (v := .bool false) (.bool _) rfl
        have f3 := f2.bool_inv
        subst f3
        exact .inr ⟨rfl, ⟨x, e1⟩, e3, f1, m3, .ret (.bool false), _, (hm1.trans hm2).trans hm3, .bool _, e4, hR⟩
end Go.Proofs.YtlbhgoffiigfbaaGreat.AW
end
