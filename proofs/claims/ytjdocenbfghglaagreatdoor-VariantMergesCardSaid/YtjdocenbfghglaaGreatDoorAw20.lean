/- AW, part 20: between these contracts and the library's. -/
import Derived.Test.YtjdocenbfghglaaGreatDoorAw19
set_option linter.unusedSimpArgs false
set_option linter.unusedVariables false
namespace Go.Proofs.YtjdocenbfghglaaGreatDoor.AW
open Go Go.RowKit

theorem WR.later {w0 : Base} {w w' : World} {m : Mem} {h : AH} (r : WR w0 m w h) (hb : Bel w.heap.size w w') : WR w0 m w' h :=
  ⟨r.below.trans (hb.mono r.size_le), fun b off v hk => by
      have hlt := r.Klt' hk
      exact ⟨by rw [hb.cell (p := ⟨b, off, none⟩) hlt]; exact (r.K b off v hk).1, (r.K b off v hk).2⟩,
    r.Mlt, r.Blt, r.Tlt, r.Klt,
    fun b cs hbx => by
      obtain ⟨blk, arr, ty, fr, h1, h2, h3⟩ := r.box b cs hbx
      have hlt : blk < w.heap.size := (Array.getElem?_eq_some_iff.1 h3.here).1
      exact ⟨blk, arr, ty, fr, h1, h2, ⟨by rw [hb.block _ hlt]; exact h3.here, h3.size, h3.free, h3.rel, h3.one, h3.apart, h3.cap, h3.nomark⟩⟩,
    fun t g ht => by
      obtain ⟨blk, e, room, arr, ty, fr, h1, h2, h3⟩ := r.tok t g ht
      have hlt : blk < w.heap.size := (Array.getElem?_eq_some_iff.1 h3.here).1
      exact ⟨blk, e, room, arr, ty, fr, h1, h2, ⟨by rw [hb.block _ hlt]; exact h3.here, h3.free, h3.fits, h3.apart⟩⟩,
    r.gens, r.bb, r.tt, r.bt, r.past⟩

def Mem.none : Mem := ⟨fun _ _ => Option.none, fun _ => Option.none, fun _ _ => Option.none, fun _ => 0⟩
def AH.none : AH := ⟨fun _ => Option.none, 0, fun _ => Option.none, 0⟩
theorem WR.none (w : World) : WR ⟨w, fun _ _ => True⟩ Mem.none w AH.none := by
  refine ⟨Bel.refl _ _, ?_, ?_, ?_, ?_, ?_, ?_, ?_, ?_, ?_, ?_, ?_, fun _ _ _ _ _ => trivial⟩ <;> intros <;> rename_i h <;> first | (cases h; done) | (rename_i h2; cases h2; done) | (rename_i h2 _; cases h2; done) | (rename_i h2 _ _; cases h2; done) | skip

/-- From a contract of ours to one of the library's form. -/
theorem Pure.calls_below {P : Program} {f : FuncId} {args : List AV} {v : AV} (hp : Pure P f args v) (args' : Array Value) (w : World) (h1 : args'.size = args.length) (h2 : ∀ (i : Nat) (c : AV), args[i]? = some c → VR Mem.none c (args'.getD i undef)) :
    Calls P f args' w fun e w' => (∃ c m, e = .returned c ∧ VR m v c) ∧ Bel w.heap.size w w' := by
  refine (hp.calls AH.none _ Mem.none w args' h1 h2 (WR.none w)).mono ?_
  rintro e w' ⟨m', out, h', q1, q2, q3, rfl, rfl⟩
  cases e with
  | returned c => exact ⟨⟨c, m', rfl, q2⟩, q3.below⟩
  | panicked c => exact q2.elim
  | outgrown => exact q2.elim
/-- From the library's to ours. -/
theorem Pure.of_calls {P : Program} {f : FuncId} {args : List AV} {v : AV} (hf : FOk P f)
    (hc : ∀ (m : Mem) (w : World) (args' : Array Value), args'.size = args.length → (∀ (i : Nat) (c : AV), args[i]? = some c → VR m c (args'.getD i undef)) → Calls P f args' w fun e w' => (∃ c, e = .returned c ∧ VR m v c) ∧ Bel w.heap.size w w') : Pure P f args v := by
  refine ⟨hf, fun h w0 m w args' h1 h2 hW => (hc m w args' h1 h2).mono ?_⟩
  rintro e w' ⟨⟨c, rfl, h3⟩, h4⟩
  exact ⟨m, .ret v, h, Mem.le.refl m, h3, hW.later h4, rfl, rfl⟩
theorem acode_draw_chainL {P : Program} {te : TE} (L : Option LK) (hte : te.ok P) (hm : P.follows .mixedOrders = true) {N : Nat} {lz : List Nat} {id : Nat} {ops : Array Oper} {s : AS} {h : AH} {Q : AQ} (acts : List Nat)
    (hc : chainOk (ops.toList.map (·.dst)) acts 0 ops.toList = true) (hk : aseq P te N (ops.toList.map (·.dst)) L acts 0 ops.toList s h fun s h => Q .normal s h) : acode P te N lz (.region id ops true) s h Q := by
  rw [acode_draw]; exact draw_chainL L hte hm acts hc hk
theorem acode_draw_chain {P : Program} {te : TE} (hte : te.ok P) (hm : P.follows .mixedOrders = true) {N : Nat} {lz : List Nat} {id : Nat} {ops : Array Oper} {s : AS} {h : AH} {Q : AQ} (acts : List Nat)
    (hc : chainOk (ops.toList.map (·.dst)) acts 0 ops.toList = true) (hk : aseq P te N (ops.toList.map (·.dst)) none acts 0 ops.toList s h fun s h => Q .normal s h) : acode P te N lz (.region id ops true) s h Q := by
  rw [acode_draw]; exact draw_chain hte hm acts hc hk
end Go.Proofs.YtjdocenbfghglaaGreatDoor.AW
