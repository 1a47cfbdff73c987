/- Texts of this claim, part 8: V71. -/
import Derived.Test.YtlbhgoffiigfbaaGreatUb1
import Derived.Test.YtlbhgoffiigfbaaGreatUb4
import Derived.Test.YtlbhgoffiigfbaaGreatUb5
import Derived.Test.YtlbhgoffiigfbaaGreatUb6
import Derived.Shelf.SlSortCmp.KitK
section
set_option linter.unusedSimpArgs false
set_option linter.unusedVariables false
namespace Go.Proofs.YtlbhgoffiigfbaaGreat.AW
open Go Go.RowKit Go.Sort Go.Lib

/-- A value, and the cells in which it lies. -/
def Lies (m : Mem) (p : V × List Value) : Prop := Vok p.1 ∧ p.2.length = 5 ∧ (∀ v ∈ p.2, v.oneCell' = true) ∧ VR m (inj p.1) (.agg p.2.toArray)
abbrev El (m : Mem) := {p : V × List Value // Lies m p}
def encE {m : Mem} (x : El m) : List Value := x.1.2
def cfE {m : Mem} (x y : El m) : Int := ord x.1.1 y.1.1
theorem cfE_eq {m : Mem} (x y : El m) : cfE x y = ordN x.1.1 y.1.1 := ord_eq _ _ x.2.1 y.2.1
theorem swoE (m : Mem) : SWO (ltOf (cfE (m := m))) := by
  refine ⟨fun x => ?_, fun x y z h1 h2 => ?_, fun x y z h1 h2 => ?_⟩
  · unfold ltOf; rw [cfE_eq, ordN_self]; rfl
  · unfold ltOf at *; rw [cfE_eq] at *
    simp only [decide_eq_true_eq] at *
    have := ordN_T3 x.1.1 y.1.1 z.1.1
    unfold T3 at this; omega
  · unfold ltOf at *; rw [cfE_eq] at *
    simp only [decide_eq_false_iff_not] at *
    have := ordN_T3 x.1.1 y.1.1 z.1.1
    unfold T3 at this; omega
theorem order_grows (m : Mem) (W : World) (hK : ∀ b o v, m.K b o = some v → W.cell? ⟨b, o, none⟩ = some v ∧ v.oneCell' = true) (x y : El m) :
    Calls Tryz.prog 113 (#[.agg (encE x).toArray, .agg (encE y).toArray] ++ #[]) W fun e w' => e = .returned (.int .i64 (cfE x y)) ∧ ∃ q os', w' = grow (W.drewN q) os' := by
  let w1 : Base := ⟨W, fun b o => (m.K b o).isSome = true⟩
  let m1 : Mem := ⟨m.K, fun _ => Option.none, fun _ _ => Option.none, m.C⟩
  have hW1 : WR w1 m1 W AH.none := by
    refine ⟨Bel.refl _ _, hK, (fun b x hb => by cases hb), (fun b cs hb => by cases hb), (fun t g x ht => by cases ht), (fun t g ht => by cases ht), (fun b cs hb => by cases hb), (fun t g ht => by cases ht),
      (fun t g x g' ht => by cases ht), (fun b b' cs cs' x hb => by cases hb), (fun t t' g g' x x' ht => by cases ht), (fun b t cs g x y hb => by cases hb), fun b o v hk _ => ?_⟩
    show (m.K b o).isSome = true
    have hk' : m.K b o = some v := hk
    rw [hk']; rfl
  have hcut : ∀ {v : AV} {c : Value}, VR m v c → v.under 0 0 = true → VR m1 v c := by
    intro v c hv hun
    have hle0 : (m.cutTo 0 0).le m1 := ⟨fun _ _ _ x => x, (fun b x hb => by simp [Mem.cutTo] at hb), (fun t g x ht => by simp [Mem.cutTo] at ht), fun _ _ _ => rfl⟩
    exact (hv.cutTo hun).mono hle0
  refine ((order_pure x.1.1 y.1.1 x.2.1 y.2.1).calls AH.none w1 m1 W _ rfl (fun i c hi => ?_) hW1).mono ?_
  · match i, hi with
    | 0, hi => injection hi with hi; subst hi; exact hcut x.2.2.2.2 (inj_under _)
    | 1, hi => injection hi with hi; subst hi; exact hcut y.2.2.2.2 (inj_under _)
  · rintro e w' ⟨m', out, h', q1, q2, q3, rfl, rfl⟩
    cases e with
    | returned c => exact ⟨by rw [show c = _ from q2.int_inv]; rfl, bel_grow q3.below⟩
    | panicked c => exact q2.elim
    | outgrown => exact q2.elim
theorem flat_get (xs : List V) {i c : Nat} (hi : i < xs.length) (hc : c < 5) : ((xs.map inj).flatMap AV.cells)[i * 5 + c]? = (inj xs[i]).cells[c]? := by
  obtain ⟨post, hp⟩ := cells_drop xs hi
  have h1 : (List.drop (i * 5) ((xs.map inj).flatMap AV.cells))[c]? = ((xs.map inj).flatMap AV.cells)[i * 5 + c]? := List.getElem?_drop
  rw [← h1, hp, List.getElem?_append_left (by rw [inj_len]; exact hc)]
theorem mapBlock_put {w : World} {blk : Nat} {arr : Array Value} {ty : TypeId} {fr : Nat × Nat} (hh : w.heap[blk]? = some (.cells arr ty fr)) (f : Array Value → Array Value) : Sort.mapBlock w blk f = World.putBlk w blk (.cells (f arr) ty fr) := by
  unfold Sort.mapBlock World.putBlk
  congr 1
  apply Array.ext_getElem?
  intro i
  rw [Array.getElem?_modify]
  by_cases e : blk = i
  · subst e
    rw [if_pos rfl, hh, Array.getElem?_setIfInBounds_self_of_lt (Array.getElem?_eq_some_iff.1 hh).1]; rfl
  · rw [if_neg e, Array.getElem?_setIfInBounds_ne e]
end Go.Proofs.YtlbhgoffiigfbaaGreat.AW
end
