/- AW, part 21: weaker words for the same value. -/
import Derived.Test.YtjdocenbfghglaaGreatDoorAw20
set_option linter.unusedSimpArgs false
set_option linter.unusedVariables false
namespace Go.Proofs.YtjdocenbfghglaaGreatDoor.AW
open Go Go.RowKit

/-- What is u may be said to be v. -/
def Wk (u v : AV) : Prop := ∀ (m : Mem) (c : Value), VR m u c → VR m v c
theorem Wk.refl (v : AV) : Wk v v := fun _ _ h => h
theorem Wk.trans {a b c : AV} (h : Wk a b) (k : Wk b c) : Wk a c := fun m x r => k m x (h m x r)
theorem Wk.erase (v : AV) : Wk v v.erase := fun _ _ h => h.erase
theorem Wk.of_erase {u v : AV} (h : u.erase = v) : Wk u v := h ▸ Wk.erase u
theorem Wk.nil {t t' : Tag} {sz : Nat} (ht : ∀ a b, t ≠ .tok a b) : Wk (.sl t' 0 []) (.sl t sz []) := by
  intro m c h
  cases h with
  | slnil => exact .slnil _ _ ht
  | slemp _ _ _ h1 => exact absurd h1 (Nat.lt_irrefl 0)
  | sl _ _ _ blk o cap f h1 => exact absurd h1 (Nat.lt_irrefl 0)
theorem Wk.agg {us vs : List AV} (hl : us.length = vs.length) (h : ∀ (i : Nat) (u v : AV), us[i]? = some u → vs[i]? = some v → Wk u v) : Wk (.agg us) (.agg vs) := by
  intro m c hc
  obtain ⟨cs', rfl, h1, h2⟩ := hc.agg_inv
  refine .agg vs cs' (by omega) (fun i v hv => ?_)
  have hlt : i < us.length := by have := (List.getElem?_eq_some_iff.1 hv).1; omega
  exact h i us[i] v (List.getElem?_eq_getElem hlt) hv m _ (h2 i _ (List.getElem?_eq_getElem hlt))
theorem Wk.tup {us vs : List AV} (hl : us.length = vs.length) (h : ∀ (i : Nat) (u v : AV), us[i]? = some u → vs[i]? = some v → Wk u v) : Wk (.tup us) (.tup vs) := by
  intro m c hc
  cases hc with
  | tup us' vs' h1 h2 =>
    refine .tup vs vs' (by omega) (fun i v hv => ?_)
    have hlt : i < us.length := by have := (List.getElem?_eq_some_iff.1 hv).1; omega
    exact h i us[i] v (List.getElem?_eq_getElem hlt) hv m _ (h2 i _ (List.getElem?_eq_getElem hlt))
def WkAll (us vs : List AV) : Prop := us.length = vs.length ∧ ∀ (i : Nat) (u v : AV), us[i]? = some u → vs[i]? = some v → Wk u v
theorem WkAll.nil : WkAll [] [] := ⟨rfl, fun i u v h => by simp at h⟩
theorem WkAll.cons {u v : AV} {us vs : List AV} (h : Wk u v) (k : WkAll us vs) : WkAll (u :: us) (v :: vs) := by
  refine ⟨by simp [k.1], fun i a b ha hb => ?_⟩
  cases i with
  | zero => simp at ha hb; subst ha hb; exact h
  | succ i => exact k.2 i a b (by simpa using ha) (by simpa using hb)
theorem WkAll.agg {us vs : List AV} (h : WkAll us vs) : Wk (.agg us) (.agg vs) := Wk.agg h.1 h.2
theorem WkAll.tup {us vs : List AV} (h : WkAll us vs) : Wk (.tup us) (.tup vs) := Wk.tup h.1 h.2

/-- A call may be told of its arguments in weaker words. -/
theorem ACalls.wk {P : Program} {f : FuncId} {args args' : List AV} {h : AH} {R : AOut → AH → Prop} (hw : WkAll args args') (hc : ACalls P f args' h R) : ACalls P f args h R := by
  intro w0 m w cs h1 h2 hW
  refine hc w0 m w cs (by rw [h1, hw.1]) (fun i c hi => ?_) hW
  have hlt : i < args.length := by have := (List.getElem?_eq_some_iff.1 hi).1; have := hw.1; omega
  exact hw.2 i args[i] c (List.getElem?_eq_getElem hlt) hi m _ (h2 i _ (List.getElem?_eq_getElem hlt))
theorem ACallV.pureW {P : Program} {f : FuncId} {args args' : List AV} {v : AV} {h : AH} {dst : Option Nat} {s : AS} {k : AK} {Q : AQ} (hp : Pure P f args' v) (hw : WkAll args args') (hk : k (putD s dst v) h Q) : ACallV P (.fn (.func f) [] []) args h (callK dst s k Q) := by
  refine .inl ⟨hp.ok, ?_⟩
  simp only [List.nil_append, List.append_nil]
  refine ACalls.wk hw ((hp.calls h).mono ?_)
  rintro out h' ⟨rfl, rfl⟩
  exact hk
theorem skR_pureW {P : Program} {L : Option LK} {f : Nat} {args args' : List AV} {v : AV} {h : AH} {k : AV → AH → Prop} (hp : Pure P f args' v) (hw : WkAll args args') (hk : k v h) : skR P L 0 h (.call (.fn (.func f) [] []) args) k := by
  refine ⟨v, fun h => .inl ⟨hp.ok, ?_⟩, hk⟩
  simp only [List.nil_append, List.append_nil]
  exact ACalls.wk hw (hp.calls h)
theorem Pure.wk {P : Program} {f : FuncId} {args args' : List AV} {v v' : AV} (hp : Pure P f args' v) (hw : WkAll args args') (hv : Wk v v') : Pure P f args v' := by
  refine ⟨hp.ok, fun h w0 m w cs h1 h2 hW => ?_⟩
  refine (ACalls.wk hw (hp.calls h) w0 m w cs h1 h2 hW).mono ?_
  rintro e w' ⟨m', out, h', q1, q2, q3, rfl, rfl⟩
  refine ⟨m', .ret v', h', q1, ?_, q3, rfl, rfl⟩
  cases e with
  | returned c => exact hv _ _ q2
  | panicked c => exact q2.elim
  | outgrown => exact q2.elim

/-- A function's own boxes are forgotten at its end; what it gives may be told in weaker words. -/
theorem Pure.ofW {P : Program} {f : FuncId} {args : List AV} {v : AV} (hf : FOk P f) (hv : v.under 0 0 = true) (hc : ∀ h, Scoped h → ACalls P f args h fun out h2 => h.Ext h2 ∧ ∃ u, out = .ret u ∧ Wk u v) : Pure P f args v := by
  refine ⟨hf, fun h w0 m w args' h1 h2 hW => ?_⟩
  refine ((hc h hW.isScoped) w0 m w args' h1 h2 hW).mono ?_
  rintro e w' ⟨m', out, h'', q1, q2, q3, he, u, rfl, hu⟩
  obtain ⟨l1, W1⟩ := hW.cut q1 q3 (he.cutOk hW.isScoped)
  refine ⟨_, .ret v, h, l1, ?_, W1, rfl, rfl⟩
  cases e with
  | returned c => exact (hu _ _ q2).cutTo (AV.under_mono hv)
  | panicked c => exact q2.elim
  | outgrown => exact q2.elim
theorem Scoped.none {h : AH} (hs : Scoped h) : h.box h.nb = Option.none := by
  cases hb : h.box h.nb with
  | none => rfl
  | some cs => exact absurd (hs.box _ _ hb) (Nat.lt_irrefl _)
theorem Scoped.new {h : AH} (hs : Scoped h) (cs : List AV) : Scoped (h.new cs) := by
  refine ⟨fun b c hb => ?_, fun t g ht => hs.tok t g ht⟩
  rw [new_box] at hb
  split at hb
  · next e => subst e; exact Nat.lt_succ_self _
  · exact Nat.lt_succ_of_lt (hs.box b c hb)
theorem Scoped.set {h : AH} (hs : Scoped h) {b : Nat} (hb : b < h.nb) (cs : List AV) : Scoped (h.set b cs) := by
  refine ⟨fun b' c hb' => ?_, fun t g ht => hs.tok t g ht⟩
  rw [set_box] at hb'
  split at hb'
  · next e => subst e; exact hb
  · exact hs.box b' c hb'
end Go.Proofs.YtjdocenbfghglaaGreatDoor.AW
