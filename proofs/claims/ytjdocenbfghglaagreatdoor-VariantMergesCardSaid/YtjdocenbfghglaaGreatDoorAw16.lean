/- AW, part 16: regions whose order is drawn. -/
import Derived.Test.YtjdocenbfghglaaGreatDoorAw15
import Derived.Orders
set_option linter.unusedSimpArgs false
set_option linter.unusedVariables false
namespace Go.Proofs.YtjdocenbfghglaaGreatDoor.AW
open Go Go.RowKit

/-- One operation: the value it gives and the heap it leaves. -/
def OpStep (P : Program) (te : TE) (s : AS) (h : AH) (op : Op) (v : AV) (h' : AH) : Prop := match aop te s h op with
  | .go v0 h0 => v = v0 ∧ h' = h0
  | .call f args => ACallV P f args h fun out h2 => out = .ret v ∧ h2 = h'
  | .two v1 v2 => v1 = v2 ∧ v = v1 ∧ h' = h
  | .app v0 h0 _ _ _ _ => v = v0 ∧ h' = h0
  | _ => False
def StepOk (P : Program) (te : TE) (dsts : List (Option Nat)) (s : AS) (h : AH) (o : Oper) (v : AV) (h' : AH) : Prop := match o.guard with
  | none => OpStep P te s h o.op v h'
  | some (j, want) => (∃ b, gval dsts s j = .bool b ∧ (b = want → OpStep P te s h o.op v h') ∧ (b ≠ want → v = undefA ∧ h' = h)) ∨ ((unopt (gval dsts s j)).1 = false ∧ v = undefA ∧ h' = h)

theorem ACallV.mono {P : Program} {f : AV} {args : List AV} {h : AH} {R R' : AOut → AH → Prop} (hr : ∀ out h', R out h' → R' out h') (hc : ACallV P f args h R) : ACallV P f args h R' := by
  unfold ACallV at hc ⊢
  cases f with
  | fn g first cap =>
    cases g with
    | func g => exact hc.mono hr
    | _ => exact hc.elim
  | _ => exact hc.elim

section
variable {P : Program} {te : TE} {w0 : Base}
theorem gval_yielded {N : Nat} {ops : Array Oper} {s : AS} {a : Act} {m : Mem} (hS : SR m N s a) {j : Nat} {b : Bool} (hb : gval (ops.toList.map (·.dst)) s j = .bool b) : yielded ops a.tmps j = some b := by
  unfold gval at hb
  split at hb
  · next t ht =>
    rw [List.getElem?_map] at ht
    cases hoj : ops.toList[j]? with
    | none => rw [hoj] at ht; cases ht
    | some oj =>
      rw [hoj] at ht; injection ht with ht
      have hoj' : ops[j]? = some oj := by rw [← Array.getElem?_toList]; exact hoj
      have hx := hS.rel t
      rw [hb] at hx
      have hx' := hx.bool_inv
      have hlt : t < a.tmps.size := by
        rcases Nat.lt_or_ge t a.tmps.size with h1 | h1
        · exact h1
        · rw [Array.getD_eq_getD_getElem?, Array.getElem?_eq_none h1] at hx'; cases hx'
      rw [Array.getD_eq_getD_getElem?, Array.getElem?_eq_getElem hlt, Option.getD_some] at hx'
      simp [yielded, hoj', ht, hlt, hx']
  · cases hb

theorem step_sound (hte : te.ok P) {N : Nat} {ops : Array Oper} {s : AS} {a : Act} {m : Mem} {w : World} {h h' : AH} {o : Oper} {v : AV} {i : Nat} {Q : Exit → Act → World → Prop} (ho : ops[i]? = some o) (hd : dstOk N o.dst = true) (hS : SR m N s a) (hW : WR w0 m w h)
    (hst : StepOk P te (ops.toList.map (·.dst)) s h o v h') : wpOp P ops Q i (fun a' w' => ∃ m', m.le m' ∧ SR m' N (putD s o.dst v) a' ∧ WR w0 m' w' h') a w := by
  have key : OpStep P te s h o.op v h' → o.wp P a w (fun a' w' => ∃ m', m.le m' ∧ SR m' N (putD s o.dst v) a' ∧ WR w0 m' w' h') Q := by
    intro hop
    have hk : opk P (aop te s h o.op) o.dst s h (fun s2 h2 _ => s2 = putD s o.dst v ∧ h2 = h') (fun _ _ _ => False) := by
      unfold OpStep at hop
      cases hr : aop te s h o.op with
      | go v0 h0 => rw [hr] at hop; obtain ⟨rfl, rfl⟩ := hop; exact ⟨rfl, rfl⟩
      | call f args =>
        rw [hr] at hop
        refine ACallV.mono ?_ hop
        rintro out h2 ⟨rfl, rfl⟩
        exact ⟨rfl, rfl⟩
      | panic v0 => rw [hr] at hop; exact hop.elim
      | two v1 v2 => rw [hr] at hop; obtain ⟨rfl, rfl, rfl⟩ := hop; exact ⟨⟨rfl, rfl⟩, rfl, rfl⟩
      | app _ _ _ _ _ _ => rw [hr] at hop; obtain ⟨rfl, rfl⟩ := hop; exact .inl ⟨rfl, rfl⟩
      | meth _ _ _ _ => rw [hr] at hop; exact hop.elim
      | bad => rw [hr] at hop; exact hop.elim
    have h1 := opk_sound hte hd hS hW hk
    refine wpOp_post (fun e a w hx => ?_) (Oper.wp_mono ?_ h1)
    · obtain ⟨m2, s2, h2, e', _, _, _, _, hq⟩ := hx
      exact hq.elim
    · rintro a' w' ⟨m', s', h2, q1, q2, q3, rfl, rfl⟩
      exact ⟨m', q1, q2, q3⟩
  unfold wpOp
  rw [ho]
  simp only
  unfold StepOk at hst
  cases hg : o.guard with
  | none =>
    rw [hg] at hst
    have hw : Region.wanted o (yielded ops a.tmps) = true := by simp [Region.wanted, hg]
    rw [if_pos hw]
    exact .inl (key hst)
  | some g =>
    obtain ⟨j, want⟩ := g
    rw [hg] at hst
    rcases hst with ⟨b, h1, h2, h3⟩ | ⟨hu, rfl, rfl⟩
    · have hy := gval_yielded hS h1
      by_cases e : b = want
      · have hw : Region.wanted o (yielded ops a.tmps) = true := by simp [Region.wanted, hg, hy, e]
        rw [if_pos hw]
        exact .inl (key (h2 e))
      · have hw : ¬ (Region.wanted o (yielded ops a.tmps) = true) := by simp [Region.wanted, hg, hy, e]
        rw [if_neg hw]
        obtain ⟨rfl, rfl⟩ := h3 e
        exact ⟨m, Mem.le.refl m, hS.putD hd (.opt _ _ _ (fun e => by cases e) (fun _ => rfl)), hW⟩
    · have hy : yielded ops a.tmps j = none := by
        unfold gval at hu
        split at hu
        · next t ht =>
          rw [List.getElem?_map] at ht
          cases hoj : ops.toList[j]? with
          | none => rw [hoj] at ht; cases ht
          | some oj =>
            rw [hoj] at ht; injection ht with ht
            have hoj' : ops[j]? = some oj := by rw [← Array.getElem?_toList]; exact hoj
            have hx := (hS.rel t).unopt2 hu
            simp only [yielded, hoj', Option.bind_some, ht]
            by_cases hlt : t < a.tmps.size
            · rw [Array.getD_eq_getD_getElem?, Array.getElem?_eq_getElem hlt, Option.getD_some] at hx
              rw [Array.getElem?_eq_getElem hlt, hx]; rfl
            · rw [Array.getElem?_eq_none (by omega)]
        · simp [unopt] at hu
      have hw : ¬ (Region.wanted o (yielded ops a.tmps) = true) := by simp [Region.wanted, hg, hy]
      rw [if_neg hw]
      exact ⟨m, Mem.le.refl m, hS.putD hd (.opt _ _ _ (fun e => by cases e) (fun _ => rfl)), hW⟩

def left (n : Nat) (L : Array Bool) : Nat := (List.range n).countP fun i => !L.getD i true
theorem countP_less {l : List Nat} {p q : Nat → Bool} (h : ∀ x, q x = true → p x = true) (x : Nat) (hx : x ∈ l) (hp : p x = true) (hq : q x = false) : l.countP q < l.countP p := by
  induction l with
  | nil => cases hx
  | cons y l ih =>
    have hle : l.countP q ≤ l.countP p := List.countP_mono_left (fun z _ => h z)
    simp only [List.countP_cons]
    rcases List.mem_cons.1 hx with rfl | hx
    · rw [hp, hq]; simp; omega
    · have := ih hx
      cases hqy : q y with
      | false => simp; omega
      | true => rw [h y hqy]; simp; omega
theorem left_set {n i : Nat} {L : Array Bool} (hi : i < n) (hs : L.size = n) (hf : L.getD i true = false) : left n (L.setIfInBounds i true) < left n L := by
  refine countP_less (fun x hx => ?_) i (List.mem_range.2 hi) (by simp [hf]) ?_
  · by_cases e : i = x
    · subst e; simp [Array.getElem?_setIfInBounds, hs, hi] at hx
    · rw [getD_set_ne _ e] at hx; exact hx
  · simp [Array.getElem?_setIfInBounds, hs, hi]
theorem left_new (n : Nat) : left n (Array.replicate n false) ≤ n := by
  unfold left
  exact Nat.le_trans (List.countP_le_length) (by simp)

/-- A region in whatever order: R says which operations may have been done, sL and H what has become then. -/
theorem draw_any (hte : te.ok P) (hm : P.follows .mixedOrders = true) {N : Nat} {ops : Array Oper} {s0 : AS} {h0 : AH} {Q : AQ} (V : Nat → AV) (H : Array Bool → AH) (sL : Array Bool → AS) (R : Array Bool → Prop)
    (r0 : R (Array.replicate ops.size false)) (e1 : sL (Array.replicate ops.size false) = s0) (e2 : H (Array.replicate ops.size false) = h0) (hd : ∀ (i : Nat) (o : Oper), ops[i]? = some o → dstOk N o.dst = true)
    (step : ∀ L, L.size = ops.size → R L → ∀ i ∈ Region.ready .any ops L, ∀ o, ops[i]? = some o → StepOk P te (ops.toList.map (·.dst)) (sL L) (H L) o (V i) (H (L.setIfInBounds i true)) ∧ R (L.setIfInBounds i true) ∧ sL (L.setIfInBounds i true) = putD (sL L) o.dst (V i))
    (last : ∀ L, L.size = ops.size → R L → Region.ready .any ops L = [] → Q .normal (sL L) (H L)) : DrawOk P te N ops s0 h0 Q := by
  refine ⟨fun w0 m a w hS hW t => ?_⟩
  simp only [Region.schedule, hm, Bool.true_or, if_true]
  refine wpAny_sound ops.size t _ a _ ?_
  have hW' : WR w0 m { w with drawn := w.drawn + 1 } h0 := hW.drew
  have key : ∀ (fuel : Nat) (L : Array Bool) (m' : Mem) (a : Act) (w : World), m.le m' → SR m' N (sL L) a → WR w0 m' w (H L) → R L → L.size = ops.size → left ops.size L ≤ fuel → wpAny P .any ops (CPost w0 N m Q) fuel L a w := by
    intro fuel
    induction fuel with
    | zero =>
      intro L m' a w hm' hS hW hR hsz hl
      have hr : Region.ready .any ops L = [] := by
        cases hr : Region.ready .any ops L with
        | nil => rfl
        | cons i rs =>
          have hi : i ∈ Region.ready .any ops L := by rw [hr]; exact List.mem_cons_self
          have hi' := (mem_ready.1 hi)
          have := left_set (n := ops.size) (i := i) (L := L) (by
            unfold Region.ready at hi
            exact List.mem_range.1 (List.mem_filter.1 hi).1) hsz (by
            unfold Region.ready at hi
            have := (List.mem_filter.1 hi).2
            simp only [Bool.and_eq_true, Bool.not_eq_true'] at this
            exact this.1)
          omega
      exact ⟨hr, m', _, _, .normal, hm', trivial, hS, hW, last L hsz hR hr⟩
    | succ fuel ih =>
      intro L m' a w hm' hS hW hR hsz hl
      refine ⟨fun hr => ⟨m', _, _, .normal, hm', trivial, hS, hW, last L hsz hR hr⟩, fun i hi => ?_⟩
      have hlt : i < ops.size := by
        unfold Region.ready at hi
        exact List.mem_range.1 (List.mem_filter.1 hi).1
      have hf : L.getD i true = false := by
        unfold Region.ready at hi
        have := (List.mem_filter.1 hi).2
        simp only [Bool.and_eq_true, Bool.not_eq_true'] at this
        exact this.1
      have ho : ops[i]? = some ops[i] := Array.getElem?_eq_getElem hlt
      obtain ⟨q1, q2, q3⟩ := step L hsz hR i hi _ ho
      refine wpOp_mono ?_ (step_sound hte ho (hd i _ ho) hS hW q1)
      rintro a' w' ⟨m2, l2, S2, W2⟩
      refine ih _ m2 a' w' (hm'.trans l2) (by rw [q3]; exact S2) W2 q2 (by simp [hsz]) ?_
      have := left_set hlt hsz hf
      omega
  exact key ops.size _ m a _ (Mem.le.refl m) (by rw [e1]; exact hS) (by rw [e2]; exact hW') r0 (by simp) (left_new _)
end
end Go.Proofs.YtjdocenbfghglaaGreatDoor.AW
