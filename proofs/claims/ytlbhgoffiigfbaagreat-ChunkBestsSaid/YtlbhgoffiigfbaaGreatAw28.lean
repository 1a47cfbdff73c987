/- AW, part 28: regions whose order is drawn, in which the names of two new boxes depend on the order. -/
import Derived.Test.YtlbhgoffiigfbaaGreatAw27
set_option linter.unusedSimpArgs false
set_option linter.unusedVariables false
namespace Go.Proofs.YtlbhgoffiigfbaaGreat.AW
open Go Go.RowKit

section
variable {P : Program} {te : TE} {w0 : Base}
/-- A region in whatever order, with a flag that may turn as long as it makes no difference. -/
theorem draw_flag (hte : te.ok P) (hm : P.follows .mixedOrders = true) {N : Nat} {ops : Array Oper} {s0 : AS} {h0 : AH} {Q : AQ} (V : Bool → Nat → AV) (H : Bool → Array Bool → AH) (sL : Bool → Array Bool → AS) (R : Bool → Array Bool → Prop)
    (r0 : R true (Array.replicate ops.size false)) (e1 : sL true (Array.replicate ops.size false) = s0) (e2 : H true (Array.replicate ops.size false) = h0) (hd : ∀ (i : Nat) (o : Oper), ops[i]? = some o → dstOk N o.dst = true)
    (step : ∀ c L, L.size = ops.size → R c L → ∀ i ∈ Region.ready .any ops L, ∀ o, ops[i]? = some o → ∃ c', sL c L = sL c' L ∧ H c L = H c' L ∧ StepOk P te (ops.toList.map (·.dst)) (sL c' L) (H c' L) o (V c' i) (H c' (L.setIfInBounds i true)) ∧ R c' (L.setIfInBounds i true) ∧ sL c' (L.setIfInBounds i true) = putD (sL c' L) o.dst (V c' i))
    (last : ∀ c L, L.size = ops.size → R c L → Region.ready .any ops L = [] → Q .normal (sL c L) (H c L)) : DrawOk P te N ops s0 h0 Q := by
  refine ⟨fun w0 m a w hS hW t => ?_⟩
  simp only [Region.schedule, hm, Bool.true_or, if_true]
  refine wpAny_sound ops.size t _ a _ ?_
  have hW' : WR w0 m { w with drawn := w.drawn + 1 } h0 := hW.drew
  have key : ∀ (fuel : Nat) (c : Bool) (L : Array Bool) (m' : Mem) (a : Act) (w : World), m.le m' → SR m' N (sL c L) a → WR w0 m' w (H c L) → R c L → L.size = ops.size → left ops.size L ≤ fuel → wpAny P .any ops (CPost w0 N m Q) fuel L a w := by
    intro fuel
    induction fuel with
    | zero =>
      intro c L m' a w hm' hS hW hR hsz hl
      have hr : Region.ready .any ops L = [] := by
        cases hr : Region.ready .any ops L with
        | nil => rfl
        | cons i rs =>
          have hi : i ∈ Region.ready .any ops L := by rw [hr]; exact List.mem_cons_self
          have := left_set (n := ops.size) (i := i) (L := L) (by
            unfold Region.ready at hi
            exact List.mem_range.1 (List.mem_filter.1 hi).1) hsz (by
            unfold Region.ready at hi
            have := (List.mem_filter.1 hi).2
            simp only [Bool.and_eq_true, Bool.not_eq_true'] at this
            exact this.1)
          omega
      exact ⟨hr, m', _, _, .normal, hm', trivial, hS, hW, last c L hsz hR hr⟩
    | succ fuel ih =>
      intro c L m' a w hm' hS hW hR hsz hl
      refine ⟨fun hr => ⟨m', _, _, .normal, hm', trivial, hS, hW, last c L hsz hR hr⟩, fun i hi => ?_⟩
      have hlt : i < ops.size := by
        unfold Region.ready at hi
        exact List.mem_range.1 (List.mem_filter.1 hi).1
      have hf : L.getD i true = false := by
        unfold Region.ready at hi
        have := (List.mem_filter.1 hi).2
        simp only [Bool.and_eq_true, Bool.not_eq_true'] at this
        exact this.1
      have ho : ops[i]? = some ops[i] := Array.getElem?_eq_getElem hlt
      obtain ⟨c', p1, p2, q1, q2, q3⟩ := step c L hsz hR i hi _ ho
      rw [p1] at hS
      rw [p2] at hW
      refine wpOp_mono ?_ (step_sound hte ho (hd i _ ho) hS hW q1)
      rintro a' w' ⟨m2, l2, S2, W2⟩
      refine ih c' _ m2 a' w' (hm'.trans l2) (by rw [q3]; exact S2) W2 q2 (by simp [hsz]) ?_
      have := left_set hlt hsz hf
      omega
  exact key ops.size true _ m a _ (Mem.le.refl m) (by rw [e1]; exact hS) (by rw [e2]; exact hW') r0 (by simp) (left_new _)
end

/-- What is known of each operation of a region: where its value goes, what it does, its guard. -/
def shapeOf (ops : Array Oper) : List (Option Nat × Op × Option (Nat × Bool)) := ops.toList.map fun o => (o.dst, o.op, o.guard)
/-- The operations for which each one waits. -/
def waitsOf (ops : Array Oper) : List (List Nat) := ops.toList.map fun o => (o.after.toList.filter fun e => Region.binds .any e).map (·.on)
theorem shape_at {ops : Array Oper} {l : List (Option Nat × Op × Option (Nat × Bool))} (h : shapeOf ops = l) {i : Nat} {o : Oper} (ho : ops[i]? = some o) : l[i]? = some (o.dst, o.op, o.guard) := by
  rw [← h]
  unfold shapeOf
  rw [List.getElem?_map, show ops.toList[i]? = some o by simpa using ho]; rfl
/-- Who is done had what it waits for. -/
def Closed (D : List (List Nat)) (L : Array Bool) : Prop := ∀ (i : Nat) (d : List Nat), D[i]? = some d → L.getD i false = true → ∀ j ∈ d, L.getD j false = true
theorem ready_deps {ops : Array Oper} {D : List (List Nat)} (h : waitsOf ops = D) {L : Array Bool} {i : Nat} (hi : i ∈ Region.ready .any ops L) : ∀ d, D[i]? = some d → ∀ j ∈ d, L.getD j false = true := by
  obtain ⟨_, o, ho, hall⟩ := mem_ready.1 hi
  intro d hd j hj
  rw [← h] at hd
  unfold waitsOf at hd
  rw [List.getElem?_map, show ops.toList[i]? = some o by simpa using ho] at hd
  injection hd with hd
  subst hd
  obtain ⟨e, he, rfl⟩ := List.mem_map.1 hj
  obtain ⟨he1, he2⟩ := List.mem_filter.1 he
  exact hall e (Array.mem_toList_iff.1 he1) he2
theorem set_getD {L : Array Bool} {i j : Nat} (hi : i < L.size) : (L.setIfInBounds i true).getD j false = (L.getD j false || j == i) := by
  by_cases e : j = i
  · subst e; simp [Array.getD_eq_getD_getElem?, Array.getElem?_setIfInBounds, hi]
  · rw [getD_set_ne _ (Ne.symm e)]; simp [e]
theorem Closed.set {D : List (List Nat)} {L : Array Bool} {i : Nat} (h : Closed D L) (hi : i < L.size) (hd : ∀ d, D[i]? = some d → ∀ j ∈ d, L.getD j false = true) : Closed D (L.setIfInBounds i true) := by
  intro k d hk hl j hj
  rw [set_getD hi] at hl ⊢
  simp only [Bool.or_eq_true, beq_iff_eq] at hl ⊢
  rcases hl with hl | rfl
  · exact .inl (h k d hk hl j hj)
  · exact .inl (hd d hk j hj)
theorem last_all {ops : Array Oper} {D : List (List Nat)} (hD : waitsOf ops = D) (hw : (D.zipIdx.all fun x => x.1.all fun j => Nat.blt j x.2) = true) {L : Array Bool} (hs : L.size = ops.size) (hr : Region.ready .any ops L = []) : ∀ i, i < ops.size → L.getD i false = true := by
  intro i
  induction i using Nat.strongRecOn with
  | ind i ih =>
    intro hi
    cases hx : L.getD i false with
    | true => rfl
    | false =>
      exfalso
      have ho := Array.getElem?_eq_getElem hi
      have hx' : L.getD i true = false := by
        have h1 : i < L.size := by omega
        simp [Array.getD_eq_getD_getElem?, Array.getElem?_eq_getElem h1] at hx ⊢
        exact hx
      have : i ∈ Region.ready .any ops L := mem_ready.2 ⟨hx', _, ho, fun e he hb => by
        have hlen : D.length = ops.size := by rw [← hD]; simp [waitsOf]
        have hdi : D[i]? = some ((ops[i].after.toList.filter fun e => Region.binds .any e).map (·.on)) := by
          rw [← hD]; unfold waitsOf
          rw [List.getElem?_map, show ops.toList[i]? = some ops[i] by simp [hi]]; rfl
        have hmem : (((ops[i].after.toList.filter fun e => Region.binds .any e).map (·.on)), i) ∈ D.zipIdx := List.mem_zipIdx_iff_getElem?.2 hdi
        have h2 := List.all_eq_true.1 (List.all_eq_true.1 hw _ hmem) e.on (List.mem_map.2 ⟨e, List.mem_filter.2 ⟨Array.mem_toList_iff.2 he, hb⟩, rfl⟩)
        have h3 : e.on < i := by simpa [Nat.blt_eq] using h2
        exact ih e.on h3 (by omega)⟩
      rw [hr] at this; cases this
theorem step_go {P : Program} {te : TE} {dsts : List (Option Nat)} {s : AS} {h h' : AH} {o : Oper} {v : AV} {op : Op} (hg : o.guard = none) (hop : o.op = op) (hr : aop te s h op = .go v h') : StepOk P te dsts s h o v h' := by
  unfold StepOk
  rw [hg]
  show OpStep P te s h o.op v h'
  unfold OpStep
  rw [hop, hr]
  exact ⟨rfl, rfl⟩
section
variable {dsts : List (Option Nat)} {V : Nat → AV} {s0 : AS} {p : Nat → Bool}
theorem sAt_done {t i : Nat} (ho : own dsts t = some i) (hp : p i = true) : sAt dsts V s0 p t = V i := by
  unfold sAt; rw [ho]; simp only [hp, if_true]
theorem sAt_not {t : Nat} (ho : own dsts t = none) : sAt dsts V s0 p t = s0 t := by
  unfold sAt; rw [ho]
theorem sAt_congr {V2 : Nat → AV} {p2 : Nat → Bool} (h : ∀ k, k < dsts.length → p k = p2 k ∧ (p k = true → V k = V2 k)) : sAt dsts V s0 p = sAt dsts V2 s0 p2 := by
  funext t
  unfold sAt
  cases ho : own dsts t with
  | none => rfl
  | some k =>
    have hk := (List.getElem?_eq_some_iff.1 (own_some ho)).1
    obtain ⟨h1, h2⟩ := h k hk
    simp only [← h1]
    split
    · next hp => exact h2 hp
    · rfl
theorem sAt_put {i : Nat} {d : Option Nat} (hd : dsts[i]? = some d) (hu : ∀ t, d = some t → own dsts t = some i) : putD (sAt dsts V s0 p) d (V i) = sAt dsts V s0 (fun j => p j || j == i) := by
  funext t
  cases d with
  | none =>
    show sAt dsts V s0 p t = _
    unfold sAt
    cases hx : own dsts t with
    | none => rfl
    | some k =>
      have hki : ¬ k = i := by
        rintro rfl
        have := own_some hx
        rw [hd] at this; cases this
      simp [hki]
  | some d =>
    show upd (sAt dsts V s0 p) d (V i) t = _
    rw [upd_app]
    by_cases e : t = d
    · subst e
      rw [if_pos rfl]
      unfold sAt
      rw [hu t rfl]
      simp
    · rw [if_neg e]
      unfold sAt
      cases hx : own dsts t with
      | none => rfl
      | some k =>
        have hki : ¬ k = i := by
          rintro rfl
          have := own_some hx
          rw [hd] at this
          injection this with this
          injection this with this
          exact e this.symm
        simp [hki]
def putAll : List (Option Nat) → (Nat → AV) → Nat → AS → AS
  | [], _, _, s => s
  | d :: ds, V, i, s => putAll ds V (i + 1) (putD s d (V i))
theorem putAll_sAt (hu : ∀ (i t : Nat), dsts[i]? = some (some t) → own dsts t = some i) : ∀ (n k : Nat), n + k = dsts.length → putAll (dsts.drop k) V k (sAt dsts V s0 fun i => decide (i < k)) = sAt dsts V s0 fun i => decide (i < dsts.length) := by
  intro n
  induction n with
  | zero => intro k hk; rw [List.drop_eq_nil_of_le (by omega), show k = dsts.length by omega]; rfl
  | succ n ih =>
    intro k hk
    have hlt : k < dsts.length := by omega
    rw [List.drop_eq_getElem_cons hlt]
    simp only [putAll]
    rw [sAt_put (List.getElem?_eq_getElem hlt) (fun t ht => hu k t (by rw [List.getElem?_eq_getElem hlt, ht]))]
    have : (fun j => decide (j < k) || j == k) = fun j => decide (j < k + 1) := by
      funext j
      rw [Bool.eq_iff_iff]
      simp only [Bool.or_eq_true, decide_eq_true_eq, beq_iff_eq]
      omega
    rw [this]
    exact ih (k + 1) (by omega)
theorem putAll_all (hu : ∀ (i t : Nat), dsts[i]? = some (some t) → own dsts t = some i) (hp : ∀ k, k < dsts.length → p k = true) : sAt dsts V s0 p = putAll dsts V 0 s0 := by
  have h := putAll_sAt (V := V) (s0 := s0) hu dsts.length 0 (by omega)
  rw [List.drop_zero] at h
  have h0 : sAt dsts V s0 (fun i => decide (i < 0)) = s0 := by
    funext t
    unfold sAt
    cases own dsts t <;> simp
  rw [h0] at h
  rw [h]
  exact sAt_congr fun k hk => ⟨by rw [hp k hk]; simp [hk], fun _ => rfl⟩
end
def uniq (dsts : List (Option Nat)) : Bool := dsts.zipIdx.all fun x => match x.1 with | some t => own dsts t == some x.2 | none => true
theorem uniq_spec {dsts : List (Option Nat)} (h : uniq dsts = true) (i t : Nat) (ht : dsts[i]? = some (some t)) : own dsts t = some i := by
  have := List.all_eq_true.1 h (some t, i) (List.mem_zipIdx_iff_getElem?.2 ht)
  simpa using this
end Go.Proofs.YtlbhgoffiigfbaaGreat.AW
