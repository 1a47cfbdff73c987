/- AW, part 18: the chain rule for drawn regions. -/
import Derived.Test.YtjdocenbfghglaaGreatDoorAw17
set_option linter.unusedSimpArgs false
set_option linter.unusedVariables false
namespace Go.Proofs.YtjdocenbfghglaaGreatDoor.AW
open Go Go.RowKit

def rdG (dsts : List (Option Nat)) : Option (Nat × Bool) → List Nat
  | some (j, _) => (match dsts[j]? with | some (some t) => [t] | _ => [])
  | none => []
def rds (dsts : List (Option Nat)) (o : Oper) : List Nat := opTmps o.op ++ rdG dsts o.guard
theorem gval_agree {dsts : List (Option Nat)} {s s2 : AS} {j : Nat} {want : Bool} (h : ∀ t ∈ rdG dsts (some (j, want)), s2 t = s t) : gval dsts s2 j = gval dsts s j := by
  unfold gval
  simp only [rdG] at h
  split
  · next t ht => rw [ht] at h; exact h t (by simp)
  · rfl

def clsOk (L : Option LK) (c : Nat) (h h' : AH) : Prop := match c with
  | 0 => h' = h
  | 1 => boxEq L h h'
  | 2 => h.box h.nb = none
  | _ => True
def skR (P : Program) (L : Option LK) (c : Nat) (h : AH) (r : OpR) (k : AV → AH → Prop) : Prop := match r with
  | .go v h' => clsOk L c h h' ∧ k v h'
  | .call f args => if c = 0 then ∃ v, (∀ h, ACallV P f args h fun out h2 => out = .ret v ∧ h2 = h) ∧ k v h
      else ∃ v h', ACallV P f args h (fun out h2 => out = .ret v ∧ h2 = h') ∧ boxEq L h h' ∧ k v h'
  | .two v1 v2 => v1 = v2 ∧ clsOk L c h h ∧ k v1 h
  | .app v h' _ _ _ _ => clsOk L c h h' ∧ k v h'
  | _ => False
theorem skR_go0 (P : Program) (L : Option LK) (h : AH) (v : AV) (h' : AH) (k : AV → AH → Prop) : skR P L 0 h (.go v h') k = (h' = h ∧ k v h') := rfl
theorem skR_go3 (P : Program) (L : Option LK) (h : AH) (v : AV) (h' : AH) (k : AV → AH → Prop) : skR P L 3 h (.go v h') k = k v h' := by simp [skR, clsOk]
theorem skR_go1 (P : Program) (L : Option LK) (h : AH) (v : AV) (h' : AH) (k : AV → AH → Prop) : skR P L 1 h (.go v h') k = (boxEq L h h' ∧ k v h') := rfl
theorem skR_go2 (P : Program) (L : Option LK) (h : AH) (v : AV) (h' : AH) (k : AV → AH → Prop) : skR P L 2 h (.go v h') k = (h.box h.nb = none ∧ k v h') := rfl
theorem skR_pure {P : Program} {L : Option LK} {f : Nat} {args : List AV} {v : AV} {h : AH} {k : AV → AH → Prop} (hp : Pure P f args v) (hk : k v h) : skR P L 0 h (.call (.fn (.func f) [] []) args) k := by
  refine ⟨v, fun h => .inl ⟨hp.ok, ?_⟩, hk⟩
  simpa using hp.calls h
def sg (P : Program) (te : TE) (dsts : List (Option Nat)) (L : Option LK) (c : Nat) (s : AS) (h : AH) (o : Oper) (k : AV → AH → Prop) : Prop := match o.guard with
  | none => skR P L c h (aop te s h o.op) k
  | some (j, want) => (match gval dsts s j with
    | .bool b => if b = want then skR P L c h (aop te s h o.op) k else k undefA h
    | .opt false _ => k undefA h
    | _ => False)
def sgb (P : Program) (te : TE) (L : Option LK) (g : AV) (want : Bool) (c : Nat) (s : AS) (h : AH) (op : Op) (k : AV → AH → Prop) : Prop := match g with
  | .bool b => if b = want then skR P L c h (aop te s h op) k else k undefA h
  | .opt false _ => k undefA h
  | _ => False
theorem sgb_un (P : Program) (te : TE) (L : Option LK) (want : Bool) (c : Nat) (s : AS) (h : AH) (op : Op) (k : AV → AH → Prop) : sgb P te L undefA want c s h op k = k undefA h := rfl
def aseq (P : Program) (te : TE) (N : Nat) (dsts : List (Option Nat)) (L : Option LK) (acts : List Nat) : Nat → List Oper → AS → AH → (AS → AH → Prop) → Prop
  | _, [], s, h, K => K s h
  | i, o :: rest, s, h, K => dstOk N o.dst = true ∧ lowRd L s o.op ∧ sg P te dsts L (cls acts i o.op) s h o fun v h' => aseq P te N dsts L acts (i + 1) rest (putD s o.dst v) h' K
theorem aseq_nil (P : Program) (te : TE) (N : Nat) (dsts : List (Option Nat)) (L : Option LK) (acts : List Nat) (i : Nat) (s : AS) (h : AH) (K : AS → AH → Prop) : aseq P te N dsts L acts i [] s h K = K s h := rfl
theorem aseq_cons (P : Program) (te : TE) (N : Nat) (dsts : List (Option Nat)) (L : Option LK) (acts : List Nat) (i : Nat) (dst : Option Nat) (op : Op) (ty : Nat) (pos : String) (after : Array Edge) (rest : List Oper) (s : AS) (h : AH) (K : AS → AH → Prop) :
    aseq P te N dsts L acts i (⟨dst, op, ty, pos, after, none⟩ :: rest) s h K = (dstOk N dst = true ∧ lowRd L s op ∧ skR P L (cls acts i op) h (aop te s h op) fun v h' => aseq P te N dsts L acts (i + 1) rest (putD s dst v) h' K) := rfl
theorem aseq_guard (P : Program) (te : TE) (N : Nat) (dsts : List (Option Nat)) (L : Option LK) (acts : List Nat) (i : Nat) (dst : Option Nat) (op : Op) (ty : Nat) (pos : String) (after : Array Edge) (j : Nat) (want : Bool) (rest : List Oper) (s : AS) (h : AH) (K : AS → AH → Prop) :
    aseq P te N dsts L acts i (⟨dst, op, ty, pos, after, some (j, want)⟩ :: rest) s h K = (dstOk N dst = true ∧ lowRd L s op ∧ sgb P te L (gval dsts s j) want (cls acts i op) s h op fun v h' => aseq P te N dsts L acts (i + 1) rest (putD s dst v) h' K) := rfl
theorem sgb_yes (P : Program) (te : TE) (L : Option LK) (b : Bool) (c : Nat) (s : AS) (h : AH) (op : Op) (k : AV → AH → Prop) : sgb P te L (.bool b) b c s h op k = skR P L c h (aop te s h op) k := by simp [sgb]
theorem sgb_tf (P : Program) (te : TE) (L : Option LK) (c : Nat) (s : AS) (h : AH) (op : Op) (k : AV → AH → Prop) : sgb P te L (.bool true) false c s h op k = k undefA h := by simp [sgb]
theorem sgb_ft (P : Program) (te : TE) (L : Option LK) (c : Nat) (s : AS) (h : AH) (op : Op) (k : AV → AH → Prop) : sgb P te L (.bool false) true c s h op k = k undefA h := by simp [sgb]

/-- What one operation of the sequence did, and that it would do so elsewhere. -/
structure Good (P : Program) (te : TE) (N : Nat) (dsts : List (Option Nat)) (L : Option LK) (c : Nat) (o : Oper) (s : AS) (h : AH) (v : AV) (h' : AH) : Prop where
  dst : dstOk N o.dst = true
  flt : c = 0 → h' = h ∧ ∀ s2 h2, (∀ t ∈ rds dsts o, s2 t = s t) → (hf o.op = true ∨ BoxLe L h h2) → StepOk P te dsts s2 h2 o v h2
  act : ∀ s2, (∀ t ∈ rds dsts o, s2 t = s t) → StepOk P te dsts s2 h o v h'
  one : c = 1 → boxEq L h h'
  two : c = 2 → BoxLe L h h'

theorem cls_zero {acts : List Nat} {i : Nat} {op : Op} (h : cls acts i op = 0) : fl op = true ∨ ∃ f a t, op = .call ⟨.value f, a, t⟩ := by
  unfold cls at h
  split at h
  · next hq => exact .inl hq
  · split at h <;> first | cases h | (exact .inr ⟨_, _, _, rfl⟩)
theorem cls_two {acts : List Nat} {i : Nat} {op : Op} (h : cls acts i op = 2) : (∃ t, op = .alloc t) ∨ (∃ t x, op = .box t x) := by
  unfold cls at h
  split at h
  · cases h
  · split at h <;> first | (exact .inl ⟨_, rfl⟩) | (exact .inr ⟨_, _, rfl⟩) | cases h | (split at h <;> cases h)
theorem boxLe_new {L : Option LK} {h : AH} {cs : List AV} (hn : h.box h.nb = none) : BoxLe L h (h.new cs) := by
  intro b cs' _ hb
  rw [new_box]
  split
  · next e => subst e; rw [hn] at hb; cases hb
  · exact hb
theorem convR_form {te : TE} {h : AH} {t u : Nat} {x : AV} : (∃ v h', convR te h t u x = .go v h') ∨ convR te h t u x = .bad := by
  unfold convR
  split
  · exact .inl ⟨_, _, rfl⟩
  · split
    · exact .inl ⟨_, _, rfl⟩
    · split
      · exact .inl ⟨_, _, rfl⟩
      · exact .inr rfl
theorem opstep_good {P : Program} {te : TE} {L : Option LK} {acts : List Nat} {i : Nat} {s : AS} {h : AH} {op : Op} {k : AV → AH → Prop} (hlo : lowRd L s op) (hk : skR P L (cls acts i op) h (aop te s h op) k) :
    ∃ v h', k v h' ∧ (cls acts i op = 0 → h' = h ∧ ∀ s2 h2, (∀ t ∈ opTmps op, s2 t = s t) → (hf op = true ∨ BoxLe L h h2) → OpStep P te s2 h2 op v h2) ∧
      (∀ s2, (∀ t ∈ opTmps op, s2 t = s t) → OpStep P te s2 h op v h') ∧ (cls acts i op = 1 → boxEq L h h') ∧ (cls acts i op = 2 → BoxLe L h h') := by
  have cg : ∀ {s2 : AS} {h2 : AH}, (∀ t ∈ opTmps op, s2 t = s t) → aop te s2 h2 op = aop te s h2 op := fun hr => aop_congr hr
  cases hr : aop te s h op with
  | go v h' =>
    rw [hr] at hk
    obtain ⟨h1, h2⟩ := hk
    refine ⟨v, h', h2, fun hc => ?_, fun s2 hs2 => ?_, fun hc => ?_, fun hc => ?_⟩
    · have hfl : fl op = true := by
        rcases cls_zero hc with hfl | ⟨f, a, t, rfl⟩
        · exact hfl
        · simp [aop] at hr
      rw [hc] at h1
      obtain ⟨e, g⟩ := aop_float hlo hfl hr h1
      refine ⟨e, fun s2 h2 hs2 hm => ?_⟩
      unfold OpStep
      rw [cg hs2, g h2 hm]
      exact ⟨rfl, rfl⟩
    · unfold OpStep
      rw [cg hs2, hr]
      exact ⟨rfl, rfl⟩
    · rw [hc] at h1; exact h1
    · rw [hc] at h1
      have hn : h.box h.nb = none := h1
      rcases cls_two hc with ⟨t, rfl⟩ | ⟨t, x, rfl⟩
      · simp only [aop] at hr
        split at hr
        · injection hr with e1 e2; subst e2; exact boxLe_new hn
        · cases hr
      · simp only [aop] at hr
        split at hr
        · injection hr with e1 e2; subst e2; exact boxLe_new hn
        · cases hr
  | call f args =>
    rw [hr] at hk
    unfold skR at hk
    simp only at hk
    split at hk
    · next hc =>
      obtain ⟨v, h1, h2⟩ := hk
      have anyh : ∀ h2, aop te s h2 op = .call f args := by
        intro h2
        rcases cls_zero hc with hfl | ⟨f', a, t, rfl⟩
        · exfalso
          cases op <;> simp only [aop] at hr <;> first
            | (rcases convR_form (te := te) (h := h) with ⟨_, _, e⟩ | e <;> (rw [e] at hr; cases hr))
            | (split at hr <;> cases hr)
            | (split at hr <;> first | cases hr | (split at hr <;> cases hr))
            | (simp [fl] at hfl; done)
            | skip
          next c =>
          obtain ⟨callee, args, ts⟩ := c
          cases callee with
          | value f => simp [fl] at hfl
          | invoke r m => simp [fl] at hfl
          | builtin b =>
            cases b <;> simp only at hr <;> first
              | (simp [fl] at hfl; done)
              | cases hr
              | (split at hr <;> first | cases hr | (split at hr <;> cases hr))
        · exact hr
      refine ⟨v, h, h2, fun _ => ⟨rfl, fun s2 h3 hs2 _ => ?_⟩, fun s2 hs2 => ?_, fun _ => boxEq.refl _ _, fun e => by rw [hc] at e; cases e⟩
      · unfold OpStep
        rw [cg hs2, anyh h3]
        exact h1 h3
      · unfold OpStep
        rw [cg hs2, hr]
        exact h1 h
    · next hc =>
      obtain ⟨v, h', h1, h2, h3⟩ := hk
      refine ⟨v, h', h3, fun e => absurd e hc, fun s2 hs2 => ?_, fun _ => h2, fun _ b cs hin hb => by rw [h2.get hin]; exact hb⟩
      unfold OpStep
      rw [cg hs2, hr]
      exact h1
  | panic v => rw [hr] at hk; exact hk.elim
  | two v1 v2 =>
    rw [hr] at hk
    obtain ⟨rfl, h1, h2⟩ := hk
    have anyh : ∀ h2, aop te s h2 op = .two v1 v1 := by
      intro h2
      cases op
      case binOp op t x y u =>
        simp only [aop] at hr ⊢
        split at hr
        · next w1 w2 hw => exact hr
        · split at hr <;> cases hr
      case call c =>
        exfalso
        simp only [aop] at hr
        obtain ⟨callee, args, ts⟩ := c
        cases callee with
        | value f => cases hr
        | invoke r m => simp only at hr; split at hr <;> cases hr
        | builtin b =>
          cases b <;> simp only [appR] at hr <;> first
            | (cases hr; done)
            | (split at hr <;> first | (cases hr; done) | (split at hr <;> first | (cases hr; done) | (split at hr <;> first | (cases hr; done) | (split at hr <;> cases hr))))
      all_goals (exfalso; simp only [aop] at hr; first | (rcases convR_form (te := te) (h := h) with ⟨_, _, e⟩ | e <;> (rw [e] at hr; cases hr)) | (cases hr; done) | (split at hr <;> first | (cases hr; done) | (split at hr <;> cases hr)))
    refine ⟨v1, h, h2, fun hc => ⟨rfl, fun s2 h3 hs2 _ => ?_⟩, fun s2 hs2 => ?_, fun _ => boxEq.refl _ _, fun _ _ _ _ x => x⟩
    · unfold OpStep; rw [cg hs2, anyh h3]; exact ⟨rfl, rfl, rfl⟩
    · unfold OpStep; rw [cg hs2, hr]; exact ⟨rfl, rfl, rfl⟩
  | app v h' h0 n sz cells =>
    rw [hr] at hk
    obtain ⟨h1, h2⟩ := hk
    have hop : ∃ args ts, op = .call ⟨.builtin .append, args, ts⟩ := by
      cases op <;> simp only [aop] at hr <;> first
        | (rcases convR_form (te := te) (h := h) with ⟨_, _, e⟩ | e <;> (rw [e] at hr; cases hr))
        | (split at hr <;> cases hr)
        | (split at hr <;> first | cases hr | (split at hr <;> cases hr))
        | skip
      next c =>
      obtain ⟨callee, args, ts⟩ := c
      cases callee with
      | value f => cases hr
      | invoke r m => simp only at hr; split at hr <;> cases hr
      | builtin b =>
        cases b <;> simp only at hr <;> first
          | exact ⟨_, _, rfl⟩
          | cases hr
          | (split at hr <;> first | cases hr | (split at hr <;> cases hr))
    obtain ⟨args, ts, rfl⟩ := hop
    refine ⟨v, h', h2, fun hc => ?_, fun s2 hs2 => ?_, fun hc => ?_, fun hc => ?_⟩
    · simp [cls, fl] at hc
    · unfold OpStep; rw [cg hs2, hr]; exact ⟨rfl, rfl⟩
    · rw [hc] at h1; exact h1
    · simp [cls, fl] at hc
  | meth _ _ _ _ => rw [hr] at hk; exact hk.elim
  | bad => rw [hr] at hk; exact hk.elim

theorem sg_good {P : Program} {te : TE} {N : Nat} {dsts : List (Option Nat)} {L : Option LK} {acts : List Nat} {i : Nat} {s : AS} {h : AH} {o : Oper} {k : AV → AH → Prop} (hd : dstOk N o.dst = true) (hlo : lowRd L s o.op) (hk : sg P te dsts L (cls acts i o.op) s h o k) :
    ∃ v h', k v h' ∧ Good P te N dsts L (cls acts i o.op) o s h v h' := by
  unfold sg at hk
  cases hg : o.guard with
  | none =>
    rw [hg] at hk
    obtain ⟨v, h', h1, h2, h3, h4, h5⟩ := opstep_good hlo hk
    have hr : ∀ {s2 : AS}, (∀ t ∈ rds dsts o, s2 t = s t) → ∀ t ∈ opTmps o.op, s2 t = s t := fun hh t ht => hh t (List.mem_append_left _ ht)
    refine ⟨v, h', h1, hd, fun hc => ?_, fun s2 hs2 => ?_, h4, h5⟩
    · obtain ⟨e, g⟩ := h2 hc
      refine ⟨e, fun s2 h2 hs2 hm => ?_⟩
      unfold StepOk; rw [hg]
      exact g s2 h2 (hr hs2) hm
    · unfold StepOk; rw [hg]
      exact h3 s2 (hr hs2)
  | some g =>
    obtain ⟨j, want⟩ := g
    rw [hg] at hk
    simp only at hk
    have hga : ∀ {s2 : AS}, (∀ t ∈ rds dsts o, s2 t = s t) → gval dsts s2 j = gval dsts s j := fun hh => gval_agree (want := want) (fun t ht => hh t (List.mem_append_right _ (by rw [hg]; exact ht)))
    have hr : ∀ {s2 : AS}, (∀ t ∈ rds dsts o, s2 t = s t) → ∀ t ∈ opTmps o.op, s2 t = s t := fun hh t ht => hh t (List.mem_append_left _ ht)
    split at hk
    case h_3 => exact hk.elim
    case h_2 v0 hb =>
      have hu : ∀ {s2 : AS}, (∀ t ∈ rds dsts o, s2 t = s t) → (unopt (gval dsts s2 j)).1 = false := fun hs2 => by rw [hga hs2, hb]; rfl
      refine ⟨undefA, h, hk, hd, fun hc => ⟨rfl, fun s2 h2 hs2 hm => ?_⟩, fun s2 hs2 => ?_, fun _ => boxEq.refl _ _, fun _ b cs _ hb => hb⟩
      · unfold StepOk; rw [hg]
        exact .inr ⟨hu hs2, rfl, rfl⟩
      · unfold StepOk; rw [hg]
        exact .inr ⟨hu hs2, rfl, rfl⟩
    next b hb =>
    by_cases e : b = want
    · rw [if_pos e] at hk
      obtain ⟨v, h', h1, h2, h3, h4, h5⟩ := opstep_good hlo hk
      refine ⟨v, h', h1, hd, fun hc => ?_, fun s2 hs2 => ?_, h4, h5⟩
      · obtain ⟨e1, g⟩ := h2 hc
        refine ⟨e1, fun s2 h2 hs2 hm => ?_⟩
        unfold StepOk; rw [hg]
        exact .inl ⟨b, by rw [hga hs2, hb], fun _ => g s2 h2 (hr hs2) hm, fun hne => absurd e hne⟩
      · unfold StepOk; rw [hg]
        exact .inl ⟨b, by rw [hga hs2, hb], fun _ => h3 s2 (hr hs2), fun hne => absurd e hne⟩
    · rw [if_neg e] at hk
      refine ⟨undefA, h, hk, hd, fun hc => ⟨rfl, fun s2 h2 hs2 hm => ?_⟩, fun s2 hs2 => ?_, fun _ => boxEq.refl _ _, fun _ b cs _ hb => hb⟩
      · unfold StepOk; rw [hg]
        exact .inl ⟨b, by rw [hga hs2, hb], fun hh => absurd hh e, fun _ => ⟨rfl, rfl⟩⟩
      · unfold StepOk; rw [hg]
        exact .inl ⟨b, by rw [hga hs2, hb], fun hh => absurd hh e, fun _ => ⟨rfl, rfl⟩⟩

/-- The sequence as three rows. -/
theorem aseq_trace {P : Program} {te : TE} {N : Nat} {dsts : List (Option Nat)} {L : Option LK} {acts : List Nat} {K : AS → AH → Prop} : ∀ (l : List Oper) (i : Nat) (s : AS) (h : AH), aseq P te N dsts L acts i l s h K →
    ∃ (V : Nat → AV) (S : Nat → AS) (G : Nat → AH), S i = s ∧ G i = h ∧ K (S (i + l.length)) (G (i + l.length)) ∧
      ∀ (k : Nat) (o : Oper), l[k]? = some o → S (i + k + 1) = putD (S (i + k)) o.dst (V (i + k)) ∧ Good P te N dsts L (cls acts (i + k) o.op) o (S (i + k)) (G (i + k)) (V (i + k)) (G (i + k + 1)) := by
  intro l
  induction l with
  | nil => intro i s h hk; exact ⟨fun _ => .dead, fun _ => s, fun _ => h, rfl, rfl, hk, fun k o ho => by cases ho⟩
  | cons o l ih =>
    intro i s h hk
    obtain ⟨hd, hlo, hk⟩ := hk
    obtain ⟨v, h', h1, h2⟩ := sg_good hd hlo hk
    obtain ⟨V, S, G, e1, e2, e3, e4⟩ := ih (i + 1) _ _ h1
    refine ⟨fun k => if k = i then v else V k, fun k => if k = i then s else S k, fun k => if k = i then h else G k, by simp, by simp, ?_, fun k o' ho => ?_⟩
    · have hne : ¬ (i + (o :: l).length = i) := by simp
      simp only [if_neg hne]
      rw [show i + (o :: l).length = i + 1 + l.length by simp; omega]
      exact e3
    · cases k with
      | zero =>
        injection ho with ho; subst ho
        simp only [Nat.add_zero, if_pos rfl, if_neg (show ¬ (i + 1 = i) by omega)]
        rw [e1, e2]
        exact ⟨rfl, h2⟩
      | succ k =>
        have := e4 k o' ho
        simp only [if_neg (show ¬ (i + (k + 1) = i) by omega), if_neg (show ¬ (i + (k + 1) + 1 = i) by omega)]
        rw [show i + (k + 1) = i + 1 + k by omega]
        exact this
end Go.Proofs.YtjdocenbfghglaaGreatDoor.AW
