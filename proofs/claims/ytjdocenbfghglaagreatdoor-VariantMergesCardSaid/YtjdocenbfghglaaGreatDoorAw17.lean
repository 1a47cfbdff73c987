/- AW, part 17: drawn regions of which the acts are in one chain and the rest floats. -/
import Derived.Test.YtjdocenbfghglaaGreatDoorAw16
set_option linter.unusedSimpArgs false
set_option linter.unusedVariables false
namespace Go.Proofs.YtjdocenbfghglaaGreatDoor.AW
open Go Go.RowKit

def fl : Op → Bool
  | .move _ => true | .pick _ _ _ => true | .build _ _ => true | .load _ _ => true | .nilCheck _ => true | .binOp _ _ _ _ _ => true | .unOp _ _ _ => true
  | .convert _ _ _ => true | .makeInterface _ _ => true | .makeFunc _ _ _ => true | .slice _ _ _ _ _ => true | .fieldAddr _ _ _ => true | .field _ _ _ => true
  | .indexAddr _ _ _ => true | .index _ _ _ => true | .extract _ _ => true | .buildSlice _ _ _ => true
  | .call ⟨.builtin .len, _, _⟩ => true | .call ⟨.builtin .min, _, _⟩ => true | .call ⟨.builtin .max, _, _⟩ => true
  | _ => false
def hf : Op → Bool
  | .load _ _ => false
  | .convert _ _ _ => false
  | _ => true
/-- 0: floats; 1: leaves the boxes; 2: makes a box; 3: anything. -/
def cls (acts : List Nat) (i : Nat) (op : Op) : Nat := if fl op = true then 0 else match op with
  | .assign _ => 1
  | .alloc _ => 2
  | .box _ _ => 2
  | .call ⟨.value _, _, _⟩ => if acts.contains i = true then 1 else 0
  | .call ⟨.builtin .append, _, _⟩ => 1
  | _ => 3
/-- The boxes that are looked at: all, or those below a number, or all but one. -/
inductive LK where
  | below (l : Nat)
  | but (c : Nat)
def inK : LK → Nat → Prop
  | .below l, b => b < l
  | .but c, b => b ≠ c
def inL (L : Option LK) (b : Nat) : Prop := match L with | none => True | some l => inK l b
def BoxLe (L : Option LK) (h h' : AH) : Prop := ∀ b cs, inL L b → h.box b = some cs → h'.box b = some cs
def boxEq (L : Option LK) (h h' : AH) : Prop := match L with | none => h'.box = h.box | some l => ∀ b, inK l b → h'.box b = h.box b
theorem boxEq.get {L : Option LK} {h h' : AH} (e : boxEq L h h') {b : Nat} (hb : inL L b) : h'.box b = h.box b := by
  cases L with
  | none => exact congrFun e b
  | some l => exact e b hb
theorem boxEq.refl (L : Option LK) (h : AH) : boxEq L h h := by
  cases L with
  | none => exact rfl
  | some l => exact fun _ _ => rfl
theorem boxEq_none (h h' : AH) : boxEq none h h' = (h'.box = h.box) := rfl
theorem boxEq_some (l : Nat) (h h' : AH) : boxEq (some (.below l)) h h' = (∀ b, b < l → h'.box b = h.box b) := rfl
/-- A floating operation reads only boxes that are looked at. -/
def lowRd (L : Option LK) (s : AS) (op : Op) : Prop := match L with
  | none => True
  | some l => (match op with
    | .load _ a => (match ev s a with | .ptr b _ => inK l b | _ => True)
    | .convert _ _ _ => False
    | _ => True)
theorem lowRd_none (s : AS) (op : Op) : lowRd none s op = True := rfl
theorem lowRd_K (l : LK) (s : AS) (op : Op) : lowRd (some l) s op = (match op with
    | .load _ a => (match ev s a with | .ptr b _ => inK l b | _ => True)
    | .convert _ _ _ => False
    | _ => True) := rfl
theorem lowRd_some (l : Nat) (s : AS) (op : Op) : lowRd (some (.below l)) s op = (match op with
    | .load _ a => (match ev s a with | .ptr b _ => b < l | _ => True)
    | .convert _ _ _ => False
    | _ => True) := rfl

section
variable {te : TE} {s s2 : AS} {h h2 : AH}
theorem ev_agree {op : Op} (hr : ∀ t ∈ opTmps op, s2 t = s t) : ∀ x ∈ op.operands.toList, ev s2 x = ev s x := by
  intro x hx
  cases x with
  | tmp t => exact hr t (List.mem_filterMap.2 ⟨.tmp t, hx, rfl⟩)
  | _ => rfl
theorem apure_congr {op : Op} (hr : ∀ t ∈ opTmps op, s2 t = s t) : apure te s2 h op = apure te s h op := by
  have hx := ev_agree hr
  cases op <;> simp only [Op.operands] at hx <;> simp only [apure]
  case build t ps =>
    have e1 : (ps.toList.all fun p => !(ev s2 p.2).isDead) = (ps.toList.all fun p => !(ev s p.2).isDead) := by
      rw [Bool.eq_iff_iff, List.all_eq_true, List.all_eq_true]
      constructor
      · intro hh p hp; rw [← hx p.2 (by simpa using ⟨p.1, Array.mem_toList_iff.1 hp⟩)]; exact hh p hp
      · intro hh p hp; rw [hx p.2 (by simpa using ⟨p.1, Array.mem_toList_iff.1 hp⟩)]; exact hh p hp
    have e2 : (ps.toList.map fun p => (p.1, ev s2 p.2)) = (ps.toList.map fun p => (p.1, ev s p.2)) := List.map_congr_left fun p hp => by rw [hx p.2 (by simpa using ⟨p.1, Array.mem_toList_iff.1 hp⟩)]
    rw [e1, e2]
  case makeFunc fn a b =>
    rw [List.map_congr_left (fun x hm => hx x (by simpa using .inl (Array.mem_toList_iff.1 hm))), List.map_congr_left (l := b.toList) (fun x hm => hx x (by simpa using .inr (Array.mem_toList_iff.1 hm)))]
  case slice t x lo hi mx => cases lo <;> cases hi <;> cases mx <;> simp_all
  case call c =>
    obtain ⟨callee, args, ts⟩ := c
    cases callee with
    | builtin b =>
      cases b <;> try rfl
      have e : args.toList.map (ev s2) = args.toList.map (ev s) := List.map_congr_left fun x hm => hx x (by simpa [Call.operands] using hm)
      cases ha : args.toList with
      | nil => rfl
      | cons x xs =>
        have hxx : ev s2 x = ev s x := hx x (by simp [Call.operands, ← Array.mem_toList_iff, ha])
        cases xs with
        | nil =>
          cases ts.toList with
          | nil => rfl
          | cons t ts => cases ts <;> first | rfl | simp only [hxx]
        | cons => rfl
    | _ => rfl
  all_goals (first | rfl | (simp_all; done))
theorem args_agree {c : Call} (hr : ∀ t ∈ opTmps (.call c), s2 t = s t) : ∀ x ∈ c.args.toList, ev s2 x = ev s x := by
  intro x hm
  refine ev_agree hr x ?_
  show x ∈ c.operands.toList
  obtain ⟨callee, args, ts⟩ := c
  cases callee <;> simp [Call.operands] <;> first | (exact .inr (by simpa using hm)) | simpa using hm
theorem aop_congr {op : Op} (hr : ∀ t ∈ opTmps op, s2 t = s t) : aop te s2 h op = aop te s h op := by
  have hp := apure_congr (te := te) (h := h) hr
  have hx := ev_agree hr
  cases op
  case box t x => simp only [Op.operands] at hx; simp only [aop]; rw [hx x (by simp)]
  case store t a x => simp only [Op.operands] at hx; simp only [aop]; rw [hx x (by simp), hx a (by simp)]
  case panic x => simp only [Op.operands] at hx; simp only [aop]; rw [hx x (by simp)]
  case convert t u x => simp only [Op.operands] at hx; simp only [aop]; rw [hx x (by simp)]
  case makeSlice t l c => simp only [Op.operands] at hx; simp only [aop]; rw [hx l (by simp), hx c (by simp)]
  case binOp op t x y u => simp only [Op.operands] at hx; simp only [aop]; rw [hx x (by simp), hx y (by simp), hp]
  case buildSlice t n ps =>
    simp only [Op.operands] at hx
    have e2 : (ps.toList.map fun p => (p.1, ev s2 p.2)) = (ps.toList.map fun p => (p.1, ev s p.2)) := List.map_congr_left fun p hp => by rw [hx p.2 (by simpa using ⟨p.1, Array.mem_toList_iff.1 hp⟩)]
    simp only [aop]; rw [e2]
  case call c =>
    have ha := args_agree hr
    have e : c.args.toList.map (ev s2) = c.args.toList.map (ev s) := List.map_congr_left ha
    obtain ⟨callee, args, ts⟩ := c
    simp only [Op.operands] at hx
    cases callee with
    | value f => simp only [aop]; rw [e, hx f (by simp [Call.operands])]
    | invoke r m => simp only [aop]; rw [e, hx r (by simp [Call.operands])]
    | builtin b =>
      cases b <;> first
        | rfl
        | (simp only [aop]; rw [hp])
        | (simp only [aop]
           cases hl : args.toList with
           | nil => rfl
           | cons x xs =>
             cases xs with
             | nil => first | rfl | (rw [hl] at ha; cases ts.toList with
               | nil => rfl
               | cons t1 t2 => cases t2 <;> first | rfl | simp only [ha x (by simp)])
             | cons y ys => first
               | rfl
               | (rw [hl] at ha
                  cases ys with
                  | nil => first | (simp only [ha x (by simp), ha y (by simp)]; done) | (cases ts.toList with
                    | nil => rfl
                    | cons t1 t2 => cases t2 with
                      | nil => rfl
                      | cons t3 t4 => cases t4 <;> first | rfl | simp only [ha x (by simp), ha y (by simp)])
                  | cons => rfl))
  all_goals (first | rfl | (simp only [aop]; rw [hp]))
/-- A floating operation leaves the heap, and sees of it only boxes. -/
theorem apure_mono {L : Option LK} {op : Op} {v : AV} (hlo : lowRd L s op) (hm : hf op = true ∨ BoxLe L h h2) (hv : apure te s h op = some v) : apure te s h2 op = some v := by
  cases op
  case load t a =>
    have hle : BoxLe L h h2 := by
      rcases hm with hm | hm
      · cases hm
      · exact hm
    simp only [apure] at hv ⊢
    unfold aload at hv ⊢
    cases hte : te t with
    | none => simp [hte] at hv
    | some i =>
      cases hx : ev s a with
      | ptr b o =>
        simp only [hte, hx] at hv ⊢
        cases hb : h.box b with
        | none => simp [hb] at hv
        | some cs => rw [hle b cs (by cases L with | none => exact trivial | some l => rw [lowRd_K] at hlo; simp only [hx] at hlo; exact hlo) hb]; simpa [hb] using hv
      | _ => simp only [hte, hx] at hv ⊢; exact hv
  all_goals (first | exact hv | (simp only [apure] at hv ⊢; exact hv))
theorem cellsOf_mono (hm : BoxLe none h h2) {sz : Nat} {x : AV} {r : Nat × List AV} (hv : cellsOf h sz x = some r) : cellsOf h2 sz x = some r := by
  cases x <;> simp only [cellsOf] at hv ⊢ <;> first
    | (cases hv; done)
    | exact hv
    | skip
  next b o n sz' =>
    split at hv
    · next hs =>
      rw [if_pos hs]
      cases hb : h.box b with
      | none => rw [hb] at hv; cases hv
      | some cs => rw [hb] at hv; rw [hm b cs trivial hb]; exact hv
    · cases hv
theorem acvS_mono (hm : BoxLe none h h2) {t u : Nat} {x v : AV} (hv : acvS te h t u x = some v) : acvS te h2 t u x = some v := by
  unfold acvS at hv ⊢
  split at hv
  · split at hv
    · split at hv
      · next hc => rw [cellsOf_mono hm hc]; exact hv
      · cases hv
    · cases hv
  · cases hv
theorem acvB_none {t u : Nat} {x : AV} (hv : acvB te h t u x = none) : acvB te h2 t u x = none := by
  unfold acvB at hv ⊢
  split at hv
  · split at hv
    · split at hv
      · split at hv
        · cases hv
        · simp only [*, if_false, Bool.false_eq_true]
      · simp only [*]
    · simp only [*]
  · simp only [*]
theorem acvB_nb {t u : Nat} {x : AV} {r1 : AV} {r2 : AH} (hv : acvB te h t u x = some (r1, r2)) : r2.nb = h.nb + 1 := by
  unfold acvB at hv
  split at hv
  · split at hv
    · split at hv
      · split at hv
        · injection hv with hv; injection hv with e1 e2; subst e2; rfl
        · cases hv
      · cases hv
    · cases hv
  · cases hv
/-- What is converted as a number or a string is no slice. -/
theorem acvS_of_conv {t u : Nat} {x v : AV} (hc : aconv te t u x = some v) : acvS te h2 t u x = none := by
  unfold aconv at hc
  unfold acvS
  split at hc
  · split
    · split
      · next n _ _ _ => rfl
      · rfl
    · rfl
  · split
    · split
      · rfl
      · rfl
    · rfl
  · cases hc
theorem aop_float {L : Option LK} {op : Op} {v : AV} {h' : AH} (hlo : lowRd L s op) (hfl : fl op = true) (hv : aop te s h op = .go v h') (hh : h' = h) : h' = h ∧ ∀ h2, (hf op = true ∨ BoxLe L h h2) → aop te s h2 op = .go v h2 := by
  have hpure : (∀ h, aop te s h op = (match apure te s h op with | some v => .go v h | none => .bad)) → h' = h ∧ ∀ h2, (hf op = true ∨ BoxLe L h h2) → aop te s h2 op = .go v h2 := by
    intro he
    rw [he] at hv
    cases hp : apure te s h op with
    | none => rw [hp] at hv; cases hv
    | some u =>
      rw [hp] at hv
      injection hv with e1 e2
      subst e1 e2
      refine ⟨rfl, fun h2 hm => ?_⟩
      rw [he, apure_mono hlo hm hp]
  cases op
  case binOp op t x y u =>
    simp only [aop] at hv hpure ⊢
    cases hc : acmpnil te op t (ev s x) (ev s y) with
    | some vv => rw [hc] at hv; cases hv
    | none => rw [hc] at hv hpure; exact hpure (fun _ => rfl)
  case convert t u x =>
    refine ⟨hh, fun h2 hm => ?_⟩
    cases L with
    | some l => exact hlo.elim
    | none =>
    have hle : BoxLe none h h2 := by
      rcases hm with hm | hm
      · cases hm
      · exact hm
    simp only [aop, convR] at hv ⊢
    cases hb : acvB te h t u (ev s x) with
    | some r =>
      exfalso
      obtain ⟨r1, r2⟩ := r
      rw [hb] at hv
      injection hv with e1 e2
      subst e1 e2
      have := acvB_nb hb
      rw [hh] at this; omega
    | none =>
      rw [acvB_none hb]
      rw [hb] at hv
      cases hs : acvS te h t u (ev s x) with
      | some w => rw [hs] at hv; rw [acvS_mono hle hs]; injection hv with e1 e2; subst e1; rfl
      | none =>
        rw [hs] at hv
        cases hc : aconv te t u (ev s x) with
        | none => rw [hc] at hv; cases hv
        | some w =>
          rw [hc] at hv
          injection hv with e1 e2
          subst e1
          have : acvS te h2 t u (ev s x) = none := acvS_of_conv hc
          rw [this]
  case buildSlice t n ps =>
    simp only [aop] at hv ⊢
    cases ha : alit te t n (ps.toList.map fun p => (p.1, ev s p.2)) with
    | none => rw [ha] at hv; cases hv
    | some u => rw [ha] at hv; injection hv with e1 e2; subst e1 e2; exact ⟨rfl, fun _ _ => rfl⟩
  case call c =>
    obtain ⟨callee, args, ts⟩ := c
    cases callee with
    | value f => cases hfl
    | invoke r m => cases hfl
    | builtin b =>
      cases b <;> first
        | (exfalso; simp [fl] at hfl; done)
        | exact hpure (fun _ => rfl)
        | (simp only [aop] at hv ⊢
           cases hl : args.toList with
           | nil => rw [hl] at hv; cases hv
           | cons x xs =>
             cases xs with
             | nil => rw [hl] at hv; cases hv
             | cons y ys =>
               cases ys with
               | cons => rw [hl] at hv; cases hv
               | nil =>
                 simp only [hl] at hv ⊢
                 split at hv
                 · next u hu => injection hv with e1 e2; subst e1 e2; exact ⟨rfl, fun _ _ => by first | rfl | simp [hu]⟩
                 · cases hv)
  all_goals (first | exact hpure (fun _ => rfl) | (exfalso; simp [fl] at hfl; done))
end
end Go.Proofs.YtjdocenbfghglaaGreatDoor.AW
