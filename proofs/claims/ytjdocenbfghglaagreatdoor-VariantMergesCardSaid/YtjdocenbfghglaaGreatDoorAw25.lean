/- AW, part 25: code that is run by the kernel: code, calls, and that this is what the code does. -/
import Derived.Test.YtjdocenbfghglaaGreatDoorAw24
set_option linter.unusedSimpArgs false
set_option linter.unusedVariables false
namespace Go.Proofs.YtjdocenbfghglaaGreatDoor.AW
open Go Go.RowKit

section
variable {P : Program} {te : TE}
theorem eop_call {bx : Bool} {s : AS} {h : EH} {op : Op} {f : AV} {args : List AV} (he : eop te bx s h op = .call f args) : aop te s h.ah op = .call f args := by
  unfold eop at he
  split at he
  · split at he <;> cases he
  · split at he <;> cases he
  · split at he <;> cases he
  · split at he <;> cases he
  · split at he <;> cases he
  · split at he <;> first | (cases he; done) | (split at he <;> first | (cases he; done) | (split at he <;> first | (cases he; done) | (split at he <;> cases he)))
  · split at he <;> cases he
  · split at he
    · split at he <;> cases he
    · split at he
      · next p q _ => cases hpq : (p == q) <;> rw [hpq] at he <;> cases he
      · cases he
      · split at he <;> cases he
  · next c =>
    obtain ⟨callee, args, ts⟩ := c
    cases callee with
    | value g => injection he with h1 h2; subst h1 h2; rfl
    | invoke r m => simp only at he; split at he <;> cases he
    | builtin b =>
      cases b <;> simp only at he <;> first
        | (cases he; done)
        | (split at he <;> first | (cases he; done) | (split at he <;> cases he))
  · split at he <;> cases he
theorem eop_meth {bx : Bool} {s : AS} {h : EH} {op : Op} {t : Nat} {name : String} {v : AV} {args : List AV} (he : eop te bx s h op = .meth t name v args) : aop te s h.ah op = .meth t name v args := by
  unfold eop at he
  split at he
  · split at he <;> cases he
  · split at he <;> cases he
  · split at he <;> cases he
  · split at he <;> cases he
  · split at he <;> cases he
  · split at he <;> first | (cases he; done) | (split at he <;> first | (cases he; done) | (split at he <;> first | (cases he; done) | (split at he <;> cases he)))
  · split at he <;> cases he
  · split at he
    · split at he <;> cases he
    · split at he
      · next p q _ => cases hpq : (p == q) <;> rw [hpq] at he <;> cases he
      · cases he
      · split at he <;> cases he
  · next c =>
    obtain ⟨callee, args, ts⟩ := c
    cases callee with
    | value g => cases he
    | invoke r m =>
      simp only at he
      split at he
      · next t v hv => injection he with h1 h2 h3 h4; subst h1 h2 h3 h4; simp only [aop, hv]
      · cases he
    | builtin b =>
      cases b <;> simp only at he <;> first
        | (cases he; done)
        | (split at he <;> first | (cases he; done) | (split at he <;> cases he))
  · split at he <;> cases he
theorem eop_panic {bx : Bool} {s : AS} {h : EH} {op : Op} {v : AV} (he : eop te bx s h op = .panic v) : aop te s h.ah op = .panic v := by
  unfold eop at he
  split at he
  · split at he <;> cases he
  · split at he <;> cases he
  · split at he <;> cases he
  · split at he <;> cases he
  · simp only [aop]
    split at he
    · next hv => injection he with h1; subst h1; rw [hv]
    · cases he
  · split at he <;> first | (cases he; done) | (split at he <;> first | (cases he; done) | (split at he <;> first | (cases he; done) | (split at he <;> cases he)))
  · split at he <;> cases he
  · split at he
    · split at he <;> cases he
    · split at he
      · next p q _ => cases hpq : (p == q) <;> rw [hpq] at he <;> cases he
      · cases he
      · split at he <;> cases he
  · next c =>
    obtain ⟨callee, args, ts⟩ := c
    cases callee with
    | value g => cases he
    | invoke r m => simp only at he; split at he <;> cases he
    | builtin b =>
      cases b <;> simp only at he <;> first
        | (cases he; done)
        | (split at he <;> first | (cases he; done) | (split at he <;> cases he))
  · split at he <;> cases he
/-- What floats leaves the heap. -/
theorem eop_zero {s : AS} {h h' : EH} {op : Op} {v : AV} {acts : List Nat} {i : Nat} (hc : cls acts i op = 0) (he : eop te false s h op = .val v h') (hn : h'.nb = h.nb) : h' = h := by
  have hpure : (match apure te s h.ah op with | some v => ER.val v h | none => .bad) = .val v h' → h' = h := by
    intro h1
    split at h1
    · injection h1 with h1 h2; exact h2.symm
    · cases h1
  have hfl := cls_zero hc
  unfold eop at he
  split at he
  · rcases hfl with hfl | ⟨f, a, t, e⟩
    · cases hfl
    · cases e
  · rcases hfl with hfl | ⟨f, a, t, e⟩
    · cases hfl
    · cases e
  · split at he
    · injection he with h1 h2; exact h2.symm
    · cases he
  · rcases hfl with hfl | ⟨f, a, t, e⟩
    · cases hfl
    · cases e
  · split at he <;> cases he
  · split at he
    · next v3 h3 hb =>
      injection he with h1 h2
      have e0 := acvB_nb (ecvB_eq hb)
      have e1 : h3.ah.nb = h3.nb := rfl
      have e2 : h.ah.nb = h.nb := rfl
      rw [← h2] at hn
      omega
    · split at he
      · cases he
      · split at he
        · injection he with h1 h2; exact h2.symm
        · split at he
          · injection he with h1 h2; exact h2.symm
          · cases he
  · rcases hfl with hfl | ⟨f, a, t, e⟩
    · cases hfl
    · cases e
  · split at he
    · split at he
      · injection he with h1 h2; exact h2.symm
      · cases he
    · split at he
      · next p q _ => cases hpq : (p == q) <;> rw [hpq] at he <;> first | (cases he; done) | (injection he with h1 h2; exact h2.symm)
      · cases he
      · split at he
        · injection he with h1 h2; exact h2.symm
        · cases he
  · next c =>
    obtain ⟨callee, args, ts⟩ := c
    cases callee with
    | value g => cases he
    | invoke r m => simp only at he; split at he <;> cases he
    | builtin b =>
      rcases hfl with hfl | ⟨f, a, t, e⟩
      · cases b <;> simp [fl] at hfl <;> simp only at he
        · exact hpure he
        · split at he
          · split at he
            · injection he with h1 h2; exact h2.symm
            · cases he
          · cases he
        · split at he
          · split at he
            · injection he with h1 h2; exact h2.symm
            · cases he
          · cases he
      · cases e
  · exact hpure he
/-- An act of the first class leaves the boxes. -/
theorem eop_one {s : AS} {h h' : EH} {op : Op} {v : AV} {acts : List Nat} {i : Nat} (hc : cls acts i op = 1) (he : eop te false s h op = .val v h') : h'.ah.box = h.ah.box := by
  cases op <;> simp only [cls, fl] at hc <;> first
    | (simp at hc; done)
    | skip
  case assign x => simp only [eop] at he; split at he <;> first | (cases he; done) | (injection he with h1 h2; subst h2; rfl)
  case call c =>
    obtain ⟨callee, args, ts⟩ := c
    cases callee with
    | value g => cases he
    | invoke r m => simp only [eop] at he; split at he <;> cases he
    | builtin b =>
      cases b <;> first | (simp at hc; done) | skip
      simp only [eop] at he
      split at he
      · split at he
        · next v1 h1 hv1 =>
          injection he with e1 e2; subst e1 e2
          unfold ebox at hv1
          split at hv1
          · next r hr => obtain ⟨rv, rh⟩ := r; injection hv1 with hv1; injection hv1 with e1 e2; subst e1 e2; exact (eappend_eq hr).2.1
          · cases hv1
        · cases he
      · cases he
end

/-- Which functions are run in place, in which ones an append gives a box, what methods there are, what functions without a body give. -/
structure EC where
  P : Program
  te : TE
  lim : Nat
  inl : FuncId → Bool
  bx : FuncId → Bool
  meth : Nat → String → Option FuncId
  ext : FuncId → List AV → Option AV
  row : FuncId → Bool := fun _ => false
  rowk : FuncId → List AV → EH → Option (AV × EH) := fun _ _ _ => none
  caught : FuncId → Bool := fun _ => false
/-- A function that calls the one it is handed, and answers true when that one comes back. -/
def CaughtOk (P : Program) (f : FuncId) : Prop := FOk P f ∧ ∀ (g : FuncId) (first cap : List AV) (h : AH) (R : AOut → AH → Prop), FOk P g → ACalls P g (first ++ [] ++ cap) (h.new [.bool false]) (fun out h2 => (∃ v, out = .ret v) ∧ h2.box h.nb = some [.bool false] ∧ R (.ret (.bool true)) (h2.set h.nb [.bool true])) → ACalls P f [.fn (.func g) first cap] h R
def RowkOk (P : Program) (rowk : FuncId → List AV → EH → Option (AV × EH)) : Prop := ∀ f args h v h', rowk f args h = some (v, h') → h'.ah.box = h.ah.box ∧ ACallF P f args h.ah (fun out h2 => out = .ret v ∧ h2 = h'.ah)
theorem RowkOk.none (P : Program) : RowkOk P (fun _ _ _ => Option.none) := fun _ _ _ _ _ h => by cases h
structure EC.Ok (c : EC) : Prop where
  te : c.te.ok c.P
  mixed : c.P.follows .mixedOrders = true
  names : ∀ (f : FuncId) (fn : Func), c.P.funcs[f]? = some fn → (fn.name == "runtime.NumGoroutine") = false
  meth : ∀ t name f, c.meth t name = some f → AMeth c.P t name f
  ext : ∀ f args v, c.ext f args = some v → ∀ h R, R (.ret v) h → ACallF c.P f args h R
  rowk : RowkOk c.P c.rowk
  caught : ∀ f, c.caught f = true → CaughtOk c.P f

abbrev ERun := Option (AEx × Tr × EH)
abbrev ECall := FuncId → List AV → EH → Option (AOut × EH)
abbrev EPure := FuncId → List AV → Option AV

section
variable (c : EC) (call : ECall) (pure : EPure)
def fnOf (args : List AV) : AV → Option (FuncId × List AV)
  | .fn (.func f) first cap => some (f, first ++ args ++ cap)
  | _ => none
/-- An operation of a region without a drawn order. -/
def estep (bx : Bool) (o : Oper) (s : Tr) (h : EH) (k : Tr → EH → ERun) : ERun :=
  match eop c.te bx s.get h o.op with
  | .val v h' => (match putT s o.dst v with | some s' => k s' h' | none => none)
  | .call f args => (match fnOf args f with
    | some (g, a) => (match call g a h with
      | some (.ret v, h') => (match putT s o.dst v with | some s' => k s' h' | none => none)
      | some (.panic v, h') => some (.panic v, s, h')
      | none => none)
    | none => none)
  | .meth t name v args => (match c.meth t name with
    | some g => (match call g (v :: args) h with
      | some (.ret v, h') => (match putT s o.dst v with | some s' => k s' h' | none => none)
      | some (.panic v, h') => some (.panic v, s, h')
      | none => none)
    | none => none)
  | .panic v => some (.panic v, s, h)
  | .bad => none
def elist (N : Nat) (bx : Bool) (dsts : List (Option Nat)) : List Oper → Tr → EH → ERun
  | [], s, h => some (.normal, s, h)
  | o :: rest, s, h => bif dstOk N o.dst then (match o.guard with
    | none => estep c call bx o s h (elist N bx dsts rest)
    | some (j, want) => (match gval dsts s.get j with
      | .bool b => bif b == want then estep c call bx o s h (elist N bx dsts rest) else (match putT s o.dst undefA with | some s' => elist N bx dsts rest s' h | none => none)
      | .opt false _ => (match putT s o.dst undefA with | some s' => elist N bx dsts rest s' h | none => none)
      | _ => none)) else none
/-- The calls of a region that are handed a row to append to. -/
def eacts : Nat → List Oper → List Nat
  | _, [] => []
  | i, o :: l => (match o.op with
    | .call ⟨.value (.func f), _, _⟩ => bif c.row f then i :: eacts (i + 1) l else eacts (i + 1) l
    | _ => eacts (i + 1) l)
/-- An operation of a region whose order is drawn. -/
def edstep (cl : Nat) (o : Oper) (s : Tr) (h : EH) (k : Tr → EH → Option (Tr × EH)) : Option (Tr × EH) :=
  match eop c.te false s.get h o.op with
  | .val v h' => bif Nat.beq h'.nb h.nb || !(Nat.beq cl 0) then (match putT s o.dst v with | some s' => k s' h' | none => none) else none
  | .call f args => bif Nat.beq cl 0 then (match fnOf args f with
    | some (g, a) => (match pure g a with
      | some v => (match putT s o.dst v with | some s' => k s' h | none => none)
      | none => none)
    | none => none) else bif Nat.beq cl 1 then (match fnOf args f with
    | some (g, a) => (match c.rowk g a h with
      | some (v, h') => (match putT s o.dst v with | some s' => k s' h' | none => none)
      | none => none)
    | none => none) else none
  | _ => none
def edraw (N : Nat) (dsts : List (Option Nat)) (acts : List Nat) : Nat → List Oper → Tr → EH → Option (Tr × EH)
  | _, [], s, h => some (s, h)
  | i, o :: rest, s, h => bif dstOk N o.dst then (match o.guard with
    | none => edstep c pure (cls acts i o.op) o s h (edraw N dsts acts (i + 1) rest)
    | some (j, want) => (match gval dsts s.get j with
      | .bool b => bif b == want then edstep c pure (cls acts i o.op) o s h (edraw N dsts acts (i + 1) rest) else (match putT s o.dst undefA with | some s' => edraw N dsts acts (i + 1) rest s' h | none => none)
      | .opt false _ => (match putT s o.dst undefA with | some s' => edraw N dsts acts (i + 1) rest s' h | none => none)
      | _ => none)) else none
def eloop (body : Tr → EH → ERun) : Nat → Tr → EH → ERun
  | 0, _, _ => none
  | n + 1, s, h => (match body s h with
    | some (.normal, s', h') => eloop body n s' h'
    | r => r)
def ecode (N : Nat) (bx : Bool) : Code → Tr → EH → ERun
  | .skip, s, h => some (.normal, s, h)
  | .region _ ops draw, s, h => bif draw then (bif chainOk (ops.toList.map (·.dst)) (eacts c 0 ops.toList) 0 ops.toList then (match edraw c pure N (ops.toList.map (·.dst)) (eacts c 0 ops.toList) 0 ops.toList s h with
    | some (s', h') => some (.normal, s', h')
    | none => none) else none) else elist c call N bx (ops.toList.map (·.dst)) ops.toList s h
  | .seq a b, s, h => (match ecode N bx a s h with
    | some (.normal, s', h') => ecode N bx b s' h'
    | r => r)
  | .cond x a b, s, h => (match ev s.get x with
    | .bool t => bif t then ecode N bx a s h else ecode N bx b s h
    | _ => none)
  | .block id a, s, h => (match ecode N bx a s h with
    | some (.exit i, s', h') => bif Nat.beq i id then some (.normal, s', h') else some (.exit i, s', h')
    | r => r)
  | .loop a, s, h => eloop (ecode N bx a) c.lim s h
  | .exit id, s, h => some (.exit id, s, h)
  | .ret, s, h => some (.ret, s, h)
  | _, _, _ => none
end

def eends (te : TE) (rs : List ResultVar) : ERun → Option (AOut × EH)
  | some (.normal, s, h) => (match aresL te s.get h.ah rs with | some vs => some (.ret (atup vs), h) | none => none)
  | some (.ret, s, h) => (match aresL te s.get h.ah rs with | some vs => some (.ret (atup vs), h) | none => none)
  | some (.panic v, _, h) => some (.panic v, h)
  | _ => none
/-- A call looked at apart. -/
def eapart (r : Option (AOut × EH)) : Option AOut := match r with
  | some (out, h) => (match thawO h.ah 1000 out with
    | some out' => bif out'.under 0 0 then some out' else none
    | none => none)
  | none => none
def ecaught (inpl : ECall) (args : List AV) (h : EH) : Option (AOut × EH) := match args with
  | [.fn (.func g) first cap] => (match inpl g (first ++ [] ++ cap) (h.new [.bool false]) with
    | some (.ret _, h2) => (match h2.ah.box h.nb with
      | some [.bool false] => some (.ret (.bool true), h2.set h.nb [.bool true])
      | _ => none)
    | _ => none)
  | _ => none
def esel (c : EC) (inpl : ECall) : ECall := fun f args h => match c.ext f args with
  | some v => some (.ret v, h)
  | none => bif c.caught f then ecaught inpl args h else bif !c.inl f && AV.underL 0 0 args then (match eapart (inpl f args EH.none) with | some out => some (out, h) | none => none) else inpl f args h
def epure (c : EC) (inpl : ECall) : EPure := fun f args => match c.ext f args with
  | some v => some v
  | none => bif AV.underL 0 0 args then (match eapart (inpl f args EH.none) with | some (.ret v) => some v | _ => none) else none
def erun (c : EC) : Nat → ECall
  | 0, _, _, _ => none
  | d + 1, f, args, h => (match c.P.funcs[f]? with
    | some fn => (match fn.body with
      | some b => bif Nat.ble args.length fn.ntmps then (match slotsT args 0 .leaf with
        | some s => eends c.te fn.results.toList (ecode c (esel c (erun c d)) (epure c (erun c d)) fn.ntmps (c.bx f) b s h)
        | none => none) else none
      | none => none)
    | none => none)

/-! That this is what the code does. -/
def CallOk (c : EC) (call : ECall) : Prop := ∀ f args h out h', call f args h = some (out, h') → ∀ R, R out h'.ah → ACallF c.P f args h.ah R
def PureOk (c : EC) (pure : EPure) : Prop := ∀ f args v, pure f args = some v → ∀ h R, R (.ret v) h → ACallF c.P f args h R
def KOk (c : EC) (N : Nat) (k : Tr → EH → ERun) (K : AK) : Prop := ∀ s h x s' h', k s h = some (x, s', h') → ∀ Q : AQ, Q x s'.get h'.ah → K s.get h.ah Q
section
variable {c : EC} {call : ECall} {pure : EPure}
theorem estep_ok (hcall : CallOk c call) (hm : ∀ t name f, c.meth t name = some f → AMeth c.P t name f) {N : Nat} {bx : Bool} {o : Oper} {k : Tr → EH → ERun} {K : AK} (hk : KOk c N k K) {s s' : Tr} {h h' : EH} {x : AEx} (he : estep c call bx o s h k = some (x, s', h')) {Q : AQ} (hq : Q x s'.get h'.ah) :
    opk c.P (aop c.te s.get h.ah o.op) o.dst s.get h.ah K Q := by
  unfold estep at he
  have hput : ∀ {v : AV} {h1 : EH}, (match putT s o.dst v with | some s' => k s' h1 | none => none) = some (x, s', h') → K (putD s.get o.dst v) h1.ah Q := by
    intro v h1 hp
    split at hp
    · next s1 hs1 => rw [← putT_get hs1]; exact hk _ _ _ _ _ hp Q hq
    · cases hp
  have hc : ∀ {g : FuncId} {a : List AV}, (match call g a h with
      | some (.ret v, h') => (match putT s o.dst v with | some s' => k s' h' | none => none)
      | some (.panic v, h') => some (.panic v, s, h')
      | none => none) = some (x, s', h') → ACallF c.P g a h.ah (callK o.dst s.get K Q) := by
    intro g a hp
    split at hp
    · next v h1 hcl => exact hcall _ _ _ _ _ hcl _ (hput hp)
    · next v h1 hcl =>
      injection hp with hp; injection hp with e1 e2; injection e2 with e2 e3; subst e1 e2 e3
      exact hcall _ _ _ _ _ hcl _ hq
    · cases hp
  split at he
  · next v h1 hv => exact eop_val hv (hput he)
  · next f args hv =>
    rw [eop_call hv, opk_call]
    split at he
    · next g a hf =>
      unfold fnOf at hf
      split at hf
      · injection hf with hf; injection hf with e1 e2; subst e1 e2
        exact hc he
      · cases hf
    · cases he
  · next t name v args hv =>
    rw [eop_meth hv, opk_meth]
    split at he
    · next g hg => exact ⟨g, hm _ _ _ hg, hc he⟩
    · cases he
  · next v hv =>
    rw [eop_panic hv, opk_panic]
    injection he with he; injection he with e1 e2; injection e2 with e2 e3; subst e1 e2 e3
    exact hq
  · cases he
theorem elist_ok (hcall : CallOk c call) (hm : ∀ t name f, c.meth t name = some f → AMeth c.P t name f) {N : Nat} {bx : Bool} {dsts : List (Option Nat)} : ∀ (l : List Oper), KOk c N (elist c call N bx dsts l) (alist c.P c.te N [] dsts l) := by
  intro l
  induction l with
  | nil =>
    intro s h x s' h' he Q hq
    simp only [elist] at he
    injection he with he; injection he with e1 e2; injection e2 with e2 e3; subst e1 e2 e3
    exact hq
  | cons o rest ih =>
    intro s h x s' h' he Q hq
    simp only [elist] at he
    cases hd : dstOk N o.dst with
    | false => rw [hd] at he; cases he
    | true =>
      rw [hd, cond_true] at he
      refine ⟨hd, ?_⟩
      have hskip : (match putT s o.dst undefA with | some s' => elist c call N bx dsts rest s' h | none => none) = some (x, s', h') → alist c.P c.te N [] dsts rest (putD s.get o.dst undefA) h.ah Q := by
        intro hp
        split at hp
        · next s1 hs1 => rw [← putT_get hs1]; exact ih _ _ _ _ _ hp Q hq
        · cases hp
      have hnl : inLz [] o.dst = false := by cases o.dst <;> rfl
      cases hg : o.guard with
      | none => rw [hg] at he; exact estep_ok hcall hm ih he hq
      | some g =>
        obtain ⟨j, want⟩ := g
        rw [hg] at he
        simp only [hnl, Bool.false_eq_true, if_false]
        simp only at he
        unfold gk
        split at he
        · next b hb =>
          rw [hb]
          simp only
          by_cases e : b = want
          · subst e
            rw [if_pos rfl]
            rw [beq_self_eq_true, cond_true] at he
            exact estep_ok hcall hm ih he hq
          · rw [if_neg e]
            rw [beq_eq_false_iff_ne.2 e, cond_false] at he
            exact hskip he
        · next v hb => rw [hb]; exact hskip he
        · cases he
theorem edstep_ok (hrow : RowkOk c.P c.rowk) (hpure : PureOk c pure) {acts : List Nat} {i : Nat} {o : Oper} {k : Tr → EH → Option (Tr × EH)} {K : AV → AH → Prop} {s : Tr} {h : EH} {r : Tr × EH} (he : edstep c pure (cls acts i o.op) o s h k = some r)
    (hk : ∀ v s1 (h1 : EH), putT s o.dst v = some s1 → k s1 h1 = some r → K v h1.ah) : skR c.P none (cls acts i o.op) h.ah (aop c.te s.get h.ah o.op) K := by
  unfold edstep at he
  split at he
  · next v h1 hv =>
    cases hnb : (Nat.beq h1.nb h.nb || !(Nat.beq (cls acts i o.op) 0)) with
    | false => rw [hnb] at he; cases he
    | true =>
    rw [hnb, cond_true] at he
    split at he
    · next s1 hs1 =>
      have hK := hk v s1 h1 hs1 he
      have hcl : clsOk none (cls acts i o.op) h.ah h1.ah := by
        have h1' : cls acts i o.op = 1 → h1.ah.box = h.ah.box := fun hc => eop_one hc hv
        have h0' : cls acts i o.op = 0 → h1.ah = h.ah := fun hc => by
          have hn : h1.nb = h.nb := by
            rw [hc] at hnb
            simp only [Bool.or_eq_true, Bool.not_eq_true', Nat.beq_eq] at hnb
            rcases hnb with e | e
            · exact e
            · cases e
          rw [eop_zero hc hv hn]
        generalize cls acts i o.op = cc at h1' h0' ⊢
        unfold clsOk
        split
        · exact h0' rfl
        · exact h1' rfl
        · exact EH.fresh h
        · trivial
      rcases eop_go hv with g | ⟨g, e⟩ | ⟨h0, n, sz, cells, g, _⟩ | ⟨hb, _⟩
      · rw [g]; exact ⟨hcl, hK⟩
      · rw [g]; subst e; exact ⟨rfl, hcl, hK⟩
      · rw [g]; exact ⟨hcl, hK⟩
      · cases hb
    · cases he
  · next f args hv =>
    rw [eop_call hv]
    cases hb : Nat.beq (cls acts i o.op) 0 with
    | false =>
      rw [hb, cond_false] at he
      cases hb1 : Nat.beq (cls acts i o.op) 1 with
      | false => rw [hb1] at he; cases he
      | true =>
        have hc1 : cls acts i o.op = 1 := Nat.eq_of_beq_eq_true hb1
        rw [hb1, cond_true] at he
        rw [hc1]
        split at he
        · next g a hf =>
          unfold fnOf at hf
          split at hf
          · injection hf with hf; injection hf with e1 e2; subst e1 e2
            split at he
            · next v h1 hv =>
              split at he
              · next s1 hs1 =>
                obtain ⟨q1, q2⟩ := hrow _ _ _ _ _ hv
                exact ⟨v, h1.ah, q2, q1, hk v s1 h1 hs1 he⟩
              · cases he
            · cases he
          · cases hf
        · cases he
    | true =>
      have hc0 : cls acts i o.op = 0 := Nat.eq_of_beq_eq_true hb
      rw [hb, cond_true] at he
      rw [hc0]
      split at he
      · next g a hf =>
        unfold fnOf at hf
        split at hf
        · injection hf with hf; injection hf with e1 e2; subst e1 e2
          split at he
          · next v hv =>
            split at he
            · next s1 hs1 => exact ⟨v, fun h2 => hpure _ _ _ hv h2 _ ⟨rfl, rfl⟩, hk v s1 h hs1 he⟩
            · cases he
          · cases he
        · cases hf
      · cases he
  · cases he
theorem edraw_ok (hrow : RowkOk c.P c.rowk) (hpure : PureOk c pure) {N : Nat} {dsts : List (Option Nat)} {acts : List Nat} : ∀ (l : List Oper) (i : Nat) (s s' : Tr) (h h' : EH), edraw c pure N dsts acts i l s h = some (s', h') → ∀ K : AS → AH → Prop, K s'.get h'.ah → aseq c.P c.te N dsts none acts i l s.get h.ah K := by
  intro l
  induction l with
  | nil =>
    intro i s s' h h' he K hK
    simp only [edraw] at he
    injection he with he; injection he with e1 e2; subst e1 e2
    exact hK
  | cons o rest ih =>
    intro i s s' h h' he K hK
    simp only [edraw] at he
    cases hd : dstOk N o.dst with
    | false => rw [hd] at he; cases he
    | true =>
      rw [hd, cond_true] at he
      refine ⟨hd, trivial, ?_⟩
      have hk : ∀ v s1 (h1 : EH), putT s o.dst v = some s1 → edraw c pure N dsts acts (i + 1) rest s1 h1 = some (s', h') → aseq c.P c.te N dsts none acts (i + 1) rest (putD s.get o.dst v) h1.ah K := by
        intro v s1 h1 hs1 he1
        rw [← putT_get hs1]
        exact ih _ _ _ _ _ he1 K hK
      have hskip : (match putT s o.dst undefA with | some s' => edraw c pure N dsts acts (i + 1) rest s' h | none => none) = some (s', h') → aseq c.P c.te N dsts none acts (i + 1) rest (putD s.get o.dst undefA) h.ah K := by
        intro hp
        split at hp
        · next s1 hs1 => exact hk _ _ _ hs1 hp
        · cases hp
      unfold sg
      cases hg : o.guard with
      | none => rw [hg] at he; exact edstep_ok hrow hpure he hk
      | some g =>
        obtain ⟨j, want⟩ := g
        rw [hg] at he
        simp only at he ⊢
        split at he
        · next b hb =>
          rw [hb]
          simp only
          by_cases e : b = want
          · subst e
            rw [if_pos rfl]
            rw [beq_self_eq_true, cond_true] at he
            exact edstep_ok hrow hpure he hk
          · rw [if_neg e]
            rw [beq_eq_false_iff_ne.2 e, cond_false] at he
            exact hskip he
        · next v hb => rw [hb]; exact hskip he
        · cases he
theorem eloop_ok {N : Nat} {body : Tr → EH → ERun} {K : AK} (hb : KOk c N body K) : ∀ n, KOk c N (eloop body n) (fun s h Q => ALoop K s h Q) := by
  intro n s h x s' h' he Q hq
  refine ⟨fun m s1 h1 => ∃ (t1 : Tr) (e1 : EH), s1 = t1.get ∧ h1 = e1.ah ∧ eloop body m t1 e1 = some (x, s', h'), ⟨n, s, h, rfl, rfl, he⟩, ?_⟩
  rintro m s1 h1 ⟨t1, e1, rfl, rfl, hl⟩
  cases m with
  | zero => simp [eloop] at hl
  | succ m =>
    simp only [eloop] at hl
    cases hr : body t1 e1 with
    | none => rw [hr] at hl; cases hl
    | some r =>
      obtain ⟨y, t2, e2⟩ := r
      rw [hr] at hl
      refine hb t1 e1 y t2 e2 hr _ ?_
      cases y with
      | normal => exact ⟨m, Nat.lt_succ_self _, t2, e2, rfl, rfl, hl⟩
      | _ =>
        simp only at hl
        injection hl with hl; injection hl with a1 a2; injection a2 with a2 a3; subst a1 a2 a3
        exact hq
theorem ecode_ok (hC : c.Ok) (hcall : CallOk c call) (hpure : PureOk c pure) {N : Nat} {bx : Bool} : ∀ (b : Code), KOk c N (ecode c call pure N bx b) (acode c.P c.te N [] b) := by
  have hte := hC.te
  intro b
  induction b with
  | skip =>
    intro s h x s' h' he Q hq
    simp only [ecode] at he
    injection he with he; injection he with e1 e2; injection e2 with e2 e3; subst e1 e2 e3
    exact hq
  | region id ops draw =>
    intro s h x s' h' he Q hq
    simp only [ecode] at he
    cases draw with
    | false =>
      simp only [cond_false] at he
      exact elist_ok hcall hC.meth ops.toList s h x s' h' he Q hq
    | true =>
      simp only [cond_true] at he
      cases hch : chainOk (ops.toList.map (·.dst)) (eacts c 0 ops.toList) 0 ops.toList with
      | false => rw [hch] at he; cases he
      | true =>
        rw [hch, cond_true] at he
        split at he
        · next s1 h1 hd =>
          injection he with he; injection he with e1 e2; injection e2 with e2 e3; subst e1 e2 e3
          exact acode_draw_chain hte hC.mixed (eacts c 0 ops.toList) hch (edraw_ok hC.rowk hpure _ _ _ _ _ _ hd _ hq)
        · cases he
  | seq a b iha ihb =>
    intro s h x s' h' he Q hq
    simp only [ecode] at he
    rw [acode_seq]
    cases hr : ecode c call pure N bx a s h with
    | none => rw [hr] at he; cases he
    | some r =>
      obtain ⟨y, t2, e2⟩ := r
      rw [hr] at he
      refine iha s h y t2 e2 hr _ ?_
      cases y with
      | normal => exact ihb _ _ _ _ _ he Q hq
      | _ =>
        simp only at he
        injection he with he; injection he with a1 a2; injection a2 with a2 a3; subst a1 a2 a3
        exact hq
  | cond v a b iha ihb =>
    intro s h x s' h' he Q hq
    simp only [ecode] at he
    rw [acode_cond]
    unfold ck
    split at he
    · next t ht =>
      rw [ht]
      cases t with
      | true => simp only [if_true]; exact iha _ _ _ _ _ he Q hq
      | false => simp only [Bool.false_eq_true, if_false]; exact ihb _ _ _ _ _ he Q hq
    · cases he
  | block id a ih =>
    intro s h x s' h' he Q hq
    simp only [ecode] at he
    rw [acode_block]
    cases hr : ecode c call pure N bx a s h with
    | none => rw [hr] at he; cases he
    | some r =>
      obtain ⟨y, t2, e2⟩ := r
      rw [hr] at he
      refine ih s h y t2 e2 hr _ ?_
      cases y with
      | exit i =>
        simp only at he
        show (if i = id then Q .normal t2.get e2.ah else Q (.exit i) t2.get e2.ah)
        cases hb : Nat.beq i id with
        | true =>
          rw [hb, cond_true] at he
          injection he with he; injection he with a1 a2; injection a2 with a2 a3; subst a1 a2 a3
          rw [if_pos (Nat.eq_of_beq_eq_true hb)]; exact hq
        | false =>
          rw [hb, cond_false] at he
          injection he with he; injection he with a1 a2; injection a2 with a2 a3; subst a1 a2 a3
          rw [if_neg (Nat.ne_of_beq_eq_false hb)]; exact hq
      | _ =>
        simp only at he
        injection he with he; injection he with a1 a2; injection a2 with a2 a3; subst a1 a2 a3
        exact hq
  | loop a ih => intro s h x s' h' he Q hq; exact eloop_ok ih c.lim s h x s' h' he Q hq
  | exit id =>
    intro s h x s' h' he Q hq
    simp only [ecode] at he
    injection he with he; injection he with e1 e2; injection e2 with e2 e3; subst e1 e2 e3
    exact hq
  | ret =>
    intro s h x s' h' he Q hq
    simp only [ecode] at he
    injection he with he; injection he with e1 e2; injection e2 with e2 e3; subst e1 e2 e3
    exact hq
  | rangeFunc f ps x y _ _ => intro s h x s' h' he; simp [ecode] at he
  | scope a _ => intro s h x s' h' he; simp [ecode] at he
  | label l => intro s h x s' h' he; simp [ecode] at he
  | goto l => intro s h x s' h' he; simp [ecode] at he
  | refuse w => intro s h x s' h' he; simp [ecode] at he

theorem eapart_ok {c : EC} (hC : c.Ok) {f : FuncId} {args : List AV} {r : AOut × EH} {out' : AOut} (hu : AV.underL 0 0 args = true) (hr : ∀ R : AOut → AH → Prop, R r.1 r.2.ah → ACalls c.P f args AH.none R) (he : eapart (some r) = some out') (h : AH) :
    ACalls c.P f args h fun out h' => h' = h ∧ out = out' := by
  obtain ⟨out, e⟩ := r
  simp only [eapart] at he
  split at he
  · next o2 ho =>
    cases hu2 : o2.under 0 0 with
    | false => rw [hu2] at he; cases he
    | true =>
      rw [hu2] at he
      injection he with he; subst he
      have := hr (fun o h2 => o = out ∧ h2 = e.ah) ⟨rfl, rfl⟩
      exact this.apart (R' := fun o => o = o2) hu (by
        rintro o h2 ⟨rfl, rfl⟩
        exact ⟨o2, .thaw ho, hu2, rfl⟩) h
  · cases he
theorem erun_ok {c : EC} (hC : c.Ok) : ∀ (d : Nat) (f : FuncId) (args : List AV) (h : EH) (out : AOut) (h' : EH), erun c d f args h = some (out, h') → FOk c.P f ∧ ∀ R : AOut → AH → Prop, R out h'.ah → ACalls c.P f args h.ah R := by
  intro d
  induction d with
  | zero => intro f args h out h' he; simp [erun] at he
  | succ d ih =>
    have hcall : CallOk c (esel c (erun c d)) := by
      intro f args h out h' he R hR
      unfold esel at he
      split at he
      · next v hv =>
        injection he with he; injection he with e1 e2; subst e1 e2
        exact hC.ext f args v hv _ _ hR
      · cases hct : c.caught f with
        | true =>
        rw [hct, cond_true] at he
        obtain ⟨q1, q2⟩ := hC.caught f hct
        unfold ecaught at he
        split at he
        · next g first cap _ =>
          split at he
          · next v h2 hg =>
            split at he
            · next hbx =>
              injection he with he; injection he with e1 e2; subst e1 e2
              obtain ⟨g1, g2⟩ := ih g _ _ _ _ hg
              refine .inl ⟨q1, q2 g first cap h.ah R g1 ?_⟩
              rw [EH.new_ah] at g2
              exact g2 _ ⟨⟨v, rfl⟩, hbx, by rw [EH.set_ah hbx] at hR; exact hR⟩
            · cases he
          · cases he
        · cases he
        | false =>
        rw [hct, cond_false] at he
        cases hb : (!c.inl f && AV.underL 0 0 args) with
        | false =>
          rw [hb, cond_false] at he
          obtain ⟨h1, h2⟩ := ih f args h out h' he
          exact .inl ⟨h1, h2 R hR⟩
        | true =>
          rw [hb, cond_true] at he
          simp only [Bool.and_eq_true] at hb
          split at he
          · next o2 ho2 =>
            injection he with he; injection he with e1 e2; subst e1 e2
            cases hr : erun c d f args EH.none with
            | none => rw [hr] at ho2; cases ho2
            | some r =>
              rw [hr] at ho2
              obtain ⟨ra, rb⟩ := r
              obtain ⟨h1, h2⟩ := ih f args EH.none ra rb hr
              rw [EH.none_ah] at h2
              refine .inl ⟨h1, (eapart_ok hC hb.2 h2 ho2 h.ah).mono ?_⟩
              rintro o h3 ⟨rfl, rfl⟩
              exact hR
          · cases he
    have hpure : PureOk c (epure c (erun c d)) := by
      intro f args v he h R hR
      unfold epure at he
      split at he
      · next v2 hv =>
        injection he with he; subst he
        exact hC.ext f args v2 hv _ _ hR
      · cases hb : AV.underL 0 0 args with
        | false => rw [hb] at he; cases he
        | true =>
          rw [hb, cond_true] at he
          split at he
          · next v2 ho2 =>
            injection he with he; subst he
            cases hr : erun c d f args EH.none with
            | none => rw [hr] at ho2; cases ho2
            | some r =>
              rw [hr] at ho2
              obtain ⟨ra, rb⟩ := r
              obtain ⟨h1, h2⟩ := ih f args EH.none ra rb hr
              rw [EH.none_ah] at h2
              refine .inl ⟨h1, (eapart_ok hC hb h2 ho2 h).mono ?_⟩
              rintro o h3 ⟨rfl, rfl⟩
              exact hR
          · cases he
    intro f args h out h' he
    simp only [erun] at he
    split at he
    · next fn hfn =>
      split at he
      · next b hb =>
        cases hn : Nat.ble args.length fn.ntmps with
        | false => rw [hn] at he; cases he
        | true =>
          rw [hn, cond_true] at he
          split at he
          · next s hs =>
            refine ⟨⟨fn, hfn, by rw [hb]; rfl, hC.names f fn hfn⟩, fun R hR => ?_⟩
            refine acalls_of hC.te [] hfn hb (Nat.le_of_ble_eq_true hn) ?_
            rw [← slotsT_slots hs]
            cases hr : ecode c (esel c (erun c d)) (epure c (erun c d)) fn.ntmps (c.bx f) b s h with
            | none => rw [hr] at he; cases he
            | some r =>
              obtain ⟨y, t2, e2⟩ := r
              rw [hr] at he
              refine ecode_ok hC hcall hpure b s h y t2 e2 hr _ ?_
              cases y <;> simp only [eends] at he <;> first
                | (cases he; done)
                | skip
              · split at he
                · next vs hvs =>
                  injection he with he; injection he with a1 a2; subst a1 a2
                  rw [retQ_normal, hvs]; exact hR
                · cases he
              · split at he
                · next vs hvs =>
                  injection he with he; injection he with a1 a2; subst a1 a2
                  rw [retQ_ret, hvs]; exact hR
                · cases he
              · injection he with he; injection he with a1 a2; subst a1 a2
                rw [retQ_panic]; exact hR
          · cases he
      · cases he
    · cases he
theorem ACallF.ofPure {P : Program} {f : FuncId} {args : List AV} {v : AV} {h : AH} {R : AOut → AH → Prop} (hp : Pure P f args v) (hR : R (.ret v) h) : ACallF P f args h R :=
  .inl ⟨hp.ok, (hp.calls h).mono (by rintro out h' ⟨rfl, rfl⟩; exact hR)⟩
/-- A call that is run with an answer. -/
theorem erun_pure {c : EC} (hC : c.Ok) {d : Nat} {f : FuncId} {args : List AV} {v : AV} (hu : AV.underL 0 0 args = true) (he : eapart (erun c d f args EH.none) = some (.ret v)) : Pure c.P f args v := by
  cases hr : erun c d f args EH.none with
  | none => rw [hr] at he; cases he
  | some r =>
    rw [hr] at he
    obtain ⟨ra, rb⟩ := r
    obtain ⟨h1, h2⟩ := erun_ok hC d f args EH.none ra rb hr
    rw [EH.none_ah] at h2
    exact ⟨h1, fun h => (eapart_ok hC hu h2 he h).mono (fun o h3 ⟨a, b⟩ => ⟨b, a⟩)⟩
end
end Go.Proofs.YtjdocenbfghglaaGreatDoor.AW
