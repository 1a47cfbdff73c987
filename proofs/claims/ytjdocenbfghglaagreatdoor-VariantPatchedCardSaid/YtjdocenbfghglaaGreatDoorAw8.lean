/- AW, part 8: what a call, a list of operations and code come to, and the laws of that. -/
import Derived.Test.YtjdocenbfghglaaGreatDoorAw7
set_option linter.unusedSimpArgs false
set_option linter.unusedVariables false
namespace Go.Proofs.YtjdocenbfghglaaGreatDoor.AW
open Go Go.RowKit

inductive AEx where
  | normal
  | exit (id : Nat)
  | goto (l : Nat)
  | ret
  | panic (v : AV)
abbrev AQ := AEx → AS → AH → Prop
inductive AOut where
  | ret (v : AV)
  | panic (v : AV)

def exRel (m : Mem) : AEx → Exit → Prop
  | .normal, .normal => True
  | .exit i, .exit j => i = j
  | .goto i, .goto j => i = j
  | .ret, .ret => True
  | .panic v, .panic chain => ∃ c, chain = [{ v := c, recovered := false }] ∧ VR m v c
  | _, _ => False
def outRel (m : Mem) : AOut → Ending → Prop
  | .ret v, .returned c => VR m v c
  | .panic v, .panicked chain => ∃ c, chain = [{ v := c, recovered := false }] ∧ VR m v c
  | _, _ => False

def CPost (w0 : Base) (N : Nat) (m0 : Mem) (Q : AQ) : Exit → Act → World → Prop :=
  fun e a w => ∃ m s h x, m0.le m ∧ exRel m x e ∧ SR m N s a ∧ WR w0 m w h ∧ Q x s h
theorem CPost.mono {w0 : Base} {N : Nat} {m0 m1 : Mem} {Q Q' : AQ} (hm : m0.le m1) (hq : ∀ x s h, Q x s h → Q' x s h) {e : Exit} {a : Act} {w : World} (h : CPost w0 N m1 Q e a w) : CPost w0 N m0 Q' e a w := by
  obtain ⟨m, s, hh, x, h1, h2, h3, h4, h5⟩ := h
  exact ⟨m, s, hh, x, hm.trans h1, h2, h3, h4, hq _ _ _ h5⟩

def ACode (P : Program) (N : Nat) (c : Code) (s : AS) (h : AH) (Q : AQ) : Prop :=
  ∀ w0 m a w, SR m N s a → WR w0 m w h → c.wp P (CPost w0 N m Q) a w
/-- A call: whatever the world is like that the abstract heap tells of, the call ends as R says. -/
def ACalls (P : Program) (f : FuncId) (args : List AV) (h : AH) (R : AOut → AH → Prop) : Prop :=
  ∀ w0 m w (args' : Array Value), args'.size = args.length → (∀ (i : Nat) (c : AV), args[i]? = some c → VR m c (args'.getD i undef)) → WR w0 m w h →
    Calls P f args' w fun e w' => ∃ m' out h', m.le m' ∧ outRel m' out e ∧ WR w0 m' w' h' ∧ R out h'
theorem ACalls.mono {P : Program} {f : FuncId} {args : List AV} {h : AH} {R R' : AOut → AH → Prop} (hc : ACalls P f args h R) (hr : ∀ out h', R out h' → R' out h') : ACalls P f args h R' :=
  fun w0 m w args' h1 h2 h3 => (hc w0 m w args' h1 h2 h3).mono fun e w' ⟨m', out, h', q1, q2, q3, q4⟩ => ⟨m', out, h', q1, q2, q3, hr _ _ q4⟩
/-- A call of a function without a body, which only computes. -/
def AExt (P : Program) (f : FuncId) (args : List AV) (h : AH) (R : AOut → AH → Prop) : Prop :=
  ∃ v, (∀ (w0 : Base) (m : Mem) (w : World) (args' : Array Value), args'.size = args.length → (∀ (i : Nat) (c : AV), args[i]? = some c → VR m c (args'.getD i undef)) → WR w0 m w h → ∃ v', (callFunc f args').run P w = .ok (.value v') w ∧ VR m v v') ∧ R (.ret v) h
/-- A call of a function. -/
def ACallF (P : Program) (f : FuncId) (args : List AV) (h : AH) (R : AOut → AH → Prop) : Prop :=
  ((∃ fn, P.funcs[f]? = some fn ∧ fn.body.isSome = true ∧ (fn.name == "runtime.NumGoroutine") = false) ∧ ACalls P f args h R) ∨ AExt P f args h R
/-- A call of a function's value. -/
def ACallV (P : Program) (fv : AV) (args : List AV) (h : AH) (R : AOut → AH → Prop) : Prop :=
  match fv with
  | .fn (.func f) first cap => ACallF P f (first ++ args ++ cap) h R
  | _ => False
/-- A method of a type, whose receiver is the value itself. -/
def AMeth (P : Program) (t : TypeId) (name : String) (f : FuncId) : Prop := ∀ v w, (method (P.types.size + Made.depth) t v name).run P w = .ok (f, v) w
theorem ACallF.mono {P : Program} {f : FuncId} {args : List AV} {h : AH} {R R' : AOut → AH → Prop} (hr : ∀ out h', R out h' → R' out h') (hc : ACallF P f args h R) : ACallF P f args h R' := by
  rcases hc with ⟨h1, h2⟩ | ⟨v, h1, h2⟩
  · exact .inl ⟨h1, h2.mono hr⟩
  · exact .inr ⟨v, h1, hr _ _ h2⟩

def dstOk (N : Nat) : Option Nat → Bool
  | some d => decide (d < N)
  | none => true
def putD (s : AS) (d : Option Nat) (v : AV) : AS := match d with | some d => upd s d v | none => s
theorem SR.putD {m : Mem} {N : Nat} {s : AS} {a : Act} (h : SR m N s a) {d : Option Nat} (hd : dstOk N d = true) {v : AV} {v' : Value} (hv : VR m v v') : SR m N (putD s d v) (a.put d v') := by
  cases d with
  | none => exact h
  | some d => exact h.put (by simpa [dstOk] using hd) hv

/-- A value that is there only where b is true. -/
def unopt : AV → Bool × AV
  | .opt b v => (b, v)
  | v => (true, v)
def mkO (b : Bool) (v : AV) : AV := if b = true then v else .opt false v
theorem VR.unopt {m : Mem} {v : AV} {c : Value} (h : VR m v c) : (AW.unopt v).1 = true → VR m (AW.unopt v).2 c := by
  cases h <;> first
    | (rename_i h1 h2; intro hb; exact h1 hb)
    | (intro _; first | exact .int _ _ | exact .bool _ | exact .str _ | exact .nilp | exact .ptr _ _ _ ‹_› | exact .rptr _ _ _ _ ‹_› ‹_› | exact .slnil _ _ ‹_› | exact .slemp _ _ _ ‹_› ‹_› | exact .sl _ _ _ _ _ _ _ ‹_› ‹_› ‹_› ‹_› ‹_› ‹_› | exact .ms _ _ _ _ _ _ _ ‹_› ‹_› ‹_› ‹_› | exact .mc _ _ _ _ _ _ _ ‹_› ‹_› ‹_› ‹_› | exact .fn _ _ _ _ _ ‹_› ‹_› ‹_› ‹_› | exact .nilf | exact .iface _ _ _ ‹_› | exact .nili | exact .agg _ _ ‹_› ‹_› | exact .tup _ _ ‹_› ‹_› | exact .dead _)
theorem VR.unopt2 {m : Mem} {v : AV} {c : Value} (h : VR m v c) : (AW.unopt v).1 = false → c = undef := by
  cases h <;> first
    | (rename_i h1 h2; intro hb; exact h2 hb)
    | (intro hb; cases hb)
theorem VR.mkO {m : Mem} {b : Bool} {v : AV} {c : Value} (h : b = true → VR m v c) (h2 : b = false → c = undef) : VR m (AW.mkO b v) c := by
  unfold AW.mkO
  split
  · next hb => exact h hb
  · next hb => exact .opt _ _ _ (fun e => by cases e) (fun _ => h2 (by simpa using hb))
def pickV (c : Bool) : AV → AV → AV
  | .bool x, .bool y => .bool (bif c then x else y)
  | a, b => bif c then a else b
def apick (c : Bool) (a b : AV) : AV := mkO (bif c then (unopt a).1 else (unopt b).1) (pickV c (unopt a).2 (unopt b).2)
theorem pickV_vr {m : Mem} {c : Bool} {a b : AV} {a' b' : Value} (ha : c = true → VR m a a') (hb : c = false → VR m b b') : VR m (pickV c a b) (if c then a' else b') := by
  unfold pickV
  split
  · cases c with
    | true => obtain rfl := (ha rfl).bool_inv; exact .bool _
    | false => obtain rfl := (hb rfl).bool_inv; exact .bool _
  · cases c with
    | true => exact ha rfl
    | false => exact hb rfl
theorem apick_vr {m : Mem} {c : Bool} {a b : AV} {a' b' : Value} (ha : VR m a a') (hb : VR m b b') : VR m (apick c a b) (if c then a' else b') := by
  refine VR.mkO (fun h => pickV_vr (fun hc => ?_) (fun hc => ?_)) (fun h => ?_)
  · subst hc; exact ha.unopt h
  · subst hc; exact hb.unopt h
  · cases c with
    | true => exact ha.unopt2 h
    | false => exact hb.unopt2 h

/-- What an operation comes to. -/
inductive OpR where
  | go (v : AV) (h : AH)
  | call (f : AV) (args : List AV)
  | panic (v : AV)
  | two (v1 v2 : AV)
  | meth (t : Nat) (name : String) (v : AV) (args : List AV)
  | app (v : AV) (h' h : AH) (n sz : Nat) (cells : List AV)
  | bad

def alen (te : TE) (t : Nat) : AV → Option AV
  | .str s => match te t with | some i => (match i.k with | .str => some (.int .i64 s.size) | _ => none) | none => none
  | .sl _ _ xs => match te t with | some i => (match i.k with | .slice _ => some (.int .i64 xs.length) | _ => none) | none => none
  | .ms _ _ n _ => match te t with | some i => (match i.k with | .slice _ => some (.int .i64 n) | _ => none) | none => none
  | .mc _ _ n _ _ => match te t with | some i => (match i.k with | .slice _ => some (.int .i64 n) | _ => none) | none => none
  | _ => none
def aconv (te : TE) (src dst : Nat) (x : AV) : Option AV :=
  match te src, te dst, x with
  | some _, some i, .int _ n => (match i.k with | .int k => some (.int k (k.wrap n)) | _ => none)
  | some _, some i, .str s => (match i.k with | .str => some (.str s) | _ => none)
  | _, _, _ => none
def aiface (te : TE) (t : Nat) (x : AV) : Option AV :=
  match te t with
  | some i => (match i.k with | .iface => none | _ => some (.iface t x))
  | none => none
def agetField (te : TE) (t k : Nat) (x : AV) : Option AV :=
  match te t with
  | some i => (match i.k with
    | .struct fs => (match fs[k]? with
      | some (off, ft) => (match te ft, x with
        | some j, .agg cs => takeAs j (cs.drop off)
        | _, _ => none)
      | none => none)
    | _ => none)
  | none => none
def aindex (te : TE) (t : Nat) (x i : AV) : Option AV :=
  match te t with
  | some ti => (match ti.k, x, i with
    | .str, .str s, .int _ n => if 0 ≤ n then (match s[n.toNat]? with | some b => some (.int .u8 b.toNat) | none => none) else none
    | _, _, _ => none)
  | none => none
/-- x.(T) -/
def atype (te : TE) (t : Nat) (ok : Bool) (x : AV) : Option AV :=
  match te t with
  | some i => (match i.k, x with
    | .iface, .nili => if ok = true then some (.tup [i.av, .bool false]) else none
    | .iface, _ => none
    | _, .iface u v => if u = t then some (if ok = true then .tup [v, .bool true] else v) else if ok = true then some (.tup [i.av, .bool false]) else none
    | _, .nili => if ok = true then some (.tup [i.av, .bool false]) else none
    | _, _ => none)
  | none => none
def aun (op : UnOp) (x : AV) : Option AV :=
  match op, x with
  | .not, .bool b => some (.bool (!b))
  | .neg, .int k n => some (.int k (k.wrap (0 - n)))
  | _, _ => none
def anil : AV → Option AV
  | .ptr b o => some (.ptr b o)
  | .rptr cs => some (.rptr cs)
  | .fn (.func f) first cap => some (.fn (.func f) first cap)
  | _ => none
def anth : AV → Nat → Option AV
  | .tup vs, i => vs[i]?
  | _, _ => none

/-- The operations that only compute. -/
def apure (te : TE) (s : AS) (h : AH) : Op → Option AV
  | .move x => some (ev s x)
  | .assign x => some (ev s x)
  | .pick c a b => (match ev s c with | .bool c => some (apick c (ev s a) (ev s b)) | _ => none)
  | .build t parts => if (parts.toList.all fun p => !(ev s p.2).isDead) then abuild te t (parts.toList.map fun p => (p.1, ev s p.2)) else none
  | .load t a => aload te t (ev s a) h
  | .nilCheck x => anil (ev s x)
  | .binOp op _ x y _ => abin op (ev s x) (ev s y)
  | .unOp op _ x => aun op (ev s x)
  | .convert src dst x => aconv te src dst (ev s x)
  | .makeInterface t x => aiface te t (ev s x)
  | .makeFunc fn first cap => some (.fn fn (first.toList.map (ev s)) (cap.toList.map (ev s)))
  | .slice t x lo hi mx => aslice te t (ev s x) (lo.map (ev s)) (hi.map (ev s)) (mx.map (ev s))
  | .fieldAddr t x k => afield te t (ev s x) k
  | .field t x k => agetField te t k (ev s x)
  | .indexAddr t x i => aindexAddr te t (ev s x) (ev s i)
  | .index t x i => aindex te t (ev s x) (ev s i)
  | .extract x i => anth (ev s x) i
  | .typeAssert x _ t ok => atype te t ok (ev s x)
  | .call c => (match c.callee with
    | .builtin .len => (match c.args.toList, c.argTypes.toList with
      | [x], [t] => alen te t (ev s x)
      | _, _ => none)
    | _ => none)
  | _ => none

section
variable {P : Program} {te : TE} {w0 : Base} {w : World} {m : Mem} {h : AH} {N : Nat} {s : AS} {a : Act}
theorem vro_map (hS : SR m N s a) (x : Option Operand) : VRO m (x.map (ev s)) (x.map a.eval) := by
  cases x with
  | none => trivial
  | some x => exact hS.ev x
theorem map_rel (hS : SR m N s a) (xs : Array Operand) : (xs.map a.eval).size = (xs.toList.map (ev s)).length ∧ ∀ (i : Nat) (c : AV), (xs.toList.map (ev s))[i]? = some c → VR m c ((xs.map a.eval).getD i undef) := by
  refine ⟨by simp, fun i c hi => ?_⟩
  rw [List.getElem?_map] at hi
  cases hx : xs.toList[i]? with
  | none => rw [hx] at hi; cases hi
  | some x =>
    rw [hx] at hi; injection hi with hi; subst hi
    have hx' : xs[i]? = some x := by simpa using hx
    rw [Array.getD_eq_getD_getElem?, Array.getElem?_map, hx']
    exact hS.ev x
theorem tup2_vr {m : Mem} {a b : AV} {a' b' : Value} (h1 : VR m a a') (h2 : VR m b b') : VR m (.tup [a, b]) (.tuple #[a', b']) := by
  refine .tup _ _ rfl (fun i c hi => ?_)
  match i with
  | 0 => simp at hi; subst hi; exact h1
  | 1 => simp at hi; subst hi; exact h2
  | i + 2 => simp at hi
theorem atype_sound (hte : te.ok P) {t xt : Nat} {ok : Bool} {x v : AV} {x' : Value} (hx : VR m x x') (hv : atype te t ok x = some v) : ∃ v', (Instr.typeAssert x' xt t ok).run P w = .ok v' w ∧ VR m v v' := by
  unfold atype at hv
  split at hv
  case h_2 => cases hv
  next i hi =>
  obtain ⟨info, d, _, hd, hf, _, _⟩ := hte.info hi
  obtain ⟨z, hz0, hz1, _⟩ := hte.zero hi m
  have hu : (underlying t).run P w = .ok d w := run_underlying hd w
  split at hv
  · next hk =>
    rw [hk] at hf
    cases d <;> simp [AT.fits] at hf
    split at hv
    · next hok =>
      injection hv with hv; subst hv hok
      obtain rfl := hx.nili_inv
      refine ⟨.tuple #[z, .bool false], ?_, tup2_vr hz1 (.bool false)⟩
      simp [Instr.typeAssert, hu, hz0]
    · cases hv
  · cases hv
  · next _ u y hne =>
    obtain ⟨y', rfl, hy⟩ := hx.iface_inv
    have hd2 : ∀ ms, d ≠ .interface ms := by
      rintro ms rfl
      cases hk2 : i.k <;> rw [hk2] at hf hne <;> simp [AT.fits] at hf
      exact hne rfl
    split at hv
    · next hut =>
      subst hut
      injection hv with hv; subst hv
      cases ok with
      | true =>
        refine ⟨.tuple #[y', .bool true], ?_, tup2_vr hy (.bool true)⟩
        cases d <;> first | exact absurd rfl (hd2 _) | simp [Instr.typeAssert, hu]
      | false =>
        refine ⟨y', ?_, hy⟩
        cases d <;> first | exact absurd rfl (hd2 _) | simp [Instr.typeAssert, hu]
    · next hut =>
      split at hv
      · next hok =>
        injection hv with hv; subst hv hok
        refine ⟨.tuple #[z, .bool false], ?_, tup2_vr hz1 (.bool false)⟩
        cases d <;> first | exact absurd rfl (hd2 _) | simp [Instr.typeAssert, hu, hut, hz0]
      · cases hv
  · obtain rfl := hx.nili_inv
    split at hv
    · next hok =>
      injection hv with hv; subst hv hok
      refine ⟨.tuple #[z, .bool false], ?_, tup2_vr hz1 (.bool false)⟩
      cases d <;> simp [Instr.typeAssert, hu, hz0]
    · cases hv
  · cases hv
theorem apure_sound (hte : te.ok P) (hS : SR m N s a) (hW : WR w0 m w h) {o : Oper} {v : AV} (hv : apure te s h o.op = some v) :
    ∃ v', (execOp a.eval o).run P w = .ok (.value v') w ∧ VR m v v' := by
  unfold apure at hv
  unfold execOp
  split at hv
  · next x hop => rw [hop]; injection hv with hv; subst hv; exact ⟨_, rfl, hS.ev x⟩
  · next x hop => rw [hop]; injection hv with hv; subst hv; exact ⟨_, rfl, hS.ev x⟩
  · next c x y hop =>
    rw [hop]
    split at hv
    · next b hb =>
      injection hv with hv; subst hv
      have hc := hS.ev c
      rw [hb] at hc
      have hc' := hc.bool_inv
      refine ⟨if b then a.eval x else a.eval y, ?_, apick_vr (hS.ev x) (hS.ev y)⟩
      simp [hc', asBool]
    · cases hv
  · next t parts hop =>
    rw [hop]
    split at hv
    · next hall =>
      obtain ⟨v', h1, h2⟩ := abuild_sound (w := w) (m := m) hte (parts' := parts.map fun p => (p.1, a.eval p.2)) (by simp) (fun i p p' hp hp' => by
        rw [List.getElem?_map] at hp
        cases hx : parts.toList[i]? with
        | none => rw [hx] at hp; cases hp
        | some x =>
          rw [hx] at hp; injection hp with hp; subst hp
          simp only [Array.toList_map, List.getElem?_map, hx, Option.map_some, Option.some.injEq] at hp'
          subst hp'
          refine ⟨rfl, hS.ev x.2, ?_⟩
          have hmem : x ∈ parts.toList := List.mem_of_getElem? hx
          have := List.all_eq_true.1 hall x hmem
          simpa using this) hv
      exact ⟨v', by simp only [Sem.run_bind, h1, Result.andThen_ok, Sem.run_pure], h2⟩
    · cases hv
  · next t x hop =>
    rw [hop]
    obtain ⟨v', h1, h2⟩ := aload_sound hte hW (hS.ev x) hv
    exact ⟨v', by simp only [Sem.run_bind, h1, Result.andThen_ok, Sem.run_pure], h2⟩
  · next x hop =>
    rw [hop]
    have hx := hS.ev x
    unfold anil at hv
    split at hv
    · next b o hb =>
      injection hv with hv; subst hv; rw [hb] at hx
      obtain ⟨blk, e, hM⟩ := hx.ptr_inv
      exact ⟨_, by simp only [e, Sem.run_pure], .ptr _ _ _ hM⟩
    · next cs hb =>
      injection hv with hv; subst hv; rw [hb] at hx
      have hx2 := hx
      obtain ⟨blk, o, f, e, _, _⟩ := hx2.rptr_inv
      exact ⟨_, by simp only [e, Sem.run_pure]; rfl, by rw [← e]; exact hx⟩
    · next f first cap hb =>
      injection hv with hv; subst hv; rw [hb] at hx
      have hx2 := hx
      obtain ⟨f', c', e, _, _, _, _⟩ := hx2.fn_inv
      exact ⟨_, by simp only [e, Sem.run_pure]; rfl, by rw [← e]; exact hx⟩
    · cases hv
  · next op t x y u hop =>
    rw [hop]
    obtain ⟨v', h1, h2⟩ := abin_sound (P := P) (w := w) (t := t) (ox := x) (oy := y) (hS.ev x) (hS.ev y) hv
    refine ⟨v', ?_, h2⟩
    show Sem.run P ((do eqGuard op t x y (a.eval x) (a.eval y); binOp op t (a.eval x) (a.eval y) : Sem Value) >>= fun v => pure (Next.value v)) w = _
    simp only [Sem.run_bind] at h1 ⊢
    rw [h1]; rfl
  · next op t x hop =>
    rw [hop]
    have hx := hS.ev x
    unfold aun at hv
    split at hv
    · next b hb =>
      injection hv with hv; subst hv; rw [hb] at hx
      exact ⟨.bool (!b), by simp [hx.bool_inv, Op.unary], .bool _⟩
    · next k n hb =>
      injection hv with hv; subst hv; rw [hb] at hx
      exact ⟨.int k (k.wrap (0 - n)), by simp [hx.int_inv, Op.unary, Op.intArith], .int _ _⟩
    · cases hv
  · next src dst x hop =>
    rw [hop]
    have hx := hS.ev x
    unfold aconv at hv
    split at hv
    · next i0 i k n h1 h2 hb =>
      rw [hb] at hx
      split at hv
      · next kk hk =>
        injection hv with hv; subst hv
        obtain ⟨_, d0, _, hu0, _, _, _⟩ := hte.info h1
        obtain ⟨_, d, _, hu, hf, _, _⟩ := hte.info h2
        rw [hk] at hf
        cases d <;> simp [AT.fits] at hf
        subst hf
        refine ⟨.int kk (kk.wrap n), ?_, .int _ _⟩
        simp [hx.int_inv, convert, run_underlying hu0, run_underlying hu, Conv.intToInt]
      · cases hv
    · next i0 i str h1 h2 hb =>
      rw [hb] at hx
      split at hv
      · next hk =>
        injection hv with hv; subst hv
        obtain ⟨_, d0, _, hu0, _, _, _⟩ := hte.info h1
        have hu := str_at hte h2 hk
        refine ⟨.string str, ?_, .str _⟩
        simp [hx.str_inv, convert, run_underlying hu0, run_underlying hu]
      · cases hv
    · cases hv
  · next t x hop =>
    rw [hop]
    unfold aiface at hv
    split at hv
    · next i hi =>
      split at hv
      · cases hv
      · next hne =>
        injection hv with hv; subst hv
        obtain ⟨_, d, _, hu, hf, _, _⟩ := hte.info hi
        refine ⟨.iface t (a.eval x), ?_, .iface _ _ _ (hS.ev x)⟩
        simp only [Instr.makeInterface, Sem.run_bind, run_underlying hu, Result.andThen_ok]
        have hni : ∀ ms, d ≠ .interface ms := by
          intro ms e
          subst e
          cases hk : i.k <;> rw [hk] at hf <;> simp [AT.fits] at hf
          exact hne hk
        cases d <;> first | rfl | exact absurd rfl (hni _) | simp
    · cases hv
  · next fn first cap hop =>
    rw [hop]
    injection hv with hv; subst hv
    obtain ⟨h1, h2⟩ := map_rel hS first
    obtain ⟨h3, h4⟩ := map_rel hS cap
    exact ⟨_, by simp [Instr.makeFunc], .fn _ _ _ _ _ h1 h3 h2 h4⟩
  · next t x lo hi mx hop =>
    rw [hop]
    obtain ⟨v', h1, h2⟩ := aslice_sound (w := w) hte (hS.ev x) (vro_map hS lo) (vro_map hS hi) (vro_map hS mx) hv
    exact ⟨v', by simp only [Sem.run_bind, h1, Result.andThen_ok, Sem.run_pure], h2⟩
  · next t x k hop =>
    rw [hop]
    obtain ⟨v', h1, h2⟩ := afield_sound (w := w) hte (hS.ev x) hv
    exact ⟨v', by simp only [Sem.run_bind, h1, Result.andThen_ok, Sem.run_pure], h2⟩
  · next t x k hop =>
    rw [hop]
    have hx := hS.ev x
    unfold agetField at hv
    split at hv
    case h_2 => cases hv
    next i hi =>
      split at hv
      case h_2 => cases hv
      next fs hk =>
        split at hv
        case h_2 => cases hv
        next off ft hf =>
          split at hv
          case h_2 => cases hv
          next j cs hj hb =>
            rw [hb] at hx
            obtain ⟨cs', e, hs, hr⟩ := hx.agg_inv
            obtain ⟨fa, hu, hm⟩ := struct_at hte hi hk
            have hfa : ∃ x, fa[k]? = some x ∧ x.offset = off ∧ x.type = ft := by
              rw [← hm, List.getElem?_map] at hf
              cases hx : fa.toList[k]? with
              | none => rw [hx] at hf; cases hf
              | some x =>
                rw [hx] at hf; injection hf with hf; injection hf with e1 e2
                exact ⟨x, by simpa using hx, e1, e2⟩
            obtain ⟨x0, hx0, rfl, rfl⟩ := hfa
            unfold takeAs at hv
            by_cases hag : j.k.agg = true
            · rw [if_pos hag] at hv
              split at hv
              · next hl =>
                injection hv with hv; subst hv
                refine ⟨.agg (cs'.extract x0.offset (x0.offset + j.size)), ?_, ?_⟩
                · simp [e, Instr.field, run_underlying hu, hx0, asAgg, part, run_isAgg hte hj, hag, run_sizeOf hte hj]
                · have hl' : x0.offset + j.size ≤ cs'.size ∨ j.size = 0 := by simp at hl; omega
                  refine .agg _ _ (by have := hl; simp at this; simp; omega) (fun i c hc => ?_)
                  have hi2 : i < j.size := by
                    rcases Nat.lt_or_ge i j.size with h1 | h1
                    · exact h1
                    · rw [List.getElem?_eq_none (by simp; omega)] at hc; cases hc
                  rw [List.getElem?_take, if_pos hi2, List.getElem?_drop] at hc
                  have := hr _ _ hc
                  have hlt : x0.offset + i < cs'.size := by rw [hs]; exact (List.getElem?_eq_some_iff.1 hc).1
                  rw [Array.getD_eq_getD_getElem?] at this ⊢
                  rw [Array.getElem?_extract, if_pos (by omega)]
                  exact this
              · cases hv
            · rw [if_neg hag] at hv
              split at hv
              · next c rest hd =>
                injection hv with hv; subst hv
                have hc : cs[x0.offset]? = some c := by
                  have : (cs.drop x0.offset)[0]? = some c := by rw [hd]; rfl
                  rw [List.getElem?_drop] at this; simpa using this
                have := hr _ _ hc
                have hlt : x0.offset < cs'.size := by rw [hs]; exact (List.getElem?_eq_some_iff.1 hc).1
                simp at hag
                refine ⟨cs'[x0.offset], ?_, ?_⟩
                · simp [e, Instr.field, run_underlying hu, hx0, asAgg, part, run_isAgg hte hj, hag, hlt]
                · simpa [Array.getD_eq_getD_getElem?, hlt] using this
              · cases hv
  · next t x i hop =>
    rw [hop]
    obtain ⟨v', h1, h2⟩ := aindexAddr_sound (w := w) hte (hS.ev x) (hS.ev i) hv
    exact ⟨v', by simp only [Sem.run_bind, h1, Result.andThen_ok, Sem.run_pure], h2⟩
  · next t x i hop =>
    rw [hop]
    have hx := hS.ev x
    have hi' := hS.ev i
    unfold aindex at hv
    split at hv
    case h_2 => cases hv
    next ti hti =>
      split at hv
      case h_2 => cases hv
      next str k n hk hb hc =>
        split at hv
        case isFalse => cases hv
        next hn =>
          split at hv
          case h_2 => cases hv
          next b hb2 =>
            injection hv with hv; subst hv
            rw [hb] at hx; rw [hc] at hi'
            have hu := str_at hte hti hk
            refine ⟨.int .u8 b.toNat, ?_, .int _ _⟩
            simp [hx.str_inv, hi'.int_inv, Instr.index, asIntOf, run_underlying hu, hn, hb2]
  · next x i hop =>
    rw [hop]
    have hx := hS.ev x
    cases hb : ev s x <;> rw [hb] at hv <;> simp only [anth, reduceCtorEq] at hv
    next vs =>
      rw [hb] at hx
      obtain ⟨vs', e, hs, hr⟩ := hx.tup_inv
      have hlt : i < vs'.size := by rw [hs]; exact (List.getElem?_eq_some_iff.1 hv).1
      have := hr _ _ hv
      refine ⟨vs'[i], ?_, by simpa [Array.getD_eq_getD_getElem?, hlt] using this⟩
      simp [e, Instr.extract, hlt]
  · next x xt t ok hop =>
    rw [hop]
    have hx := hS.ev x
    obtain ⟨v', h1, h2⟩ := atype_sound (w := w) (xt := xt) hte hx hv
    exact ⟨v', by simp only [Sem.run_bind, h1, Result.andThen_ok, Sem.run_pure], h2⟩
  · next c hop =>
    rw [hop]
    split at hv
    case h_2 => cases hv
    next hcal =>
    split at hv
    case h_2 => cases hv
    next x t hxs hts =>
    have hxs' : c.args = #[x] := by rw [← Array.toArray_toList (xs := c.args), hxs]
    have hts' : c.argTypes = #[t] := by rw [← Array.toArray_toList (xs := c.argTypes), hts]
    have hx := hS.ev x
    unfold alen at hv
    split at hv
    · next str hb =>
      rw [hb] at hx
      split at hv
      case h_2 => cases hv
      next i hi =>
        split at hv
        case h_2 => cases hv
        next hk =>
          injection hv with hv; subst hv
          have hu := str_at hte hi hk
          refine ⟨.int .i64 str.size, ?_, .int _ _⟩
          simp [resolve, hcal, hxs', hts', invoke, builtin, hx.str_inv, Builtin.len_, run_underlying hu, goInt]
    · next tag sz xs hb =>
      rw [hb] at hx
      split at hv
      case h_2 => cases hv
      next i hi =>
        split at hv
        case h_2 => cases hv
        next e hk =>
          injection hv with hv; subst hv
          have hu := slice_at hte hi hk
          refine ⟨.int .i64 xs.length, ?_, .int _ _⟩
          rcases hx.sl_inv with ⟨rfl, ⟨_, e1, _⟩, _⟩ | ⟨blk, o, cap, f, e1, _⟩ <;> simp [resolve, hcal, hxs', hts', invoke, builtin, e1, Builtin.len_, run_underlying hu, goInt]
    · next b o n sz hb =>
      rw [hb] at hx
      split at hv
      case h_2 => cases hv
      next i hi =>
        split at hv
        case h_2 => cases hv
        next e hk =>
          injection hv with hv; subst hv
          have hu := slice_at hte hi hk
          obtain ⟨blk, cap, ad, e1, _⟩ := hx.ms_inv
          refine ⟨.int .i64 n, ?_, .int _ _⟩
          simp [resolve, hcal, hxs', hts', invoke, builtin, e1, Builtin.len_, run_underlying hu, goInt]
    · next b o n c sz hb =>
      rw [hb] at hx
      split at hv
      case h_2 => cases hv
      next i hi =>
        split at hv
        case h_2 => cases hv
        next e hk =>
          injection hv with hv; subst hv
          have hu := slice_at hte hi hk
          obtain ⟨blk, ad, e1, _⟩ := hx.mc_inv
          refine ⟨.int .i64 n, ?_, .int _ _⟩
          simp [resolve, hcal, hxs', hts', invoke, builtin, e1, Builtin.len_, run_underlying hu, goInt]
    · cases hv
  · cases hv
end
end Go.Proofs.YtjdocenbfghglaaGreatDoor.AW
