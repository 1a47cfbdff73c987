/- AW, part 12: lists of operations, code, calls. -/
import Derived.Test.YtjdocenbfghglaaGreatDoorAw11
set_option linter.unusedSimpArgs false
set_option linter.unusedVariables false
namespace Go.Proofs.YtjdocenbfghglaaGreatDoor.AW
open Go Go.RowKit

abbrev AK := AS → AH → AQ → Prop
def callK (dst : Option Nat) (s : AS) (k : AK) (Q : AQ) : AOut → AH → Prop := fun out h' => match out with
  | .ret v => k (putD s dst v) h' Q
  | .panic v => Q (.panic v) s h'
theorem callK_ret (dst : Option Nat) (s : AS) (k : AK) (Q : AQ) (v : AV) (h' : AH) : callK dst s k Q (.ret v) h' = k (putD s dst v) h' Q := rfl
theorem callK_panic (dst : Option Nat) (s : AS) (k : AK) (Q : AQ) (v : AV) (h' : AH) : callK dst s k Q (.panic v) h' = Q (.panic v) s h' := rfl
def opk (P : Program) (r : OpR) (dst : Option Nat) (s : AS) (h : AH) (k : AK) (Q : AQ) : Prop := match r with
  | .go v h' => k (putD s dst v) h' Q
  | .call f args => ACallV P f args h (callK dst s k Q)
  | .panic v => Q (.panic v) s h
  | .two v1 v2 => k (putD s dst v1) h Q ∧ k (putD s dst v2) h Q
  | .meth t name v args => ∃ f, AMeth P t name f ∧ ACallF P f (v :: args) h (callK dst s k Q)
  | .app v h' h n sz cells => k (putD s dst v) h' Q ∨ k (putD s dst (.ms h.nb 0 n sz)) (h.new cells) Q
  | .bad => False
theorem opk_two (P : Program) (v1 v2 : AV) (dst : Option Nat) (s : AS) (h : AH) (k : AK) (Q : AQ) : opk P (.two v1 v2) dst s h k Q = (k (putD s dst v1) h Q ∧ k (putD s dst v2) h Q) := rfl
theorem opk_meth (P : Program) (t : Nat) (name : String) (v : AV) (args : List AV) (dst : Option Nat) (s : AS) (h : AH) (k : AK) (Q : AQ) : opk P (.meth t name v args) dst s h k Q = ∃ f, AMeth P t name f ∧ ACallF P f (v :: args) h (callK dst s k Q) := rfl
theorem opk_app (P : Program) (v : AV) (h' h0 : AH) (n sz : Nat) (cells : List AV) (dst : Option Nat) (s : AS) (h : AH) (k : AK) (Q : AQ) : opk P (.app v h' h0 n sz cells) dst s h k Q = (k (putD s dst v) h' Q ∨ k (putD s dst (.ms h0.nb 0 n sz)) (h0.new cells) Q) := rfl
theorem opk_go (P : Program) (v : AV) (h' : AH) (dst : Option Nat) (s : AS) (h : AH) (k : AK) (Q : AQ) : opk P (.go v h') dst s h k Q = k (putD s dst v) h' Q := rfl
theorem opk_call (P : Program) (f : AV) (args : List AV) (dst : Option Nat) (s : AS) (h : AH) (k : AK) (Q : AQ) : opk P (.call f args) dst s h k Q = ACallV P f args h (callK dst s k Q) := rfl
theorem opk_panic (P : Program) (v : AV) (dst : Option Nat) (s : AS) (h : AH) (k : AK) (Q : AQ) : opk P (.panic v) dst s h k Q = Q (.panic v) s h := rfl

def gval (dsts : List (Option Nat)) (s : AS) (j : Nat) : AV := match dsts[j]? with | some (some t) => s t | _ => .dead
/-- What an operation leaves that was not wanted. -/
def undefA : AV := .opt false .dead
def gk (P : Program) (te : TE) (g : AV) (want : Bool) (dst : Option Nat) (op : Op) (s : AS) (h : AH) (k : AK) (Q : AQ) : Prop := match g with
  | .bool b => if b = want then opk P (aop te s h op) dst s h k Q else k (putD s dst undefA) h Q
  | .opt false _ => k (putD s dst undefA) h Q
  | _ => False
theorem gk_un (P : Program) (te : TE) (want : Bool) (dst : Option Nat) (op : Op) (s : AS) (h : AH) (k : AK) (Q : AQ) : gk P te undefA want dst op s h k Q = k (putD s dst undefA) h Q := rfl
theorem gk_yes (P : Program) (te : TE) (b : Bool) (dst : Option Nat) (op : Op) (s : AS) (h : AH) (k : AK) (Q : AQ) : gk P te (.bool b) b dst op s h k Q = opk P (aop te s h op) dst s h k Q := by simp [gk]
theorem gk_tf (P : Program) (te : TE) (dst : Option Nat) (op : Op) (s : AS) (h : AH) (k : AK) (Q : AQ) : gk P te (.bool true) false dst op s h k Q = k (putD s dst undefA) h Q := by simp [gk]
theorem gk_ft (P : Program) (te : TE) (dst : Option Nat) (op : Op) (s : AS) (h : AH) (k : AK) (Q : AQ) : gk P te (.bool false) true dst op s h k Q = k (putD s dst undefA) h Q := by simp [gk]
/-- The temporaries that an operation reads. -/
def opTmps (op : Op) : List Nat := op.operands.toList.filterMap fun | .tmp t => some t | _ => none
def opValid (s : AS) : List Nat → Bool
  | [] => true
  | t :: ts => (unopt (s t)).1 && opValid s ts
def onlyS (s : AS) (l : List Nat) : AS := fun t => if l.contains t then (unopt (s t)).2 else .dead
/-- A guarded operation that only computes, done whether its guard holds or not. -/
def lzR (r : Option AV) (g ok : Bool) (dst : Option Nat) (s : AS) (h : AH) (k : AK) (Q : AQ) : Prop := match r with
  | some v => (g = true → ok = true) ∧ k (putD s dst (.opt g v)) h Q
  | none => False
theorem lzR_some (v : AV) (g ok : Bool) (dst : Option Nat) (s : AS) (h : AH) (k : AK) (Q : AQ) : lzR (some v) g ok dst s h k Q = ((g = true → ok = true) ∧ k (putD s dst (.opt g v)) h Q) := rfl
def lzk (te : TE) (g : Bool) (dst : Option Nat) (op : Op) (s : AS) (h : AH) (k : AK) (Q : AQ) : Prop := match op with
  | .pick c a b => (match unopt (ev s c) with
    | (bc, .bool x) => (g = true → bc = true) ∧ k (putD s dst (.opt (g && (bif x then (unopt (ev s a)).1 else (unopt (ev s b)).1)) (pickV x (unopt (ev s a)).2 (unopt (ev s b)).2))) h Q
    | _ => False)
  | op => lzR (apure te (onlyS s (opTmps op)) h op) g (opValid s (opTmps op)) dst s h k Q
def lazyk (te : TE) (gv : AV) (want : Bool) (dst : Option Nat) (op : Op) (s : AS) (h : AH) (k : AK) (Q : AQ) : Prop := match unopt gv with
  | (b0, .bool b) => lzk te (b0 && (b == want)) dst op s h k Q
  | _ => False
def inLz (lz : List Nat) : Option Nat → Bool
  | some d => lz.contains d
  | none => false
def alist (P : Program) (te : TE) (N : Nat) (lz : List Nat) (dsts : List (Option Nat)) : List Oper → AK
  | [], s, h, Q => Q .normal s h
  | o :: rest, s, h, Q => dstOk N o.dst = true ∧ (match o.guard with
    | none => opk P (aop te s h o.op) o.dst s h (alist P te N lz dsts rest) Q
    | some (j, want) => if inLz lz o.dst = true then lazyk te (gval dsts s j) want o.dst o.op s h (alist P te N lz dsts rest) Q
      else gk P te (gval dsts s j) want o.dst o.op s h (alist P te N lz dsts rest) Q)
theorem alist_nil (P : Program) (te : TE) (N : Nat) (lz : List Nat) (dsts : List (Option Nat)) (s : AS) (h : AH) (Q : AQ) : alist P te N lz dsts [] s h Q = Q .normal s h := rfl
theorem alist_cons (P : Program) (te : TE) (N : Nat) (lz : List Nat) (dsts : List (Option Nat)) (dst : Option Nat) (op : Op) (ty : Nat) (pos : String) (after : Array Edge) (rest : List Oper) (s : AS) (h : AH) (Q : AQ) :
    alist P te N lz dsts (⟨dst, op, ty, pos, after, none⟩ :: rest) s h Q = (dstOk N dst = true ∧ opk P (aop te s h op) dst s h (alist P te N lz dsts rest) Q) := rfl
theorem alist_guard (P : Program) (te : TE) (N : Nat) (lz : List Nat) (dsts : List (Option Nat)) (dst : Option Nat) (op : Op) (ty : Nat) (pos : String) (after : Array Edge) (j : Nat) (want : Bool) (rest : List Oper) (s : AS) (h : AH) (Q : AQ) :
    alist P te N lz dsts (⟨dst, op, ty, pos, after, some (j, want)⟩ :: rest) s h Q = (dstOk N dst = true ∧ (if inLz lz dst = true then lazyk te (gval dsts s j) want dst op s h (alist P te N lz dsts rest) Q else gk P te (gval dsts s j) want dst op s h (alist P te N lz dsts rest) Q)) := rfl
theorem lazyk_bool (te : TE) (b want : Bool) (dst : Option Nat) (op : Op) (s : AS) (h : AH) (k : AK) (Q : AQ) : lazyk te (.bool b) want dst op s h k Q = lzk te (b == want) dst op s h k Q := by simp [lazyk, unopt]
theorem lazyk_opt (te : TE) (b0 b want : Bool) (dst : Option Nat) (op : Op) (s : AS) (h : AH) (k : AK) (Q : AQ) : lazyk te (.opt b0 (.bool b)) want dst op s h k Q = lzk te (b0 && (b == want)) dst op s h k Q := rfl

def thenQ (k : AK) (Q : AQ) : AQ := fun x s h => match x with | .normal => k s h Q | x => Q x s h
theorem thenQ_normal (k : AK) (Q : AQ) (s : AS) (h : AH) : thenQ k Q .normal s h = k s h Q := rfl
theorem thenQ_exit (k : AK) (Q : AQ) (s : AS) (h : AH) (i : Nat) : thenQ k Q (.exit i) s h = Q (.exit i) s h := rfl
theorem thenQ_ret (k : AK) (Q : AQ) (s : AS) (h : AH) : thenQ k Q .ret s h = Q .ret s h := rfl
theorem thenQ_panic (k : AK) (Q : AQ) (s : AS) (h : AH) (v : AV) : thenQ k Q (.panic v) s h = Q (.panic v) s h := rfl
def blockQ (id : Nat) (Q : AQ) : AQ := fun x s h => match x with | .exit i => if i = id then Q .normal s h else Q (.exit i) s h | x => Q x s h
theorem blockQ_normal (id : Nat) (Q : AQ) (s : AS) (h : AH) : blockQ id Q .normal s h = Q .normal s h := rfl
theorem blockQ_exit (id : Nat) (Q : AQ) (s : AS) (h : AH) (i : Nat) : blockQ id Q (.exit i) s h = if i = id then Q .normal s h else Q (.exit i) s h := rfl
theorem blockQ_ret (id : Nat) (Q : AQ) (s : AS) (h : AH) : blockQ id Q .ret s h = Q .ret s h := rfl
theorem blockQ_panic (id : Nat) (Q : AQ) (s : AS) (h : AH) (v : AV) : blockQ id Q (.panic v) s h = Q (.panic v) s h := rfl
def loopQ (I : Nat → AS → AH → Prop) (n : Nat) (Q : AQ) : AQ := fun x s h => match x with | .normal => ∃ n', n' < n ∧ I n' s h | x => Q x s h
theorem loopQ_normal (I : Nat → AS → AH → Prop) (n : Nat) (Q : AQ) (s : AS) (h : AH) : loopQ I n Q .normal s h = ∃ n', n' < n ∧ I n' s h := rfl
theorem loopQ_exit (I : Nat → AS → AH → Prop) (n : Nat) (Q : AQ) (s : AS) (h : AH) (i : Nat) : loopQ I n Q (.exit i) s h = Q (.exit i) s h := rfl
theorem loopQ_ret (I : Nat → AS → AH → Prop) (n : Nat) (Q : AQ) (s : AS) (h : AH) : loopQ I n Q .ret s h = Q .ret s h := rfl
theorem loopQ_panic (I : Nat → AS → AH → Prop) (n : Nat) (Q : AQ) (s : AS) (h : AH) (v : AV) : loopQ I n Q (.panic v) s h = Q (.panic v) s h := rfl
/-- A loop: an invariant with a number that falls. -/
def ALoop (k : AK) (s : AS) (h : AH) (Q : AQ) : Prop := ∃ I : Nat → AS → AH → Prop, (∃ n, I n s h) ∧ ∀ n s h, I n s h → k s h (loopQ I n Q)
def ck (c : AV) (a b : AK) (s : AS) (h : AH) (Q : AQ) : Prop := match c with
  | .bool c => if c = true then a s h Q else b s h Q
  | _ => False
theorem ck_true (a b : AK) (s : AS) (h : AH) (Q : AQ) : ck (.bool true) a b s h Q = a s h Q := by simp [ck]
theorem ck_false (a b : AK) (s : AS) (h : AH) (Q : AQ) : ck (.bool false) a b s h Q = b s h Q := by simp [ck]
theorem ck_of {c : Bool} {a b : AK} {s : AS} {h : AH} {Q : AQ} (h1 : c = true → a s h Q) (h2 : c = false → b s h Q) : ck (.bool c) a b s h Q := by
  cases c
  · rw [ck_false]; exact h2 rfl
  · rw [ck_true]; exact h1 rfl
/-- A region whose order is drawn: told in part 13. -/
structure DrawOk (P : Program) (te : TE) (N : Nat) (ops : Array Oper) (s : AS) (h : AH) (Q : AQ) : Prop where
  out : ∀ w0 m a w, SR m N s a → WR w0 m w h → ∀ t, wpOps P ops (CPost w0 N m Q) (Region.schedule (P.follows .mixedOrders) ops t) a { w with drawn := w.drawn + 1 }

def acode (P : Program) (te : TE) (N : Nat) (lz : List Nat) : Code → AK
  | .skip => fun s h Q => Q .normal s h
  | .region _ ops draw => fun s h Q => if draw = true then DrawOk P te N ops s h Q else alist P te N lz (ops.toList.map (·.dst)) ops.toList s h Q
  | .seq a b => fun s h Q => acode P te N lz a s h (thenQ (acode P te N lz b) Q)
  | .cond c a b => fun s h Q => ck (ev s c) (acode P te N lz a) (acode P te N lz b) s h Q
  | .block id c => fun s h Q => acode P te N lz c s h (blockQ id Q)
  | .loop c => fun s h Q => ALoop (acode P te N lz c) s h Q
  | .exit id => fun s h Q => Q (.exit id) s h
  | .ret => fun s h Q => Q .ret s h
  | _ => fun _ _ _ => False
theorem acode_skip (P : Program) (te : TE) (N : Nat) (lz : List Nat) (s : AS) (h : AH) (Q : AQ) : acode P te N lz .skip s h Q = Q .normal s h := rfl
theorem acode_region (P : Program) (te : TE) (N : Nat) (lz : List Nat) (id : Nat) (ops : Array Oper) (s : AS) (h : AH) (Q : AQ) : acode P te N lz (.region id ops false) s h Q = alist P te N lz (ops.toList.map (·.dst)) ops.toList s h Q := rfl
theorem acode_draw (P : Program) (te : TE) (N : Nat) (lz : List Nat) (id : Nat) (ops : Array Oper) (s : AS) (h : AH) (Q : AQ) : acode P te N lz (.region id ops true) s h Q = DrawOk P te N ops s h Q := rfl
theorem acode_seq (P : Program) (te : TE) (N : Nat) (lz : List Nat) (a b : Code) (s : AS) (h : AH) (Q : AQ) : acode P te N lz (.seq a b) s h Q = acode P te N lz a s h (thenQ (acode P te N lz b) Q) := rfl
theorem acode_cond (P : Program) (te : TE) (N : Nat) (lz : List Nat) (c : Operand) (a b : Code) (s : AS) (h : AH) (Q : AQ) : acode P te N lz (.cond c a b) s h Q = ck (ev s c) (acode P te N lz a) (acode P te N lz b) s h Q := rfl
theorem acode_block (P : Program) (te : TE) (N : Nat) (lz : List Nat) (id : Nat) (c : Code) (s : AS) (h : AH) (Q : AQ) : acode P te N lz (.block id c) s h Q = acode P te N lz c s h (blockQ id Q) := rfl
theorem acode_exit (P : Program) (te : TE) (N : Nat) (lz : List Nat) (id : Nat) (s : AS) (h : AH) (Q : AQ) : acode P te N lz (.exit id) s h Q = Q (.exit id) s h := rfl
theorem acode_ret (P : Program) (te : TE) (N : Nat) (lz : List Nat) (s : AS) (h : AH) (Q : AQ) : acode P te N lz .ret s h Q = Q .ret s h := rfl

section
variable {P : Program} {te : TE} {w0 : Base}

theorem callv_enter {m : Mem} {f : AV} {args : List AV} {fv : Value} {args' : Array Value} {w : World} {h : AH} {R : AOut → AH → Prop} (hf : VR m f fv) (hn : args'.size = args.length) (hr : ∀ (i : Nat) (c : AV), args[i]? = some c → VR m c (args'.getD i undef))
    (hc : ACallV P f args h R) : ∃ g args2 args2', (do let d ← Deferred.ofValue fv args'; invoke d.target d.args : Sem Next).run P w = (callFunc g args2').run P w ∧ ACallF P g args2 h R ∧ args2'.size = args2.length ∧ ∀ (i : Nat) (c : AV), args2[i]? = some c → VR m c (args2'.getD i undef) := by
  unfold ACallV at hc
  split at hc
  · next g first cap =>
    obtain ⟨first', cap', rfl, h1, h2, h3, h4⟩ := hf.fn_inv
    refine ⟨g, _, first' ++ args' ++ cap', ?_, hc, by simp; omega, ?_⟩
    · simp [Deferred.ofValue, invoke]
    · intro i c hi
      rw [Array.getD_eq_getD_getElem?]
      by_cases g1 : i < first.length
      · rw [List.append_assoc, List.getElem?_append_left g1] at hi
        rw [Array.append_assoc, Array.getElem?_append_left (by omega)]
        have := h3 _ _ hi
        rwa [Array.getD_eq_getD_getElem?] at this
      · by_cases g2 : i < first.length + args.length
        · rw [List.append_assoc, List.getElem?_append_right (by omega), List.getElem?_append_left (by omega)] at hi
          rw [Array.append_assoc, Array.getElem?_append_right (by omega), Array.getElem?_append_left (by omega)]
          have := hr _ _ hi
          rw [Array.getD_eq_getD_getElem?] at this
          rw [h1]; exact this
        · rw [List.getElem?_append_right (by simp; omega)] at hi
          rw [Array.getElem?_append_right (by simp; omega)]
          have := h4 _ _ hi
          rw [Array.getD_eq_getD_getElem?] at this
          simp only [List.length_append] at this
          simp only [Array.size_append]
          rw [h1, hn]; exact this
  · exact hc.elim

/-- A call, once it is known which function is called. -/
theorem callf_enter {N : Nat} {s : AS} {a : Act} {m : Mem} {w : World} {h : AH} {o : Oper} {k : AK} {Q : AQ} {g : FuncId} {args2 : List AV} {args2' : Array Value} (hd : dstOk N o.dst = true) (hS : SR m N s a) (hW : WR w0 m w h)
    (hrun : (execOp a.eval o).run P w = (callFunc g args2').run P w) (hc : ACallF P g args2 h (callK o.dst s k Q)) (hn : args2'.size = args2.length) (hr : ∀ (i : Nat) (c : AV), args2[i]? = some c → VR m c (args2'.getD i undef)) :
    o.wp P a w (fun a' w' => ∃ m' s' h', m.le m' ∧ SR m' N s' a' ∧ WR w0 m' w' h' ∧ k s' h' Q) (CPost w0 N m Q) := by
  unfold Oper.wp
  rw [hrun]
  rcases hc with ⟨⟨fn, hfn, hbody, hname⟩, hc⟩ | ⟨v, hx, hk⟩
  · have hb : fn.body ≠ none := by intro hx; rw [hx] at hbody; cases hbody
    have hn2 : fn.name ≠ "runtime.NumGoroutine" := by intro hx; rw [hx] at hname; simp at hname
    have hrun2 : (callFunc g args2').run P w = .ok (.enter g args2') w := by simp [callFunc, run_program, hfn, hn2, hb]
    rw [hrun2]
    show Calls P g args2' w _
    refine (hc w0 m w args2' hn hr hW).mono ?_
    rintro e w'' ⟨m', out, h', q1, q2, q3, q4⟩
    cases out with
    | ret v =>
      cases e with
      | returned c => exact ⟨m', _, h', q1, (hS.mono q1).putD hd q2, q3, q4⟩
      | panicked c => exact q2.elim
      | outgrown => exact q2.elim
    | panic v =>
      cases e with
      | returned c => exact q2.elim
      | panicked c => exact ⟨m', s, h', .panic v, q1, q2, hS.mono q1, q3, q4⟩
      | outgrown => exact q2.elim
  · obtain ⟨v', h1, h2⟩ := hx w0 m w args2' hn hr hW
    rw [h1]
    exact ⟨m, _, h, Mem.le.refl m, hS.putD hd h2, hW, hk⟩

theorem opk_sound (hte : te.ok P) {N : Nat} {s : AS} {a : Act} {m : Mem} {w : World} {h : AH} {o : Oper} {k : AK} {Q : AQ} (hd : dstOk N o.dst = true) (hS : SR m N s a) (hW : WR w0 m w h) (hk : opk P (aop te s h o.op) o.dst s h k Q) :
    o.wp P a w (fun a' w' => ∃ m' s' h', m.le m' ∧ SR m' N s' a' ∧ WR w0 m' w' h' ∧ k s' h' Q) (CPost w0 N m Q) := by
  have hop := aop_sound (P := P) (te := te) hte hS hW o
  cases hr : aop te s h o.op with
  | go v h' =>
    unfold Oper.wp
    rw [hr] at hop hk
    obtain ⟨w', m', h1, h2, h3⟩ := hop
    rcases h3 with ⟨v', h3, h4⟩ | ⟨h3, rfl⟩
    · rw [h3]
      exact ⟨m', _, h', h1, (hS.mono h1).putD hd h4, h2, hk⟩
    · rw [h3]
      exact ⟨m', _, h', h1, (hS.mono h1).putD hd (.dead _), h2, hk⟩
  | call f args =>
    rw [hr] at hop hk
    obtain ⟨fv, args', h1, h2, h3, h4⟩ := hop
    obtain ⟨g, args2, args2', h5, h6, h7, h8⟩ := callv_enter (w := w) h1 h2 h3 hk
    exact callf_enter hd hS hW (h4.trans h5) h6 h7 h8
  | meth t name v args =>
    rw [hr] at hop hk
    obtain ⟨v', args', h1, h2, h3, h4⟩ := hop
    obtain ⟨f, hf, hk⟩ := hk
    refine callf_enter (args2' := #[v'] ++ args') hd hS hW (h4.trans ?_) hk (by simp; omega) (fun i c hi => ?_)
    · simp only [callMethod, Sem.run_bind, run_program, Result.andThen_ok]
      have := hf v' w
      rw [this]; rfl
    · rw [Array.getD_eq_getD_getElem?]
      cases i with
      | zero => simp at hi; subst hi; rw [Array.getElem?_append_left (by simp)]; exact h1
      | succ i =>
        rw [Array.getElem?_append_right (by simp)]
        have := h3 i c (by simpa using hi)
        rw [Array.getD_eq_getD_getElem?] at this
        simpa using this
  | panic v =>
    unfold Oper.wp
    rw [hr] at hop hk
    obtain ⟨v', h1, h2⟩ := hop
    rw [h1]
    exact ⟨m, s, h, .panic v, Mem.le.refl m, ⟨v', rfl, h2⟩, hS, hW, hk⟩
  | two v1 v2 =>
    unfold Oper.wp
    rw [hr] at hop hk
    obtain ⟨v', h1, h2⟩ := hop
    rw [h1]
    rcases h2 with h2 | h2
    · exact ⟨m, _, h, Mem.le.refl m, hS.putD hd h2, hW, hk.1⟩
    · exact ⟨m, _, h, Mem.le.refl m, hS.putD hd h2, hW, hk.2⟩
  | app v h' h0 n sz cells =>
    unfold Oper.wp
    rw [hr] at hop hk
    obtain ⟨⟨w', m', g2, g3, v', g1, g4⟩, u', w2, m2, g5, g6, g7, g8⟩ := hop
    rcases hk with hk | hk
    · rw [g1]
      exact ⟨m', _, h', g2, (hS.mono g2).putD hd g4, g3, hk⟩
    · rw [g5]
      exact ⟨m2, _, _, g6, (hS.mono g6).putD hd g7, g8, hk⟩
  | bad => rw [hr] at hk; exact hk.elim

theorem cpost_trans {N : Nat} {m m' : Mem} (hm : m.le m') {Q : AQ} {e : Exit} {a : Act} {w : World} (h : CPost w0 N m' Q e a w) : CPost w0 N m Q e a w := CPost.mono hm (fun _ _ _ x => x) h

theorem wpOp_post {o : Oper} {a : Act} {w : World} {K : Act → World → Prop} {Q Q' : Exit → Act → World → Prop} (hq : ∀ e a w, Q e a w → Q' e a w) (h : o.wp P a w K Q) : o.wp P a w K Q' := by
  unfold Oper.wp at *
  generalize (execOp a.eval o).run P w = r at *
  cases r with
  | ok n w' =>
    cases n <;> simp only [Oper.upon] at h ⊢ <;> first
      | exact h
      | exact Calls.mono h (fun e w'' he => by cases e <;> first | exact he | exact hq _ _ _ he | (obtain ⟨x, y, z⟩ := he; exact ⟨x, y, hq _ _ _ z⟩))
  | halt x w' => cases x <;> simp only [Oper.upon] at h ⊢ <;> first | exact h | exact hq _ _ _ h

theorem wpList_post {ops : Array Oper} {Q Q' : Exit → Act → World → Prop} (hq : ∀ e a w, Q e a w → Q' e a w) : ∀ {l : List Oper} {a : Act} {w : World}, wpList P ops Q l a w → wpList P ops Q' l a w := by
  intro l
  induction l with
  | nil => intro a w h; exact hq _ _ _ h
  | cons o rest ih =>
    intro a w h
    simp only [wpList] at h ⊢
    split
    · next hw =>
      rw [if_pos hw] at h
      rcases h with h | ⟨h1, x, y, z⟩
      · exact .inl (wpOp_post hq (Oper.wp_mono (fun a w hh => ih hh) h))
      · exact .inr ⟨h1, x, y, hq _ _ _ z⟩
    · next hw => rw [if_neg hw] at h; exact ih h

theorem alist_sound (hte : te.ok P) {N : Nat} {lz : List Nat} {ops : Array Oper} : ∀ (l : List Oper) (s : AS) (h : AH) (Q : AQ) (m : Mem) (a : Act) (w : World), SR m N s a → WR w0 m w h → alist P te N lz (ops.toList.map (·.dst)) l s h Q →
    wpList P ops (CPost w0 N m Q) l a w := by
  intro l
  induction l with
  | nil => intro s h Q m a w hS hW hl; exact ⟨m, s, h, .normal, Mem.le.refl m, trivial, hS, hW, hl⟩
  | cons o rest ih =>
    intro s h Q m a w hS hW hl
    obtain ⟨hd, hl⟩ := hl
    have hgo : opk P (aop te s h o.op) o.dst s h (alist P te N lz (ops.toList.map (·.dst)) rest) Q → o.wp P a w (wpList P ops (CPost w0 N m Q) rest) (CPost w0 N m Q) := by
      intro hk
      refine Oper.wp_mono ?_ (opk_sound hte hd hS hW hk)
      rintro a' w' ⟨m', s', h', q1, q2, q3, q4⟩
      have := ih s' h' Q m' a' w' q2 q3 q4
      -- the rest ends in a post over m'
      exact wpList_post (fun e a w hx => cpost_trans q1 hx) this
    simp only [wpList]
    cases hg : o.guard with
    | none =>
      rw [hg] at hl
      have hw : Region.wanted o (yielded ops a.tmps) = true := by simp [Region.wanted, hg]
      rw [if_pos hw]
      exact .inl (hgo hl)
    | some g =>
      obtain ⟨j, want⟩ := g
      rw [hg] at hl
      have hgv0 : ∀ b0 b, unopt (gval (ops.toList.map (·.dst)) s j) = (b0, .bool b) → (b0 = true → yielded ops a.tmps j = some b) := by
        intro b0 b hb hb0
        unfold gval at hb
        split at hb
        · next t ht =>
          rw [List.getElem?_map] at ht
          cases hoj : ops.toList[j]? with
          | none => rw [hoj] at ht; cases ht
          | some oj =>
            rw [hoj] at ht; injection ht with ht
            have hoj' : ops[j]? = some oj := by rw [← Array.getElem?_toList]; exact hoj
            have hx := (hS.rel t).unopt
            rw [hb] at hx
            have hx' := (hx hb0).bool_inv
            have hlt : t < a.tmps.size := by
              rcases Nat.lt_or_ge t a.tmps.size with h1 | h1
              · exact h1
              · rw [Array.getD_eq_getD_getElem?, Array.getElem?_eq_none h1] at hx'; cases hx'
            rw [Array.getD_eq_getD_getElem?, Array.getElem?_eq_getElem hlt, Option.getD_some] at hx'
            simp [yielded, hoj', ht, hlt, hx']
        · simp [unopt] at hb
      have hgn : (unopt (gval (ops.toList.map (·.dst)) s j)).1 = false → yielded ops a.tmps j = none := by
        intro hu
        unfold gval at hu
        split at hu
        · next t ht =>
          rw [List.getElem?_map] at ht
          cases hoj : ops.toList[j]? with
          | none => rw [hoj] at ht; cases ht
          | some oj =>
            rw [hoj] at ht; injection ht with ht
            have hoj' : ops[j]? = some oj := by rw [← Array.getElem?_toList]; exact hoj
            have hx := (hS.rel t).unopt2 hu
            simp only [yielded, hoj', Option.bind_some, ht]
            by_cases hlt : t < a.tmps.size
            · rw [Array.getD_eq_getD_getElem?, Array.getElem?_eq_getElem hlt, Option.getD_some] at hx
              rw [Array.getElem?_eq_getElem hlt, hx]; rfl
            · rw [Array.getElem?_eq_none (by omega)]
        · simp [unopt] at hu
      have hgv : ∀ b, gval (ops.toList.map (·.dst)) s j = .bool b → yielded ops a.tmps j = some b := fun b hb => hgv0 true b (by rw [hb]; rfl) rfl
      by_cases hlz : inLz lz o.dst = true
      · -- done whether the guard holds or not
        simp only [if_pos hlz] at hl
        unfold lazyk at hl
        split at hl
        case h_2 => exact hl.elim
        next b0 b hu =>
        -- what the operation does where it is wanted
        have key : ∀ (g : Bool), g = (b0 && (b == want)) → lzk te g o.dst o.op s h (alist P te N lz (ops.toList.map (·.dst)) rest) Q →
            ∃ v g', (g = true → ∃ v', (execOp a.eval o).run P w = .ok (.value v') w ∧ (g' = true → VR m v v') ∧ (g' = false → v' = undef)) ∧ (g' = true → g = true) ∧ alist P te N lz (ops.toList.map (·.dst)) rest (putD s o.dst (.opt g' v)) h Q := by
          intro g _ hk
          unfold lzk at hk
          split at hk
          · next c x y hop =>
            split at hk
            case h_2 => exact hk.elim
            next bc xb hc =>
            obtain ⟨h1, h2⟩ := hk
            refine ⟨_, _, fun hg => ?_, fun hg' => ?_, h2⟩
            · have hcv := (hS.ev c).unopt
              rw [hc] at hcv
              have hcb := (hcv (h1 hg)).bool_inv
              refine ⟨if xb then a.eval x else a.eval y, ?_, fun hg' => ?_, fun hg' => ?_⟩
              · unfold execOp; rw [hop]; simp [hcb, asBool]
              · rw [hg] at hg'
                simp only [Bool.true_and] at hg'
                refine pickV_vr (fun e => ?_) (fun e => ?_)
                · subst e; exact (hS.ev x).unopt hg'
                · subst e; exact (hS.ev y).unopt hg'
              · rw [hg] at hg'
                simp only [Bool.true_and] at hg'
                cases xb with
                | true => exact (hS.ev x).unopt2 hg'
                | false => exact (hS.ev y).unopt2 hg'
            · simp only [Bool.and_eq_true] at hg'; exact hg'.1
          · next op hne =>
            unfold lzR at hk
            split at hk
            case h_2 => exact hk.elim
            next v hop =>
            obtain ⟨h1, h2⟩ := hk
            refine ⟨v, g, fun hg => ?_, fun e => e, h2⟩
            have hval := h1 hg
            have hS2 : SR m N (onlyS s (opTmps o.op)) a := by
              refine ⟨hS.size, hS.defers, fun t => ?_⟩
              unfold onlyS
              split
              · next ht =>
                have hv : ∀ l : List Nat, opValid s l = true → ∀ t, l.contains t = true → (unopt (s t)).1 = true := by
                  intro l
                  induction l with
                  | nil => intro _ t ht; simp at ht
                  | cons x l ih =>
                    intro h3 t ht
                    simp only [opValid, Bool.and_eq_true] at h3
                    simp only [List.contains_cons, Bool.or_eq_true, beq_iff_eq] at ht
                    rcases ht with rfl | ht
                    · exact h3.1
                    · exact ih h3.2 t ht
                exact (hS.rel t).unopt (hv _ hval t ht)
              · exact .dead _
            have hop2 := apure_sound (P := P) hte hS2 hW (o := o) hop
            obtain ⟨v', g1, g2⟩ := hop2
            exact ⟨v', g1, fun _ => g2, fun e => by rw [hg] at e; cases e⟩
        obtain ⟨v, g', hk1, hk2, hk3⟩ := key _ rfl hl
        by_cases hg0 : (b0 && (b == want)) = true
        · obtain ⟨v', h1, h2, h2'⟩ := hk1 hg0
          simp only [Bool.and_eq_true, beq_iff_eq] at hg0
          have hy := hgv0 b0 b hu hg0.1
          have hw : Region.wanted o (yielded ops a.tmps) = true := by simp [Region.wanted, hg, hy, hg0.2]
          rw [if_pos hw]
          refine .inl ?_
          unfold Oper.wp
          rw [h1]
          exact ih _ h Q m _ w (hS.putD hd (.opt _ _ _ h2 h2')) hW hk3
        · have hg'f : g' = false := by cases g' with | false => rfl | true => exact absurd (hk2 rfl) hg0
          subst hg'f
          have hw : ¬ (Region.wanted o (yielded ops a.tmps) = true) := by
            cases b0 with
            | true =>
              have hy := hgv0 true b hu rfl
              have hbw : ¬ b = want := by simpa using hg0
              simp [Region.wanted, hg, hy, hbw]
            | false =>
              have hy : yielded ops a.tmps j = none := hgn (by rw [hu])
              simp [Region.wanted, hg, hy]
          rw [if_neg hw]
          exact ih _ h Q m _ w (hS.putD hd (.opt _ _ _ (fun e => by cases e) (fun _ => rfl))) hW hk3
      simp only [if_neg hlz, gk] at hl
      split at hl
      · next b hb =>
        have hy := hgv b hb
        by_cases e : b = want
        · rw [if_pos e] at hl
          have hw : Region.wanted o (yielded ops a.tmps) = true := by simp [Region.wanted, hg, hy, e]
          rw [if_pos hw]
          exact .inl (hgo hl)
        · rw [if_neg e] at hl
          have hw : ¬ (Region.wanted o (yielded ops a.tmps) = true) := by simp [Region.wanted, hg, hy, e]
          rw [if_neg hw]
          exact ih _ h Q m _ w (hS.putD hd (.opt _ _ _ (fun e => by cases e) (fun _ => rfl))) hW hl
      · next v0 hb =>
        have hy := hgn (by rw [hb]; rfl)
        have hw : ¬ (Region.wanted o (yielded ops a.tmps) = true) := by simp [Region.wanted, hg, hy]
        rw [if_neg hw]
        exact ih _ h Q m _ w (hS.putD hd (.opt _ _ _ (fun e => by cases e) (fun _ => rfl))) hW hl
      · exact hl.elim

/-- Loops. -/
theorem wp_aloop {N : Nat} {c : Code} {s : AS} {h : AH} {Q : AQ} {k : AK} (ih : ∀ (s : AS) (h : AH) (Q : AQ), k s h Q → ACode P N c s h Q) (hl : ALoop k s h Q) : ACode P N (.loop c) s h Q := by
  intro w0 m a w hS hW
  obtain ⟨I, hI, hround⟩ := hl
  let J : Act → World → Nat → Prop := fun a w n => ∃ m' s' h', m.le m' ∧ SR m' N s' a ∧ WR w0 m' w h' ∧ I n s' h'
  have h0 : ∃ n, J a w n := by
    obtain ⟨n, hn⟩ := hI
    exact ⟨n, m, s, h, Mem.le.refl m, hS, hW, hn⟩
  -- the least number
  have least : ∀ a w, (∃ n, J a w n) → ∃ n, J a w n ∧ ∀ n', J a w n' → n ≤ n' := by
    intro a w ⟨n, hn⟩
    induction n using Nat.strongRecOn with
    | _ n ihn =>
      by_cases hx : ∃ n', n' < n ∧ J a w n'
      · obtain ⟨n', h1, h2⟩ := hx
        exact ihn n' h1 h2
      · refine ⟨n, hn, fun n' hn' => ?_⟩
        rcases Nat.lt_or_ge n' n with h1 | h1
        · exact absurd ⟨n', h1, hn'⟩ hx
        · exact h1
  let μ : Act → World → Nat := fun a w => @dite Nat (∃ n, J a w n) (Classical.propDecidable _) (fun hx => Classical.choose (least a w hx)) (fun _ => 0)
  have hμ : ∀ a w, (∃ n, J a w n) → J a w (μ a w) ∧ ∀ n', J a w n' → μ a w ≤ n' := by
    intro a w hx
    have := Classical.choose_spec (least a w hx)
    show J a w (@dite Nat (∃ n, J a w n) (Classical.propDecidable _) (fun hx => Classical.choose (least a w hx)) (fun _ => 0)) ∧ ∀ n', J a w n' → (@dite Nat (∃ n, J a w n) (Classical.propDecidable _) (fun hx => Classical.choose (least a w hx)) (fun _ => 0)) ≤ n'
    rw [dif_pos hx]
    exact this
  refine wp_loop (fun a w => ∃ n, J a w n) μ h0 ?_
  intro a1 w1 hJ
  obtain ⟨⟨m1, s1, h1, l1, S1, W1, I1⟩, hmin⟩ := hμ a1 w1 hJ
  refine wp_mono (ih s1 h1 _ (hround _ _ _ I1) w0 m1 a1 w1 S1 W1) ?_
  rintro e a2 w2 ⟨m2, s2, h2, x, l2, hx, S2, W2, hq⟩
  cases x with
  | normal =>
    cases e <;> simp only [exRel] at hx
    obtain ⟨n', hn', hI'⟩ := hq
    have hJ2 : J a2 w2 n' := ⟨m2, s2, h2, l1.trans l2, S2, W2, hI'⟩
    refine ⟨⟨n', hJ2⟩, ?_⟩
    have := (hμ a2 w2 ⟨n', hJ2⟩).2 n' hJ2
    omega
  | exit i => cases e <;> simp only [exRel] at hx; exact ⟨m2, s2, h2, .exit i, l1.trans l2, hx, S2, W2, hq⟩
  | goto i => cases e <;> simp only [exRel] at hx; exact ⟨m2, s2, h2, .goto i, l1.trans l2, hx, S2, W2, hq⟩
  | ret => cases e <;> simp only [exRel] at hx; exact ⟨m2, s2, h2, .ret, l1.trans l2, trivial, S2, W2, hq⟩
  | panic v => cases e <;> simp only [exRel] at hx; exact ⟨m2, s2, h2, .panic v, l1.trans l2, hx, S2, W2, hq⟩

theorem acode_sound (hte : te.ok P) {N : Nat} {lz : List Nat} : ∀ (c : Code) (s : AS) (h : AH) (Q : AQ), acode P te N lz c s h Q → ACode P N c s h Q := by
  intro c
  induction c with
  | skip => intro s h Q hc w0 m a w hS hW; exact wp_skip ⟨m, s, h, .normal, Mem.le.refl m, trivial, hS, hW, hc⟩
  | region id ops draw =>
    intro s h Q hc w0 m a w hS hW
    cases draw with
    | false => exact wp_region_list (alist_sound hte _ s h Q m a w hS hW hc)
    | true =>
      have hc' : DrawOk P te N ops s h Q := hc
      exact wp_region_draw (hc'.out w0 m a w hS hW)
  | seq x y ihx ihy =>
    intro s h Q hc w0 m a w hS hW
    refine wp_seq (wp_mono (ihx s h _ hc w0 m a w hS hW) ?_)
    rintro e a2 w2 ⟨m2, s2, h2, ex, l2, hx, S2, W2, hq⟩
    cases ex with
    | normal =>
      cases e <;> simp only [exRel] at hx
      exact wp_mono (ihy s2 h2 Q hq w0 m2 a2 w2 S2 W2) (fun e a w hh => cpost_trans l2 hh)
    | exit i => cases e <;> simp only [exRel] at hx; exact ⟨m2, s2, h2, .exit i, l2, hx, S2, W2, hq⟩
    | goto i => cases e <;> simp only [exRel] at hx; exact ⟨m2, s2, h2, .goto i, l2, hx, S2, W2, hq⟩
    | ret => cases e <;> simp only [exRel] at hx; exact ⟨m2, s2, h2, .ret, l2, trivial, S2, W2, hq⟩
    | panic v => cases e <;> simp only [exRel] at hx; exact ⟨m2, s2, h2, .panic v, l2, hx, S2, W2, hq⟩
  | cond c x y ihx ihy =>
    intro s h Q hc w0 m a w hS hW
    have hc' : ck (ev s c) (acode P te N lz x) (acode P te N lz y) s h Q := hc
    unfold ck at hc'
    split at hc'
    · next b hb =>
      have hx := hS.ev c
      rw [hb] at hx
      cases b with
      | true => exact wp_cond_true hx.bool_inv (ihx s h Q hc' w0 m a w hS hW)
      | false => exact wp_cond_false hx.bool_inv (ihy s h Q hc' w0 m a w hS hW)
    · exact hc'.elim
  | block id c ih =>
    intro s h Q hc w0 m a w hS hW
    refine wp_block (wp_mono (ih s h _ hc w0 m a w hS hW) ?_)
    rintro e a2 w2 ⟨m2, s2, h2, ex, l2, hx, S2, W2, hq⟩
    cases ex with
    | normal => cases e <;> simp only [exRel] at hx; exact ⟨m2, s2, h2, .normal, l2, trivial, S2, W2, hq⟩
    | exit i =>
      cases e <;> simp only [exRel] at hx
      subst hx
      show Exit.inBlock id (CPost w0 N m Q) (.exit i) a2 w2
      have hq' : (if i = id then Q .normal s2 h2 else Q (.exit i) s2 h2) := hq
      simp only [Exit.inBlock]
      split
      · next e1 => rw [if_pos e1] at hq'; exact ⟨m2, s2, h2, .normal, l2, trivial, S2, W2, hq'⟩
      · next e1 => rw [if_neg e1] at hq'; exact ⟨m2, s2, h2, .exit i, l2, rfl, S2, W2, hq'⟩
    | goto i => cases e <;> simp only [exRel] at hx; exact ⟨m2, s2, h2, .goto i, l2, hx, S2, W2, hq⟩
    | ret => cases e <;> simp only [exRel] at hx; exact ⟨m2, s2, h2, .ret, l2, trivial, S2, W2, hq⟩
    | panic v => cases e <;> simp only [exRel] at hx; exact ⟨m2, s2, h2, .panic v, l2, hx, S2, W2, hq⟩
  | loop c ih => intro s h Q hc; exact wp_aloop ih hc
  | exit id => intro s h Q hc w0 m a w hS hW; exact wp_exit ⟨m, s, h, .exit id, Mem.le.refl m, rfl, hS, hW, hc⟩
  | ret => intro s h Q hc w0 m a w hS hW; exact wp_ret ⟨m, s, h, .ret, Mem.le.refl m, trivial, hS, hW, hc⟩
  | rangeFunc f ps x y _ _ => intro s h Q hc; exact hc.elim
  | scope c _ => intro s h Q hc; exact hc.elim
  | label l => intro s h Q hc; exact hc.elim
  | goto l => intro s h Q hc; exact hc.elim
  | refuse why => intro s h Q hc; exact hc.elim

/-- A function's results. -/
def ares1 (te : TE) (s : AS) (h : AH) : ResultVar → Option AV
  | .tmp t => some (s t)
  | .cell a t => aload te t (s a) h
def aresL (te : TE) (s : AS) (h : AH) : List ResultVar → Option (List AV)
  | [] => some []
  | r :: rs => (match ares1 te s h r, aresL te s h rs with
    | some v, some vs => some (v :: vs)
    | _, _ => none)
def atup : List AV → AV
  | [v] => v
  | vs => .tup vs
def retQ (te : TE) (rs : List ResultVar) (R : AOut → AH → Prop) : AQ := fun x s h => match x with
  | .normal => (match aresL te s h rs with | some vs => R (.ret (atup vs)) h | none => False)
  | .ret => (match aresL te s h rs with | some vs => R (.ret (atup vs)) h | none => False)
  | .panic v => R (.panic v) h
  | _ => False
def retR (R : AOut → AH → Prop) (h : AH) : Option (List AV) → Prop
  | some vs => R (.ret (atup vs)) h
  | none => False
theorem retQ_normal (te : TE) (rs : List ResultVar) (R : AOut → AH → Prop) (s : AS) (h : AH) : retQ te rs R .normal s h = retR R h (aresL te s h rs) := by
  unfold retQ retR; cases aresL te s h rs <;> rfl
theorem retQ_ret (te : TE) (rs : List ResultVar) (R : AOut → AH → Prop) (s : AS) (h : AH) : retQ te rs R .ret s h = retR R h (aresL te s h rs) := by
  unfold retQ retR; cases aresL te s h rs <;> rfl
theorem retQ_panic (te : TE) (rs : List ResultVar) (R : AOut → AH → Prop) (s : AS) (h : AH) (v : AV) : retQ te rs R (.panic v) s h = R (.panic v) h := rfl

theorem ares_sound (hte : te.ok P) {N : Nat} {s : AS} {a : Act} {m : Mem} {w : World} {h : AH} (hS : SR m N s a) (hW : WR w0 m w h) : ∀ (rs : List ResultVar) (vs : List AV), aresL te s h rs = some vs →
    ∃ vs' : List Value, (rs.mapM fun | .tmp t => pure (a.tmps.getD t undef) | .cell p t => do loadVar t (← asAddr (a.tmps.getD p undef)) : Sem (List Value)).run P w = .ok vs' w ∧ vs'.length = vs.length ∧ ∀ (i : Nat) (c : AV), vs[i]? = some c → VR m c (vs'.getD i undef) := by
  intro rs
  induction rs with
  | nil => intro vs hv; simp [aresL] at hv; subst hv; exact ⟨[], by simp, rfl, fun i c hi => by simp at hi⟩
  | cons r rs ih =>
    intro vs hv
    simp only [aresL] at hv
    split at hv
    · next v vs1 h1 h2 =>
      injection hv with hv; subst hv
      obtain ⟨vs1', q1, q2, q3⟩ := ih vs1 h2
      have hone : ∃ v', (match r with | .tmp t => pure (a.tmps.getD t undef) | .cell p t => do loadVar t (← asAddr (a.tmps.getD p undef)) : Sem Value).run P w = .ok v' w ∧ VR m v v' := by
        cases r with
        | tmp t => simp only [ares1, Option.some.injEq] at h1; subst h1; exact ⟨_, rfl, hS.rel t⟩
        | cell p t =>
          simp only [ares1] at h1
          obtain ⟨v', g1, g2⟩ := aload_sound (P := P) (w := w) hte hW (hS.rel p) h1
          refine ⟨v', ?_, g2⟩
          have hp := hS.rel p
          cases hsp : s p <;> rw [hsp] at h1 hp <;> (try (unfold aload at h1; split at h1 <;> simp at h1))
          · obtain ⟨blk, e, _⟩ := hp.ptr_inv
            dsimp only
            rw [e] at g1 ⊢
            simpa [Instr.loadAt, Instr.sureAddr, asAddr] using g1
          · obtain ⟨blk, o, f, e, _, _⟩ := hp.rptr_inv
            dsimp only
            rw [e] at g1 ⊢
            simpa [Instr.loadAt, Instr.sureAddr, asAddr] using g1
      obtain ⟨v', g1, g2⟩ := hone
      refine ⟨v' :: vs1', ?_, by simp [q2], ?_⟩
      · simp only [List.mapM_cons, Sem.run_bind, g1, Result.andThen_ok, q1, Sem.run_pure]
      · intro i c hi
        cases i with
        | zero => simp at hi; subst hi; exact g2
        | succ i => simpa using q3 i c (by simpa using hi)
    · cases hv
theorem results_sound (hte : te.ok P) {fn : Func} {N : Nat} {s : AS} {a : Act} {m : Mem} {w : World} {h : AH} (hS : SR m N s a) (hW : WR w0 m w h) {vs : List AV} (hv : aresL te s h fn.results.toList = some vs) :
    ∃ v', (results fn a.tmps).run P w = .ok v' w ∧ VR m (atup vs) v' := by
  obtain ⟨vs', q1, q2, q3⟩ := ares_sound hte hS hW _ _ hv
  have hm : (fn.results.mapM fun | .tmp t => pure (a.tmps.getD t undef) | .cell p t => do loadVar t (← asAddr (a.tmps.getD p undef)) : Sem (Array Value)).run P w = .ok vs'.toArray w := by
    rw [← Array.toArray_toList (xs := fn.results), List.mapM_toArray]
    simp only [Sem.run_map, q1, Result.andThen_ok]
  refine ⟨if h : vs'.toArray.size = 1 then vs'.toArray[0] else .tuple vs'.toArray, ?_, ?_⟩
  · simp only [results, Sem.run_bind]
    simp only [Sem.run_pure]
    exact congrArg (fun r : Result (Array Value) => r.andThen fun x w' => .ok (if h : x.size = 1 then x[0] else .tuple x) w') hm
  · clear hm q1
    by_cases h1 : vs.length = 1
    · obtain ⟨v, rfl⟩ := List.length_eq_one_iff.1 h1
      obtain ⟨v', rfl⟩ := List.length_eq_one_iff.1 (q2.trans h1)
      have := q3 0 v rfl
      simpa [atup] using this
    · have h2 : ¬ vs'.toArray.size = 1 := by simpa [q2] using h1
      rw [dif_neg h2]
      have e : atup vs = .tup vs := by
        unfold atup
        split
        · simp at h1
        · rfl
      rw [e]
      exact .tup _ _ (by simp [q2]) (fun i c hi => by
        have := q3 i c hi
        simpa [Array.getD_eq_getD_getElem?, List.getD_eq_getElem?_getD] using this)

def slots (args : List AV) : AS := fun t => args.getD t .dead
theorem acalls_of (hte : te.ok P) (lz : List Nat) {f : FuncId} {fn : Func} {c : Code} {args : List AV} {h : AH} {R : AOut → AH → Prop} (hf : P.funcs[f]? = some fn) (hb : fn.body = some c) (hn : args.length ≤ fn.ntmps)
    (hc : acode P te fn.ntmps lz c (slots args) h (retQ te fn.results.toList R)) : ACalls P f args h R := by
  intro w0 m w args' h1 h2 hW
  refine calls_of_wp hf hb (wp_mono (acode_sound hte c _ h _ hc w0 m _ w ⟨?_, rfl, ?_⟩ hW) ?_)
  · simp; omega
  · intro t
    simp only [slots]
    by_cases ht : t < args.length
    · have hx : args[t]? = some args[t] := List.getElem?_eq_getElem ht
      have := h2 t _ hx
      rw [List.getD_eq_getElem?_getD, hx, Option.getD_some]
      rw [Array.getD_eq_getD_getElem?] at this ⊢
      rw [Array.getElem?_append_left (by omega)]
      exact this
    · rw [List.getD_eq_getElem?_getD, List.getElem?_eq_none (by omega)]
      exact .dead _
  · rintro e a2 w2 ⟨m2, s2, h2', ex, l2, hx, S2, W2, hq⟩
    cases ex with
    | normal =>
      cases e <;> simp only [exRel] at hx
      rw [retQ_normal] at hq
      cases hr : aresL te s2 h2' fn.results.toList with
      | none => rw [hr] at hq; exact hq.elim
      | some vs =>
        rw [hr] at hq
        obtain ⟨v', g1, g2⟩ := results_sound hte S2 W2 hr
        exact ⟨S2.defers, v', g1, m2, .ret (atup vs), h2', l2, g2, W2, hq⟩
    | ret =>
      cases e <;> simp only [exRel] at hx
      rw [retQ_ret] at hq
      cases hr : aresL te s2 h2' fn.results.toList with
      | none => rw [hr] at hq; exact hq.elim
      | some vs =>
        rw [hr] at hq
        obtain ⟨v', g1, g2⟩ := results_sound hte S2 W2 hr
        exact ⟨S2.defers, v', g1, m2, .ret (atup vs), h2', l2, g2, W2, hq⟩
    | exit i => exact hq.elim
    | goto i => exact hq.elim
    | panic v => cases e <;> simp only [exRel] at hx; exact ⟨S2.defers, m2, .panic v, h2', l2, hx, W2, hq⟩
end
end Go.Proofs.YtjdocenbfghglaaGreatDoor.AW
