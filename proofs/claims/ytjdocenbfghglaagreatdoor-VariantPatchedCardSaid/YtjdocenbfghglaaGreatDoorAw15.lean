/- AW, part 15: the equations by which simp runs code. -/
import Derived.Test.YtjdocenbfghglaaGreatDoorAw14
set_option linter.unusedSimpArgs false
set_option linter.unusedVariables false
namespace Go.Proofs.YtjdocenbfghglaaGreatDoor.AW
open Go Go.RowKit

theorem nb_lt1 (n : Nat) : (n = n + 1) = False := by simp only [eq_iff_iff, iff_false]; omega
theorem nb_gt1 (n : Nat) : (n + 1 = n) = False := by simp only [eq_iff_iff, iff_false]; omega
theorem nb_lt2 (n : Nat) : (n = n + 1 + 1) = False := by simp only [eq_iff_iff, iff_false]; omega
theorem nb_gt2 (n : Nat) : (n + 1 + 1 = n) = False := by simp only [eq_iff_iff, iff_false]; omega
theorem nb_lt3 (n : Nat) : (n = n + 1 + 1 + 1) = False := by simp only [eq_iff_iff, iff_false]; omega
theorem nb_gt3 (n : Nat) : (n + 1 + 1 + 1 = n) = False := by simp only [eq_iff_iff, iff_false]; omega
theorem nb_lt4 (n : Nat) : (n = n + 1 + 1 + 1 + 1) = False := by simp only [eq_iff_iff, iff_false]; omega
theorem nb_gt4 (n : Nat) : (n + 1 + 1 + 1 + 1 = n) = False := by simp only [eq_iff_iff, iff_false]; omega
theorem nb_lt5 (n : Nat) : (n = n + 1 + 1 + 1 + 1 + 1) = False := by simp only [eq_iff_iff, iff_false]; omega
theorem nb_gt5 (n : Nat) : (n + 1 + 1 + 1 + 1 + 1 = n) = False := by simp only [eq_iff_iff, iff_false]; omega
theorem nb_lt6 (n : Nat) : (n = n + 1 + 1 + 1 + 1 + 1 + 1) = False := by simp only [eq_iff_iff, iff_false]; omega
theorem nb_gt6 (n : Nat) : (n + 1 + 1 + 1 + 1 + 1 + 1 = n) = False := by simp only [eq_iff_iff, iff_false]; omega
theorem nb_lt7 (n : Nat) : (n = n + 1 + 1 + 1 + 1 + 1 + 1 + 1) = False := by simp only [eq_iff_iff, iff_false]; omega
theorem nb_gt7 (n : Nat) : (n + 1 + 1 + 1 + 1 + 1 + 1 + 1 = n) = False := by simp only [eq_iff_iff, iff_false]; omega
theorem nb_lt8 (n : Nat) : (n = n + 1 + 1 + 1 + 1 + 1 + 1 + 1 + 1) = False := by simp only [eq_iff_iff, iff_false]; omega
theorem nb_gt8 (n : Nat) : (n + 1 + 1 + 1 + 1 + 1 + 1 + 1 + 1 = n) = False := by simp only [eq_iff_iff, iff_false]; omega
theorem putD_some (s : AS) (d : Nat) (v : AV) : putD s (some d) v = upd s d v := rfl
theorem putD_none (s : AS) (v : AV) : putD s none v = s := rfl
theorem upd_app {α : Type} (f : Nat → α) (d : Nat) (v : α) (x : Nat) : upd f d v x = if x = d then v else f x := rfl
theorem dstOk_some (N d : Nat) : dstOk N (some d) = decide (d < N) := rfl
theorem dstOk_none (N : Nat) : dstOk N none = true := rfl
theorem slots_app (vs : List AV) (n : Nat) : slots vs n = vs.getD n .dead := rfl
theorem new_box (h : AH) (cs : List AV) (b : Nat) : (h.new cs).box b = if b = h.nb then some cs else h.box b := rfl
theorem set_box (h : AH) (b0 : Nat) (cs : List AV) (b : Nat) : (h.set b0 cs).box b = if b = b0 then some cs else h.box b := rfl
theorem kill_box (h : AH) (b0 : Nat) (b : Nat) : (h.kill b0).box b = if b = b0 then none else h.box b := rfl
theorem newTok_box (h : AH) (b : Nat) : h.newTok.box b = h.box b := rfl
theorem setTok_box (h : AH) (t g b : Nat) : (h.setTok t g).box b = h.box b := rfl
theorem new_nb (h : AH) (cs : List AV) : (h.new cs).nb = h.nb + 1 := rfl
theorem set_nb (h : AH) (b : Nat) (cs : List AV) : (h.set b cs).nb = h.nb := rfl
theorem kill_nb (h : AH) (b : Nat) : (h.kill b).nb = h.nb := rfl
theorem newTok_nb (h : AH) : h.newTok.nb = h.nb := rfl
theorem setTok_nb (h : AH) (t g : Nat) : (h.setTok t g).nb = h.nb := rfl
theorem new_nt (h : AH) (cs : List AV) : (h.new cs).nt = h.nt := rfl
theorem set_nt (h : AH) (b : Nat) (cs : List AV) : (h.set b cs).nt = h.nt := rfl
theorem kill_nt (h : AH) (b : Nat) : (h.kill b).nt = h.nt := rfl
theorem newTok_nt (h : AH) : h.newTok.nt = h.nt + 1 := rfl
theorem setTok_nt (h : AH) (t g : Nat) : (h.setTok t g).nt = h.nt := rfl
theorem new_tok (h : AH) (cs : List AV) (t : Nat) : (h.new cs).tok t = h.tok t := rfl
theorem set_tok (h : AH) (b : Nat) (cs : List AV) (t : Nat) : (h.set b cs).tok t = h.tok t := rfl
theorem kill_tok (h : AH) (b : Nat) (t : Nat) : (h.kill b).tok t = h.tok t := rfl
theorem newTok_tok (h : AH) (t : Nat) : h.newTok.tok t = if t = h.nt then some 0 else h.tok t := rfl
theorem setTok_tok (h : AH) (t0 g t : Nat) : (h.setTok t0 g).tok t = if t = t0 then some g else h.tok t := rfl

theorem ev_tmp (s : AS) (t : Nat) : ev s (.tmp t) = s t := rfl
theorem ev_func (s : AS) (f : Nat) : ev s (.func f) = .fn (.func f) [] [] := rfl
theorem ev_int (s : AS) (k : IntKind) (n : Int) : ev s (.const (.int k n)) = .int k n := rfl
theorem ev_bool (s : AS) (b : Bool) : ev s (.const (.bool b)) = .bool b := rfl
theorem ev_str (s : AS) (b : ByteArray) : ev s (.const (.string b)) = .str b := rfl
theorem ev_nilp (s : AS) : ev s (.const (.pointer none)) = .nilp := rfl
theorem ev_nils (s : AS) : ev s (.const (.slice none 0 0)) = .sl .full 0 [] := rfl
theorem ev_nilf (s : AS) : ev s (.const .nilFunc) = .nilf := rfl
theorem ev_nili (s : AS) : ev s (.const .nilIface) = .nili := rfl
theorem ev_agg (s : AS) (cs : Array Value) : ev s (.const (.agg cs)) = .agg (cs.toList.map avOf1) := rfl
theorem avOf1_int (k : IntKind) (n : Int) : avOf1 (.int k n) = .int k n := rfl
theorem avOf1_bool (b : Bool) : avOf1 (.bool b) = .bool b := rfl
theorem avOf1_str (s : ByteArray) : avOf1 (.string s) = .str s := rfl
theorem avOf1_nilp : avOf1 (.pointer none) = .nilp := rfl
theorem avOf1_nils : avOf1 (.slice none 0 0) = .sl .full 0 [] := rfl
theorem avOf1_nilf : avOf1 .nilFunc = .nilf := rfl
theorem avOf1_nili : avOf1 .nilIface = .nili := rfl

def goR : Option AV → AH → OpR
  | some v, h => .go v h
  | none, _ => .bad
theorem goR_some (v : AV) (h : AH) : goR (some v) h = .go v h := rfl
def goR2 : Option (AV × AH) → OpR
  | some (v, h) => .go v h
  | none => .bad
theorem goR2_some (v : AV) (h : AH) : goR2 (some (v, h)) = .go v h := rfl
def goH : Option AH → OpR
  | some h => .go .dead h
  | none => .bad
theorem goH_some (h : AH) : goH (some h) = .go .dead h := rfl
def evp (s : AS) (p : Nat × Operand) : Nat × AV := (p.1, ev s p.2)
theorem evp_mk (s : AS) (i : Nat) (x : Operand) : evp s (i, x) = (i, ev s x) := rfl

section
variable (te : TE) (s : AS) (h : AH)
theorem aop_move (x : Operand) : aop te s h (.move x) = .go (ev s x) h := rfl
theorem aop_assign (x : Operand) : aop te s h (.assign x) = .go (ev s x) h := rfl
def pickR (c a b : AV) (h : AH) : OpR := match c with | .bool c => .go (apick c a b) h | _ => .bad
theorem aop_pick (c a b : Operand) : aop te s h (.pick c a b) = pickR (ev s c) (ev s a) (ev s b) h := by
  simp only [aop, apure, pickR]; cases ev s c <;> rfl
theorem pickR_bool (c : Bool) (a b : AV) : pickR (.bool c) a b h = .go (apick c a b) h := rfl
theorem apick_eq (c : Bool) (a b : AV) : apick c a b = mkO (bif c then (unopt a).1 else (unopt b).1) (pickV c (unopt a).2 (unopt b).2) := rfl
theorem unopt_int (k : IntKind) (n : Int) : unopt (.int k n) = (true, .int k n) := rfl
theorem unopt_bool (b : Bool) : unopt (.bool b) = (true, .bool b) := rfl
theorem unopt_str (b : ByteArray) : unopt (.str b) = (true, .str b) := rfl
theorem unopt_nilp  : unopt (.nilp) = (true, .nilp) := rfl
theorem unopt_ptr (b o : Nat) : unopt (.ptr b o) = (true, .ptr b o) := rfl
theorem unopt_rptr (cs : List AV) : unopt (.rptr cs) = (true, .rptr cs) := rfl
theorem unopt_sl (t : Tag) (z : Nat) (xs : List AV) : unopt (.sl t z xs) = (true, .sl t z xs) := rfl
theorem unopt_mc (b o n k z : Nat) : unopt (.mc b o n k z) = (true, .mc b o n k z) := rfl
theorem unopt_ms (b o n z : Nat) : unopt (.ms b o n z) = (true, .ms b o n z) := rfl
theorem unopt_fn (f : Fn) (a b : List AV) : unopt (.fn f a b) = (true, .fn f a b) := rfl
theorem unopt_nilf  : unopt (.nilf) = (true, .nilf) := rfl
theorem unopt_iface (t : TypeId) (v : AV) : unopt (.iface t v) = (true, .iface t v) := rfl
theorem unopt_nili  : unopt (.nili) = (true, .nili) := rfl
theorem unopt_agg (cs : List AV) : unopt (.agg cs) = (true, .agg cs) := rfl
theorem unopt_tup (cs : List AV) : unopt (.tup cs) = (true, .tup cs) := rfl
theorem unopt_dead  : unopt (.dead) = (true, .dead) := rfl
theorem unopt_opt (b : Bool) (v : AV) : unopt (.opt b v) = (b, v) := rfl
theorem unopt_undef : unopt undefA = (false, .dead) := rfl
theorem isDead_undef : undefA.isDead = true := rfl
theorem mkO_true (v : AV) : mkO true v = v := rfl
theorem pickV_bool (c x y : Bool) : pickV c (.bool x) (.bool y) = .bool (bif c then x else y) := rfl
theorem pickV_true (a b : AV) : pickV true a b = a := by cases a <;> cases b <;> rfl
theorem pickV_false (a b : AV) : pickV false a b = b := by cases a <;> cases b <;> rfl
theorem cond_st (a : Bool) : (bif a then a else true) = true := by cases a <;> rfl
theorem cond_tn (a : Bool) : (bif a then true else !a) = true := by cases a <;> rfl
theorem cond_and (a b : Bool) : (bif a then b else false) = (a && b) := by cases a <;> rfl
theorem cond_or (a b : Bool) : (bif a then true else b) = (a || b) := by cases a <;> rfl
theorem and_or_in (x y z : Bool) : (x && (y || (x && z))) = (x && (y || z)) := by cases x <;> rfl
theorem and_or_in2 (x y z : Bool) : (x && ((x && z) || y)) = (x && (z || y)) := by cases x <;> rfl
theorem cond_in (x y : Bool) : (bif x then (x && y) else true) = bif x then y else true := by cases x <;> rfl
theorem cond_in2 (x y : Bool) : (bif x then true else (!x && y)) = bif x then true else y := by cases x <;> rfl
theorem cond_and_l (q p : Bool) : (bif q then (p && q) else true) = (bif q then p else true) := by cases q <;> cases p <;> rfl
theorem cond_and_l2 (q p : Bool) : (bif q then true else (p && !q)) = (bif q then true else p) := by cases q <;> cases p <;> rfl
theorem and_cond_abs (p q : Bool) : (p && bif q then p else true) = p := by cases q <;> cases p <;> rfl
theorem and_cond_abs2 (p q : Bool) : (p && bif q then true else p) = p := by cases q <;> cases p <;> rfl
theorem cond_tt (x : Bool) : (bif x then true else true) = true := by cases x <;> rfl
theorem beq_t (a : Bool) : (a == true) = a := by cases a <;> rfl
theorem beq_f (a : Bool) : (a == false) = !a := by cases a <;> rfl
def tmpsOf (xs : List Operand) : List Nat := xs.filterMap fun | .tmp t => some t | _ => none
theorem tmpsOf_nil : tmpsOf [] = [] := rfl
theorem tmpsOf_tmp (t : Nat) (xs : List Operand) : tmpsOf (.tmp t :: xs) = t :: tmpsOf xs := rfl
theorem tmpsOf_const (v : Value) (xs : List Operand) : tmpsOf (.const v :: xs) = tmpsOf xs := rfl
theorem tmpsOf_func (f : FuncId) (xs : List Operand) : tmpsOf (.func f :: xs) = tmpsOf xs := rfl
theorem onlyS_app (s : AS) (l : List Nat) (t : Nat) : onlyS s l t = if l.contains t = true then (unopt (s t)).2 else .dead := rfl
theorem opValid_nil (s : AS) : opValid s [] = true := rfl
theorem opValid_cons (s : AS) (t : Nat) (ts : List Nat) : opValid s (t :: ts) = ((unopt (s t)).1 && opValid s ts) := rfl
theorem lzk_pick (g : Bool) (dst : Option Nat) (c a b : Operand) (k : AK) (Q : AQ) : lzk te g dst (.pick c a b) s h k Q = (match unopt (ev s c) with
    | (bc, .bool x) => (g = true → bc = true) ∧ k (putD s dst (.opt (g && (bif x then (unopt (ev s a)).1 else (unopt (ev s b)).1)) (pickV x (unopt (ev s a)).2 (unopt (ev s b)).2))) h Q
    | _ => False) := rfl
theorem lzk_indexAddr (t : Nat) (x i : Operand) (g : Bool) (dst : Option Nat) (k : AK) (Q : AQ) : lzk te g dst (.indexAddr t x i) s h k Q = lzR (aindexAddr te t (ev (onlyS s (tmpsOf [x, i])) x) (ev (onlyS s (tmpsOf [x, i])) i)) g (opValid s (tmpsOf [x, i])) dst s h k Q := rfl
theorem lzk_index (t : Nat) (x i : Operand) (g : Bool) (dst : Option Nat) (k : AK) (Q : AQ) : lzk te g dst (.index t x i) s h k Q = lzR (aindex te t (ev (onlyS s (tmpsOf [x, i])) x) (ev (onlyS s (tmpsOf [x, i])) i)) g (opValid s (tmpsOf [x, i])) dst s h k Q := rfl
theorem lzk_move (x : Operand) (g : Bool) (dst : Option Nat) (k : AK) (Q : AQ) : lzk te g dst (.move x) s h k Q = lzR (some (ev (onlyS s (tmpsOf [x])) x)) g (opValid s (tmpsOf [x])) dst s h k Q := rfl
theorem lzk_binOp (op : BinOp) (t : Nat) (x y : Operand) (u : Nat) (g : Bool) (dst : Option Nat) (k : AK) (Q : AQ) : lzk te g dst (.binOp op t x y u) s h k Q = lzR (abin op (ev (onlyS s (tmpsOf [x, y])) x) (ev (onlyS s (tmpsOf [x, y])) y)) g (opValid s (tmpsOf [x, y])) dst s h k Q := rfl
theorem lzk_unOp (op : UnOp) (t : Nat) (x : Operand) (g : Bool) (dst : Option Nat) (k : AK) (Q : AQ) : lzk te g dst (.unOp op t x) s h k Q = lzR (aun op (ev (onlyS s (tmpsOf [x])) x)) g (opValid s (tmpsOf [x])) dst s h k Q := rfl
theorem lzk_convert (t u : Nat) (x : Operand) (g : Bool) (dst : Option Nat) (k : AK) (Q : AQ) : lzk te g dst (.convert t u x) s h k Q = lzR (aconv te t u (ev (onlyS s (tmpsOf [x])) x)) g (opValid s (tmpsOf [x])) dst s h k Q := rfl
theorem lzk_load (t : Nat) (x : Operand) (g : Bool) (dst : Option Nat) (k : AK) (Q : AQ) : lzk te g dst (.load t x) s h k Q = lzR (aload te t (ev (onlyS s (tmpsOf [x])) x) h) g (opValid s (tmpsOf [x])) dst s h k Q := rfl
theorem lzk_fieldAddr (t : Nat) (x : Operand) (n : Nat) (g : Bool) (dst : Option Nat) (k : AK) (Q : AQ) : lzk te g dst (.fieldAddr t x n) s h k Q = lzR (afield te t (ev (onlyS s (tmpsOf [x])) x) n) g (opValid s (tmpsOf [x])) dst s h k Q := rfl
theorem lzk_field (t : Nat) (x : Operand) (n : Nat) (g : Bool) (dst : Option Nat) (k : AK) (Q : AQ) : lzk te g dst (.field t x n) s h k Q = lzR (agetField te t n (ev (onlyS s (tmpsOf [x])) x)) g (opValid s (tmpsOf [x])) dst s h k Q := rfl
theorem lzk_nilCheck (x : Operand) (g : Bool) (dst : Option Nat) (k : AK) (Q : AQ) : lzk te g dst (.nilCheck x) s h k Q = lzR (anil (ev (onlyS s (tmpsOf [x])) x)) g (opValid s (tmpsOf [x])) dst s h k Q := rfl
theorem lzk_extract (x : Operand) (n : Nat) (g : Bool) (dst : Option Nat) (k : AK) (Q : AQ) : lzk te g dst (.extract x n) s h k Q = lzR (anth (ev (onlyS s (tmpsOf [x])) x) n) g (opValid s (tmpsOf [x])) dst s h k Q := rfl
theorem lzk_len (x : Operand) (t : Nat) (g : Bool) (dst : Option Nat) (k : AK) (Q : AQ) : lzk te g dst (.call ⟨.builtin .len, #[x], #[t]⟩) s h k Q = lzR (alen te t (ev (onlyS s (tmpsOf [x])) x)) g (opValid s (tmpsOf [x])) dst s h k Q := rfl
def allocR (i : Option TI) (h : AH) : OpR := match i with | some i => .go (.ptr h.nb 0) (h.new i.av.cells) | none => .bad
theorem aop_alloc (t : Nat) : aop te s h (.alloc t) = allocR (te t) h := rfl
theorem allocR_some (i : TI) : allocR (some i) h = .go (.ptr h.nb 0) (h.new i.av.cells) := rfl
def boxR (v : AV) (h : AH) : OpR := if v.cells.all AV.one then .go (.ptr h.nb 0) (h.new v.cells) else .bad
theorem aop_box (t : Nat) (x : Operand) : aop te s h (.box t x) = boxR (ev s x) h := rfl
def noDead : List (Nat × AV) → Bool
  | [] => true
  | p :: ps => !p.2.isDead && noDead ps
def buildR (te : TE) (t : Nat) (ps : List (Nat × AV)) (h : AH) : OpR := if noDead ps then goR (abuild te t ps) h else .bad
theorem noDead_all (l : List (Nat × Operand)) : noDead (l.map (evp s)) = l.all fun p => !(ev s p.2).isDead := by
  induction l with
  | nil => rfl
  | cons p l ih => simp [noDead, evp, ih]
theorem aop_build (t : Nat) (parts : Array (Nat × Operand)) : aop te s h (.build t parts) = buildR te t (parts.toList.map (evp s)) h := by
  have e1 : aop te s h (.build t parts) = goR (if (parts.toList.all fun p => !(ev s p.2).isDead) then abuild te t (parts.toList.map (evp s)) else none) h := by
    show (match (if (parts.toList.all fun p => !(ev s p.2).isDead) then abuild te t (parts.toList.map (evp s)) else none) with | some v => OpR.go v h | none => .bad) = _
    cases (if (parts.toList.all fun p => !(ev s p.2).isDead) then abuild te t (parts.toList.map (evp s)) else none) <;> rfl
  rw [e1, buildR, noDead_all]
  split <;> rfl
theorem aop_buildSlice (t len : Nat) (parts : Array (Nat × Operand)) : aop te s h (.buildSlice t len parts) = goR (alit te t len (parts.toList.map (evp s))) h := by
  show (match alit te t len (parts.toList.map (evp s)) with | some v => OpR.go v h | none => .bad) = _
  cases alit te t len (parts.toList.map (evp s)) <;> rfl
theorem goR_match (x : Option AV) : (match x with | some v => OpR.go v h | none => .bad) = goR x h := by cases x <;> rfl
theorem aop_load (t : Nat) (a : Operand) : aop te s h (.load t a) = goR (aload te t (ev s a) h) h := goR_match h _
theorem aop_store (t : Nat) (a x : Operand) : aop te s h (.store t a x) = goH (astore te t (ev s a) (ev s x) h) := by
  show (match astore te t (ev s a) (ev s x) h with | some h' => OpR.go .dead h' | none => .bad) = _
  cases astore te t (ev s a) (ev s x) h <;> rfl
theorem aop_nilCheck (x : Operand) : aop te s h (.nilCheck x) = goR (anil (ev s x)) h := goR_match h _
def binR (x : Option (AV × AV)) (r : Option AV) (h : AH) : OpR := match x with | some (v1, v2) => .two v1 v2 | none => goR r h
theorem binR_none (r : Option AV) (h : AH) : binR none r h = goR r h := rfl
theorem binR_some (v1 v2 : AV) (r : Option AV) (h : AH) : binR (some (v1, v2)) r h = .two v1 v2 := rfl
theorem aop_binOp (op : BinOp) (t : Nat) (x y : Operand) (u : Nat) : aop te s h (.binOp op t x y u) = binR (acmpnil te op t (ev s x) (ev s y)) (abin op (ev s x) (ev s y)) h := by
  show (match acmpnil te op t (ev s x) (ev s y) with | some (v1, v2) => OpR.two v1 v2 | none => (match abin op (ev s x) (ev s y) with | some v => OpR.go v h | none => .bad)) = _
  cases acmpnil te op t (ev s x) (ev s y) with
  | none => exact goR_match h _
  | some v => rfl
theorem acmpnil_int (op : BinOp) (t : Nat) (k k' : IntKind) (x y : Int) : acmpnil te op t (.int k x) (.int k' y) = none := rfl
theorem acmpnil_str (op : BinOp) (t : Nat) (x y : ByteArray) : acmpnil te op t (.str x) (.str y) = none := rfl
theorem aop_unOp (op : UnOp) (t : Nat) (x : Operand) : aop te s h (.unOp op t x) = goR (aun op (ev s x)) h := goR_match h _
theorem aop_convert (t u : Nat) (x : Operand) : aop te s h (.convert t u x) = convR te h t u (ev s x) := rfl
theorem aop_typeAssert (x : Operand) (xt t : Nat) (ok : Bool) : aop te s h (.typeAssert x xt t ok) = goR (atype te t ok (ev s x)) h := goR_match h _
theorem goR2_match (x : Option (AV × AH)) : (match x with | some (v, h') => OpR.go v h' | none => .bad) = goR2 x := by cases x <;> rfl
theorem aop_makeSlice (t : Nat) (l c : Operand) : aop te s h (.makeSlice t l c) = goR2 (amake te h t (ev s l) (ev s c)) := goR2_match _
theorem aop_copy (x y : Operand) (t u : Nat) : aop te s h (.call ⟨.builtin .copy, #[x, y], #[t, u]⟩) = goR2 (acopy te h t (ev s x).low (ev s y).low) := goR2_match _
def goT : Option AH → OpR
  | some h => .go (.tup []) h
  | none => .bad
theorem goT_some (h : AH) : goT (some h) = .go (.tup []) h := rfl
theorem aop_clear (x : Operand) (t : Nat) : aop te s h (.call ⟨.builtin .clear, #[x], #[t]⟩) = goT (aclear te h t (ev s x).low) := by
  show (match aclear te h t (ev s x).low with | some h' => OpR.go (.tup []) h' | none => .bad) = _
  cases aclear te h t (ev s x).low <;> rfl
def capR (te : TE) (t : Nat) (x : AV) (h : AH) : OpR := match te t, x with | some ⟨.slice _, _, _, _⟩, .mc _ _ _ k _ => .go (.int .i64 k) h | _, _ => .bad
theorem aop_cap (x : Operand) (t : Nat) : aop te s h (.call ⟨.builtin .cap, #[x], #[t]⟩) = capR te t (ev s x) h := rfl
theorem aop_makeInterface (t : Nat) (x : Operand) : aop te s h (.makeInterface t x) = goR (aiface te t (ev s x)) h := goR_match h _
theorem aop_makeFunc (f : Fn) (a b : Array Operand) : aop te s h (.makeFunc f a b) = .go (.fn f (a.toList.map (ev s)) (b.toList.map (ev s))) h := rfl
theorem aop_slice (t : Nat) (x : Operand) (lo hi mx : Option Operand) : aop te s h (.slice t x lo hi mx) = goR (aslice te t (ev s x) (lo.map (ev s)) (hi.map (ev s)) (mx.map (ev s))) h := goR_match h _
theorem aop_fieldAddr (t : Nat) (x : Operand) (k : Nat) : aop te s h (.fieldAddr t x k) = goR (afield te t (ev s x) k) h := goR_match h _
theorem aop_field (t : Nat) (x : Operand) (k : Nat) : aop te s h (.field t x k) = goR (agetField te t k (ev s x)) h := goR_match h _
theorem aop_indexAddr (t : Nat) (x i : Operand) : aop te s h (.indexAddr t x i) = goR (aindexAddr te t (ev s x) (ev s i)) h := goR_match h _
theorem aop_index (t : Nat) (x i : Operand) : aop te s h (.index t x i) = goR (aindex te t (ev s x) (ev s i)) h := goR_match h _
theorem aop_extract (x : Operand) (i : Nat) : aop te s h (.extract x i) = goR (anth (ev s x) i) h := goR_match h _
theorem aop_call (f : Operand) (args : Array Operand) (ts : Array Nat) : aop te s h (.call ⟨.value f, args, ts⟩) = .call (ev s f) (args.toList.map (ev s)) := rfl
theorem aop_len (x : Operand) (t : Nat) : aop te s h (.call ⟨.builtin .len, #[x], #[t]⟩) = goR (alen te t (ev s x)) h := goR_match h _
theorem aop_append (x y : Operand) (t u : Nat) : aop te s h (.call ⟨.builtin .append, #[x, y], #[t, u]⟩) = appR te h t u (ev s x) (ev s y) := rfl
theorem aop_min (x y : Operand) (ts : Array Nat) : aop te s h (.call ⟨.builtin .min, #[x, y], ts⟩) = goR (amin (ev s x) (ev s y)) h := goR_match h _
theorem aop_max (x y : Operand) (ts : Array Nat) : aop te s h (.call ⟨.builtin .max, #[x, y], ts⟩) = goR (amax (ev s x) (ev s y)) h := goR_match h _
def panR (v : AV) : OpR := match v with | .iface t v => .panic (.iface t v) | _ => .bad
theorem aop_panic (x : Operand) : aop te s h (.panic x) = panR (ev s x) := by
  simp only [aop, panR]; cases ev s x <;> rfl
theorem panR_iface (t : Nat) (v : AV) : panR (.iface t v) = .panic (.iface t v) := rfl

/-! Loads and stores at a known place. -/
def loadB (i : Option TI) (o : Nat) (b : Option (List AV)) : Option AV := match i, b with | some i, some cs => takeAs i (cs.drop o) | _, _ => none
theorem aload_ptr (t b o : Nat) : aload te t (.ptr b o) h = loadB (te t) o (h.box b) := by
  unfold aload loadB; cases te t <;> cases hb : h.box b <;> simp [hb]
theorem loadB_some (i : TI) (o : Nat) (cs : List AV) : loadB (some i) o (some cs) = takeAs i (cs.drop o) := rfl
def loadR (i : Option TI) (cs : List AV) : Option AV := match i with | some i => takeAs i cs | none => none
theorem aload_rptr (t : Nat) (cs : List AV) : aload te t (.rptr cs) h = loadR (te t) cs := by
  unfold aload loadR; cases te t <;> rfl
theorem loadR_some (i : TI) (cs : List AV) : loadR (some i) cs = takeAs i cs := rfl
theorem takeAs_struct (fs : List (Nat × Nat)) (sz by_ : Nat) (z : List ZC) (cs : List AV) : takeAs ⟨.struct fs, sz, by_, z⟩ cs = if sz ≤ cs.length then some (.agg (cs.take sz)) else none := rfl
theorem takeAs_arr (n e sz by_ : Nat) (z : List ZC) (cs : List AV) : takeAs ⟨.arr n e, sz, by_, z⟩ cs = if sz ≤ cs.length then some (.agg (cs.take sz)) else none := rfl
theorem takeAs_int (k : IntKind) (sz by_ : Nat) (z : List ZC) (c : AV) (cs : List AV) : takeAs ⟨.int k, sz, by_, z⟩ (c :: cs) = some c := rfl
theorem takeAs_bool (sz by_ : Nat) (z : List ZC) (c : AV) (cs : List AV) : takeAs ⟨.bool, sz, by_, z⟩ (c :: cs) = some c := rfl
theorem takeAs_str (sz by_ : Nat) (z : List ZC) (c : AV) (cs : List AV) : takeAs ⟨.str, sz, by_, z⟩ (c :: cs) = some c := rfl
theorem takeAs_ptr (e sz by_ : Nat) (z : List ZC) (c : AV) (cs : List AV) : takeAs ⟨.ptr e, sz, by_, z⟩ (c :: cs) = some c := rfl
theorem takeAs_slice (e sz by_ : Nat) (z : List ZC) (c : AV) (cs : List AV) : takeAs ⟨.slice e, sz, by_, z⟩ (c :: cs) = some c := rfl
theorem takeAs_iface (sz by_ : Nat) (z : List ZC) (c : AV) (cs : List AV) : takeAs ⟨.iface, sz, by_, z⟩ (c :: cs) = some c := rfl
theorem takeAs_func (sz by_ : Nat) (z : List ZC) (c : AV) (cs : List AV) : takeAs ⟨.func, sz, by_, z⟩ (c :: cs) = some c := rfl
def storeB (i : Option TI) (b o : Nat) (cs : Option (List AV)) (v : List AV) (h : AH) : Option AH := match i, cs with
  | some i, some cs => if v.length = i.size ∧ v.all AV.one = true ∧ o + i.size ≤ cs.length then some (h.set b (cs.take o ++ v ++ cs.drop (o + i.size))) else none
  | _, _ => none
theorem astore_ptr (t b o : Nat) (v : AV) : astore te t (.ptr b o) v h = storeB (te t) b o (h.box b) v.cells h := by
  unfold astore storeB; cases te t <;> cases hb : h.box b <;> simp [hb]
theorem cells_agg (cs : List AV) : (AV.agg cs).cells = cs := rfl
theorem cells_int (k : IntKind) (n : Int) : (AV.int k n).cells = [.int k n] := rfl
theorem cells_bool (b : Bool) : (AV.bool b).cells = [.bool b] := rfl
theorem cells_str (b : ByteArray) : (AV.str b).cells = [.str b] := rfl
theorem cells_ptr (b o : Nat) : (AV.ptr b o).cells = [.ptr b o] := rfl
theorem cells_rptr (cs : List AV) : (AV.rptr cs).cells = [.rptr cs] := rfl
theorem cells_nilp : AV.nilp.cells = [.nilp] := rfl
theorem cells_sl (t : Tag) (z : Nat) (xs : List AV) : (AV.sl t z xs).cells = [.sl t z xs] := rfl
theorem cells_mc (b o n k z : Nat) : (AV.mc b o n k z).cells = [.mc b o n k z] := rfl
theorem cells_ms (b o n z : Nat) : (AV.ms b o n z).cells = [.ms b o n z] := rfl
theorem cells_fn (f : Fn) (a b : List AV) : (AV.fn f a b).cells = [.fn f a b] := rfl
theorem cells_nilf : AV.nilf.cells = [.nilf] := rfl
theorem cells_iface (t : TypeId) (v : AV) : (AV.iface t v).cells = [.iface t v] := rfl
theorem cells_nili : AV.nili.cells = [.nili] := rfl
theorem one_int (k : IntKind) (n : Int) : (AV.int k n).one = true := rfl
theorem one_bool (b : Bool) : (AV.bool b).one = true := rfl
theorem one_str (b : ByteArray) : (AV.str b).one = true := rfl
theorem one_ptr (b o : Nat) : (AV.ptr b o).one = true := rfl
theorem one_rptr (cs : List AV) : (AV.rptr cs).one = true := rfl
theorem one_nilp : AV.nilp.one = true := rfl
theorem one_sl (t : Tag) (z : Nat) (xs : List AV) : (AV.sl t z xs).one = true := rfl
theorem one_mc (b o n k z : Nat) : (AV.mc b o n k z).one = true := rfl
theorem one_ms (b o n z : Nat) : (AV.ms b o n z).one = true := rfl
theorem one_fn (f : Fn) (a b : List AV) : (AV.fn f a b).one = true := rfl
theorem one_nilf : AV.nilf.one = true := rfl
theorem one_iface (t : TypeId) (v : AV) : (AV.iface t v).one = true := rfl
theorem one_nili : AV.nili.one = true := rfl
theorem av_struct (fs : List (Nat × Nat)) (sz by_ : Nat) (z : List ZC) : TI.av ⟨.struct fs, sz, by_, z⟩ = .agg (z.map ZC.av) := rfl
theorem av_arr (n e sz by_ : Nat) (z : List ZC) : TI.av ⟨.arr n e, sz, by_, z⟩ = .agg (z.map ZC.av) := rfl
theorem av_int (k : IntKind) (sz by_ : Nat) (z : ZC) : TI.av ⟨.int k, sz, by_, [z]⟩ = z.av := rfl
theorem av_bool (sz by_ : Nat) (z : ZC) : TI.av ⟨.bool, sz, by_, [z]⟩ = z.av := rfl
theorem av_str (sz by_ : Nat) (z : ZC) : TI.av ⟨.str, sz, by_, [z]⟩ = z.av := rfl
theorem av_ptr (e sz by_ : Nat) (z : ZC) : TI.av ⟨.ptr e, sz, by_, [z]⟩ = z.av := rfl
theorem av_slice (e sz by_ : Nat) (z : ZC) : TI.av ⟨.slice e, sz, by_, [z]⟩ = z.av := rfl
theorem av_iface (sz by_ : Nat) (z : ZC) : TI.av ⟨.iface, sz, by_, [z]⟩ = z.av := rfl
theorem av_func (sz by_ : Nat) (z : ZC) : TI.av ⟨.func, sz, by_, [z]⟩ = z.av := rfl
theorem zav_int (k : IntKind) : (ZC.int k).av = .int k 0 := rfl
theorem zav_bool : ZC.bool.av = .bool false := rfl
theorem zav_str : ZC.str.av = .str ⟨#[]⟩ := rfl
theorem zav_nilp : ZC.nilp.av = .nilp := rfl
theorem zav_nils : ZC.nils.av = .sl .full 0 [] := rfl
theorem zav_nilf : ZC.nilf.av = .nilf := rfl
theorem zav_nili : ZC.nili.av = .nili := rfl
theorem anil_ptr (b o : Nat) : anil (.ptr b o) = some (.ptr b o) := rfl
theorem anil_rptr (cs : List AV) : anil (.rptr cs) = some (.rptr cs) := rfl
theorem anil_fn (f : Nat) (a b : List AV) : anil (.fn (.func f) a b) = some (.fn (.func f) a b) := rfl
theorem anth_tup (vs : List AV) (i : Nat) : anth (.tup vs) i = vs[i]? := rfl
def fieldB (p : AV) (i : Option TI) (off : Nat) : Option AV := match i, p with
  | some i, .ptr b o => if i.size = 0 then none else some (.ptr b (o + off))
  | some i, .rptr cs => if i.size = 0 then none else some (.rptr (cs.drop off))
  | _, _ => none
def fieldF (te : TE) (p : AV) (x : Option (Nat × Nat)) : Option AV := match x with | some (off, ft) => fieldB p (te ft) off | none => none
def fieldT (te : TE) (p : AV) (k : Nat) (i : Option TI) : Option AV := match i with | some ⟨.struct fs, _, _, _⟩ => fieldF te p fs[k]? | _ => none
theorem afield_eq (t : Nat) (p : AV) (k : Nat) : afield te t p k = fieldT te p k (te t) := by
  unfold afield fieldT
  split
  · next fs a b c e =>
    rw [e]
    simp only [fieldF]
    cases fs[k]? with
    | none => rfl
    | some x =>
      obtain ⟨off, ft⟩ := x
      simp only [fieldB]
      cases te ft with
      | none => rfl
      | some i => cases p <;> simp
  · next hne =>
    split
    · next fs a b c e => exact absurd e (hne _ _ _ _)
    · rfl
theorem fieldT_struct (p : AV) (k : Nat) (fs : List (Nat × Nat)) (a b : Nat) (c : List ZC) : fieldT te p k (some ⟨.struct fs, a, b, c⟩) = fieldF te p fs[k]? := rfl
theorem fieldF_some (p : AV) (off ft : Nat) : fieldF te p (some (off, ft)) = fieldB p (te ft) off := rfl
theorem fieldB_ptr (b o off : Nat) (k : AT) (sz by_ : Nat) (z : List ZC) : fieldB (.ptr b o) (some ⟨k, sz, by_, z⟩) off = if sz = 0 then none else some (.ptr b (o + off)) := rfl
theorem fieldB_rptr (cs : List AV) (off : Nat) (k : AT) (sz by_ : Nat) (z : List ZC) : fieldB (.rptr cs) (some ⟨k, sz, by_, z⟩) off = if sz = 0 then none else some (.rptr (cs.drop off)) := rfl
def lenB (x : AV) (i : Option TI) : Option AV := match i, x with
  | some ⟨.str, _, _, _⟩, .str s => some (.int .i64 s.size)
  | some ⟨.slice _, _, _, _⟩, .sl _ _ xs => some (.int .i64 xs.length)
  | some ⟨.slice _, _, _, _⟩, .ms _ _ n _ => some (.int .i64 n)
  | some ⟨.slice _, _, _, _⟩, .mc _ _ n _ _ => some (.int .i64 n)
  | _, _ => none
theorem alen_eq (t : Nat) (x : AV) : alen te t x = lenB x (te t) := by
  unfold alen lenB
  cases hx : te t with
  | none => cases x <;> rfl
  | some i => obtain ⟨k, a, b, c⟩ := i; cases k <;> cases x <;> rfl
theorem lenB_str (s : ByteArray) (a b : Nat) (c : List ZC) : lenB (.str s) (some ⟨.str, a, b, c⟩) = some (.int .i64 s.size) := rfl
theorem lenB_sl (t : Tag) (z : Nat) (xs : List AV) (e a b : Nat) (c : List ZC) : lenB (.sl t z xs) (some ⟨.slice e, a, b, c⟩) = some (.int .i64 xs.length) := rfl
theorem lenB_mc (b0 o n k z : Nat) (e a b : Nat) (c : List ZC) : lenB (.mc b0 o n k z) (some ⟨.slice e, a, b, c⟩) = some (.int .i64 n) := rfl
theorem lenB_ms (b0 o n z : Nat) (e a b : Nat) (c : List ZC) : lenB (.ms b0 o n z) (some ⟨.slice e, a, b, c⟩) = some (.int .i64 n) := rfl
end
end Go.Proofs.YtjdocenbfghglaaGreatDoor.AW
