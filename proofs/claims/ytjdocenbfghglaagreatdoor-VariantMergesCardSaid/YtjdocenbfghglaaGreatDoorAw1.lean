/- AW, part 1: abstract values, what they say of memory, and the laws of that. -/
import Derived.Calls
import Derived.Orders
import Derived.Below
import Derived.Laws.Append
import Derived.Laws.AppendOwn
import Derived.Laws.Slices
import Derived.WalkKit
set_option linter.unusedSimpArgs false
set_option linter.unusedVariables false
namespace Go.Proofs.YtjdocenbfghglaaGreatDoor.AW
open Go Go.RowKit

/-- What is known of a slice's room: nothing; that there is none; that it is token t's row, in its state g. -/
inductive Tag where
  | ro
  | full
  | tok (t g : Nat)
  deriving DecidableEq

/-- Abstract values. A slice is a list; a variable in memory is a numbered box. -/
inductive AV where
  | int (k : IntKind) (n : Int)
  | bool (b : Bool)
  | str (s : ByteArray)
  | nilp
  | ptr (b o : Nat)
  | rptr (cs : List AV)
  | sl (tag : Tag) (sz : Nat) (xs : List AV)
  | ms (b o n sz : Nat)
  | mc (b o n c sz : Nat)
  | fn (f : Fn) (first cap : List AV)
  | nilf
  | iface (t : TypeId) (v : AV)
  | nili
  | agg (cs : List AV)
  | tup (vs : List AV)
  | opt (b : Bool) (v : AV)
  | dead
  deriving Inhabited

def AV.cells : AV → List AV
  | .agg cs => cs
  | v => [v]

structure Mem where
  K : Nat → Nat → Option Value
  M : Nat → Option Nat
  T : Nat → Nat → Option (Nat × Nat × Nat)
  C : Nat → Nat

structure Mem.le (m m' : Mem) : Prop where
  K : ∀ b o v, m.K b o = some v → m'.K b o = some v
  M : ∀ b x, m.M b = some x → m'.M b = some x
  T : ∀ t g x, m.T t g = some x → m'.T t g = some x
  C : ∀ b x, m.M b = some x → m'.C b = m.C b
theorem Mem.le.refl (m : Mem) : m.le m := ⟨fun _ _ _ h => h, fun _ _ h => h, fun _ _ _ h => h, fun _ _ _ => rfl⟩
theorem Mem.le.trans {a b c : Mem} (h : a.le b) (k : b.le c) : a.le c :=
  ⟨fun _ _ _ x => k.K _ _ _ (h.K _ _ _ x), fun _ _ x => k.M _ _ (h.M _ _ x), fun _ _ _ x => k.T _ _ _ (h.T _ _ _ x), fun b x hx => (k.C b x (h.M b x hx)).trans (h.C b x hx)⟩

/-- What a slice's tag says of where it ends and of its capacity. -/
def tagOk (m : Mem) (tag : Tag) (blk o n cap sz : Nat) : Prop :=
  match tag with
  | .ro => True
  | .full => cap = n
  | .tok t g => m.T t g = some (blk, o + n * sz, o + cap * sz)
theorem tagOk.mono {m m' : Mem} (h : m.le m') {tag : Tag} {blk o n cap sz : Nat} (k : tagOk m tag blk o n cap sz) : tagOk m' tag blk o n cap sz := by
  cases tag with
  | ro => trivial
  | full => exact k
  | tok t g => exact h.T _ _ _ k

/-- The concrete value is what the abstract one says. -/
inductive VR (m : Mem) : AV → Value → Prop where
  | int (k : IntKind) (n : Int) : VR m (.int k n) (.int k n)
  | bool (b : Bool) : VR m (.bool b) (.bool b)
  | str (s : ByteArray) : VR m (.str s) (.string s)
  | nilp : VR m .nilp (.pointer none)
  | ptr (b o blk : Nat) : m.M b = some blk → VR m (.ptr b o) (.pointer (some ⟨blk, o, none⟩))
  | rptr (cs : List AV) (blk o : Nat) (f : Nat → Value) : (∀ j c, cs[j]? = some c → m.K blk (o + j) = some (f j)) → (∀ j c, cs[j]? = some c → VR m c (f j)) →
      VR m (.rptr cs) (.pointer (some ⟨blk, o, none⟩))
  | slnil (tag : Tag) (sz : Nat) : (∀ t g, tag ≠ .tok t g) → VR m (.sl tag sz []) (.slice none 0 0)
  | slemp (tag : Tag) (sz : Nat) (a : Addr) : 0 < sz → (∀ t g, tag ≠ .tok t g) → VR m (.sl tag sz []) (.slice (some a) 0 0)
  | sl (tag : Tag) (sz : Nat) (xs : List AV) (blk o cap : Nat) (f : Nat → Nat → Value) : 0 < sz → xs.length ≤ cap →
      (∀ (i : Nat) (x : AV), xs[i]? = some x → x.cells.length = sz) →
      (∀ (i : Nat) (x : AV), xs[i]? = some x → ∀ j, j < sz → m.K blk (o + i * sz + j) = some (f i j)) →
      (∀ (i : Nat) (x : AV), xs[i]? = some x → ∀ (j : Nat) (c : AV), x.cells[j]? = some c → VR m c (f i j)) →
      tagOk m tag blk o xs.length cap sz → VR m (.sl tag sz xs) (.slice (some ⟨blk, o, none⟩) xs.length cap)
  | ms (b o n sz blk cap : Nat) (a : Option Addr) : m.M b = some blk → (0 < cap → a = some ⟨blk, o, none⟩) → n ≤ cap → o + cap * sz ≤ m.C b → VR m (.ms b o n sz) (.slice a n cap)
  | mc (b o n c sz blk : Nat) (a : Option Addr) : m.M b = some blk → (0 < c → a = some ⟨blk, o, none⟩) → n ≤ c → o + c * sz ≤ m.C b → VR m (.mc b o n c sz) (.slice a n c)
  | fn (f : Fn) (first cap : List AV) (first' cap' : Array Value) : first'.size = first.length → cap'.size = cap.length →
      (∀ i c, first[i]? = some c → VR m c (first'.getD i undef)) → (∀ i c, cap[i]? = some c → VR m c (cap'.getD i undef)) → VR m (.fn f first cap) (.func f first' cap')
  | nilf : VR m .nilf .nilFunc
  | iface (t : TypeId) (v : AV) (v' : Value) : VR m v v' → VR m (.iface t v) (.iface t v')
  | nili : VR m .nili .nilIface
  | agg (cs : List AV) (cs' : Array Value) : cs'.size = cs.length → (∀ i c, cs[i]? = some c → VR m c (cs'.getD i undef)) → VR m (.agg cs) (.agg cs')
  | tup (vs : List AV) (vs' : Array Value) : vs'.size = vs.length → (∀ i c, vs[i]? = some c → VR m c (vs'.getD i undef)) → VR m (.tup vs) (.tuple vs')
  | opt (b : Bool) (v : AV) (c : Value) : (b = true → VR m v c) → (b = false → c = undef) → VR m (.opt b v) c
  | dead (v : Value) : VR m .dead v

theorem VR.mono {m m' : Mem} (h : m.le m') {v : AV} {c : Value} (r : VR m v c) : VR m' v c := by
  induction r with
  | int k n => exact .int k n
  | bool b => exact .bool b
  | str s => exact .str s
  | nilp => exact .nilp
  | ptr b o blk hb => exact .ptr b o blk (h.M _ _ hb)
  | rptr cs blk o f hk _ ih => exact .rptr cs blk o f (fun j c hj => h.K _ _ _ (hk j c hj)) ih
  | slnil tag sz ht => exact .slnil tag sz ht
  | slemp tag sz a hz ht => exact .slemp tag sz a hz ht
  | sl tag sz xs blk o cap f hsz hcap hl hk _ ht ih => exact .sl tag sz xs blk o cap f hsz hcap hl (fun i x hi j hj => h.K _ _ _ (hk i x hi j hj)) ih (ht.mono h)
  | ms b o n sz blk cap a hb ha hc hd => exact .ms b o n sz blk cap a (h.M _ _ hb) ha hc (by rw [h.C _ _ hb]; exact hd)
  | mc b o n c sz blk a hb ha hc hd => exact .mc b o n c sz blk a (h.M _ _ hb) ha hc (by rw [h.C _ _ hb]; exact hd)
  | fn f first cap first' cap' h1 h2 _ _ ih1 ih2 => exact .fn f first cap first' cap' h1 h2 ih1 ih2
  | nilf => exact .nilf
  | iface t v v' _ ih => exact .iface t v v' ih
  | nili => exact .nili
  | agg cs cs' hs _ ih => exact .agg cs cs' hs ih
  | tup vs vs' hs _ ih => exact .tup vs vs' hs ih
  | opt b v c _ h2 ih => exact .opt b v c ih h2
  | dead v => exact .dead v

/-- The abstract heap: the boxes, the rows that may be appended to in place. -/
structure AH where
  box : Nat → Option (List AV)
  nb : Nat
  tok : Nat → Option Nat
  nt : Nat

def upd {α : Type} (f : Nat → α) (d : Nat) (v : α) : Nat → α := fun x => if x = d then v else f x
theorem upd_same {α : Type} (f : Nat → α) (d : Nat) (v : α) : upd f d v d = v := by simp [upd]
theorem upd_other {α : Type} (f : Nat → α) (d : Nat) (v : α) {x : Nat} (h : x ≠ d) : upd f d v x = f x := by simp [upd, h]

def AH.set (h : AH) (b : Nat) (cs : List AV) : AH := { h with box := upd h.box b (some cs) }
def AH.new (h : AH) (cs : List AV) : AH := { h with box := upd h.box h.nb (some cs), nb := h.nb + 1 }
def AH.kill (h : AH) (b : Nat) : AH := { h with box := upd h.box b none }
def AH.newTok (h : AH) : AH := { h with tok := upd h.tok h.nt (some 0), nt := h.nt + 1 }
def AH.setTok (h : AH) (t g : Nat) : AH := { h with tok := upd h.tok t (some g) }

/-- Whether boxes of a string's bytes are in use (their blocks bear a mark behind their last cell). -/
def allowMark : Bool := false
/-- A box's cells lie in a block of their own. -/
structure BoxAt (m : Mem) (w : World) (b : Nat) (cs : List AV) (blk : Nat) (arr : Array Value) (ty : TypeId) (fr : Nat × Nat) : Prop where
  here : w.heap[blk]? = some (.cells arr ty fr)
  size : cs.length ≤ arr.size
  free : fr.1 = fr.2 ∨ arr.size ≤ fr.1
  rel : ∀ (j : Nat) (c : AV), cs[j]? = some c → VR m c (arr.getD j undef)
  one : ∀ j : Nat, j < arr.size → (arr.getD j undef).oneCell' = true
  apart : ∀ o, m.K blk o = none
  cap : m.C b ≤ arr.size
  nomark : allowMark = false → fr.1 = fr.2

structure TokAt (m : Mem) (w : World) (blk e room : Nat) (arr : Array Value) (ty : TypeId) (fr : Nat × Nat) : Prop where
  here : w.heap[blk]? = some (.cells arr ty fr)
  free : fr.1 = fr.2 ∨ arr.size ≤ fr.1
  fits : e ≤ room ∧ room ≤ arr.size
  apart : ∀ o, e ≤ o → m.K blk o = none

/-- What is below a number stays; draws are only made. -/
structure Bel (B : Nat) (w w' : World) : Prop extends Below B w w' where
  drawn : w.drawn ≤ w'.drawn
theorem Bel.refl (B : Nat) (w : World) : Bel B w w := ⟨Below.refl B w, Nat.le_refl _⟩
theorem Bel.trans {B : Nat} {a b c : World} (h : Bel B a b) (k : Bel B b c) : Bel B a c := ⟨h.toBelow.trans k.toBelow, Nat.le_trans h.drawn k.drawn⟩
theorem Bel.mono {B B' : Nat} {w w' : World} (h : Bel B w w') (hB : B' ≤ B) : Bel B' w w' := ⟨h.toBelow.mono hB, h.drawn⟩
theorem Bel.drew {B : Nat} {a w : World} (h : Bel B a w) : Bel B a w.drew := ⟨h.toBelow.drew, Nat.le_succ_of_le h.drawn⟩
theorem Bel.alloc {B : Nat} {a w : World} (h : Bel B a w) (hB : B ≤ w.heap.size) (o : Obj) : Bel B a (w.alloc o) := ⟨h.toBelow.alloc hB o, h.drawn⟩

/-- The world in which all began, and which of its cells may be leant on. -/
structure Base extends World where
  keep : Nat → Nat → Prop

/-- The world is what the abstract heap says. w0: the world in which all began; B: its size. -/
structure WR (w0 : Base) (m : Mem) (w : World) (h : AH) : Prop where
  below : Bel w0.heap.size w0.toWorld w
  K : ∀ b o v, m.K b o = some v → w.cell? ⟨b, o, none⟩ = some v ∧ v.oneCell' = true
  Mlt : ∀ b x, m.M b = some x → b < h.nb
  Blt : ∀ b cs, h.box b = some cs → b < h.nb
  Tlt : ∀ t g x, m.T t g = some x → t < h.nt
  Klt : ∀ t g, h.tok t = some g → t < h.nt
  box : ∀ b cs, h.box b = some cs → ∃ blk arr ty fr, m.M b = some blk ∧ w0.heap.size ≤ blk ∧ BoxAt m w b cs blk arr ty fr
  tok : ∀ t g, h.tok t = some g → ∃ blk e room arr ty fr, m.T t g = some (blk, e, room) ∧ w0.heap.size ≤ blk ∧ TokAt m w blk e room arr ty fr
  gens : ∀ t g x g', m.T t g = some x → h.tok t = some g' → g ≤ g'
  bb : ∀ b b' cs cs' x, h.box b = some cs → h.box b' = some cs' → m.M b = some x → m.M b' = some x → b = b'
  tt : ∀ t t' g g' x x', h.tok t = some g → h.tok t' = some g' → m.T t g = some x → m.T t' g' = some x' → x.1 = x'.1 → t = t'
  bt : ∀ b t cs g x y, h.box b = some cs → h.tok t = some g → m.M b = some x → m.T t g = some y → x ≠ y.1
  past : ∀ b o v, m.K b o = some v → b < w0.heap.size → w0.keep b o

end Go.Proofs.YtjdocenbfghglaaGreatDoor.AW
