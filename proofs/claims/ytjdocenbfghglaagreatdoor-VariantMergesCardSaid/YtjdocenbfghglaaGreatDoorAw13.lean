/- AW, part 13: what a function leaves behind is forgotten at its end. -/
import Derived.Test.YtjdocenbfghglaaGreatDoorAw12
set_option linter.unusedSimpArgs false
set_option linter.unusedVariables false
namespace Go.Proofs.YtjdocenbfghglaaGreatDoor.AW
open Go Go.RowKit

mutual
/-- All boxes and rows that are named are old ones. -/
def AV.under (nb nt : Nat) : AV → Bool
  | .ptr b _ => decide (b < nb)
  | .ms b _ _ _ => decide (b < nb)
  | .mc b _ _ _ _ => decide (b < nb)
  | .rptr cs => AV.underL nb nt cs
  | .sl (.tok t _) _ xs => decide (t < nt) && AV.underL nb nt xs
  | .sl _ _ xs => AV.underL nb nt xs
  | .fn _ a b => AV.underL nb nt a && AV.underL nb nt b
  | .iface _ v => AV.under nb nt v
  | .opt b v => !b || AV.under nb nt v
  | .agg cs => AV.underL nb nt cs
  | .tup vs => AV.underL nb nt vs
  | .dead => true
  | .int _ _ => true
  | .bool _ => true
  | .str _ => true
  | .nilp => true
  | .nilf => true
  | .nili => true
def AV.underL (nb nt : Nat) : List AV → Bool
  | [] => true
  | v :: vs => AV.under nb nt v && AV.underL nb nt vs
end
mutual
/-- No row may be appended to through this value any more. -/
def AV.erase : AV → AV
  | .rptr cs => .rptr (AV.eraseL cs)
  | .sl (.tok _ _) sz xs => .sl .ro sz (AV.eraseL xs)
  | .sl .ro sz xs => .sl .ro sz (AV.eraseL xs)
  | .sl .full sz xs => .sl .ro sz (AV.eraseL xs)
  | .fn f a b => .fn f (AV.eraseL a) (AV.eraseL b)
  | .iface t v => .iface t (AV.erase v)
  | .opt b v => .opt b (AV.erase v)
  | .agg cs => .agg (AV.eraseL cs)
  | .tup vs => .tup (AV.eraseL vs)
  | .ptr b o => .ptr b o
  | .ms b o n sz => .ms b o n sz
  | .mc b o n c sz => .mc b o n c sz
  | .dead => .dead
  | .int k n => .int k n
  | .bool b => .bool b
  | .str s => .str s
  | .nilp => .nilp
  | .nilf => .nilf
  | .nili => .nili
def AV.eraseL : List AV → List AV
  | [] => []
  | v :: vs => AV.erase v :: AV.eraseL vs
end
theorem underL_iff {nb nt : Nat} : ∀ {l : List AV}, AV.underL nb nt l = true ↔ ∀ (i : Nat) (c : AV), l[i]? = some c → c.under nb nt = true := by
  intro l
  induction l with
  | nil => simp [AV.underL]
  | cons v vs ih =>
    simp only [AV.underL, Bool.and_eq_true, ih]
    constructor
    · rintro ⟨h1, h2⟩ i c hi
      cases i with
      | zero => simp at hi; subst hi; exact h1
      | succ i => exact h2 i c (by simpa using hi)
    · intro h
      exact ⟨h 0 v rfl, fun i c hi => h (i + 1) c (by simpa using hi)⟩
theorem eraseL_get : ∀ {l : List AV} {i : Nat} {c : AV}, (AV.eraseL l)[i]? = some c → ∃ c0, l[i]? = some c0 ∧ c = c0.erase := by
  intro l
  induction l with
  | nil => intro i c h; simp [AV.eraseL] at h
  | cons v vs ih =>
    intro i c h
    simp only [AV.eraseL] at h
    cases i with
    | zero => simp at h; exact ⟨v, rfl, h.symm⟩
    | succ i => obtain ⟨c0, h1, h2⟩ := ih (by simpa using h); exact ⟨c0, by simpa using h1, h2⟩
theorem eraseL_length (l : List AV) : (AV.eraseL l).length = l.length := by
  induction l with
  | nil => rfl
  | cons v vs ih => simp [AV.eraseL, ih]
theorem erase_cells (v : AV) : v.erase.cells = AV.eraseL v.cells := by
  cases v with
  | sl tag sz xs => cases tag <;> rfl
  | _ => rfl
theorem VR.erase {m : Mem} {v : AV} {c : Value} (h : VR m v c) : VR m v.erase c := by
  induction h with
  | int k n => exact .int k n
  | bool b => exact .bool b
  | str s => exact .str s
  | nilp => exact .nilp
  | ptr b o blk hb => exact .ptr b o blk hb
  | rptr cs blk o f h1 h2 ih =>
    refine .rptr _ blk o f (fun j c hj => ?_) (fun j c hj => ?_)
    · obtain ⟨c0, g1, rfl⟩ := eraseL_get hj; exact h1 j c0 g1
    · obtain ⟨c0, g1, rfl⟩ := eraseL_get hj; exact ih j c0 g1
  | slnil tag sz ht => cases tag <;> exact .slnil _ _ (fun _ _ e => by cases e)
  | slemp tag sz a hz ht => cases tag <;> exact .slemp _ _ a hz (fun _ _ e => by cases e)
  | sl tag sz xs blk o cap f h1 h2 h3 h4 h5 h6 ih =>
    have e : Value.slice (some ⟨blk, o, none⟩) xs.length cap = .slice (some ⟨blk, o, none⟩) (AV.eraseL xs).length cap := by rw [eraseL_length]
    have key : VR m (.sl .ro sz (AV.eraseL xs)) (.slice (some ⟨blk, o, none⟩) xs.length cap) := by
      rw [e]
      refine .sl .ro sz _ blk o cap f h1 (by rw [eraseL_length]; exact h2) (fun i x hi => ?_) (fun i x hi j hj => ?_) (fun i x hi j c hj => ?_) trivial
      · obtain ⟨c0, g1, rfl⟩ := eraseL_get hi
        rw [erase_cells, eraseL_length]; exact h3 i c0 g1
      · obtain ⟨c0, g1, rfl⟩ := eraseL_get hi; exact h4 i c0 g1 j hj
      · obtain ⟨c0, g1, rfl⟩ := eraseL_get hi
        rw [erase_cells] at hj
        obtain ⟨c1, g2, rfl⟩ := eraseL_get hj
        exact ih i c0 g1 j c1 g2
    cases tag <;> exact key
  | ms b o n sz blk cap a hb ha hc hd => exact .ms b o n sz blk cap a hb ha hc hd
  | mc b o n c sz blk a hb ha hc hd => exact .mc b o n c sz blk a hb ha hc hd
  | fn f first cap first' cap' h1 h2 h3 h4 ih1 ih2 =>
    refine .fn f _ _ first' cap' (by rw [eraseL_length]; exact h1) (by rw [eraseL_length]; exact h2) (fun i c hi => ?_) (fun i c hi => ?_)
    · obtain ⟨c0, g1, rfl⟩ := eraseL_get hi; exact ih1 i c0 g1
    · obtain ⟨c0, g1, rfl⟩ := eraseL_get hi; exact ih2 i c0 g1
  | nilf => exact .nilf
  | iface t v v' _ ih => exact .iface t _ v' ih
  | opt b v c _ h2 ih => exact .opt b _ c ih h2
  | nili => exact .nili
  | agg cs cs' hs _ ih =>
    refine .agg _ cs' (by rw [eraseL_length]; exact hs) (fun i c hi => ?_)
    obtain ⟨c0, g1, rfl⟩ := eraseL_get hi; exact ih i c0 g1
  | tup vs vs' hs _ ih =>
    refine .tup _ vs' (by rw [eraseL_length]; exact hs) (fun i c hi => ?_)
    obtain ⟨c0, g1, rfl⟩ := eraseL_get hi; exact ih i c0 g1
  | dead v => exact .dead v

/-- Every value is under what the memory knows. -/
theorem VR.under {m : Mem} {nb nt : Nat} (hM : ∀ b x, m.M b = some x → b < nb) (hT : ∀ t g x, m.T t g = some x → t < nt) {v : AV} {c : Value} (h : VR m v c) : v.under nb nt = true := by
  induction h with
  | ptr b o blk hb => simpa [AV.under] using hM _ _ hb
  | rptr cs blk o f h1 h2 ih => simp only [AV.under]; exact underL_iff.2 ih
  | slnil tag sz ht => cases tag <;> first | rfl | exact absurd rfl (ht _ _)
  | slemp tag sz a hz ht => cases tag <;> first | rfl | exact absurd rfl (ht _ _)
  | sl tag sz xs blk o cap f h1 h2 h3 h4 h5 h6 ih =>
    have hall : AV.underL nb nt xs = true := underL_iff.2 (fun i x hi => by
      by_cases hag : ∃ cs, x = .agg cs
      · obtain ⟨cs, rfl⟩ := hag
        simp only [AV.under]
        exact underL_iff.2 (fun j c hj => ih i _ hi j c hj)
      · have hc : x.cells = [x] := by cases x <;> first | rfl | exact absurd ⟨_, rfl⟩ hag
        exact ih i x hi 0 x (by rw [hc]; rfl))
    cases tag with
    | ro => simpa [AV.under] using hall
    | full => simpa [AV.under] using hall
    | tok t g => simp only [AV.under, Bool.and_eq_true, decide_eq_true_eq]; exact ⟨hT _ _ _ h6, hall⟩
  | ms b o n sz blk cap a hb ha hc hd => simpa [AV.under] using hM _ _ hb
  | mc b o n c sz blk a hb ha hc hd => simpa [AV.under] using hM _ _ hb
  | fn f first cap first' cap' h1 h2 h3 h4 ih1 ih2 => simp only [AV.under, Bool.and_eq_true]; exact ⟨underL_iff.2 ih1, underL_iff.2 ih2⟩
  | iface t v v' _ ih => exact ih
  | opt b v c _ h2 ih =>
    cases b with
    | true => simpa [AV.under] using ih rfl
    | false => simp [AV.under]
  | agg cs cs' hs _ ih => exact underL_iff.2 ih
  | tup vs vs' hs _ ih => exact underL_iff.2 ih
  | _ => rfl

def Mem.cutTo (m : Mem) (nb nt : Nat) : Mem := { K := m.K, M := fun b => if b < nb then m.M b else none, T := fun t g => if t < nt then m.T t g else none, C := m.C }
theorem cutTo_M {m : Mem} {nb nt b : Nat} (h : b < nb) : (m.cutTo nb nt).M b = m.M b := by show (if b < nb then _ else _) = _; rw [if_pos h]
theorem cutTo_T {m : Mem} {nb nt t g : Nat} (h : t < nt) : (m.cutTo nb nt).T t g = m.T t g := by show (if t < nt then _ else _) = _; rw [if_pos h]

theorem VR.cutTo {m : Mem} {nb nt : Nat} {v : AV} {c : Value} (h : VR m v c) (hu : v.under nb nt = true) : VR (m.cutTo nb nt) v c := by
  induction h with
  | int k n => exact .int k n
  | bool b => exact .bool b
  | str s => exact .str s
  | nilp => exact .nilp
  | ptr b o blk hb =>
    simp [AV.under] at hu
    exact .ptr b o blk (by rw [cutTo_M hu]; exact hb)
  | rptr cs blk o f h1 h2 ih =>
    simp only [AV.under] at hu
    exact .rptr cs blk o f h1 (fun j c hj => ih j c hj (underL_iff.1 hu j c hj))
  | slnil tag sz ht => exact .slnil tag sz ht
  | slemp tag sz a hz ht => exact .slemp tag sz a hz ht
  | sl tag sz xs blk o cap f h1 h2 h3 h4 h5 h6 ih =>
    have hall : AV.underL nb nt xs = true := by
      cases tag <;> simp only [AV.under, Bool.and_eq_true] at hu
      · exact hu
      · exact hu
      · exact hu.2
    refine .sl tag sz xs blk o cap f h1 h2 h3 h4 (fun i x hi j c hj => ih i x hi j c hj ?_) ?_
    · have hx := underL_iff.1 hall i x hi
      by_cases hag : ∃ cs, x = .agg cs
      · obtain ⟨cs, rfl⟩ := hag
        simp only [AV.under] at hx
        exact underL_iff.1 hx j c hj
      · have hc : x.cells = [x] := by cases x <;> first | rfl | exact absurd ⟨_, rfl⟩ hag
        rw [hc] at hj
        cases j with
        | zero => simp at hj; subst hj; exact hx
        | succ j => simp at hj
    · cases tag with
      | ro => trivial
      | full => exact h6
      | tok t g =>
        simp only [AV.under, Bool.and_eq_true, decide_eq_true_eq] at hu
        show (m.cutTo nb nt).T t g = _
        rw [cutTo_T hu.1]; exact h6
  | ms b o n sz blk cap a hb ha hc hd =>
    simp [AV.under] at hu
    exact .ms b o n sz blk cap a (by rw [cutTo_M hu]; exact hb) ha hc hd
  | mc b o n c sz blk a hb ha hc hd =>
    simp [AV.under] at hu
    exact .mc b o n c sz blk a (by rw [cutTo_M hu]; exact hb) ha hc hd
  | fn f first cap first' cap' h1 h2 h3 h4 ih1 ih2 =>
    simp only [AV.under, Bool.and_eq_true] at hu
    exact .fn f first cap first' cap' h1 h2 (fun i c hi => ih1 i c hi (underL_iff.1 hu.1 i c hi)) (fun i c hi => ih2 i c hi (underL_iff.1 hu.2 i c hi))
  | nilf => exact .nilf
  | iface t v v' _ ih => exact .iface t v v' (ih hu)
  | opt b v c _ h2 ih =>
    refine .opt b v c (fun hb => ih hb ?_) h2
    subst hb
    simpa [AV.under] using hu
  | nili => exact .nili
  | agg cs cs' hs _ ih => exact .agg cs cs' hs (fun i c hi => ih i c hi (underL_iff.1 hu i c hi))
  | tup vs vs' hs _ ih => exact .tup vs vs' hs (fun i c hi => ih i c hi (underL_iff.1 hu i c hi))
  | dead v => exact .dead v

/-- The heap that a function leaves, its own boxes forgotten. -/
structure CutOk (h h2 h' : AH) : Prop where
  nb : h'.nb = h.nb
  nt : h'.nt = h.nt
  box : ∀ b cs, h'.box b = some cs → h2.box b = some cs ∧ (h.box b = some cs ∨ (b < h.nb ∧ AV.underL h.nb h.nt cs = true))
  tok : ∀ t g, h'.tok t = some g → h2.tok t = some g ∧ t < h.nt
/-- What a world's heap knows of itself. -/
structure Scoped (h : AH) : Prop where
  box : ∀ b cs, h.box b = some cs → b < h.nb
  tok : ∀ t g, h.tok t = some g → t < h.nt
theorem WR.isScoped {w0 : Base} {w : World} {m : Mem} {h : AH} (r : WR w0 m w h) : Scoped h := ⟨r.Blt, r.Klt⟩

theorem WR.cut {w0 : Base} {w w2 : World} {m m2 : Mem} {h h2 h' : AH} (r : WR w0 m w h) (hm : m.le m2) (r2 : WR w0 m2 w2 h2) (hc : CutOk h h2 h') : m.le (m2.cutTo h.nb h.nt) ∧ WR w0 (m2.cutTo h.nb h.nt) w2 h' := by
  have hle : m.le (m2.cutTo h.nb h.nt) := ⟨hm.K, fun b x hb => by rw [cutTo_M (r.Mlt b x hb)]; exact hm.M b x hb, fun t g x ht => by rw [cutTo_T (r.Tlt t g x ht)]; exact hm.T t g x ht, hm.C⟩
  have hM : ∀ b x, (m2.cutTo h.nb h.nt).M b = some x → b < h.nb ∧ m2.M b = some x := by
    intro b x hb
    change (if b < h.nb then m2.M b else none) = some x at hb
    split at hb
    · next h1 => exact ⟨h1, hb⟩
    · cases hb
  have hT : ∀ t g x, (m2.cutTo h.nb h.nt).T t g = some x → t < h.nt ∧ m2.T t g = some x := by
    intro t g x hb
    change (if t < h.nt then m2.T t g else none) = some x at hb
    split at hb
    · next h1 => exact ⟨h1, hb⟩
    · cases hb
  have hbl : ∀ b cs, h'.box b = some cs → b < h.nb := by
    intro b cs hb
    rcases (hc.box b cs hb).2 with h1 | h1
    · exact r.Blt b cs h1
    · exact h1.1
  refine ⟨hle, r2.below, r2.K, fun b x hb => by rw [hc.nb]; exact (hM b x hb).1, fun b cs hb => by rw [hc.nb]; exact hbl b cs hb, fun t g x ht => by rw [hc.nt]; exact (hT t g x ht).1, fun t g ht => by rw [hc.nt]; exact (hc.tok t g ht).2, ?_, ?_, ?_, ?_, ?_, ?_, r2.past⟩
  · intro b cs hb
    obtain ⟨h1, h2'⟩ := hc.box b cs hb
    obtain ⟨blk, arr, ty, fr, q1, q2, q3⟩ := r2.box b cs h1
    have hu : AV.underL h.nb h.nt cs = true := by
      rcases h2' with h3 | h3
      · obtain ⟨bk, a0, t0, f0, p1, p2, p3⟩ := r.box b cs h3
        exact underL_iff.2 (fun i c hi => (p3.rel i c hi).under r.Mlt r.Tlt)
      · exact h3.2
    refine ⟨blk, arr, ty, fr, by rw [cutTo_M (hbl b cs hb)]; exact q1, q2, ⟨q3.here, q3.size, q3.free, fun j c hj => (q3.rel j c hj).cutTo (underL_iff.1 hu j c hj), q3.one, q3.apart, q3.cap, q3.nomark⟩⟩
  · intro t g ht
    obtain ⟨h1, h2'⟩ := hc.tok t g ht
    obtain ⟨blk, e, room, arr, ty, fr, q1, q2, q3⟩ := r2.tok t g h1
    exact ⟨blk, e, room, arr, ty, fr, by rw [cutTo_T h2']; exact q1, q2, ⟨q3.here, q3.free, q3.fits, q3.apart⟩⟩
  · intro t g x g' ht hk
    exact r2.gens t g x g' (hT t g x ht).2 (hc.tok t g' hk).1
  · intro b b' cs cs' x hb hb' hx hx'
    exact r2.bb b b' cs cs' x (hc.box b cs hb).1 (hc.box b' cs' hb').1 (hM b x hx).2 (hM b' x hx').2
  · intro t t' g g' x x' ht ht' hx hx' e
    exact r2.tt t t' g g' x x' (hc.tok t g ht).1 (hc.tok t' g' ht').1 (hT t g x hx).2 (hT t' g' x' hx').2 e
  · intro b t cs g x y hb ht hx hy
    exact r2.bt b t cs g x y (hc.box b cs hb).1 (hc.tok t g ht).1 (hM b x hx).2 (hT t g y hy).2

def AOut.under (nb nt : Nat) : AOut → Bool
  | .ret v => v.under nb nt
  | .panic v => v.under nb nt
def AOut.erase : AOut → AOut
  | .ret v => .ret v.erase
  | .panic v => .panic v.erase
/-- A function's end: what it made is forgotten; what it returns is read only. -/
theorem ACalls.cut {P : Program} {f : FuncId} {args : List AV} {h : AH} {R R' : AOut → AH → Prop} (hc : ACalls P f args h R')
    (hR : Scoped h → ∀ out h2, R' out h2 → ∃ out' h', (out' = out ∨ out' = out.erase) ∧ out'.under h.nb h.nt = true ∧ CutOk h h2 h' ∧ R out' h') : ACalls P f args h R := by
  intro w0 m w args' h1 h2 hW
  refine (hc w0 m w args' h1 h2 hW).mono ?_
  rintro e w' ⟨m', out, h'', q1, q2, q3, q4⟩
  obtain ⟨out', h', g1, g2, g3, g4⟩ := hR hW.isScoped out h'' q4
  obtain ⟨l1, W1⟩ := hW.cut q1 q3 g3
  refine ⟨_, out', h', l1, ?_, W1, g4⟩
  have key : outRel m' out' e := by
    rcases g1 with rfl | rfl
    · exact q2
    · cases out <;> cases e <;> simp only [outRel, AOut.erase] at q2 ⊢
      · exact q2.erase
      · obtain ⟨c, e1, e2⟩ := q2; exact ⟨c, e1, e2.erase⟩
  cases out' <;> cases e <;> simp only [outRel] at key ⊢
  · exact key.cutTo g2
  · obtain ⟨c, e1, e2⟩ := key; exact ⟨c, e1, e2.cutTo g2⟩

/-- The heap has grown alone. -/
structure AH.Ext (h h2 : AH) : Prop where
  nb : h.nb ≤ h2.nb
  nt : h.nt ≤ h2.nt
  box : ∀ b, b < h.nb → h2.box b = h.box b
  tok : ∀ t, t < h.nt → h2.tok t = h.tok t
theorem AH.Ext.refl (h : AH) : h.Ext h := ⟨Nat.le_refl _, Nat.le_refl _, fun _ _ => rfl, fun _ _ => rfl⟩
theorem AH.Ext.new {h h2 : AH} (e : h.Ext h2) (cs : List AV) : h.Ext (h2.new cs) :=
  ⟨Nat.le_trans e.nb (Nat.le_succ _), e.nt, fun b hb => (upd_other _ _ _ (by have := e.nb; omega)).trans (e.box b hb), e.tok⟩
theorem AH.Ext.set {h h2 : AH} (e : h.Ext h2) {b : Nat} (hb : h.nb ≤ b) (cs : List AV) : h.Ext (h2.set b cs) :=
  ⟨e.nb, e.nt, fun b' hb' => (upd_other _ _ _ (by omega)).trans (e.box b' hb'), e.tok⟩
theorem AH.Ext.kill {h h2 : AH} (e : h.Ext h2) {b : Nat} (hb : h.nb ≤ b) : h.Ext (h2.kill b) :=
  ⟨e.nb, e.nt, fun b' hb' => (upd_other _ _ _ (by omega)).trans (e.box b' hb'), e.tok⟩
theorem AH.Ext.newTok {h h2 : AH} (e : h.Ext h2) : h.Ext h2.newTok :=
  ⟨e.nb, Nat.le_trans e.nt (Nat.le_succ _), e.box, fun t ht => (upd_other _ _ _ (by have := e.nt; omega)).trans (e.tok t ht)⟩
theorem AH.Ext.setTok {h h2 : AH} (e : h.Ext h2) {t : Nat} (ht : h.nt ≤ t) (g : Nat) : h.Ext (h2.setTok t g) :=
  ⟨e.nb, e.nt, e.box, fun t' ht' => (upd_other _ _ _ (by omega)).trans (e.tok t' ht')⟩
theorem AH.Ext.trans {a b c : AH} (h : a.Ext b) (k : b.Ext c) : a.Ext c :=
  ⟨Nat.le_trans h.nb k.nb, Nat.le_trans h.nt k.nt, fun x hx => (k.box x (Nat.lt_of_lt_of_le hx h.nb)).trans (h.box x hx), fun x hx => (k.tok x (Nat.lt_of_lt_of_le hx h.nt)).trans (h.tok x hx)⟩
theorem AH.Ext.cutOk {h h2 : AH} (e : h.Ext h2) (s : Scoped h) : CutOk h h2 h :=
  ⟨rfl, rfl, fun b cs hb => ⟨(e.box b (s.box b cs hb)).trans hb, .inl hb⟩, fun t g ht => ⟨(e.tok t (s.tok t g ht)).trans ht, s.tok t g ht⟩⟩

/-- A function that has a body. -/
def FOk (P : Program) (f : FuncId) : Prop := ∃ fn, P.funcs[f]? = some fn ∧ fn.body.isSome = true ∧ (fn.name == "runtime.NumGoroutine") = false
/-- A function that only computes: its value, in whatever heap. -/
structure Pure (P : Program) (f : FuncId) (args : List AV) (v : AV) : Prop where
  ok : FOk P f
  calls : ∀ h, ACalls P f args h fun out h' => out = .ret v ∧ h' = h
mutual
theorem AV.under_mono {nb nt : Nat} : ∀ {v : AV}, v.under 0 0 = true → v.under nb nt = true
  | .ptr b o, h => by simp [AV.under] at h
  | .ms b o n sz, h => by simp [AV.under] at h
  | .mc b o n c sz, h => by simp [AV.under] at h
  | .rptr cs, h => AV.underL_mono h
  | .sl (.tok t g) sz xs, h => by simp [AV.under] at h
  | .sl .ro sz xs, h => AV.underL_mono h
  | .sl .full sz xs, h => AV.underL_mono h
  | .fn f a b, h => by
    simp only [AV.under, Bool.and_eq_true] at h ⊢
    exact ⟨AV.underL_mono h.1, AV.underL_mono h.2⟩
  | .iface t v, h => AV.under_mono (v := v) h
  | .opt b v, h => by
    simp only [AV.under, Bool.or_eq_true] at h ⊢
    exact h.imp id fun h => AV.under_mono (v := v) h
  | .agg cs, h => AV.underL_mono h
  | .tup vs, h => AV.underL_mono h
  | .dead, _ => rfl
  | .int _ _, _ => rfl
  | .bool _, _ => rfl
  | .str _, _ => rfl
  | .nilp, _ => rfl
  | .nilf, _ => rfl
  | .nili, _ => rfl
theorem AV.underL_mono {nb nt : Nat} : ∀ {l : List AV}, AV.underL 0 0 l = true → AV.underL nb nt l = true
  | [], _ => rfl
  | v :: vs, h => by
    simp only [AV.underL, Bool.and_eq_true] at h ⊢
    exact ⟨AV.under_mono h.1, AV.underL_mono h.2⟩
end
theorem Pure.of {P : Program} {f : FuncId} {args : List AV} {v : AV} (hf : FOk P f) (hv : v.under 0 0 = true) (hc : ∀ h, ACalls P f args h fun out h2 => h.Ext h2 ∧ ∃ u, out = .ret u ∧ u.erase = v) : Pure P f args v := by
  refine ⟨hf, fun h => (hc h).cut fun hs out h2 ⟨e, u, h1, h3⟩ => ⟨.ret v, h, .inr ?_, ?_, e.cutOk hs, rfl, rfl⟩⟩
  · rw [h1]; simp [AOut.erase, h3]
  · exact AV.under_mono hv
theorem ACallV.pure {P : Program} {f : FuncId} {args : List AV} {v : AV} {h : AH} {dst : Option Nat} {s : AS} {k : AK} {Q : AQ} (hp : Pure P f args v) (hk : k (putD s dst v) h Q) : ACallV P (.fn (.func f) [] []) args h (callK dst s k Q) := by
  refine .inl ⟨hp.ok, ?_⟩
  simp only [List.nil_append, List.append_nil]
  refine (hp.calls h).mono ?_
  rintro out h' ⟨rfl, rfl⟩
  exact hk
theorem ACallV.of {P : Program} {f : FuncId} {args : List AV} {h : AH} {R : AOut → AH → Prop} (hf : FOk P f) (hc : ACalls P f args h R) : ACallV P (.fn (.func f) [] []) args h R := by
  refine .inl ⟨hf, ?_⟩
  simpa using hc
end Go.Proofs.YtjdocenbfghglaaGreatDoor.AW
