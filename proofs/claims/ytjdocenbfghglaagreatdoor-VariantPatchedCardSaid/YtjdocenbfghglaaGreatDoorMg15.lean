/- Texts of this claim, part 15: G1. -/
import Derived.Test.YtjdocenbfghglaaGreatDoorAw25
import Derived.WalkKit
import Derived.ProofKit
import Derived.OpenShut
import Derived.Deep.DeepHandedRow
import Derived.Lib.LaidTab
section
set_option linter.unusedSimpArgs false
set_option linter.unusedVariables false
namespace Go.Proofs.YtjdocenbfghglaaGreatDoor.AW
open Go Go.RowKit Go.ChangeShapes Go.WideShapes Go.ChangeAt

/-- All memory, to be read. -/
def memOf (W : World) : Mem := ⟨fun b o => match W.cell? ⟨b, o, none⟩ with | some v => if v.oneCell' = true then some v else none | none => none, fun _ => none, fun _ _ => none, fun _ => 0⟩
theorem memOf_K {W : World} {b o : Nat} {v : Value} (h : W.cell? ⟨b, o, none⟩ = some v) (h1 : v.oneCell' = true) : (memOf W).K b o = some v := by
  show (match W.cell? ⟨b, o, none⟩ with | some v => if v.oneCell' = true then some v else none | none => none) = some v
  rw [h]; simp [h1]
theorem WR.start (W : World) : WR ⟨W, fun _ _ => True⟩ (memOf W) W AH.none := by
  refine ⟨Bel.refl _ _, fun b o v hk => ?_, (fun b x hb => by cases hb), (fun b cs hb => by cases hb), (fun t g x ht => by cases ht), (fun t g ht => by cases ht), (fun b cs hb => by cases hb), (fun t g ht => by cases ht),
      (fun t g x g' ht => by cases ht), (fun b b' cs cs' x hb => by cases hb), (fun t t' g g' x x' ht => by cases ht), (fun b t cs g x y hb => by cases hb), fun _ _ _ _ _ => trivial⟩
  change (match W.cell? ⟨b, o, .none⟩ with | some v => if v.oneCell' = true then some v else Option.none | Option.none => Option.none) = some v at hk
  cases hc : W.cell? ⟨b, o, .none⟩ with
  | none => rw [hc] at hk; cases hk
  | some u =>
    rw [hc] at hk
    simp only at hk
    split at hk
    · next h1 => injection hk with hk; subst hk; exact ⟨rfl, h1⟩
    · cases hk

/-- Cells are what the abstract cells say, one value each. -/
structure CR (W : World) (avs : List AV) (cs : List Value) : Prop where
  len : avs.length = cs.length
  rel : ∀ (j : Nat) (c : AV), avs[j]? = some c → VR (memOf W) c (cs.getD j undef)
  one : ∀ v ∈ cs, v.oneCell' = true
theorem CR.nil {W : World} : CR W [] [] := ⟨rfl, fun j c h => by simp at h, fun v h => by cases h⟩
theorem CR.cons {W : World} {a : AV} {v : Value} {avs : List AV} {cs : List Value} (h : VR (memOf W) a v) (h1 : v.oneCell' = true) (k : CR W avs cs) : CR W (a :: avs) (v :: cs) := by
  refine ⟨by simp [k.len], fun j c hc => ?_, fun u hu => ?_⟩
  · cases j with
    | zero => simp at hc; subst hc; exact h
    | succ j => simpa using k.rel j c (by simpa using hc)
  · rcases List.mem_cons.1 hu with rfl | hu
    · exact h1
    · exact k.one u hu
theorem CR.append {W : World} {avs bs : List AV} {cs ds : List Value} (h : CR W avs cs) (k : CR W bs ds) : CR W (avs ++ bs) (cs ++ ds) := by
  refine ⟨by simp [h.len, k.len], fun j c hc => ?_, fun v hv => ?_⟩
  · rw [List.getD_eq_getElem?_getD]
    by_cases hj : j < avs.length
    · rw [List.getElem?_append_left hj] at hc
      rw [List.getElem?_append_left (by rw [← h.len]; exact hj), ← List.getD_eq_getElem?_getD]
      exact h.rel j c hc
    · rw [List.getElem?_append_right (by omega)] at hc
      rw [List.getElem?_append_right (by rw [← h.len]; omega), ← h.len, ← List.getD_eq_getElem?_getD]
      exact k.rel _ c hc
  · rcases List.mem_append.1 hv with hv | hv
    · exact h.one v hv
    · exact k.one v hv
/-- A struct's value out of its cells. -/
theorem CR.agg {W : World} {avs : List AV} {cs : Array Value} (h : CR W avs cs.toList) : VR (memOf W) (.agg avs) (.agg cs) := by
  refine .agg avs cs (by have := h.len; simp at this; omega) (fun i c hi => ?_)
  have := h.rel i c hi
  rw [List.getD_eq_getElem?_getD, Array.getElem?_toList] at this
  rw [Array.getD_eq_getD_getElem?]; exact this

section
variable {H : Type} {enc : TypeId × Value → H} {P : Program} {te : TE} {W : World} {fuel : Nat} {cs : List Value} {x : DataW H × List MemPlace}
def small (P : Program) (t : Nat) (d : DataW H) : Prop := ∀ n ∈ d.weights P t, n ≤ 140737488351232
theorem cellsOf_te (hte : te.ok P) {t : Nat} {i : TI} (hi : te t = some i) : P.cellsOf t = i.size := by
  obtain ⟨info, d, h1, _, _, h4, _⟩ := hte.info hi
  simp [Program.cellsOf, h1, h4]
theorem bytesOf_te (hte : te.ok P) {t : Nat} {i : TI} (hi : te t = some i) : P.bytesOf t = i.bytes := by
  obtain ⟨info, d, h1, _, _, _, h5⟩ := hte.info hi
  simp [Program.bytesOf, h1, h5]
theorem int_at (hte : te.ok P) {t : Nat} {i : TI} (hi : te t = some i) {k : IntKind} (hk : i.k = .int k) : P.underlying t = some (.int k) := by
  obtain ⟨info, d, _, h2, h3, _, _⟩ := hte.info hi
  rw [hk] at h3
  cases d <;> simp [AT.fits] at h3
  subst h3; exact h2
theorem bool_at (hte : te.ok P) {t : Nat} {i : TI} (hi : te t = some i) (hk : i.k = .bool) : P.underlying t = some .bool := by
  obtain ⟨info, d, _, h2, h3, _, _⟩ := hte.info hi
  rw [hk] at h3
  cases d <;> simp [AT.fits] at h3
  exact h2
theorem read_int (hte : te.ok P) {t : Nat} {i : TI} (hi : te t = some i) {k : IntKind} (hk : i.k = .int k) (h : DataW.trod enc P W 0 (fun _ => true) true fuel t cs = some x) : ∃ n : Int, CR W [.int k n] cs ∧ k.min ≤ n ∧ n ≤ k.max := by
  obtain ⟨n, rfl, rfl, hw⟩ := DataW.trod_int (int_at hte hi hk) h
  simp only [Lit.wf, Bool.and_eq_true, decide_eq_true_eq] at hw
  exact ⟨n, .cons (.int k n) rfl .nil, hw⟩
theorem read_str (hte : te.ok P) {t : Nat} {i : TI} (hi : te t = some i) (hk : i.k = .str) (h : DataW.trod enc P W 0 (fun _ => true) true fuel t cs = some x) (hs : small P t x.1) : ∃ s : ByteArray, CR W [.str s] cs ∧ s.size ≤ 140737488351232 := by
  obtain ⟨s, rfl, rfl, hw⟩ := DataW.trod_string (str_at hte hi hk) h
  have := hs s.data.toList.length (by simp [DataW.weights])
  exact ⟨s, .cons (.str s) rfl .nil, by simpa using this⟩
theorem weightsAll_mem {e : TypeId} : ∀ {l : List (DataW H)} {d : DataW H}, d ∈ l → ∀ n ∈ d.weights P e, n ∈ DataW.weightsAll P e l := by
  intro l
  induction l with
  | nil => intro d h; cases h
  | cons y l ih =>
    intro d h n hn
    simp only [DataW.weightsAll, List.mem_append]
    rcases List.mem_cons.1 h with rfl | h
    · exact .inl hn
    · exact .inr (ih h n hn)
theorem weightsEach_mem : ∀ {ts : List TypeId} {l : List (DataW H)} {i : Nat} {t : TypeId} {d : DataW H}, ts[i]? = some t → l[i]? = some d → ∀ n ∈ d.weights P t, n ∈ DataW.weightsEach P ts l := by
  intro ts
  induction ts with
  | nil => intro l i t d h; simp at h
  | cons y ts ih =>
    intro l i t d ht hd n hn
    cases l with
    | nil => simp at hd
    | cons z l =>
      simp only [DataW.weightsEach, List.mem_append]
      cases i with
      | zero => simp at ht hd; subst ht hd; exact .inl hn
      | succ i => exact .inr (ih (by simpa using ht) (by simpa using hd) n hn)
/-- A struct's field. -/
theorem read_struct (hte : te.ok P) {t : Nat} {i : TI} (hi : te t = some i) {fl : List (Nat × Nat)} (hk : i.k = .struct fl) (h : DataW.trod enc P W 0 (fun _ => true) true fuel t cs = some x) (hs : small P t x.1) :
    cs.length = i.size ∧ ∃ n, fuel = n + 1 ∧ ∀ (q off ft : Nat) (fi : TI), fl[q]? = some (off, ft) → te ft = some fi → ∃ y, DataW.trod enc P W 0 (fun _ => true) true n ft ((cs.drop off).take fi.size) = some y ∧ small P ft y.1 := by
  obtain ⟨f, hu, hm⟩ := struct_at hte hi hk
  obtain ⟨xs, n, rfl, rfl, hl, hxl, hf⟩ := DataW.trod_struct hu h
  rw [cellsOf_te hte hi] at hl
  refine ⟨hl, n, rfl, fun q off ft fi hq hfi => ?_⟩
  rw [← hm, List.getElem?_map] at hq
  cases hx : f.toList[q]? with
  | none => rw [hx] at hq; cases hq
  | some fd =>
    rw [hx] at hq; injection hq with hq; injection hq with e1 e2
    have hfq : f[q]? = some fd := by simpa using hx
    have hlt : q < f.size := (Array.getElem?_eq_some_iff.1 hfq).1
    have := hf q fd hfq
    rw [e1, e2, cellsOf_te hte hfi, List.getElem?_eq_getElem (by omega)] at this
    refine ⟨xs[q], this, fun w hw => ?_⟩
    have hd : (xs.map (·.1))[q]? = some xs[q].1 := by rw [List.getElem?_map, List.getElem?_eq_getElem (by omega)]; rfl
    have ht : (f.toList.map (·.type))[q]? = some ft := by rw [List.getElem?_map, hx]; exact congrArg some e2
    have := weightsEach_mem (P := P) ht hd w hw
    refine hs w ?_
    simp only [DataW.weights, hu]
    exact this
theorem list_of {A : Type} {Q : Nat → A → Prop} : ∀ (n : Nat), (∀ j, j < n → ∃ y, Q j y) → ∃ ys : List A, ys.length = n ∧ ∀ (j : Nat) (y : A), ys[j]? = some y → Q j y := by
  intro n
  induction n with
  | zero => intro _; exact ⟨[], rfl, fun j y h => by simp at h⟩
  | succ n ih =>
    intro h
    obtain ⟨ys, h1, h2⟩ := ih (fun j hj => h j (by omega))
    obtain ⟨y, hy⟩ := h n (Nat.lt_succ_self _)
    refine ⟨ys ++ [y], by simp [h1], fun j z hz => ?_⟩
    by_cases hj : j < n
    · rw [List.getElem?_append_left (by omega)] at hz; exact h2 j z hz
    · rw [List.getElem?_append_right (by omega)] at hz
      have : j - ys.length = 0 := by
        have := (List.getElem?_eq_some_iff.1 hz).1
        simp at this; omega
      rw [this] at hz
      simp at hz; subst hz
      have : j = n := by omega
      subst this; exact hy
/-- A slice. -/
theorem read_slice (hte : te.ok P) {t : Nat} {i ei : TI} (hi : te t = some i) {e : Nat} (hk : i.k = .slice e) (hei : te e = some ei) (hsz : 0 < ei.size) (hbt : 0 < ei.bytes) {A : Type} (inja : A → AV) (good : A → Prop)
    (helem : ∀ (n : Nat) (cs : List Value) (x : DataW H × List MemPlace), n < fuel → DataW.trod enc P W 0 (fun _ => true) true n e cs = some x → small P e x.1 → ∃ y : A, good y ∧ CR W (inja y).cells cs)
    (hcells : ∀ y, (inja y).cells.length = ei.size) (h : DataW.trod enc P W 0 (fun _ => true) true fuel t cs = some x) (hs : small P t x.1) :
    ∃ ys : List A, (∀ y ∈ ys, good y) ∧ ys.length * ei.bytes ≤ 140737488351232 ∧ CR W [.sl .ro ei.size (ys.map inja)] cs := by
  have hu := slice_at hte hi hk
  rcases DataW.trod_slice hu h with ⟨rfl, rfl⟩ | ⟨a, len, cap, elems, rest, n, rfl, rfl, rfl, _, hlc, _, hel, hget, hsp, _⟩
  · exact ⟨[], (fun y hy => by cases hy), by simp, .cons (.slnil _ _ (fun _ _ e => by cases e)) rfl .nil⟩
  · have hcell := cellsOf_te hte hei
    rw [hcell] at hget
    have hw0 : (elems.length + rest.length) * ei.bytes ≤ 140737488351232 := by
      refine hs _ ?_
      simp only [DataW.weights, hu, List.length_map, bytesOf_te hte hei]
      exact List.mem_cons_self
    have hlen : len * ei.bytes ≤ 140737488351232 := by
      refine Nat.le_trans (Nat.mul_le_mul_right _ ?_) hw0
      omega
    have hall : ∀ j, j < len → ∃ (y : A) (c : List Value), good y ∧ W.cells? 0 (a.add (j * ei.size)) ei.size = some c ∧ CR W (inja y).cells c := by
      intro j hj
      have h1 := hget j hj
      rw [List.getElem?_eq_getElem (by omega)] at h1
      obtain ⟨c, h2, h3⟩ := Option.bind_eq_some_iff.1 h1
      have hsm : small P e elems[j].1 := by
        intro w hw
        refine hs w ?_
        simp only [DataW.weights, hu, List.mem_cons, List.mem_append]
        exact .inr (.inl (weightsAll_mem (d := elems[j].1) (List.mem_map.2 ⟨_, List.getElem_mem _, rfl⟩) w hw))
      obtain ⟨y, h4, h5⟩ := helem n c elems[j] (Nat.lt_succ_self _) h3 hsm
      exact ⟨y, c, h4, h2, h5⟩
    obtain ⟨ys, hyl, hy⟩ := list_of (Q := fun j y => ∃ c : List Value, good y ∧ W.cells? 0 (a.add (j * ei.size)) ei.size = some c ∧ CR W (inja y).cells c) len hall
    have hgood : ∀ y ∈ ys, good y := by
      intro y hm
      obtain ⟨j, hj⟩ := List.mem_iff_getElem?.1 hm
      obtain ⟨c, h1, _⟩ := hy j y hj
      exact h1
    refine ⟨ys, hgood, by rw [hyl]; exact hlen, .cons ?_ rfl .nil⟩
    by_cases hcap : cap = 0
    · have hl0 : len = 0 := by omega
      have : ys = [] := List.eq_nil_of_length_eq_zero (by omega)
      subst this hl0 hcap
      exact .slemp _ _ a hsz (fun _ _ e => by cases e)
    · have hspot : a.spot = none := by
        have key : ∀ (c : List Value), W.cells? 0 (a.add 0) ei.size = some c → a.spot = none := by
          intro c hc
          obtain ⟨_, h1, h2⟩ := World.cells?_some hc
          have := h2 0 hsz
          rw [List.getElem?_eq_getElem (by omega)] at this
          have ha : (a.add 0).add 0 = a := by simp [Addr.add]
          rw [ha] at this
          exact World.cell?_spot this
        by_cases hl0 : 0 < len
        · have h1 := hget 0 hl0
          rw [Nat.zero_mul, List.getElem?_eq_getElem (by omega)] at h1
          obtain ⟨c, h2, _⟩ := Option.bind_eq_some_iff.1 h1
          exact key c h2
        · obtain ⟨hr1, hr2⟩ := hsp rfl
          have h1 := hr2 0 (by omega)
          rw [hcell] at h1
          have hl : len = 0 := by omega
          subst hl
          rw [Nat.add_zero, Nat.zero_mul, List.getElem?_eq_getElem (by omega)] at h1
          obtain ⟨c, h2, _⟩ := Option.bind_eq_some_iff.1 h1
          exact key c h2
      obtain ⟨b, o, sp⟩ := a
      have : sp = none := hspot
      subst this
      have hget2 : ∀ (j : Nat) (y : A), ys[j]? = some y → ∃ c, CR W (inja y).cells c ∧ ∀ q, q < ei.size → W.cell? ⟨b, o + j * ei.size + q, none⟩ = some (c.getD q undef) := by
        intro j y hj
        obtain ⟨c, _, h2, h3⟩ := hy j y hj
        obtain ⟨_, h4, h5⟩ := World.cells?_some h2
        refine ⟨c, h3, fun q hq => ?_⟩
        have := h5 q hq
        rw [add_none, add_none] at this
        rw [this, List.getD_eq_getElem?_getD, List.getElem?_eq_getElem (by omega)]; rfl
      have e : Value.slice (some ⟨b, o, none⟩) len cap = .slice (some ⟨b, o, none⟩) (ys.map inja).length cap := by rw [List.length_map, hyl]
      rw [e]
      refine .sl .ro ei.size _ b o cap (fun j q => (W.cell? ⟨b, o + j * ei.size + q, none⟩).getD undef) hsz (by rw [List.length_map, hyl]; exact hlc) (fun j z hz => ?_) (fun j z hz q hq => ?_) (fun j z hz q d hd => ?_) trivial
      · rw [List.getElem?_map] at hz
        cases hyj : ys[j]? with
        | none => rw [hyj] at hz; cases hz
        | some y => rw [hyj] at hz; injection hz with hz; subst hz; exact hcells y
      · rw [List.getElem?_map] at hz
        cases hyj : ys[j]? with
        | none => rw [hyj] at hz; cases hz
        | some y =>
          obtain ⟨c, h3, h4⟩ := hget2 j y hyj
          have h5 := h4 q hq
          have hql : q < c.length := by have := h3.len; have := hcells y; omega
          refine (memOf_K h5 (h3.one _ ?_)).trans ?_
          · rw [List.getD_eq_getElem?_getD, List.getElem?_eq_getElem hql]; exact List.getElem_mem hql
          · rw [h5]; rfl
      · rw [List.getElem?_map] at hz
        cases hyj : ys[j]? with
        | none => rw [hyj] at hz; cases hz
        | some y =>
          rw [hyj] at hz; injection hz with hz; subst hz
          obtain ⟨c, h3, h4⟩ := hget2 j y hyj
          have hq : q < ei.size := by have := (List.getElem?_eq_some_iff.1 hd).1; rw [hcells y] at this; exact this
          rw [h4 q hq]
          exact h3.rel q d hd

theorem okWide_struct' (hte : te.ok P) {t : Nat} {i : TI} (hi : te t = some i) {fl : List (Nat × Nat)} (hk : i.k = .struct fl) {r : Reach} {base : Nat} {v : Value} (h : Value.okWide P W r base t v) : ∃ cs, v = .agg cs := by
  obtain ⟨f, hu, _⟩ := struct_at hte hi hk
  simp only [Value.okWide, hu] at h
  obtain ⟨cs, e, _⟩ := h
  exact ⟨cs, e⟩
/-- Arguments, one by one. -/
inductive Args (m : Mem) : List AV → List Value → Prop where
  | nil : Args m [] []
  | cons {a : AV} {v : Value} {avs : List AV} {vs : List Value} : VR m a v → Args m avs vs → Args m (a :: avs) (v :: vs)
theorem args_ok {m : Mem} {avs : List AV} {vs : Array Value} (h : Args m avs vs.toList) : ∀ (i : Nat) (c : AV), avs[i]? = some c → VR m c (vs.getD i undef) := by
  have key : ∀ {avs : List AV} {vs : List Value}, Args m avs vs → ∀ (i : Nat) (c : AV), avs[i]? = some c → VR m c (vs.getD i undef) := by
    intro avs vs h
    induction h with
    | nil => intro i c hi; simp at hi
    | cons h1 _ ih =>
      intro i c hi
      cases i with
      | zero => simp at hi; subst hi; exact h1
      | succ i => simpa using ih i c (by simpa using hi)
  intro i c hi
  have := key h i c hi
  rw [List.getD_eq_getElem?_getD, Array.getElem?_toList] at this
  rw [Array.getD_eq_getD_getElem?]; exact this
/-- A law's contract in the library's words. -/
theorem Pure.law {f : FuncId} {args : List AV} (hp : Pure P f args (.bool true)) {w : World} {m : Mem} {w0 : Base} (args' : Array Value) (h1 : args'.size = args.length) (h2 : ∀ (i : Nat) (c : AV), args[i]? = some c → VR m c (args'.getD i undef)) (hW : WR w0 m w AH.none) (hw : w0.toWorld = w) :
    Calls P f args' w fun e w' => e = .returned (.bool true) ∧ Below w.heap.size w w' := by
  refine (hp.calls AH.none w0 m w args' h1 h2 hW).mono ?_
  rintro e w' ⟨m', out, h', q1, q2, q3, rfl, rfl⟩
  subst hw
  cases e with
  | returned c => exact ⟨by rw [q2.bool_inv], q3.below.toBelow⟩
  | panicked c => exact q2.elim
  | outgrown => exact q2.elim
/-! The end of a law's row. -/
theorem reach_eq : reachBytes = 140737488351232 := by decide
mutual
/-- The cells of a listed variable. -/
def flatD : DataW Unit → List Value
  | .lit (.int k n) => [.int k n]
  | .agg l => flatL l
  | _ => []
def flatL : List (DataW Unit) → List Value
  | [] => []
  | x :: xs => flatD x ++ flatL xs
end
def layObj (d : DataW Unit) : Obj → Obj
  | .cells _ t fr => .cells (flatD d).toArray t fr
  | o => o
/-- A world in which the listed variables hold what their initialisers lay. -/
def layAll (P : Program) : List (String × DataW Unit) → Array Obj → Array Obj
  | [], h => h
  | x :: xs, h => layAll P xs (match P.globalNamed x.1 with | some g => h.modify g (layObj x.2) | none => h)
theorem TrodAll_stays (hl : laidOutB P = true) {W W' : World} {sp' : Nat → Bool} (hb : Below W.heap.size W W') : ∀ {ts : List TypeId} {vs : List Value} {ds : List (DataW H)} {ps : List MemPlace}, (ts.all fun t => P.readableRec t && decide (t < P.types.size)) = true →
    DataW.TrodAll enc P W 0 (fun _ => true) true ts vs ds ps → (∀ p ∈ ps, p.block < W.heap.size) → (∀ p ∈ ps, sp' p.block = true) → DataW.TrodAll enc P W' 0 sp' true ts vs ds ps := by
  intro ts
  induction ts with
  | nil =>
    intro vs ds ps _ h _ _
    obtain ⟨rfl, rfl, rfl⟩ := trodAll_nil h
    exact trodAll_mk0
  | cons t ts ih =>
    intro vs ds ps ht h hlt hsp
    obtain ⟨v, vs', d, ds', p, q, rfl, rfl, rfl, h1, h2⟩ := trodAll_cons h
    simp only [List.all_cons, Bool.and_eq_true, decide_eq_true_eq] at ht
    refine trodAll_cons_mk (WideElems.Trod_stays hl ht.1.1 ht.1.2 h1 (fun x hx => hb.same (hlt x (List.mem_append_left _ hx))) (fun x hx => hsp x (List.mem_append_left _ hx))) (ih ht.2 h2 (fun x hx => hlt x (List.mem_append_right _ hx)) (fun x hx => hsp x (List.mem_append_right _ hx)))

/-- A law that returns true and writes nothing of what was there. -/
theorem post_law {f : Func} {s : ChangeSpec} {W W' : World} {args : Array Value} {ds gs : List (DataW H)} {before : List MemPlace} {bt : TypeId} (hl : laidOutB P = true) (hts : (f.params.toList.all fun t => P.readableRec t && decide (t < P.types.size)) = true)
    (hW : DataW.Whole enc P f.params.toList s.vars false W args.toList ds gs before) (hvars : s.vars = []) (hr : f.resultTypes = #[bt]) (hbt : P.underlying bt = some .bool)
    (hres : (s.fn H ds).results = [.lit (.bool true)]) (hargs : (s.fn H ds).args = ds) (hvs : (s.fn H ds).vars = []) (hb : Below W.heap.size W W') :
    s.post enc P f false true false false W args (.bool true) W' := by
  have hlt := hW.lt
  have hW' := hW
  obtain ⟨p, q, hA, hV, rfl, hfz, hnd⟩ := hW
  rw [hvars] at hV
  obtain ⟨rfl, rfl⟩ := trodVars_none hV
  simp only [List.append_nil] at hlt hW' hfz hres hargs hvs ⊢
  refine ⟨ds, [], p, [], p, [], hW', ?_, ?_, ?_, ?_, fun h => by cases h⟩
  · simp only [List.append_nil]
    rw [hres, hr]
    exact trodAll_cons_mk (shut_bool hbt _) trodAll_mk0
  · simp only [List.append_nil]
    rw [hargs]
    exact TrodAll_stays hl hb hts hA hlt (fun x hx => by simpa using hlt x hx)
  · simp only [List.append_nil]
    rw [hvs, hvars]; rfl
  · exact hb.frame _
end
end Go.Proofs.YtjdocenbfghglaaGreatDoor.AW
end
