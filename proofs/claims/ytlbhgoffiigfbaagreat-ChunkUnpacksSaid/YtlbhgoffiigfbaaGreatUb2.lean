/- Texts of this claim, part 2: G1, V20, V60. -/
import Derived.Test.YtlbhgoffiigfbaaGreatUb1
import Derived.Test.YtlbhgoffiigfbaaGreatAw25
import Derived.WalkKit
import Derived.ProofKit
import Derived.OpenShut
import Derived.Deep.DeepHandedRow
import Derived.Lib.LaidTab
import Derived.Test.YtlbhgoffiigfbaaGreatTab
section
set_option linter.unusedSimpArgs false
set_option linter.unusedVariables false
namespace Go.Proofs.YtlbhgoffiigfbaaGreat.AW
open Go Go.RowKit Go.ChangeShapes Go.WideShapes Go.ChangeAt

/-- All memory, to be read. -/
def memOf (W : World) : Mem := ⟨fun b o => match W.cell? ⟨b, o, none⟩ with | some v => if v.oneCell' = true then some v else none | none => none, fun _ => none, fun _ _ => none, fun _ => 0⟩
theorem WR.start (W : World) : WR ⟨W, fun _ _ => True⟩ (memOf W) W AH.none := by
  refine ⟨Bel.refl _ _, fun b o v hk => ?_, (fun b x hb => by cases hb), (fun b cs hb => by cases hb), (fun t g x ht => by cases ht), (fun t g ht => by cases ht), (fun b cs hb => by cases hb), (fun t g ht => by cases ht),
      (fun t g x g' ht => by cases ht), (fun b b' cs cs' x hb => by cases hb), (fun t t' g g' x x' ht => by cases ht), (fun b t cs g x y hb => by cases hb), fun _ _ _ _ _ => trivial⟩
  change (match W.cell? ⟨b, o, .none⟩ with | some v => if v.oneCell' = true then some v else Option.none | Option.none => Option.none) = some v at hk
  cases hc : W.cell? ⟨b, o, .none⟩ with
  | none => rw [hc] at hk; cases hk
  | some u =>
    rw [hc] at hk
    simp only at hk
    split at hk
    · next h1 => injection hk with hk; subst hk; exact ⟨rfl, h1⟩
    · cases hk

/-- Cells are what the abstract cells say, one value each. -/
structure CR (W : World) (avs : List AV) (cs : List Value) : Prop where
  len : avs.length = cs.length
  rel : ∀ (j : Nat) (c : AV), avs[j]? = some c → VR (memOf W) c (cs.getD j undef)
  one : ∀ v ∈ cs, v.oneCell' = true
theorem CR.nil {W : World} : CR W [] [] := ⟨rfl, fun j c h => by simp at h, fun v h => by cases h⟩
theorem CR.cons {W : World} {a : AV} {v : Value} {avs : List AV} {cs : List Value} (h : VR (memOf W) a v) (h1 : v.oneCell' = true) (k : CR W avs cs) : CR W (a :: avs) (v :: cs) := by
  refine ⟨by simp [k.len], fun j c hc => ?_, fun u hu => ?_⟩
  · cases j with
    | zero => simp at hc; subst hc; exact h
    | succ j => simpa using k.rel j c (by simpa using hc)
  · rcases List.mem_cons.1 hu with rfl | hu
    · exact h1
    · exact k.one u hu
theorem CR.append {W : World} {avs bs : List AV} {cs ds : List Value} (h : CR W avs cs) (k : CR W bs ds) : CR W (avs ++ bs) (cs ++ ds) := by
  refine ⟨by simp [h.len, k.len], fun j c hc => ?_, fun v hv => ?_⟩
  · rw [List.getD_eq_getElem?_getD]
    by_cases hj : j < avs.length
    · rw [List.getElem?_append_left hj] at hc
      rw [List.getElem?_append_left (by rw [← h.len]; exact hj), ← List.getD_eq_getElem?_getD]
      exact h.rel j c hc
    · rw [List.getElem?_append_right (by omega)] at hc
      rw [List.getElem?_append_right (by rw [← h.len]; omega), ← h.len, ← List.getD_eq_getElem?_getD]
      exact k.rel _ c hc
  · rcases List.mem_append.1 hv with hv | hv
    · exact h.one v hv
    · exact k.one v hv
/-- A struct's value out of its cells. -/
theorem CR.agg {W : World} {avs : List AV} {cs : Array Value} (h : CR W avs cs.toList) : VR (memOf W) (.agg avs) (.agg cs) := by
  refine .agg avs cs (by have := h.len; simp at this; omega) (fun i c hi => ?_)
  have := h.rel i c hi
  rw [List.getD_eq_getElem?_getD, Array.getElem?_toList] at this
  rw [Array.getD_eq_getD_getElem?]; exact this

section
variable {H : Type} {enc : TypeId × Value → H} {P : Program} {te : TE} {W : World} {fuel : Nat} {cs : List Value} {x : DataW H × List MemPlace}
def small (P : Program) (t : Nat) (d : DataW H) : Prop := ∀ n ∈ d.weights P t, n ≤ 140737488351232
theorem int_at (hte : te.ok P) {t : Nat} {i : TI} (hi : te t = some i) {k : IntKind} (hk : i.k = .int k) : P.underlying t = some (.int k) := by
  obtain ⟨info, d, _, h2, h3, _, _⟩ := hte.info hi
  rw [hk] at h3
  cases d <;> simp [AT.fits] at h3
  subst h3; exact h2
theorem bool_at (hte : te.ok P) {t : Nat} {i : TI} (hi : te t = some i) (hk : i.k = .bool) : P.underlying t = some .bool := by
  obtain ⟨info, d, _, h2, h3, _, _⟩ := hte.info hi
  rw [hk] at h3
  cases d <;> simp [AT.fits] at h3
  exact h2
theorem read_int (hte : te.ok P) {t : Nat} {i : TI} (hi : te t = some i) {k : IntKind} (hk : i.k = .int k) (h : DataW.trod enc P W 0 (fun _ => true) true fuel t cs = some x) : ∃ n : Int, CR W [.int k n] cs ∧ k.min ≤ n ∧ n ≤ k.max := by
  obtain ⟨n, rfl, rfl, hw⟩ := DataW.trod_int (int_at hte hi hk) h
  simp only [Lit.wf, Bool.and_eq_true, decide_eq_true_eq] at hw
  exact ⟨n, .cons (.int k n) rfl .nil, hw⟩
theorem read_str (hte : te.ok P) {t : Nat} {i : TI} (hi : te t = some i) (hk : i.k = .str) (h : DataW.trod enc P W 0 (fun _ => true) true fuel t cs = some x) (hs : small P t x.1) : ∃ s : ByteArray, CR W [.str s] cs ∧ s.size ≤ 140737488351232 := by
  obtain ⟨s, rfl, rfl, hw⟩ := DataW.trod_string (str_at hte hi hk) h
  have := hs s.data.toList.length (by simp [DataW.weights])
  exact ⟨s, .cons (.str s) rfl .nil, by simpa using this⟩
theorem weightsEach_mem : ∀ {ts : List TypeId} {l : List (DataW H)} {i : Nat} {t : TypeId} {d : DataW H}, ts[i]? = some t → l[i]? = some d → ∀ n ∈ d.weights P t, n ∈ DataW.weightsEach P ts l := by
  intro ts
  induction ts with
  | nil => intro l i t d h; simp at h
  | cons y ts ih =>
    intro l i t d ht hd n hn
    cases l with
    | nil => simp at hd
    | cons z l =>
      simp only [DataW.weightsEach, List.mem_append]
      cases i with
      | zero => simp at ht hd; subst ht hd; exact .inl hn
      | succ i => exact .inr (ih (by simpa using ht) (by simpa using hd) n hn)
/-- Arguments, one by one. -/
inductive Args (m : Mem) : List AV → List Value → Prop where
  | nil : Args m [] []
  | cons {a : AV} {v : Value} {avs : List AV} {vs : List Value} : VR m a v → Args m avs vs → Args m (a :: avs) (v :: vs)
theorem args_ok {m : Mem} {avs : List AV} {vs : Array Value} (h : Args m avs vs.toList) : ∀ (i : Nat) (c : AV), avs[i]? = some c → VR m c (vs.getD i undef) := by
  have key : ∀ {avs : List AV} {vs : List Value}, Args m avs vs → ∀ (i : Nat) (c : AV), avs[i]? = some c → VR m c (vs.getD i undef) := by
    intro avs vs h
    induction h with
    | nil => intro i c hi; simp at hi
    | cons h1 _ ih =>
      intro i c hi
      cases i with
      | zero => simp at hi; subst hi; exact h1
      | succ i => simpa using ih i c (by simpa using hi)
  intro i c hi
  have := key h i c hi
  rw [List.getD_eq_getElem?_getD, Array.getElem?_toList] at this
  rw [Array.getD_eq_getD_getElem?]; exact this
/-- A law's contract in the library's words. -/
theorem Pure.law {f : FuncId} {args : List AV} (hp : Pure P f args (.bool true)) {w : World} {m : Mem} {w0 : Base} (args' : Array Value) (h1 : args'.size = args.length) (h2 : ∀ (i : Nat) (c : AV), args[i]? = some c → VR m c (args'.getD i undef)) (hW : WR w0 m w AH.none) (hw : w0.toWorld = w) :
    Calls P f args' w fun e w' => e = .returned (.bool true) ∧ Below w.heap.size w w' := by
  refine (hp.calls AH.none w0 m w args' h1 h2 hW).mono ?_
  rintro e w' ⟨m', out, h', q1, q2, q3, rfl, rfl⟩
  subst hw
  cases e with
  | returned c => exact ⟨by rw [q2.bool_inv], q3.below.toBelow⟩
  | panicked c => exact q2.elim
  | outgrown => exact q2.elim
/-! The end of a law's row. -/
theorem reach_eq : reachBytes = 140737488351232 := by decide
mutual
/-- The cells of a listed variable. -/
def flatD : DataW Unit → List Value
  | .lit (.int k n) => [.int k n]
  | .agg l => flatL l
  | _ => []
def flatL : List (DataW Unit) → List Value
  | [] => []
  | x :: xs => flatD x ++ flatL xs
end
theorem TrodAll_stays (hl : laidOutB P = true) {W W' : World} {sp' : Nat → Bool} (hb : Below W.heap.size W W') : ∀ {ts : List TypeId} {vs : List Value} {ds : List (DataW H)} {ps : List MemPlace}, (ts.all fun t => P.readableRec t && decide (t < P.types.size)) = true →
    DataW.TrodAll enc P W 0 (fun _ => true) true ts vs ds ps → (∀ p ∈ ps, p.block < W.heap.size) → (∀ p ∈ ps, sp' p.block = true) → DataW.TrodAll enc P W' 0 sp' true ts vs ds ps := by
  intro ts
  induction ts with
  | nil =>
    intro vs ds ps _ h _ _
    obtain ⟨rfl, rfl, rfl⟩ := trodAll_nil h
    exact trodAll_mk0
  | cons t ts ih =>
    intro vs ds ps ht h hlt hsp
    obtain ⟨v, vs', d, ds', p, q, rfl, rfl, rfl, h1, h2⟩ := trodAll_cons h
    simp only [List.all_cons, Bool.and_eq_true, decide_eq_true_eq] at ht
    refine trodAll_cons_mk (WideElems.Trod_stays hl ht.1.1 ht.1.2 h1 (fun x hx => hb.same (hlt x (List.mem_append_left _ hx))) (fun x hx => hsp x (List.mem_append_left _ hx))) (ih ht.2 h2 (fun x hx => hlt x (List.mem_append_right _ hx)) (fun x hx => hsp x (List.mem_append_right _ hx)))

/-- A law that returns true and writes nothing of what was there. -/
theorem post_law {f : Func} {s : ChangeSpec} {W W' : World} {args : Array Value} {ds gs : List (DataW H)} {before : List MemPlace} {bt : TypeId} (hl : laidOutB P = true) (hts : (f.params.toList.all fun t => P.readableRec t && decide (t < P.types.size)) = true)
    (hW : DataW.Whole enc P f.params.toList s.vars false W args.toList ds gs before) (hvars : s.vars = []) (hr : f.resultTypes = #[bt]) (hbt : P.underlying bt = some .bool)
    (hres : (s.fn H ds).results = [.lit (.bool true)]) (hargs : (s.fn H ds).args = ds) (hvs : (s.fn H ds).vars = []) (hb : Below W.heap.size W W') :
    s.post enc P f false true false false W args (.bool true) W' := by
  have hlt := hW.lt
  have hW' := hW
  obtain ⟨p, q, hA, hV, rfl, hfz, hnd⟩ := hW
  rw [hvars] at hV
  obtain ⟨rfl, rfl⟩ := trodVars_none hV
  simp only [List.append_nil] at hlt hW' hfz hres hargs hvs ⊢
  refine ⟨ds, [], p, [], p, [], hW', ?_, ?_, ?_, ?_, fun h => by cases h⟩
  · simp only [List.append_nil]
    rw [hres, hr]
    exact trodAll_cons_mk (shut_bool hbt _) trodAll_mk0
  · simp only [List.append_nil]
    rw [hargs]
    exact TrodAll_stays hl hb hts hA hlt (fun x hx => by simpa using hlt x hx)
  · simp only [List.append_nil]
    rw [hvs, hvars]; rfl
  · exact hb.frame _
end
end Go.Proofs.YtlbhgoffiigfbaaGreat.AW
end
section
set_option linter.unusedSimpArgs false
set_option linter.unusedVariables false
namespace Go.Proofs.YtlbhgoffiigfbaaGreat.AW
open Go Go.RowKit

mutual
/-- What no value that is handed passes. -/
def V.fit : V → Prop
  | .mk k i t xs ks => -9223372036854775808 ≤ k ∧ k ≤ 9223372036854775807 ∧ -9223372036854775808 ≤ i ∧ i ≤ 9223372036854775807 ∧ t.size ≤ 140737488351232 ∧ xs.length ≤ 1759218604390 ∧ ks.length ≤ 8796093021952 ∧ (∀ k ∈ ks, k.size ≤ 140737488351232) ∧ V.fitL xs
def V.fitL : List V → Prop
  | [] => True
  | x :: xs => x.fit ∧ V.fitL xs
end
theorem V.fitL_iff {xs : List V} : V.fitL xs ↔ ∀ x ∈ xs, x.fit := by
  induction xs with
  | nil => simp [V.fitL]
  | cons x xs ih => simp [V.fitL, ih]
theorem V.fit.sm {v : V} (h : v.fit) : v.sm := by
  induction v using V.ind with
  | h k i t xs ks ih =>
    simp only [V.fit, V.fitL_iff] at h
    simp only [V.sm, V.smL_iff]
    exact ⟨by omega, by omega, fun x hx => ih x hx (h.2.2.2.2.2.2.2.2 x hx)⟩
section
variable {H : Type} {enc : TypeId × Value → H} {W : World}
end
end Go.Proofs.YtlbhgoffiigfbaaGreat.AW
end
section
set_option linter.unusedSimpArgs false
set_option linter.unusedVariables false
namespace Go.Proofs.YtlbhgoffiigfbaaGreat.AW
open Go Go.RowKit

section
variable {H : Type} {enc : TypeId × Value → H} {W : World}
theorem CR.one1' {a : AV} {v : Value} (h : CR W [a] v.cells.toList) (hn : ∀ cs, v ≠ .agg cs) : VR (memOf W) a v := by
  have hc : v.cells = #[v] := by cases v <;> first | rfl | exact absurd rfl (hn _)
  rw [hc] at h
  exact h.rel 0 a rfl
set_option maxRecDepth 100000 in
theorem hand_intk {t : Nat} {i : TI} {k : IntKind} (hi : te t = some i) (hk : i.k = .int k) {r : Reach} {base : Nat} {v : Value} {d : DataW H} {ps : List MemPlace} (h : DataW.Trod enc Tryz.prog W 0 (fun _ => true) true t v d ps) (hv : Value.okWide Tryz.prog W r base t v) :
    ∃ n : Int, (k.min ≤ n ∧ n ≤ k.max) ∧ VR (memOf W) (.int k n) v := by
  obtain ⟨fuel, h⟩ := h
  obtain ⟨n0, rfl⟩ := WideShapes.okWide_int (int_at te_ok hi hk) hv
  obtain ⟨n, c, b⟩ := read_int te_ok hi hk h
  exact ⟨n, b, c.one1' (fun cs e => by cases e)⟩
set_option maxRecDepth 100000 in
theorem hand_str {r : Reach} {base : Nat} {v : Value} {d : DataW H} {ps : List MemPlace} (h : DataW.Trod enc Tryz.prog W 0 (fun _ => true) true 9 v d ps) (hs : small Tryz.prog 9 d) (hv : Value.okWide Tryz.prog W r base 9 v) :
    ∃ s : ByteArray, s.size ≤ 140737488351232 ∧ VR (memOf W) (.str s) v := by
  obtain ⟨fuel, h⟩ := h
  obtain ⟨s0, rfl⟩ := WideShapes.okWide_string (str_at te_ok te_9 rfl) hv
  obtain ⟨s, c, b⟩ := read_str te_ok te_9 rfl h hs
  exact ⟨s, b, c.one1' (fun cs e => by cases e)⟩
end
end Go.Proofs.YtlbhgoffiigfbaaGreat.AW
end
