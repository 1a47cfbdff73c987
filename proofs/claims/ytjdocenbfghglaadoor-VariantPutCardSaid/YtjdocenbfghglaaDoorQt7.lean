/- Texts of this claim, part 7: V27. -/
import Derived.Test.YtjdocenbfghglaaDoorQt1
import Derived.Test.YtjdocenbfghglaaDoorQt2
import Derived.Test.YtjdocenbfghglaaDoorQt3
import Derived.Test.YtjdocenbfghglaaDoorQt4
import Derived.Test.YtjdocenbfghglaaDoorQt5
import Derived.Test.YtjdocenbfghglaaDoorQt6
import Derived.Test.YtjdocenbfghglaaDoorAw28
section
set_option linter.unusedSimpArgs false
set_option linter.unusedVariables false
namespace Go.Proofs.YtjdocenbfghglaaDoor.AW
open Go Go.RowKit

def stepEq (a b : Stp) : Bool := a.index == b.index && a.key.toList == b.key.toList
def stepLt (a b : Stp) : Bool := (decide (a.index ≥ 0) && (decide (b.index < 0) || decide (a.index < b.index))) || (decide (a.index < 0) && decide (b.index < 0) && sless a.key b.key)
def cmpS : List Stp → List Stp → Int
  | [], [] => 0
  | [], _ :: _ => -1
  | _ :: _, [] => 1
  | a :: p, b :: q => if stepEq a b = true then cmpS p q else if stepLt a b = true then -1 else 1
theorem stepEq_iff {a b : Stp} : stepEq a b = true ↔ a = b := by
  obtain ⟨i, k⟩ := a
  obtain ⟨j, l⟩ := b
  unfold stepEq
  simp only [Bool.and_eq_true, beq_iff_eq]
  constructor
  · rintro ⟨rfl, h⟩; rw [ba_ext h]
  · intro h; injection h with h1 h2; exact ⟨h1, by rw [h2]⟩
theorem cmpS_zero : ∀ {p q : List Stp}, cmpS p q = 0 ↔ p = q
  | [], [] => by simp [cmpS]
  | [], _ :: _ => by simp [cmpS]
  | _ :: _, [] => by simp [cmpS]
  | a :: p, b :: q => by
    simp only [cmpS]
    by_cases h : stepEq a b = true
    · rw [if_pos h, cmpS_zero, stepEq_iff.1 h]; simp
    · rw [if_neg h]
      have : a ≠ b := fun e => h (stepEq_iff.2 e)
      split <;> simp [this]
theorem drop_get {α : Type} {l : List α} {j : Nat} (h : j < l.length) : l.drop j = l[j] :: l.drop (j + 1) := by
  rw [List.drop_eq_getElem_cons h]
def cmpD : List (Option Nat) := [some 20, some 21, some 22, some 23, some 24, some 25, some 26, some 27, some 6, some 7, none, none]
def cmpShape : List (Option Nat × Op × Option (Nat × Bool)) := [(some 20, .move (.tmp 0), none), (some 21, .move (.tmp 5), none), (some 22, .indexAddr 26 (.tmp 20) (.tmp 21), none), (some 23, .load 46 (.tmp 22), none), (some 24, .move (.tmp 1), none), (some 25, .move (.tmp 5), none), (some 26, .indexAddr 26 (.tmp 24) (.tmp 25), none), (some 27, .load 46 (.tmp 26), none), (some 6, .alloc 46, none), (some 7, .alloc 46, none), (none, .store 46 (.tmp 6) (.tmp 23), none), (none, .store 46 (.tmp 7) (.tmp 27), none)]
def cmpW : List (List Nat) := [[], [], [0, 1], [2], [], [], [4, 5], [6], [], [], [8, 3, 0, 1, 2, 3, 8, 9], [9, 7, 10, 0, 1, 2, 3, 4, 5, 6, 7, 8, 9, 10]]
/-- What the region's operations give; c: the first box is made first. -/
def cmpV (c : Bool) (p q : List Stp) (a b : Stp) (j nb : Nat) : Nat → AV
  | 0 => .sl .ro 2 (p.map injS)
  | 1 => .int .i64 j
  | 2 => .rptr [.int .i64 a.index, .str a.key]
  | 3 => .agg [.int .i64 a.index, .str a.key]
  | 4 => .sl .ro 2 (q.map injS)
  | 5 => .int .i64 j
  | 6 => .rptr [.int .i64 b.index, .str b.key]
  | 7 => .agg [.int .i64 b.index, .str b.key]
  | 8 => if c = true then .ptr nb 0 else .ptr (nb + 1) 0
  | 9 => if c = true then .ptr (nb + 1) 0 else .ptr nb 0
  | _ => .dead
theorem cmpV_same {c c' : Bool} {p q : List Stp} {a b : Stp} {j nb k : Nat} (h8 : k ≠ 8) (h9 : k ≠ 9) : cmpV c p q a b j nb k = cmpV c' p q a b j nb k := by
  unfold cmpV
  split <;> first | rfl | exact absurd rfl h8 | exact absurd rfl h9
def cmpH (c : Bool) (a b : Stp) (h : AH) (b8 b9 b10 b11 : Bool) : AH :=
  if b11 = true then (((h.new [.int .i64 0, .str ⟨#[]⟩]).new [.int .i64 0, .str ⟨#[]⟩]).set (if c = true then h.nb else h.nb + 1) [.int .i64 a.index, .str a.key]).set (if c = true then h.nb + 1 else h.nb) [.int .i64 b.index, .str b.key]
  else if b10 = true then ((h.new [.int .i64 0, .str ⟨#[]⟩]).new [.int .i64 0, .str ⟨#[]⟩]).set (if c = true then h.nb else h.nb + 1) [.int .i64 a.index, .str a.key]
  else if (b8 && b9) = true then (h.new [.int .i64 0, .str ⟨#[]⟩]).new [.int .i64 0, .str ⟨#[]⟩]
  else if (b8 || b9) = true then h.new [.int .i64 0, .str ⟨#[]⟩] else h
theorem repl_getD (n i : Nat) : (Array.replicate n false).getD i false = false := by
  by_cases h : i < n <;> simp [Array.getD_eq_getD_getElem?, h]
set_option maxHeartbeats 2000000 in
theorem cmp_region {ops : Array Oper} {s0 : AS} {h0 : AH} {Q : AQ} (hsh : shapeOf ops = cmpShape) (hwt : waitsOf ops = cmpW) {p q : List Stp} {j : Nat} {a b : Stp} (e0 : s0 0 = .sl .ro 2 (p.map injS)) (e1 : s0 1 = .sl .ro 2 (q.map injS)) (e5 : s0 5 = .int .i64 j)
    (hgp : (p.map injS)[((j : Nat) : Int).toNat]? = some (.agg [.int .i64 a.index, .str a.key])) (hgq : (q.map injS)[((j : Nat) : Int).toNat]? = some (.agg [.int .i64 b.index, .str b.key]))
    (hk : ∀ c : Bool, Q .normal (putAll cmpD (cmpV c p q a b j h0.nb) 0 s0) (cmpH c a b h0 true true true true)) : DrawOk Tryd.prog te 77 ops s0 h0 Q := by
  have hsz : ops.size = 12 := by have := congrArg List.length hsh; simpa [shapeOf, cmpShape] using this
  have hcd : ∀ (i : Nat) (o : Oper), ops[i]? = some o → cmpD[i]? = some o.dst := fun i o ho => by
    have h1 := shape_at hsh ho
    have h2 : cmpD = cmpShape.map (·.1) := rfl
    rw [h2, List.getElem?_map, h1]; rfl
  have hu := uniq_spec (dsts := cmpD) (by decide)
  have nbs : (h0.nb + 1 = h0.nb) = False := by simp
  have nbs2 : (h0.nb = h0.nb + 1) = False := by simp
  refine draw_flag te_ok mixed (fun c => cmpV c p q a b j h0.nb) (fun c L => cmpH c a b h0 (L.getD 8 false) (L.getD 9 false) (L.getD 10 false) (L.getD 11 false)) (fun c L => sAt cmpD (cmpV c p q a b j h0.nb) s0 fun i => L.getD i false)
    (fun c L => Closed cmpW L ∧ (c = true → L.getD 9 false = true → L.getD 8 false = true) ∧ (c = false → L.getD 8 false = true → L.getD 9 false = true)) ?_ ?_ ?_ ?_ ?_ ?_
  · refine ⟨fun i d hd hl => ?_, fun _ h => ?_, fun _ h => ?_⟩
    · rw [repl_getD] at hl; cases hl
    · rw [repl_getD] at h; cases h
    · rw [repl_getD] at h; cases h
  · funext t
    unfold sAt
    cases own cmpD t with
    | none => rfl
    | some k => simp only [repl_getD]; rfl
  · simp only [repl_getD]; rfl
  · intro i o ho
    have h1 := hcd i o ho
    have h2 : (cmpD.all fun d => dstOk 77 d) = true := by decide
    exact List.all_eq_true.1 h2 _ (List.mem_of_getElem? h1)
  · rintro c L hL ⟨hcl, hR1, hR2⟩ i hi o ho
    rw [hsz] at hL
    have hso := shape_at hsh ho
    have hdep := ready_deps hwt hi
    have hlt : i < 12 := by have := (Array.getElem?_eq_some_iff.1 ho).1; omega
    have hf : L.getD i false = false := by
      have := (mem_ready.1 hi).1
      simp [Array.getD_eq_getD_getElem?, Array.getElem?_eq_getElem (show i < L.size by omega)] at this ⊢
      exact this
    have hcl' : Closed cmpW (L.setIfInBounds i true) := hcl.set (by omega) hdep
    have hput : ∀ c, putD (sAt cmpD (cmpV c p q a b j h0.nb) s0 fun k => L.getD k false) o.dst (cmpV c p q a b j h0.nb i) = sAt cmpD (cmpV c p q a b j h0.nb) s0 (fun k => (L.setIfInBounds i true).getD k false) := fun c => by
      rw [sAt_put (hcd i o ho) (fun t ht => hu i t (by rw [hcd i o ho, ht]))]
      congr 1
      funext k
      exact (set_getD (by omega)).symm
    have hfl : ∀ k, k ≠ i → (L.setIfInBounds i true).getD k false = L.getD k false := fun k hk => by rw [set_getD (by omega)]; simp [hk]
    have hS : ∀ c t i, own cmpD t = some i → L.getD i false = true → sAt cmpD (cmpV c p q a b j h0.nb) s0 (fun k => L.getD k false) t = cmpV c p q a b j h0.nb i := fun c t i h1 h2 => sAt_done (p := fun k => L.getD k false) h1 h2
    rcases (show i = 0 ∨ i = 1 ∨ i = 2 ∨ i = 3 ∨ i = 4 ∨ i = 5 ∨ i = 6 ∨ i = 7 ∨ i = 8 ∨ i = 9 ∨ i = 10 ∨ i = 11 by omega) with rfl | rfl | rfl | rfl | rfl | rfl | rfl | rfl | rfl | rfl | rfl | rfl
    · obtain ⟨hop, hg⟩ : o.op = _ ∧ o.guard = none := by injection hso with hso; injection hso with e1 e2; injection e2 with e2 e3; exact ⟨e2.symm, e3.symm⟩
      refine ⟨c, rfl, rfl, step_go hg hop ?_, ⟨hcl', fun h1 => by rw [hfl 9 (by decide), hfl 8 (by decide)]; exact hR1 h1, fun h1 => by rw [hfl 9 (by decide), hfl 8 (by decide)]; exact hR2 h1⟩, (hput c).symm⟩
      rw [hfl 8 (by decide), hfl 9 (by decide), hfl 10 (by decide), hfl 11 (by decide)]
      simp only [aw0, aw1, aw2, aw3, aw4, aw5, aw6, aw7, ne_eq, eq_self, implies_true, imp_self, reduceIte, reduceCtorEq, Nat.reduceAdd, Nat.reduceLT, Nat.reduceLeDiff, Nat.reduceEqDiff, Nat.reduceSub, Nat.reduceMul, Nat.reduceBEq, Int.reduceBEq, Int.reduceBNe, Int.reduceLT, Int.reduceLE, Int.reduceGT, Int.reduceGE, Int.reduceNeg, Int.reduceEq, Int.reduceNe, Int.reduceToNat, Int.reduceAdd, aconv, acvB, capR, acmpnil, appBox, storeB, ares1, appendTo, afill, aeqL, teset, sAt_not (show own cmpD 0 = none from rfl), e0, cmpV]
    · obtain ⟨hop, hg⟩ : o.op = _ ∧ o.guard = none := by injection hso with hso; injection hso with e1 e2; injection e2 with e2 e3; exact ⟨e2.symm, e3.symm⟩
      refine ⟨c, rfl, rfl, step_go hg hop ?_, ⟨hcl', fun h1 => by rw [hfl 9 (by decide), hfl 8 (by decide)]; exact hR1 h1, fun h1 => by rw [hfl 9 (by decide), hfl 8 (by decide)]; exact hR2 h1⟩, (hput c).symm⟩
      rw [hfl 8 (by decide), hfl 9 (by decide), hfl 10 (by decide), hfl 11 (by decide)]
      simp only [aw0, aw1, aw2, aw3, aw4, aw5, aw6, aw7, ne_eq, eq_self, implies_true, imp_self, reduceIte, reduceCtorEq, Nat.reduceAdd, Nat.reduceLT, Nat.reduceLeDiff, Nat.reduceEqDiff, Nat.reduceSub, Nat.reduceMul, Nat.reduceBEq, Int.reduceBEq, Int.reduceBNe, Int.reduceLT, Int.reduceLE, Int.reduceGT, Int.reduceGE, Int.reduceNeg, Int.reduceEq, Int.reduceNe, Int.reduceToNat, Int.reduceAdd, aconv, acvB, capR, acmpnil, appBox, storeB, ares1, appendTo, afill, aeqL, teset, sAt_not (show own cmpD 5 = none from rfl), e5, cmpV]
    · obtain ⟨hop, hg⟩ : o.op = _ ∧ o.guard = none := by injection hso with hso; injection hso with e1 e2; injection e2 with e2 e3; exact ⟨e2.symm, e3.symm⟩
      refine ⟨c, rfl, rfl, step_go hg hop ?_, ⟨hcl', fun h1 => by rw [hfl 9 (by decide), hfl 8 (by decide)]; exact hR1 h1, fun h1 => by rw [hfl 9 (by decide), hfl 8 (by decide)]; exact hR2 h1⟩, (hput c).symm⟩
      rw [hfl 8 (by decide), hfl 9 (by decide), hfl 10 (by decide), hfl 11 (by decide)]
      simp only [aw0, aw1, aw2, aw3, aw4, aw5, aw6, aw7, ne_eq, eq_self, implies_true, imp_self, reduceIte, reduceCtorEq, Nat.reduceAdd, Nat.reduceLT, Nat.reduceLeDiff, Nat.reduceEqDiff, Nat.reduceSub, Nat.reduceMul, Nat.reduceBEq, Int.reduceBEq, Int.reduceBNe, Int.reduceLT, Int.reduceLE, Int.reduceGT, Int.reduceGE, Int.reduceNeg, Int.reduceEq, Int.reduceNe, Int.reduceToNat, Int.reduceAdd, aconv, acvB, capR, acmpnil, appBox, storeB, ares1, appendTo, afill, aeqL, teset, hS c 20 0 rfl (hdep _ rfl 0 (by decide)), hS c 21 1 rfl (hdep _ rfl 1 (by decide)), cmpV, hgp, Int.natCast_nonneg, inj_take, inj_drop, inj_agg, inj_len, inj_one, List.length_map]
    · obtain ⟨hop, hg⟩ : o.op = _ ∧ o.guard = none := by injection hso with hso; injection hso with e1 e2; injection e2 with e2 e3; exact ⟨e2.symm, e3.symm⟩
      refine ⟨c, rfl, rfl, step_go hg hop ?_, ⟨hcl', fun h1 => by rw [hfl 9 (by decide), hfl 8 (by decide)]; exact hR1 h1, fun h1 => by rw [hfl 9 (by decide), hfl 8 (by decide)]; exact hR2 h1⟩, (hput c).symm⟩
      rw [hfl 8 (by decide), hfl 9 (by decide), hfl 10 (by decide), hfl 11 (by decide)]
      simp only [aw0, aw1, aw2, aw3, aw4, aw5, aw6, aw7, ne_eq, eq_self, implies_true, imp_self, reduceIte, reduceCtorEq, Nat.reduceAdd, Nat.reduceLT, Nat.reduceLeDiff, Nat.reduceEqDiff, Nat.reduceSub, Nat.reduceMul, Nat.reduceBEq, Int.reduceBEq, Int.reduceBNe, Int.reduceLT, Int.reduceLE, Int.reduceGT, Int.reduceGE, Int.reduceNeg, Int.reduceEq, Int.reduceNe, Int.reduceToNat, Int.reduceAdd, aconv, acvB, capR, acmpnil, appBox, storeB, ares1, appendTo, afill, aeqL, teset, hS c 22 2 rfl (hdep _ rfl 2 (by decide)), cmpV, inj_take, inj_drop, inj_agg, inj_len, inj_one, List.length_map]
    · obtain ⟨hop, hg⟩ : o.op = _ ∧ o.guard = none := by injection hso with hso; injection hso with e1 e2; injection e2 with e2 e3; exact ⟨e2.symm, e3.symm⟩
      refine ⟨c, rfl, rfl, step_go hg hop ?_, ⟨hcl', fun h1 => by rw [hfl 9 (by decide), hfl 8 (by decide)]; exact hR1 h1, fun h1 => by rw [hfl 9 (by decide), hfl 8 (by decide)]; exact hR2 h1⟩, (hput c).symm⟩
      rw [hfl 8 (by decide), hfl 9 (by decide), hfl 10 (by decide), hfl 11 (by decide)]
      simp only [aw0, aw1, aw2, aw3, aw4, aw5, aw6, aw7, ne_eq, eq_self, implies_true, imp_self, reduceIte, reduceCtorEq, Nat.reduceAdd, Nat.reduceLT, Nat.reduceLeDiff, Nat.reduceEqDiff, Nat.reduceSub, Nat.reduceMul, Nat.reduceBEq, Int.reduceBEq, Int.reduceBNe, Int.reduceLT, Int.reduceLE, Int.reduceGT, Int.reduceGE, Int.reduceNeg, Int.reduceEq, Int.reduceNe, Int.reduceToNat, Int.reduceAdd, aconv, acvB, capR, acmpnil, appBox, storeB, ares1, appendTo, afill, aeqL, teset, sAt_not (show own cmpD 1 = none from rfl), e1, cmpV]
    · obtain ⟨hop, hg⟩ : o.op = _ ∧ o.guard = none := by injection hso with hso; injection hso with e1 e2; injection e2 with e2 e3; exact ⟨e2.symm, e3.symm⟩
      refine ⟨c, rfl, rfl, step_go hg hop ?_, ⟨hcl', fun h1 => by rw [hfl 9 (by decide), hfl 8 (by decide)]; exact hR1 h1, fun h1 => by rw [hfl 9 (by decide), hfl 8 (by decide)]; exact hR2 h1⟩, (hput c).symm⟩
      rw [hfl 8 (by decide), hfl 9 (by decide), hfl 10 (by decide), hfl 11 (by decide)]
      simp only [aw0, aw1, aw2, aw3, aw4, aw5, aw6, aw7, ne_eq, eq_self, implies_true, imp_self, reduceIte, reduceCtorEq, Nat.reduceAdd, Nat.reduceLT, Nat.reduceLeDiff, Nat.reduceEqDiff, Nat.reduceSub, Nat.reduceMul, Nat.reduceBEq, Int.reduceBEq, Int.reduceBNe, Int.reduceLT, Int.reduceLE, Int.reduceGT, Int.reduceGE, Int.reduceNeg, Int.reduceEq, Int.reduceNe, Int.reduceToNat, Int.reduceAdd, aconv, acvB, capR, acmpnil, appBox, storeB, ares1, appendTo, afill, aeqL, teset, sAt_not (show own cmpD 5 = none from rfl), e5, cmpV]
    · obtain ⟨hop, hg⟩ : o.op = _ ∧ o.guard = none := by injection hso with hso; injection hso with e1 e2; injection e2 with e2 e3; exact ⟨e2.symm, e3.symm⟩
      refine ⟨c, rfl, rfl, step_go hg hop ?_, ⟨hcl', fun h1 => by rw [hfl 9 (by decide), hfl 8 (by decide)]; exact hR1 h1, fun h1 => by rw [hfl 9 (by decide), hfl 8 (by decide)]; exact hR2 h1⟩, (hput c).symm⟩
      rw [hfl 8 (by decide), hfl 9 (by decide), hfl 10 (by decide), hfl 11 (by decide)]
      simp only [aw0, aw1, aw2, aw3, aw4, aw5, aw6, aw7, ne_eq, eq_self, implies_true, imp_self, reduceIte, reduceCtorEq, Nat.reduceAdd, Nat.reduceLT, Nat.reduceLeDiff, Nat.reduceEqDiff, Nat.reduceSub, Nat.reduceMul, Nat.reduceBEq, Int.reduceBEq, Int.reduceBNe, Int.reduceLT, Int.reduceLE, Int.reduceGT, Int.reduceGE, Int.reduceNeg, Int.reduceEq, Int.reduceNe, Int.reduceToNat, Int.reduceAdd, aconv, acvB, capR, acmpnil, appBox, storeB, ares1, appendTo, afill, aeqL, teset, hS c 24 4 rfl (hdep _ rfl 4 (by decide)), hS c 25 5 rfl (hdep _ rfl 5 (by decide)), cmpV, hgq, Int.natCast_nonneg, inj_take, inj_drop, inj_agg, inj_len, inj_one, List.length_map]
    · obtain ⟨hop, hg⟩ : o.op = _ ∧ o.guard = none := by injection hso with hso; injection hso with e1 e2; injection e2 with e2 e3; exact ⟨e2.symm, e3.symm⟩
      refine ⟨c, rfl, rfl, step_go hg hop ?_, ⟨hcl', fun h1 => by rw [hfl 9 (by decide), hfl 8 (by decide)]; exact hR1 h1, fun h1 => by rw [hfl 9 (by decide), hfl 8 (by decide)]; exact hR2 h1⟩, (hput c).symm⟩
      rw [hfl 8 (by decide), hfl 9 (by decide), hfl 10 (by decide), hfl 11 (by decide)]
      simp only [aw0, aw1, aw2, aw3, aw4, aw5, aw6, aw7, ne_eq, eq_self, implies_true, imp_self, reduceIte, reduceCtorEq, Nat.reduceAdd, Nat.reduceLT, Nat.reduceLeDiff, Nat.reduceEqDiff, Nat.reduceSub, Nat.reduceMul, Nat.reduceBEq, Int.reduceBEq, Int.reduceBNe, Int.reduceLT, Int.reduceLE, Int.reduceGT, Int.reduceGE, Int.reduceNeg, Int.reduceEq, Int.reduceNe, Int.reduceToNat, Int.reduceAdd, aconv, acvB, capR, acmpnil, appBox, storeB, ares1, appendTo, afill, aeqL, teset, hS c 26 6 rfl (hdep _ rfl 6 (by decide)), cmpV, inj_take, inj_drop, inj_agg, inj_len, inj_one, List.length_map]
    · obtain ⟨hop, hg⟩ : o.op = _ ∧ o.guard = none := by injection hso with hso; injection hso with e1 e2; injection e2 with e2 e3; exact ⟨e2.symm, e3.symm⟩
      have h10 : L.getD 10 false = false := by
        cases hx : L.getD 10 false with
        | false => rfl
        | true => have := hcl 10 _ rfl hx 8 (by decide); rw [hf] at this; cases this
      have h11 : L.getD 11 false = false := by
        cases hx : L.getD 11 false with
        | false => rfl
        | true => have := hcl 11 _ rfl hx 8 (by decide); rw [hf] at this; cases this
      have hself : (L.setIfInBounds 8 true).getD 8 false = true := by rw [set_getD (by omega)]; simp
      cases ho9 : L.getD 9 false with
      | false =>
        refine ⟨true, ?_, ?_, step_go hg hop ?_, ⟨hcl', ?_, ?_⟩, (hput _).symm⟩
        · exact sAt_congr fun k hk => ⟨rfl, fun hk2 => cmpV_same (by rintro rfl; rw [hf] at hk2; cases hk2) (by rintro rfl; rw [ho9] at hk2; cases hk2)⟩
        · simp only [hf, ho9, h10, h11]; rfl
        · rw [hself, hfl 9 (by decide), hfl 10 (by decide), hfl 11 (by decide), hf, ho9, h10, h11]
          simp only [aw0, aw1, aw2, aw3, aw4, aw5, aw6, aw7, ne_eq, eq_self, implies_true, imp_self, reduceIte, reduceCtorEq, Nat.reduceAdd, Nat.reduceLT, Nat.reduceLeDiff, Nat.reduceEqDiff, Nat.reduceSub, Nat.reduceMul, Nat.reduceBEq, Int.reduceBEq, Int.reduceBNe, Int.reduceLT, Int.reduceLE, Int.reduceGT, Int.reduceGE, Int.reduceNeg, Int.reduceEq, Int.reduceNe, Int.reduceToNat, Int.reduceAdd, aconv, acvB, capR, acmpnil, appBox, storeB, ares1, appendTo, afill, aeqL, teset, cmpH, cmpV, Bool.false_eq_true, if_false, if_true, Bool.and_false, Bool.false_and, Bool.or_true, Bool.true_or, Bool.or_false]
        · intro h1 h2; first | exact hself | (rw [hfl 9 (by decide), ho9] at h2; cases h2) | cases h1
        · intro h1 h2; first | exact hself | (rw [hfl 9 (by decide), ho9] at h2; cases h2) | cases h1
      | true =>
        have hc : c = false := by
          cases c with
          | true => have := hR1 rfl ho9; rw [hf] at this; cases this
          | false => rfl
        subst hc
        refine ⟨false, rfl, rfl, step_go hg hop ?_, ⟨hcl', ?_, ?_⟩, (hput _).symm⟩
        · rw [hself, hfl 9 (by decide), hfl 10 (by decide), hfl 11 (by decide), hf, ho9, h10, h11]
          simp only [aw0, aw1, aw2, aw3, aw4, aw5, aw6, aw7, ne_eq, eq_self, implies_true, imp_self, reduceIte, reduceCtorEq, Nat.reduceAdd, Nat.reduceLT, Nat.reduceLeDiff, Nat.reduceEqDiff, Nat.reduceSub, Nat.reduceMul, Nat.reduceBEq, Int.reduceBEq, Int.reduceBNe, Int.reduceLT, Int.reduceLE, Int.reduceGT, Int.reduceGE, Int.reduceNeg, Int.reduceEq, Int.reduceNe, Int.reduceToNat, Int.reduceAdd, aconv, acvB, capR, acmpnil, appBox, storeB, ares1, appendTo, afill, aeqL, teset, cmpH, cmpV, Bool.false_eq_true, if_false, if_true, Bool.and_false, Bool.false_and, Bool.or_true, Bool.true_or, Bool.or_false, Bool.and_true]
        · intro h1 h2; first | exact hself | (rw [hfl 9 (by decide)]; exact ho9)
        · intro h1 h2; first | exact hself | (rw [hfl 9 (by decide)]; exact ho9)
    · obtain ⟨hop, hg⟩ : o.op = _ ∧ o.guard = none := by injection hso with hso; injection hso with e1 e2; injection e2 with e2 e3; exact ⟨e2.symm, e3.symm⟩
      have h10 : L.getD 10 false = false := by
        cases hx : L.getD 10 false with
        | false => rfl
        | true => have := hcl 10 _ rfl hx 9 (by decide); rw [hf] at this; cases this
      have h11 : L.getD 11 false = false := by
        cases hx : L.getD 11 false with
        | false => rfl
        | true => have := hcl 11 _ rfl hx 9 (by decide); rw [hf] at this; cases this
      have hself : (L.setIfInBounds 9 true).getD 9 false = true := by rw [set_getD (by omega)]; simp
      cases ho9 : L.getD 8 false with
      | false =>
        refine ⟨false, ?_, ?_, step_go hg hop ?_, ⟨hcl', ?_, ?_⟩, (hput _).symm⟩
        · exact sAt_congr fun k hk => ⟨rfl, fun hk2 => cmpV_same (by rintro rfl; rw [ho9] at hk2; cases hk2) (by rintro rfl; rw [hf] at hk2; cases hk2)⟩
        · simp only [hf, ho9, h10, h11]; rfl
        · rw [hself, hfl 8 (by decide), hfl 10 (by decide), hfl 11 (by decide), hf, ho9, h10, h11]
          simp only [aw0, aw1, aw2, aw3, aw4, aw5, aw6, aw7, ne_eq, eq_self, implies_true, imp_self, reduceIte, reduceCtorEq, Nat.reduceAdd, Nat.reduceLT, Nat.reduceLeDiff, Nat.reduceEqDiff, Nat.reduceSub, Nat.reduceMul, Nat.reduceBEq, Int.reduceBEq, Int.reduceBNe, Int.reduceLT, Int.reduceLE, Int.reduceGT, Int.reduceGE, Int.reduceNeg, Int.reduceEq, Int.reduceNe, Int.reduceToNat, Int.reduceAdd, aconv, acvB, capR, acmpnil, appBox, storeB, ares1, appendTo, afill, aeqL, teset, cmpH, cmpV, Bool.false_eq_true, if_false, if_true, Bool.and_false, Bool.false_and, Bool.or_true, Bool.true_or, Bool.or_false]
        · intro h1 h2; first | exact hself | (rw [hfl 8 (by decide), ho9] at h2; cases h2) | cases h1
        · intro h1 h2; first | exact hself | (rw [hfl 8 (by decide), ho9] at h2; cases h2) | cases h1
      | true =>
        have hc : c = true := by
          cases c with
          | false => have := hR2 rfl ho9; rw [hf] at this; cases this
          | true => rfl
        subst hc
        refine ⟨true, rfl, rfl, step_go hg hop ?_, ⟨hcl', ?_, ?_⟩, (hput _).symm⟩
        · rw [hself, hfl 8 (by decide), hfl 10 (by decide), hfl 11 (by decide), hf, ho9, h10, h11]
          simp only [aw0, aw1, aw2, aw3, aw4, aw5, aw6, aw7, ne_eq, eq_self, implies_true, imp_self, reduceIte, reduceCtorEq, Nat.reduceAdd, Nat.reduceLT, Nat.reduceLeDiff, Nat.reduceEqDiff, Nat.reduceSub, Nat.reduceMul, Nat.reduceBEq, Int.reduceBEq, Int.reduceBNe, Int.reduceLT, Int.reduceLE, Int.reduceGT, Int.reduceGE, Int.reduceNeg, Int.reduceEq, Int.reduceNe, Int.reduceToNat, Int.reduceAdd, aconv, acvB, capR, acmpnil, appBox, storeB, ares1, appendTo, afill, aeqL, teset, cmpH, cmpV, Bool.false_eq_true, if_false, if_true, Bool.and_false, Bool.false_and, Bool.or_true, Bool.true_or, Bool.or_false, Bool.and_true]
        · intro h1 h2; first | exact hself | (rw [hfl 8 (by decide)]; exact ho9)
        · intro h1 h2; first | exact hself | (rw [hfl 8 (by decide)]; exact ho9)
    · obtain ⟨hop, hg⟩ : o.op = _ ∧ o.guard = none := by injection hso with hso; injection hso with e1 e2; injection e2 with e2 e3; exact ⟨e2.symm, e3.symm⟩
      have h8 := hdep _ rfl 8 (by decide)
      have h9 := hdep _ rfl 9 (by decide)
      have h11 : L.getD 11 false = false := by
        cases hx : L.getD 11 false with
        | false => rfl
        | true => have := hcl 11 _ rfl hx 10 (by decide); rw [hf] at this; cases this
      have hself : (L.setIfInBounds 10 true).getD 10 false = true := by rw [set_getD (by omega)]; simp
      refine ⟨c, rfl, rfl, step_go hg hop ?_, ⟨hcl', fun h1 => by rw [hfl 9 (by decide), hfl 8 (by decide)]; exact hR1 h1, fun h1 => by rw [hfl 9 (by decide), hfl 8 (by decide)]; exact hR2 h1⟩, (hput c).symm⟩
      rw [hself, hfl 8 (by decide), hfl 9 (by decide), hfl 11 (by decide), hf, h8, h9, h11]
      cases c with
      | true => simp only [aw0, aw1, aw2, aw3, aw4, aw5, aw6, aw7, ne_eq, eq_self, implies_true, imp_self, reduceIte, reduceCtorEq, Nat.reduceAdd, Nat.reduceLT, Nat.reduceLeDiff, Nat.reduceEqDiff, Nat.reduceSub, Nat.reduceMul, Nat.reduceBEq, Int.reduceBEq, Int.reduceBNe, Int.reduceLT, Int.reduceLE, Int.reduceGT, Int.reduceGE, Int.reduceNeg, Int.reduceEq, Int.reduceNe, Int.reduceToNat, Int.reduceAdd, aconv, acvB, capR, acmpnil, appBox, storeB, ares1, appendTo, afill, aeqL, teset, hS _ 6 8 rfl h8, hS _ 23 3 rfl (hdep _ rfl 3 (by decide)), cmpV, cmpH, inj_take, inj_drop, inj_agg, inj_len, inj_one, List.length_map, nbs, nbs2, Bool.false_eq_true, if_false, if_true, Bool.and_true]
      | false => simp only [aw0, aw1, aw2, aw3, aw4, aw5, aw6, aw7, ne_eq, eq_self, implies_true, imp_self, reduceIte, reduceCtorEq, Nat.reduceAdd, Nat.reduceLT, Nat.reduceLeDiff, Nat.reduceEqDiff, Nat.reduceSub, Nat.reduceMul, Nat.reduceBEq, Int.reduceBEq, Int.reduceBNe, Int.reduceLT, Int.reduceLE, Int.reduceGT, Int.reduceGE, Int.reduceNeg, Int.reduceEq, Int.reduceNe, Int.reduceToNat, Int.reduceAdd, aconv, acvB, capR, acmpnil, appBox, storeB, ares1, appendTo, afill, aeqL, teset, hS _ 6 8 rfl h8, hS _ 23 3 rfl (hdep _ rfl 3 (by decide)), cmpV, cmpH, inj_take, inj_drop, inj_agg, inj_len, inj_one, List.length_map, nbs, nbs2, Bool.false_eq_true, if_false, if_true, Bool.and_true]
    · obtain ⟨hop, hg⟩ : o.op = _ ∧ o.guard = none := by injection hso with hso; injection hso with e1 e2; injection e2 with e2 e3; exact ⟨e2.symm, e3.symm⟩
      have h8 := hdep _ rfl 8 (by decide)
      have h9 := hdep _ rfl 9 (by decide)
      have h10 := hdep _ rfl 10 (by decide)
      have hself : (L.setIfInBounds 11 true).getD 11 false = true := by rw [set_getD (by omega)]; simp
      refine ⟨c, rfl, rfl, step_go hg hop ?_, ⟨hcl', fun h1 => by rw [hfl 9 (by decide), hfl 8 (by decide)]; exact hR1 h1, fun h1 => by rw [hfl 9 (by decide), hfl 8 (by decide)]; exact hR2 h1⟩, (hput c).symm⟩
      rw [hself, hfl 8 (by decide), hfl 9 (by decide), hfl 10 (by decide), hf, h8, h9, h10]
      cases c with
      | true => simp only [aw0, aw1, aw2, aw3, aw4, aw5, aw6, aw7, ne_eq, eq_self, implies_true, imp_self, reduceIte, reduceCtorEq, Nat.reduceAdd, Nat.reduceLT, Nat.reduceLeDiff, Nat.reduceEqDiff, Nat.reduceSub, Nat.reduceMul, Nat.reduceBEq, Int.reduceBEq, Int.reduceBNe, Int.reduceLT, Int.reduceLE, Int.reduceGT, Int.reduceGE, Int.reduceNeg, Int.reduceEq, Int.reduceNe, Int.reduceToNat, Int.reduceAdd, aconv, acvB, capR, acmpnil, appBox, storeB, ares1, appendTo, afill, aeqL, teset, hS _ 7 9 rfl h9, hS _ 27 7 rfl (hdep _ rfl 7 (by decide)), cmpV, cmpH, inj_take, inj_drop, inj_agg, inj_len, inj_one, List.length_map, nbs, nbs2, Bool.false_eq_true, if_false, if_true, Bool.and_true]
      | false => simp only [aw0, aw1, aw2, aw3, aw4, aw5, aw6, aw7, ne_eq, eq_self, implies_true, imp_self, reduceIte, reduceCtorEq, Nat.reduceAdd, Nat.reduceLT, Nat.reduceLeDiff, Nat.reduceEqDiff, Nat.reduceSub, Nat.reduceMul, Nat.reduceBEq, Int.reduceBEq, Int.reduceBNe, Int.reduceLT, Int.reduceLE, Int.reduceGT, Int.reduceGE, Int.reduceNeg, Int.reduceEq, Int.reduceNe, Int.reduceToNat, Int.reduceAdd, aconv, acvB, capR, acmpnil, appBox, storeB, ares1, appendTo, afill, aeqL, teset, hS _ 7 9 rfl h9, hS _ 27 7 rfl (hdep _ rfl 7 (by decide)), cmpV, cmpH, inj_take, inj_drop, inj_agg, inj_len, inj_one, List.length_map, nbs, nbs2, Bool.false_eq_true, if_false, if_true, Bool.and_true]
  · rintro c L hL ⟨hcl, hR1, hR2⟩ hr
    have hall := last_all hwt (by decide) hL hr
    rw [hsz] at hall
    show Q .normal (sAt cmpD (cmpV c p q a b j h0.nb) s0 fun i => L.getD i false) _
    rw [putAll_all hu (fun k hk => hall k hk), hall 8 (by decide), hall 9 (by decide), hall 10 (by decide), hall 11 (by decide)]
    exact hk c
set_option maxHeartbeats 4000000 in
theorem compare_pure (p q : List Stp) (hp : p.length < 4611686018427387904) (hq : q.length < 4611686018427387904) : Pure Tryd.prog 31 [.sl .ro 2 (p.map injS), .sl .ro 2 (q.map injS)] (.int .i64 (cmpS p q)) := by
  refine Pure.ofW ⟨Tryd.f31, Tryd.func31, rfl, by kernel_rfl⟩ rfl (fun h hsc => ?_)
  refine acalls_of te_ok [13, 14, 15, 16, 37, 38, 39, 40, 41, 42, 43, 44, 45, 46, 49, 50, 51, 52, 53, 54, 55, 56, 57, 58, 59, 60, 61, 62, 63] Tryd.func31 (c := _) rfl (Nat.le_of_ble_eq_true rfl) ?_
  simp only [aw0, aw1, aw2, aw3, aw4, aw5, aw6, aw7, ne_eq, eq_self, implies_true, imp_self, reduceIte, reduceCtorEq, Nat.reduceAdd, Nat.reduceLT, Nat.reduceLeDiff, Nat.reduceEqDiff, Nat.reduceSub, Nat.reduceMul, Nat.reduceBEq, Int.reduceBEq, Int.reduceBNe, Int.reduceLT, Int.reduceLE, Int.reduceGT, Int.reduceGE, Int.reduceNeg, Int.reduceEq, Int.reduceNe, Int.reduceToNat, Int.reduceAdd, aconv, acvB, capR, acmpnil, appBox, storeB, ares1, appendTo, afill, aeqL, teset, Tryd.ntmps31, Tryd.results31, inj_take, inj_drop, inj_agg, inj_len, inj_one, List.length_map, boxR]
  refine ⟨fun n s' h' => ∃ (j : Nat), s' 0 = .sl .ro 2 (p.map injS) ∧ s' 1 = .sl .ro 2 (q.map injS) ∧ s' 5 = .int .i64 j ∧ n + j = p.length ∧ j ≤ q.length ∧ h.Ext h' ∧ Scoped h' ∧ cmpS (p.drop j) (q.drop j) = cmpS p q, ⟨p.length, 0, ?_⟩, ?_⟩
  · simp only [aw0, aw1, aw2, aw3, aw4, aw5, aw6, aw7, ne_eq, eq_self, implies_true, imp_self, reduceIte, reduceCtorEq, Nat.reduceAdd, Nat.reduceLT, Nat.reduceLeDiff, Nat.reduceEqDiff, Nat.reduceSub, Nat.reduceMul, Nat.reduceBEq, Int.reduceBEq, Int.reduceBNe, Int.reduceLT, Int.reduceLE, Int.reduceGT, Int.reduceGE, Int.reduceNeg, Int.reduceEq, Int.reduceNe, Int.reduceToNat, Int.reduceAdd, aconv, acvB, capR, acmpnil, appBox, storeB, ares1, appendTo, afill, aeqL, teset, Int.natCast_zero]
    exact ⟨Nat.zero_le _, .refl _, hsc⟩
  · rintro n s' h' ⟨j, e0, e1, e5, hn, hjq, hext, hsc', hcmp⟩
    simp only [aw0, aw1, aw2, aw3, aw4, aw5, aw6, aw7, ne_eq, eq_self, implies_true, imp_self, reduceIte, reduceCtorEq, Nat.reduceAdd, Nat.reduceLT, Nat.reduceLeDiff, Nat.reduceEqDiff, Nat.reduceSub, Nat.reduceMul, Nat.reduceBEq, Int.reduceBEq, Int.reduceBNe, Int.reduceLT, Int.reduceLE, Int.reduceGT, Int.reduceGE, Int.reduceNeg, Int.reduceEq, Int.reduceNe, Int.reduceToNat, Int.reduceAdd, aconv, acvB, capR, acmpnil, appBox, storeB, ares1, appendTo, afill, aeqL, teset, e0, e1, e5, inj_take, inj_drop, inj_agg, inj_len, inj_one, List.length_map]
    cases hc : (decide ((j : Int) < (p.length : Int)) && decide ((j : Int) < (q.length : Int))) with
    | false =>
      have hfin : j = p.length ∨ j = q.length := by
        simp only [Bool.and_eq_false_iff, decide_eq_false_iff_not] at hc
        omega
      simp only [aw0, aw1, aw2, aw3, aw4, aw5, aw6, aw7, ne_eq, eq_self, implies_true, imp_self, reduceIte, reduceCtorEq, Nat.reduceAdd, Nat.reduceLT, Nat.reduceLeDiff, Nat.reduceEqDiff, Nat.reduceSub, Nat.reduceMul, Nat.reduceBEq, Int.reduceBEq, Int.reduceBNe, Int.reduceLT, Int.reduceLE, Int.reduceGT, Int.reduceGE, Int.reduceNeg, Int.reduceEq, Int.reduceNe, Int.reduceToNat, Int.reduceAdd, aconv, acvB, capR, acmpnil, appBox, storeB, ares1, appendTo, afill, aeqL, teset, e0, e1, e5, inj_take, inj_drop, inj_agg, inj_len, inj_one, List.length_map]
      cases h1 : decide ((p.length : Int) < (q.length : Int)) with
      | true =>
        simp only [decide_eq_true_eq] at h1
        have hj : j = p.length := by omega
        simp only [aw0, aw1, aw2, aw3, aw4, aw5, aw6, aw7, ne_eq, eq_self, implies_true, imp_self, reduceIte, reduceCtorEq, Nat.reduceAdd, Nat.reduceLT, Nat.reduceLeDiff, Nat.reduceEqDiff, Nat.reduceSub, Nat.reduceMul, Nat.reduceBEq, Int.reduceBEq, Int.reduceBNe, Int.reduceLT, Int.reduceLE, Int.reduceGT, Int.reduceGE, Int.reduceNeg, Int.reduceEq, Int.reduceNe, Int.reduceToNat, Int.reduceAdd, aconv, acvB, capR, acmpnil, appBox, storeB, ares1, appendTo, afill, aeqL, teset, e0, e1, e5, inj_take, inj_drop, inj_agg, inj_len, inj_one, List.length_map]
        refine ⟨hext, _, rfl, ?_⟩
        rw [← hcmp, show p.drop j = [] from List.drop_eq_nil_of_le (by omega), drop_get (l := q) (by omega)]
        exact .refl _
      | false =>
        simp only [decide_eq_false_iff_not] at h1
        simp only [aw0, aw1, aw2, aw3, aw4, aw5, aw6, aw7, ne_eq, eq_self, implies_true, imp_self, reduceIte, reduceCtorEq, Nat.reduceAdd, Nat.reduceLT, Nat.reduceLeDiff, Nat.reduceEqDiff, Nat.reduceSub, Nat.reduceMul, Nat.reduceBEq, Int.reduceBEq, Int.reduceBNe, Int.reduceLT, Int.reduceLE, Int.reduceGT, Int.reduceGE, Int.reduceNeg, Int.reduceEq, Int.reduceNe, Int.reduceToNat, Int.reduceAdd, aconv, acvB, capR, acmpnil, appBox, storeB, ares1, appendTo, afill, aeqL, teset, e0, e1, e5, inj_take, inj_drop, inj_agg, inj_len, inj_one, List.length_map]
        cases h2 : decide ((p.length : Int) > (q.length : Int)) with
        | true =>
          simp only [decide_eq_true_eq] at h2
          have hj : j = q.length := by omega
          simp only [aw0, aw1, aw2, aw3, aw4, aw5, aw6, aw7, ne_eq, eq_self, implies_true, imp_self, reduceIte, reduceCtorEq, Nat.reduceAdd, Nat.reduceLT, Nat.reduceLeDiff, Nat.reduceEqDiff, Nat.reduceSub, Nat.reduceMul, Nat.reduceBEq, Int.reduceBEq, Int.reduceBNe, Int.reduceLT, Int.reduceLE, Int.reduceGT, Int.reduceGE, Int.reduceNeg, Int.reduceEq, Int.reduceNe, Int.reduceToNat, Int.reduceAdd, aconv, acvB, capR, acmpnil, appBox, storeB, ares1, appendTo, afill, aeqL, teset, e0, e1, e5, inj_take, inj_drop, inj_agg, inj_len, inj_one, List.length_map]
          refine ⟨hext, _, rfl, ?_⟩
          rw [← hcmp, show q.drop j = [] from List.drop_eq_nil_of_le (by omega), drop_get (l := p) (by omega)]
          exact .refl _
        | false =>
          simp only [decide_eq_false_iff_not] at h2
          simp only [aw0, aw1, aw2, aw3, aw4, aw5, aw6, aw7, ne_eq, eq_self, implies_true, imp_self, reduceIte, reduceCtorEq, Nat.reduceAdd, Nat.reduceLT, Nat.reduceLeDiff, Nat.reduceEqDiff, Nat.reduceSub, Nat.reduceMul, Nat.reduceBEq, Int.reduceBEq, Int.reduceBNe, Int.reduceLT, Int.reduceLE, Int.reduceGT, Int.reduceGE, Int.reduceNeg, Int.reduceEq, Int.reduceNe, Int.reduceToNat, Int.reduceAdd, aconv, acvB, capR, acmpnil, appBox, storeB, ares1, appendTo, afill, aeqL, teset, e0, e1, e5, inj_take, inj_drop, inj_agg, inj_len, inj_one, List.length_map]
          refine ⟨hext, _, rfl, ?_⟩
          rw [← hcmp, show q.drop j = [] from List.drop_eq_nil_of_le (by omega), show p.drop j = [] from List.drop_eq_nil_of_le (by omega)]
          exact .refl _
    | true =>
      simp only [Bool.and_eq_true, decide_eq_true_eq] at hc
      have hjp : j < p.length := by omega
      have hjq : j < q.length := by omega
      obtain ⟨a, ha⟩ : ∃ a, p[j]? = some a := ⟨p[j], by simp [hjp]⟩
      obtain ⟨b, hb⟩ : ∃ b, q[j]? = some b := ⟨q[j], by simp [hjq]⟩
      have hgp : (p.map injS)[((j : Nat) : Int).toNat]? = some (.agg [.int .i64 a.index, .str a.key]) := by rw [Int.toNat_natCast, List.getElem?_map, ha]; rfl
      have hgq : (q.map injS)[((j : Nat) : Int).toNat]? = some (.agg [.int .i64 b.index, .str b.key]) := by rw [Int.toNat_natCast, List.getElem?_map, hb]; rfl
      have hspec : cmpS (p.drop j) (q.drop j) = if stepEq a b = true then cmpS (p.drop (j + 1)) (q.drop (j + 1)) else if stepLt a b = true then -1 else 1 := by
        rw [drop_get hjp, drop_get hjq, (List.getElem?_eq_some_iff.1 ha).2, (List.getElem?_eq_some_iff.1 hb).2]; rfl
      simp only [aw0, aw1, aw2, aw3, aw4, aw5, aw6, aw7, ne_eq, eq_self, implies_true, imp_self, reduceIte, reduceCtorEq, Nat.reduceAdd, Nat.reduceLT, Nat.reduceLeDiff, Nat.reduceEqDiff, Nat.reduceSub, Nat.reduceMul, Nat.reduceBEq, Int.reduceBEq, Int.reduceBNe, Int.reduceLT, Int.reduceLE, Int.reduceGT, Int.reduceGE, Int.reduceNeg, Int.reduceEq, Int.reduceNe, Int.reduceToNat, Int.reduceAdd, aconv, acvB, capR, acmpnil, appBox, storeB, ares1, appendTo, afill, aeqL, teset, e0, e1, e5, inj_take, inj_drop, inj_agg, inj_len, inj_one, List.length_map]
      have hnbx := hext.nb
      have nbs : (h'.nb + 1 = h'.nb) = False := by simp
      have nbs2 : (h'.nb = h'.nb + 1) = False := by simp
      refine cmp_region (by kernel_rfl) (by kernel_rfl) (by simp only [aw0, aw1, aw2, aw3, aw4, aw5, aw6, aw7, ne_eq, eq_self, implies_true, imp_self, reduceIte, reduceCtorEq, Nat.reduceAdd, Nat.reduceLT, Nat.reduceLeDiff, Nat.reduceEqDiff, Nat.reduceSub, Nat.reduceMul, Nat.reduceBEq, Int.reduceBEq, Int.reduceBNe, Int.reduceLT, Int.reduceLE, Int.reduceGT, Int.reduceGE, Int.reduceNeg, Int.reduceEq, Int.reduceNe, Int.reduceToNat, Int.reduceAdd, aconv, acvB, capR, acmpnil, appBox, storeB, ares1, appendTo, afill, aeqL, teset, e0, e1, e5]) (by simp only [aw0, aw1, aw2, aw3, aw4, aw5, aw6, aw7, ne_eq, eq_self, implies_true, imp_self, reduceIte, reduceCtorEq, Nat.reduceAdd, Nat.reduceLT, Nat.reduceLeDiff, Nat.reduceEqDiff, Nat.reduceSub, Nat.reduceMul, Nat.reduceBEq, Int.reduceBEq, Int.reduceBNe, Int.reduceLT, Int.reduceLE, Int.reduceGT, Int.reduceGE, Int.reduceNeg, Int.reduceEq, Int.reduceNe, Int.reduceToNat, Int.reduceAdd, aconv, acvB, capR, acmpnil, appBox, storeB, ares1, appendTo, afill, aeqL, teset, e0, e1, e5]) (by simp only [aw0, aw1, aw2, aw3, aw4, aw5, aw6, aw7, ne_eq, eq_self, implies_true, imp_self, reduceIte, reduceCtorEq, Nat.reduceAdd, Nat.reduceLT, Nat.reduceLeDiff, Nat.reduceEqDiff, Nat.reduceSub, Nat.reduceMul, Nat.reduceBEq, Int.reduceBEq, Int.reduceBNe, Int.reduceLT, Int.reduceLE, Int.reduceGT, Int.reduceGE, Int.reduceNeg, Int.reduceEq, Int.reduceNe, Int.reduceToNat, Int.reduceAdd, aconv, acvB, capR, acmpnil, appBox, storeB, ares1, appendTo, afill, aeqL, teset, e0, e1, e5]) hgp hgq ?_
      intro c
      have hext2 : h.Ext (cmpH c a b h' true true true true) := by
        cases c with
        | true => simp only [cmpH, if_true]; (repeat (first | exact AH.Ext.refl _ | assumption | refine AH.Ext.set ?_ (by first | omega | (simp only [new_nb, set_nb, kill_nb, newTok_nb, setTok_nb]; omega)) _ | refine AH.Ext.new ?_ _))
        | false => simp only [cmpH, if_true, Bool.false_eq_true, if_false]; (repeat (first | exact AH.Ext.refl _ | assumption | refine AH.Ext.set ?_ (by first | omega | (simp only [new_nb, set_nb, kill_nb, newTok_nb, setTok_nb]; omega)) _ | refine AH.Ext.new ?_ _))
      have hsc2 : Scoped (cmpH c a b h' true true true true) := by
        cases c with
        | true => simp only [cmpH, if_true]; (repeat (first | assumption | refine Scoped.set ?_ (by first | omega | (simp only [new_nb, set_nb, kill_nb, newTok_nb, setTok_nb]; omega)) _ | refine Scoped.new ?_ _))
        | false => simp only [cmpH, if_true, Bool.false_eq_true, if_false]; (repeat (first | assumption | refine Scoped.set ?_ (by first | omega | (simp only [new_nb, set_nb, kill_nb, newTok_nb, setTok_nb]; omega)) _ | refine Scoped.new ?_ _))
      have hbx : ∃ pA pB : Nat, cmpV c p q a b j h'.nb 8 = .ptr pA 0 ∧ cmpV c p q a b j h'.nb 9 = .ptr pB 0 ∧ (cmpH c a b h' true true true true).box pA = some [.int .i64 a.index, .str a.key] ∧ (cmpH c a b h' true true true true).box pB = some [.int .i64 b.index, .str b.key] := by
        cases c with
        | true => refine ⟨h'.nb, h'.nb + 1, rfl, rfl, ?_, ?_⟩ <;> simp only [aw0, aw1, aw2, aw3, aw4, aw5, aw6, aw7, ne_eq, eq_self, implies_true, imp_self, reduceIte, reduceCtorEq, Nat.reduceAdd, Nat.reduceLT, Nat.reduceLeDiff, Nat.reduceEqDiff, Nat.reduceSub, Nat.reduceMul, Nat.reduceBEq, Int.reduceBEq, Int.reduceBNe, Int.reduceLT, Int.reduceLE, Int.reduceGT, Int.reduceGE, Int.reduceNeg, Int.reduceEq, Int.reduceNe, Int.reduceToNat, Int.reduceAdd, aconv, acvB, capR, acmpnil, appBox, storeB, ares1, appendTo, afill, aeqL, teset, cmpH, if_true, nbs, nbs2]
        | false => refine ⟨h'.nb + 1, h'.nb, rfl, rfl, ?_, ?_⟩ <;> simp only [aw0, aw1, aw2, aw3, aw4, aw5, aw6, aw7, ne_eq, eq_self, implies_true, imp_self, reduceIte, reduceCtorEq, Nat.reduceAdd, Nat.reduceLT, Nat.reduceLeDiff, Nat.reduceEqDiff, Nat.reduceSub, Nat.reduceMul, Nat.reduceBEq, Int.reduceBEq, Int.reduceBNe, Int.reduceLT, Int.reduceLE, Int.reduceGT, Int.reduceGE, Int.reduceNeg, Int.reduceEq, Int.reduceNe, Int.reduceToNat, Int.reduceAdd, aconv, acvB, capR, acmpnil, appBox, storeB, ares1, appendTo, afill, aeqL, teset, cmpH, if_true, Bool.false_eq_true, if_false, nbs, nbs2]
      obtain ⟨pA, pB, v8, v9, bA, bB⟩ := hbx
      generalize cmpH c a b h' true true true true = H at *
      simp only [putAll, cmpD, v8, v9]
      simp only [aw0, aw1, aw2, aw3, aw4, aw5, aw6, aw7, ne_eq, eq_self, implies_true, imp_self, reduceIte, reduceCtorEq, Nat.reduceAdd, Nat.reduceLT, Nat.reduceLeDiff, Nat.reduceEqDiff, Nat.reduceSub, Nat.reduceMul, Nat.reduceBEq, Int.reduceBEq, Int.reduceBNe, Int.reduceLT, Int.reduceLE, Int.reduceGT, Int.reduceGE, Int.reduceNeg, Int.reduceEq, Int.reduceNe, Int.reduceToNat, Int.reduceAdd, aconv, acvB, capR, acmpnil, appBox, storeB, ares1, appendTo, afill, aeqL, teset, e0, e1, e5, inj_take, inj_drop, inj_agg, inj_len, inj_one, List.length_map, cmpV, bA, bB]
      rw [show (a.index == b.index && a.key.toList == b.key.toList) = stepEq a b from rfl]
      cases he : stepEq a b with
      | true =>
        simp only [aw0, aw1, aw2, aw3, aw4, aw5, aw6, aw7, ne_eq, eq_self, implies_true, imp_self, reduceIte, reduceCtorEq, Nat.reduceAdd, Nat.reduceLT, Nat.reduceLeDiff, Nat.reduceEqDiff, Nat.reduceSub, Nat.reduceMul, Nat.reduceBEq, Int.reduceBEq, Int.reduceBNe, Int.reduceLT, Int.reduceLE, Int.reduceGT, Int.reduceGE, Int.reduceNeg, Int.reduceEq, Int.reduceNe, Int.reduceToNat, Int.reduceAdd, aconv, acvB, capR, acmpnil, appBox, storeB, ares1, appendTo, afill, aeqL, teset, e0, e1, e5, inj_take, inj_drop, inj_agg, inj_len, inj_one, List.length_map, cmpV, bA, bB]
        refine ⟨n - 1, by omega, j + 1, by rw [wrap_succ (by omega)], by omega, by omega, hext2, hsc2, ?_⟩
        rw [← hcmp, hspec, if_pos he]
      | false =>
        simp only [aw0, aw1, aw2, aw3, aw4, aw5, aw6, aw7, ne_eq, eq_self, implies_true, imp_self, reduceIte, reduceCtorEq, Nat.reduceAdd, Nat.reduceLT, Nat.reduceLeDiff, Nat.reduceEqDiff, Nat.reduceSub, Nat.reduceMul, Nat.reduceBEq, Int.reduceBEq, Int.reduceBNe, Int.reduceLT, Int.reduceLE, Int.reduceGT, Int.reduceGE, Int.reduceNeg, Int.reduceEq, Int.reduceNe, Int.reduceToNat, Int.reduceAdd, aconv, acvB, capR, acmpnil, appBox, storeB, ares1, appendTo, afill, aeqL, teset, e0, e1, e5, inj_take, inj_drop, inj_agg, inj_len, inj_one, List.length_map, cmpV, bA, bB]
        rw [show (decide (a.index ≥ 0) && (decide (b.index < 0) || decide (a.index < b.index)) || decide (a.index < 0) && decide (b.index < 0) && Op.bytesLess a.key.toList b.key.toList) = stepLt a b from rfl]
        have he' : ¬ stepEq a b = true := by rw [he]; simp
        cases hlt : stepLt a b with
        | true =>
          simp only [aw0, aw1, aw2, aw3, aw4, aw5, aw6, aw7, ne_eq, eq_self, implies_true, imp_self, reduceIte, reduceCtorEq, Nat.reduceAdd, Nat.reduceLT, Nat.reduceLeDiff, Nat.reduceEqDiff, Nat.reduceSub, Nat.reduceMul, Nat.reduceBEq, Int.reduceBEq, Int.reduceBNe, Int.reduceLT, Int.reduceLE, Int.reduceGT, Int.reduceGE, Int.reduceNeg, Int.reduceEq, Int.reduceNe, Int.reduceToNat, Int.reduceAdd, aconv, acvB, capR, acmpnil, appBox, storeB, ares1, appendTo, afill, aeqL, teset, e0, e1, e5, inj_take, inj_drop, inj_agg, inj_len, inj_one, List.length_map, cmpV, bA, bB]
          refine ⟨hext2, _, rfl, ?_⟩
          rw [← hcmp, hspec, if_neg he', if_pos hlt]
          exact .refl _
        | false =>
          simp only [aw0, aw1, aw2, aw3, aw4, aw5, aw6, aw7, ne_eq, eq_self, implies_true, imp_self, reduceIte, reduceCtorEq, Nat.reduceAdd, Nat.reduceLT, Nat.reduceLeDiff, Nat.reduceEqDiff, Nat.reduceSub, Nat.reduceMul, Nat.reduceBEq, Int.reduceBEq, Int.reduceBNe, Int.reduceLT, Int.reduceLE, Int.reduceGT, Int.reduceGE, Int.reduceNeg, Int.reduceEq, Int.reduceNe, Int.reduceToNat, Int.reduceAdd, aconv, acvB, capR, acmpnil, appBox, storeB, ares1, appendTo, afill, aeqL, teset, e0, e1, e5, inj_take, inj_drop, inj_agg, inj_len, inj_one, List.length_map, cmpV, bA, bB]
          refine ⟨hext2, _, rfl, ?_⟩
          rw [← hcmp, hspec, if_neg he', if_neg (by rw [hlt]; simp)]
          exact .refl _
theorem begins_pure (p q : List Stp) (hp : p.length < 1000000) (hq : q.length < 1000000) : Pure Tryd.prog 13 [.sl .ro 2 (p.map injS), .sl .ro 2 (q.map injS)] (.bool (decide (q <+: p))) := by
  refine Pure.of0 ⟨Tryd.f13, Tryd.func13, rfl, by kernel_rfl⟩ (by simp [AV.underL, AV.under, injS_under]) rfl ?_
  refine acalls_of te_ok [] Tryd.func13 (c := _) rfl (Nat.le_of_ble_eq_true rfl) ?_
  simp only [aw0, aw1, aw2, aw3, aw4, aw5, aw6, aw7, ne_eq, eq_self, implies_true, imp_self, reduceIte, reduceCtorEq, Nat.reduceAdd, Nat.reduceLT, Nat.reduceLeDiff, Nat.reduceEqDiff, Nat.reduceSub, Nat.reduceMul, Nat.reduceBEq, Int.reduceBEq, Int.reduceBNe, Int.reduceLT, Int.reduceLE, Int.reduceGT, Int.reduceGE, Int.reduceNeg, Int.reduceEq, Int.reduceNe, Int.reduceToNat, Int.reduceAdd, aconv, acvB, capR, acmpnil, appBox, storeB, ares1, appendTo, afill, aeqL, teset, Tryd.ntmps13, Tryd.results13, inj_take, inj_drop, inj_agg, inj_len, inj_one, List.length_map, boxR]
  cases hc : decide ((p.length : Int) ≥ (q.length : Int)) with
  | false =>
    simp only [aw0, aw1, aw2, aw3, aw4, aw5, aw6, aw7, ne_eq, eq_self, implies_true, imp_self, reduceIte, reduceCtorEq, Nat.reduceAdd, Nat.reduceLT, Nat.reduceLeDiff, Nat.reduceEqDiff, Nat.reduceSub, Nat.reduceMul, Nat.reduceBEq, Int.reduceBEq, Int.reduceBNe, Int.reduceLT, Int.reduceLE, Int.reduceGT, Int.reduceGE, Int.reduceNeg, Int.reduceEq, Int.reduceNe, Int.reduceToNat, Int.reduceAdd, aconv, acvB, capR, acmpnil, appBox, storeB, ares1, appendTo, afill, aeqL, teset, inj_take, inj_drop, inj_agg, inj_len, inj_one, List.length_map]
    simp only [decide_eq_false_iff_not] at hc
    refine ⟨_, rfl, ?_⟩
    have : ¬ q <+: p := fun h => by have := h.length_le; omega
    rw [decide_eq_false this]
    exact .refl _ _
  | true =>
    simp only [decide_eq_true_eq] at hc
    have hle : q.length ≤ p.length := by omega
    have htk : List.take q.length (p.map injS) = (p.take q.length).map injS := by rw [List.map_take]
    have hcmp : ((cmpS (p.take q.length) q == 0)) = decide (q <+: p) := by
      rw [Bool.eq_iff_iff, beq_iff_eq, cmpS_zero, decide_eq_true_iff, List.prefix_iff_eq_take]
      exact ⟨fun h => h.symm, fun h => h.symm⟩
    simp only [aw0, aw1, aw2, aw3, aw4, aw5, aw6, aw7, ne_eq, eq_self, implies_true, imp_self, reduceIte, reduceCtorEq, Nat.reduceAdd, Nat.reduceLT, Nat.reduceLeDiff, Nat.reduceEqDiff, Nat.reduceSub, Nat.reduceMul, Nat.reduceBEq, Int.reduceBEq, Int.reduceBNe, Int.reduceLT, Int.reduceLE, Int.reduceGT, Int.reduceGE, Int.reduceNeg, Int.reduceEq, Int.reduceNe, Int.reduceToNat, Int.reduceAdd, aconv, acvB, capR, acmpnil, appBox, storeB, ares1, appendTo, afill, aeqL, teset, inj_take, inj_drop, inj_agg, inj_len, inj_one, List.length_map, Int.natCast_nonneg, Int.toNat_natCast, hle, Nat.zero_le, Nat.sub_zero, ite_self, htk]
    refine ACallV.pure (compare_pure (p.take q.length) q (by simp; omega) (by omega)) ?_
    simp only [aw0, aw1, aw2, aw3, aw4, aw5, aw6, aw7, ne_eq, eq_self, implies_true, imp_self, reduceIte, reduceCtorEq, Nat.reduceAdd, Nat.reduceLT, Nat.reduceLeDiff, Nat.reduceEqDiff, Nat.reduceSub, Nat.reduceMul, Nat.reduceBEq, Int.reduceBEq, Int.reduceBNe, Int.reduceLT, Int.reduceLE, Int.reduceGT, Int.reduceGE, Int.reduceNeg, Int.reduceEq, Int.reduceNe, Int.reduceToNat, Int.reduceAdd, aconv, acvB, capR, acmpnil, appBox, storeB, ares1, appendTo, afill, aeqL, teset, inj_take, inj_drop, inj_agg, inj_len, inj_one, List.length_map, hcmp]
    exact ⟨_, rfl, .refl _ _⟩
end Go.Proofs.YtjdocenbfghglaaDoor.AW
end
