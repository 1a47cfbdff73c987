/- Texts of this claim, part 2: V5, V6, V7, V8, V9, V10. -/
import Derived.Test.YtlbhgoffiigfbaaBe1
import Derived.Test.YtlbhgoffiigfbaaAw21
section
set_option linter.unusedSimpArgs false
set_option linter.unusedVariables false
namespace Go.Proofs.Ytlbhgoffiigfbaa.AW
open Go Go.RowKit

def zeroV : V := .mk 0 0 ⟨#[]⟩ [] []
theorem wk_zero : Wk (.agg [.int .i64 0, .int .i64 0, .str ⟨#[]⟩, .sl .full 0 [], .sl .full 0 []]) (inj zeroV) :=
  (WkAll.cons (.refl _) (.cons (.refl _) (.cons (.refl _) (.cons (.nil (by intro a b e; cases e)) (.cons (.nil (by intro a b e; cases e)) .nil))))).agg
def keyIdx (ks : List ByteArray) (k : ByteArray) : Option Nat := ks.findIdx? fun x => x.toList == k.toList
def itemS (v : V) (s : Stp) : Option V :=
  if 0 ≤ s.index then (if v.kind = 4 then v.items[s.index.toNat]? else none)
  else if v.kind = 5 then (keyIdx v.keys s.key).bind fun i => v.items[i]?
  else none
def outV : Option V → AV
  | some x => .tup [inj x, .bool true]
  | none => .tup [inj zeroV, .bool false]
theorem outV_n : outV none = .tup [inj zeroV, .bool false] := rfl
theorem outV_s (x : V) : outV (some x) = .tup [inj x, .bool true] := rfl
theorem outV_under (o : Option V) : (outV o).under 0 0 = true := by
  cases o <;> simp [outV, AV.under, AV.underL, inj_under]
theorem wk_none : Wk (.tup [.agg [.int .i64 0, .int .i64 0, .str ⟨#[]⟩, .sl .full 0 [], .sl .full 0 []], .bool false]) (outV none) :=
  (WkAll.cons wk_zero (.cons (.refl _) .nil)).tup

end Go.Proofs.Ytlbhgoffiigfbaa.AW
end
section
set_option linter.unusedSimpArgs false
set_option linter.unusedVariables false
namespace Go.Proofs.Ytlbhgoffiigfbaa.AW
open Go Go.RowKit

def Vok (v : V) : Prop := ∃ L, nodesS L v ≤ 60
theorem nodesF_all (f : V → Nat) : ∀ (xs : List V) (n : Nat), nodesF f n xs ≤ 60 → ∀ x ∈ xs, f x ≤ 60 := by
  intro xs
  induction xs with
  | nil => intro n _ x hx; cases hx
  | cons y xs ih =>
    intro n h x hx
    simp only [nodesF] at h
    split at h
    · omega
    · rcases List.mem_cons.1 hx with rfl | hx
      · omega
      · exact ih _ h x hx
theorem Vok.items {v : V} (h : Vok v) : ∀ x ∈ v.items, Vok x := by
  obtain ⟨L, h⟩ := h
  cases L with
  | zero => simp [nodesS] at h
  | succ L =>
    simp only [nodesS] at h
    split at h
    · omega
    · split at h
      · exact fun x hx => ⟨L, nodesF_all _ _ _ h x hx⟩
      · omega
theorem Vok.shape {v : V} (h : Vok v) : shape v = true ∧ v.items.length ≤ 60 := by
  obtain ⟨L, h⟩ := h
  cases L with
  | zero => simp [nodesS] at h
  | succ L =>
    simp only [nodesS] at h
    split at h
    · omega
    · next hl =>
      split at h
      · next hs => exact ⟨hs, by omega⟩
      · omega
theorem shape_keys {v : V} (h : shape v = true) : (v.kind = 5 → v.keys.length = v.items.length) ∧ (v.kind ≠ 5 → v.keys.length = 0) := by
  obtain ⟨k, i, t, xs, ks⟩ := v
  simp only [V.kind, V.keys, V.items]
  refine ⟨fun hk => ?_, fun hk => ?_⟩
  · subst hk; rw [shape_5] at h; simp at h; exact h.1.2
  · by_cases h0 : k = 0
    · subst h0; rw [shape_0] at h; simp [plainS, V.keys] at h; simp [h.2]
    by_cases h1 : k = 1
    · subst h1; rw [shape_1] at h; simp [plainS, V.keys] at h; simp [h.1.2]
    by_cases h2 : k = 2
    · subst h2; rw [shape_2] at h; simp [plainS, V.keys] at h; simp [h.1.2]
    by_cases h3 : k = 3
    · subst h3; rw [shape_3] at h; simp [plainS, V.keys] at h; simp [h.1.2]
    by_cases h4 : k = 4
    · subst h4; rw [shape_4] at h; simp [plainS, V.keys] at h; simp [h.2]
    · rw [shape_x _ _ _ _ h0 h1 h2 h3 h4 hk] at h; cases h
theorem Vok.keys {v : V} (h : Vok v) : (v.kind = 5 → v.keys.length = v.items.length) ∧ v.keys.length ≤ 60 := by
  obtain ⟨h1, h2⟩ := h.shape
  obtain ⟨h3, h4⟩ := shape_keys h1
  refine ⟨h3, ?_⟩
  by_cases h5 : v.kind = 5
  · rw [h3 h5]; exact h2
  · rw [h4 h5]; omega
theorem itemS_mem {v : V} {s : Stp} {x : V} (h : itemS v s = some x) : x ∈ v.items := by
  unfold itemS at h
  split at h
  · split at h
    · exact List.mem_of_getElem? h
    · cases h
  · split at h
    · obtain ⟨i, _, hi⟩ := Option.bind_eq_some_iff.1 h
      exact List.mem_of_getElem? hi
    · cases h
def atS : V → List Stp → Option V
  | v, [] => some v
  | v, s :: p => (itemS v s).bind fun x => atS x p
theorem outV_wk (o : Option V) : ∃ x b, outV o = .tup [x, b] := by cases o <;> exact ⟨_, _, rfl⟩
/-- What Get gives. -/
def getV (v : V) (p : List Stp) : AV := if valid v && pathOk p then (match atS v p with | some x => .tup [inj x, .bool true, .int .i64 0] | none => .tup [inj zeroV, .bool false, .int .i64 0]) else .tup [inj zeroV, .bool false, .int .i64 1]
theorem getV_under (v : V) (p : List Stp) : (getV v p).under 0 0 = true := by
  unfold getV
  split
  · split <;> simp [AV.under, AV.underL, inj_under]
  · simp [AV.under, AV.underL, inj_under]
end Go.Proofs.Ytlbhgoffiigfbaa.AW
end
section
set_option linter.unusedSimpArgs false
set_option linter.unusedVariables false
namespace Go.Proofs.Ytlbhgoffiigfbaa.AW
open Go Go.RowKit

mutual
theorem V.ind {p : V → Prop} (h : ∀ k i t xs ks, (∀ x ∈ xs, p x) → p (.mk k i t xs ks)) : ∀ v, p v
  | .mk k i t xs ks => h k i t xs ks (V.indL h xs)
theorem V.indL {p : V → Prop} (h : ∀ k i t xs ks, (∀ x ∈ xs, p x) → p (.mk k i t xs ks)) : ∀ xs : List V, ∀ x ∈ xs, p x
  | [] => fun x hx => by cases hx
  | y :: ys => by
    have h1 := V.ind h y
    have h2 := V.indL h ys
    intro x hx
    rcases List.mem_cons.1 hx with rfl | hx
    · exact h1
    · exact h2 x hx
end
mutual
def sameS : V → V → Bool
  | .mk k i t xs ks, .mk k' i' t' xs' ks' => !(k != k' || i != i' || !(t.toList == t'.toList) || (ks.length : Int) != (ks'.length : Int)) && (ks.zip ks').all (fun p => p.1.toList == p.2.toList) && sameL xs xs'
def sameL : List V → List V → Bool
  | [], [] => true
  | x :: xs, y :: ys => sameS x y && sameL xs ys
  | _, _ => false
end
mutual
def V.sm : V → Prop
  | .mk _ _ _ xs ks => xs.length < 4611686018427387904 ∧ ks.length < 4611686018427387904 ∧ V.smL xs
def V.smL : List V → Prop
  | [] => True
  | x :: xs => x.sm ∧ V.smL xs
end
theorem V.smL_iff {xs : List V} : V.smL xs ↔ ∀ x ∈ xs, x.sm := by
  induction xs with
  | nil => simp [V.smL]
  | cons x xs ih => simp [V.smL, ih]
theorem sameL_len : ∀ {xs ys : List V}, xs.length ≠ ys.length → sameL xs ys = false
  | [], [], h => absurd rfl h
  | [], y :: ys, _ => by simp [sameL]
  | x :: xs, [], _ => by simp [sameL]
  | x :: xs, y :: ys, h => by simp only [sameL]; rw [sameL_len (by simpa using h)]; simp
theorem sameL_eq : ∀ {xs ys : List V}, xs.length = ys.length → (sameL xs ys = true ↔ ∀ (j : Nat) x y, xs[j]? = some x → ys[j]? = some y → sameS x y = true)
  | [], [], _ => by simp [sameL]
  | [], y :: ys, h => by simp at h
  | x :: xs, [], h => by simp at h
  | x :: xs, y :: ys, h => by
    simp only [sameL, Bool.and_eq_true]
    rw [sameL_eq (by simpa using h)]
    constructor
    · rintro ⟨h1, h2⟩ j a b ha hb
      cases j with
      | zero => simp at ha hb; subst ha hb; exact h1
      | succ j => exact h2 j a b (by simpa using ha) (by simpa using hb)
    · intro h
      exact ⟨h 0 x y rfl rfl, fun j a b ha hb => h (j + 1) a b (by simpa using ha) (by simpa using hb)⟩

theorem samelist_pure (xs ys : List V) (hl : xs.length < 4611686018427387904) (ih : ∀ x ∈ xs, ∀ y, Pure Try.prog 19 [inj x, inj y] (.bool (sameS x y))) :
    Pure Try.prog 17 [.sl .ro 5 (xs.map inj), .sl .ro 5 (ys.map inj)] (.bool (sameL xs ys)) := by
  refine Pure.of ⟨Try.f17, Try.func17, rfl, by kernel_rfl⟩ rfl (fun h => ?_)
  refine acalls_of te_ok [] Try.func17 (c := _) rfl (Nat.le_of_ble_eq_true rfl) ?_
  simp only [aw0, aw1, aw2, aw3, aw4, aw5, aw6, aw7, ne_eq, eq_self, implies_true, imp_self, reduceIte, reduceCtorEq, Nat.reduceAdd, Nat.reduceLT, Nat.reduceLeDiff, Nat.reduceEqDiff, Nat.reduceSub, Nat.reduceMul, Nat.reduceBEq, Int.reduceBEq, Int.reduceBNe, Int.reduceLT, Int.reduceLE, Int.reduceGT, Int.reduceGE, Int.reduceNeg, Int.reduceEq, Int.reduceNe, Int.reduceToNat, Int.reduceAdd, aconv, acvB, capR, acmpnil, appBox, storeB, ares1, appendTo, afill, aeqL, teset, Try.ntmps17, Try.results17, List.length_map]
  cases hc : ((xs.length : Int) != (ys.length : Int)) with
  | true =>
    simp only [aw0, aw1, aw2, aw3, aw4, aw5, aw6, aw7, ne_eq, eq_self, implies_true, imp_self, reduceIte, reduceCtorEq, Nat.reduceAdd, Nat.reduceLT, Nat.reduceLeDiff, Nat.reduceEqDiff, Nat.reduceSub, Nat.reduceMul, Nat.reduceBEq, Int.reduceBEq, Int.reduceBNe, Int.reduceLT, Int.reduceLE, Int.reduceGT, Int.reduceGE, Int.reduceNeg, Int.reduceEq, Int.reduceNe, Int.reduceToNat, Int.reduceAdd, aconv, acvB, capR, acmpnil, appBox, storeB, ares1, appendTo, afill, aeqL, teset]
    exact ⟨.refl _, _, rfl, by rw [sameL_len (by simp at hc; omega)]; rfl⟩
  | false =>
    simp only [aw0, aw1, aw2, aw3, aw4, aw5, aw6, aw7, ne_eq, eq_self, implies_true, imp_self, reduceIte, reduceCtorEq, Nat.reduceAdd, Nat.reduceLT, Nat.reduceLeDiff, Nat.reduceEqDiff, Nat.reduceSub, Nat.reduceMul, Nat.reduceBEq, Int.reduceBEq, Int.reduceBNe, Int.reduceLT, Int.reduceLE, Int.reduceGT, Int.reduceGE, Int.reduceNeg, Int.reduceEq, Int.reduceNe, Int.reduceToNat, Int.reduceAdd, aconv, acvB, capR, acmpnil, appBox, storeB, ares1, appendTo, afill, aeqL, teset]
    have hlen : xs.length = ys.length := by
      simp only [bne_eq_false_iff_eq] at hc; omega
    refine ⟨fun n s' h' => ∃ (j : Nat), s' 0 = .sl .ro 5 (xs.map inj) ∧ s' 1 = .sl .ro 5 (ys.map inj) ∧ s' 5 = .int .i64 j ∧ h' = h ∧ n + j = xs.length ∧ (∀ (j' : Nat) x y, j' < j → xs[j']? = some x → ys[j']? = some y → sameS x y = true), ⟨xs.length, 0, ?_⟩, ?_⟩
    · simp only [aw0, aw1, aw2, aw3, aw4, aw5, aw6, aw7, ne_eq, eq_self, implies_true, imp_self, reduceIte, reduceCtorEq, Nat.reduceAdd, Nat.reduceLT, Nat.reduceLeDiff, Nat.reduceEqDiff, Nat.reduceSub, Nat.reduceMul, Nat.reduceBEq, Int.reduceBEq, Int.reduceBNe, Int.reduceLT, Int.reduceLE, Int.reduceGT, Int.reduceGE, Int.reduceNeg, Int.reduceEq, Int.reduceNe, Int.reduceToNat, Int.reduceAdd, aconv, acvB, capR, acmpnil, appBox, storeB, ares1, appendTo, afill, aeqL, teset, Int.natCast_zero]
      exact fun j' x y hj => absurd hj (Nat.not_lt_zero _)
    · rintro n s' h' ⟨j, e0, e1, e5, hh, hn, hall⟩
      subst hh
      simp only [aw0, aw1, aw2, aw3, aw4, aw5, aw6, aw7, ne_eq, eq_self, implies_true, imp_self, reduceIte, reduceCtorEq, Nat.reduceAdd, Nat.reduceLT, Nat.reduceLeDiff, Nat.reduceEqDiff, Nat.reduceSub, Nat.reduceMul, Nat.reduceBEq, Int.reduceBEq, Int.reduceBNe, Int.reduceLT, Int.reduceLE, Int.reduceGT, Int.reduceGE, Int.reduceNeg, Int.reduceEq, Int.reduceNe, Int.reduceToNat, Int.reduceAdd, aconv, acvB, capR, acmpnil, appBox, storeB, ares1, appendTo, afill, aeqL, teset, e0, e1, e5, inj_take, inj_drop, inj_agg, inj_len, inj_one, List.length_map]
      cases hc : decide ((j : Int) < (xs.length : Int)) with
      | false =>
        simp only [aw0, aw1, aw2, aw3, aw4, aw5, aw6, aw7, ne_eq, eq_self, implies_true, imp_self, reduceIte, reduceCtorEq, Nat.reduceAdd, Nat.reduceLT, Nat.reduceLeDiff, Nat.reduceEqDiff, Nat.reduceSub, Nat.reduceMul, Nat.reduceBEq, Int.reduceBEq, Int.reduceBNe, Int.reduceLT, Int.reduceLE, Int.reduceGT, Int.reduceGE, Int.reduceNeg, Int.reduceEq, Int.reduceNe, Int.reduceToNat, Int.reduceAdd, aconv, acvB, capR, acmpnil, appBox, storeB, ares1, appendTo, afill, aeqL, teset, e0, e1, e5, inj_take, inj_drop, inj_agg, inj_len, inj_one, List.length_map]
        simp only [decide_eq_false_iff_not] at hc
        have : sameL xs ys = true := (sameL_eq hlen).2 (fun j' x y hx hy => hall j' x y (by have := (List.getElem?_eq_some_iff.1 hx).1; omega) hx hy)
        exact ⟨.refl _, _, rfl, by rw [this]; rfl⟩
      | true =>
        simp only [decide_eq_true_eq] at hc
        have hj : j < xs.length := by omega
        have hj2 : j < ys.length := by omega
        have hget : (xs.map inj)[((j : Nat) : Int).toNat]? = some (inj xs[j]) := by simp [hj]
        have hget2 : (ys.map inj)[((j : Nat) : Int).toNat]? = some (inj ys[j]) := by simp [hj2]
        simp only [aw0, aw1, aw2, aw3, aw4, aw5, aw6, aw7, ne_eq, eq_self, implies_true, imp_self, reduceIte, reduceCtorEq, Nat.reduceAdd, Nat.reduceLT, Nat.reduceLeDiff, Nat.reduceEqDiff, Nat.reduceSub, Nat.reduceMul, Nat.reduceBEq, Int.reduceBEq, Int.reduceBNe, Int.reduceLT, Int.reduceLE, Int.reduceGT, Int.reduceGE, Int.reduceNeg, Int.reduceEq, Int.reduceNe, Int.reduceToNat, Int.reduceAdd, aconv, acvB, capR, acmpnil, appBox, storeB, ares1, appendTo, afill, aeqL, teset, e0, e1, e5, inj_take, inj_drop, inj_agg, inj_len, inj_one, List.length_map]
        refine acode_draw_chain te_ok mixed [] (by kernel_rfl) ?_
        simp only [aw0, aw1, aw2, aw3, aw4, aw5, aw6, aw7, ne_eq, eq_self, implies_true, imp_self, reduceIte, reduceCtorEq, Nat.reduceAdd, Nat.reduceLT, Nat.reduceLeDiff, Nat.reduceEqDiff, Nat.reduceSub, Nat.reduceMul, Nat.reduceBEq, Int.reduceBEq, Int.reduceBNe, Int.reduceLT, Int.reduceLE, Int.reduceGT, Int.reduceGE, Int.reduceNeg, Int.reduceEq, Int.reduceNe, Int.reduceToNat, Int.reduceAdd, aconv, acvB, capR, acmpnil, appBox, storeB, ares1, appendTo, afill, aeqL, teset, e0, e1, e5, inj_take, inj_drop, inj_agg, inj_len, inj_one, List.length_map, hget, hget2, Int.natCast_nonneg]
        refine skR_pure (ih xs[j] (List.getElem_mem _) ys[j]) ?_
        cases hs : sameS xs[j] ys[j] with
        | false =>
          simp only [aw0, aw1, aw2, aw3, aw4, aw5, aw6, aw7, ne_eq, eq_self, implies_true, imp_self, reduceIte, reduceCtorEq, Nat.reduceAdd, Nat.reduceLT, Nat.reduceLeDiff, Nat.reduceEqDiff, Nat.reduceSub, Nat.reduceMul, Nat.reduceBEq, Int.reduceBEq, Int.reduceBNe, Int.reduceLT, Int.reduceLE, Int.reduceGT, Int.reduceGE, Int.reduceNeg, Int.reduceEq, Int.reduceNe, Int.reduceToNat, Int.reduceAdd, aconv, acvB, capR, acmpnil, appBox, storeB, ares1, appendTo, afill, aeqL, teset, e0, e1, e5, inj_take, inj_drop, inj_agg, inj_len, inj_one, List.length_map]
          have : sameL xs ys = false := by
            rw [Bool.eq_false_iff]
            intro hq
            have := (sameL_eq hlen).1 hq j _ _ (List.getElem?_eq_getElem hj) (List.getElem?_eq_getElem hj2)
            rw [hs] at this; cases this
          exact ⟨.refl _, _, rfl, by rw [this]; rfl⟩
        | true =>
          simp only [aw0, aw1, aw2, aw3, aw4, aw5, aw6, aw7, ne_eq, eq_self, implies_true, imp_self, reduceIte, reduceCtorEq, Nat.reduceAdd, Nat.reduceLT, Nat.reduceLeDiff, Nat.reduceEqDiff, Nat.reduceSub, Nat.reduceMul, Nat.reduceBEq, Int.reduceBEq, Int.reduceBNe, Int.reduceLT, Int.reduceLE, Int.reduceGT, Int.reduceGE, Int.reduceNeg, Int.reduceEq, Int.reduceNe, Int.reduceToNat, Int.reduceAdd, aconv, acvB, capR, acmpnil, appBox, storeB, ares1, appendTo, afill, aeqL, teset, e0, e1, e5, inj_take, inj_drop, inj_agg, inj_len, inj_one, List.length_map]
          refine ⟨n - 1, by omega, j + 1, by rw [wrap_succ (by omega)], by omega, fun j' x y hj' hx hy => ?_⟩
          by_cases e : j' = j
          · subst e
            rw [List.getElem?_eq_getElem hj] at hx
            rw [List.getElem?_eq_getElem hj2] at hy
            injection hx with hx; injection hy with hy
            subst hx hy; exact hs
          · exact hall j' x y (by omega) hx hy

theorem same_pure : ∀ (a b : V), a.sm → Pure Try.prog 19 [inj a, inj b] (.bool (sameS a b)) := by
  intro a
  induction a using V.ind with
  | h k i t xs ks ih =>
    intro b hsm
    obtain ⟨k', i', t', xs', ks'⟩ := b
    simp only [V.sm, V.smL_iff] at hsm
    have hlist := samelist_pure xs xs' hsm.1 (fun x hx y => ih x hx y (hsm.2.2 x hx))
    rw [inj_mk, inj_mk]
    refine Pure.ofW ⟨Try.f19, Try.func19, rfl, by kernel_rfl⟩ rfl (fun h hsc => ?_)
    refine acalls_of te_ok [12, 13, 14, 15, 16, 19, 20, 21, 22, 23, 26, 27, 28, 29, 30, 31, 32] Try.func19 (c := _) rfl (Nat.le_of_ble_eq_true rfl) ?_
    simp only [aw0, aw1, aw2, aw3, aw4, aw5, aw6, aw7, ne_eq, eq_self, implies_true, imp_self, reduceIte, reduceCtorEq, Nat.reduceAdd, Nat.reduceLT, Nat.reduceLeDiff, Nat.reduceEqDiff, Nat.reduceSub, Nat.reduceMul, Nat.reduceBEq, Int.reduceBEq, Int.reduceBNe, Int.reduceLT, Int.reduceLE, Int.reduceGT, Int.reduceGE, Int.reduceNeg, Int.reduceEq, Int.reduceNe, Int.reduceToNat, Int.reduceAdd, aconv, acvB, capR, acmpnil, appBox, storeB, ares1, appendTo, afill, aeqL, teset, Try.ntmps19, Try.results19, inj_take, inj_drop, inj_agg, inj_len, inj_one, List.length_map]
    cases hc : (k != k' || i != i' || !(t.toList == t'.toList) || (ks.length : Int) != (ks'.length : Int)) with
    | true =>
      simp only [aw0, aw1, aw2, aw3, aw4, aw5, aw6, aw7, ne_eq, eq_self, implies_true, imp_self, reduceIte, reduceCtorEq, Nat.reduceAdd, Nat.reduceLT, Nat.reduceLeDiff, Nat.reduceEqDiff, Nat.reduceSub, Nat.reduceMul, Nat.reduceBEq, Int.reduceBEq, Int.reduceBNe, Int.reduceLT, Int.reduceLE, Int.reduceGT, Int.reduceGE, Int.reduceNeg, Int.reduceEq, Int.reduceNe, Int.reduceToNat, Int.reduceAdd, aconv, acvB, capR, acmpnil, appBox, storeB, ares1, appendTo, afill, aeqL, teset]
      exact ⟨by (repeat (first | exact AH.Ext.refl _ | assumption | refine AH.Ext.set ?_ (by first | omega | (simp only [new_nb, set_nb, kill_nb, newTok_nb, setTok_nb]; omega)) _ | refine AH.Ext.new ?_ _)), _, rfl, by simp only [sameS]; rw [hc]; exact .refl _⟩
    | false =>
      simp only [aw0, aw1, aw2, aw3, aw4, aw5, aw6, aw7, ne_eq, eq_self, implies_true, imp_self, reduceIte, reduceCtorEq, Nat.reduceAdd, Nat.reduceLT, Nat.reduceLeDiff, Nat.reduceEqDiff, Nat.reduceSub, Nat.reduceMul, Nat.reduceBEq, Int.reduceBEq, Int.reduceBNe, Int.reduceLT, Int.reduceLE, Int.reduceGT, Int.reduceGE, Int.reduceNeg, Int.reduceEq, Int.reduceNe, Int.reduceToNat, Int.reduceAdd, aconv, acvB, capR, acmpnil, appBox, storeB, ares1, appendTo, afill, aeqL, teset]
      have hlen : ks.length = ks'.length := by simp at hc; omega
      refine ⟨fun n s' h' => ∃ (j : Nat), s' 2 = .ptr h.nb 0 ∧ s' 3 = .ptr (h.nb + 1) 0 ∧ s' 5 = .int .i64 j ∧ h' = (h.new [.int .i64 k, .int .i64 i, .str t, .sl .ro 5 (xs.map inj), .sl .ro 1 (ks.map .str)]).new [.int .i64 k', .int .i64 i', .str t', .sl .ro 5 (xs'.map inj), .sl .ro 1 (ks'.map .str)] ∧ n + j = ks.length ∧ (∀ (j' : Nat) x y, j' < j → ks[j']? = some x → ks'[j']? = some y → (x.toList == y.toList) = true), ⟨ks.length, 0, ?_⟩, ?_⟩
      · simp only [aw0, aw1, aw2, aw3, aw4, aw5, aw6, aw7, ne_eq, eq_self, implies_true, imp_self, reduceIte, reduceCtorEq, Nat.reduceAdd, Nat.reduceLT, Nat.reduceLeDiff, Nat.reduceEqDiff, Nat.reduceSub, Nat.reduceMul, Nat.reduceBEq, Int.reduceBEq, Int.reduceBNe, Int.reduceLT, Int.reduceLE, Int.reduceGT, Int.reduceGE, Int.reduceNeg, Int.reduceEq, Int.reduceNe, Int.reduceToNat, Int.reduceAdd, aconv, acvB, capR, acmpnil, appBox, storeB, ares1, appendTo, afill, aeqL, teset, Int.natCast_zero]
        exact fun j' x y hj => absurd hj (Nat.not_lt_zero _)
      · rintro n s' h' ⟨j, e2, e3, e5, hh, hn, hall⟩
        subst hh
        simp only [aw0, aw1, aw2, aw3, aw4, aw5, aw6, aw7, ne_eq, eq_self, implies_true, imp_self, reduceIte, reduceCtorEq, Nat.reduceAdd, Nat.reduceLT, Nat.reduceLeDiff, Nat.reduceEqDiff, Nat.reduceSub, Nat.reduceMul, Nat.reduceBEq, Int.reduceBEq, Int.reduceBNe, Int.reduceLT, Int.reduceLE, Int.reduceGT, Int.reduceGE, Int.reduceNeg, Int.reduceEq, Int.reduceNe, Int.reduceToNat, Int.reduceAdd, aconv, acvB, capR, acmpnil, appBox, storeB, ares1, appendTo, afill, aeqL, teset, e2, e3, e5, inj_take, inj_drop, inj_agg, inj_len, inj_one, List.length_map]
        cases hd : decide ((j : Int) < (ks.length : Int)) with
        | false =>
          simp only [aw0, aw1, aw2, aw3, aw4, aw5, aw6, aw7, ne_eq, eq_self, implies_true, imp_self, reduceIte, reduceCtorEq, Nat.reduceAdd, Nat.reduceLT, Nat.reduceLeDiff, Nat.reduceEqDiff, Nat.reduceSub, Nat.reduceMul, Nat.reduceBEq, Int.reduceBEq, Int.reduceBNe, Int.reduceLT, Int.reduceLE, Int.reduceGT, Int.reduceGE, Int.reduceNeg, Int.reduceEq, Int.reduceNe, Int.reduceToNat, Int.reduceAdd, aconv, acvB, capR, acmpnil, appBox, storeB, ares1, appendTo, afill, aeqL, teset, e2, e3, e5, inj_take, inj_drop, inj_agg, inj_len, inj_one, List.length_map]
          simp only [decide_eq_false_iff_not] at hd
          refine ACallV.pure hlist ?_
          simp only [aw0, aw1, aw2, aw3, aw4, aw5, aw6, aw7, ne_eq, eq_self, implies_true, imp_self, reduceIte, reduceCtorEq, Nat.reduceAdd, Nat.reduceLT, Nat.reduceLeDiff, Nat.reduceEqDiff, Nat.reduceSub, Nat.reduceMul, Nat.reduceBEq, Int.reduceBEq, Int.reduceBNe, Int.reduceLT, Int.reduceLE, Int.reduceGT, Int.reduceGE, Int.reduceNeg, Int.reduceEq, Int.reduceNe, Int.reduceToNat, Int.reduceAdd, aconv, acvB, capR, acmpnil, appBox, storeB, ares1, appendTo, afill, aeqL, teset, e2, e3, e5, inj_take, inj_drop, inj_agg, inj_len, inj_one, List.length_map]
          refine ⟨by (repeat (first | exact AH.Ext.refl _ | assumption | refine AH.Ext.set ?_ (by first | omega | (simp only [new_nb, set_nb, kill_nb, newTok_nb, setTok_nb]; omega)) _ | refine AH.Ext.new ?_ _)), _, rfl, ?_⟩
          have hz : (ks.zip ks').all (fun p => p.1.toList == p.2.toList) = true := by
            rw [List.all_eq_true]
            intro q hq
            obtain ⟨j', hj'⟩ := List.mem_iff_getElem?.1 hq
            obtain ⟨h1, h2⟩ := List.getElem?_zip_eq_some.1 hj'
            exact hall j' _ _ (by have := (List.getElem?_eq_some_iff.1 h1).1; omega) h1 h2
          simp only [sameS]; rw [hc, hz]
          exact .refl _
        | true =>
          simp only [decide_eq_true_eq] at hd
          have hj : j < ks.length := by omega
          have hj2 : j < ks'.length := by omega
          have hget : (ks.map AV.str)[((j : Nat) : Int).toNat]? = some (.str ks[j]) := by simp [hj]
          have hget2 : (ks'.map AV.str)[((j : Nat) : Int).toNat]? = some (.str ks'[j]) := by simp [hj2]
          simp only [aw0, aw1, aw2, aw3, aw4, aw5, aw6, aw7, ne_eq, eq_self, implies_true, imp_self, reduceIte, reduceCtorEq, Nat.reduceAdd, Nat.reduceLT, Nat.reduceLeDiff, Nat.reduceEqDiff, Nat.reduceSub, Nat.reduceMul, Nat.reduceBEq, Int.reduceBEq, Int.reduceBNe, Int.reduceLT, Int.reduceLE, Int.reduceGT, Int.reduceGE, Int.reduceNeg, Int.reduceEq, Int.reduceNe, Int.reduceToNat, Int.reduceAdd, aconv, acvB, capR, acmpnil, appBox, storeB, ares1, appendTo, afill, aeqL, teset, e2, e3, e5, inj_take, inj_drop, inj_agg, inj_len, inj_one, List.length_map]
          refine acode_draw_chain te_ok mixed [] (by kernel_rfl) ?_
          simp only [aw0, aw1, aw2, aw3, aw4, aw5, aw6, aw7, ne_eq, eq_self, implies_true, imp_self, reduceIte, reduceCtorEq, Nat.reduceAdd, Nat.reduceLT, Nat.reduceLeDiff, Nat.reduceEqDiff, Nat.reduceSub, Nat.reduceMul, Nat.reduceBEq, Int.reduceBEq, Int.reduceBNe, Int.reduceLT, Int.reduceLE, Int.reduceGT, Int.reduceGE, Int.reduceNeg, Int.reduceEq, Int.reduceNe, Int.reduceToNat, Int.reduceAdd, aconv, acvB, capR, acmpnil, appBox, storeB, ares1, appendTo, afill, aeqL, teset, e2, e3, e5, inj_take, inj_drop, inj_agg, inj_len, inj_one, List.length_map, hget, hget2, Int.natCast_nonneg]
          cases hs : (ks[j].toList == ks'[j].toList) with
          | false =>
            simp only [aw0, aw1, aw2, aw3, aw4, aw5, aw6, aw7, ne_eq, eq_self, implies_true, imp_self, reduceIte, reduceCtorEq, Nat.reduceAdd, Nat.reduceLT, Nat.reduceLeDiff, Nat.reduceEqDiff, Nat.reduceSub, Nat.reduceMul, Nat.reduceBEq, Int.reduceBEq, Int.reduceBNe, Int.reduceLT, Int.reduceLE, Int.reduceGT, Int.reduceGE, Int.reduceNeg, Int.reduceEq, Int.reduceNe, Int.reduceToNat, Int.reduceAdd, aconv, acvB, capR, acmpnil, appBox, storeB, ares1, appendTo, afill, aeqL, teset, e2, e3, e5, inj_take, inj_drop, inj_agg, inj_len, inj_one, List.length_map]
            refine ⟨by (repeat (first | exact AH.Ext.refl _ | assumption | refine AH.Ext.set ?_ (by first | omega | (simp only [new_nb, set_nb, kill_nb, newTok_nb, setTok_nb]; omega)) _ | refine AH.Ext.new ?_ _)), _, rfl, ?_⟩
            have hz : (ks.zip ks').all (fun p => p.1.toList == p.2.toList) = false := by
              rw [Bool.eq_false_iff]
              intro hq
              rw [List.all_eq_true] at hq
              have := hq (ks[j], ks'[j]) (List.mem_of_getElem? (i := j) (List.getElem?_zip_eq_some.2 ⟨List.getElem?_eq_getElem hj, List.getElem?_eq_getElem hj2⟩))
              rw [hs] at this; cases this
            simp only [sameS]; rw [hc, hz]
            exact .refl _
          | true =>
            simp only [aw0, aw1, aw2, aw3, aw4, aw5, aw6, aw7, ne_eq, eq_self, implies_true, imp_self, reduceIte, reduceCtorEq, Nat.reduceAdd, Nat.reduceLT, Nat.reduceLeDiff, Nat.reduceEqDiff, Nat.reduceSub, Nat.reduceMul, Nat.reduceBEq, Int.reduceBEq, Int.reduceBNe, Int.reduceLT, Int.reduceLE, Int.reduceGT, Int.reduceGE, Int.reduceNeg, Int.reduceEq, Int.reduceNe, Int.reduceToNat, Int.reduceAdd, aconv, acvB, capR, acmpnil, appBox, storeB, ares1, appendTo, afill, aeqL, teset, e2, e3, e5, inj_take, inj_drop, inj_agg, inj_len, inj_one, List.length_map]
            refine ⟨n - 1, by omega, j + 1, by rw [wrap_succ (by omega)], by omega, fun j' x y hj' hx hy => ?_⟩
            by_cases e : j' = j
            · subst e
              rw [List.getElem?_eq_getElem hj] at hx
              rw [List.getElem?_eq_getElem hj2] at hy
              injection hx with hx; injection hy with hy
              subst hx hy; exact hs
            · exact hall j' x y (by omega) hx hy

mutual
theorem sameS_self : ∀ v : V, sameS v v = true
  | .mk k i t xs ks => by
    simp only [sameS, sameL_self xs]
    simp
    intro a b hab
    have : ∀ (l : List ByteArray) (p : ByteArray × ByteArray), p ∈ l.zip l → p.1 = p.2 := by
      intro l
      induction l with
      | nil => intro p hp; simp at hp
      | cons c l ih =>
        intro p hp
        simp only [List.zip_cons_cons, List.mem_cons] at hp
        rcases hp with rfl | hp
        · rfl
        · exact ih p hp
    exact congrArg ByteArray.toList (this ks (a, b) hab)
theorem sameL_self : ∀ xs : List V, sameL xs xs = true
  | [] => rfl
  | x :: xs => by simp [sameL, sameS_self x, sameL_self xs]
end
theorem Vok.sm {v : V} (h : Vok v) : v.sm := by
  induction v using V.ind with
  | h k i t xs ks ih =>
    have h1 := h.shape.2
    have h2 := h.keys.2
    simp only [V.items, V.keys] at h1 h2
    simp only [V.sm, V.smL_iff]
    exact ⟨by omega, by omega, fun x hx => ih x hx (h.items x hx)⟩
theorem zero_sm : zeroV.sm := by simp [zeroV, V.sm, V.smL]
end Go.Proofs.Ytlbhgoffiigfbaa.AW
end
section
set_option linter.unusedSimpArgs false
set_option linter.unusedVariables false
namespace Go.Proofs.Ytlbhgoffiigfbaa.AW
open Go Go.RowKit

theorem bl_irrefl : ∀ x : List UInt8, Op.bytesLess x x = false
  | [] => rfl
  | a :: x => by simp [Op.bytesLess, bl_irrefl x]
theorem bl_trans : ∀ {x y z : List UInt8}, Op.bytesLess x y = true → Op.bytesLess y z = true → Op.bytesLess x z = true
  | _, [], _, h, _ => by simp [Op.bytesLess] at h
  | _, _ :: _, [], _, h => by simp [Op.bytesLess] at h
  | [], _ :: _, _ :: _, _, _ => rfl
  | a :: x, b :: y, c :: z, h, k => by
    simp only [Op.bytesLess, Bool.or_eq_true, Bool.and_eq_true, decide_eq_true_eq, beq_iff_eq] at h k ⊢
    rcases h with h | ⟨rfl, h⟩
    · rcases k with k | ⟨rfl, k⟩
      · exact .inl (UInt8.lt_trans h k)
      · exact .inl h
    · rcases k with k | ⟨rfl, k⟩
      · exact .inl k
      · exact .inr ⟨rfl, bl_trans h k⟩
theorem bl_asymm {x y : List UInt8} (h : Op.bytesLess x y = true) : Op.bytesLess y x = false := by
  cases hk : Op.bytesLess y x with
  | false => rfl
  | true => have := bl_trans h hk; rw [bl_irrefl] at this; cases this
theorem bl_total : ∀ {x y : List UInt8}, Op.bytesLess x y = false → Op.bytesLess y x = false → x = y
  | [], [], _, _ => rfl
  | [], _ :: _, h, _ => by simp [Op.bytesLess] at h
  | _ :: _, [], _, h => by simp [Op.bytesLess] at h
  | a :: x, b :: y, h, k => by
    simp only [Op.bytesLess, Bool.or_eq_false_iff, decide_eq_false_iff_not] at h k
    have hab : a = b := UInt8.le_antisymm (UInt8.not_lt.1 k.1) (UInt8.not_lt.1 h.1)
    subst hab
    simp at h k
    rw [bl_total h k]

/-- Where a text stands, or would, among ascending ones. -/
def lb (ks : List ByteArray) (k : ByteArray) : Nat := ks.findIdx fun x => !sless x k
def Asc (ks : List ByteArray) : Prop := ∀ (i : Nat) x y, ks[i]? = some x → ks[i + 1]? = some y → sless x y = true
theorem Asc.lt {ks : List ByteArray} (h : Asc ks) : ∀ (d i : Nat) x y, ks[i]? = some x → ks[i + d + 1]? = some y → sless x y = true := by
  intro d
  induction d with
  | zero => exact h
  | succ d ih =>
    intro i x y hx hy
    have hlt := (List.getElem?_eq_some_iff.1 hy).1
    obtain ⟨z, hz⟩ : ∃ z, ks[i + d + 1]? = some z := ⟨ks[i + d + 1]'(by omega), List.getElem?_eq_getElem (by omega)⟩
    exact bl_trans (ih i x z hx hz) (h (i + d + 1) z y hz hy)
theorem keysOk_asc {ks : List ByteArray} (h : keysOk ks = true) : Asc ks := by
  intro i x y hx hy
  unfold keysOk at h
  rw [List.all_eq_true] at h
  have hlt := (List.getElem?_eq_some_iff.1 hy).1
  have := h (i + 1) (List.mem_range.2 hlt)
  unfold keyOk at this
  simp only [Bool.and_eq_true, Bool.or_eq_true, Nat.add_sub_cancel] at this
  rcases this.2 with h1 | h1
  · simp at h1
  · rw [List.getD_eq_getElem?_getD, List.getD_eq_getElem?_getD, hx, hy] at h1
    exact h1

theorem wrap_u64 {n : Int} (h : 0 ≤ n) (h2 : n < 4611686018427387904) : IntKind.u64.wrap n = n := by
  simp only [IntKind.wrap, IntKind.bits, IntKind.signed, Bool.false_and, Int.reducePow]
  simp
  omega
theorem half (i j : Nat) (h : i + j < 4611686018427387904) : IntKind.i64.wrap ((IntKind.u64.wrap (IntKind.i64.wrap ((i : Int) + (j : Int)))).fdiv (2 ^ min 1 IntKind.u64.bits)) = (((i + j) / 2 : Nat) : Int) := by
  rw [wrap_i64 (n := (i : Int) + (j : Int)) (by omega) (by omega), wrap_u64 (n := (i : Int) + (j : Int)) (by omega) (by omega)]
  have e : ((2 : Int) ^ min 1 IntKind.u64.bits) = 2 := rfl
  rw [e, Int.fdiv_eq_ediv_of_nonneg _ (by omega), wrap_i64 (by omega) (by omega)]
  omega
theorem lb_le (ks : List ByteArray) (k : ByteArray) : lb ks k ≤ ks.length := List.findIdx_le_length
theorem lb_lt {ks : List ByteArray} (ha : Asc ks) {k : ByteArray} {m : Nat} (hm : m < ks.length) (h : sless ks[m] k = true) : m < lb ks k := by
  rcases Nat.lt_or_ge m (lb ks k) with h1 | h1
  · exact h1
  · exfalso
    have hl : lb ks k < ks.length := by omega
    have := List.findIdx_getElem (p := fun x => !sless x k) (xs := ks) (w := hl)
    have hq : sless ks[lb ks k] k = false := by
      have h3 : (!sless ks[lb ks k] k) = true := this
      simpa using h3
    rcases Nat.eq_or_lt_of_le h1 with e | e
    · subst e; rw [h] at hq; cases hq
    · have h2 := ha.lt (m - lb ks k - 1) (lb ks k) _ ks[m] (List.getElem?_eq_getElem hl) (by rw [show lb ks k + (m - lb ks k - 1) + 1 = m by omega]; exact List.getElem?_eq_getElem hm)
      have := bl_trans h2 h
      rw [show Op.bytesLess ks[lb ks k].toList k.toList = sless ks[lb ks k] k from rfl, hq] at this; cases this
theorem lb_ge {ks : List ByteArray} {k : ByteArray} {m : Nat} (hm : m < ks.length) (h : sless ks[m] k = false) : lb ks k ≤ m := by
  rcases Nat.lt_or_ge m (lb ks k) with h1 | h1
  · have := List.not_of_lt_findIdx (p := fun x => !sless x k) (xs := ks) (i := m) h1
    simp [h] at this
  · exact h1

def foundS (ks : List ByteArray) (k : ByteArray) : Bool := match ks[lb ks k]? with | some x => x.toList == k.toList | none => false
end Go.Proofs.Ytlbhgoffiigfbaa.AW
end
section
set_option linter.unusedSimpArgs false
set_option linter.unusedVariables false
namespace Go.Proofs.Ytlbhgoffiigfbaa.AW
open Go Go.RowKit

theorem found_iff {ks : List ByteArray} (ha : Asc ks) (k : ByteArray) : keyIdx ks k = if foundS ks k = true then some (lb ks k) else none := by
  have none_of : foundS ks k = false → keyIdx ks k = none := by
    intro hf
    unfold keyIdx
    rw [List.findIdx?_eq_none_iff]
    intro x hx
    obtain ⟨j, hj⟩ := List.mem_iff_getElem?.1 hx
    have hlt := (List.getElem?_eq_some_iff.1 hj).1
    have hxe : ks[j] = x := (List.getElem?_eq_some_iff.1 hj).2
    cases hm : (x.toList == k.toList) with
    | false => rfl
    | true =>
      exfalso
      have hm' : x.toList = k.toList := by simpa using hm
      have h1 : sless ks[j] k = false := by rw [hxe]; show Op.bytesLess x.toList k.toList = false; rw [hm']; exact bl_irrefl _
      have h2 := lb_ge hlt h1
      have hl : lb ks k < ks.length := by omega
      have hq : sless ks[lb ks k] k = false := by
        have h3 : (!sless ks[lb ks k] k) = true := List.findIdx_getElem (p := fun x => !sless x k) (xs := ks) (w := hl)
        simpa using h3
      have h5 : lb ks k = j := by
        rcases Nat.eq_or_lt_of_le h2 with e | e
        · exact e
        · exfalso
          have h4 := ha.lt (j - lb ks k - 1) (lb ks k) _ x (List.getElem?_eq_getElem hl) (by rw [show lb ks k + (j - lb ks k - 1) + 1 = j by omega]; exact hj)
          have h6 : sless ks[lb ks k] k = true := by
            show Op.bytesLess _ k.toList = true
            rw [← hm']; exact h4
          rw [hq] at h6; cases h6
      unfold foundS at hf
      rw [h5, hj] at hf
      simp only [hm] at hf; cases hf
  cases hf : foundS ks k with
  | false => rw [none_of hf]; rfl
  | true =>
    simp only [if_true]
    unfold foundS at hf
    split at hf
    · next x hx =>
      have hlt := (List.getElem?_eq_some_iff.1 hx).1
      have hxe : ks[lb ks k] = x := (List.getElem?_eq_some_iff.1 hx).2
      unfold keyIdx
      rw [List.findIdx?_eq_some_iff_getElem]
      refine ⟨hlt, by rw [hxe]; exact hf, fun j hj => ?_⟩
      have h1 := List.not_of_lt_findIdx (p := fun x => !sless x k) (xs := ks) (i := j) hj
      intro hq
      have h2 : sless (ks[j]'(by omega)) k = true := by simpa using h1
      have h3 : (ks[j]'(by omega)).toList = k.toList := by simpa using hq
      unfold sless at h2
      rw [h3, bl_irrefl] at h2; cases h2
    · cases hf

def itemP (v : V) (s : Stp) : Int × Bool :=
  if s.index < 0 ∧ v.kind = 5 then (lb v.keys s.key, foundS v.keys s.key)
  else if 0 ≤ s.index ∧ v.kind = 4 then (s.index, decide (s.index < (v.items.length : Int)))
  else (0, false)
theorem shape_asc {v : V} (h : shape v = true) (hk : v.kind = 5) : Asc v.keys := by
  obtain ⟨k, i, t, xs, ks⟩ := v
  simp only [V.kind] at hk
  subst hk
  rw [shape_5] at h
  simp only [Bool.and_eq_true] at h
  exact keysOk_asc h.2
theorem itemP_4 {v : V} {s : Stp} (h0 : 0 ≤ s.index) (h4 : v.kind = 4) : itemP v s = (s.index, decide (s.index < (v.items.length : Int))) := by
  unfold itemP; rw [if_neg (fun h => absurd h.1 (by omega)), if_pos ⟨h0, h4⟩]
theorem itemP_5 {v : V} {s : Stp} (h0 : s.index < 0) (h5 : v.kind = 5) : itemP v s = ((lb v.keys s.key : Int), foundS v.keys s.key) := by
  unfold itemP; rw [if_pos ⟨h0, h5⟩]
theorem itemP_x {v : V} {s : Stp} (h5 : ¬ (s.index < 0 ∧ v.kind = 5)) (h4 : ¬ (0 ≤ s.index ∧ v.kind = 4)) : itemP v s = (0, false) := by
  unfold itemP; rw [if_neg h5, if_neg h4]
theorem itemP_spec {v : V} (hv : Vok v) (s : Stp) : itemS v s = if (itemP v s).2 = true then v.items[(itemP v s).1.toNat]? else none := by
  by_cases h0 : 0 ≤ s.index
  · by_cases h4 : v.kind = 4
    · rw [itemP_4 h0 h4]
      unfold itemS
      rw [if_pos h0, if_pos h4]
      simp only [decide_eq_true_eq]
      split
      · rfl
      · exact List.getElem?_eq_none (by omega)
    · rw [itemP_x (fun h => absurd h.1 (by omega)) (fun h => h4 h.2)]
      unfold itemS
      rw [if_pos h0, if_neg h4]; rfl
  · by_cases h5 : v.kind = 5
    · rw [itemP_5 (by omega) h5]
      unfold itemS
      rw [if_neg h0, if_pos h5, found_iff (shape_asc hv.shape.1 h5)]
      simp only [Int.toNat_natCast]
      split <;> rfl
    · rw [itemP_x (fun h => h5 h.2) (fun h => h0 h.1)]
      unfold itemS
      rw [if_neg h0, if_neg h5]; rfl

end Go.Proofs.Ytlbhgoffiigfbaa.AW
end
section
set_option linter.unusedSimpArgs false
set_option linter.unusedVariables false
namespace Go.Proofs.Ytlbhgoffiigfbaa.AW
open Go Go.RowKit

theorem itemP_in {v : V} (hv : Vok v) (s : Stp) (h : (itemP v s).2 = true) : 0 ≤ (itemP v s).1 ∧ (itemP v s).1.toNat < v.items.length := by
  by_cases h5 : s.index < 0 ∧ v.kind = 5
  · rw [itemP_5 h5.1 h5.2] at h ⊢
    simp only at h ⊢
    refine ⟨Int.natCast_nonneg _, ?_⟩
    rw [Int.toNat_natCast, ← hv.keys.1 h5.2]
    unfold foundS at h
    split at h
    · next x hx => exact (List.getElem?_eq_some_iff.1 hx).1
    · cases h
  · by_cases h4 : 0 ≤ s.index ∧ v.kind = 4
    · rw [itemP_4 h4.1 h4.2] at h ⊢
      simp only [decide_eq_true_eq] at h ⊢
      omega
    · rw [itemP_x h5 h4] at h; cases h
end Go.Proofs.Ytlbhgoffiigfbaa.AW
end
