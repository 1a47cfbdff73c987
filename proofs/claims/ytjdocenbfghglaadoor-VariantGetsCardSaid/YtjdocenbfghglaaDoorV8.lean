/- V, part 8: the order of texts; the library's search. -/
import Derived.Test.YtjdocenbfghglaaDoorV7
set_option linter.unusedSimpArgs false
set_option linter.unusedVariables false
namespace Go.Proofs.YtjdocenbfghglaaDoor.AW
open Go Go.RowKit

theorem bl_irrefl : ∀ x : List UInt8, Op.bytesLess x x = false
  | [] => rfl
  | a :: x => by simp [Op.bytesLess, bl_irrefl x]
theorem bl_trans : ∀ {x y z : List UInt8}, Op.bytesLess x y = true → Op.bytesLess y z = true → Op.bytesLess x z = true
  | _, [], _, h, _ => by simp [Op.bytesLess] at h
  | _, _ :: _, [], _, h => by simp [Op.bytesLess] at h
  | [], _ :: _, _ :: _, _, _ => rfl
  | a :: x, b :: y, c :: z, h, k => by
    simp only [Op.bytesLess, Bool.or_eq_true, Bool.and_eq_true, decide_eq_true_eq, beq_iff_eq] at h k ⊢
    rcases h with h | ⟨rfl, h⟩
    · rcases k with k | ⟨rfl, k⟩
      · exact .inl (UInt8.lt_trans h k)
      · exact .inl h
    · rcases k with k | ⟨rfl, k⟩
      · exact .inl k
      · exact .inr ⟨rfl, bl_trans h k⟩
theorem bl_asymm {x y : List UInt8} (h : Op.bytesLess x y = true) : Op.bytesLess y x = false := by
  cases hk : Op.bytesLess y x with
  | false => rfl
  | true => have := bl_trans h hk; rw [bl_irrefl] at this; cases this
theorem bl_total : ∀ {x y : List UInt8}, Op.bytesLess x y = false → Op.bytesLess y x = false → x = y
  | [], [], _, _ => rfl
  | [], _ :: _, h, _ => by simp [Op.bytesLess] at h
  | _ :: _, [], _, h => by simp [Op.bytesLess] at h
  | a :: x, b :: y, h, k => by
    simp only [Op.bytesLess, Bool.or_eq_false_iff, decide_eq_false_iff_not] at h k
    have hab : a = b := UInt8.le_antisymm (UInt8.not_lt.1 k.1) (UInt8.not_lt.1 h.1)
    subst hab
    simp at h k
    rw [bl_total h k]

theorem isnan1_pure (x : ByteArray) : Pure Tryd.prog 65 [.str x] (.bool false) := by
  refine Pure.of ⟨Tryd.f65, Tryd.func65, rfl, by kernel_rfl⟩ rfl (fun h => ?_)
  refine acalls_of te_ok [] Tryd.func65 (c := _) rfl (Nat.le_of_ble_eq_true rfl) ?_
  simp only [awset0, awset1, awset2, awset3, awset4, awset5, ne_eq, eq_self, implies_true, imp_self, retR, atup, aresL, ares1, gval, inLz, boxR, buildR, noDead, AV.isDead, acmpnil, appR, appBox, storeB, abin, aint, astr, aun, abuild, afill, fieldPlaces, alit, aindexAddr, aindex, aslice, bnd, cutTag, amin, amax, aappend, appendTo, aelems, aconv, aiface, agetField, reduceIte, reduceCtorEq, Nat.reduceAdd, Nat.reduceLT, Nat.reduceLeDiff, Nat.reduceEqDiff, Nat.reduceSub, Nat.reduceMul, Nat.reduceBEq, Int.reduceBEq, Int.reduceBNe, Int.reduceLT, Int.reduceLE, Int.reduceGT, Int.reduceGE, Int.reduceNeg, Int.reduceEq, Int.reduceNe, Int.reduceToNat, Int.reduceAdd, cls, fl, teset, Tryd.ntmps65, Tryd.results65]
  exact ⟨.refl _, _, rfl, by simp [AV.erase]⟩
theorem isnan2_pure (x : ByteArray) : Pure Tryd.prog 71 [.str x] (.bool false) := by
  refine Pure.of ⟨Tryd.f71, Tryd.func71, rfl, by kernel_rfl⟩ rfl (fun h => ?_)
  refine acalls_of te_ok [] Tryd.func71 (c := _) rfl (Nat.le_of_ble_eq_true rfl) ?_
  simp only [awset0, awset1, awset2, awset3, awset4, awset5, ne_eq, eq_self, implies_true, imp_self, retR, atup, aresL, ares1, gval, inLz, boxR, buildR, noDead, AV.isDead, acmpnil, appR, appBox, storeB, abin, aint, astr, aun, abuild, afill, fieldPlaces, alit, aindexAddr, aindex, aslice, bnd, cutTag, amin, amax, aappend, appendTo, aelems, aconv, aiface, agetField, reduceIte, reduceCtorEq, Nat.reduceAdd, Nat.reduceLT, Nat.reduceLeDiff, Nat.reduceEqDiff, Nat.reduceSub, Nat.reduceMul, Nat.reduceBEq, Int.reduceBEq, Int.reduceBNe, Int.reduceLT, Int.reduceLE, Int.reduceGT, Int.reduceGE, Int.reduceNeg, Int.reduceEq, Int.reduceNe, Int.reduceToNat, Int.reduceAdd, cls, fl, teset, Tryd.ntmps71, Tryd.results71]
  exact ⟨.refl _, _, rfl, by simp [AV.erase]⟩
theorem less_pure (x y : ByteArray) : Pure Tryd.prog 64 [.str x, .str y] (.bool (sless x y)) := by
  refine Pure.of ⟨Tryd.f64, Tryd.func64, rfl, by kernel_rfl⟩ rfl (fun h => ?_)
  refine acalls_of te_ok [] Tryd.func64 (c := _) rfl (Nat.le_of_ble_eq_true rfl) ?_
  simp only [awset0, awset1, awset2, awset3, awset4, awset5, ne_eq, eq_self, implies_true, imp_self, retR, atup, aresL, ares1, gval, inLz, boxR, buildR, noDead, AV.isDead, acmpnil, appR, appBox, storeB, abin, aint, astr, aun, abuild, afill, fieldPlaces, alit, aindexAddr, aindex, aslice, bnd, cutTag, amin, amax, aappend, appendTo, aelems, aconv, aiface, agetField, reduceIte, reduceCtorEq, Nat.reduceAdd, Nat.reduceLT, Nat.reduceLeDiff, Nat.reduceEqDiff, Nat.reduceSub, Nat.reduceMul, Nat.reduceBEq, Int.reduceBEq, Int.reduceBNe, Int.reduceLT, Int.reduceLE, Int.reduceGT, Int.reduceGE, Int.reduceNeg, Int.reduceEq, Int.reduceNe, Int.reduceToNat, Int.reduceAdd, cls, fl, teset, Tryd.ntmps64, Tryd.results64]
  refine ACallV.pure (isnan2_pure _) ?_
  simp only [awset0, awset1, awset2, awset3, awset4, awset5, ne_eq, eq_self, implies_true, imp_self, retR, atup, aresL, ares1, gval, inLz, boxR, buildR, noDead, AV.isDead, acmpnil, appR, appBox, storeB, abin, aint, astr, aun, abuild, afill, fieldPlaces, alit, aindexAddr, aindex, aslice, bnd, cutTag, amin, amax, aappend, appendTo, aelems, aconv, aiface, agetField, reduceIte, reduceCtorEq, Nat.reduceAdd, Nat.reduceLT, Nat.reduceLeDiff, Nat.reduceEqDiff, Nat.reduceSub, Nat.reduceMul, Nat.reduceBEq, Int.reduceBEq, Int.reduceBNe, Int.reduceLT, Int.reduceLE, Int.reduceGT, Int.reduceGE, Int.reduceNeg, Int.reduceEq, Int.reduceNe, Int.reduceToNat, Int.reduceAdd, cls, fl, teset]
  exact ⟨.refl _, _, rfl, rfl⟩

/-- Where a text stands, or would, among ascending ones. -/
def lb (ks : List ByteArray) (k : ByteArray) : Nat := ks.findIdx fun x => !sless x k
def Asc (ks : List ByteArray) : Prop := ∀ (i : Nat) x y, ks[i]? = some x → ks[i + 1]? = some y → sless x y = true
theorem Asc.lt {ks : List ByteArray} (h : Asc ks) : ∀ (d i : Nat) x y, ks[i]? = some x → ks[i + d + 1]? = some y → sless x y = true := by
  intro d
  induction d with
  | zero => exact h
  | succ d ih =>
    intro i x y hx hy
    have hlt := (List.getElem?_eq_some_iff.1 hy).1
    obtain ⟨z, hz⟩ : ∃ z, ks[i + d + 1]? = some z := ⟨ks[i + d + 1]'(by omega), List.getElem?_eq_getElem (by omega)⟩
    exact bl_trans (ih i x z hx hz) (h (i + d + 1) z y hz hy)
theorem keysOk_asc {ks : List ByteArray} (h : keysOk ks = true) : Asc ks := by
  intro i x y hx hy
  unfold keysOk at h
  rw [List.all_eq_true] at h
  have hlt := (List.getElem?_eq_some_iff.1 hy).1
  have := h (i + 1) (List.mem_range.2 hlt)
  unfold keyOk at this
  simp only [Bool.and_eq_true, Bool.or_eq_true, Nat.add_sub_cancel] at this
  rcases this.2 with h1 | h1
  · simp at h1
  · rw [List.getD_eq_getElem?_getD, List.getD_eq_getElem?_getD, hx, hy] at h1
    exact h1

theorem wrap_u64 {n : Int} (h : 0 ≤ n) (h2 : n < 4611686018427387904) : IntKind.u64.wrap n = n := by
  simp only [IntKind.wrap, IntKind.bits, IntKind.signed, Bool.false_and, Int.reducePow]
  simp
  omega
theorem half (i j : Nat) (h : i + j < 4611686018427387904) : IntKind.i64.wrap ((IntKind.u64.wrap (IntKind.i64.wrap ((i : Int) + (j : Int)))).fdiv (2 ^ min 1 IntKind.u64.bits)) = (((i + j) / 2 : Nat) : Int) := by
  rw [wrap_i64 (n := (i : Int) + (j : Int)) (by omega) (by omega), wrap_u64 (n := (i : Int) + (j : Int)) (by omega) (by omega)]
  have e : ((2 : Int) ^ min 1 IntKind.u64.bits) = 2 := rfl
  rw [e, Int.fdiv_eq_ediv_of_nonneg _ (by omega), wrap_i64 (by omega) (by omega)]
  omega
theorem lb_le (ks : List ByteArray) (k : ByteArray) : lb ks k ≤ ks.length := List.findIdx_le_length
theorem lb_lt {ks : List ByteArray} (ha : Asc ks) {k : ByteArray} {m : Nat} (hm : m < ks.length) (h : sless ks[m] k = true) : m < lb ks k := by
  rcases Nat.lt_or_ge m (lb ks k) with h1 | h1
  · exact h1
  · exfalso
    have hl : lb ks k < ks.length := by omega
    have := List.findIdx_getElem (p := fun x => !sless x k) (xs := ks) (w := hl)
    have hq : sless ks[lb ks k] k = false := by
      have h3 : (!sless ks[lb ks k] k) = true := this
      simpa using h3
    rcases Nat.eq_or_lt_of_le h1 with e | e
    · subst e; rw [h] at hq; cases hq
    · have h2 := ha.lt (m - lb ks k - 1) (lb ks k) _ ks[m] (List.getElem?_eq_getElem hl) (by rw [show lb ks k + (m - lb ks k - 1) + 1 = m by omega]; exact List.getElem?_eq_getElem hm)
      have := bl_trans h2 h
      rw [show Op.bytesLess ks[lb ks k].toList k.toList = sless ks[lb ks k] k from rfl, hq] at this; cases this
theorem lb_ge {ks : List ByteArray} {k : ByteArray} {m : Nat} (hm : m < ks.length) (h : sless ks[m] k = false) : lb ks k ≤ m := by
  rcases Nat.lt_or_ge m (lb ks k) with h1 | h1
  · have := List.not_of_lt_findIdx (p := fun x => !sless x k) (xs := ks) (i := m) h1
    simp [h] at this
  · exact h1

def foundS (ks : List ByteArray) (k : ByteArray) : Bool := match ks[lb ks k]? with | some x => x.toList == k.toList | none => false
theorem search_pure (ks : List ByteArray) (k : ByteArray) (hl : ks.length < 2305843009213693952) (ha : Asc ks) : Pure Tryd.prog 53 [.sl .ro 1 (ks.map .str), .str k] (.tup [.int .i64 (lb ks k), .bool (foundS ks k)]) := by
  refine Pure.of ⟨Tryd.f53, Tryd.func53, rfl, by kernel_rfl⟩ rfl (fun h => ?_)
  refine acalls_of te_ok [] Tryd.func53 (c := _) rfl (Nat.le_of_ble_eq_true rfl) ?_
  simp only [awset0, awset1, awset2, awset3, awset4, awset5, ne_eq, eq_self, implies_true, imp_self, retR, atup, aresL, ares1, gval, inLz, boxR, buildR, noDead, AV.isDead, acmpnil, appR, appBox, storeB, abin, aint, astr, aun, abuild, afill, fieldPlaces, alit, aindexAddr, aindex, aslice, bnd, cutTag, amin, amax, aappend, appendTo, aelems, aconv, aiface, agetField, reduceIte, reduceCtorEq, Nat.reduceAdd, Nat.reduceLT, Nat.reduceLeDiff, Nat.reduceEqDiff, Nat.reduceSub, Nat.reduceMul, Nat.reduceBEq, Int.reduceBEq, Int.reduceBNe, Int.reduceLT, Int.reduceLE, Int.reduceGT, Int.reduceGE, Int.reduceNeg, Int.reduceEq, Int.reduceNe, Int.reduceToNat, Int.reduceAdd, cls, fl, teset, Tryd.ntmps53, Tryd.results53, List.length_map]
  refine ⟨fun n s' h' => ∃ (i j : Nat), s' 0 = .sl .ro 1 (ks.map .str) ∧ s' 1 = .str k ∧ s' 6 = .int .i64 ks.length ∧ s' 7 = .int .i64 i ∧ s' 8 = .int .i64 j ∧ h' = h ∧ n = j - i ∧ i ≤ lb ks k ∧ lb ks k ≤ j ∧ j ≤ ks.length, ⟨ks.length, 0, ks.length, ?_⟩, ?_⟩
  · simp only [awset0, awset1, awset2, awset3, awset4, awset5, ne_eq, eq_self, implies_true, imp_self, retR, atup, aresL, ares1, gval, inLz, boxR, buildR, noDead, AV.isDead, acmpnil, appR, appBox, storeB, abin, aint, astr, aun, abuild, afill, fieldPlaces, alit, aindexAddr, aindex, aslice, bnd, cutTag, amin, amax, aappend, appendTo, aelems, aconv, aiface, agetField, reduceIte, reduceCtorEq, Nat.reduceAdd, Nat.reduceLT, Nat.reduceLeDiff, Nat.reduceEqDiff, Nat.reduceSub, Nat.reduceMul, Nat.reduceBEq, Int.reduceBEq, Int.reduceBNe, Int.reduceLT, Int.reduceLE, Int.reduceGT, Int.reduceGE, Int.reduceNeg, Int.reduceEq, Int.reduceNe, Int.reduceToNat, Int.reduceAdd, cls, fl, teset, Int.natCast_zero]
    exact ⟨by omega, Nat.zero_le _, lb_le _ _, Nat.le_refl _⟩
  · rintro n s' h' ⟨i, j, e0, e1, e6, e7, e8, hh, hn, hi, hj, hjl⟩
    subst hh
    simp only [awset0, awset1, awset2, awset3, awset4, awset5, ne_eq, eq_self, implies_true, imp_self, retR, atup, aresL, ares1, gval, inLz, boxR, buildR, noDead, AV.isDead, acmpnil, appR, appBox, storeB, abin, aint, astr, aun, abuild, afill, fieldPlaces, alit, aindexAddr, aindex, aslice, bnd, cutTag, amin, amax, aappend, appendTo, aelems, aconv, aiface, agetField, reduceIte, reduceCtorEq, Nat.reduceAdd, Nat.reduceLT, Nat.reduceLeDiff, Nat.reduceEqDiff, Nat.reduceSub, Nat.reduceMul, Nat.reduceBEq, Int.reduceBEq, Int.reduceBNe, Int.reduceLT, Int.reduceLE, Int.reduceGT, Int.reduceGE, Int.reduceNeg, Int.reduceEq, Int.reduceNe, Int.reduceToNat, Int.reduceAdd, cls, fl, teset, e0, e1, e6, e7, e8]
    cases hc : decide ((i : Int) < (j : Int)) with
    | false =>
      simp only [awset0, awset1, awset2, awset3, awset4, awset5, ne_eq, eq_self, implies_true, imp_self, retR, atup, aresL, ares1, gval, inLz, boxR, buildR, noDead, AV.isDead, acmpnil, appR, appBox, storeB, abin, aint, astr, aun, abuild, afill, fieldPlaces, alit, aindexAddr, aindex, aslice, bnd, cutTag, amin, amax, aappend, appendTo, aelems, aconv, aiface, agetField, reduceIte, reduceCtorEq, Nat.reduceAdd, Nat.reduceLT, Nat.reduceLeDiff, Nat.reduceEqDiff, Nat.reduceSub, Nat.reduceMul, Nat.reduceBEq, Int.reduceBEq, Int.reduceBNe, Int.reduceLT, Int.reduceLE, Int.reduceGT, Int.reduceGE, Int.reduceNeg, Int.reduceEq, Int.reduceNe, Int.reduceToNat, Int.reduceAdd, cls, fl, teset, e0, e1, e6, e7, e8]
      simp only [decide_eq_false_iff_not] at hc
      have hil : i = lb ks k := by omega
      cases hd : decide ((i : Int) < (ks.length : Int)) with
      | false =>
        simp only [awset0, awset1, awset2, awset3, awset4, awset5, ne_eq, eq_self, implies_true, imp_self, retR, atup, aresL, ares1, gval, inLz, boxR, buildR, noDead, AV.isDead, acmpnil, appR, appBox, storeB, abin, aint, astr, aun, abuild, afill, fieldPlaces, alit, aindexAddr, aindex, aslice, bnd, cutTag, amin, amax, aappend, appendTo, aelems, aconv, aiface, agetField, reduceIte, reduceCtorEq, Nat.reduceAdd, Nat.reduceLT, Nat.reduceLeDiff, Nat.reduceEqDiff, Nat.reduceSub, Nat.reduceMul, Nat.reduceBEq, Int.reduceBEq, Int.reduceBNe, Int.reduceLT, Int.reduceLE, Int.reduceGT, Int.reduceGE, Int.reduceNeg, Int.reduceEq, Int.reduceNe, Int.reduceToNat, Int.reduceAdd, cls, fl, teset, e0, e1, e6, e7, e8]
        simp only [decide_eq_false_iff_not] at hd
        refine ⟨.refl _, _, rfl, ?_⟩
        have : foundS ks k = false := by unfold foundS; rw [List.getElem?_eq_none (by omega)]
        rw [this, ← hil]; rfl
      | true =>
        simp only [decide_eq_true_eq] at hd
        have hlt : i < ks.length := by omega
        have hget : (ks.map AV.str)[((i : Nat) : Int).toNat]? = some (.str ks[i]) := by simp [hlt]
        simp only [awset0, awset1, awset2, awset3, awset4, awset5, ne_eq, eq_self, implies_true, imp_self, retR, atup, aresL, ares1, gval, inLz, boxR, buildR, noDead, AV.isDead, acmpnil, appR, appBox, storeB, abin, aint, astr, aun, abuild, afill, fieldPlaces, alit, aindexAddr, aindex, aslice, bnd, cutTag, amin, amax, aappend, appendTo, aelems, aconv, aiface, agetField, reduceIte, reduceCtorEq, Nat.reduceAdd, Nat.reduceLT, Nat.reduceLeDiff, Nat.reduceEqDiff, Nat.reduceSub, Nat.reduceMul, Nat.reduceBEq, Int.reduceBEq, Int.reduceBNe, Int.reduceLT, Int.reduceLE, Int.reduceGT, Int.reduceGE, Int.reduceNeg, Int.reduceEq, Int.reduceNe, Int.reduceToNat, Int.reduceAdd, cls, fl, teset, e0, e1, e6, e7, e8, hget, Int.natCast_nonneg]
        have hf : foundS ks k = (ks[i].toList == k.toList) := by unfold foundS; rw [← hil, List.getElem?_eq_getElem hlt]
        cases hm : (ks[i].toList == k.toList) with
        | true =>
          simp only [awset0, awset1, awset2, awset3, awset4, awset5, ne_eq, eq_self, implies_true, imp_self, retR, atup, aresL, ares1, gval, inLz, boxR, buildR, noDead, AV.isDead, acmpnil, appR, appBox, storeB, abin, aint, astr, aun, abuild, afill, fieldPlaces, alit, aindexAddr, aindex, aslice, bnd, cutTag, amin, amax, aappend, appendTo, aelems, aconv, aiface, agetField, reduceIte, reduceCtorEq, Nat.reduceAdd, Nat.reduceLT, Nat.reduceLeDiff, Nat.reduceEqDiff, Nat.reduceSub, Nat.reduceMul, Nat.reduceBEq, Int.reduceBEq, Int.reduceBNe, Int.reduceLT, Int.reduceLE, Int.reduceGT, Int.reduceGE, Int.reduceNeg, Int.reduceEq, Int.reduceNe, Int.reduceToNat, Int.reduceAdd, cls, fl, teset, e0, e1, e6, e7, e8, hget, Int.natCast_nonneg]
          exact ⟨.refl _, _, rfl, by rw [hf, hm, ← hil]; rfl⟩
        | false =>
          simp only [awset0, awset1, awset2, awset3, awset4, awset5, ne_eq, eq_self, implies_true, imp_self, retR, atup, aresL, ares1, gval, inLz, boxR, buildR, noDead, AV.isDead, acmpnil, appR, appBox, storeB, abin, aint, astr, aun, abuild, afill, fieldPlaces, alit, aindexAddr, aindex, aslice, bnd, cutTag, amin, amax, aappend, appendTo, aelems, aconv, aiface, agetField, reduceIte, reduceCtorEq, Nat.reduceAdd, Nat.reduceLT, Nat.reduceLeDiff, Nat.reduceEqDiff, Nat.reduceSub, Nat.reduceMul, Nat.reduceBEq, Int.reduceBEq, Int.reduceBNe, Int.reduceLT, Int.reduceLE, Int.reduceGT, Int.reduceGE, Int.reduceNeg, Int.reduceEq, Int.reduceNe, Int.reduceToNat, Int.reduceAdd, cls, fl, teset, e0, e1, e6, e7, e8, hget, Int.natCast_nonneg]
          refine ACallV.pure (isnan1_pure _) ?_
          simp only [awset0, awset1, awset2, awset3, awset4, awset5, ne_eq, eq_self, implies_true, imp_self, retR, atup, aresL, ares1, gval, inLz, boxR, buildR, noDead, AV.isDead, acmpnil, appR, appBox, storeB, abin, aint, astr, aun, abuild, afill, fieldPlaces, alit, aindexAddr, aindex, aslice, bnd, cutTag, amin, amax, aappend, appendTo, aelems, aconv, aiface, agetField, reduceIte, reduceCtorEq, Nat.reduceAdd, Nat.reduceLT, Nat.reduceLeDiff, Nat.reduceEqDiff, Nat.reduceSub, Nat.reduceMul, Nat.reduceBEq, Int.reduceBEq, Int.reduceBNe, Int.reduceLT, Int.reduceLE, Int.reduceGT, Int.reduceGE, Int.reduceNeg, Int.reduceEq, Int.reduceNe, Int.reduceToNat, Int.reduceAdd, cls, fl, teset, e0, e1, e6, e7, e8, hget, Int.natCast_nonneg]
          exact ⟨.refl _, _, rfl, by rw [hf, hm, ← hil]; rfl⟩
    | true =>
      simp only [decide_eq_true_eq] at hc
      have hm : (i + j) / 2 < ks.length := by omega
      have hget : (ks.map AV.str)[(((i + j) / 2 : Nat) : Int).toNat]? = some (.str (ks[(i + j) / 2])) := by
        rw [Int.toNat_natCast, List.getElem?_map, List.getElem?_eq_getElem hm]; rfl
      have hh2 := half i j (by omega)
      simp only [awset0, awset1, awset2, awset3, awset4, awset5, ne_eq, eq_self, implies_true, imp_self, retR, atup, aresL, ares1, gval, inLz, boxR, buildR, noDead, AV.isDead, acmpnil, appR, appBox, storeB, abin, aint, astr, aun, abuild, afill, fieldPlaces, alit, aindexAddr, aindex, aslice, bnd, cutTag, amin, amax, aappend, appendTo, aelems, aconv, aiface, agetField, reduceIte, reduceCtorEq, Nat.reduceAdd, Nat.reduceLT, Nat.reduceLeDiff, Nat.reduceEqDiff, Nat.reduceSub, Nat.reduceMul, Nat.reduceBEq, Int.reduceBEq, Int.reduceBNe, Int.reduceLT, Int.reduceLE, Int.reduceGT, Int.reduceGE, Int.reduceNeg, Int.reduceEq, Int.reduceNe, Int.reduceToNat, Int.reduceAdd, cls, fl, teset, e0, e1, e6, e7, e8, hh2, hget, Int.natCast_nonneg]
      refine ACallV.pure (less_pure _ _) ?_
      cases hs : sless ks[(i + j) / 2] k with
      | true =>
        simp only [awset0, awset1, awset2, awset3, awset4, awset5, ne_eq, eq_self, implies_true, imp_self, retR, atup, aresL, ares1, gval, inLz, boxR, buildR, noDead, AV.isDead, acmpnil, appR, appBox, storeB, abin, aint, astr, aun, abuild, afill, fieldPlaces, alit, aindexAddr, aindex, aslice, bnd, cutTag, amin, amax, aappend, appendTo, aelems, aconv, aiface, agetField, reduceIte, reduceCtorEq, Nat.reduceAdd, Nat.reduceLT, Nat.reduceLeDiff, Nat.reduceEqDiff, Nat.reduceSub, Nat.reduceMul, Nat.reduceBEq, Int.reduceBEq, Int.reduceBNe, Int.reduceLT, Int.reduceLE, Int.reduceGT, Int.reduceGE, Int.reduceNeg, Int.reduceEq, Int.reduceNe, Int.reduceToNat, Int.reduceAdd, cls, fl, teset, e0, e1, e6, e7, e8, hh2, hget, Int.natCast_nonneg]
        have := lb_lt ha hm hs
        exact ⟨j - ((i + j) / 2 + 1), by omega, (i + j) / 2 + 1, j, by rw [wrap_succ (by omega)], rfl, rfl, by omega, hj, hjl⟩
      | false =>
        simp only [awset0, awset1, awset2, awset3, awset4, awset5, ne_eq, eq_self, implies_true, imp_self, retR, atup, aresL, ares1, gval, inLz, boxR, buildR, noDead, AV.isDead, acmpnil, appR, appBox, storeB, abin, aint, astr, aun, abuild, afill, fieldPlaces, alit, aindexAddr, aindex, aslice, bnd, cutTag, amin, amax, aappend, appendTo, aelems, aconv, aiface, agetField, reduceIte, reduceCtorEq, Nat.reduceAdd, Nat.reduceLT, Nat.reduceLeDiff, Nat.reduceEqDiff, Nat.reduceSub, Nat.reduceMul, Nat.reduceBEq, Int.reduceBEq, Int.reduceBNe, Int.reduceLT, Int.reduceLE, Int.reduceGT, Int.reduceGE, Int.reduceNeg, Int.reduceEq, Int.reduceNe, Int.reduceToNat, Int.reduceAdd, cls, fl, teset, e0, e1, e6, e7, e8, hh2, hget, Int.natCast_nonneg]
        have := lb_ge hm hs
        exact ⟨(i + j) / 2 - i, by omega, i, (i + j) / 2, rfl, rfl, rfl, hi, this, by omega⟩
end Go.Proofs.YtjdocenbfghglaaDoor.AW
