/- Texts of this claim, part 5: V18, V19. -/
import Derived.Test.YtjdocenbfghglaaDoorQt1
import Derived.Test.YtjdocenbfghglaaDoorQt2
import Derived.Test.YtjdocenbfghglaaDoorQt3
import Derived.Test.YtjdocenbfghglaaDoorQt4
import Derived.Test.YtjdocenbfghglaaDoorAw23
section
set_option linter.unusedSimpArgs false
set_option linter.unusedVariables false
namespace Go.Proofs.YtjdocenbfghglaaDoor.AW
open Go Go.RowKit

mutual
/-- Not great in any place. -/
def V.tin : V → Prop
  | .mk _ _ _ xs ks => xs.length < 10000 ∧ ks.length < 10000 ∧ V.tinL xs
def V.tinL : List V → Prop
  | [] => True
  | x :: xs => x.tin ∧ V.tinL xs
end
theorem V.tinL_iff {xs : List V} : V.tinL xs ↔ ∀ x ∈ xs, x.tin := by
  induction xs with
  | nil => simp [V.tinL]
  | cons x xs ih => simp [V.tinL, ih]
theorem Vok.tin {v : V} (h : Vok v) : v.tin := by
  induction v using V.ind with
  | h k i t xs ks ih =>
    have h1 := h.shape.2
    have h2 := h.keys.2
    simp only [V.items, V.keys] at h1 h2
    simp only [V.tin, V.tinL_iff]
    exact ⟨by omega, by omega, fun x hx => ih x hx (h.items x hx)⟩
theorem clone_tin : ∀ v : V, v.tin → Pure Tryd.prog 18 [inj v] (inj v) := by
  intro v
  induction v using V.ind with
  | h k i t xs ks ih =>
    intro hv
    simp only [V.tin, V.tinL_iff] at hv
    have hx60 := hv.1
    have hk60 := hv.2.1
    have hvi := hv.2.2
    have hcl := clonestr_pure ks (by omega)
    have hu := inj_under (.mk k i t xs ks)
    rw [inj_mk] at hu ⊢
    refine Pure.of0 ⟨Tryd.f18, Tryd.func18, rfl, by kernel_rfl⟩ (by simpa [AV.underL] using hu) hu ?_
    refine acalls_of te_ok [] Tryd.func18 (c := _) rfl (Nat.le_of_ble_eq_true rfl) ?_
    simp only [aw0, aw1, aw2, aw3, aw4, aw5, aw6, aw7, ne_eq, eq_self, implies_true, imp_self, reduceIte, reduceCtorEq, Nat.reduceAdd, Nat.reduceLT, Nat.reduceLeDiff, Nat.reduceEqDiff, Nat.reduceSub, Nat.reduceMul, Nat.reduceBEq, Int.reduceBEq, Int.reduceBNe, Int.reduceLT, Int.reduceLE, Int.reduceGT, Int.reduceGE, Int.reduceNeg, Int.reduceEq, Int.reduceNe, Int.reduceToNat, Int.reduceAdd, aconv, acvB, capR, acmpnil, appBox, storeB, ares1, appendTo, afill, aeqL, teset, Tryd.ntmps18, Tryd.results18, boxR, inj_take, inj_drop, inj_agg, inj_len, inj_one, List.length_map, none_nb, none_box]
    refine ACallV.pure hcl ?_
    simp only [aw0, aw1, aw2, aw3, aw4, aw5, aw6, aw7, ne_eq, eq_self, implies_true, imp_self, reduceIte, reduceCtorEq, Nat.reduceAdd, Nat.reduceLT, Nat.reduceLeDiff, Nat.reduceEqDiff, Nat.reduceSub, Nat.reduceMul, Nat.reduceBEq, Int.reduceBEq, Int.reduceBNe, Int.reduceLT, Int.reduceLE, Int.reduceGT, Int.reduceGE, Int.reduceNeg, Int.reduceEq, Int.reduceNe, Int.reduceToNat, Int.reduceAdd, aconv, acvB, capR, acmpnil, appBox, storeB, ares1, appendTo, afill, aeqL, teset, inj_take, inj_drop, inj_agg, inj_len, inj_one, List.length_map, none_nb, none_box]
    refine ACallV.mono ?_ (ACallV.of ⟨Tryd.f39, Tryd.func39, rfl, by kernel_rfl⟩ (clonevals_calls xs (by omega) _))
    rintro out h' (⟨rfl, rfl, rfl⟩ | ⟨hne, rfl, rfl⟩)
    · simp only [aw0, aw1, aw2, aw3, aw4, aw5, aw6, aw7, ne_eq, eq_self, implies_true, imp_self, reduceIte, reduceCtorEq, Nat.reduceAdd, Nat.reduceLT, Nat.reduceLeDiff, Nat.reduceEqDiff, Nat.reduceSub, Nat.reduceMul, Nat.reduceBEq, Int.reduceBEq, Int.reduceBNe, Int.reduceLT, Int.reduceLE, Int.reduceGT, Int.reduceGE, Int.reduceNeg, Int.reduceEq, Int.reduceNe, Int.reduceToNat, Int.reduceAdd, aconv, acvB, capR, acmpnil, appBox, storeB, ares1, appendTo, afill, aeqL, teset, inj_take, inj_drop, inj_agg, inj_len, inj_one, List.length_map, callK_ret, none_nb, none_box]
      refine ⟨fun n s' h' => s' 1 = .ptr 0 0 ∧ s' 2 = .ptr 1 0 ∧ s' 3 = .sl .ro 5 [] ∧ s' 14 = .int .i64 0 ∧ s' 15 = .int .i64 0 ∧ h'.box 0 = some [.int .i64 k, .int .i64 i, .str t, .sl .ro 5 [], .sl .ro 1 (ks.map .str)] ∧ h'.box 1 = some [.int .i64 0, .int .i64 0, .str ⟨#[]⟩, .sl .full 0 [], .sl .full 0 []], ⟨0, ?_⟩, ?_⟩
      · simp only [aw0, aw1, aw2, aw3, aw4, aw5, aw6, aw7, ne_eq, eq_self, implies_true, imp_self, reduceIte, reduceCtorEq, Nat.reduceAdd, Nat.reduceLT, Nat.reduceLeDiff, Nat.reduceEqDiff, Nat.reduceSub, Nat.reduceMul, Nat.reduceBEq, Int.reduceBEq, Int.reduceBNe, Int.reduceLT, Int.reduceLE, Int.reduceGT, Int.reduceGE, Int.reduceNeg, Int.reduceEq, Int.reduceNe, Int.reduceToNat, Int.reduceAdd, aconv, acvB, capR, acmpnil, appBox, storeB, ares1, appendTo, afill, aeqL, teset, inj_take, inj_drop, inj_agg, inj_len, inj_one, List.length_map, Int.natCast_zero, none_nb, none_box]
      · rintro n s' h' ⟨e1, e2, e3, e14, e15, b1, b2⟩
        simp only [aw0, aw1, aw2, aw3, aw4, aw5, aw6, aw7, ne_eq, eq_self, implies_true, imp_self, reduceIte, reduceCtorEq, Nat.reduceAdd, Nat.reduceLT, Nat.reduceLeDiff, Nat.reduceEqDiff, Nat.reduceSub, Nat.reduceMul, Nat.reduceBEq, Int.reduceBEq, Int.reduceBNe, Int.reduceLT, Int.reduceLE, Int.reduceGT, Int.reduceGE, Int.reduceNeg, Int.reduceEq, Int.reduceNe, Int.reduceToNat, Int.reduceAdd, aconv, acvB, capR, acmpnil, appBox, storeB, ares1, appendTo, afill, aeqL, teset, e1, e2, e3, e14, e15, b1, b2, inj_take, inj_drop, inj_agg, inj_len, inj_one, List.length_map]
        exact ⟨_, rfl, .refl _ _⟩
    · simp only [aw0, aw1, aw2, aw3, aw4, aw5, aw6, aw7, ne_eq, eq_self, implies_true, imp_self, reduceIte, reduceCtorEq, Nat.reduceAdd, Nat.reduceLT, Nat.reduceLeDiff, Nat.reduceEqDiff, Nat.reduceSub, Nat.reduceMul, Nat.reduceBEq, Int.reduceBEq, Int.reduceBNe, Int.reduceLT, Int.reduceLE, Int.reduceGT, Int.reduceGE, Int.reduceNeg, Int.reduceEq, Int.reduceNe, Int.reduceToNat, Int.reduceAdd, aconv, acvB, capR, acmpnil, appBox, storeB, ares1, appendTo, afill, aeqL, teset, inj_take, inj_drop, inj_agg, inj_len, inj_one, List.length_map, callK_ret, none_nb, none_box]
      refine ⟨fun n s' h' => ∃ (j : Nat), s' 1 = .ptr 0 0 ∧ s' 2 = .ptr 1 0 ∧ s' 3 = .ms 2 0 xs.length 5 ∧ s' 13 = .ms 2 0 xs.length 5 ∧ s' 14 = .int .i64 xs.length ∧ s' 15 = .int .i64 j ∧ n + j = xs.length ∧ 3 ≤ h'.nb ∧ h'.box 0 = some [.int .i64 k, .int .i64 i, .str t, .sl .ro 5 (xs.map inj), .sl .ro 1 (ks.map .str)] ∧ h'.box 1 = some [.int .i64 0, .int .i64 0, .str ⟨#[]⟩, .sl .full 0 [], .sl .full 0 []] ∧ h'.box 2 = some ((xs.map inj).flatMap AV.cells), ⟨xs.length, 0, ?_⟩, ?_⟩
      · simp only [aw0, aw1, aw2, aw3, aw4, aw5, aw6, aw7, ne_eq, eq_self, implies_true, imp_self, reduceIte, reduceCtorEq, Nat.reduceAdd, Nat.reduceLT, Nat.reduceLeDiff, Nat.reduceEqDiff, Nat.reduceSub, Nat.reduceMul, Nat.reduceBEq, Int.reduceBEq, Int.reduceBNe, Int.reduceLT, Int.reduceLE, Int.reduceGT, Int.reduceGE, Int.reduceNeg, Int.reduceEq, Int.reduceNe, Int.reduceToNat, Int.reduceAdd, aconv, acvB, capR, acmpnil, appBox, storeB, ares1, appendTo, afill, aeqL, teset, inj_take, inj_drop, inj_agg, inj_len, inj_one, List.length_map, Int.natCast_zero, none_nb, none_box]
      · rintro n s' h' ⟨j, e1, e2, e3, e13, e14, e15, hn, hnb, b1, b2, b3⟩
        have ne1 : (0 = h'.nb) = False := by simp only [eq_iff_iff, iff_false]; omega
        have ne2 : (1 = h'.nb) = False := by simp only [eq_iff_iff, iff_false]; omega
        have ne3 : (2 = h'.nb) = False := by simp only [eq_iff_iff, iff_false]; omega
        simp only [aw0, aw1, aw2, aw3, aw4, aw5, aw6, aw7, ne_eq, eq_self, implies_true, imp_self, reduceIte, reduceCtorEq, Nat.reduceAdd, Nat.reduceLT, Nat.reduceLeDiff, Nat.reduceEqDiff, Nat.reduceSub, Nat.reduceMul, Nat.reduceBEq, Int.reduceBEq, Int.reduceBNe, Int.reduceLT, Int.reduceLE, Int.reduceGT, Int.reduceGE, Int.reduceNeg, Int.reduceEq, Int.reduceNe, Int.reduceToNat, Int.reduceAdd, aconv, acvB, capR, acmpnil, appBox, storeB, ares1, appendTo, afill, aeqL, teset, e1, e2, e3, e13, e14, e15, b1, b2, b3, inj_take, inj_drop, inj_agg, inj_len, inj_one, List.length_map]
        cases hc : decide ((j : Int) < (xs.length : Int)) with
        | false =>
          simp only [aw0, aw1, aw2, aw3, aw4, aw5, aw6, aw7, ne_eq, eq_self, implies_true, imp_self, reduceIte, reduceCtorEq, Nat.reduceAdd, Nat.reduceLT, Nat.reduceLeDiff, Nat.reduceEqDiff, Nat.reduceSub, Nat.reduceMul, Nat.reduceBEq, Int.reduceBEq, Int.reduceBNe, Int.reduceLT, Int.reduceLE, Int.reduceGT, Int.reduceGE, Int.reduceNeg, Int.reduceEq, Int.reduceNe, Int.reduceToNat, Int.reduceAdd, aconv, acvB, capR, acmpnil, appBox, storeB, ares1, appendTo, afill, aeqL, teset, e1, e2, e3, e13, e14, e15, b1, b2, b3, inj_take, inj_drop, inj_agg, inj_len, inj_one, List.length_map, ne1, ne2, ne3]
          refine ⟨_, rfl, To0All.agg (.cons (.refl _ _) (.cons (.refl _ _) (.cons (.refl _ _) (.cons ?_ (.cons (.refl _ _) .nil)))))⟩
          have hms := To0.ms (h := (h'.set 0 [AV.int IntKind.i64 k, AV.int IntKind.i64 i, AV.str t, AV.ms 2 0 xs.length 5, AV.sl Tag.ro 1 (ks.map .str)]).set 1 [AV.int IntKind.i64 k, AV.int IntKind.i64 i, AV.str t, AV.ms 2 0 xs.length 5, AV.sl Tag.ro 1 (ks.map .str)]) (b := 2) (sz := 5) (xs := xs.map inj) (rest := [])
            (by rw [set_box, if_neg (by omega), set_box, if_neg (by omega), List.append_nil]; exact b3)
            (fun i x hi => by
              rw [List.getElem?_map] at hi
              cases hx : xs[i]? with
              | none => rw [hx] at hi; cases hi
              | some y => rw [hx] at hi; injection hi with hi; subst hi; exact inj_len y) (by omega) (by simpa using hne)
          rwa [List.length_map] at hms
        | true =>
          simp only [decide_eq_true_eq] at hc
          have hj : j < xs.length := by omega
          obtain ⟨post, hdrop⟩ := cells_drop xs hj
          have hstore := cells_store xs hj
          have htk : List.take 5 ((inj xs[j]).cells ++ post) = (inj xs[j]).cells := by
            have := inj_len xs[j]
            rw [List.take_append_of_le_length (by omega), inj_take]
          have h5 : 5 ≤ ((inj xs[j]).cells ++ post).length := by rw [List.length_append, inj_len]; omega
          simp only [aw0, aw1, aw2, aw3, aw4, aw5, aw6, aw7, ne_eq, eq_self, implies_true, imp_self, reduceIte, reduceCtorEq, Nat.reduceAdd, Nat.reduceLT, Nat.reduceLeDiff, Nat.reduceEqDiff, Nat.reduceSub, Nat.reduceMul, Nat.reduceBEq, Int.reduceBEq, Int.reduceBNe, Int.reduceLT, Int.reduceLE, Int.reduceGT, Int.reduceGE, Int.reduceNeg, Int.reduceEq, Int.reduceNe, Int.reduceToNat, Int.reduceAdd, aconv, acvB, capR, acmpnil, appBox, storeB, ares1, appendTo, afill, aeqL, teset, e1, e2, e3, e13, e14, e15, b1, b2, b3, inj_take, inj_drop, inj_agg, inj_len, inj_one, List.length_map, hc, Int.natCast_nonneg, Int.toNat_natCast, hdrop, htk, h5, ne1, ne2, ne3]
          have hmem : xs[j] ∈ xs := List.getElem_mem _
          have hfit : j * 5 + 5 ≤ ((xs.map inj).flatMap AV.cells).length := by rw [cells_len]; omega
          refine ACallV.pure (ih xs[j] hmem (hvi _ hmem)) ?_
          simp only [aw0, aw1, aw2, aw3, aw4, aw5, aw6, aw7, ne_eq, eq_self, implies_true, imp_self, reduceIte, reduceCtorEq, Nat.reduceAdd, Nat.reduceLT, Nat.reduceLeDiff, Nat.reduceEqDiff, Nat.reduceSub, Nat.reduceMul, Nat.reduceBEq, Int.reduceBEq, Int.reduceBNe, Int.reduceLT, Int.reduceLE, Int.reduceGT, Int.reduceGE, Int.reduceNeg, Int.reduceEq, Int.reduceNe, Int.reduceToNat, Int.reduceAdd, aconv, acvB, capR, acmpnil, appBox, storeB, ares1, appendTo, afill, aeqL, teset, e1, e2, e3, e13, e14, e15, b1, b2, b3, inj_take, inj_drop, inj_agg, inj_len, inj_one, List.length_map, hc, Int.natCast_nonneg, Int.toNat_natCast, hdrop, htk, h5, ne1, ne2, ne3, hfit, hstore]
          exact ⟨n - 1, by omega, j + 1, by rw [wrap_succ (by omega)], by omega, by omega⟩
theorem clone_pure (v : V) (hv : Vok v) : Pure Tryd.prog 18 [inj v] (inj v) := clone_tin v hv.tin
end Go.Proofs.YtjdocenbfghglaaDoor.AW
end
section
set_option linter.unusedSimpArgs false
set_option linter.unusedVariables false
namespace Go.Proofs.YtjdocenbfghglaaDoor.AW
open Go Go.RowKit

theorem atS_ok : ∀ (p : List Stp) (v x : V), Vok v → atS v p = some x → Vok x := by
  intro p
  induction p with
  | nil => intro v x hv h; simp [atS] at h; subst h; exact hv
  | cons s p ih =>
    intro v x hv h
    simp only [atS] at h
    obtain ⟨y, h1, h2⟩ := Option.bind_eq_some_iff.1 h
    exact ih y x (hv.items y (itemS_mem h1)) h2
theorem zero_ok : Vok zeroV := by
  refine ⟨1, ?_⟩
  show (if (0 : Nat) > 60 then 61 else if shape zeroV = true then 1 else 61) ≤ 60
  have : shape zeroV = true := by unfold zeroV; rw [shape_0]; simp [plainS, V.int, V.text, V.items, V.keys]
  rw [this]; decide
theorem injS_under (p : List Stp) : AV.underL 0 0 (p.map injS) = true := by
  induction p with
  | nil => rfl
  | cons s p ih => simp [AV.underL, injS, AV.under, ih]
theorem valid_ok {v : V} (h : valid v = true) : Vok v := ⟨6, by simpa [valid] using h⟩
theorem pget_pure (v : V) (p : List Stp) (hv : v.sm) (hp : p.length < 4611686018427387904) : Pure Tryd.prog 6 [inj v, .sl .ro 2 (p.map injS)] (getV v p) := by
  refine Pure.of0 ⟨Tryd.f6, Tryd.func6, rfl, by kernel_rfl⟩ (by simp [AV.underL, inj_under, AV.under, injS_under]) (getV_under _ _) ?_
  refine acalls_of te_ok [] Tryd.func6 (c := _) rfl (Nat.le_of_ble_eq_true rfl) ?_
  simp only [aw0, aw1, aw2, aw3, aw4, aw5, aw6, aw7, ne_eq, eq_self, implies_true, imp_self, reduceIte, reduceCtorEq, Nat.reduceAdd, Nat.reduceLT, Nat.reduceLeDiff, Nat.reduceEqDiff, Nat.reduceSub, Nat.reduceMul, Nat.reduceBEq, Int.reduceBEq, Int.reduceBNe, Int.reduceLT, Int.reduceLE, Int.reduceGT, Int.reduceGE, Int.reduceNeg, Int.reduceEq, Int.reduceNe, Int.reduceToNat, Int.reduceAdd, aconv, acvB, capR, acmpnil, appBox, storeB, ares1, appendTo, afill, aeqL, teset, Tryd.ntmps6, Tryd.results6, inj_take, inj_drop, inj_agg, inj_len, inj_one, List.length_map, boxR]
  refine ACallV.pure (pvalid_pure v hv) ?_
  cases hval : valid v with
  | false =>
    simp only [aw0, aw1, aw2, aw3, aw4, aw5, aw6, aw7, ne_eq, eq_self, implies_true, imp_self, reduceIte, reduceCtorEq, Nat.reduceAdd, Nat.reduceLT, Nat.reduceLeDiff, Nat.reduceEqDiff, Nat.reduceSub, Nat.reduceMul, Nat.reduceBEq, Int.reduceBEq, Int.reduceBNe, Int.reduceLT, Int.reduceLE, Int.reduceGT, Int.reduceGE, Int.reduceNeg, Int.reduceEq, Int.reduceNe, Int.reduceToNat, Int.reduceAdd, aconv, acvB, capR, acmpnil, appBox, storeB, ares1, appendTo, afill, aeqL, teset, inj_take, inj_drop, inj_agg, inj_len, inj_one, List.length_map]
    refine ⟨_, rfl, ?_⟩
    unfold getV; rw [hval]
    exact .wk (WkAll.cons wk_zero (.cons (.refl _) (.cons (.refl _) .nil))).tup
  | true =>
    simp only [aw0, aw1, aw2, aw3, aw4, aw5, aw6, aw7, ne_eq, eq_self, implies_true, imp_self, reduceIte, reduceCtorEq, Nat.reduceAdd, Nat.reduceLT, Nat.reduceLeDiff, Nat.reduceEqDiff, Nat.reduceSub, Nat.reduceMul, Nat.reduceBEq, Int.reduceBEq, Int.reduceBNe, Int.reduceLT, Int.reduceLE, Int.reduceGT, Int.reduceGE, Int.reduceNeg, Int.reduceEq, Int.reduceNe, Int.reduceToNat, Int.reduceAdd, aconv, acvB, capR, acmpnil, appBox, storeB, ares1, appendTo, afill, aeqL, teset, inj_take, inj_drop, inj_agg, inj_len, inj_one, List.length_map]
    refine ACallV.pure (ppath_pure p hp) ?_
    cases hpo : pathOk p with
    | false =>
      simp only [aw0, aw1, aw2, aw3, aw4, aw5, aw6, aw7, ne_eq, eq_self, implies_true, imp_self, reduceIte, reduceCtorEq, Nat.reduceAdd, Nat.reduceLT, Nat.reduceLeDiff, Nat.reduceEqDiff, Nat.reduceSub, Nat.reduceMul, Nat.reduceBEq, Int.reduceBEq, Int.reduceBNe, Int.reduceLT, Int.reduceLE, Int.reduceGT, Int.reduceGE, Int.reduceNeg, Int.reduceEq, Int.reduceNe, Int.reduceToNat, Int.reduceAdd, aconv, acvB, capR, acmpnil, appBox, storeB, ares1, appendTo, afill, aeqL, teset, inj_take, inj_drop, inj_agg, inj_len, inj_one, List.length_map]
      refine ⟨_, rfl, ?_⟩
      unfold getV; rw [hval, hpo]
      exact .wk (WkAll.cons wk_zero (.cons (.refl _) (.cons (.refl _) .nil))).tup
    | true =>
      simp only [aw0, aw1, aw2, aw3, aw4, aw5, aw6, aw7, ne_eq, eq_self, implies_true, imp_self, reduceIte, reduceCtorEq, Nat.reduceAdd, Nat.reduceLT, Nat.reduceLeDiff, Nat.reduceEqDiff, Nat.reduceSub, Nat.reduceMul, Nat.reduceBEq, Int.reduceBEq, Int.reduceBNe, Int.reduceLT, Int.reduceLE, Int.reduceGT, Int.reduceGE, Int.reduceNeg, Int.reduceEq, Int.reduceNe, Int.reduceToNat, Int.reduceAdd, aconv, acvB, capR, acmpnil, appBox, storeB, ares1, appendTo, afill, aeqL, teset, inj_take, inj_drop, inj_agg, inj_len, inj_one, List.length_map]
      have hvk := valid_ok hval
      refine ACallV.pure (pat_pure v p hvk hp) ?_
      have hg : getV v p = (match atS v p with | some x => .tup [inj x, .bool true, .int .i64 0] | none => .tup [inj zeroV, .bool false, .int .i64 0]) := by unfold getV; rw [hval, hpo]; rfl
      rw [hg]
      cases ha : atS v p with
      | none =>
        simp only [aw0, aw1, aw2, aw3, aw4, aw5, aw6, aw7, ne_eq, eq_self, implies_true, imp_self, reduceIte, reduceCtorEq, Nat.reduceAdd, Nat.reduceLT, Nat.reduceLeDiff, Nat.reduceEqDiff, Nat.reduceSub, Nat.reduceMul, Nat.reduceBEq, Int.reduceBEq, Int.reduceBNe, Int.reduceLT, Int.reduceLE, Int.reduceGT, Int.reduceGE, Int.reduceNeg, Int.reduceEq, Int.reduceNe, Int.reduceToNat, Int.reduceAdd, aconv, acvB, capR, acmpnil, appBox, storeB, ares1, appendTo, afill, aeqL, teset, outV_n, outV_s, inj_take, inj_drop, inj_agg, inj_len, inj_one, List.length_map]
        refine ACallV.pure (clone_pure _ zero_ok) ?_
        simp only [aw0, aw1, aw2, aw3, aw4, aw5, aw6, aw7, ne_eq, eq_self, implies_true, imp_self, reduceIte, reduceCtorEq, Nat.reduceAdd, Nat.reduceLT, Nat.reduceLeDiff, Nat.reduceEqDiff, Nat.reduceSub, Nat.reduceMul, Nat.reduceBEq, Int.reduceBEq, Int.reduceBNe, Int.reduceLT, Int.reduceLE, Int.reduceGT, Int.reduceGE, Int.reduceNeg, Int.reduceEq, Int.reduceNe, Int.reduceToNat, Int.reduceAdd, aconv, acvB, capR, acmpnil, appBox, storeB, ares1, appendTo, afill, aeqL, teset, inj_take, inj_drop, inj_agg, inj_len, inj_one, List.length_map]
        exact ⟨_, rfl, .refl _ _⟩
      | some x =>
        simp only [aw0, aw1, aw2, aw3, aw4, aw5, aw6, aw7, ne_eq, eq_self, implies_true, imp_self, reduceIte, reduceCtorEq, Nat.reduceAdd, Nat.reduceLT, Nat.reduceLeDiff, Nat.reduceEqDiff, Nat.reduceSub, Nat.reduceMul, Nat.reduceBEq, Int.reduceBEq, Int.reduceBNe, Int.reduceLT, Int.reduceLE, Int.reduceGT, Int.reduceGE, Int.reduceNeg, Int.reduceEq, Int.reduceNe, Int.reduceToNat, Int.reduceAdd, aconv, acvB, capR, acmpnil, appBox, storeB, ares1, appendTo, afill, aeqL, teset, outV_n, outV_s, inj_take, inj_drop, inj_agg, inj_len, inj_one, List.length_map]
        refine ACallV.pure (clone_pure _ (atS_ok p v x hvk ha)) ?_
        simp only [aw0, aw1, aw2, aw3, aw4, aw5, aw6, aw7, ne_eq, eq_self, implies_true, imp_self, reduceIte, reduceCtorEq, Nat.reduceAdd, Nat.reduceLT, Nat.reduceLeDiff, Nat.reduceEqDiff, Nat.reduceSub, Nat.reduceMul, Nat.reduceBEq, Int.reduceBEq, Int.reduceBNe, Int.reduceLT, Int.reduceLE, Int.reduceGT, Int.reduceGE, Int.reduceNeg, Int.reduceEq, Int.reduceNe, Int.reduceToNat, Int.reduceAdd, aconv, acvB, capR, acmpnil, appBox, storeB, ares1, appendTo, afill, aeqL, teset, inj_take, inj_drop, inj_agg, inj_len, inj_one, List.length_map]
        exact ⟨_, rfl, .refl _ _⟩
end Go.Proofs.YtjdocenbfghglaaDoor.AW
end
