/- Texts of this claim, part 11: L4. -/
import Derived.Test.YtjdocenbfghglaaGreatDoorPu1
import Derived.Test.YtjdocenbfghglaaGreatDoorPu2
import Derived.Test.YtjdocenbfghglaaGreatDoorPu3
import Derived.Test.YtjdocenbfghglaaGreatDoorPu4
import Derived.Test.YtjdocenbfghglaaGreatDoorPu5
import Derived.Test.YtjdocenbfghglaaGreatDoorPu6
import Derived.Test.YtjdocenbfghglaaGreatDoorPu7
import Derived.Test.YtjdocenbfghglaaGreatDoorPu8
import Derived.Test.YtjdocenbfghglaaGreatDoorPu9
import Derived.Test.YtjdocenbfghglaaGreatDoorPu10
section
set_option linter.unusedSimpArgs false
set_option linter.unusedVariables false
namespace Go.Proofs.YtjdocenbfghglaaGreatDoor.AW
open Go Go.RowKit

theorem tin_sm {v : V} (h : v.tin) : v.sm := by
  induction v using V.ind with
  | h k i t xs ks ih =>
    simp only [V.tin, V.tinL_iff] at h
    simp only [V.sm, V.smL_iff]
    exact ⟨by omega, by omega, fun x hx => ih x hx (h.2.2 x hx)⟩
theorem putV_sm (v : V) (p : List Stp) (x : V) : (putV v p x).1.sm := by
  unfold putV wholeV
  split
  · split
    · exact zero_sm
    · split
      · next h => exact (valid_ok h).sm
      · exact zero_sm
  · exact zero_sm
theorem removeV_sm (v : V) (p : List Stp) : (removeV v p).1.sm := by
  unfold removeV
  split
  · next h =>
    split
    · exact zero_sm
    · split
      · exact tin_sm (without_tin p v (valid_ok h.1))
      · exact zero_sm
  · exact zero_sm
theorem puts_law (v : V) (p : List Stp) (x : V) (hv : v.sm) (hp : p.length < 4611686018427387904) (hx : x.sm) : Pure Tryz.prog 3 [inj v, .sl .ro 2 (p.map injS), inj x] (.bool true) := by
  refine Pure.of0 ⟨Tryz.f3, Tryz.func3, rfl, by kernel_rfl⟩ (by simp [AV.underL, inj_under, AV.under, injS_under]) rfl ?_
  have c1 := pput_pure v p x hv hp hx
  have c2 := refPut_pure v p x hv hx
  have c3 := premove_pure v p hv hp
  have c4 := refRemove_pure v p hv hp
  have s1 := same_pure _ (putV v p x).1 (putV_sm v p x)
  have s2 := same_pure _ (removeV v p).1 (removeV_sm v p)
  rw [sameS_self] at s1 s2
  generalize putV v p x = q1 at *
  generalize removeV v p = q2 at *
  obtain ⟨y1, e1⟩ := q1
  obtain ⟨y2, e2⟩ := q2
  refine acalls_of te_ok [] Tryz.func3 (c := _) rfl (Nat.le_of_ble_eq_true rfl) ?_
  simp only [aw0, aw1, aw2, aw3, aw4, aw5, aw6, aw7, ne_eq, eq_self, implies_true, imp_self, reduceIte, reduceCtorEq, Nat.reduceAdd, Nat.reduceLT, Nat.reduceLeDiff, Nat.reduceEqDiff, Nat.reduceSub, Nat.reduceMul, Nat.reduceBEq, Int.reduceBEq, Int.reduceBNe, Int.reduceLT, Int.reduceLE, Int.reduceGT, Int.reduceGE, Int.reduceNeg, Int.reduceEq, Int.reduceNe, Int.reduceToNat, Int.reduceAdd, aconv, acvB, capR, acmpnil, appBox, storeB, ares1, appendTo, afill, aeqL, teset, Tryz.ntmps3, Tryz.results3, inj_take, inj_drop, inj_agg, inj_len, inj_one, List.length_map, boxR]
  refine ACallV.pure c1 ?_
  simp only [aw0, aw1, aw2, aw3, aw4, aw5, aw6, aw7, ne_eq, eq_self, implies_true, imp_self, reduceIte, reduceCtorEq, Nat.reduceAdd, Nat.reduceLT, Nat.reduceLeDiff, Nat.reduceEqDiff, Nat.reduceSub, Nat.reduceMul, Nat.reduceBEq, Int.reduceBEq, Int.reduceBNe, Int.reduceLT, Int.reduceLE, Int.reduceGT, Int.reduceGE, Int.reduceNeg, Int.reduceEq, Int.reduceNe, Int.reduceToNat, Int.reduceAdd, aconv, acvB, capR, acmpnil, appBox, storeB, ares1, appendTo, afill, aeqL, teset, inj_take, inj_drop, inj_agg, inj_len, inj_one, List.length_map]
  refine ACallV.pure c2 ?_
  simp only [aw0, aw1, aw2, aw3, aw4, aw5, aw6, aw7, ne_eq, eq_self, implies_true, imp_self, reduceIte, reduceCtorEq, Nat.reduceAdd, Nat.reduceLT, Nat.reduceLeDiff, Nat.reduceEqDiff, Nat.reduceSub, Nat.reduceMul, Nat.reduceBEq, Int.reduceBEq, Int.reduceBNe, Int.reduceLT, Int.reduceLE, Int.reduceGT, Int.reduceGE, Int.reduceNeg, Int.reduceEq, Int.reduceNe, Int.reduceToNat, Int.reduceAdd, aconv, acvB, capR, acmpnil, appBox, storeB, ares1, appendTo, afill, aeqL, teset, inj_take, inj_drop, inj_agg, inj_len, inj_one, List.length_map]
  refine ACallV.pure c3 ?_
  simp only [aw0, aw1, aw2, aw3, aw4, aw5, aw6, aw7, ne_eq, eq_self, implies_true, imp_self, reduceIte, reduceCtorEq, Nat.reduceAdd, Nat.reduceLT, Nat.reduceLeDiff, Nat.reduceEqDiff, Nat.reduceSub, Nat.reduceMul, Nat.reduceBEq, Int.reduceBEq, Int.reduceBNe, Int.reduceLT, Int.reduceLE, Int.reduceGT, Int.reduceGE, Int.reduceNeg, Int.reduceEq, Int.reduceNe, Int.reduceToNat, Int.reduceAdd, aconv, acvB, capR, acmpnil, appBox, storeB, ares1, appendTo, afill, aeqL, teset, inj_take, inj_drop, inj_agg, inj_len, inj_one, List.length_map]
  refine ACallV.pure c4 ?_
  simp only [aw0, aw1, aw2, aw3, aw4, aw5, aw6, aw7, ne_eq, eq_self, implies_true, imp_self, reduceIte, reduceCtorEq, Nat.reduceAdd, Nat.reduceLT, Nat.reduceLeDiff, Nat.reduceEqDiff, Nat.reduceSub, Nat.reduceMul, Nat.reduceBEq, Int.reduceBEq, Int.reduceBNe, Int.reduceLT, Int.reduceLE, Int.reduceGT, Int.reduceGE, Int.reduceNeg, Int.reduceEq, Int.reduceNe, Int.reduceToNat, Int.reduceAdd, aconv, acvB, capR, acmpnil, appBox, storeB, ares1, appendTo, afill, aeqL, teset, inj_take, inj_drop, inj_agg, inj_len, inj_one, List.length_map]
  refine ACallV.pure s1 ?_
  simp only [aw0, aw1, aw2, aw3, aw4, aw5, aw6, aw7, ne_eq, eq_self, implies_true, imp_self, reduceIte, reduceCtorEq, Nat.reduceAdd, Nat.reduceLT, Nat.reduceLeDiff, Nat.reduceEqDiff, Nat.reduceSub, Nat.reduceMul, Nat.reduceBEq, Int.reduceBEq, Int.reduceBNe, Int.reduceLT, Int.reduceLE, Int.reduceGT, Int.reduceGE, Int.reduceNeg, Int.reduceEq, Int.reduceNe, Int.reduceToNat, Int.reduceAdd, aconv, acvB, capR, acmpnil, appBox, storeB, ares1, appendTo, afill, aeqL, teset, inj_take, inj_drop, inj_agg, inj_len, inj_one, List.length_map, beq_self_eq_true]
  refine ACallV.pure s2 ?_
  simp only [aw0, aw1, aw2, aw3, aw4, aw5, aw6, aw7, ne_eq, eq_self, implies_true, imp_self, reduceIte, reduceCtorEq, Nat.reduceAdd, Nat.reduceLT, Nat.reduceLeDiff, Nat.reduceEqDiff, Nat.reduceSub, Nat.reduceMul, Nat.reduceBEq, Int.reduceBEq, Int.reduceBNe, Int.reduceLT, Int.reduceLE, Int.reduceGT, Int.reduceGE, Int.reduceNeg, Int.reduceEq, Int.reduceNe, Int.reduceToNat, Int.reduceAdd, aconv, acvB, capR, acmpnil, appBox, storeB, ares1, appendTo, afill, aeqL, teset, inj_take, inj_drop, inj_agg, inj_len, inj_one, List.length_map, beq_self_eq_true]
  refine ACallV.pure awake_pure ?_
  simp only [aw0, aw1, aw2, aw3, aw4, aw5, aw6, aw7, ne_eq, eq_self, implies_true, imp_self, reduceIte, reduceCtorEq, Nat.reduceAdd, Nat.reduceLT, Nat.reduceLeDiff, Nat.reduceEqDiff, Nat.reduceSub, Nat.reduceMul, Nat.reduceBEq, Int.reduceBEq, Int.reduceBNe, Int.reduceLT, Int.reduceLE, Int.reduceGT, Int.reduceGE, Int.reduceNeg, Int.reduceEq, Int.reduceNe, Int.reduceToNat, Int.reduceAdd, aconv, acvB, capR, acmpnil, appBox, storeB, ares1, appendTo, afill, aeqL, teset, inj_take, inj_drop, inj_agg, inj_len, inj_one, List.length_map]
  exact ⟨_, rfl, .refl _ _⟩
end Go.Proofs.YtjdocenbfghglaaGreatDoor.AW
end
