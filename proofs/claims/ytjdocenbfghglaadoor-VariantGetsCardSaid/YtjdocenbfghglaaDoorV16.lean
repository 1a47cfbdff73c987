/- V, part 16: slices.Clone, to read. -/
import Derived.Test.YtjdocenbfghglaaDoorV15
set_option linter.unusedSimpArgs false
set_option linter.unusedVariables false
namespace Go.Proofs.YtjdocenbfghglaaDoor.AW
open Go Go.RowKit

theorem range0 : List.range 0 = [] := rfl
theorem range1 : List.range 1 = [0] := rfl
theorem range2 : List.range 2 = [0, 1] := rfl
theorem Wk.ro {tag : Tag} {sz : Nat} {xs : List AV} : Wk (.sl tag sz xs) (.sl .ro sz xs) := by
  intro m c h
  cases h with
  | slnil => exact .slnil _ _ (by intro a b e; cases e)
  | slemp _ _ a hz _ => exact .slemp _ _ a hz (by intro a b e; cases e)
  | sl _ _ _ blk o cap f h1 h2 h3 h4 h5 h6 => exact .sl .ro sz xs blk o cap f h1 h2 h3 h4 h5 trivial
theorem AH.Ext.newTok' (h : AH) : h.Ext h.newTok := (AH.Ext.refl h).newTok
theorem clonestr_pure (ks : List ByteArray) (hl : ks.length < 4611686018427) : Pure Tryd.prog 38 [.sl .ro 1 (ks.map .str)] (.sl .ro 1 (ks.map .str)) := by
  refine Pure.ofW ⟨Tryd.f38, Tryd.func38, rfl, by kernel_rfl⟩ ?_ (fun h hsc => ?_)
  · have := inj_under (.mk 0 0 ⟨#[]⟩ [] ks)
    simp only [inj_mk, AV.under, AV.underL, Bool.and_true, Bool.true_and, List.map_nil] at this
    exact this
  · cases ks with
    | nil =>
      refine acalls_of te_ok [] Tryd.func38 (c := _) rfl (Nat.le_of_ble_eq_true rfl) ?_
      simp only [awset0, awset1, awset2, awset3, awset4, awset5, ne_eq, eq_self, implies_true, imp_self, retR, atup, aresL, ares1, gval, inLz, boxR, buildR, noDead, AV.isDead, acmpnil, appR, appBox, storeB, abin, aint, astr, aun, abuild, afill, fieldPlaces, alit, aindexAddr, aindex, aslice, bnd, cutTag, amin, amax, aappend, appendTo, aelems, aconv, aiface, agetField, reduceIte, reduceCtorEq, Nat.reduceAdd, Nat.reduceLT, Nat.reduceLeDiff, Nat.reduceEqDiff, Nat.reduceSub, Nat.reduceMul, Nat.reduceBEq, Int.reduceBEq, Int.reduceBNe, Int.reduceLT, Int.reduceLE, Int.reduceGT, Int.reduceGE, Int.reduceNeg, Int.reduceEq, Int.reduceNe, Int.reduceToNat, Int.reduceAdd, cls, fl, teset, Tryd.ntmps38, Tryd.results38, eqnil, List.isEmpty_nil, range0]
      exact ⟨⟨.refl _, _, rfl, wk_nil1⟩, .refl _, _, rfl, .ro⟩
    | cons k ks =>
      have hb : (ks.length + 1) * 16 ≤ 140737488355328 := by simp only [List.length_cons] at hl; omega
      refine acalls_of te_ok [] Tryd.func38 (c := _) rfl (Nat.le_of_ble_eq_true rfl) ?_
      simp only [awset0, awset1, awset2, awset3, awset4, awset5, ne_eq, eq_self, implies_true, imp_self, retR, atup, aresL, ares1, gval, inLz, boxR, buildR, noDead, AV.isDead, acmpnil, appR, appBox, storeB, abin, aint, astr, aun, abuild, afill, fieldPlaces, alit, aindexAddr, aindex, aslice, bnd, cutTag, amin, amax, aappend, appendTo, aelems, aconv, aiface, agetField, reduceIte, reduceCtorEq, Nat.reduceAdd, Nat.reduceLT, Nat.reduceLeDiff, Nat.reduceEqDiff, Nat.reduceSub, Nat.reduceMul, Nat.reduceBEq, Int.reduceBEq, Int.reduceBNe, Int.reduceLT, Int.reduceLE, Int.reduceGT, Int.reduceGE, Int.reduceNeg, Int.reduceEq, Int.reduceNe, Int.reduceToNat, Int.reduceAdd, cls, fl, teset, Tryd.ntmps38, Tryd.results38, eqnil, List.isEmpty_cons, range0, List.length_map, Nat.zero_add, hb]
      exact .inl ⟨.newTok' _, _, rfl, .ro⟩
end Go.Proofs.YtjdocenbfghglaaDoor.AW
