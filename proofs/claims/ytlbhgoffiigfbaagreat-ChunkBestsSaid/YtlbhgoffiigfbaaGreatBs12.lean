/- Texts of this claim, part 12: V79, P74, V90, V91, V80, V81, V82, V93, V94, V95, V96, V97, V98. -/
import Derived.Test.YtlbhgoffiigfbaaGreatBs1
import Derived.Test.YtlbhgoffiigfbaaGreatBs3
import Derived.Test.YtlbhgoffiigfbaaGreatBs4
import Derived.Test.YtlbhgoffiigfbaaGreatBs5
import Derived.Test.YtlbhgoffiigfbaaGreatBs6
import Derived.Test.YtlbhgoffiigfbaaGreatBs7
import Derived.Test.YtlbhgoffiigfbaaGreatBs8
import Derived.Test.YtlbhgoffiigfbaaGreatBs9
import Derived.Test.YtlbhgoffiigfbaaGreatBs10
import Derived.Test.YtlbhgoffiigfbaaGreatBs11
section
set_option linter.unusedSimpArgs false
set_option linter.unusedVariables false
namespace Go.Proofs.YtlbhgoffiigfbaaGreat.AW
open Go Go.RowKit

theorem ddG_sub : ∀ (r : List V) (p : V), (ddG p r).Sublist r
  | [], _ => by simp [ddG]
  | a :: r, p => by
    rw [ddG]
    split
    · exact (ddG_sub r a).cons a
    · exact (ddG_sub r a).cons_cons a
theorem dd_sub (xs : List V) : (dd xs).Sublist xs := by
  cases xs with
  | nil => simp [dd]
  | cons x r => rw [dd]; exact (ddG_sub r x).cons_cons x
/-- The different values, in their order. -/
def wordsL (xs : List V) : List V := dd (sortV xs)
theorem words_ok {xs : List V} (hx : ∀ x ∈ xs, Vok x) : ∀ w ∈ wordsL xs, Vok w := fun w hw => hx w (sortV_mem.1 (dd_mem w hw))
theorem words_sorted (xs : List V) : (wordsL xs).Pairwise fun a b => leV a b = true := (sortV_sorted xs).sublist (dd_sub _)
theorem words_len (xs : List V) : (wordsL xs).length ≤ xs.length := by
  have := dd_len (sortV xs)
  rw [sortV_len] at this
  exact this
def placesA (ws : List V) (xs : List V) : List AV := xs.flatMap fun v => numA (lbV ws v)
def dictA (xs : List V) : List AV := numA (wordsL xs).length ++ valsA (wordsL xs) ++ numA xs.length ++ placesA (wordsL xs) xs
theorem bytes_places (ws xs : List V) : ∀ x ∈ placesA ws xs, ∃ k, x = .int .u8 k := by
  intro x hx
  unfold placesA at hx
  obtain ⟨v, _, h⟩ := List.mem_flatMap.1 hx
  exact bytes_numA _ x h
theorem places_len (ws : List V) (hw : ws.length ≤ 1000) : ∀ (xs : List V), (placesA ws xs).length ≤ 9 * xs.length
  | [] => by simp [placesA]
  | v :: xs => by
    have h1 := places_len ws hw xs
    have h2 := numA_len (lbV ws v) (by have := lbV_le ws v; omega)
    simp only [placesA, List.flatMap_cons, List.length_append, List.length_cons] at *
    omega
theorem places_drop {ws xs : List V} {j : Nat} (hj : j < xs.length) : placesA ws (xs.drop j) = numA (lbV ws xs[j]) ++ placesA ws (xs.drop (j + 1)) := by
  unfold placesA
  rw [List.drop_eq_getElem_cons hj, List.flatMap_cons]
theorem dict_can (xs : List V) : Pure Tryz.prog 120 [.agg [], .sl .ro 5 (xs.map inj)] (.bool true) := by
  refine Pure.of ⟨Tryz.f120, Tryz.func120, rfl, by kernel_rfl⟩ rfl (fun h => ?_)
  refine acalls_of te_ok [] Tryz.func120 (c := _) rfl (Nat.le_of_ble_eq_true rfl) ?_
  simp only [aw0, aw1, aw2, aw3, aw4, aw5, aw6, aw7, ne_eq, eq_self, implies_true, imp_self, reduceIte, reduceCtorEq, Nat.reduceAdd, Nat.reduceLT, Nat.reduceLeDiff, Nat.reduceEqDiff, Nat.reduceSub, Nat.reduceMul, Nat.reduceBEq, Int.reduceBEq, Int.reduceBNe, Int.reduceLT, Int.reduceLE, Int.reduceGT, Int.reduceGE, Int.reduceNeg, Int.reduceEq, Int.reduceNe, Int.reduceToNat, Int.reduceAdd, aconv, acvB, capR, acmpnil, appBox, storeB, ares1, appendTo, afill, aeqL, teset, Tryz.ntmps120, Tryz.results120]
  exact ⟨by (repeat (first | exact AH.Ext.refl _ | assumption | refine AH.Ext.set ?_ (by first | omega | (simp only [new_nb, set_nb, kill_nb, newTok_nb, setTok_nb]; omega)) _ | refine AH.Ext.new ?_ _)), _, rfl, rfl⟩
theorem sort_none : Pure Tryz.prog 123 [.sl .ro 5 [], .fn (.func 113) [] []] (.tup []) := erun_pure ec5_ok (d := 60) rfl (by kernel_rfl)
theorem compact_none : Pure Tryz.prog 124 [.sl .ro 5 [], .fn (.func 110) [] []] (.sl .ro 5 []) := by
  refine Pure.of ⟨Tryz.f124, Tryz.func124, rfl, by kernel_rfl⟩ rfl (fun h => ?_)
  refine acalls_of te_ok [] Tryz.func124 (c := _) rfl (Nat.le_of_ble_eq_true rfl) ?_
  simp only [aw0, aw1, aw2, aw3, aw4, aw5, aw6, aw7, ne_eq, eq_self, implies_true, imp_self, reduceIte, reduceCtorEq, Nat.reduceAdd, Nat.reduceLT, Nat.reduceLeDiff, Nat.reduceEqDiff, Nat.reduceSub, Nat.reduceMul, Nat.reduceBEq, Int.reduceBEq, Int.reduceBNe, Int.reduceLT, Int.reduceLE, Int.reduceGT, Int.reduceGE, Int.reduceNeg, Int.reduceEq, Int.reduceNe, Int.reduceToNat, Int.reduceAdd, aconv, acvB, capR, acmpnil, appBox, storeB, ares1, appendTo, afill, aeqL, teset, Tryz.ntmps124, Tryz.results124, List.length_nil, Int.natCast_zero]
  exact ⟨.refl _, _, rfl, rfl⟩
set_option maxHeartbeats 4000000 in
theorem dict_write (xs : List V) (hx : ∀ x ∈ xs, Vok x) (hl : xs.length ≤ 1000) : Pure Tryz.prog 122 [.agg [], .sl .full 0 [], .sl .ro 5 (xs.map inj)] (.sl .ro 1 (dictA xs)) := by
  have hby : ∀ x ∈ dictA xs, ∃ k, x = .int .u8 k := by
    intro x hx
    unfold dictA at hx
    rcases List.mem_append.1 hx with h | h
    · rcases List.mem_append.1 h with h | h
      · exact (List.mem_append.1 h).elim (bytes_numA _ x) (bytes_valsA _ x)
      · exact bytes_numA _ x h
    · exact bytes_places _ _ x h
  have hwok := words_ok hx
  have hwl := words_len xs
  have hws := words_sorted xs
  have hvl := valsA_len hwok
  have hpl := places_len (wordsL xs) (by omega) xs
  have hn1 := numA_len (wordsL xs).length (by omega)
  have hn2 := numA_len xs.length (by omega)
  have hlen0 : (numA (wordsL xs).length ++ valsA (wordsL xs)).length < 1000000000 := by rw [List.length_append]; omega
  refine Pure.of ⟨Tryz.f122, Tryz.func122, rfl, by kernel_rfl⟩ (by simp only [AV.under]; rw [under_of hby]) (fun h => ?_)
  refine acalls_of te_ok [] Tryz.func122 (c := _) rfl (Nat.le_of_ble_eq_true rfl) ?_
  simp only [aw0, aw1, aw2, aw3, aw4, aw5, aw6, aw7, ne_eq, eq_self, implies_true, imp_self, reduceIte, reduceCtorEq, Nat.reduceAdd, Nat.reduceLT, Nat.reduceLeDiff, Nat.reduceEqDiff, Nat.reduceSub, Nat.reduceMul, Nat.reduceBEq, Int.reduceBEq, Int.reduceBNe, Int.reduceLT, Int.reduceLE, Int.reduceGT, Int.reduceGE, Int.reduceNeg, Int.reduceEq, Int.reduceNe, Int.reduceToNat, Int.reduceAdd, aconv, acvB, capR, acmpnil, appBox, storeB, ares1, appendTo, afill, aeqL, teset, Tryz.ntmps122, Tryz.results122, inj_take, inj_drop, inj_agg, inj_len, inj_one, List.length_map]
  refine ACallV.mono ?_ (ACallV.of ⟨Tryz.f53, Tryz.func53, rfl, by kernel_rfl⟩ (clonevals_calls xs (by omega) _))
  rintro out h' (⟨e, rfl, rfl⟩ | ⟨hne, rfl, rfl⟩)
  · have hw0 : wordsL xs = [] := by rw [e]; simp [wordsL, sortV, dd]
    simp only [aw0, aw1, aw2, aw3, aw4, aw5, aw6, aw7, ne_eq, eq_self, implies_true, imp_self, reduceIte, reduceCtorEq, Nat.reduceAdd, Nat.reduceLT, Nat.reduceLeDiff, Nat.reduceEqDiff, Nat.reduceSub, Nat.reduceMul, Nat.reduceBEq, Int.reduceBEq, Int.reduceBNe, Int.reduceLT, Int.reduceLE, Int.reduceGT, Int.reduceGE, Int.reduceNeg, Int.reduceEq, Int.reduceNe, Int.reduceToNat, Int.reduceAdd, aconv, acvB, capR, acmpnil, appBox, storeB, ares1, appendTo, afill, aeqL, teset, callK_ret, inj_take, inj_drop, inj_agg, inj_len, inj_one, List.length_map]
    refine ACallV.pure sort_none ?_
    simp only [aw0, aw1, aw2, aw3, aw4, aw5, aw6, aw7, ne_eq, eq_self, implies_true, imp_self, reduceIte, reduceCtorEq, Nat.reduceAdd, Nat.reduceLT, Nat.reduceLeDiff, Nat.reduceEqDiff, Nat.reduceSub, Nat.reduceMul, Nat.reduceBEq, Int.reduceBEq, Int.reduceBNe, Int.reduceLT, Int.reduceLE, Int.reduceGT, Int.reduceGE, Int.reduceNeg, Int.reduceEq, Int.reduceNe, Int.reduceToNat, Int.reduceAdd, aconv, acvB, capR, acmpnil, appBox, storeB, ares1, appendTo, afill, aeqL, teset, inj_take, inj_drop, inj_agg, inj_len, inj_one, List.length_map]
    have hcn : Pure Tryz.prog 124 [.sl .ro 5 [], .fn (.func 110) [] []] (.sl .ro 5 ((wordsL xs).map inj)) := by rw [hw0]; exact compact_none
    refine ACallV.pure hcn ?_
    simp only [aw0, aw1, aw2, aw3, aw4, aw5, aw6, aw7, ne_eq, eq_self, implies_true, imp_self, reduceIte, reduceCtorEq, Nat.reduceAdd, Nat.reduceLT, Nat.reduceLeDiff, Nat.reduceEqDiff, Nat.reduceSub, Nat.reduceMul, Nat.reduceBEq, Int.reduceBEq, Int.reduceBNe, Int.reduceLT, Int.reduceLE, Int.reduceGT, Int.reduceGE, Int.reduceNeg, Int.reduceEq, Int.reduceNe, Int.reduceToNat, Int.reduceAdd, aconv, acvB, capR, acmpnil, appBox, storeB, ares1, appendTo, afill, aeqL, teset, inj_take, inj_drop, inj_agg, inj_len, inj_one, List.length_map]
    refine ACallV.mono ?_ (ACallV.of ⟨Tryz.f93, Tryz.func93, rfl, by kernel_rfl⟩ (addvalues_nil (wordsL xs) hwok (by omega) _))
    rintro out h' ⟨G, rfl, ht, hE2⟩
    have hE : h.Ext h' := ((AH.Ext.refl h).new _).trans hE2
    simp only [aw0, aw1, aw2, aw3, aw4, aw5, aw6, aw7, ne_eq, eq_self, implies_true, imp_self, reduceIte, reduceCtorEq, Nat.reduceAdd, Nat.reduceLT, Nat.reduceLeDiff, Nat.reduceEqDiff, Nat.reduceSub, Nat.reduceMul, Nat.reduceBEq, Int.reduceBEq, Int.reduceBNe, Int.reduceLT, Int.reduceLE, Int.reduceGT, Int.reduceGE, Int.reduceNeg, Int.reduceEq, Int.reduceNe, Int.reduceToNat, Int.reduceAdd, aconv, acvB, capR, acmpnil, appBox, storeB, ares1, appendTo, afill, aeqL, teset, callK_ret, inj_take, inj_drop, inj_agg, inj_len, inj_one, List.length_map]
    have ht0 : h'.tok h.nt = some G := ht
    refine ACallV.mono ?_ (ACallV.of ⟨Tryz.f32, Tryz.func32, rfl, by kernel_rfl⟩ (addnum_tok _ xs.length h.nt G (by omega) hlen0 _ ht0))
    rintro out h'' ⟨rfl, rfl⟩
    simp only [aw0, aw1, aw2, aw3, aw4, aw5, aw6, aw7, ne_eq, eq_self, implies_true, imp_self, reduceIte, reduceCtorEq, Nat.reduceAdd, Nat.reduceLT, Nat.reduceLeDiff, Nat.reduceEqDiff, Nat.reduceSub, Nat.reduceMul, Nat.reduceBEq, Int.reduceBEq, Int.reduceBNe, Int.reduceLT, Int.reduceLE, Int.reduceGT, Int.reduceGE, Int.reduceNeg, Int.reduceEq, Int.reduceNe, Int.reduceToNat, Int.reduceAdd, aconv, acvB, capR, acmpnil, appBox, storeB, ares1, appendTo, afill, aeqL, teset, callK_ret, inj_take, inj_drop, inj_agg, inj_len, inj_one, List.length_map]
    refine ⟨fun n s' h2 => ∃ (j G2 : Nat) (ys : List AV), s' 1 = .sl (.tok h.nt G2) 1 ys ∧ s' 7 = .sl .ro 5 ((wordsL xs).map inj) ∧ s' 24 = .sl .ro 5 (xs.map inj) ∧ s' 25 = .int .i64 xs.length ∧ s' 26 = .int .i64 j ∧ n + j = xs.length ∧ h.Ext h2 ∧ h2.tok h.nt = some G2 ∧ ys ++ placesA (wordsL xs) (xs.drop j) = dictA xs, ⟨xs.length, 0, G + (numA xs.length).length, numA (wordsL xs).length ++ valsA (wordsL xs) ++ numA xs.length, ?_⟩, ?_⟩
    · simp only [aw0, aw1, aw2, aw3, aw4, aw5, aw6, aw7, ne_eq, eq_self, implies_true, imp_self, reduceIte, reduceCtorEq, Nat.reduceAdd, Nat.reduceLT, Nat.reduceLeDiff, Nat.reduceEqDiff, Nat.reduceSub, Nat.reduceMul, Nat.reduceBEq, Int.reduceBEq, Int.reduceBNe, Int.reduceLT, Int.reduceLE, Int.reduceGT, Int.reduceGE, Int.reduceNeg, Int.reduceEq, Int.reduceNe, Int.reduceToNat, Int.reduceAdd, aconv, acvB, capR, acmpnil, appBox, storeB, ares1, appendTo, afill, aeqL, teset, Int.natCast_zero, List.drop_zero]
      first | exact ⟨hE.setTok (Nat.le_refl _) _, rfl⟩ | exact ⟨rfl, hE.setTok (Nat.le_refl _) _, rfl⟩
    · rintro n s' h2 ⟨j, G2, ys, e1, e7, e24, e25, e26, hn, hE3, ht3, hv⟩
      simp only [aw0, aw1, aw2, aw3, aw4, aw5, aw6, aw7, ne_eq, eq_self, implies_true, imp_self, reduceIte, reduceCtorEq, Nat.reduceAdd, Nat.reduceLT, Nat.reduceLeDiff, Nat.reduceEqDiff, Nat.reduceSub, Nat.reduceMul, Nat.reduceBEq, Int.reduceBEq, Int.reduceBNe, Int.reduceLT, Int.reduceLE, Int.reduceGT, Int.reduceGE, Int.reduceNeg, Int.reduceEq, Int.reduceNe, Int.reduceToNat, Int.reduceAdd, aconv, acvB, capR, acmpnil, appBox, storeB, ares1, appendTo, afill, aeqL, teset, e1, e7, e24, e25, e26, inj_take, inj_drop, inj_agg, inj_len, inj_one, List.length_map]
      cases hc : decide ((j : Int) < (xs.length : Int)) with
      | false =>
        simp only [aw0, aw1, aw2, aw3, aw4, aw5, aw6, aw7, ne_eq, eq_self, implies_true, imp_self, reduceIte, reduceCtorEq, Nat.reduceAdd, Nat.reduceLT, Nat.reduceLeDiff, Nat.reduceEqDiff, Nat.reduceSub, Nat.reduceMul, Nat.reduceBEq, Int.reduceBEq, Int.reduceBNe, Int.reduceLT, Int.reduceLE, Int.reduceGT, Int.reduceGE, Int.reduceNeg, Int.reduceEq, Int.reduceNe, Int.reduceToNat, Int.reduceAdd, aconv, acvB, capR, acmpnil, appBox, storeB, ares1, appendTo, afill, aeqL, teset, e1, e7, e24, e25, e26, inj_take, inj_drop, inj_agg, inj_len, inj_one, List.length_map]
        simp only [decide_eq_false_iff_not] at hc
        rw [List.drop_eq_nil_of_le (by omega)] at hv
        simp only [placesA, List.flatMap_nil, List.append_nil] at hv
        exact ⟨hE3, _, rfl, by rw [hv]; show AV.sl Tag.ro 1 (AV.eraseL (dictA xs)) = _; rw [erase_of hby]⟩
      | true =>
        simp only [decide_eq_true_eq] at hc
        have hj : j < xs.length := by omega
        have hget : (xs.map inj)[((j : Nat) : Int).toNat]? = some (inj xs[j]) := by simp [hj]
        rw [places_drop hj] at hv
        have hlen : ys.length < 1000000000 := by
          have := congrArg List.length hv
          simp only [dictA, List.length_append] at this
          omega
        simp only [aw0, aw1, aw2, aw3, aw4, aw5, aw6, aw7, ne_eq, eq_self, implies_true, imp_self, reduceIte, reduceCtorEq, Nat.reduceAdd, Nat.reduceLT, Nat.reduceLeDiff, Nat.reduceEqDiff, Nat.reduceSub, Nat.reduceMul, Nat.reduceBEq, Int.reduceBEq, Int.reduceBNe, Int.reduceLT, Int.reduceLE, Int.reduceGT, Int.reduceGE, Int.reduceNeg, Int.reduceEq, Int.reduceNe, Int.reduceToNat, Int.reduceAdd, aconv, acvB, capR, acmpnil, appBox, storeB, ares1, appendTo, afill, aeqL, teset, e1, e7, e24, e25, e26, inj_take, inj_drop, inj_agg, inj_len, inj_one, List.length_map, boxR, hget, Int.natCast_nonneg]
        refine ACallV.pure (searchV_pure (wordsL xs) xs[j] hws hwok (hx _ (List.getElem_mem hj)) (by omega)) ?_
        simp only [aw0, aw1, aw2, aw3, aw4, aw5, aw6, aw7, ne_eq, eq_self, implies_true, imp_self, reduceIte, reduceCtorEq, Nat.reduceAdd, Nat.reduceLT, Nat.reduceLeDiff, Nat.reduceEqDiff, Nat.reduceSub, Nat.reduceMul, Nat.reduceBEq, Int.reduceBEq, Int.reduceBNe, Int.reduceLT, Int.reduceLE, Int.reduceGT, Int.reduceGE, Int.reduceNeg, Int.reduceEq, Int.reduceNe, Int.reduceToNat, Int.reduceAdd, aconv, acvB, capR, acmpnil, appBox, storeB, ares1, appendTo, afill, aeqL, teset, e1, e7, e24, e25, e26, inj_take, inj_drop, inj_agg, inj_len, inj_one, List.length_map, boxR]
        have hk : ((h2.new [AV.int IntKind.i64 0, AV.int IntKind.i64 0, AV.str { data := #[] }, AV.sl Tag.full 0 [], AV.sl Tag.full 0 []]).set h2.nb (inj xs[j]).cells).tok h.nt = some G2 := ht3
        have hlb := lbV_le (wordsL xs) xs[j]
        refine ACallV.mono ?_ (ACallV.of ⟨Tryz.f32, Tryz.func32, rfl, by kernel_rfl⟩ (addnum_tok ys (lbV (wordsL xs) xs[j]) h.nt G2 (by omega) hlen _ hk))
        rintro out h3 ⟨rfl, rfl⟩
        simp only [aw0, aw1, aw2, aw3, aw4, aw5, aw6, aw7, ne_eq, eq_self, implies_true, imp_self, reduceIte, reduceCtorEq, Nat.reduceAdd, Nat.reduceLT, Nat.reduceLeDiff, Nat.reduceEqDiff, Nat.reduceSub, Nat.reduceMul, Nat.reduceBEq, Int.reduceBEq, Int.reduceBNe, Int.reduceLT, Int.reduceLE, Int.reduceGT, Int.reduceGE, Int.reduceNeg, Int.reduceEq, Int.reduceNe, Int.reduceToNat, Int.reduceAdd, aconv, acvB, capR, acmpnil, appBox, storeB, ares1, appendTo, afill, aeqL, teset, callK_ret, e1, e7, e24, e25, e26]
        refine ⟨n - 1, by omega, j + 1, _, ys ++ numA (lbV (wordsL xs) xs[j]), rfl, by rw [wrap_succ (by omega)], by omega, ((hE3.new _).set hE3.nb _).setTok (Nat.le_refl _) _, rfl, by rw [List.append_assoc]; exact hv⟩
  · have hsne : sortV xs ≠ [] := fun e => hne (List.eq_nil_of_length_eq_zero (by rw [← sortV_len, e]; rfl))
    simp only [aw0, aw1, aw2, aw3, aw4, aw5, aw6, aw7, ne_eq, eq_self, implies_true, imp_self, reduceIte, reduceCtorEq, Nat.reduceAdd, Nat.reduceLT, Nat.reduceLeDiff, Nat.reduceEqDiff, Nat.reduceSub, Nat.reduceMul, Nat.reduceBEq, Int.reduceBEq, Int.reduceBNe, Int.reduceLT, Int.reduceLE, Int.reduceGT, Int.reduceGE, Int.reduceNeg, Int.reduceEq, Int.reduceNe, Int.reduceToNat, Int.reduceAdd, aconv, acvB, capR, acmpnil, appBox, storeB, ares1, appendTo, afill, aeqL, teset, callK_ret, inj_take, inj_drop, inj_agg, inj_len, inj_one, List.length_map]
    refine ACallV.mono ?_ (ACallV.of ⟨Tryz.f123, Tryz.func123, rfl, by kernel_rfl⟩ (sort_calls hx hne (by omega) (b := (h.new []).nb) (by rw [new_box, if_pos rfl])))
    rintro out h' ⟨rfl, rfl⟩
    simp only [aw0, aw1, aw2, aw3, aw4, aw5, aw6, aw7, ne_eq, eq_self, implies_true, imp_self, reduceIte, reduceCtorEq, Nat.reduceAdd, Nat.reduceLT, Nat.reduceLeDiff, Nat.reduceEqDiff, Nat.reduceSub, Nat.reduceMul, Nat.reduceBEq, Int.reduceBEq, Int.reduceBNe, Int.reduceLT, Int.reduceLE, Int.reduceGT, Int.reduceGE, Int.reduceNeg, Int.reduceEq, Int.reduceNe, Int.reduceToNat, Int.reduceAdd, aconv, acvB, capR, acmpnil, appBox, storeB, ares1, appendTo, afill, aeqL, teset, callK_ret, inj_take, inj_drop, inj_agg, inj_len, inj_one, List.length_map]
    have hcp := compact_calls (xs := sortV xs) (fun x hx2 => hx x (sortV_mem.1 hx2)) hsne (by rw [sortV_len]; omega) (b := (h.new []).nb) (h := ((h.new []).new ((xs.map inj).flatMap AV.cells)).set (h.new []).nb (((sortV xs).map inj).flatMap AV.cells)) (by rw [set_box, if_pos rfl]; rfl)
    rw [sortV_len] at hcp
    refine ACallV.mono ?_ (ACallV.of ⟨Tryz.f124, Tryz.func124, rfl, by kernel_rfl⟩ hcp)
    rintro out h' ⟨rfl, rfl⟩
    simp only [aw0, aw1, aw2, aw3, aw4, aw5, aw6, aw7, ne_eq, eq_self, implies_true, imp_self, reduceIte, reduceCtorEq, Nat.reduceAdd, Nat.reduceLT, Nat.reduceLeDiff, Nat.reduceEqDiff, Nat.reduceSub, Nat.reduceMul, Nat.reduceBEq, Int.reduceBEq, Int.reduceBNe, Int.reduceLT, Int.reduceLE, Int.reduceGT, Int.reduceGE, Int.reduceNeg, Int.reduceEq, Int.reduceNe, Int.reduceToNat, Int.reduceAdd, aconv, acvB, capR, acmpnil, appBox, storeB, ares1, appendTo, afill, aeqL, teset, callK_ret, inj_take, inj_drop, inj_agg, inj_len, inj_one, List.length_map]
    refine ACallV.mono ?_ (ACallV.of ⟨Tryz.f93, Tryz.func93, rfl, by kernel_rfl⟩ (addvalues_nil (wordsL xs) hwok (by omega) _))
    rintro out h' ⟨G, rfl, ht, hE2⟩
    have hE : h.Ext h' := (((((AH.Ext.refl h).new _).new _).set (Nat.le_succ _) _).kill (Nat.le_succ _)).trans hE2
    simp only [aw0, aw1, aw2, aw3, aw4, aw5, aw6, aw7, ne_eq, eq_self, implies_true, imp_self, reduceIte, reduceCtorEq, Nat.reduceAdd, Nat.reduceLT, Nat.reduceLeDiff, Nat.reduceEqDiff, Nat.reduceSub, Nat.reduceMul, Nat.reduceBEq, Int.reduceBEq, Int.reduceBNe, Int.reduceLT, Int.reduceLE, Int.reduceGT, Int.reduceGE, Int.reduceNeg, Int.reduceEq, Int.reduceNe, Int.reduceToNat, Int.reduceAdd, aconv, acvB, capR, acmpnil, appBox, storeB, ares1, appendTo, afill, aeqL, teset, callK_ret, inj_take, inj_drop, inj_agg, inj_len, inj_one, List.length_map]
    have ht0 : h'.tok h.nt = some G := ht
    refine ACallV.mono ?_ (ACallV.of ⟨Tryz.f32, Tryz.func32, rfl, by kernel_rfl⟩ (addnum_tok _ xs.length h.nt G (by omega) hlen0 _ ht0))
    rintro out h'' ⟨rfl, rfl⟩
    simp only [aw0, aw1, aw2, aw3, aw4, aw5, aw6, aw7, ne_eq, eq_self, implies_true, imp_self, reduceIte, reduceCtorEq, Nat.reduceAdd, Nat.reduceLT, Nat.reduceLeDiff, Nat.reduceEqDiff, Nat.reduceSub, Nat.reduceMul, Nat.reduceBEq, Int.reduceBEq, Int.reduceBNe, Int.reduceLT, Int.reduceLE, Int.reduceGT, Int.reduceGE, Int.reduceNeg, Int.reduceEq, Int.reduceNe, Int.reduceToNat, Int.reduceAdd, aconv, acvB, capR, acmpnil, appBox, storeB, ares1, appendTo, afill, aeqL, teset, callK_ret, inj_take, inj_drop, inj_agg, inj_len, inj_one, List.length_map]
    refine ⟨fun n s' h2 => ∃ (j G2 : Nat) (ys : List AV), s' 1 = .sl (.tok h.nt G2) 1 ys ∧ s' 7 = .sl .ro 5 ((wordsL xs).map inj) ∧ s' 24 = .sl .ro 5 (xs.map inj) ∧ s' 25 = .int .i64 xs.length ∧ s' 26 = .int .i64 j ∧ n + j = xs.length ∧ h.Ext h2 ∧ h2.tok h.nt = some G2 ∧ ys ++ placesA (wordsL xs) (xs.drop j) = dictA xs, ⟨xs.length, 0, G + (numA xs.length).length, numA (wordsL xs).length ++ valsA (wordsL xs) ++ numA xs.length, ?_⟩, ?_⟩
    · simp only [aw0, aw1, aw2, aw3, aw4, aw5, aw6, aw7, ne_eq, eq_self, implies_true, imp_self, reduceIte, reduceCtorEq, Nat.reduceAdd, Nat.reduceLT, Nat.reduceLeDiff, Nat.reduceEqDiff, Nat.reduceSub, Nat.reduceMul, Nat.reduceBEq, Int.reduceBEq, Int.reduceBNe, Int.reduceLT, Int.reduceLE, Int.reduceGT, Int.reduceGE, Int.reduceNeg, Int.reduceEq, Int.reduceNe, Int.reduceToNat, Int.reduceAdd, aconv, acvB, capR, acmpnil, appBox, storeB, ares1, appendTo, afill, aeqL, teset, Int.natCast_zero, List.drop_zero]
      first | exact ⟨hE.setTok (Nat.le_refl _) _, rfl⟩ | exact ⟨rfl, hE.setTok (Nat.le_refl _) _, rfl⟩
    · rintro n s' h2 ⟨j, G2, ys, e1, e7, e24, e25, e26, hn, hE3, ht3, hv⟩
      simp only [aw0, aw1, aw2, aw3, aw4, aw5, aw6, aw7, ne_eq, eq_self, implies_true, imp_self, reduceIte, reduceCtorEq, Nat.reduceAdd, Nat.reduceLT, Nat.reduceLeDiff, Nat.reduceEqDiff, Nat.reduceSub, Nat.reduceMul, Nat.reduceBEq, Int.reduceBEq, Int.reduceBNe, Int.reduceLT, Int.reduceLE, Int.reduceGT, Int.reduceGE, Int.reduceNeg, Int.reduceEq, Int.reduceNe, Int.reduceToNat, Int.reduceAdd, aconv, acvB, capR, acmpnil, appBox, storeB, ares1, appendTo, afill, aeqL, teset, e1, e7, e24, e25, e26, inj_take, inj_drop, inj_agg, inj_len, inj_one, List.length_map]
      cases hc : decide ((j : Int) < (xs.length : Int)) with
      | false =>
        simp only [aw0, aw1, aw2, aw3, aw4, aw5, aw6, aw7, ne_eq, eq_self, implies_true, imp_self, reduceIte, reduceCtorEq, Nat.reduceAdd, Nat.reduceLT, Nat.reduceLeDiff, Nat.reduceEqDiff, Nat.reduceSub, Nat.reduceMul, Nat.reduceBEq, Int.reduceBEq, Int.reduceBNe, Int.reduceLT, Int.reduceLE, Int.reduceGT, Int.reduceGE, Int.reduceNeg, Int.reduceEq, Int.reduceNe, Int.reduceToNat, Int.reduceAdd, aconv, acvB, capR, acmpnil, appBox, storeB, ares1, appendTo, afill, aeqL, teset, e1, e7, e24, e25, e26, inj_take, inj_drop, inj_agg, inj_len, inj_one, List.length_map]
        simp only [decide_eq_false_iff_not] at hc
        rw [List.drop_eq_nil_of_le (by omega)] at hv
        simp only [placesA, List.flatMap_nil, List.append_nil] at hv
        exact ⟨hE3, _, rfl, by rw [hv]; show AV.sl Tag.ro 1 (AV.eraseL (dictA xs)) = _; rw [erase_of hby]⟩
      | true =>
        simp only [decide_eq_true_eq] at hc
        have hj : j < xs.length := by omega
        have hget : (xs.map inj)[((j : Nat) : Int).toNat]? = some (inj xs[j]) := by simp [hj]
        rw [places_drop hj] at hv
        have hlen : ys.length < 1000000000 := by
          have := congrArg List.length hv
          simp only [dictA, List.length_append] at this
          omega
        simp only [aw0, aw1, aw2, aw3, aw4, aw5, aw6, aw7, ne_eq, eq_self, implies_true, imp_self, reduceIte, reduceCtorEq, Nat.reduceAdd, Nat.reduceLT, Nat.reduceLeDiff, Nat.reduceEqDiff, Nat.reduceSub, Nat.reduceMul, Nat.reduceBEq, Int.reduceBEq, Int.reduceBNe, Int.reduceLT, Int.reduceLE, Int.reduceGT, Int.reduceGE, Int.reduceNeg, Int.reduceEq, Int.reduceNe, Int.reduceToNat, Int.reduceAdd, aconv, acvB, capR, acmpnil, appBox, storeB, ares1, appendTo, afill, aeqL, teset, e1, e7, e24, e25, e26, inj_take, inj_drop, inj_agg, inj_len, inj_one, List.length_map, boxR, hget, Int.natCast_nonneg]
        refine ACallV.pure (searchV_pure (wordsL xs) xs[j] hws hwok (hx _ (List.getElem_mem hj)) (by omega)) ?_
        simp only [aw0, aw1, aw2, aw3, aw4, aw5, aw6, aw7, ne_eq, eq_self, implies_true, imp_self, reduceIte, reduceCtorEq, Nat.reduceAdd, Nat.reduceLT, Nat.reduceLeDiff, Nat.reduceEqDiff, Nat.reduceSub, Nat.reduceMul, Nat.reduceBEq, Int.reduceBEq, Int.reduceBNe, Int.reduceLT, Int.reduceLE, Int.reduceGT, Int.reduceGE, Int.reduceNeg, Int.reduceEq, Int.reduceNe, Int.reduceToNat, Int.reduceAdd, aconv, acvB, capR, acmpnil, appBox, storeB, ares1, appendTo, afill, aeqL, teset, e1, e7, e24, e25, e26, inj_take, inj_drop, inj_agg, inj_len, inj_one, List.length_map, boxR]
        have hk : ((h2.new [AV.int IntKind.i64 0, AV.int IntKind.i64 0, AV.str { data := #[] }, AV.sl Tag.full 0 [], AV.sl Tag.full 0 []]).set h2.nb (inj xs[j]).cells).tok h.nt = some G2 := ht3
        have hlb := lbV_le (wordsL xs) xs[j]
        refine ACallV.mono ?_ (ACallV.of ⟨Tryz.f32, Tryz.func32, rfl, by kernel_rfl⟩ (addnum_tok ys (lbV (wordsL xs) xs[j]) h.nt G2 (by omega) hlen _ hk))
        rintro out h3 ⟨rfl, rfl⟩
        simp only [aw0, aw1, aw2, aw3, aw4, aw5, aw6, aw7, ne_eq, eq_self, implies_true, imp_self, reduceIte, reduceCtorEq, Nat.reduceAdd, Nat.reduceLT, Nat.reduceLeDiff, Nat.reduceEqDiff, Nat.reduceSub, Nat.reduceMul, Nat.reduceBEq, Int.reduceBEq, Int.reduceBNe, Int.reduceLT, Int.reduceLE, Int.reduceGT, Int.reduceGE, Int.reduceNeg, Int.reduceEq, Int.reduceNe, Int.reduceToNat, Int.reduceAdd, aconv, acvB, capR, acmpnil, appBox, storeB, ares1, appendTo, afill, aeqL, teset, callK_ret, e1, e7, e24, e25, e26]
        refine ⟨n - 1, by omega, j + 1, _, ys ++ numA (lbV (wordsL xs) xs[j]), rfl, by rw [wrap_succ (by omega)], by omega, ((hE3.new _).set hE3.nb _).setTok (Nat.le_refl _) _, rfl, by rw [List.append_assoc]; exact hv⟩
end Go.Proofs.YtlbhgoffiigfbaaGreat.AW
end
section
set_option linter.unusedSimpArgs false
set_option linter.unusedVariables false
namespace Go.Proofs.YtlbhgoffiigfbaaGreat.AW
open Go Go.RowKit

def BY (l : List AV) : Prop := ∀ x ∈ l, ∃ k : Nat, k < 256 ∧ x = .int .u8 (k : Int)
theorem BY.app {a b : List AV} (ha : BY a) (hb : BY b) : BY (a ++ b) := fun x hx => (List.mem_append.1 hx).elim (ha x) (hb x)
theorem BY.flat {α : Type} {f : α → List AV} (hf : ∀ x, BY (f x)) (l : List α) : BY (l.flatMap f) := by
  intro x hx
  obtain ⟨y, _, h⟩ := List.mem_flatMap.1 hx
  exact hf y x h
theorem BY.nil : BY [] := fun x hx => by cases hx
theorem wrap_byte (z : Int) : ∃ k : Nat, k < 256 ∧ AV.int .u8 (IntKind.u8.wrap z) = .int .u8 (k : Int) := by
  have h : 0 ≤ IntKind.u8.wrap z ∧ IntKind.u8.wrap z < 256 := by
    simp only [IntKind.wrap, IntKind.bits, IntKind.signed, Bool.false_and, Bool.false_eq_true, if_false]
    omega
  exact ⟨(IntKind.u8.wrap z).toNat, by omega, by rw [Int.toNat_of_nonneg h.1]⟩
theorem BY.num (n : Nat) : BY (numA n) := by
  intro x hx
  unfold numA at hx
  obtain ⟨k, hk, rfl⟩ := List.mem_map.1 hx
  exact ⟨k, numL_lt n k hk, rfl⟩
theorem BY.str (s : ByteArray) : BY (strA s) := by
  unfold strA
  refine BY.app (BY.num _) (fun x hx => ?_)
  obtain ⟨b, _, rfl⟩ := List.mem_map.1 hx
  exact ⟨b.toNat, b.toNat_lt, rfl⟩
theorem BY.one (z : Int) : BY [.int .u8 (IntKind.u8.wrap z)] := by
  intro x hx
  rw [List.mem_singleton] at hx
  subst hx
  exact wrap_byte z
mutual
theorem BY.val : ∀ (v : V), BY (valA v)
  | .mk k i t xs ks => by
    rw [valA, ← List.singleton_append]
    refine BY.app (BY.one k) ?_
    split
    · exact BY.one i
    · split
      · exact BY.num _
      · split
        · exact BY.str _
        · split
          · exact BY.app (BY.num _) (BY.valL _ xs ks)
          · exact BY.nil
theorem BY.valL : ∀ (obj : Bool) (xs : List V) (ks : List ByteArray), BY (AW.valL obj xs ks)
  | true, [], _ => by simp only [AW.valL]; exact BY.nil
  | false, [], _ => by simp only [AW.valL]; exact BY.nil
  | true, v :: xs, k :: ks => by rw [AW.valL]; exact BY.app (BY.str _) (BY.app (BY.val v) (BY.valL true xs ks))
  | true, _ :: _, [] => by simp only [AW.valL]; exact BY.nil
  | false, v :: xs, ks => by rw [AW.valL]; exact BY.app (BY.val v) (BY.valL false xs ks)
end
theorem BY.vals (xs : List V) : BY (valsA xs) := BY.flat BY.val xs
theorem BY.plain (xs : List V) : BY (plainA xs) := BY.app (BY.num _) (BY.vals _)
theorem BY.runs (xs : List V) : BY (runsA xs) := BY.app (BY.num _) (BY.flat (fun p => BY.app (BY.num _) (BY.val _)) _)
theorem BY.dict (xs : List V) : BY (dictA xs) := BY.app (BY.app (BY.app (BY.num _) (BY.vals _)) (BY.num _)) (BY.flat (fun v => BY.num _) _)
theorem BY.deltaL : ∀ (xs : List V) (p : Int), BY (deltaL p xs)
  | [], _ => by simp only [AW.deltaL]; exact BY.nil
  | v :: xs, p => by rw [AW.deltaL]; exact BY.app (BY.num _) (BY.deltaL xs _)
theorem BY.delta (xs : List V) : BY (deltaA xs) := BY.app (BY.num _) (BY.deltaL _ _)
def asB (l : List AV) : List UInt8 := (avB l).getD []
theorem BY.avB : ∀ {l : List AV}, BY l → AW.avB l = some (asB l)
  | [], _ => rfl
  | x :: l, h => by
    obtain ⟨k, hk, rfl⟩ := h x List.mem_cons_self
    have ih := BY.avB (l := l) (fun z hz => h z (List.mem_cons_of_mem _ hz))
    have hb : 0 ≤ (k : Int) ∧ (k : Int) < 256 := by omega
    unfold asB
    simp only [AW.avB, if_pos hb, ih, Option.getD_some]
theorem BY.cells : ∀ {l : List AV}, BY l → l.flatMap AV.cells = l
  | [], _ => rfl
  | x :: l, h => by
    obtain ⟨k, hk, rfl⟩ := h x List.mem_cons_self
    rw [List.flatMap_cons, BY.cells (l := l) (fun z hz => h z (List.mem_cons_of_mem _ hz))]
    rfl
theorem BY.len {l : List AV} (h : BY l) : (asB l).length = l.length := (avB_spec h.avB).1.symm
/-- The bytes in an encoding. -/
def encA (e : Nat) (xs : List V) : List AV := if e = 1 then plainA xs else if e = 2 then runsA xs else if e = 3 then dictA xs else deltaA xs
theorem BY.enc (e : Nat) (xs : List V) : BY (encA e xs) := by
  unfold encA
  split
  · exact BY.plain xs
  · split
    · exact BY.runs xs
    · split
      · exact BY.dict xs
      · exact BY.delta xs
def encS (e : Nat) (xs : List V) : ByteArray := ⟨⟨asB (encA e xs)⟩⟩
def canL (e : Nat) (xs : List V) : Bool := if e = 4 then intsL xs else true
theorem encS_size (e : Nat) (xs : List V) : (encS e xs).size = (encA e xs).length := (BY.enc e xs).len
end Go.Proofs.YtlbhgoffiigfbaaGreat.AW
end
section
set_option linter.unusedSimpArgs false
set_option linter.unusedVariables false
namespace Go.Proofs.YtlbhgoffiigfbaaGreat.AW
open Go Go.RowKit

def sB (l : List AV) : ByteArray := ⟨⟨asB l⟩⟩
theorem asB_cons (k : Nat) (hk : k < 256) {a : List AV} (ha : BY a) : asB (AV.int .u8 k :: a) = UInt8.ofNat k :: asB a := by
  have h2 := ha.avB
  have hb : 0 ≤ (k : Int) ∧ (k : Int) < 256 := by omega
  have : avB (AV.int .u8 k :: a) = some (UInt8.ofNat k :: asB a) := by
    simp only [avB, if_pos hb, h2, Option.map_some, Int.toNat_natCast]
  show (avB (AV.int .u8 k :: a)).getD [] = _
  rw [this]; rfl
theorem asB_app : ∀ {a b : List AV}, BY a → BY b → asB (a ++ b) = asB a ++ asB b
  | [], b, _, _ => rfl
  | x :: a, b, ha, hb0 => by
    obtain ⟨k, hk, rfl⟩ := ha x List.mem_cons_self
    have ha' : BY a := fun z hz => ha z (List.mem_cons_of_mem _ hz)
    have ih := asB_app ha' hb0
    have e1 := asB_cons k hk ha'
    have e2 := asB_cons k hk (BY.app ha' hb0)
    rw [List.cons_append, e1, e2, ih]
    rfl
theorem ba_app (a b : List UInt8) : (⟨⟨a⟩⟩ : ByteArray) ++ ⟨⟨b⟩⟩ = ⟨⟨a ++ b⟩⟩ := by
  apply ByteArray.ext
  rw [ByteArray.data_append]
  simp
theorem sB_app {a b : List AV} (ha : BY a) (hb : BY b) : sB a ++ sB b = sB (a ++ b) := by
  unfold sB
  rw [ba_app, asB_app ha hb]
theorem sB_size {a : List AV} (ha : BY a) : (sB a).size = a.length := ha.len
theorem sB_num (n : Nat) : numS n = sB (numA n) := by
  unfold numS sB asB
  rw [numA_str]; rfl
theorem sB_raw (l : List UInt8) : sB (l.map fun (b : UInt8) => AV.int .u8 (b.toNat : Int)) = ⟨⟨l⟩⟩ := by
  unfold sB
  congr 2
  induction l with
  | nil => rfl
  | cons b l ih =>
    have hb : 0 ≤ ((b.toNat : Nat) : Int) ∧ ((b.toNat : Nat) : Int) < 256 := by have := b.toNat_lt; omega
    have hB : BY (l.map fun (b : UInt8) => AV.int .u8 (b.toNat : Int)) := by
      intro x hx
      obtain ⟨c, _, rfl⟩ := List.mem_map.1 hx
      exact ⟨c.toNat, c.toNat_lt, rfl⟩
    rw [List.map_cons, asB_cons _ b.toNat_lt hB]
    show _ :: asB _ = _
    rw [show asB (List.map (fun b => AV.int .u8 ↑b.toNat) l) = l from by simpa using ih]
    simp
theorem sB_str (s : ByteArray) : numS s.size ++ s = sB (strA s) := by
  have h1 : BY (s.data.toList.map fun (b : UInt8) => AV.int .u8 (b.toNat : Int)) := by
    intro x hx
    obtain ⟨c, _, rfl⟩ := List.mem_map.1 hx
    exact ⟨c.toNat, c.toNat_lt, rfl⟩
  unfold strA
  rw [← sB_app (BY.num _) h1, sB_raw, sB_num]
theorem refint_pure (i : Int) (h1 : -1000000000000000000 ≤ i) (h2 : i ≤ 1000000000000000000) : Pure Tryz.prog 51 [.int .i64 i] (.str (sB (numA (zig i)))) := by
  have hz := zig_lt h1 h2
  refine Pure.of ⟨Tryz.f51, Tryz.func51, rfl, by kernel_rfl⟩ rfl (fun h => ?_)
  refine acalls_of te_ok [] Tryz.func51 (c := _) rfl (Nat.le_of_ble_eq_true rfl) ?_
  simp only [aw0, aw1, aw2, aw3, aw4, aw5, aw6, aw7, ne_eq, eq_self, implies_true, imp_self, reduceIte, reduceCtorEq, Nat.reduceAdd, Nat.reduceLT, Nat.reduceLeDiff, Nat.reduceEqDiff, Nat.reduceSub, Nat.reduceMul, Nat.reduceBEq, Int.reduceBEq, Int.reduceBNe, Int.reduceLT, Int.reduceLE, Int.reduceGT, Int.reduceGE, Int.reduceNeg, Int.reduceEq, Int.reduceNe, Int.reduceToNat, Int.reduceAdd, aconv, acvB, capR, acmpnil, appBox, storeB, ares1, appendTo, afill, aeqL, teset, Tryz.ntmps51, Tryz.results51]
  cases hc : decide (i < 0) with
  | true =>
    simp only [decide_eq_true_eq] at hc
    have e : IntKind.i64.wrap (IntKind.i64.wrap (-2 * i) - 1) = ((zig i : Nat) : Int) := by
      rw [wrapS (n := -2 * i) (by omega) (by omega), wrapS (by omega) (by omega)]
      unfold zig; rw [if_pos hc]; omega
    simp only [aw0, aw1, aw2, aw3, aw4, aw5, aw6, aw7, ne_eq, eq_self, implies_true, imp_self, reduceIte, reduceCtorEq, Nat.reduceAdd, Nat.reduceLT, Nat.reduceLeDiff, Nat.reduceEqDiff, Nat.reduceSub, Nat.reduceMul, Nat.reduceBEq, Int.reduceBEq, Int.reduceBNe, Int.reduceLT, Int.reduceLE, Int.reduceGT, Int.reduceGE, Int.reduceNeg, Int.reduceEq, Int.reduceNe, Int.reduceToNat, Int.reduceAdd, aconv, acvB, capR, acmpnil, appBox, storeB, ares1, appendTo, afill, aeqL, teset, e]
    refine ACallV.pure (count_pure (zig i) hz) ?_
    simp only [aw0, aw1, aw2, aw3, aw4, aw5, aw6, aw7, ne_eq, eq_self, implies_true, imp_self, reduceIte, reduceCtorEq, Nat.reduceAdd, Nat.reduceLT, Nat.reduceLeDiff, Nat.reduceEqDiff, Nat.reduceSub, Nat.reduceMul, Nat.reduceBEq, Int.reduceBEq, Int.reduceBNe, Int.reduceLT, Int.reduceLE, Int.reduceGT, Int.reduceGE, Int.reduceNeg, Int.reduceEq, Int.reduceNe, Int.reduceToNat, Int.reduceAdd, aconv, acvB, capR, acmpnil, appBox, storeB, ares1, appendTo, afill, aeqL, teset]
    exact ⟨.refl _, _, rfl, by rw [sB_num]; rfl⟩
  | false =>
    simp only [decide_eq_false_iff_not] at hc
    have e : IntKind.i64.wrap (2 * i) = ((zig i : Nat) : Int) := by
      rw [wrapS (by omega) (by omega)]
      unfold zig; rw [if_neg hc]; omega
    simp only [aw0, aw1, aw2, aw3, aw4, aw5, aw6, aw7, ne_eq, eq_self, implies_true, imp_self, reduceIte, reduceCtorEq, Nat.reduceAdd, Nat.reduceLT, Nat.reduceLeDiff, Nat.reduceEqDiff, Nat.reduceSub, Nat.reduceMul, Nat.reduceBEq, Int.reduceBEq, Int.reduceBNe, Int.reduceLT, Int.reduceLE, Int.reduceGT, Int.reduceGE, Int.reduceNeg, Int.reduceEq, Int.reduceNe, Int.reduceToNat, Int.reduceAdd, aconv, acvB, capR, acmpnil, appBox, storeB, ares1, appendTo, afill, aeqL, teset, e]
    refine ACallV.pure (count_pure (zig i) hz) ?_
    simp only [aw0, aw1, aw2, aw3, aw4, aw5, aw6, aw7, ne_eq, eq_self, implies_true, imp_self, reduceIte, reduceCtorEq, Nat.reduceAdd, Nat.reduceLT, Nat.reduceLeDiff, Nat.reduceEqDiff, Nat.reduceSub, Nat.reduceMul, Nat.reduceBEq, Int.reduceBEq, Int.reduceBNe, Int.reduceLT, Int.reduceLE, Int.reduceGT, Int.reduceGE, Int.reduceNeg, Int.reduceEq, Int.reduceNe, Int.reduceToNat, Int.reduceAdd, aconv, acvB, capR, acmpnil, appBox, storeB, ares1, appendTo, afill, aeqL, teset]
    exact ⟨.refl _, _, rfl, by rw [sB_num]; rfl⟩
theorem refstr_pure (s : ByteArray) (hs : s.size < 1000000000) : Pure Tryz.prog 62 [.str s] (.str (sB (strA s))) := by
  have hsz : (numS s.size).size + s.size ≤ 9223372036854775807 := by
    rw [sB_num, sB_size (BY.num _)]
    have := numA_len s.size (by omega)
    omega
  refine Pure.of ⟨Tryz.f62, Tryz.func62, rfl, by kernel_rfl⟩ rfl (fun h => ?_)
  refine acalls_of te_ok [] Tryz.func62 (c := _) rfl (Nat.le_of_ble_eq_true rfl) ?_
  simp only [aw0, aw1, aw2, aw3, aw4, aw5, aw6, aw7, ne_eq, eq_self, implies_true, imp_self, reduceIte, reduceCtorEq, Nat.reduceAdd, Nat.reduceLT, Nat.reduceLeDiff, Nat.reduceEqDiff, Nat.reduceSub, Nat.reduceMul, Nat.reduceBEq, Int.reduceBEq, Int.reduceBNe, Int.reduceLT, Int.reduceLE, Int.reduceGT, Int.reduceGE, Int.reduceNeg, Int.reduceEq, Int.reduceNe, Int.reduceToNat, Int.reduceAdd, aconv, acvB, capR, acmpnil, appBox, storeB, ares1, appendTo, afill, aeqL, teset, Tryz.ntmps62, Tryz.results62]
  refine ACallV.pure (count_pure s.size (by omega)) ?_
  simp only [aw0, aw1, aw2, aw3, aw4, aw5, aw6, aw7, ne_eq, eq_self, implies_true, imp_self, reduceIte, reduceCtorEq, Nat.reduceAdd, Nat.reduceLT, Nat.reduceLeDiff, Nat.reduceEqDiff, Nat.reduceSub, Nat.reduceMul, Nat.reduceBEq, Int.reduceBEq, Int.reduceBNe, Int.reduceLT, Int.reduceLE, Int.reduceGT, Int.reduceGE, Int.reduceNeg, Int.reduceEq, Int.reduceNe, Int.reduceToNat, Int.reduceAdd, aconv, acvB, capR, acmpnil, appBox, storeB, ares1, appendTo, afill, aeqL, teset, abin_str, astr, hsz]
  exact ⟨.refl _, _, rfl, by rw [sB_str]; rfl⟩
end Go.Proofs.YtlbhgoffiigfbaaGreat.AW
end
section
set_option linter.unusedSimpArgs false
set_option linter.unusedVariables false
namespace Go.Proofs.YtlbhgoffiigfbaaGreat.AW
open Go Go.RowKit

theorem valA_head (k i : Int) (t : ByteArray) (xs : List V) (ks : List ByteArray) : valA (.mk k i t xs ks) = [.int .u8 (IntKind.u8.wrap k)] ++ (if k = 1 then [.int .u8 (IntKind.u8.wrap i)] else if k = 2 then numA (zig i) else if k = 3 then strA t else if k = 4 ∨ k = 5 then numA xs.length ++ valL (k == 5) xs ks else []) := by rw [valA]; rfl
theorem cells1 (x : AV) (k : IntKind) (n : Int) (h : x = .int k n) : [x].flatMap AV.cells = [x] := by subst h; rfl
theorem catB {a b : List AV} (ha : BY a) (hb : BY b) (hl : a.length + b.length ≤ 1000000) : (sB a).size + (sB b).size ≤ 9223372036854775807 := by
  rw [sB_size ha, sB_size hb]; omega
set_option maxHeartbeats 4000000 in
theorem refvalue_pure : ∀ (v : V), Vok v → Pure Tryz.prog 49 [inj v] (.str (sB (valA v))) := by
  intro v
  induction v using V.ind with
  | h k i t xs ks ih =>
    intro hv
    have hsh := (Vok.shape hv).1
    obtain ⟨hi, ht, hkz⟩ := shape_small hsh
    have htwo := shape_two hsh
    have hxl := (Vok.shape hv).2
    have hkl := (Vok.keys hv).1
    have hxi := Vok.items hv
    have hvl := hv.valA_len
    simp only [V.kind, V.keys, V.items] at hxl hkl hxi
    have hone := BY.one k
    have hav : avB [AV.int .u8 (IntKind.u8.wrap k)] = some (asB [AV.int .u8 (IntKind.u8.wrap k)]) := hone.avB
    have hci : ([AV.int .u8 (IntKind.u8.wrap k)] : List AV).flatMap AV.cells = [.int .u8 (IntKind.u8.wrap k)] := rfl
    have hs0 : (⟨⟨asB [AV.int .u8 (IntKind.u8.wrap k)]⟩⟩ : ByteArray) = sB [.int .u8 (IntKind.u8.wrap k)] := rfl
    rw [inj_mk]
    refine Pure.of ⟨Tryz.f49, Tryz.func49, rfl, by kernel_rfl⟩ rfl (fun h => ?_)
    refine acalls_of te_ok [] Tryz.func49 (c := _) rfl (Nat.le_of_ble_eq_true rfl) ?_
    simp only [aw0, aw1, aw2, aw3, aw4, aw5, aw6, aw7, ne_eq, eq_self, implies_true, imp_self, reduceIte, reduceCtorEq, Nat.reduceAdd, Nat.reduceLT, Nat.reduceLeDiff, Nat.reduceEqDiff, Nat.reduceSub, Nat.reduceMul, Nat.reduceBEq, Int.reduceBEq, Int.reduceBNe, Int.reduceLT, Int.reduceLE, Int.reduceGT, Int.reduceGE, Int.reduceNeg, Int.reduceEq, Int.reduceNe, Int.reduceToNat, Int.reduceAdd, aconv, acvB, capR, acmpnil, appBox, storeB, ares1, appendTo, afill, aeqL, teset, Tryz.ntmps49, Tryz.results49, boxR, inj_take, inj_drop, inj_agg, inj_len, inj_one, List.length_map, cellsOf, or_true, hci, hav, hs0, range1]
    have hvh := valA_head k i t xs ks
    cases h1 : (k == 1) with
    | true =>
      have hk : k = 1 := by simpa using h1
      have hone2 := BY.one i
      have hav2 : avB [AV.int .u8 (IntKind.u8.wrap i)] = some (asB [AV.int .u8 (IntKind.u8.wrap i)]) := hone2.avB
      have hci2 : ([AV.int .u8 (IntKind.u8.wrap i)] : List AV).flatMap AV.cells = [.int .u8 (IntKind.u8.wrap i)] := rfl
      have hs2 : (⟨⟨asB [AV.int .u8 (IntKind.u8.wrap i)]⟩⟩ : ByteArray) = sB [.int .u8 (IntKind.u8.wrap i)] := rfl
      have hcat := catB hone hone2 (by simp)
      simp only [aw0, aw1, aw2, aw3, aw4, aw5, aw6, aw7, ne_eq, eq_self, implies_true, imp_self, reduceIte, reduceCtorEq, Nat.reduceAdd, Nat.reduceLT, Nat.reduceLeDiff, Nat.reduceEqDiff, Nat.reduceSub, Nat.reduceMul, Nat.reduceBEq, Int.reduceBEq, Int.reduceBNe, Int.reduceLT, Int.reduceLE, Int.reduceGT, Int.reduceGE, Int.reduceNeg, Int.reduceEq, Int.reduceNe, Int.reduceToNat, Int.reduceAdd, aconv, acvB, capR, acmpnil, appBox, storeB, ares1, appendTo, afill, aeqL, teset, boxR, inj_take, inj_drop, inj_agg, inj_len, inj_one, List.length_map, cellsOf, or_true, hci2, hav2, hs2, range1, abin_str, astr, hcat]
      refine ⟨by (repeat (first | exact AH.Ext.refl _ | assumption | refine AH.Ext.set ?_ (by first | omega | (simp only [new_nb, set_nb, kill_nb, newTok_nb, setTok_nb]; omega)) _ | refine AH.Ext.new ?_ _)), _, rfl, ?_⟩
      rw [sB_app hone hone2, hvh, if_pos hk]; rfl
    | false =>
      have hk1 : k ≠ 1 := by simpa using h1
      simp only [aw0, aw1, aw2, aw3, aw4, aw5, aw6, aw7, ne_eq, eq_self, implies_true, imp_self, reduceIte, reduceCtorEq, Nat.reduceAdd, Nat.reduceLT, Nat.reduceLeDiff, Nat.reduceEqDiff, Nat.reduceSub, Nat.reduceMul, Nat.reduceBEq, Int.reduceBEq, Int.reduceBNe, Int.reduceLT, Int.reduceLE, Int.reduceGT, Int.reduceGE, Int.reduceNeg, Int.reduceEq, Int.reduceNe, Int.reduceToNat, Int.reduceAdd, aconv, acvB, capR, acmpnil, appBox, storeB, ares1, appendTo, afill, aeqL, teset]
      cases h2 : (k == 2) with
      | true =>
        have hk : k = 2 := by simpa using h2
        have hcat := catB hone (BY.num (zig i)) (by have := numA_len (zig i) (zig_lt (by omega) (by omega)); simp; omega)
        simp only [aw0, aw1, aw2, aw3, aw4, aw5, aw6, aw7, ne_eq, eq_self, implies_true, imp_self, reduceIte, reduceCtorEq, Nat.reduceAdd, Nat.reduceLT, Nat.reduceLeDiff, Nat.reduceEqDiff, Nat.reduceSub, Nat.reduceMul, Nat.reduceBEq, Int.reduceBEq, Int.reduceBNe, Int.reduceLT, Int.reduceLE, Int.reduceGT, Int.reduceGE, Int.reduceNeg, Int.reduceEq, Int.reduceNe, Int.reduceToNat, Int.reduceAdd, aconv, acvB, capR, acmpnil, appBox, storeB, ares1, appendTo, afill, aeqL, teset, boxR]
        refine ACallV.pure (refint_pure i (by omega) (by omega)) ?_
        simp only [aw0, aw1, aw2, aw3, aw4, aw5, aw6, aw7, ne_eq, eq_self, implies_true, imp_self, reduceIte, reduceCtorEq, Nat.reduceAdd, Nat.reduceLT, Nat.reduceLeDiff, Nat.reduceEqDiff, Nat.reduceSub, Nat.reduceMul, Nat.reduceBEq, Int.reduceBEq, Int.reduceBNe, Int.reduceLT, Int.reduceLE, Int.reduceGT, Int.reduceGE, Int.reduceNeg, Int.reduceEq, Int.reduceNe, Int.reduceToNat, Int.reduceAdd, aconv, acvB, capR, acmpnil, appBox, storeB, ares1, appendTo, afill, aeqL, teset, abin_str, astr, hcat]
        refine ⟨by (repeat (first | exact AH.Ext.refl _ | assumption | refine AH.Ext.set ?_ (by first | omega | (simp only [new_nb, set_nb, kill_nb, newTok_nb, setTok_nb]; omega)) _ | refine AH.Ext.new ?_ _)), _, rfl, ?_⟩
        rw [sB_app hone (BY.num _), hvh, if_neg hk1, if_pos hk]; rfl
      | false =>
        have hk2 : k ≠ 2 := by simpa using h2
        simp only [aw0, aw1, aw2, aw3, aw4, aw5, aw6, aw7, ne_eq, eq_self, implies_true, imp_self, reduceIte, reduceCtorEq, Nat.reduceAdd, Nat.reduceLT, Nat.reduceLeDiff, Nat.reduceEqDiff, Nat.reduceSub, Nat.reduceMul, Nat.reduceBEq, Int.reduceBEq, Int.reduceBNe, Int.reduceLT, Int.reduceLE, Int.reduceGT, Int.reduceGE, Int.reduceNeg, Int.reduceEq, Int.reduceNe, Int.reduceToNat, Int.reduceAdd, aconv, acvB, capR, acmpnil, appBox, storeB, ares1, appendTo, afill, aeqL, teset]
        cases h3 : (k == 3) with
        | true =>
          have hk : k = 3 := by simpa using h3
          have hcat := catB hone (BY.str t) (by have := strA_len t ht; simp; omega)
          simp only [aw0, aw1, aw2, aw3, aw4, aw5, aw6, aw7, ne_eq, eq_self, implies_true, imp_self, reduceIte, reduceCtorEq, Nat.reduceAdd, Nat.reduceLT, Nat.reduceLeDiff, Nat.reduceEqDiff, Nat.reduceSub, Nat.reduceMul, Nat.reduceBEq, Int.reduceBEq, Int.reduceBNe, Int.reduceLT, Int.reduceLE, Int.reduceGT, Int.reduceGE, Int.reduceNeg, Int.reduceEq, Int.reduceNe, Int.reduceToNat, Int.reduceAdd, aconv, acvB, capR, acmpnil, appBox, storeB, ares1, appendTo, afill, aeqL, teset, boxR]
          refine ACallV.pure (refstr_pure t (by omega)) ?_
          simp only [aw0, aw1, aw2, aw3, aw4, aw5, aw6, aw7, ne_eq, eq_self, implies_true, imp_self, reduceIte, reduceCtorEq, Nat.reduceAdd, Nat.reduceLT, Nat.reduceLeDiff, Nat.reduceEqDiff, Nat.reduceSub, Nat.reduceMul, Nat.reduceBEq, Int.reduceBEq, Int.reduceBNe, Int.reduceLT, Int.reduceLE, Int.reduceGT, Int.reduceGE, Int.reduceNeg, Int.reduceEq, Int.reduceNe, Int.reduceToNat, Int.reduceAdd, aconv, acvB, capR, acmpnil, appBox, storeB, ares1, appendTo, afill, aeqL, teset, abin_str, astr, hcat]
          refine ⟨by (repeat (first | exact AH.Ext.refl _ | assumption | refine AH.Ext.set ?_ (by first | omega | (simp only [new_nb, set_nb, kill_nb, newTok_nb, setTok_nb]; omega)) _ | refine AH.Ext.new ?_ _)), _, rfl, ?_⟩
          rw [sB_app hone (BY.str _), hvh, if_neg hk1, if_neg hk2, if_pos hk]; rfl
        | false =>
          have hk3 : k ≠ 3 := by simpa using h3
          have hcat := catB hone (BY.num xs.length) (by have := numA_len xs.length (by omega); simp; omega)
          have hst4 : k = 4 ∨ k = 5 → ∃ ys0, sB ys0 = sB [AV.int .u8 (IntKind.u8.wrap k)] ++ sB (numA xs.length) ∧ BY ys0 ∧ ys0 ++ valL (k == 5) xs ks = valA (.mk k i t xs ks) := fun hk => ⟨_, (sB_app hone (BY.num _)).symm, BY.app hone (BY.num _), by rw [hvh, if_neg hk1, if_neg hk2, if_neg hk3, if_pos hk, List.append_assoc]⟩
          simp only [aw0, aw1, aw2, aw3, aw4, aw5, aw6, aw7, ne_eq, eq_self, implies_true, imp_self, reduceIte, reduceCtorEq, Nat.reduceAdd, Nat.reduceLT, Nat.reduceLeDiff, Nat.reduceEqDiff, Nat.reduceSub, Nat.reduceMul, Nat.reduceBEq, Int.reduceBEq, Int.reduceBNe, Int.reduceLT, Int.reduceLE, Int.reduceGT, Int.reduceGE, Int.reduceNeg, Int.reduceEq, Int.reduceNe, Int.reduceToNat, Int.reduceAdd, aconv, acvB, capR, acmpnil, appBox, storeB, ares1, appendTo, afill, aeqL, teset]
          cases h4 : (k == 4) with
          | true =>
            obtain ⟨ys0, q1, q2, q3⟩ := hst4 (.inl (by simpa using h4))
            simp only [aw0, aw1, aw2, aw3, aw4, aw5, aw6, aw7, ne_eq, eq_self, implies_true, imp_self, reduceIte, reduceCtorEq, Nat.reduceAdd, Nat.reduceLT, Nat.reduceLeDiff, Nat.reduceEqDiff, Nat.reduceSub, Nat.reduceMul, Nat.reduceBEq, Int.reduceBEq, Int.reduceBNe, Int.reduceLT, Int.reduceLE, Int.reduceGT, Int.reduceGE, Int.reduceNeg, Int.reduceEq, Int.reduceNe, Int.reduceToNat, Int.reduceAdd, aconv, acvB, capR, acmpnil, appBox, storeB, ares1, appendTo, afill, aeqL, teset, boxR, inj_take, inj_drop, inj_agg, inj_len, inj_one, List.length_map]
            refine ACallV.pure (count_pure xs.length (by omega)) ?_
            simp only [aw0, aw1, aw2, aw3, aw4, aw5, aw6, aw7, ne_eq, eq_self, implies_true, imp_self, reduceIte, reduceCtorEq, Nat.reduceAdd, Nat.reduceLT, Nat.reduceLeDiff, Nat.reduceEqDiff, Nat.reduceSub, Nat.reduceMul, Nat.reduceBEq, Int.reduceBEq, Int.reduceBNe, Int.reduceLT, Int.reduceLE, Int.reduceGT, Int.reduceGE, Int.reduceNeg, Int.reduceEq, Int.reduceNe, Int.reduceToNat, Int.reduceAdd, aconv, acvB, capR, acmpnil, appBox, storeB, ares1, appendTo, afill, aeqL, teset, sB_num, abin_str, astr, hcat]
            refine ⟨fun n s' h' => ∃ (j : Nat) (ys : List AV), s' 1 = .ptr h.nb 0 ∧ s' 3 = .str (sB ys) ∧ s' 4 = .int .i64 j ∧ h' = h.new [.int .i64 k, .int .i64 i, .str t, .sl .ro 5 (List.map inj xs), .sl .ro 1 (List.map AV.str ks)] ∧ n + j = xs.length ∧ BY ys ∧ ys ++ valL (k == 5) (xs.drop j) (ks.drop j) = valA (.mk k i t xs ks), ⟨xs.length, 0, ys0, ?_⟩, ?_⟩
            · simp only [aw0, aw1, aw2, aw3, aw4, aw5, aw6, aw7, ne_eq, eq_self, implies_true, imp_self, reduceIte, reduceCtorEq, Nat.reduceAdd, Nat.reduceLT, Nat.reduceLeDiff, Nat.reduceEqDiff, Nat.reduceSub, Nat.reduceMul, Nat.reduceBEq, Int.reduceBEq, Int.reduceBNe, Int.reduceLT, Int.reduceLE, Int.reduceGT, Int.reduceGE, Int.reduceNeg, Int.reduceEq, Int.reduceNe, Int.reduceToNat, Int.reduceAdd, aconv, acvB, capR, acmpnil, appBox, storeB, ares1, appendTo, afill, aeqL, teset, Int.natCast_zero, List.drop_zero, q1, q2, q3]
              first | done | exact ⟨rfl, rfl⟩ | rfl
            · rintro n s' h' ⟨j, ys, e1, e3, e4, hh, hn, hys, hv⟩
              subst hh
              simp only [aw0, aw1, aw2, aw3, aw4, aw5, aw6, aw7, ne_eq, eq_self, implies_true, imp_self, reduceIte, reduceCtorEq, Nat.reduceAdd, Nat.reduceLT, Nat.reduceLeDiff, Nat.reduceEqDiff, Nat.reduceSub, Nat.reduceMul, Nat.reduceBEq, Int.reduceBEq, Int.reduceBNe, Int.reduceLT, Int.reduceLE, Int.reduceGT, Int.reduceGE, Int.reduceNeg, Int.reduceEq, Int.reduceNe, Int.reduceToNat, Int.reduceAdd, aconv, acvB, capR, acmpnil, appBox, storeB, ares1, appendTo, afill, aeqL, teset, e1, e3, e4, inj_take, inj_drop, inj_agg, inj_len, inj_one, List.length_map, boxR]
              cases hc : decide ((j : Int) < (xs.length : Int)) with
              | false =>
                simp only [aw0, aw1, aw2, aw3, aw4, aw5, aw6, aw7, ne_eq, eq_self, implies_true, imp_self, reduceIte, reduceCtorEq, Nat.reduceAdd, Nat.reduceLT, Nat.reduceLeDiff, Nat.reduceEqDiff, Nat.reduceSub, Nat.reduceMul, Nat.reduceBEq, Int.reduceBEq, Int.reduceBNe, Int.reduceLT, Int.reduceLE, Int.reduceGT, Int.reduceGE, Int.reduceNeg, Int.reduceEq, Int.reduceNe, Int.reduceToNat, Int.reduceAdd, aconv, acvB, capR, acmpnil, appBox, storeB, ares1, appendTo, afill, aeqL, teset, e1, e3, e4, inj_take, inj_drop, inj_agg, inj_len, inj_one, List.length_map]
                simp only [decide_eq_false_iff_not] at hc
                rw [List.drop_eq_nil_of_le (by omega)] at hv
                have hvn : ∀ (o : Bool) (l : List ByteArray), valL o [] l = [] := fun o l => by cases o <;> simp [valL]
                rw [hvn, List.append_nil] at hv
                exact ⟨by (repeat (first | exact AH.Ext.refl _ | assumption | refine AH.Ext.set ?_ (by first | omega | (simp only [new_nb, set_nb, kill_nb, newTok_nb, setTok_nb]; omega)) _ | refine AH.Ext.new ?_ _)), _, rfl, by rw [hv]; rfl⟩
              | true =>
                simp only [decide_eq_true_eq] at hc
                have hj : j < xs.length := by omega
                have hget : (xs.map inj)[((j : Nat) : Int).toNat]? = some (inj xs[j]) := by simp [hj]
                have hlv : (ys ++ valL (k == 5) (xs.drop j) (ks.drop j)).length = (valA (.mk k i t xs ks)).length := by rw [hv]
                have hihj := ih _ (List.getElem_mem hj) (hxi _ (List.getElem_mem hj))
                have hbx := BY.val xs[j]
                simp only [aw0, aw1, aw2, aw3, aw4, aw5, aw6, aw7, ne_eq, eq_self, implies_true, imp_self, reduceIte, reduceCtorEq, Nat.reduceAdd, Nat.reduceLT, Nat.reduceLeDiff, Nat.reduceEqDiff, Nat.reduceSub, Nat.reduceMul, Nat.reduceBEq, Int.reduceBEq, Int.reduceBNe, Int.reduceLT, Int.reduceLE, Int.reduceGT, Int.reduceGE, Int.reduceNeg, Int.reduceEq, Int.reduceNe, Int.reduceToNat, Int.reduceAdd, aconv, acvB, capR, acmpnil, appBox, storeB, ares1, appendTo, afill, aeqL, teset, e1, e3, e4, inj_take, inj_drop, inj_agg, inj_len, inj_one, List.length_map, boxR]
                cases h5 : (k == 5) with
                | false =>
                  rw [h5, valL_f hj _ (ks.drop (j + 1))] at hv hlv
                  simp only [List.length_append] at hlv
                  have hc1 := catB hys hbx (by omega)
                  simp only [aw0, aw1, aw2, aw3, aw4, aw5, aw6, aw7, ne_eq, eq_self, implies_true, imp_self, reduceIte, reduceCtorEq, Nat.reduceAdd, Nat.reduceLT, Nat.reduceLeDiff, Nat.reduceEqDiff, Nat.reduceSub, Nat.reduceMul, Nat.reduceBEq, Int.reduceBEq, Int.reduceBNe, Int.reduceLT, Int.reduceLE, Int.reduceGT, Int.reduceGE, Int.reduceNeg, Int.reduceEq, Int.reduceNe, Int.reduceToNat, Int.reduceAdd, aconv, acvB, capR, acmpnil, appBox, storeB, ares1, appendTo, afill, aeqL, teset, e1, e3, e4, inj_take, inj_drop, inj_agg, inj_len, inj_one, List.length_map, boxR, hget, Int.natCast_nonneg]
                  refine ACallV.pure hihj ?_
                  simp only [aw0, aw1, aw2, aw3, aw4, aw5, aw6, aw7, ne_eq, eq_self, implies_true, imp_self, reduceIte, reduceCtorEq, Nat.reduceAdd, Nat.reduceLT, Nat.reduceLeDiff, Nat.reduceEqDiff, Nat.reduceSub, Nat.reduceMul, Nat.reduceBEq, Int.reduceBEq, Int.reduceBNe, Int.reduceLT, Int.reduceLE, Int.reduceGT, Int.reduceGE, Int.reduceNeg, Int.reduceEq, Int.reduceNe, Int.reduceToNat, Int.reduceAdd, aconv, acvB, capR, acmpnil, appBox, storeB, ares1, appendTo, afill, aeqL, teset, e1, e3, e4, abin_str, astr, hc1]
                  refine ⟨n - 1, by omega, j + 1, ys ++ valA xs[j], ?_, by rw [wrap_succ (by omega)], by omega, BY.app hys hbx, ?_⟩
                  · rw [sB_app hys hbx]
                  · rw [List.append_assoc]; exact hv
                | true =>
                  have hk5 : k = 5 := by simpa using h5
                  have hjk : j < ks.length := by rw [hkl hk5]; exact hj
                  have hgk : (ks.map AV.str)[((j : Nat) : Int).toNat]? = some (.str ks[j]) := by rw [Int.toNat_natCast, List.getElem?_map, List.getElem?_eq_getElem hjk]; rfl
                  rw [h5, valL_t hj hjk] at hv hlv
                  simp only [List.length_append] at hlv
                  have hks := hkz _ (List.getElem_mem hjk)
                  have hbs := BY.str ks[j]
                  have hc1 := catB hys hbs (by omega)
                  have hc2 : (sB ys ++ sB (strA ks[j])).size + (sB (valA xs[j])).size ≤ 9223372036854775807 := by
                    rw [sB_app hys hbs]
                    exact catB (BY.app hys hbs) hbx (by rw [List.length_append]; omega)
                  simp only [aw0, aw1, aw2, aw3, aw4, aw5, aw6, aw7, ne_eq, eq_self, implies_true, imp_self, reduceIte, reduceCtorEq, Nat.reduceAdd, Nat.reduceLT, Nat.reduceLeDiff, Nat.reduceEqDiff, Nat.reduceSub, Nat.reduceMul, Nat.reduceBEq, Int.reduceBEq, Int.reduceBNe, Int.reduceLT, Int.reduceLE, Int.reduceGT, Int.reduceGE, Int.reduceNeg, Int.reduceEq, Int.reduceNe, Int.reduceToNat, Int.reduceAdd, aconv, acvB, capR, acmpnil, appBox, storeB, ares1, appendTo, afill, aeqL, teset, e1, e3, e4, inj_take, inj_drop, inj_agg, inj_len, inj_one, List.length_map, boxR, hgk, Int.natCast_nonneg]
                  refine ACallV.pure (refstr_pure ks[j] (by omega)) ?_
                  simp only [aw0, aw1, aw2, aw3, aw4, aw5, aw6, aw7, ne_eq, eq_self, implies_true, imp_self, reduceIte, reduceCtorEq, Nat.reduceAdd, Nat.reduceLT, Nat.reduceLeDiff, Nat.reduceEqDiff, Nat.reduceSub, Nat.reduceMul, Nat.reduceBEq, Int.reduceBEq, Int.reduceBNe, Int.reduceLT, Int.reduceLE, Int.reduceGT, Int.reduceGE, Int.reduceNeg, Int.reduceEq, Int.reduceNe, Int.reduceToNat, Int.reduceAdd, aconv, acvB, capR, acmpnil, appBox, storeB, ares1, appendTo, afill, aeqL, teset, e1, e3, e4, inj_take, inj_drop, inj_agg, inj_len, inj_one, List.length_map, boxR, hget, Int.natCast_nonneg, abin_str, astr, hc1]
                  refine ACallV.pure hihj ?_
                  simp only [aw0, aw1, aw2, aw3, aw4, aw5, aw6, aw7, ne_eq, eq_self, implies_true, imp_self, reduceIte, reduceCtorEq, Nat.reduceAdd, Nat.reduceLT, Nat.reduceLeDiff, Nat.reduceEqDiff, Nat.reduceSub, Nat.reduceMul, Nat.reduceBEq, Int.reduceBEq, Int.reduceBNe, Int.reduceLT, Int.reduceLE, Int.reduceGT, Int.reduceGE, Int.reduceNeg, Int.reduceEq, Int.reduceNe, Int.reduceToNat, Int.reduceAdd, aconv, acvB, capR, acmpnil, appBox, storeB, ares1, appendTo, afill, aeqL, teset, e1, e3, e4, abin_str, astr, hc2]
                  refine ⟨n - 1, by omega, j + 1, ys ++ strA ks[j] ++ valA xs[j], ?_, by rw [wrap_succ (by omega)], by omega, BY.app (BY.app hys hbs) hbx, ?_⟩
                  · rw [sB_app hys hbs, sB_app (BY.app hys hbs) hbx]
                  · rw [List.append_assoc, List.append_assoc]; exact hv
          | false =>
            have hk4 : k ≠ 4 := by simpa using h4
            simp only [aw0, aw1, aw2, aw3, aw4, aw5, aw6, aw7, ne_eq, eq_self, implies_true, imp_self, reduceIte, reduceCtorEq, Nat.reduceAdd, Nat.reduceLT, Nat.reduceLeDiff, Nat.reduceEqDiff, Nat.reduceSub, Nat.reduceMul, Nat.reduceBEq, Int.reduceBEq, Int.reduceBNe, Int.reduceLT, Int.reduceLE, Int.reduceGT, Int.reduceGE, Int.reduceNeg, Int.reduceEq, Int.reduceNe, Int.reduceToNat, Int.reduceAdd, aconv, acvB, capR, acmpnil, appBox, storeB, ares1, appendTo, afill, aeqL, teset]
            cases h5 : (k == 5) with
            | true =>
              obtain ⟨ys0, q1, q2, q3⟩ := hst4 (.inr (by simpa using h5))
              simp only [aw0, aw1, aw2, aw3, aw4, aw5, aw6, aw7, ne_eq, eq_self, implies_true, imp_self, reduceIte, reduceCtorEq, Nat.reduceAdd, Nat.reduceLT, Nat.reduceLeDiff, Nat.reduceEqDiff, Nat.reduceSub, Nat.reduceMul, Nat.reduceBEq, Int.reduceBEq, Int.reduceBNe, Int.reduceLT, Int.reduceLE, Int.reduceGT, Int.reduceGE, Int.reduceNeg, Int.reduceEq, Int.reduceNe, Int.reduceToNat, Int.reduceAdd, aconv, acvB, capR, acmpnil, appBox, storeB, ares1, appendTo, afill, aeqL, teset, boxR, inj_take, inj_drop, inj_agg, inj_len, inj_one, List.length_map]
              refine ACallV.pure (count_pure xs.length (by omega)) ?_
              simp only [aw0, aw1, aw2, aw3, aw4, aw5, aw6, aw7, ne_eq, eq_self, implies_true, imp_self, reduceIte, reduceCtorEq, Nat.reduceAdd, Nat.reduceLT, Nat.reduceLeDiff, Nat.reduceEqDiff, Nat.reduceSub, Nat.reduceMul, Nat.reduceBEq, Int.reduceBEq, Int.reduceBNe, Int.reduceLT, Int.reduceLE, Int.reduceGT, Int.reduceGE, Int.reduceNeg, Int.reduceEq, Int.reduceNe, Int.reduceToNat, Int.reduceAdd, aconv, acvB, capR, acmpnil, appBox, storeB, ares1, appendTo, afill, aeqL, teset, sB_num, abin_str, astr, hcat]
              refine ⟨fun n s' h' => ∃ (j : Nat) (ys : List AV), s' 1 = .ptr h.nb 0 ∧ s' 3 = .str (sB ys) ∧ s' 4 = .int .i64 j ∧ h' = h.new [.int .i64 k, .int .i64 i, .str t, .sl .ro 5 (List.map inj xs), .sl .ro 1 (List.map AV.str ks)] ∧ n + j = xs.length ∧ BY ys ∧ ys ++ valL (k == 5) (xs.drop j) (ks.drop j) = valA (.mk k i t xs ks), ⟨xs.length, 0, ys0, ?_⟩, ?_⟩
              · simp only [aw0, aw1, aw2, aw3, aw4, aw5, aw6, aw7, ne_eq, eq_self, implies_true, imp_self, reduceIte, reduceCtorEq, Nat.reduceAdd, Nat.reduceLT, Nat.reduceLeDiff, Nat.reduceEqDiff, Nat.reduceSub, Nat.reduceMul, Nat.reduceBEq, Int.reduceBEq, Int.reduceBNe, Int.reduceLT, Int.reduceLE, Int.reduceGT, Int.reduceGE, Int.reduceNeg, Int.reduceEq, Int.reduceNe, Int.reduceToNat, Int.reduceAdd, aconv, acvB, capR, acmpnil, appBox, storeB, ares1, appendTo, afill, aeqL, teset, Int.natCast_zero, List.drop_zero, q1, q2, q3]
                first | done | exact ⟨rfl, rfl⟩ | rfl
              · rintro n s' h' ⟨j, ys, e1, e3, e4, hh, hn, hys, hv⟩
                subst hh
                simp only [aw0, aw1, aw2, aw3, aw4, aw5, aw6, aw7, ne_eq, eq_self, implies_true, imp_self, reduceIte, reduceCtorEq, Nat.reduceAdd, Nat.reduceLT, Nat.reduceLeDiff, Nat.reduceEqDiff, Nat.reduceSub, Nat.reduceMul, Nat.reduceBEq, Int.reduceBEq, Int.reduceBNe, Int.reduceLT, Int.reduceLE, Int.reduceGT, Int.reduceGE, Int.reduceNeg, Int.reduceEq, Int.reduceNe, Int.reduceToNat, Int.reduceAdd, aconv, acvB, capR, acmpnil, appBox, storeB, ares1, appendTo, afill, aeqL, teset, e1, e3, e4, inj_take, inj_drop, inj_agg, inj_len, inj_one, List.length_map, boxR]
                cases hc : decide ((j : Int) < (xs.length : Int)) with
                | false =>
                  simp only [aw0, aw1, aw2, aw3, aw4, aw5, aw6, aw7, ne_eq, eq_self, implies_true, imp_self, reduceIte, reduceCtorEq, Nat.reduceAdd, Nat.reduceLT, Nat.reduceLeDiff, Nat.reduceEqDiff, Nat.reduceSub, Nat.reduceMul, Nat.reduceBEq, Int.reduceBEq, Int.reduceBNe, Int.reduceLT, Int.reduceLE, Int.reduceGT, Int.reduceGE, Int.reduceNeg, Int.reduceEq, Int.reduceNe, Int.reduceToNat, Int.reduceAdd, aconv, acvB, capR, acmpnil, appBox, storeB, ares1, appendTo, afill, aeqL, teset, e1, e3, e4, inj_take, inj_drop, inj_agg, inj_len, inj_one, List.length_map]
                  simp only [decide_eq_false_iff_not] at hc
                  rw [List.drop_eq_nil_of_le (by omega)] at hv
                  have hvn : ∀ (o : Bool) (l : List ByteArray), valL o [] l = [] := fun o l => by cases o <;> simp [valL]
                  rw [hvn, List.append_nil] at hv
                  exact ⟨by (repeat (first | exact AH.Ext.refl _ | assumption | refine AH.Ext.set ?_ (by first | omega | (simp only [new_nb, set_nb, kill_nb, newTok_nb, setTok_nb]; omega)) _ | refine AH.Ext.new ?_ _)), _, rfl, by rw [hv]; rfl⟩
                | true =>
                  simp only [decide_eq_true_eq] at hc
                  have hj : j < xs.length := by omega
                  have hget : (xs.map inj)[((j : Nat) : Int).toNat]? = some (inj xs[j]) := by simp [hj]
                  have hlv : (ys ++ valL (k == 5) (xs.drop j) (ks.drop j)).length = (valA (.mk k i t xs ks)).length := by rw [hv]
                  have hihj := ih _ (List.getElem_mem hj) (hxi _ (List.getElem_mem hj))
                  have hbx := BY.val xs[j]
                  simp only [aw0, aw1, aw2, aw3, aw4, aw5, aw6, aw7, ne_eq, eq_self, implies_true, imp_self, reduceIte, reduceCtorEq, Nat.reduceAdd, Nat.reduceLT, Nat.reduceLeDiff, Nat.reduceEqDiff, Nat.reduceSub, Nat.reduceMul, Nat.reduceBEq, Int.reduceBEq, Int.reduceBNe, Int.reduceLT, Int.reduceLE, Int.reduceGT, Int.reduceGE, Int.reduceNeg, Int.reduceEq, Int.reduceNe, Int.reduceToNat, Int.reduceAdd, aconv, acvB, capR, acmpnil, appBox, storeB, ares1, appendTo, afill, aeqL, teset, e1, e3, e4, inj_take, inj_drop, inj_agg, inj_len, inj_one, List.length_map, boxR]
                  cases h5 : (k == 5) with
                  | false =>
                    rw [h5, valL_f hj _ (ks.drop (j + 1))] at hv hlv
                    simp only [List.length_append] at hlv
                    have hc1 := catB hys hbx (by omega)
                    simp only [aw0, aw1, aw2, aw3, aw4, aw5, aw6, aw7, ne_eq, eq_self, implies_true, imp_self, reduceIte, reduceCtorEq, Nat.reduceAdd, Nat.reduceLT, Nat.reduceLeDiff, Nat.reduceEqDiff, Nat.reduceSub, Nat.reduceMul, Nat.reduceBEq, Int.reduceBEq, Int.reduceBNe, Int.reduceLT, Int.reduceLE, Int.reduceGT, Int.reduceGE, Int.reduceNeg, Int.reduceEq, Int.reduceNe, Int.reduceToNat, Int.reduceAdd, aconv, acvB, capR, acmpnil, appBox, storeB, ares1, appendTo, afill, aeqL, teset, e1, e3, e4, inj_take, inj_drop, inj_agg, inj_len, inj_one, List.length_map, boxR, hget, Int.natCast_nonneg]
                    refine ACallV.pure hihj ?_
                    simp only [aw0, aw1, aw2, aw3, aw4, aw5, aw6, aw7, ne_eq, eq_self, implies_true, imp_self, reduceIte, reduceCtorEq, Nat.reduceAdd, Nat.reduceLT, Nat.reduceLeDiff, Nat.reduceEqDiff, Nat.reduceSub, Nat.reduceMul, Nat.reduceBEq, Int.reduceBEq, Int.reduceBNe, Int.reduceLT, Int.reduceLE, Int.reduceGT, Int.reduceGE, Int.reduceNeg, Int.reduceEq, Int.reduceNe, Int.reduceToNat, Int.reduceAdd, aconv, acvB, capR, acmpnil, appBox, storeB, ares1, appendTo, afill, aeqL, teset, e1, e3, e4, abin_str, astr, hc1]
                    refine ⟨n - 1, by omega, j + 1, ys ++ valA xs[j], ?_, by rw [wrap_succ (by omega)], by omega, BY.app hys hbx, ?_⟩
                    · rw [sB_app hys hbx]
                    · rw [List.append_assoc]; exact hv
                  | true =>
                    have hk5 : k = 5 := by simpa using h5
                    have hjk : j < ks.length := by rw [hkl hk5]; exact hj
                    have hgk : (ks.map AV.str)[((j : Nat) : Int).toNat]? = some (.str ks[j]) := by rw [Int.toNat_natCast, List.getElem?_map, List.getElem?_eq_getElem hjk]; rfl
                    rw [h5, valL_t hj hjk] at hv hlv
                    simp only [List.length_append] at hlv
                    have hks := hkz _ (List.getElem_mem hjk)
                    have hbs := BY.str ks[j]
                    have hc1 := catB hys hbs (by omega)
                    have hc2 : (sB ys ++ sB (strA ks[j])).size + (sB (valA xs[j])).size ≤ 9223372036854775807 := by
                      rw [sB_app hys hbs]
                      exact catB (BY.app hys hbs) hbx (by rw [List.length_append]; omega)
                    simp only [aw0, aw1, aw2, aw3, aw4, aw5, aw6, aw7, ne_eq, eq_self, implies_true, imp_self, reduceIte, reduceCtorEq, Nat.reduceAdd, Nat.reduceLT, Nat.reduceLeDiff, Nat.reduceEqDiff, Nat.reduceSub, Nat.reduceMul, Nat.reduceBEq, Int.reduceBEq, Int.reduceBNe, Int.reduceLT, Int.reduceLE, Int.reduceGT, Int.reduceGE, Int.reduceNeg, Int.reduceEq, Int.reduceNe, Int.reduceToNat, Int.reduceAdd, aconv, acvB, capR, acmpnil, appBox, storeB, ares1, appendTo, afill, aeqL, teset, e1, e3, e4, inj_take, inj_drop, inj_agg, inj_len, inj_one, List.length_map, boxR, hgk, Int.natCast_nonneg]
                    refine ACallV.pure (refstr_pure ks[j] (by omega)) ?_
                    simp only [aw0, aw1, aw2, aw3, aw4, aw5, aw6, aw7, ne_eq, eq_self, implies_true, imp_self, reduceIte, reduceCtorEq, Nat.reduceAdd, Nat.reduceLT, Nat.reduceLeDiff, Nat.reduceEqDiff, Nat.reduceSub, Nat.reduceMul, Nat.reduceBEq, Int.reduceBEq, Int.reduceBNe, Int.reduceLT, Int.reduceLE, Int.reduceGT, Int.reduceGE, Int.reduceNeg, Int.reduceEq, Int.reduceNe, Int.reduceToNat, Int.reduceAdd, aconv, acvB, capR, acmpnil, appBox, storeB, ares1, appendTo, afill, aeqL, teset, e1, e3, e4, inj_take, inj_drop, inj_agg, inj_len, inj_one, List.length_map, boxR, hget, Int.natCast_nonneg, abin_str, astr, hc1]
                    refine ACallV.pure hihj ?_
                    simp only [aw0, aw1, aw2, aw3, aw4, aw5, aw6, aw7, ne_eq, eq_self, implies_true, imp_self, reduceIte, reduceCtorEq, Nat.reduceAdd, Nat.reduceLT, Nat.reduceLeDiff, Nat.reduceEqDiff, Nat.reduceSub, Nat.reduceMul, Nat.reduceBEq, Int.reduceBEq, Int.reduceBNe, Int.reduceLT, Int.reduceLE, Int.reduceGT, Int.reduceGE, Int.reduceNeg, Int.reduceEq, Int.reduceNe, Int.reduceToNat, Int.reduceAdd, aconv, acvB, capR, acmpnil, appBox, storeB, ares1, appendTo, afill, aeqL, teset, e1, e3, e4, abin_str, astr, hc2]
                    refine ⟨n - 1, by omega, j + 1, ys ++ strA ks[j] ++ valA xs[j], ?_, by rw [wrap_succ (by omega)], by omega, BY.app (BY.app hys hbs) hbx, ?_⟩
                    · rw [sB_app hys hbs, sB_app (BY.app hys hbs) hbx]
                    · rw [List.append_assoc, List.append_assoc]; exact hv
            | false =>
              have hk5 : k ≠ 5 := by simpa using h5
              obtain ⟨ys0, q1, q2, q3⟩ : ∃ ys0, sB ys0 = sB [AV.int .u8 (IntKind.u8.wrap k)] ∧ BY ys0 ∧ ys0 ++ valL (k == 5) xs ks = valA (.mk k i t xs ks) := ⟨_, rfl, hone, by
                rcases htwo with ⟨_, _, rfl, rfl⟩ | ⟨h45, _⟩
                · rw [hvh, if_neg hk1, if_neg hk2, if_neg hk3, if_neg (by omega)]
                  have hvn : ∀ (o : Bool) (l : List ByteArray), valL o [] l = [] := fun o l => by cases o <;> simp [valL]
                  rw [hvn]
                · omega⟩
              simp only [aw0, aw1, aw2, aw3, aw4, aw5, aw6, aw7, ne_eq, eq_self, implies_true, imp_self, reduceIte, reduceCtorEq, Nat.reduceAdd, Nat.reduceLT, Nat.reduceLeDiff, Nat.reduceEqDiff, Nat.reduceSub, Nat.reduceMul, Nat.reduceBEq, Int.reduceBEq, Int.reduceBNe, Int.reduceLT, Int.reduceLE, Int.reduceGT, Int.reduceGE, Int.reduceNeg, Int.reduceEq, Int.reduceNe, Int.reduceToNat, Int.reduceAdd, aconv, acvB, capR, acmpnil, appBox, storeB, ares1, appendTo, afill, aeqL, teset]
              refine ⟨fun n s' h' => ∃ (j : Nat) (ys : List AV), s' 1 = .ptr h.nb 0 ∧ s' 3 = .str (sB ys) ∧ s' 4 = .int .i64 j ∧ h' = h.new [.int .i64 k, .int .i64 i, .str t, .sl .ro 5 (List.map inj xs), .sl .ro 1 (List.map AV.str ks)] ∧ n + j = xs.length ∧ BY ys ∧ ys ++ valL (k == 5) (xs.drop j) (ks.drop j) = valA (.mk k i t xs ks), ⟨xs.length, 0, ys0, ?_⟩, ?_⟩
              · simp only [aw0, aw1, aw2, aw3, aw4, aw5, aw6, aw7, ne_eq, eq_self, implies_true, imp_self, reduceIte, reduceCtorEq, Nat.reduceAdd, Nat.reduceLT, Nat.reduceLeDiff, Nat.reduceEqDiff, Nat.reduceSub, Nat.reduceMul, Nat.reduceBEq, Int.reduceBEq, Int.reduceBNe, Int.reduceLT, Int.reduceLE, Int.reduceGT, Int.reduceGE, Int.reduceNeg, Int.reduceEq, Int.reduceNe, Int.reduceToNat, Int.reduceAdd, aconv, acvB, capR, acmpnil, appBox, storeB, ares1, appendTo, afill, aeqL, teset, Int.natCast_zero, List.drop_zero, q1, q2, q3]
                first | done | exact ⟨rfl, rfl⟩ | rfl
              · rintro n s' h' ⟨j, ys, e1, e3, e4, hh, hn, hys, hv⟩
                subst hh
                simp only [aw0, aw1, aw2, aw3, aw4, aw5, aw6, aw7, ne_eq, eq_self, implies_true, imp_self, reduceIte, reduceCtorEq, Nat.reduceAdd, Nat.reduceLT, Nat.reduceLeDiff, Nat.reduceEqDiff, Nat.reduceSub, Nat.reduceMul, Nat.reduceBEq, Int.reduceBEq, Int.reduceBNe, Int.reduceLT, Int.reduceLE, Int.reduceGT, Int.reduceGE, Int.reduceNeg, Int.reduceEq, Int.reduceNe, Int.reduceToNat, Int.reduceAdd, aconv, acvB, capR, acmpnil, appBox, storeB, ares1, appendTo, afill, aeqL, teset, e1, e3, e4, inj_take, inj_drop, inj_agg, inj_len, inj_one, List.length_map, boxR]
                cases hc : decide ((j : Int) < (xs.length : Int)) with
                | false =>
                  simp only [aw0, aw1, aw2, aw3, aw4, aw5, aw6, aw7, ne_eq, eq_self, implies_true, imp_self, reduceIte, reduceCtorEq, Nat.reduceAdd, Nat.reduceLT, Nat.reduceLeDiff, Nat.reduceEqDiff, Nat.reduceSub, Nat.reduceMul, Nat.reduceBEq, Int.reduceBEq, Int.reduceBNe, Int.reduceLT, Int.reduceLE, Int.reduceGT, Int.reduceGE, Int.reduceNeg, Int.reduceEq, Int.reduceNe, Int.reduceToNat, Int.reduceAdd, aconv, acvB, capR, acmpnil, appBox, storeB, ares1, appendTo, afill, aeqL, teset, e1, e3, e4, inj_take, inj_drop, inj_agg, inj_len, inj_one, List.length_map]
                  simp only [decide_eq_false_iff_not] at hc
                  rw [List.drop_eq_nil_of_le (by omega)] at hv
                  have hvn : ∀ (o : Bool) (l : List ByteArray), valL o [] l = [] := fun o l => by cases o <;> simp [valL]
                  rw [hvn, List.append_nil] at hv
                  exact ⟨by (repeat (first | exact AH.Ext.refl _ | assumption | refine AH.Ext.set ?_ (by first | omega | (simp only [new_nb, set_nb, kill_nb, newTok_nb, setTok_nb]; omega)) _ | refine AH.Ext.new ?_ _)), _, rfl, by rw [hv]; rfl⟩
                | true =>
                  simp only [decide_eq_true_eq] at hc
                  have hj : j < xs.length := by omega
                  have hget : (xs.map inj)[((j : Nat) : Int).toNat]? = some (inj xs[j]) := by simp [hj]
                  have hlv : (ys ++ valL (k == 5) (xs.drop j) (ks.drop j)).length = (valA (.mk k i t xs ks)).length := by rw [hv]
                  have hihj := ih _ (List.getElem_mem hj) (hxi _ (List.getElem_mem hj))
                  have hbx := BY.val xs[j]
                  simp only [aw0, aw1, aw2, aw3, aw4, aw5, aw6, aw7, ne_eq, eq_self, implies_true, imp_self, reduceIte, reduceCtorEq, Nat.reduceAdd, Nat.reduceLT, Nat.reduceLeDiff, Nat.reduceEqDiff, Nat.reduceSub, Nat.reduceMul, Nat.reduceBEq, Int.reduceBEq, Int.reduceBNe, Int.reduceLT, Int.reduceLE, Int.reduceGT, Int.reduceGE, Int.reduceNeg, Int.reduceEq, Int.reduceNe, Int.reduceToNat, Int.reduceAdd, aconv, acvB, capR, acmpnil, appBox, storeB, ares1, appendTo, afill, aeqL, teset, e1, e3, e4, inj_take, inj_drop, inj_agg, inj_len, inj_one, List.length_map, boxR]
                  cases h5 : (k == 5) with
                  | false =>
                    rw [h5, valL_f hj _ (ks.drop (j + 1))] at hv hlv
                    simp only [List.length_append] at hlv
                    have hc1 := catB hys hbx (by omega)
                    simp only [aw0, aw1, aw2, aw3, aw4, aw5, aw6, aw7, ne_eq, eq_self, implies_true, imp_self, reduceIte, reduceCtorEq, Nat.reduceAdd, Nat.reduceLT, Nat.reduceLeDiff, Nat.reduceEqDiff, Nat.reduceSub, Nat.reduceMul, Nat.reduceBEq, Int.reduceBEq, Int.reduceBNe, Int.reduceLT, Int.reduceLE, Int.reduceGT, Int.reduceGE, Int.reduceNeg, Int.reduceEq, Int.reduceNe, Int.reduceToNat, Int.reduceAdd, aconv, acvB, capR, acmpnil, appBox, storeB, ares1, appendTo, afill, aeqL, teset, e1, e3, e4, inj_take, inj_drop, inj_agg, inj_len, inj_one, List.length_map, boxR, hget, Int.natCast_nonneg]
                    refine ACallV.pure hihj ?_
                    simp only [aw0, aw1, aw2, aw3, aw4, aw5, aw6, aw7, ne_eq, eq_self, implies_true, imp_self, reduceIte, reduceCtorEq, Nat.reduceAdd, Nat.reduceLT, Nat.reduceLeDiff, Nat.reduceEqDiff, Nat.reduceSub, Nat.reduceMul, Nat.reduceBEq, Int.reduceBEq, Int.reduceBNe, Int.reduceLT, Int.reduceLE, Int.reduceGT, Int.reduceGE, Int.reduceNeg, Int.reduceEq, Int.reduceNe, Int.reduceToNat, Int.reduceAdd, aconv, acvB, capR, acmpnil, appBox, storeB, ares1, appendTo, afill, aeqL, teset, e1, e3, e4, abin_str, astr, hc1]
                    refine ⟨n - 1, by omega, j + 1, ys ++ valA xs[j], ?_, by rw [wrap_succ (by omega)], by omega, BY.app hys hbx, ?_⟩
                    · rw [sB_app hys hbx]
                    · rw [List.append_assoc]; exact hv
                  | true =>
                    have hk5 : k = 5 := by simpa using h5
                    have hjk : j < ks.length := by rw [hkl hk5]; exact hj
                    have hgk : (ks.map AV.str)[((j : Nat) : Int).toNat]? = some (.str ks[j]) := by rw [Int.toNat_natCast, List.getElem?_map, List.getElem?_eq_getElem hjk]; rfl
                    rw [h5, valL_t hj hjk] at hv hlv
                    simp only [List.length_append] at hlv
                    have hks := hkz _ (List.getElem_mem hjk)
                    have hbs := BY.str ks[j]
                    have hc1 := catB hys hbs (by omega)
                    have hc2 : (sB ys ++ sB (strA ks[j])).size + (sB (valA xs[j])).size ≤ 9223372036854775807 := by
                      rw [sB_app hys hbs]
                      exact catB (BY.app hys hbs) hbx (by rw [List.length_append]; omega)
                    simp only [aw0, aw1, aw2, aw3, aw4, aw5, aw6, aw7, ne_eq, eq_self, implies_true, imp_self, reduceIte, reduceCtorEq, Nat.reduceAdd, Nat.reduceLT, Nat.reduceLeDiff, Nat.reduceEqDiff, Nat.reduceSub, Nat.reduceMul, Nat.reduceBEq, Int.reduceBEq, Int.reduceBNe, Int.reduceLT, Int.reduceLE, Int.reduceGT, Int.reduceGE, Int.reduceNeg, Int.reduceEq, Int.reduceNe, Int.reduceToNat, Int.reduceAdd, aconv, acvB, capR, acmpnil, appBox, storeB, ares1, appendTo, afill, aeqL, teset, e1, e3, e4, inj_take, inj_drop, inj_agg, inj_len, inj_one, List.length_map, boxR, hgk, Int.natCast_nonneg]
                    refine ACallV.pure (refstr_pure ks[j] (by omega)) ?_
                    simp only [aw0, aw1, aw2, aw3, aw4, aw5, aw6, aw7, ne_eq, eq_self, implies_true, imp_self, reduceIte, reduceCtorEq, Nat.reduceAdd, Nat.reduceLT, Nat.reduceLeDiff, Nat.reduceEqDiff, Nat.reduceSub, Nat.reduceMul, Nat.reduceBEq, Int.reduceBEq, Int.reduceBNe, Int.reduceLT, Int.reduceLE, Int.reduceGT, Int.reduceGE, Int.reduceNeg, Int.reduceEq, Int.reduceNe, Int.reduceToNat, Int.reduceAdd, aconv, acvB, capR, acmpnil, appBox, storeB, ares1, appendTo, afill, aeqL, teset, e1, e3, e4, inj_take, inj_drop, inj_agg, inj_len, inj_one, List.length_map, boxR, hget, Int.natCast_nonneg, abin_str, astr, hc1]
                    refine ACallV.pure hihj ?_
                    simp only [aw0, aw1, aw2, aw3, aw4, aw5, aw6, aw7, ne_eq, eq_self, implies_true, imp_self, reduceIte, reduceCtorEq, Nat.reduceAdd, Nat.reduceLT, Nat.reduceLeDiff, Nat.reduceEqDiff, Nat.reduceSub, Nat.reduceMul, Nat.reduceBEq, Int.reduceBEq, Int.reduceBNe, Int.reduceLT, Int.reduceLE, Int.reduceGT, Int.reduceGE, Int.reduceNeg, Int.reduceEq, Int.reduceNe, Int.reduceToNat, Int.reduceAdd, aconv, acvB, capR, acmpnil, appBox, storeB, ares1, appendTo, afill, aeqL, teset, e1, e3, e4, abin_str, astr, hc2]
                    refine ⟨n - 1, by omega, j + 1, ys ++ strA ks[j] ++ valA xs[j], ?_, by rw [wrap_succ (by omega)], by omega, BY.app (BY.app hys hbs) hbx, ?_⟩
                    · rw [sB_app hys hbs, sB_app (BY.app hys hbs) hbx]
                    · rw [List.append_assoc, List.append_assoc]; exact hv
end Go.Proofs.YtlbhgoffiigfbaaGreat.AW
end
section
set_option linter.unusedSimpArgs false
set_option linter.unusedVariables false
namespace Go.Proofs.YtlbhgoffiigfbaaGreat.AW
open Go Go.RowKit

def tyE (e : Nat) : Nat := if e = 1 then 76 else if e = 2 then 77 else if e = 3 then 78 else 79
theorem range4 : ([0, 1, 2, 3] = List.range 4) = True := by simp; decide
theorem encodings_pure : Pure Tryz.prog 31 [] (.sl .ro 1 [.iface (tyE 1) (.agg []), .iface (tyE 2) (.agg []), .iface (tyE 3) (.agg []), .iface (tyE 4) (.agg [])]) := by
  refine Pure.of ⟨Tryz.f31, Tryz.func31, rfl, by kernel_rfl⟩ rfl (fun h => ?_)
  refine acalls_of te_ok [] Tryz.func31 (c := _) rfl (Nat.le_of_ble_eq_true rfl) ?_
  simp only [aw0, aw1, aw2, aw3, aw4, aw5, aw6, aw7, ne_eq, eq_self, implies_true, imp_self, reduceIte, reduceCtorEq, Nat.reduceAdd, Nat.reduceLT, Nat.reduceLeDiff, Nat.reduceEqDiff, Nat.reduceSub, Nat.reduceMul, Nat.reduceBEq, Int.reduceBEq, Int.reduceBNe, Int.reduceLT, Int.reduceLE, Int.reduceGT, Int.reduceGE, Int.reduceNeg, Int.reduceEq, Int.reduceNe, Int.reduceToNat, Int.reduceAdd, aconv, acvB, capR, acmpnil, appBox, storeB, ares1, appendTo, afill, aeqL, teset, Tryz.ntmps31, Tryz.results31, range4]
  exact ⟨.refl _, _, rfl, rfl⟩
theorem of_bad (n : Int) (hn : n < 1 ∨ 4 < n) : Pure Tryz.prog 22 [.int .i64 n] (.tup [.nili, .bool false]) := by
  refine Pure.of ⟨Tryz.f22, Tryz.func22, rfl, by kernel_rfl⟩ rfl (fun h => ?_)
  refine acalls_of te_ok [7, 8] Tryz.func22 (c := _) rfl (Nat.le_of_ble_eq_true rfl) ?_
  simp only [aw0, aw1, aw2, aw3, aw4, aw5, aw6, aw7, ne_eq, eq_self, implies_true, imp_self, reduceIte, reduceCtorEq, Nat.reduceAdd, Nat.reduceLT, Nat.reduceLeDiff, Nat.reduceEqDiff, Nat.reduceSub, Nat.reduceMul, Nat.reduceBEq, Int.reduceBEq, Int.reduceBNe, Int.reduceLT, Int.reduceLE, Int.reduceGT, Int.reduceGE, Int.reduceNeg, Int.reduceEq, Int.reduceNe, Int.reduceToNat, Int.reduceAdd, aconv, acvB, capR, acmpnil, appBox, storeB, ares1, appendTo, afill, aeqL, teset, Tryz.ntmps22, Tryz.results22]
  cases h1 : decide (n < 1) with
  | true =>
    simp only [aw0, aw1, aw2, aw3, aw4, aw5, aw6, aw7, ne_eq, eq_self, implies_true, imp_self, reduceIte, reduceCtorEq, Nat.reduceAdd, Nat.reduceLT, Nat.reduceLeDiff, Nat.reduceEqDiff, Nat.reduceSub, Nat.reduceMul, Nat.reduceBEq, Int.reduceBEq, Int.reduceBNe, Int.reduceLT, Int.reduceLE, Int.reduceGT, Int.reduceGE, Int.reduceNeg, Int.reduceEq, Int.reduceNe, Int.reduceToNat, Int.reduceAdd, aconv, acvB, capR, acmpnil, appBox, storeB, ares1, appendTo, afill, aeqL, teset]
    exact ⟨.refl _, _, rfl, rfl⟩
  | false =>
    simp only [decide_eq_false_iff_not] at h1
    have h2 : decide (n > 4) = true := by simp only [decide_eq_true_eq]; omega
    simp only [aw0, aw1, aw2, aw3, aw4, aw5, aw6, aw7, ne_eq, eq_self, implies_true, imp_self, reduceIte, reduceCtorEq, Nat.reduceAdd, Nat.reduceLT, Nat.reduceLeDiff, Nat.reduceEqDiff, Nat.reduceSub, Nat.reduceMul, Nat.reduceBEq, Int.reduceBEq, Int.reduceBNe, Int.reduceLT, Int.reduceLE, Int.reduceGT, Int.reduceGE, Int.reduceNeg, Int.reduceEq, Int.reduceNe, Int.reduceToNat, Int.reduceAdd, aconv, acvB, capR, acmpnil, appBox, storeB, ares1, appendTo, afill, aeqL, teset, h2]
    exact ⟨.refl _, _, rfl, rfl⟩
theorem of_1 : Pure Tryz.prog 22 [.int .i64 1] (.tup [.iface (tyE 1) (.agg []), .bool true]) := erun_pure ec5_ok (d := 60) rfl (by kernel_rfl)
theorem of_2 : Pure Tryz.prog 22 [.int .i64 2] (.tup [.iface (tyE 2) (.agg []), .bool true]) := erun_pure ec5_ok (d := 60) rfl (by kernel_rfl)
theorem of_3 : Pure Tryz.prog 22 [.int .i64 3] (.tup [.iface (tyE 3) (.agg []), .bool true]) := erun_pure ec5_ok (d := 60) rfl (by kernel_rfl)
theorem of_4 : Pure Tryz.prog 22 [.int .i64 4] (.tup [.iface (tyE 4) (.agg []), .bool true]) := erun_pure ec5_ok (d := 60) rfl (by kernel_rfl)
def nE (n : Int) : Prop := ¬ (n < 1 ∨ 4 < n)
theorem nE_cases {e : Nat} (h1 : 1 ≤ e) (h4 : e ≤ 4) : e = 1 ∨ e = 2 ∨ e = 3 ∨ e = 4 := by omega
theorem of_good (e : Nat) (h1 : 1 ≤ e) (h4 : e ≤ 4) : Pure Tryz.prog 22 [.int .i64 (e : Int)] (.tup [.iface (tyE e) (.agg []), .bool true]) := by
  rcases nE_cases h1 h4 with rfl | rfl | rfl | rfl
  · exact of_1
  · exact of_2
  · exact of_3
  · exact of_4
/-- Whether values can be written so, and their bytes, by the method that is found. -/
theorem can_meth (e : Nat) (h1 : 1 ≤ e) (h4 : e ≤ 4) (xs : List V) (hl : xs.length < 4611686018427387904) : ∃ f, AMeth Tryz.prog (tyE e) "cirrus/chunk.can" f ∧ Pure Tryz.prog f [.agg [], .sl .ro 5 (xs.map inj)] (.bool (canL e xs)) := by
  rcases nE_cases h1 h4 with rfl | rfl | rfl | rfl
  · exact ⟨_, m_plainly_can, plain_can xs⟩
  · exact ⟨_, m_inRuns_can, runs_can xs⟩
  · exact ⟨_, m_byDict_can, dict_can xs⟩
  · exact ⟨_, m_byDelta_can, delta_can xs hl⟩
theorem write_meth (e : Nat) (h1 : 1 ≤ e) (h4 : e ≤ 4) (xs : List V) (hx : ∀ x ∈ xs, Vok x) (hl : xs.length ≤ 1000) : ∃ f, AMeth Tryz.prog (tyE e) "cirrus/chunk.write" f ∧ Pure Tryz.prog f [.agg [], .sl .full 0 [], .sl .ro 5 (xs.map inj)] (.sl .ro 1 (encA e xs)) := by
  rcases nE_cases h1 h4 with rfl | rfl | rfl | rfl
  · exact ⟨_, m_plainly_write, plain_write xs hx hl⟩
  · exact ⟨_, m_inRuns_write, runs_write xs hx hl⟩
  · exact ⟨_, m_byDict_write, dict_write xs hx hl⟩
  · exact ⟨_, m_byDelta_write, delta_write xs hx hl⟩
theorem meth_call {P : Program} {t : Nat} {name : String} {v : AV} {args : List AV} {r : AV} {dst : Option Nat} {s : AS} {h : AH} {k : AK} {Q : AQ} (hm : ∃ f, AMeth P t name f ∧ Pure P f (v :: args) r) (hk : k (putD s dst r) h Q) : ∃ f, AMeth P t name f ∧ ACallF P f (v :: args) h (callK dst s k Q) := by
  obtain ⟨f, h1, h2⟩ := hm
  exact ⟨f, h1, ACallF.ofPure h2 hk⟩
theorem validL_ok {xs : List V} (h : validL xs = true) : (∀ x ∈ xs, Vok x) ∧ xs.length ≤ 200 := by
  unfold validL at h
  rw [Bool.and_eq_true, decide_eq_true_eq, List.all_eq_true] at h
  exact ⟨fun x hx => ⟨6, of_decide_eq_true (h.2 x hx)⟩, h.1⟩
def packBad (n : Int) : AV := .tup [.str ⟨#[]⟩, .int .i64 n]
theorem pack_form (xs : List V) (n : Int) (hsm : ∀ x ∈ xs, x.sm) (hl : xs.length < 4611686018427387904) (hv : validL xs = false) : Pure Tryz.prog 8 [.sl .ro 5 (xs.map inj), .int .i64 n] (packBad 1) := by
  have hof : ∃ a b, Pure Tryz.prog 22 [.int .i64 n] (.tup [a, .bool b]) := by
    by_cases hn : n < 1 ∨ 4 < n
    · exact ⟨_, _, of_bad n hn⟩
    · have := of_good n.toNat (by omega) (by omega)
      rw [Int.toNat_of_nonneg (by omega)] at this
      exact ⟨_, _, this⟩
  obtain ⟨a, b, hof⟩ := hof
  refine Pure.of ⟨Tryz.f8, Tryz.func8, rfl, by kernel_rfl⟩ rfl (fun h => ?_)
  refine acalls_of te_ok [] Tryz.func8 (c := _) rfl (Nat.le_of_ble_eq_true rfl) ?_
  simp only [aw0, aw1, aw2, aw3, aw4, aw5, aw6, aw7, ne_eq, eq_self, implies_true, imp_self, reduceIte, reduceCtorEq, Nat.reduceAdd, Nat.reduceLT, Nat.reduceLeDiff, Nat.reduceEqDiff, Nat.reduceSub, Nat.reduceMul, Nat.reduceBEq, Int.reduceBEq, Int.reduceBNe, Int.reduceLT, Int.reduceLE, Int.reduceGT, Int.reduceGE, Int.reduceNeg, Int.reduceEq, Int.reduceNe, Int.reduceToNat, Int.reduceAdd, aconv, acvB, capR, acmpnil, appBox, storeB, ares1, appendTo, afill, aeqL, teset, Tryz.ntmps8, Tryz.results8]
  refine ACallV.pure hof ?_
  simp only [aw0, aw1, aw2, aw3, aw4, aw5, aw6, aw7, ne_eq, eq_self, implies_true, imp_self, reduceIte, reduceCtorEq, Nat.reduceAdd, Nat.reduceLT, Nat.reduceLeDiff, Nat.reduceEqDiff, Nat.reduceSub, Nat.reduceMul, Nat.reduceBEq, Int.reduceBEq, Int.reduceBNe, Int.reduceLT, Int.reduceLE, Int.reduceGT, Int.reduceGE, Int.reduceNeg, Int.reduceEq, Int.reduceNe, Int.reduceToNat, Int.reduceAdd, aconv, acvB, capR, acmpnil, appBox, storeB, ares1, appendTo, afill, aeqL, teset]
  refine ACallV.pure (validL_pure xs hsm hl) ?_
  simp only [aw0, aw1, aw2, aw3, aw4, aw5, aw6, aw7, ne_eq, eq_self, implies_true, imp_self, reduceIte, reduceCtorEq, Nat.reduceAdd, Nat.reduceLT, Nat.reduceLeDiff, Nat.reduceEqDiff, Nat.reduceSub, Nat.reduceMul, Nat.reduceBEq, Int.reduceBEq, Int.reduceBNe, Int.reduceLT, Int.reduceLE, Int.reduceGT, Int.reduceGE, Int.reduceNeg, Int.reduceEq, Int.reduceNe, Int.reduceToNat, Int.reduceAdd, aconv, acvB, capR, acmpnil, appBox, storeB, ares1, appendTo, afill, aeqL, teset, hv]
  exact ⟨.refl _, _, rfl, rfl⟩
theorem pack_arg (xs : List V) (n : Int) (hsm : ∀ x ∈ xs, x.sm) (hl : xs.length < 4611686018427387904) (hv : validL xs = true) (hn : n < 1 ∨ 4 < n) : Pure Tryz.prog 8 [.sl .ro 5 (xs.map inj), .int .i64 n] (packBad 3) := by
  refine Pure.of ⟨Tryz.f8, Tryz.func8, rfl, by kernel_rfl⟩ rfl (fun h => ?_)
  refine acalls_of te_ok [] Tryz.func8 (c := _) rfl (Nat.le_of_ble_eq_true rfl) ?_
  simp only [aw0, aw1, aw2, aw3, aw4, aw5, aw6, aw7, ne_eq, eq_self, implies_true, imp_self, reduceIte, reduceCtorEq, Nat.reduceAdd, Nat.reduceLT, Nat.reduceLeDiff, Nat.reduceEqDiff, Nat.reduceSub, Nat.reduceMul, Nat.reduceBEq, Int.reduceBEq, Int.reduceBNe, Int.reduceLT, Int.reduceLE, Int.reduceGT, Int.reduceGE, Int.reduceNeg, Int.reduceEq, Int.reduceNe, Int.reduceToNat, Int.reduceAdd, aconv, acvB, capR, acmpnil, appBox, storeB, ares1, appendTo, afill, aeqL, teset, Tryz.ntmps8, Tryz.results8]
  refine ACallV.pure (of_bad n hn) ?_
  simp only [aw0, aw1, aw2, aw3, aw4, aw5, aw6, aw7, ne_eq, eq_self, implies_true, imp_self, reduceIte, reduceCtorEq, Nat.reduceAdd, Nat.reduceLT, Nat.reduceLeDiff, Nat.reduceEqDiff, Nat.reduceSub, Nat.reduceMul, Nat.reduceBEq, Int.reduceBEq, Int.reduceBNe, Int.reduceLT, Int.reduceLE, Int.reduceGT, Int.reduceGE, Int.reduceNeg, Int.reduceEq, Int.reduceNe, Int.reduceToNat, Int.reduceAdd, aconv, acvB, capR, acmpnil, appBox, storeB, ares1, appendTo, afill, aeqL, teset]
  refine ACallV.pure (validL_pure xs hsm hl) ?_
  simp only [aw0, aw1, aw2, aw3, aw4, aw5, aw6, aw7, ne_eq, eq_self, implies_true, imp_self, reduceIte, reduceCtorEq, Nat.reduceAdd, Nat.reduceLT, Nat.reduceLeDiff, Nat.reduceEqDiff, Nat.reduceSub, Nat.reduceMul, Nat.reduceBEq, Int.reduceBEq, Int.reduceBNe, Int.reduceLT, Int.reduceLE, Int.reduceGT, Int.reduceGE, Int.reduceNeg, Int.reduceEq, Int.reduceNe, Int.reduceToNat, Int.reduceAdd, aconv, acvB, capR, acmpnil, appBox, storeB, ares1, appendTo, afill, aeqL, teset, hv]
  exact ⟨.refl _, _, rfl, rfl⟩
theorem pack_good (xs : List V) (e : Nat) (h1 : 1 ≤ e) (h4 : e ≤ 4) (hsm : ∀ x ∈ xs, x.sm) (hl : xs.length < 4611686018427387904) (hv : validL xs = true) : Pure Tryz.prog 8 [.sl .ro 5 (xs.map inj), .int .i64 (e : Int)] (if canL e xs = true then .tup [.str (encS e xs), .int .i64 0] else packBad 8) := by
  obtain ⟨hx, hx2⟩ := validL_ok hv
  have hby := BY.enc e xs
  refine Pure.of ⟨Tryz.f8, Tryz.func8, rfl, by kernel_rfl⟩ (by split <;> rfl) (fun h => ?_)
  refine acalls_of te_ok [] Tryz.func8 (c := _) rfl (Nat.le_of_ble_eq_true rfl) ?_
  simp only [aw0, aw1, aw2, aw3, aw4, aw5, aw6, aw7, ne_eq, eq_self, implies_true, imp_self, reduceIte, reduceCtorEq, Nat.reduceAdd, Nat.reduceLT, Nat.reduceLeDiff, Nat.reduceEqDiff, Nat.reduceSub, Nat.reduceMul, Nat.reduceBEq, Int.reduceBEq, Int.reduceBNe, Int.reduceLT, Int.reduceLE, Int.reduceGT, Int.reduceGE, Int.reduceNeg, Int.reduceEq, Int.reduceNe, Int.reduceToNat, Int.reduceAdd, aconv, acvB, capR, acmpnil, appBox, storeB, ares1, appendTo, afill, aeqL, teset, Tryz.ntmps8, Tryz.results8]
  refine ACallV.pure (of_good e h1 h4) ?_
  simp only [aw0, aw1, aw2, aw3, aw4, aw5, aw6, aw7, ne_eq, eq_self, implies_true, imp_self, reduceIte, reduceCtorEq, Nat.reduceAdd, Nat.reduceLT, Nat.reduceLeDiff, Nat.reduceEqDiff, Nat.reduceSub, Nat.reduceMul, Nat.reduceBEq, Int.reduceBEq, Int.reduceBNe, Int.reduceLT, Int.reduceLE, Int.reduceGT, Int.reduceGE, Int.reduceNeg, Int.reduceEq, Int.reduceNe, Int.reduceToNat, Int.reduceAdd, aconv, acvB, capR, acmpnil, appBox, storeB, ares1, appendTo, afill, aeqL, teset]
  refine ACallV.pure (validL_pure xs hsm hl) ?_
  simp only [aw0, aw1, aw2, aw3, aw4, aw5, aw6, aw7, ne_eq, eq_self, implies_true, imp_self, reduceIte, reduceCtorEq, Nat.reduceAdd, Nat.reduceLT, Nat.reduceLeDiff, Nat.reduceEqDiff, Nat.reduceSub, Nat.reduceMul, Nat.reduceBEq, Int.reduceBEq, Int.reduceBNe, Int.reduceLT, Int.reduceLE, Int.reduceGT, Int.reduceGE, Int.reduceNeg, Int.reduceEq, Int.reduceNe, Int.reduceToNat, Int.reduceAdd, aconv, acvB, capR, acmpnil, appBox, storeB, ares1, appendTo, afill, aeqL, teset, hv]
  refine meth_call (can_meth e h1 h4 xs hl) ?_
  cases hc : canL e xs with
  | false =>
    simp only [aw0, aw1, aw2, aw3, aw4, aw5, aw6, aw7, ne_eq, eq_self, implies_true, imp_self, reduceIte, reduceCtorEq, Nat.reduceAdd, Nat.reduceLT, Nat.reduceLeDiff, Nat.reduceEqDiff, Nat.reduceSub, Nat.reduceMul, Nat.reduceBEq, Int.reduceBEq, Int.reduceBNe, Int.reduceLT, Int.reduceLE, Int.reduceGT, Int.reduceGE, Int.reduceNeg, Int.reduceEq, Int.reduceNe, Int.reduceToNat, Int.reduceAdd, aconv, acvB, capR, acmpnil, appBox, storeB, ares1, appendTo, afill, aeqL, teset]
    exact ⟨.refl _, _, rfl, rfl⟩
  | true =>
    simp only [aw0, aw1, aw2, aw3, aw4, aw5, aw6, aw7, ne_eq, eq_self, implies_true, imp_self, reduceIte, reduceCtorEq, Nat.reduceAdd, Nat.reduceLT, Nat.reduceLeDiff, Nat.reduceEqDiff, Nat.reduceSub, Nat.reduceMul, Nat.reduceBEq, Int.reduceBEq, Int.reduceBNe, Int.reduceLT, Int.reduceLE, Int.reduceGT, Int.reduceGE, Int.reduceNeg, Int.reduceEq, Int.reduceNe, Int.reduceToNat, Int.reduceAdd, aconv, acvB, capR, acmpnil, appBox, storeB, ares1, appendTo, afill, aeqL, teset]
    refine meth_call (write_meth e h1 h4 xs hx (by omega)) ?_
    simp only [aw0, aw1, aw2, aw3, aw4, aw5, aw6, aw7, ne_eq, eq_self, implies_true, imp_self, reduceIte, reduceCtorEq, Nat.reduceAdd, Nat.reduceLT, Nat.reduceLeDiff, Nat.reduceEqDiff, Nat.reduceSub, Nat.reduceMul, Nat.reduceBEq, Int.reduceBEq, Int.reduceBNe, Int.reduceLT, Int.reduceLE, Int.reduceGT, Int.reduceGE, Int.reduceNeg, Int.reduceEq, Int.reduceNe, Int.reduceToNat, Int.reduceAdd, aconv, acvB, capR, acmpnil, appBox, storeB, ares1, appendTo, afill, aeqL, teset, cellsOf, or_true, hby.cells, hby.avB]
    exact ⟨.refl _, _, rfl, rfl⟩
end Go.Proofs.YtlbhgoffiigfbaaGreat.AW
end
section
set_option linter.unusedSimpArgs false
set_option linter.unusedVariables false
namespace Go.Proofs.YtlbhgoffiigfbaaGreat.AW
open Go Go.RowKit

def bytesOf (e : Nat) (xs : List V) : ByteArray := if e = 0 then ⟨#[]⟩ else encS e xs
/-- The best of the first encodings. -/
def bestN (xs : List V) : Nat → Nat
  | 0 => 0
  | i + 1 => if canL (i + 1) xs = true then (if bestN xs i = 0 ∨ (encS (i + 1) xs).size < (bytesOf (bestN xs i) xs).size then i + 1 else bestN xs i) else bestN xs i
theorem best_form (xs : List V) (hsm : ∀ x ∈ xs, x.sm) (hl : xs.length < 4611686018427387904) (hv : validL xs = false) : Pure Tryz.prog 13 [.sl .ro 5 (xs.map inj)] (.tup [.int .i64 0, .str ⟨#[]⟩, .int .i64 1]) := by
  refine Pure.of ⟨Tryz.f13, Tryz.func13, rfl, by kernel_rfl⟩ rfl (fun h => ?_)
  refine acalls_of te_ok [] Tryz.func13 (c := _) rfl (Nat.le_of_ble_eq_true rfl) ?_
  simp only [aw0, aw1, aw2, aw3, aw4, aw5, aw6, aw7, ne_eq, eq_self, implies_true, imp_self, reduceIte, reduceCtorEq, Nat.reduceAdd, Nat.reduceLT, Nat.reduceLeDiff, Nat.reduceEqDiff, Nat.reduceSub, Nat.reduceMul, Nat.reduceBEq, Int.reduceBEq, Int.reduceBNe, Int.reduceLT, Int.reduceLE, Int.reduceGT, Int.reduceGE, Int.reduceNeg, Int.reduceEq, Int.reduceNe, Int.reduceToNat, Int.reduceAdd, aconv, acvB, capR, acmpnil, appBox, storeB, ares1, appendTo, afill, aeqL, teset, Tryz.ntmps13, Tryz.results13]
  refine ACallV.pure (validL_pure xs hsm hl) ?_
  simp only [aw0, aw1, aw2, aw3, aw4, aw5, aw6, aw7, ne_eq, eq_self, implies_true, imp_self, reduceIte, reduceCtorEq, Nat.reduceAdd, Nat.reduceLT, Nat.reduceLeDiff, Nat.reduceEqDiff, Nat.reduceSub, Nat.reduceMul, Nat.reduceBEq, Int.reduceBEq, Int.reduceBNe, Int.reduceLT, Int.reduceLE, Int.reduceGT, Int.reduceGE, Int.reduceNeg, Int.reduceEq, Int.reduceNe, Int.reduceToNat, Int.reduceAdd, aconv, acvB, capR, acmpnil, appBox, storeB, ares1, appendTo, afill, aeqL, teset, hv]
  exact ⟨.refl _, _, rfl, rfl⟩
set_option maxHeartbeats 1000000 in
theorem best_good (xs : List V) (hsm : ∀ x ∈ xs, x.sm) (hl : xs.length < 4611686018427387904) (hv : validL xs = true) : Pure Tryz.prog 13 [.sl .ro 5 (xs.map inj)] (.tup [.int .i64 (bestN xs 4), .str (bytesOf (bestN xs 4) xs), .int .i64 0]) := by
  obtain ⟨hx, hx2⟩ := validL_ok hv
  refine Pure.of ⟨Tryz.f13, Tryz.func13, rfl, by kernel_rfl⟩ rfl (fun h => ?_)
  refine acalls_of te_ok [31, 32, 33, 34, 35] Tryz.func13 (c := _) rfl (Nat.le_of_ble_eq_true rfl) ?_
  simp only [aw0, aw1, aw2, aw3, aw4, aw5, aw6, aw7, ne_eq, eq_self, implies_true, imp_self, reduceIte, reduceCtorEq, Nat.reduceAdd, Nat.reduceLT, Nat.reduceLeDiff, Nat.reduceEqDiff, Nat.reduceSub, Nat.reduceMul, Nat.reduceBEq, Int.reduceBEq, Int.reduceBNe, Int.reduceLT, Int.reduceLE, Int.reduceGT, Int.reduceGE, Int.reduceNeg, Int.reduceEq, Int.reduceNe, Int.reduceToNat, Int.reduceAdd, aconv, acvB, capR, acmpnil, appBox, storeB, ares1, appendTo, afill, aeqL, teset, Tryz.ntmps13, Tryz.results13]
  refine ACallV.pure (validL_pure xs hsm hl) ?_
  simp only [aw0, aw1, aw2, aw3, aw4, aw5, aw6, aw7, ne_eq, eq_self, implies_true, imp_self, reduceIte, reduceCtorEq, Nat.reduceAdd, Nat.reduceLT, Nat.reduceLeDiff, Nat.reduceEqDiff, Nat.reduceSub, Nat.reduceMul, Nat.reduceBEq, Int.reduceBEq, Int.reduceBNe, Int.reduceLT, Int.reduceLE, Int.reduceGT, Int.reduceGE, Int.reduceNeg, Int.reduceEq, Int.reduceNe, Int.reduceToNat, Int.reduceAdd, aconv, acvB, capR, acmpnil, appBox, storeB, ares1, appendTo, afill, aeqL, teset, hv]
  refine ACallV.pure encodings_pure ?_
  simp only [aw0, aw1, aw2, aw3, aw4, aw5, aw6, aw7, ne_eq, eq_self, implies_true, imp_self, reduceIte, reduceCtorEq, Nat.reduceAdd, Nat.reduceLT, Nat.reduceLeDiff, Nat.reduceEqDiff, Nat.reduceSub, Nat.reduceMul, Nat.reduceBEq, Int.reduceBEq, Int.reduceBNe, Int.reduceLT, Int.reduceLE, Int.reduceGT, Int.reduceGE, Int.reduceNeg, Int.reduceEq, Int.reduceNe, Int.reduceToNat, Int.reduceAdd, aconv, acvB, capR, acmpnil, appBox, storeB, ares1, appendTo, afill, aeqL, teset, List.length_cons, List.length_nil]
  refine ⟨fun n s' h' => ∃ i : Nat, s' 0 = .sl .ro 5 (xs.map inj) ∧ s' 5 = .int .i64 (bestN xs i) ∧ s' 6 = .str (bytesOf (bestN xs i) xs) ∧ s' 13 = .sl .ro 1 [.iface (tyE 1) (.agg []), .iface (tyE 2) (.agg []), .iface (tyE 3) (.agg []), .iface (tyE 4) (.agg [])] ∧ s' 14 = .int .i64 4 ∧ s' 15 = .int .i64 i ∧ h' = h ∧ n + i = 4, ⟨4, 0, ?_⟩, ?_⟩
  · simp only [aw0, aw1, aw2, aw3, aw4, aw5, aw6, aw7, ne_eq, eq_self, implies_true, imp_self, reduceIte, reduceCtorEq, Nat.reduceAdd, Nat.reduceLT, Nat.reduceLeDiff, Nat.reduceEqDiff, Nat.reduceSub, Nat.reduceMul, Nat.reduceBEq, Int.reduceBEq, Int.reduceBNe, Int.reduceLT, Int.reduceLE, Int.reduceGT, Int.reduceGE, Int.reduceNeg, Int.reduceEq, Int.reduceNe, Int.reduceToNat, Int.reduceAdd, aconv, acvB, capR, acmpnil, appBox, storeB, ares1, appendTo, afill, aeqL, teset, Int.natCast_zero, bestN, bytesOf, if_true]
    first | done | rfl | exact ⟨rfl, rfl⟩
  · rintro n s' h' ⟨i, e0, e5, e6, e13, e14, e15, rfl, hn⟩
    simp only [aw0, aw1, aw2, aw3, aw4, aw5, aw6, aw7, ne_eq, eq_self, implies_true, imp_self, reduceIte, reduceCtorEq, Nat.reduceAdd, Nat.reduceLT, Nat.reduceLeDiff, Nat.reduceEqDiff, Nat.reduceSub, Nat.reduceMul, Nat.reduceBEq, Int.reduceBEq, Int.reduceBNe, Int.reduceLT, Int.reduceLE, Int.reduceGT, Int.reduceGE, Int.reduceNeg, Int.reduceEq, Int.reduceNe, Int.reduceToNat, Int.reduceAdd, aconv, acvB, capR, acmpnil, appBox, storeB, ares1, appendTo, afill, aeqL, teset, e0, e5, e6, e13, e14, e15]
    cases hc : decide ((i : Int) < 4) with
    | false =>
      simp only [decide_eq_false_iff_not] at hc
      obtain rfl : i = 4 := by omega
      simp only [aw0, aw1, aw2, aw3, aw4, aw5, aw6, aw7, ne_eq, eq_self, implies_true, imp_self, reduceIte, reduceCtorEq, Nat.reduceAdd, Nat.reduceLT, Nat.reduceLeDiff, Nat.reduceEqDiff, Nat.reduceSub, Nat.reduceMul, Nat.reduceBEq, Int.reduceBEq, Int.reduceBNe, Int.reduceLT, Int.reduceLE, Int.reduceGT, Int.reduceGE, Int.reduceNeg, Int.reduceEq, Int.reduceNe, Int.reduceToNat, Int.reduceAdd, aconv, acvB, capR, acmpnil, appBox, storeB, ares1, appendTo, afill, aeqL, teset, e0, e5, e6, e13, e14, e15]
      exact ⟨.refl _, _, rfl, rfl⟩
    | true =>
      simp only [decide_eq_true_eq] at hc
      have hi : i < 4 := by omega
      have hget : ([.iface (tyE 1) (.agg []), .iface (tyE 2) (.agg []), .iface (tyE 3) (.agg []), .iface (tyE 4) (.agg [])] : List AV)[((i : Nat) : Int).toNat]? = some (.iface (tyE (i + 1)) (.agg [])) := by
        rcases (show i = 0 ∨ i = 1 ∨ i = 2 ∨ i = 3 by omega) with rfl | rfl | rfl | rfl <;> rfl
      simp only [aw0, aw1, aw2, aw3, aw4, aw5, aw6, aw7, ne_eq, eq_self, implies_true, imp_self, reduceIte, reduceCtorEq, Nat.reduceAdd, Nat.reduceLT, Nat.reduceLeDiff, Nat.reduceEqDiff, Nat.reduceSub, Nat.reduceMul, Nat.reduceBEq, Int.reduceBEq, Int.reduceBNe, Int.reduceLT, Int.reduceLE, Int.reduceGT, Int.reduceGE, Int.reduceNeg, Int.reduceEq, Int.reduceNe, Int.reduceToNat, Int.reduceAdd, aconv, acvB, capR, acmpnil, appBox, storeB, ares1, appendTo, afill, aeqL, teset, e0, e5, e6, e13, e14, e15, hget, Int.natCast_nonneg, List.length_cons, List.length_nil]
      refine meth_call (can_meth (i + 1) (by omega) (by omega) xs hl) ?_
      cases hcan : canL (i + 1) xs with
      | false =>
        simp only [aw0, aw1, aw2, aw3, aw4, aw5, aw6, aw7, ne_eq, eq_self, implies_true, imp_self, reduceIte, reduceCtorEq, Nat.reduceAdd, Nat.reduceLT, Nat.reduceLeDiff, Nat.reduceEqDiff, Nat.reduceSub, Nat.reduceMul, Nat.reduceBEq, Int.reduceBEq, Int.reduceBNe, Int.reduceLT, Int.reduceLE, Int.reduceGT, Int.reduceGE, Int.reduceNeg, Int.reduceEq, Int.reduceNe, Int.reduceToNat, Int.reduceAdd, aconv, acvB, capR, acmpnil, appBox, storeB, ares1, appendTo, afill, aeqL, teset, e0, e5, e6, e13, e14, e15]
        refine ⟨n - 1, by omega, i + 1, ?_, ?_, by rw [wrap_succ (by omega)], by omega⟩
        · rw [bestN, hcan]; rfl
        · rw [bestN, hcan]; rfl
      | true =>
        simp only [aw0, aw1, aw2, aw3, aw4, aw5, aw6, aw7, ne_eq, eq_self, implies_true, imp_self, reduceIte, reduceCtorEq, Nat.reduceAdd, Nat.reduceLT, Nat.reduceLeDiff, Nat.reduceEqDiff, Nat.reduceSub, Nat.reduceMul, Nat.reduceBEq, Int.reduceBEq, Int.reduceBNe, Int.reduceLT, Int.reduceLE, Int.reduceGT, Int.reduceGE, Int.reduceNeg, Int.reduceEq, Int.reduceNe, Int.reduceToNat, Int.reduceAdd, aconv, acvB, capR, acmpnil, appBox, storeB, ares1, appendTo, afill, aeqL, teset, e0, e5, e6, e13, e14, e15]
        refine meth_call (write_meth (i + 1) (by omega) (by omega) xs hx (by omega)) ?_
        have hby := BY.enc (i + 1) xs
        simp only [aw0, aw1, aw2, aw3, aw4, aw5, aw6, aw7, ne_eq, eq_self, implies_true, imp_self, reduceIte, reduceCtorEq, Nat.reduceAdd, Nat.reduceLT, Nat.reduceLeDiff, Nat.reduceEqDiff, Nat.reduceSub, Nat.reduceMul, Nat.reduceBEq, Int.reduceBEq, Int.reduceBNe, Int.reduceLT, Int.reduceLE, Int.reduceGT, Int.reduceGE, Int.reduceNeg, Int.reduceEq, Int.reduceNe, Int.reduceToNat, Int.reduceAdd, aconv, acvB, capR, acmpnil, appBox, storeB, ares1, appendTo, afill, aeqL, teset, e0, e5, e6, e13, e14, e15, cellsOf, or_true, hby.cells, hby.avB]
        have hsz : ((⟨⟨asB (encA (i + 1) xs)⟩⟩ : ByteArray).size : Int) = ((encS (i + 1) xs).size : Int) := rfl
        have hstr : AV.str ⟨⟨asB (encA (i + 1) xs)⟩⟩ = .str (encS (i + 1) xs) := rfl
        have hcond : (((bestN xs i : Nat) : Int) == 0 || decide (((⟨⟨asB (encA (i + 1) xs)⟩⟩ : ByteArray).size : Int) < ((bytesOf (bestN xs i) xs).size : Int))) = decide (bestN xs i = 0 ∨ (encS (i + 1) xs).size < (bytesOf (bestN xs i) xs).size) := by
          rw [hsz, Bool.decide_or]
          congr 1
          · by_cases h0 : bestN xs i = 0 <;> simp [h0]
          · simp only [Int.ofNat_lt]
        rw [hcond]
        cases hd : decide (bestN xs i = 0 ∨ (encS (i + 1) xs).size < (bytesOf (bestN xs i) xs).size) with
        | true =>
          have hb : bestN xs (i + 1) = i + 1 := by rw [bestN, if_pos hcan, if_pos (of_decide_eq_true hd)]
          simp only [aw0, aw1, aw2, aw3, aw4, aw5, aw6, aw7, ne_eq, eq_self, implies_true, imp_self, reduceIte, reduceCtorEq, Nat.reduceAdd, Nat.reduceLT, Nat.reduceLeDiff, Nat.reduceEqDiff, Nat.reduceSub, Nat.reduceMul, Nat.reduceBEq, Int.reduceBEq, Int.reduceBNe, Int.reduceLT, Int.reduceLE, Int.reduceGT, Int.reduceGE, Int.reduceNeg, Int.reduceEq, Int.reduceNe, Int.reduceToNat, Int.reduceAdd, aconv, acvB, capR, acmpnil, appBox, storeB, ares1, appendTo, afill, aeqL, teset, e0, e5, e6, e13, e14, e15]
          refine ⟨n - 1, by omega, i + 1, ?_, ?_, by rw [wrap_succ (by omega)], by omega⟩
          · rw [hb, wrap_succ (by omega)]
          · rw [hb]; rfl
        | false =>
          have hb : bestN xs (i + 1) = bestN xs i := by rw [bestN, if_pos hcan, if_neg (of_decide_eq_false hd)]
          simp only [aw0, aw1, aw2, aw3, aw4, aw5, aw6, aw7, ne_eq, eq_self, implies_true, imp_self, reduceIte, reduceCtorEq, Nat.reduceAdd, Nat.reduceLT, Nat.reduceLeDiff, Nat.reduceEqDiff, Nat.reduceSub, Nat.reduceMul, Nat.reduceBEq, Int.reduceBEq, Int.reduceBNe, Int.reduceLT, Int.reduceLE, Int.reduceGT, Int.reduceGE, Int.reduceNeg, Int.reduceEq, Int.reduceNe, Int.reduceToNat, Int.reduceAdd, aconv, acvB, capR, acmpnil, appBox, storeB, ares1, appendTo, afill, aeqL, teset, e0, e5, e6, e13, e14, e15]
          refine ⟨n - 1, by omega, i + 1, ?_, ?_, by rw [wrap_succ (by omega)], by omega⟩
          · rw [hb]
          · rw [hb]
end Go.Proofs.YtlbhgoffiigfbaaGreat.AW
end
section
set_option linter.unusedSimpArgs false
set_option linter.unusedVariables false
namespace Go.Proofs.YtlbhgoffiigfbaaGreat.AW
open Go Go.RowKit

theorem allvalid_pure (xs : List V) (hl : xs.length < 4611686018427387904) : Pure Tryz.prog 36 [.sl .ro 5 (xs.map inj)] (.bool (xs.all valid)) := by
  refine Pure.of ⟨Tryz.f36, Tryz.func36, rfl, by kernel_rfl⟩ rfl (fun h => ?_)
  refine acalls_of te_ok [] Tryz.func36 (c := _) rfl (Nat.le_of_ble_eq_true rfl) ?_
  simp only [aw0, aw1, aw2, aw3, aw4, aw5, aw6, aw7, ne_eq, eq_self, implies_true, imp_self, reduceIte, reduceCtorEq, Nat.reduceAdd, Nat.reduceLT, Nat.reduceLeDiff, Nat.reduceEqDiff, Nat.reduceSub, Nat.reduceMul, Nat.reduceBEq, Int.reduceBEq, Int.reduceBNe, Int.reduceLT, Int.reduceLE, Int.reduceGT, Int.reduceGE, Int.reduceNeg, Int.reduceEq, Int.reduceNe, Int.reduceToNat, Int.reduceAdd, aconv, acvB, capR, acmpnil, appBox, storeB, ares1, appendTo, afill, aeqL, teset, Tryz.ntmps36, Tryz.results36, inj_take, inj_drop, inj_agg, inj_len, inj_one, List.length_map]
  refine ⟨fun n s' h' => ∃ (j : Nat), s' 0 = .sl .ro 5 (xs.map inj) ∧ s' 3 = .int .i64 j ∧ h' = h ∧ n + j = xs.length ∧ (∀ (j' : Nat) x, j' < j → xs[j']? = some x → valid x = true), ⟨xs.length, 0, ?_⟩, ?_⟩
  · simp only [aw0, aw1, aw2, aw3, aw4, aw5, aw6, aw7, ne_eq, eq_self, implies_true, imp_self, reduceIte, reduceCtorEq, Nat.reduceAdd, Nat.reduceLT, Nat.reduceLeDiff, Nat.reduceEqDiff, Nat.reduceSub, Nat.reduceMul, Nat.reduceBEq, Int.reduceBEq, Int.reduceBNe, Int.reduceLT, Int.reduceLE, Int.reduceGT, Int.reduceGE, Int.reduceNeg, Int.reduceEq, Int.reduceNe, Int.reduceToNat, Int.reduceAdd, aconv, acvB, capR, acmpnil, appBox, storeB, ares1, appendTo, afill, aeqL, teset, Int.natCast_zero]
    exact fun j' x hj => absurd hj (Nat.not_lt_zero _)
  · rintro n s' h' ⟨j, e0, e3, rfl, hn, hall⟩
    simp only [aw0, aw1, aw2, aw3, aw4, aw5, aw6, aw7, ne_eq, eq_self, implies_true, imp_self, reduceIte, reduceCtorEq, Nat.reduceAdd, Nat.reduceLT, Nat.reduceLeDiff, Nat.reduceEqDiff, Nat.reduceSub, Nat.reduceMul, Nat.reduceBEq, Int.reduceBEq, Int.reduceBNe, Int.reduceLT, Int.reduceLE, Int.reduceGT, Int.reduceGE, Int.reduceNeg, Int.reduceEq, Int.reduceNe, Int.reduceToNat, Int.reduceAdd, aconv, acvB, capR, acmpnil, appBox, storeB, ares1, appendTo, afill, aeqL, teset, e0, e3, inj_take, inj_drop, inj_agg, inj_len, inj_one, List.length_map]
    cases hc : decide ((j : Int) < (xs.length : Int)) with
    | false =>
      simp only [aw0, aw1, aw2, aw3, aw4, aw5, aw6, aw7, ne_eq, eq_self, implies_true, imp_self, reduceIte, reduceCtorEq, Nat.reduceAdd, Nat.reduceLT, Nat.reduceLeDiff, Nat.reduceEqDiff, Nat.reduceSub, Nat.reduceMul, Nat.reduceBEq, Int.reduceBEq, Int.reduceBNe, Int.reduceLT, Int.reduceLE, Int.reduceGT, Int.reduceGE, Int.reduceNeg, Int.reduceEq, Int.reduceNe, Int.reduceToNat, Int.reduceAdd, aconv, acvB, capR, acmpnil, appBox, storeB, ares1, appendTo, afill, aeqL, teset, e0, e3, inj_take, inj_drop, inj_agg, inj_len, inj_one, List.length_map]
      simp only [decide_eq_false_iff_not] at hc
      refine ⟨.refl _, _, rfl, ?_⟩
      have : xs.all valid = true := by
        rw [List.all_eq_true]
        intro x hx
        obtain ⟨j', hj'⟩ := List.mem_iff_getElem?.1 hx
        exact hall j' x (by have := (List.getElem?_eq_some_iff.1 hj').1; omega) hj'
      rw [this]; rfl
    | true =>
      simp only [decide_eq_true_eq] at hc
      have hj : j < xs.length := by omega
      have hget : (xs.map inj)[((j : Nat) : Int).toNat]? = some (inj xs[j]) := by simp [hj]
      simp only [aw0, aw1, aw2, aw3, aw4, aw5, aw6, aw7, ne_eq, eq_self, implies_true, imp_self, reduceIte, reduceCtorEq, Nat.reduceAdd, Nat.reduceLT, Nat.reduceLeDiff, Nat.reduceEqDiff, Nat.reduceSub, Nat.reduceMul, Nat.reduceBEq, Int.reduceBEq, Int.reduceBNe, Int.reduceLT, Int.reduceLE, Int.reduceGT, Int.reduceGE, Int.reduceNeg, Int.reduceEq, Int.reduceNe, Int.reduceToNat, Int.reduceAdd, aconv, acvB, capR, acmpnil, appBox, storeB, ares1, appendTo, afill, aeqL, teset, e0, e3, inj_take, inj_drop, inj_agg, inj_len, inj_one, List.length_map, hget, Int.natCast_nonneg]
      refine ACallV.pure (refvalid_pure xs[j]) ?_
      cases hk : valid xs[j] with
      | false =>
        simp only [aw0, aw1, aw2, aw3, aw4, aw5, aw6, aw7, ne_eq, eq_self, implies_true, imp_self, reduceIte, reduceCtorEq, Nat.reduceAdd, Nat.reduceLT, Nat.reduceLeDiff, Nat.reduceEqDiff, Nat.reduceSub, Nat.reduceMul, Nat.reduceBEq, Int.reduceBEq, Int.reduceBNe, Int.reduceLT, Int.reduceLE, Int.reduceGT, Int.reduceGE, Int.reduceNeg, Int.reduceEq, Int.reduceNe, Int.reduceToNat, Int.reduceAdd, aconv, acvB, capR, acmpnil, appBox, storeB, ares1, appendTo, afill, aeqL, teset, e0, e3, inj_take, inj_drop, inj_agg, inj_len, inj_one, List.length_map]
        refine ⟨.refl _, _, rfl, ?_⟩
        have : xs.all valid = false := by
          rw [Bool.eq_false_iff]
          intro hq
          rw [List.all_eq_true] at hq
          rw [hq _ (List.getElem_mem hj)] at hk; cases hk
        rw [this]; rfl
      | true =>
        simp only [aw0, aw1, aw2, aw3, aw4, aw5, aw6, aw7, ne_eq, eq_self, implies_true, imp_self, reduceIte, reduceCtorEq, Nat.reduceAdd, Nat.reduceLT, Nat.reduceLeDiff, Nat.reduceEqDiff, Nat.reduceSub, Nat.reduceMul, Nat.reduceBEq, Int.reduceBEq, Int.reduceBNe, Int.reduceLT, Int.reduceLE, Int.reduceGT, Int.reduceGE, Int.reduceNeg, Int.reduceEq, Int.reduceNe, Int.reduceToNat, Int.reduceAdd, aconv, acvB, capR, acmpnil, appBox, storeB, ares1, appendTo, afill, aeqL, teset, e0, e3, inj_take, inj_drop, inj_agg, inj_len, inj_one, List.length_map]
        refine ⟨n - 1, by omega, j + 1, by rw [wrap_succ (by omega)], by omega, fun j' x hj' hx => ?_⟩
        by_cases e : j' = j
        · subst e; rw [List.getElem?_eq_getElem hj] at hx; injection hx with hx; subst hx; exact hk
        · exact hall j' x (by omega) hx
theorem can_not {e : Nat} {xs : List V} (h : canL e xs = false) : e = 4 := by
  unfold canL at h
  by_cases e4 : e = 4
  · exact e4
  · rw [if_neg e4] at h; cases h
/-- The best one is the first of those with the fewest bytes. -/
theorem bestN_spec (xs : List V) : ∀ i, 1 ≤ i → i ≤ 4 → (1 ≤ bestN xs i ∧ bestN xs i ≤ i) ∧ canL (bestN xs i) xs = true ∧ ∀ e, 1 ≤ e → e ≤ i → canL e xs = true → (encS (bestN xs i) xs).size ≤ (encS e xs).size ∧ (e < bestN xs i → (encS (bestN xs i) xs).size < (encS e xs).size) := by
  intro i
  induction i with
  | zero => intro h; omega
  | succ i ih =>
    intro _ h4
    by_cases hi : i = 0
    · subst hi
      have hb : bestN xs 1 = 1 := by
        have hc : canL 1 xs = true := rfl
        rw [bestN, if_pos hc, if_pos (.inl rfl)]
      show (1 ≤ bestN xs 1 ∧ bestN xs 1 ≤ 1) ∧ canL (bestN xs 1) xs = true ∧ _
      rw [hb]
      refine ⟨⟨Nat.le_refl _, Nat.le_refl _⟩, rfl, fun e h1 h2 _ => ?_⟩
      obtain rfl : e = 1 := by omega
      exact ⟨Nat.le_refl _, fun h => by omega⟩
    · obtain ⟨⟨a1, a2⟩, a3, a4⟩ := ih (by omega) (by omega)
      have hbz : bestN xs i ≠ 0 := by omega
      have hby : bytesOf (bestN xs i) xs = encS (bestN xs i) xs := by unfold bytesOf; rw [if_neg hbz]
      by_cases hc : canL (i + 1) xs = true
      · by_cases hs : (encS (i + 1) xs).size < (encS (bestN xs i) xs).size
        · have hb : bestN xs (i + 1) = i + 1 := by rw [bestN, if_pos hc, if_pos (.inr (by rw [hby]; exact hs))]
          rw [hb]
          refine ⟨⟨by omega, Nat.le_refl _⟩, hc, fun e h1 h2 h3 => ?_⟩
          by_cases e1 : e = i + 1
          · subst e1; exact ⟨Nat.le_refl _, fun h => by omega⟩
          · have := (a4 e h1 (by omega) h3).1
            exact ⟨by omega, fun _ => by omega⟩
        · have hb : bestN xs (i + 1) = bestN xs i := by
            rw [bestN, if_pos hc, if_neg]
            rintro (h | h)
            · exact hbz h
            · rw [hby] at h; exact hs h
          rw [hb]
          refine ⟨⟨a1, by omega⟩, a3, fun e h1 h2 h3 => ?_⟩
          by_cases e1 : e = i + 1
          · subst e1; exact ⟨by omega, fun h => by omega⟩
          · exact a4 e h1 (by omega) h3
      · have hb : bestN xs (i + 1) = bestN xs i := by rw [bestN, if_neg hc]
        rw [hb]
        refine ⟨⟨a1, by omega⟩, a3, fun e h1 h2 h3 => ?_⟩
        by_cases e1 : e = i + 1
        · subst e1; exact absurd h3 hc
        · exact a4 e h1 (by omega) h3
end Go.Proofs.YtlbhgoffiigfbaaGreat.AW
end
section
set_option linter.unusedSimpArgs false
set_option linter.unusedVariables false
namespace Go.Proofs.YtlbhgoffiigfbaaGreat.AW
open Go Go.RowKit

theorem catW {a b : List AV} (ha : BY a) (hb : BY b) (hl : a.length + b.length ≤ 1000000000) : (sB a).size + (sB b).size ≤ 9223372036854775807 := by
  rw [sB_size ha, sB_size hb]; omega
theorem refplain_pure (xs : List V) (hx : ∀ x ∈ xs, Vok x) (hl : xs.length ≤ 1000) : Pure Tryz.prog 40 [.sl .ro 5 (xs.map inj)] (.str (sB (plainA xs))) := by
  have hvl := valsA_len hx
  have hnl := numA_len xs.length (by omega)
  have hpl : (plainA xs).length ≤ 9 + 13200 * xs.length := by unfold plainA; rw [List.length_append]; omega
  refine Pure.of ⟨Tryz.f40, Tryz.func40, rfl, by kernel_rfl⟩ rfl (fun h => ?_)
  refine acalls_of te_ok [] Tryz.func40 (c := _) rfl (Nat.le_of_ble_eq_true rfl) ?_
  simp only [aw0, aw1, aw2, aw3, aw4, aw5, aw6, aw7, ne_eq, eq_self, implies_true, imp_self, reduceIte, reduceCtorEq, Nat.reduceAdd, Nat.reduceLT, Nat.reduceLeDiff, Nat.reduceEqDiff, Nat.reduceSub, Nat.reduceMul, Nat.reduceBEq, Int.reduceBEq, Int.reduceBNe, Int.reduceLT, Int.reduceLE, Int.reduceGT, Int.reduceGE, Int.reduceNeg, Int.reduceEq, Int.reduceNe, Int.reduceToNat, Int.reduceAdd, aconv, acvB, capR, acmpnil, appBox, storeB, ares1, appendTo, afill, aeqL, teset, Tryz.ntmps40, Tryz.results40, inj_take, inj_drop, inj_agg, inj_len, inj_one, List.length_map]
  refine ACallV.pure (count_pure xs.length (by omega)) ?_
  simp only [aw0, aw1, aw2, aw3, aw4, aw5, aw6, aw7, ne_eq, eq_self, implies_true, imp_self, reduceIte, reduceCtorEq, Nat.reduceAdd, Nat.reduceLT, Nat.reduceLeDiff, Nat.reduceEqDiff, Nat.reduceSub, Nat.reduceMul, Nat.reduceBEq, Int.reduceBEq, Int.reduceBNe, Int.reduceLT, Int.reduceLE, Int.reduceGT, Int.reduceGE, Int.reduceNeg, Int.reduceEq, Int.reduceNe, Int.reduceToNat, Int.reduceAdd, aconv, acvB, capR, acmpnil, appBox, storeB, ares1, appendTo, afill, aeqL, teset, sB_num]
  refine ⟨fun n s' h' => ∃ (j : Nat) (ys : List AV), s' 0 = .sl .ro 5 (xs.map inj) ∧ s' 3 = .str (sB ys) ∧ s' 4 = .int .i64 j ∧ h' = h ∧ n + j = xs.length ∧ BY ys ∧ ys ++ valsA (xs.drop j) = plainA xs, ⟨xs.length, 0, numA xs.length, ?_⟩, ?_⟩
  · simp only [aw0, aw1, aw2, aw3, aw4, aw5, aw6, aw7, ne_eq, eq_self, implies_true, imp_self, reduceIte, reduceCtorEq, Nat.reduceAdd, Nat.reduceLT, Nat.reduceLeDiff, Nat.reduceEqDiff, Nat.reduceSub, Nat.reduceMul, Nat.reduceBEq, Int.reduceBEq, Int.reduceBNe, Int.reduceLT, Int.reduceLE, Int.reduceGT, Int.reduceGE, Int.reduceNeg, Int.reduceEq, Int.reduceNe, Int.reduceToNat, Int.reduceAdd, aconv, acvB, capR, acmpnil, appBox, storeB, ares1, appendTo, afill, aeqL, teset, Int.natCast_zero, List.drop_zero]
    exact ⟨BY.num _, rfl⟩
  · rintro n s' h' ⟨j, ys, e0, e3, e4, rfl, hn, hys, hv⟩
    simp only [aw0, aw1, aw2, aw3, aw4, aw5, aw6, aw7, ne_eq, eq_self, implies_true, imp_self, reduceIte, reduceCtorEq, Nat.reduceAdd, Nat.reduceLT, Nat.reduceLeDiff, Nat.reduceEqDiff, Nat.reduceSub, Nat.reduceMul, Nat.reduceBEq, Int.reduceBEq, Int.reduceBNe, Int.reduceLT, Int.reduceLE, Int.reduceGT, Int.reduceGE, Int.reduceNeg, Int.reduceEq, Int.reduceNe, Int.reduceToNat, Int.reduceAdd, aconv, acvB, capR, acmpnil, appBox, storeB, ares1, appendTo, afill, aeqL, teset, e0, e3, e4, inj_take, inj_drop, inj_agg, inj_len, inj_one, List.length_map]
    cases hc : decide ((j : Int) < (xs.length : Int)) with
    | false =>
      simp only [aw0, aw1, aw2, aw3, aw4, aw5, aw6, aw7, ne_eq, eq_self, implies_true, imp_self, reduceIte, reduceCtorEq, Nat.reduceAdd, Nat.reduceLT, Nat.reduceLeDiff, Nat.reduceEqDiff, Nat.reduceSub, Nat.reduceMul, Nat.reduceBEq, Int.reduceBEq, Int.reduceBNe, Int.reduceLT, Int.reduceLE, Int.reduceGT, Int.reduceGE, Int.reduceNeg, Int.reduceEq, Int.reduceNe, Int.reduceToNat, Int.reduceAdd, aconv, acvB, capR, acmpnil, appBox, storeB, ares1, appendTo, afill, aeqL, teset, e0, e3, e4, inj_take, inj_drop, inj_agg, inj_len, inj_one, List.length_map]
      simp only [decide_eq_false_iff_not] at hc
      rw [List.drop_eq_nil_of_le (by omega)] at hv
      rw [show valsA [] = [] from rfl, List.append_nil] at hv
      exact ⟨.refl _, _, rfl, by rw [hv]; rfl⟩
    | true =>
      simp only [decide_eq_true_eq] at hc
      have hj : j < xs.length := by omega
      have hget : (xs.map inj)[((j : Nat) : Int).toNat]? = some (inj xs[j]) := by simp [hj]
      rw [valsA_drop hj] at hv
      have hbx := BY.val xs[j]
      have hlv := congrArg List.length hv
      simp only [List.length_append] at hlv
      have hcat := catW hys hbx (by omega)
      simp only [aw0, aw1, aw2, aw3, aw4, aw5, aw6, aw7, ne_eq, eq_self, implies_true, imp_self, reduceIte, reduceCtorEq, Nat.reduceAdd, Nat.reduceLT, Nat.reduceLeDiff, Nat.reduceEqDiff, Nat.reduceSub, Nat.reduceMul, Nat.reduceBEq, Int.reduceBEq, Int.reduceBNe, Int.reduceLT, Int.reduceLE, Int.reduceGT, Int.reduceGE, Int.reduceNeg, Int.reduceEq, Int.reduceNe, Int.reduceToNat, Int.reduceAdd, aconv, acvB, capR, acmpnil, appBox, storeB, ares1, appendTo, afill, aeqL, teset, e0, e3, e4, inj_take, inj_drop, inj_agg, inj_len, inj_one, List.length_map, hget, Int.natCast_nonneg]
      refine ACallV.pure (refvalue_pure _ (hx _ (List.getElem_mem hj))) ?_
      simp only [aw0, aw1, aw2, aw3, aw4, aw5, aw6, aw7, ne_eq, eq_self, implies_true, imp_self, reduceIte, reduceCtorEq, Nat.reduceAdd, Nat.reduceLT, Nat.reduceLeDiff, Nat.reduceEqDiff, Nat.reduceSub, Nat.reduceMul, Nat.reduceBEq, Int.reduceBEq, Int.reduceBNe, Int.reduceLT, Int.reduceLE, Int.reduceGT, Int.reduceGE, Int.reduceNeg, Int.reduceEq, Int.reduceNe, Int.reduceToNat, Int.reduceAdd, aconv, acvB, capR, acmpnil, appBox, storeB, ares1, appendTo, afill, aeqL, teset, e0, e3, e4, abin_str, astr, hcat]
      refine ⟨n - 1, by omega, j + 1, ys ++ valA xs[j], ?_, by rw [wrap_succ (by omega)], by omega, BY.app hys hbx, ?_⟩
      · rw [sB_app hys hbx]
      · rw [List.append_assoc]; exact hv
theorem form_pure (xs : List V) (hl : xs.length < 4611686018427387904) : Pure Tryz.prog 24 [.sl .ro 5 (xs.map inj)] (.bool (validL xs)) := by
  refine Pure.of ⟨Tryz.f24, Tryz.func24, rfl, by kernel_rfl⟩ rfl (fun h => ?_)
  refine acalls_of te_ok [] Tryz.func24 (c := _) rfl (Nat.le_of_ble_eq_true rfl) ?_
  simp only [aw0, aw1, aw2, aw3, aw4, aw5, aw6, aw7, ne_eq, eq_self, implies_true, imp_self, reduceIte, reduceCtorEq, Nat.reduceAdd, Nat.reduceLT, Nat.reduceLeDiff, Nat.reduceEqDiff, Nat.reduceSub, Nat.reduceMul, Nat.reduceBEq, Int.reduceBEq, Int.reduceBNe, Int.reduceLT, Int.reduceLE, Int.reduceGT, Int.reduceGE, Int.reduceNeg, Int.reduceEq, Int.reduceNe, Int.reduceToNat, Int.reduceAdd, aconv, acvB, capR, acmpnil, appBox, storeB, ares1, appendTo, afill, aeqL, teset, Tryz.ntmps24, Tryz.results24, inj_take, inj_drop, inj_agg, inj_len, inj_one, List.length_map]
  cases hc : decide ((xs.length : Int) ≤ 200) with
  | false =>
    simp only [aw0, aw1, aw2, aw3, aw4, aw5, aw6, aw7, ne_eq, eq_self, implies_true, imp_self, reduceIte, reduceCtorEq, Nat.reduceAdd, Nat.reduceLT, Nat.reduceLeDiff, Nat.reduceEqDiff, Nat.reduceSub, Nat.reduceMul, Nat.reduceBEq, Int.reduceBEq, Int.reduceBNe, Int.reduceLT, Int.reduceLE, Int.reduceGT, Int.reduceGE, Int.reduceNeg, Int.reduceEq, Int.reduceNe, Int.reduceToNat, Int.reduceAdd, aconv, acvB, capR, acmpnil, appBox, storeB, ares1, appendTo, afill, aeqL, teset, inj_take, inj_drop, inj_agg, inj_len, inj_one, List.length_map]
    simp only [decide_eq_false_iff_not] at hc
    have : decide (xs.length ≤ 200) = false := by simp only [decide_eq_false_iff_not]; omega
    exact ⟨.refl _, _, rfl, by unfold validL; rw [this]; rfl⟩
  | true =>
    simp only [aw0, aw1, aw2, aw3, aw4, aw5, aw6, aw7, ne_eq, eq_self, implies_true, imp_self, reduceIte, reduceCtorEq, Nat.reduceAdd, Nat.reduceLT, Nat.reduceLeDiff, Nat.reduceEqDiff, Nat.reduceSub, Nat.reduceMul, Nat.reduceBEq, Int.reduceBEq, Int.reduceBNe, Int.reduceLT, Int.reduceLE, Int.reduceGT, Int.reduceGE, Int.reduceNeg, Int.reduceEq, Int.reduceNe, Int.reduceToNat, Int.reduceAdd, aconv, acvB, capR, acmpnil, appBox, storeB, ares1, appendTo, afill, aeqL, teset, inj_take, inj_drop, inj_agg, inj_len, inj_one, List.length_map]
    simp only [decide_eq_true_eq] at hc
    refine ACallV.pure (allvalid_pure xs hl) ?_
    simp only [aw0, aw1, aw2, aw3, aw4, aw5, aw6, aw7, ne_eq, eq_self, implies_true, imp_self, reduceIte, reduceCtorEq, Nat.reduceAdd, Nat.reduceLT, Nat.reduceLeDiff, Nat.reduceEqDiff, Nat.reduceSub, Nat.reduceMul, Nat.reduceBEq, Int.reduceBEq, Int.reduceBNe, Int.reduceLT, Int.reduceLE, Int.reduceGT, Int.reduceGE, Int.reduceNeg, Int.reduceEq, Int.reduceNe, Int.reduceToNat, Int.reduceAdd, aconv, acvB, capR, acmpnil, appBox, storeB, ares1, appendTo, afill, aeqL, teset]
    have : decide (xs.length ≤ 200) = true := by simp only [decide_eq_true_eq]; omega
    exact ⟨.refl _, _, rfl, by unfold validL; rw [this]; rfl⟩
theorem drop0 (v : V) : (inj v).cells = [.int .i64 v.kind, .int .i64 v.int, .str v.text, .sl .ro 5 (v.items.map inj), .sl .ro 1 (v.keys.map .str)] := by cases v; simp [inj_mk, AV.cells, V.kind, V.int, V.text, V.items, V.keys]
theorem refints_pure (xs : List V) (hl : xs.length < 4611686018427387904) : Pure Tryz.prog 25 [.sl .ro 5 (xs.map inj)] (.bool (intsL xs)) := by
  refine Pure.of ⟨Tryz.f25, Tryz.func25, rfl, by kernel_rfl⟩ rfl (fun h => ?_)
  refine acalls_of te_ok [] Tryz.func25 (c := _) rfl (Nat.le_of_ble_eq_true rfl) ?_
  simp only [aw0, aw1, aw2, aw3, aw4, aw5, aw6, aw7, ne_eq, eq_self, implies_true, imp_self, reduceIte, reduceCtorEq, Nat.reduceAdd, Nat.reduceLT, Nat.reduceLeDiff, Nat.reduceEqDiff, Nat.reduceSub, Nat.reduceMul, Nat.reduceBEq, Int.reduceBEq, Int.reduceBNe, Int.reduceLT, Int.reduceLE, Int.reduceGT, Int.reduceGE, Int.reduceNeg, Int.reduceEq, Int.reduceNe, Int.reduceToNat, Int.reduceAdd, aconv, acvB, capR, acmpnil, appBox, storeB, ares1, appendTo, afill, aeqL, teset, Tryz.ntmps25, Tryz.results25, inj_take, inj_drop, inj_agg, inj_len, inj_one, List.length_map]
  refine ⟨fun n s' h' => ∃ (j : Nat), s' 0 = .sl .ro 5 (xs.map inj) ∧ s' 3 = .int .i64 j ∧ h' = h ∧ n + j = xs.length ∧ intsL (xs.drop j) = intsL xs, ⟨xs.length, 0, ?_⟩, ?_⟩
  · simp only [aw0, aw1, aw2, aw3, aw4, aw5, aw6, aw7, ne_eq, eq_self, implies_true, imp_self, reduceIte, reduceCtorEq, Nat.reduceAdd, Nat.reduceLT, Nat.reduceLeDiff, Nat.reduceEqDiff, Nat.reduceSub, Nat.reduceMul, Nat.reduceBEq, Int.reduceBEq, Int.reduceBNe, Int.reduceLT, Int.reduceLE, Int.reduceGT, Int.reduceGE, Int.reduceNeg, Int.reduceEq, Int.reduceNe, Int.reduceToNat, Int.reduceAdd, aconv, acvB, capR, acmpnil, appBox, storeB, ares1, appendTo, afill, aeqL, teset, Int.natCast_zero, List.drop_zero]
    first | done | rfl
  · rintro n s' h' ⟨j, e0, e3, rfl, hn, ha⟩
    simp only [aw0, aw1, aw2, aw3, aw4, aw5, aw6, aw7, ne_eq, eq_self, implies_true, imp_self, reduceIte, reduceCtorEq, Nat.reduceAdd, Nat.reduceLT, Nat.reduceLeDiff, Nat.reduceEqDiff, Nat.reduceSub, Nat.reduceMul, Nat.reduceBEq, Int.reduceBEq, Int.reduceBNe, Int.reduceLT, Int.reduceLE, Int.reduceGT, Int.reduceGE, Int.reduceNeg, Int.reduceEq, Int.reduceNe, Int.reduceToNat, Int.reduceAdd, aconv, acvB, capR, acmpnil, appBox, storeB, ares1, appendTo, afill, aeqL, teset, e0, e3, inj_take, inj_drop, inj_agg, inj_len, inj_one, List.length_map]
    cases hc : decide ((j : Int) < (xs.length : Int)) with
    | false =>
      simp only [aw0, aw1, aw2, aw3, aw4, aw5, aw6, aw7, ne_eq, eq_self, implies_true, imp_self, reduceIte, reduceCtorEq, Nat.reduceAdd, Nat.reduceLT, Nat.reduceLeDiff, Nat.reduceEqDiff, Nat.reduceSub, Nat.reduceMul, Nat.reduceBEq, Int.reduceBEq, Int.reduceBNe, Int.reduceLT, Int.reduceLE, Int.reduceGT, Int.reduceGE, Int.reduceNeg, Int.reduceEq, Int.reduceNe, Int.reduceToNat, Int.reduceAdd, aconv, acvB, capR, acmpnil, appBox, storeB, ares1, appendTo, afill, aeqL, teset, e0, e3, inj_take, inj_drop, inj_agg, inj_len, inj_one, List.length_map]
      simp only [decide_eq_false_iff_not] at hc
      rw [List.drop_eq_nil_of_le (by omega)] at ha
      exact ⟨.refl _, _, rfl, by rw [← ha]; rfl⟩
    | true =>
      simp only [decide_eq_true_eq] at hc
      have hj : j < xs.length := by omega
      have hget : (xs.map inj)[((j : Nat) : Int).toNat]? = some (inj xs[j]) := by simp [hj]
      rw [List.drop_eq_getElem_cons hj, show intsL (xs[j] :: xs.drop (j + 1)) = (xs[j].kind == 2 && intsL (xs.drop (j + 1))) from rfl] at ha
      have hci := drop0 xs[j]
      simp only [aw0, aw1, aw2, aw3, aw4, aw5, aw6, aw7, ne_eq, eq_self, implies_true, imp_self, reduceIte, reduceCtorEq, Nat.reduceAdd, Nat.reduceLT, Nat.reduceLeDiff, Nat.reduceEqDiff, Nat.reduceSub, Nat.reduceMul, Nat.reduceBEq, Int.reduceBEq, Int.reduceBNe, Int.reduceLT, Int.reduceLE, Int.reduceGT, Int.reduceGE, Int.reduceNeg, Int.reduceEq, Int.reduceNe, Int.reduceToNat, Int.reduceAdd, aconv, acvB, capR, acmpnil, appBox, storeB, ares1, appendTo, afill, aeqL, teset, e0, e3, inj_take, inj_drop, inj_agg, inj_len, inj_one, List.length_map, hget, Int.natCast_nonneg, hci]
      cases hk : (xs[j].kind != 2) with
      | true =>
        have hk2 : (xs[j].kind == 2) = false := by simpa using hk
        rw [hk2, Bool.false_and] at ha
        simp only [aw0, aw1, aw2, aw3, aw4, aw5, aw6, aw7, ne_eq, eq_self, implies_true, imp_self, reduceIte, reduceCtorEq, Nat.reduceAdd, Nat.reduceLT, Nat.reduceLeDiff, Nat.reduceEqDiff, Nat.reduceSub, Nat.reduceMul, Nat.reduceBEq, Int.reduceBEq, Int.reduceBNe, Int.reduceLT, Int.reduceLE, Int.reduceGT, Int.reduceGE, Int.reduceNeg, Int.reduceEq, Int.reduceNe, Int.reduceToNat, Int.reduceAdd, aconv, acvB, capR, acmpnil, appBox, storeB, ares1, appendTo, afill, aeqL, teset, e0, e3, inj_take, inj_drop, inj_agg, inj_len, inj_one, List.length_map]
        exact ⟨.refl _, _, rfl, by rw [← ha]; rfl⟩
      | false =>
        have hk2 : (xs[j].kind == 2) = true := by simpa using hk
        rw [hk2, Bool.true_and] at ha
        simp only [aw0, aw1, aw2, aw3, aw4, aw5, aw6, aw7, ne_eq, eq_self, implies_true, imp_self, reduceIte, reduceCtorEq, Nat.reduceAdd, Nat.reduceLT, Nat.reduceLeDiff, Nat.reduceEqDiff, Nat.reduceSub, Nat.reduceMul, Nat.reduceBEq, Int.reduceBEq, Int.reduceBNe, Int.reduceLT, Int.reduceLE, Int.reduceGT, Int.reduceGE, Int.reduceNeg, Int.reduceEq, Int.reduceNe, Int.reduceToNat, Int.reduceAdd, aconv, acvB, capR, acmpnil, appBox, storeB, ares1, appendTo, afill, aeqL, teset, e0, e3, inj_take, inj_drop, inj_agg, inj_len, inj_one, List.length_map]
        exact ⟨n - 1, by omega, j + 1, by rw [wrap_succ (by omega)], by omega, ha⟩
def pI (xs : List V) (j : Nat) : Int := if j = 0 then 0 else ((xs[j-1]?.map V.int).getD 0)
theorem pI_succ {xs : List V} {j : Nat} (hj : j < xs.length) : pI xs (j + 1) = xs[j].int := by
  unfold pI
  rw [if_neg (by omega), Nat.add_sub_cancel, List.getElem?_eq_getElem hj]; rfl
set_option maxHeartbeats 4000000 in
theorem refdelta_pure (xs : List V) (hx : ∀ x ∈ xs, Vok x) (hl : xs.length ≤ 1000) : Pure Tryz.prog 39 [.sl .ro 5 (xs.map inj)] (.str (sB (deltaA xs))) := by
  have hbl := deltaL_len xs 0 hx (by omega) (by omega)
  have hnl := numA_len xs.length (by omega)
  have hpl : (deltaA xs).length ≤ 9 + 9 * xs.length := by unfold deltaA; rw [List.length_append]; omega
  refine Pure.of ⟨Tryz.f39, Tryz.func39, rfl, by kernel_rfl⟩ rfl (fun h => ?_)
  refine acalls_of te_ok [] Tryz.func39 (c := _) rfl (Nat.le_of_ble_eq_true rfl) ?_
  simp only [aw0, aw1, aw2, aw3, aw4, aw5, aw6, aw7, ne_eq, eq_self, implies_true, imp_self, reduceIte, reduceCtorEq, Nat.reduceAdd, Nat.reduceLT, Nat.reduceLeDiff, Nat.reduceEqDiff, Nat.reduceSub, Nat.reduceMul, Nat.reduceBEq, Int.reduceBEq, Int.reduceBNe, Int.reduceLT, Int.reduceLE, Int.reduceGT, Int.reduceGE, Int.reduceNeg, Int.reduceEq, Int.reduceNe, Int.reduceToNat, Int.reduceAdd, aconv, acvB, capR, acmpnil, appBox, storeB, ares1, appendTo, afill, aeqL, teset, Tryz.ntmps39, Tryz.results39, inj_take, inj_drop, inj_agg, inj_len, inj_one, List.length_map]
  refine ACallV.pure (count_pure xs.length (by omega)) ?_
  simp only [aw0, aw1, aw2, aw3, aw4, aw5, aw6, aw7, ne_eq, eq_self, implies_true, imp_self, reduceIte, reduceCtorEq, Nat.reduceAdd, Nat.reduceLT, Nat.reduceLeDiff, Nat.reduceEqDiff, Nat.reduceSub, Nat.reduceMul, Nat.reduceBEq, Int.reduceBEq, Int.reduceBNe, Int.reduceLT, Int.reduceLE, Int.reduceGT, Int.reduceGE, Int.reduceNeg, Int.reduceEq, Int.reduceNe, Int.reduceToNat, Int.reduceAdd, aconv, acvB, capR, acmpnil, appBox, storeB, ares1, appendTo, afill, aeqL, teset, sB_num]
  refine ⟨fun n s' h' => ∃ (j : Nat) (ys : List AV), s' 0 = .sl .ro 5 (xs.map inj) ∧ s' 3 = .str (sB ys) ∧ s' 4 = .int .i64 j ∧ h' = h ∧ n + j = xs.length ∧ BY ys ∧ ys ++ deltaL (pI xs j) (xs.drop j) = deltaA xs, ⟨xs.length, 0, numA xs.length, ?_⟩, ?_⟩
  · simp only [aw0, aw1, aw2, aw3, aw4, aw5, aw6, aw7, ne_eq, eq_self, implies_true, imp_self, reduceIte, reduceCtorEq, Nat.reduceAdd, Nat.reduceLT, Nat.reduceLeDiff, Nat.reduceEqDiff, Nat.reduceSub, Nat.reduceMul, Nat.reduceBEq, Int.reduceBEq, Int.reduceBNe, Int.reduceLT, Int.reduceLE, Int.reduceGT, Int.reduceGE, Int.reduceNeg, Int.reduceEq, Int.reduceNe, Int.reduceToNat, Int.reduceAdd, aconv, acvB, capR, acmpnil, appBox, storeB, ares1, appendTo, afill, aeqL, teset, Int.natCast_zero, List.drop_zero]
    exact ⟨BY.num _, rfl⟩
  · rintro n s' h' ⟨j, ys, e0, e3, e4, rfl, hn, hys, hv⟩
    simp only [aw0, aw1, aw2, aw3, aw4, aw5, aw6, aw7, ne_eq, eq_self, implies_true, imp_self, reduceIte, reduceCtorEq, Nat.reduceAdd, Nat.reduceLT, Nat.reduceLeDiff, Nat.reduceEqDiff, Nat.reduceSub, Nat.reduceMul, Nat.reduceBEq, Int.reduceBEq, Int.reduceBNe, Int.reduceLT, Int.reduceLE, Int.reduceGT, Int.reduceGE, Int.reduceNeg, Int.reduceEq, Int.reduceNe, Int.reduceToNat, Int.reduceAdd, aconv, acvB, capR, acmpnil, appBox, storeB, ares1, appendTo, afill, aeqL, teset, e0, e3, e4, inj_take, inj_drop, inj_agg, inj_len, inj_one, List.length_map]
    cases hc : decide ((j : Int) < (xs.length : Int)) with
    | false =>
      simp only [aw0, aw1, aw2, aw3, aw4, aw5, aw6, aw7, ne_eq, eq_self, implies_true, imp_self, reduceIte, reduceCtorEq, Nat.reduceAdd, Nat.reduceLT, Nat.reduceLeDiff, Nat.reduceEqDiff, Nat.reduceSub, Nat.reduceMul, Nat.reduceBEq, Int.reduceBEq, Int.reduceBNe, Int.reduceLT, Int.reduceLE, Int.reduceGT, Int.reduceGE, Int.reduceNeg, Int.reduceEq, Int.reduceNe, Int.reduceToNat, Int.reduceAdd, aconv, acvB, capR, acmpnil, appBox, storeB, ares1, appendTo, afill, aeqL, teset, e0, e3, e4, inj_take, inj_drop, inj_agg, inj_len, inj_one, List.length_map]
      simp only [decide_eq_false_iff_not] at hc
      rw [List.drop_eq_nil_of_le (by omega)] at hv
      simp only [deltaL, List.append_nil] at hv
      exact ⟨.refl _, _, rfl, by rw [hv]; rfl⟩
    | true =>
      simp only [decide_eq_true_eq] at hc
      have hj : j < xs.length := by omega
      have hget : (xs.map inj)[((j : Nat) : Int).toNat]? = some (inj xs[j]) := by simp [hj]
      have hvi := (hx _ (List.getElem_mem hj)).int
      rw [deltaL_drop hj] at hv
      have hlv := congrArg List.length hv
      simp only [List.length_append] at hlv
      have hbx := BY.num (zig (xs[j].int - pI xs j))
      have hcat := catW hys hbx (by omega)
      simp only [aw0, aw1, aw2, aw3, aw4, aw5, aw6, aw7, ne_eq, eq_self, implies_true, imp_self, reduceIte, reduceCtorEq, Nat.reduceAdd, Nat.reduceLT, Nat.reduceLeDiff, Nat.reduceEqDiff, Nat.reduceSub, Nat.reduceMul, Nat.reduceBEq, Int.reduceBEq, Int.reduceBNe, Int.reduceLT, Int.reduceLE, Int.reduceGT, Int.reduceGE, Int.reduceNeg, Int.reduceEq, Int.reduceNe, Int.reduceToNat, Int.reduceAdd, aconv, acvB, capR, acmpnil, appBox, storeB, ares1, appendTo, afill, aeqL, teset, e0, e3, e4, inj_take, inj_drop, inj_agg, inj_len, inj_one, List.length_map]
      cases h0 : ((j : Int) == 0) with
      | true =>
        have hj0 : j = 0 := by simpa using h0
        have hp : xs[j].int - pI xs j = xs[j].int := by unfold pI; rw [if_pos hj0]; omega
        rw [hp] at hv hbx hcat
        have hci := drop1 xs[j]
        simp only [aw0, aw1, aw2, aw3, aw4, aw5, aw6, aw7, ne_eq, eq_self, implies_true, imp_self, reduceIte, reduceCtorEq, Nat.reduceAdd, Nat.reduceLT, Nat.reduceLeDiff, Nat.reduceEqDiff, Nat.reduceSub, Nat.reduceMul, Nat.reduceBEq, Int.reduceBEq, Int.reduceBNe, Int.reduceLT, Int.reduceLE, Int.reduceGT, Int.reduceGE, Int.reduceNeg, Int.reduceEq, Int.reduceNe, Int.reduceToNat, Int.reduceAdd, aconv, acvB, capR, acmpnil, appBox, storeB, ares1, appendTo, afill, aeqL, teset, e0, e3, e4, inj_take, inj_drop, inj_agg, inj_len, inj_one, List.length_map, hget, Int.natCast_nonneg, hci]
        refine ACallV.pure (refint_pure xs[j].int (by omega) (by omega)) ?_
        simp only [aw0, aw1, aw2, aw3, aw4, aw5, aw6, aw7, ne_eq, eq_self, implies_true, imp_self, reduceIte, reduceCtorEq, Nat.reduceAdd, Nat.reduceLT, Nat.reduceLeDiff, Nat.reduceEqDiff, Nat.reduceSub, Nat.reduceMul, Nat.reduceBEq, Int.reduceBEq, Int.reduceBNe, Int.reduceLT, Int.reduceLE, Int.reduceGT, Int.reduceGE, Int.reduceNeg, Int.reduceEq, Int.reduceNe, Int.reduceToNat, Int.reduceAdd, aconv, acvB, capR, acmpnil, appBox, storeB, ares1, appendTo, afill, aeqL, teset, e0, e3, e4, abin_str, astr, hcat]
        refine ⟨n - 1, by omega, j + 1, ys ++ numA (zig xs[j].int), ?_, by rw [wrap_succ (by omega)], by omega, BY.app hys hbx, ?_⟩
        · rw [sB_app hys hbx]
        · rw [List.append_assoc, pI_succ hj]; exact hv
      | false =>
        have hj0 : j ≠ 0 := by simpa using h0
        obtain ⟨i, rfl⟩ : ∃ i, j = i + 1 := ⟨j - 1, by omega⟩
        have hi : i < xs.length := by omega
        have hget2 : (xs.map inj)[((i : Nat) : Int).toNat]? = some (inj xs[i]) := by simp [hi]
        have hwi : IntKind.i64.wrap (((i + 1 : Nat) : Int) - 1) = ((i : Nat) : Int) := by rw [wrap_i64 (by omega) (by omega)]; omega
        have hvj := (hx _ (List.getElem_mem hi)).int
        have hws : IntKind.i64.wrap (xs[i + 1].int - xs[i].int) = xs[i + 1].int - xs[i].int := wrap_i64 (by omega) (by omega)
        rw [pI_succ hi] at hv hbx hcat
        simp only [aw0, aw1, aw2, aw3, aw4, aw5, aw6, aw7, ne_eq, eq_self, implies_true, imp_self, reduceIte, reduceCtorEq, Nat.reduceAdd, Nat.reduceLT, Nat.reduceLeDiff, Nat.reduceEqDiff, Nat.reduceSub, Nat.reduceMul, Nat.reduceBEq, Int.reduceBEq, Int.reduceBNe, Int.reduceLT, Int.reduceLE, Int.reduceGT, Int.reduceGE, Int.reduceNeg, Int.reduceEq, Int.reduceNe, Int.reduceToNat, Int.reduceAdd, aconv, acvB, capR, acmpnil, appBox, storeB, ares1, appendTo, afill, aeqL, teset, e0, e3, e4, inj_take, inj_drop, inj_agg, inj_len, inj_one, List.length_map]
        refine acode_draw_chain te_ok mixed [] (by kernel_rfl) ?_
        have hci := drop1 xs[i + 1]
        have hci2 := drop1 xs[i]
        simp only [aw0, aw1, aw2, aw3, aw4, aw5, aw6, aw7, ne_eq, eq_self, implies_true, imp_self, reduceIte, reduceCtorEq, Nat.reduceAdd, Nat.reduceLT, Nat.reduceLeDiff, Nat.reduceEqDiff, Nat.reduceSub, Nat.reduceMul, Nat.reduceBEq, Int.reduceBEq, Int.reduceBNe, Int.reduceLT, Int.reduceLE, Int.reduceGT, Int.reduceGE, Int.reduceNeg, Int.reduceEq, Int.reduceNe, Int.reduceToNat, Int.reduceAdd, aconv, acvB, capR, acmpnil, appBox, storeB, ares1, appendTo, afill, aeqL, teset, e0, e3, e4, inj_take, inj_drop, inj_agg, inj_len, inj_one, List.length_map, hget, hget2, Int.natCast_nonneg, hci, hci2, hwi, hws]
        refine skR_pure (refint_pure (xs[i + 1].int - xs[i].int) (by omega) (by omega)) ?_
        simp only [aw0, aw1, aw2, aw3, aw4, aw5, aw6, aw7, ne_eq, eq_self, implies_true, imp_self, reduceIte, reduceCtorEq, Nat.reduceAdd, Nat.reduceLT, Nat.reduceLeDiff, Nat.reduceEqDiff, Nat.reduceSub, Nat.reduceMul, Nat.reduceBEq, Int.reduceBEq, Int.reduceBNe, Int.reduceLT, Int.reduceLE, Int.reduceGT, Int.reduceGE, Int.reduceNeg, Int.reduceEq, Int.reduceNe, Int.reduceToNat, Int.reduceAdd, aconv, acvB, capR, acmpnil, appBox, storeB, ares1, appendTo, afill, aeqL, teset, e0, e3, e4, abin_str, astr, hcat]
        refine ⟨n - 1, by omega, i + 1 + 1, ys ++ numA (zig (xs[i + 1].int - xs[i].int)), ?_, by rw [wrap_succ (by omega)], by omega, BY.app hys hbx, ?_⟩
        · rw [sB_app hys hbx]
        · rw [List.append_assoc, pI_succ hj]; exact hv
end Go.Proofs.YtlbhgoffiigfbaaGreat.AW
end
section
set_option linter.unusedSimpArgs false
set_option linter.unusedVariables false
namespace Go.Proofs.YtlbhgoffiigfbaaGreat.AW
open Go Go.RowKit

theorem ord_anti {a b : V} (ha : Vok a) (hb : Vok b) : ord b a = - ord a b := by rw [ord_eq _ _ hb ha, ord_eq _ _ ha hb, ordN_anti]
theorem ord_self {a : V} (ha : Vok a) : ord a a = 0 := by rw [ord_eq _ _ ha ha, ordN_self]
theorem runs_next {xs : List V} {i m : Nat} (hi : i < xs.length) (h : i + headN xs[i] (xs.drop i) = m) (h0 : ord xs[i] xs[i] = 0) : i < m ∧ runsL (xs.drop i) = (m - i, xs[i]) :: runsL (xs.drop m) := by
  rw [headN_step hi, if_pos h0] at h
  refine ⟨by omega, ?_⟩
  rw [List.drop_eq_getElem_cons hi, runsL_cons, List.drop_drop, show i + 1 + headN xs[i] (xs.drop (i + 1)) = m by omega, show 1 + headN xs[i] (xs.drop (i + 1)) = m - i by omega]
set_option maxHeartbeats 4000000 in
theorem refruns_pure (xs : List V) (hx : ∀ x ∈ xs, Vok x) (hl : xs.length ≤ 1000) : Pure Tryz.prog 37 [.sl .ro 5 (xs.map inj)] (.str (sB (runsA xs))) := by
  have hbl := runB_len xs.length xs (Nat.le_refl _) hl hx
  have hrl := runsL_len xs.length xs (Nat.le_refl _)
  have hcl := numA_len (runsL xs).length (by omega)
  refine Pure.of ⟨Tryz.f37, Tryz.func37, rfl, by kernel_rfl⟩ rfl (fun h => ?_)
  refine acalls_of te_ok [] Tryz.func37 (c := _) rfl (Nat.le_of_ble_eq_true rfl) ?_
  simp only [aw0, aw1, aw2, aw3, aw4, aw5, aw6, aw7, ne_eq, eq_self, implies_true, imp_self, reduceIte, reduceCtorEq, Nat.reduceAdd, Nat.reduceLT, Nat.reduceLeDiff, Nat.reduceEqDiff, Nat.reduceSub, Nat.reduceMul, Nat.reduceBEq, Int.reduceBEq, Int.reduceBNe, Int.reduceLT, Int.reduceLE, Int.reduceGT, Int.reduceGE, Int.reduceNeg, Int.reduceEq, Int.reduceNe, Int.reduceToNat, Int.reduceAdd, aconv, acvB, capR, acmpnil, appBox, storeB, ares1, appendTo, afill, aeqL, teset, Tryz.ntmps37, Tryz.results37, inj_take, inj_drop, inj_agg, inj_len, inj_one, List.length_map]
  refine ⟨fun n s' h' => ∃ (i c : Nat) (ys : List AV), s' 0 = .sl .ro 5 (xs.map inj) ∧ s' 3 = .str (sB ys) ∧ s' 4 = .int .i64 c ∧ s' 5 = .int .i64 i ∧ h' = h ∧ n + i = xs.length ∧ BY ys ∧ ys ++ runB (runsL (xs.drop i)) = runB (runsL xs) ∧ c + (runsL (xs.drop i)).length = (runsL xs).length, ⟨xs.length, 0, 0, [], ?_⟩, ?_⟩
  · simp only [aw0, aw1, aw2, aw3, aw4, aw5, aw6, aw7, ne_eq, eq_self, implies_true, imp_self, reduceIte, reduceCtorEq, Nat.reduceAdd, Nat.reduceLT, Nat.reduceLeDiff, Nat.reduceEqDiff, Nat.reduceSub, Nat.reduceMul, Nat.reduceBEq, Int.reduceBEq, Int.reduceBNe, Int.reduceLT, Int.reduceLE, Int.reduceGT, Int.reduceGE, Int.reduceNeg, Int.reduceEq, Int.reduceNe, Int.reduceToNat, Int.reduceAdd, aconv, acvB, capR, acmpnil, appBox, storeB, ares1, appendTo, afill, aeqL, teset, Int.natCast_zero, List.drop_zero, List.nil_append, Nat.zero_add]
    exact ⟨rfl, BY.nil⟩
  · rintro n s' h' ⟨i, c, ys, e0, e3, e4, e5, rfl, hn, hys, hv, hcnt⟩
    simp only [aw0, aw1, aw2, aw3, aw4, aw5, aw6, aw7, ne_eq, eq_self, implies_true, imp_self, reduceIte, reduceCtorEq, Nat.reduceAdd, Nat.reduceLT, Nat.reduceLeDiff, Nat.reduceEqDiff, Nat.reduceSub, Nat.reduceMul, Nat.reduceBEq, Int.reduceBEq, Int.reduceBNe, Int.reduceLT, Int.reduceLE, Int.reduceGT, Int.reduceGE, Int.reduceNeg, Int.reduceEq, Int.reduceNe, Int.reduceToNat, Int.reduceAdd, aconv, acvB, capR, acmpnil, appBox, storeB, ares1, appendTo, afill, aeqL, teset, e0, e3, e4, e5, inj_take, inj_drop, inj_agg, inj_len, inj_one, List.length_map]
    cases hc : decide ((i : Int) < (xs.length : Int)) with
    | false =>
      simp only [aw0, aw1, aw2, aw3, aw4, aw5, aw6, aw7, ne_eq, eq_self, implies_true, imp_self, reduceIte, reduceCtorEq, Nat.reduceAdd, Nat.reduceLT, Nat.reduceLeDiff, Nat.reduceEqDiff, Nat.reduceSub, Nat.reduceMul, Nat.reduceBEq, Int.reduceBEq, Int.reduceBNe, Int.reduceLT, Int.reduceLE, Int.reduceGT, Int.reduceGE, Int.reduceNeg, Int.reduceEq, Int.reduceNe, Int.reduceToNat, Int.reduceAdd, aconv, acvB, capR, acmpnil, appBox, storeB, ares1, appendTo, afill, aeqL, teset, e0, e3, e4, e5, inj_take, inj_drop, inj_agg, inj_len, inj_one, List.length_map]
      simp only [decide_eq_false_iff_not] at hc
      rw [List.drop_eq_nil_of_le (by omega), runsL_nil] at hv hcnt
      rw [show runB [] = [] from rfl, List.append_nil] at hv
      have hcn : c = (runsL xs).length := by simpa using hcnt
      subst hv
      have hcat := catW (BY.num c) hys (by rw [hcn]; omega)
      refine ACallV.pure (count_pure c (by omega)) ?_
      simp only [aw0, aw1, aw2, aw3, aw4, aw5, aw6, aw7, ne_eq, eq_self, implies_true, imp_self, reduceIte, reduceCtorEq, Nat.reduceAdd, Nat.reduceLT, Nat.reduceLeDiff, Nat.reduceEqDiff, Nat.reduceSub, Nat.reduceMul, Nat.reduceBEq, Int.reduceBEq, Int.reduceBNe, Int.reduceLT, Int.reduceLE, Int.reduceGT, Int.reduceGE, Int.reduceNeg, Int.reduceEq, Int.reduceNe, Int.reduceToNat, Int.reduceAdd, aconv, acvB, capR, acmpnil, appBox, storeB, ares1, appendTo, afill, aeqL, teset, sB_num, abin_str, astr, hcat, e3]
      refine ⟨.refl _, _, rfl, ?_⟩
      rw [sB_app (BY.num _) hys, hcn]; rfl
    | true =>
      simp only [decide_eq_true_eq] at hc
      have hi : i < xs.length := by omega
      have hoki := hx _ (List.getElem_mem hi)
      have hget : (xs.map inj)[((i : Nat) : Int).toNat]? = some (inj xs[i]) := by simp [hi]
      simp only [aw0, aw1, aw2, aw3, aw4, aw5, aw6, aw7, ne_eq, eq_self, implies_true, imp_self, reduceIte, reduceCtorEq, Nat.reduceAdd, Nat.reduceLT, Nat.reduceLeDiff, Nat.reduceEqDiff, Nat.reduceSub, Nat.reduceMul, Nat.reduceBEq, Int.reduceBEq, Int.reduceBNe, Int.reduceLT, Int.reduceLE, Int.reduceGT, Int.reduceGE, Int.reduceNeg, Int.reduceEq, Int.reduceNe, Int.reduceToNat, Int.reduceAdd, aconv, acvB, capR, acmpnil, appBox, storeB, ares1, appendTo, afill, aeqL, teset, e0, e3, e4, e5, inj_take, inj_drop, inj_agg, inj_len, inj_one, List.length_map]
      refine ⟨fun n2 s2 h2 => ∃ (m : Nat), s2 0 = .sl .ro 5 (xs.map inj) ∧ s2 3 = .str (sB ys) ∧ s2 4 = .int .i64 c ∧ s2 5 = .int .i64 i ∧ s2 6 = .int .i64 m ∧ h2 = h' ∧ n2 + m = xs.length ∧ i + headN xs[i] (xs.drop i) = m + headN xs[i] (xs.drop m), ⟨n, i, ?_⟩, ?_⟩
      · simp only [aw0, aw1, aw2, aw3, aw4, aw5, aw6, aw7, ne_eq, eq_self, implies_true, imp_self, reduceIte, reduceCtorEq, Nat.reduceAdd, Nat.reduceLT, Nat.reduceLeDiff, Nat.reduceEqDiff, Nat.reduceSub, Nat.reduceMul, Nat.reduceBEq, Int.reduceBEq, Int.reduceBNe, Int.reduceLT, Int.reduceLE, Int.reduceGT, Int.reduceGE, Int.reduceNeg, Int.reduceEq, Int.reduceNe, Int.reduceToNat, Int.reduceAdd, aconv, acvB, capR, acmpnil, appBox, storeB, ares1, appendTo, afill, aeqL, teset, e0, e3, e4, e5]
        first | done | omega
      · rintro n2 s2 h2 ⟨m, f0, f3, f4, f5, f6, rfl, hn2, hm⟩
        simp only [aw0, aw1, aw2, aw3, aw4, aw5, aw6, aw7, ne_eq, eq_self, implies_true, imp_self, reduceIte, reduceCtorEq, Nat.reduceAdd, Nat.reduceLT, Nat.reduceLeDiff, Nat.reduceEqDiff, Nat.reduceSub, Nat.reduceMul, Nat.reduceBEq, Int.reduceBEq, Int.reduceBNe, Int.reduceLT, Int.reduceLE, Int.reduceGT, Int.reduceGE, Int.reduceNeg, Int.reduceEq, Int.reduceNe, Int.reduceToNat, Int.reduceAdd, aconv, acvB, capR, acmpnil, appBox, storeB, ares1, appendTo, afill, aeqL, teset, f0, f3, f4, f5, f6, inj_take, inj_drop, inj_agg, inj_len, inj_one, List.length_map]
        refine acode_draw_chain te_ok mixed [] (by kernel_rfl) ?_
        simp only [aw0, aw1, aw2, aw3, aw4, aw5, aw6, aw7, ne_eq, eq_self, implies_true, imp_self, reduceIte, reduceCtorEq, Nat.reduceAdd, Nat.reduceLT, Nat.reduceLeDiff, Nat.reduceEqDiff, Nat.reduceSub, Nat.reduceMul, Nat.reduceBEq, Int.reduceBEq, Int.reduceBNe, Int.reduceLT, Int.reduceLE, Int.reduceGT, Int.reduceGE, Int.reduceNeg, Int.reduceEq, Int.reduceNe, Int.reduceToNat, Int.reduceAdd, aconv, acvB, capR, acmpnil, appBox, storeB, ares1, appendTo, afill, aeqL, teset, f0, f3, f4, f5, f6, inj_take, inj_drop, inj_agg, inj_len, inj_one, List.length_map]
        have hexit : True := trivial
        cases hc2 : decide ((m : Int) < (xs.length : Int)) with
        | false =>
          simp only [decide_eq_false_iff_not] at hc2
          have h0 : headN xs[i] (xs.drop m) = 0 := by rw [List.drop_eq_nil_of_le (by omega)]; rfl
          rw [h0, Nat.add_zero] at hm
          obtain ⟨him, hru⟩ := runs_next hi hm (ord_self hoki)
          simp only [aw0, aw1, aw2, aw3, aw4, aw5, aw6, aw7, ne_eq, eq_self, implies_true, imp_self, reduceIte, reduceCtorEq, Nat.reduceAdd, Nat.reduceLT, Nat.reduceLeDiff, Nat.reduceEqDiff, Nat.reduceSub, Nat.reduceMul, Nat.reduceBEq, Int.reduceBEq, Int.reduceBNe, Int.reduceLT, Int.reduceLE, Int.reduceGT, Int.reduceGE, Int.reduceNeg, Int.reduceEq, Int.reduceNe, Int.reduceToNat, Int.reduceAdd, aconv, acvB, capR, acmpnil, appBox, storeB, ares1, appendTo, afill, aeqL, teset, f0, f3, f4, f5, f6, inj_take, inj_drop, inj_agg, inj_len, inj_one, List.length_map]
          have hws : IntKind.i64.wrap ((m : Int) - (i : Int)) = ((m - i : Nat) : Int) := by rw [wrap_i64 (by omega) (by omega)]; omega
          rw [hru] at hv hcnt
          rw [show runB ((m - i, xs[i]) :: runsL (xs.drop m)) = (numA (m - i) ++ valA xs[i]) ++ runB (runsL (xs.drop m)) from rfl] at hv
          rw [List.length_cons] at hcnt
          have hlv := congrArg List.length hv
          simp only [List.length_append] at hlv
          have hb1 := BY.num (m - i)
          have hb2 := BY.val xs[i]
          have hcat1 := catW hys hb1 (by omega)
          have hcat2 : (sB ys ++ sB (numA (m - i))).size + (sB (valA xs[i])).size ≤ 9223372036854775807 := by
            rw [sB_app hys hb1]
            exact catW (BY.app hys hb1) hb2 (by rw [List.length_append]; omega)
          refine acode_draw_chain te_ok mixed [] (by kernel_rfl) ?_
          simp only [aw0, aw1, aw2, aw3, aw4, aw5, aw6, aw7, ne_eq, eq_self, implies_true, imp_self, reduceIte, reduceCtorEq, Nat.reduceAdd, Nat.reduceLT, Nat.reduceLeDiff, Nat.reduceEqDiff, Nat.reduceSub, Nat.reduceMul, Nat.reduceBEq, Int.reduceBEq, Int.reduceBNe, Int.reduceLT, Int.reduceLE, Int.reduceGT, Int.reduceGE, Int.reduceNeg, Int.reduceEq, Int.reduceNe, Int.reduceToNat, Int.reduceAdd, aconv, acvB, capR, acmpnil, appBox, storeB, ares1, appendTo, afill, aeqL, teset, f0, f3, f4, f5, f6, inj_take, inj_drop, inj_agg, inj_len, inj_one, List.length_map, hws, hget, Int.natCast_nonneg]
          refine skR_pure (count_pure (m - i) (by omega)) ?_
          simp only [aw0, aw1, aw2, aw3, aw4, aw5, aw6, aw7, ne_eq, eq_self, implies_true, imp_self, reduceIte, reduceCtorEq, Nat.reduceAdd, Nat.reduceLT, Nat.reduceLeDiff, Nat.reduceEqDiff, Nat.reduceSub, Nat.reduceMul, Nat.reduceBEq, Int.reduceBEq, Int.reduceBNe, Int.reduceLT, Int.reduceLE, Int.reduceGT, Int.reduceGE, Int.reduceNeg, Int.reduceEq, Int.reduceNe, Int.reduceToNat, Int.reduceAdd, aconv, acvB, capR, acmpnil, appBox, storeB, ares1, appendTo, afill, aeqL, teset, sB_num, f0, f3, f4, f5, f6, inj_take, inj_drop, inj_agg, inj_len, inj_one, List.length_map, hget, Int.natCast_nonneg, abin_str, astr, hcat1]
          refine skR_pure (refvalue_pure _ hoki) ?_
          simp only [aw0, aw1, aw2, aw3, aw4, aw5, aw6, aw7, ne_eq, eq_self, implies_true, imp_self, reduceIte, reduceCtorEq, Nat.reduceAdd, Nat.reduceLT, Nat.reduceLeDiff, Nat.reduceEqDiff, Nat.reduceSub, Nat.reduceMul, Nat.reduceBEq, Int.reduceBEq, Int.reduceBNe, Int.reduceLT, Int.reduceLE, Int.reduceGT, Int.reduceGE, Int.reduceNeg, Int.reduceEq, Int.reduceNe, Int.reduceToNat, Int.reduceAdd, aconv, acvB, capR, acmpnil, appBox, storeB, ares1, appendTo, afill, aeqL, teset, f0, f3, f4, f5, f6, inj_take, inj_drop, inj_agg, inj_len, inj_one, List.length_map, abin_str, astr, hcat2]
          refine ⟨xs.length - m, by omega, m, c + 1, ys ++ numA (m - i) ++ valA xs[i], ?_, by rw [wrap_succ (by omega)], rfl, by omega, BY.app (BY.app hys hb1) hb2, ?_, by omega⟩
          · rw [sB_app hys hb1, sB_app (BY.app hys hb1) hb2]
          · rw [← hv]; simp only [List.append_assoc]
        | true =>
          simp only [decide_eq_true_eq] at hc2
          have hmj : m < xs.length := by omega
          have hokm := hx _ (List.getElem_mem hmj)
          have hgm : (xs.map inj)[((m : Nat) : Int).toNat]? = some (inj xs[m]) := by simp [hmj]
          simp only [aw0, aw1, aw2, aw3, aw4, aw5, aw6, aw7, ne_eq, eq_self, implies_true, imp_self, reduceIte, reduceCtorEq, Nat.reduceAdd, Nat.reduceLT, Nat.reduceLeDiff, Nat.reduceEqDiff, Nat.reduceSub, Nat.reduceMul, Nat.reduceBEq, Int.reduceBEq, Int.reduceBNe, Int.reduceLT, Int.reduceLE, Int.reduceGT, Int.reduceGE, Int.reduceNeg, Int.reduceEq, Int.reduceNe, Int.reduceToNat, Int.reduceAdd, aconv, acvB, capR, acmpnil, appBox, storeB, ares1, appendTo, afill, aeqL, teset, f0, f3, f4, f5, f6, inj_take, inj_drop, inj_agg, inj_len, inj_one, List.length_map, hget, hgm, Int.natCast_nonneg]
          refine skR_pure (refequal_pure xs[m] xs[i] hokm hoki) ?_
          cases hq : (ord xs[m] xs[i] == 0) with
          | false =>
            have hq2 : ord xs[m] xs[i] ≠ 0 := by simpa using hq
            have h0 : headN xs[i] (xs.drop m) = 0 := by
              rw [headN_step hmj, if_neg]
              rw [ord_anti hokm hoki]; omega
            rw [h0, Nat.add_zero] at hm
            obtain ⟨him, hru⟩ := runs_next hi hm (ord_self hoki)
            simp only [aw0, aw1, aw2, aw3, aw4, aw5, aw6, aw7, ne_eq, eq_self, implies_true, imp_self, reduceIte, reduceCtorEq, Nat.reduceAdd, Nat.reduceLT, Nat.reduceLeDiff, Nat.reduceEqDiff, Nat.reduceSub, Nat.reduceMul, Nat.reduceBEq, Int.reduceBEq, Int.reduceBNe, Int.reduceLT, Int.reduceLE, Int.reduceGT, Int.reduceGE, Int.reduceNeg, Int.reduceEq, Int.reduceNe, Int.reduceToNat, Int.reduceAdd, aconv, acvB, capR, acmpnil, appBox, storeB, ares1, appendTo, afill, aeqL, teset, f0, f3, f4, f5, f6, inj_take, inj_drop, inj_agg, inj_len, inj_one, List.length_map]
            have hws : IntKind.i64.wrap ((m : Int) - (i : Int)) = ((m - i : Nat) : Int) := by rw [wrap_i64 (by omega) (by omega)]; omega
            rw [hru] at hv hcnt
            rw [show runB ((m - i, xs[i]) :: runsL (xs.drop m)) = (numA (m - i) ++ valA xs[i]) ++ runB (runsL (xs.drop m)) from rfl] at hv
            rw [List.length_cons] at hcnt
            have hlv := congrArg List.length hv
            simp only [List.length_append] at hlv
            have hb1 := BY.num (m - i)
            have hb2 := BY.val xs[i]
            have hcat1 := catW hys hb1 (by omega)
            have hcat2 : (sB ys ++ sB (numA (m - i))).size + (sB (valA xs[i])).size ≤ 9223372036854775807 := by
              rw [sB_app hys hb1]
              exact catW (BY.app hys hb1) hb2 (by rw [List.length_append]; omega)
            refine acode_draw_chain te_ok mixed [] (by kernel_rfl) ?_
            simp only [aw0, aw1, aw2, aw3, aw4, aw5, aw6, aw7, ne_eq, eq_self, implies_true, imp_self, reduceIte, reduceCtorEq, Nat.reduceAdd, Nat.reduceLT, Nat.reduceLeDiff, Nat.reduceEqDiff, Nat.reduceSub, Nat.reduceMul, Nat.reduceBEq, Int.reduceBEq, Int.reduceBNe, Int.reduceLT, Int.reduceLE, Int.reduceGT, Int.reduceGE, Int.reduceNeg, Int.reduceEq, Int.reduceNe, Int.reduceToNat, Int.reduceAdd, aconv, acvB, capR, acmpnil, appBox, storeB, ares1, appendTo, afill, aeqL, teset, f0, f3, f4, f5, f6, inj_take, inj_drop, inj_agg, inj_len, inj_one, List.length_map, hws, hget, Int.natCast_nonneg]
            refine skR_pure (count_pure (m - i) (by omega)) ?_
            simp only [aw0, aw1, aw2, aw3, aw4, aw5, aw6, aw7, ne_eq, eq_self, implies_true, imp_self, reduceIte, reduceCtorEq, Nat.reduceAdd, Nat.reduceLT, Nat.reduceLeDiff, Nat.reduceEqDiff, Nat.reduceSub, Nat.reduceMul, Nat.reduceBEq, Int.reduceBEq, Int.reduceBNe, Int.reduceLT, Int.reduceLE, Int.reduceGT, Int.reduceGE, Int.reduceNeg, Int.reduceEq, Int.reduceNe, Int.reduceToNat, Int.reduceAdd, aconv, acvB, capR, acmpnil, appBox, storeB, ares1, appendTo, afill, aeqL, teset, sB_num, f0, f3, f4, f5, f6, inj_take, inj_drop, inj_agg, inj_len, inj_one, List.length_map, hget, Int.natCast_nonneg, abin_str, astr, hcat1]
            refine skR_pure (refvalue_pure _ hoki) ?_
            simp only [aw0, aw1, aw2, aw3, aw4, aw5, aw6, aw7, ne_eq, eq_self, implies_true, imp_self, reduceIte, reduceCtorEq, Nat.reduceAdd, Nat.reduceLT, Nat.reduceLeDiff, Nat.reduceEqDiff, Nat.reduceSub, Nat.reduceMul, Nat.reduceBEq, Int.reduceBEq, Int.reduceBNe, Int.reduceLT, Int.reduceLE, Int.reduceGT, Int.reduceGE, Int.reduceNeg, Int.reduceEq, Int.reduceNe, Int.reduceToNat, Int.reduceAdd, aconv, acvB, capR, acmpnil, appBox, storeB, ares1, appendTo, afill, aeqL, teset, f0, f3, f4, f5, f6, inj_take, inj_drop, inj_agg, inj_len, inj_one, List.length_map, abin_str, astr, hcat2]
            refine ⟨xs.length - m, by omega, m, c + 1, ys ++ numA (m - i) ++ valA xs[i], ?_, by rw [wrap_succ (by omega)], rfl, by omega, BY.app (BY.app hys hb1) hb2, ?_, by omega⟩
            · rw [sB_app hys hb1, sB_app (BY.app hys hb1) hb2]
            · rw [← hv]; simp only [List.append_assoc]
          | true =>
            have hq2 : ord xs[m] xs[i] = 0 := by simpa using hq
            have hst : headN xs[i] (xs.drop m) = 1 + headN xs[i] (xs.drop (m + 1)) := by
              rw [headN_step hmj, if_pos]
              rw [ord_anti hokm hoki]; omega
            simp only [aw0, aw1, aw2, aw3, aw4, aw5, aw6, aw7, ne_eq, eq_self, implies_true, imp_self, reduceIte, reduceCtorEq, Nat.reduceAdd, Nat.reduceLT, Nat.reduceLeDiff, Nat.reduceEqDiff, Nat.reduceSub, Nat.reduceMul, Nat.reduceBEq, Int.reduceBEq, Int.reduceBNe, Int.reduceLT, Int.reduceLE, Int.reduceGT, Int.reduceGE, Int.reduceNeg, Int.reduceEq, Int.reduceNe, Int.reduceToNat, Int.reduceAdd, aconv, acvB, capR, acmpnil, appBox, storeB, ares1, appendTo, afill, aeqL, teset, f0, f3, f4, f5, f6, inj_take, inj_drop, inj_agg, inj_len, inj_one, List.length_map]
            exact ⟨n2 - 1, by omega, m + 1, by rw [wrap_succ (by omega)], by omega, by omega⟩
end Go.Proofs.YtlbhgoffiigfbaaGreat.AW
end
section
set_option linter.unusedSimpArgs false
set_option linter.unusedVariables false
namespace Go.Proofs.YtlbhgoffiigfbaaGreat.AW
open Go Go.RowKit

theorem injs_und (xs : List V) : AV.underL 0 0 (xs.map inj) = true := by
  induction xs with
  | nil => rfl
  | cons k ks ih => simp [AV.underL, inj_under, ih]
def Own5 (h : AH) (t0 : Nat) (a : AV) (l : List V) : Prop := (a = .sl .full 0 [] ∧ l = []) ∨ ∃ t G, a = .sl (.tok t G) 5 (l.map inj) ∧ h.tok t = some G ∧ t0 ≤ t
theorem Own5.wk {h : AH} {t0 : Nat} {a : AV} {l : List V} (ho : Own5 h t0 a l) : Wk a (.sl .ro 5 (l.map inj)) := by
  rcases ho with ⟨rfl, rfl⟩ | ⟨t, G, rfl, _, _⟩
  · exact wk_nil5
  · exact .ro
theorem merge_a {a b : List V} {i k : Nat} (hi : i < a.length) (h : b.length ≤ k ∨ ∃ hk : k < b.length, leV a[i] b[k] = true) : (a.drop i).merge (b.drop k) leV = a[i] :: (a.drop (i + 1)).merge (b.drop k) leV := by
  rw [List.drop_eq_getElem_cons hi]
  rcases h with h | ⟨hk, hle⟩
  · rw [List.drop_eq_nil_of_le h, List.merge_right, List.merge_right]
  · rw [List.drop_eq_getElem_cons hk, List.cons_merge_cons, if_pos hle]
theorem merge_b {a b : List V} {i k : Nat} (hk : k < b.length) (h : a.length ≤ i ∨ ∃ hi : i < a.length, leV a[i] b[k] = false) : (a.drop i).merge (b.drop k) leV = b[k] :: (a.drop i).merge (b.drop (k + 1)) leV := by
  rw [List.drop_eq_getElem_cons hk]
  rcases h with h | ⟨hi, hle⟩
  · rw [List.drop_eq_nil_of_le h, List.nil_merge, List.nil_merge]
  · rw [List.drop_eq_getElem_cons hi, List.cons_merge_cons, if_neg (by rw [hle]; decide)]
theorem sort_halves {xs : List V} (hx : ∀ x ∈ xs, Vok x) (m : Nat) : (sortV (xs.take m)).merge (sortV (xs.drop m)) leV = sortV xs := by
  have hp : ((sortV (xs.take m)).merge (sortV (xs.drop m)) leV).Perm xs := by
    refine (List.merge_perm_append leV).trans ?_
    refine ((sortV_perm _).append (sortV_perm _)).trans ?_
    rw [List.take_append_drop]
  refine sorted_one (fun a ha => hx a (hp.mem_iff.1 ha)) (hp.trans (sortV_perm xs).symm) ?_ (sortV_sorted xs)
  exact List.pairwise_merge leV_trans leV_total _ _ (sortV_sorted _) (sortV_sorted _)
theorem le_ord {a b : V} (ha : Vok a) (hb : Vok b) : decide (ord a b ≤ 0) = leV a b := by unfold leV; rw [ord_eq _ _ ha hb]
set_option maxHeartbeats 8000000 in
theorem refsorted_pure : ∀ (n : Nat) (xs : List V), xs.length < n → n ≤ 1001 → (∀ x ∈ xs, Vok x) → Pure Tryz.prog 63 [.sl .ro 5 (xs.map inj)] (.sl .ro 5 ((sortV xs).map inj)) := by
  intro n
  induction n with
  | zero => intro xs h0; exact absurd h0 (Nat.not_lt_zero _)
  | succ n ih =>
    intro xs hn h1000 hx
    refine Pure.ofW ⟨Tryz.f63, Tryz.func63, rfl, by kernel_rfl⟩ (by simp only [AV.under]; exact injs_und _) (fun h hsc => ?_)
    refine acalls_of te_ok [31, 32, 33, 34] Tryz.func63 (c := _) rfl (Nat.le_of_ble_eq_true rfl) ?_
    simp only [aw0, aw1, aw2, aw3, aw4, aw5, aw6, aw7, ne_eq, eq_self, implies_true, imp_self, reduceIte, reduceCtorEq, Nat.reduceAdd, Nat.reduceLT, Nat.reduceLeDiff, Nat.reduceEqDiff, Nat.reduceSub, Nat.reduceMul, Nat.reduceBEq, Int.reduceBEq, Int.reduceBNe, Int.reduceLT, Int.reduceLE, Int.reduceGT, Int.reduceGE, Int.reduceNeg, Int.reduceEq, Int.reduceNe, Int.reduceToNat, Int.reduceAdd, aconv, acvB, capR, acmpnil, appBox, storeB, ares1, appendTo, afill, aeqL, teset, Tryz.ntmps63, Tryz.results63, inj_take, inj_drop, inj_agg, inj_len, inj_one, List.length_map]
    cases hc : decide ((xs.length : Int) < 2) with
    | true =>
      simp only [decide_eq_true_eq] at hc
      rcases xs with _ | ⟨x, _ | ⟨y, xs⟩⟩
      · simp only [aw0, aw1, aw2, aw3, aw4, aw5, aw6, aw7, ne_eq, eq_self, implies_true, imp_self, reduceIte, reduceCtorEq, Nat.reduceAdd, Nat.reduceLT, Nat.reduceLeDiff, Nat.reduceEqDiff, Nat.reduceSub, Nat.reduceMul, Nat.reduceBEq, Int.reduceBEq, Int.reduceBNe, Int.reduceLT, Int.reduceLE, Int.reduceGT, Int.reduceGE, Int.reduceNeg, Int.reduceEq, Int.reduceNe, Int.reduceToNat, Int.reduceAdd, aconv, acvB, capR, acmpnil, appBox, storeB, ares1, appendTo, afill, aeqL, teset, range0, List.length_nil, Int.natCast_zero]
        exact ⟨.refl _, _, rfl, by rw [show sortV [] = [] by simp [sortV]]; exact .ro⟩
      · simp only [aw0, aw1, aw2, aw3, aw4, aw5, aw6, aw7, ne_eq, eq_self, implies_true, imp_self, reduceIte, reduceCtorEq, Nat.reduceAdd, Nat.reduceLT, Nat.reduceLeDiff, Nat.reduceEqDiff, Nat.reduceSub, Nat.reduceMul, Nat.reduceBEq, Int.reduceBEq, Int.reduceBNe, Int.reduceLT, Int.reduceLE, Int.reduceGT, Int.reduceGE, Int.reduceNeg, Int.reduceEq, Int.reduceNe, Int.reduceToNat, Int.reduceAdd, aconv, acvB, capR, acmpnil, appBox, storeB, ares1, appendTo, afill, aeqL, teset, range0, inj_take, inj_drop, inj_agg, inj_len, inj_one, List.length_map]
        refine .inl ⟨(AH.Ext.refl h).newTok, _, rfl, by rw [show sortV [x] = [x] by simp [sortV]]; exact .ro⟩
      · exfalso; simp only [List.length_cons] at hc; omega
    | false =>
      simp only [decide_eq_false_iff_not] at hc
      obtain ⟨m, hm⟩ : ∃ m, m = xs.length / 2 := ⟨_, rfl⟩
      have hq : IntKind.i64.wrap (((xs.length : Nat) : Int).tdiv 2) = ((m : Nat) : Int) := by
        rw [Int.tdiv_eq_ediv_of_nonneg (Int.natCast_nonneg _), wrap_i64 (by omega) (by omega)]; omega
      have hml : m ≤ xs.length := by omega
      have hs1 : List.take m (List.map inj xs) = (xs.take m).map inj := List.map_take.symm
      have hs2 : List.take (xs.length - m) (List.drop m (List.map inj xs)) = (xs.drop m).map inj := by
        rw [List.take_of_length_le (by rw [List.length_drop, List.length_map]; exact Nat.le_refl _), List.map_drop]
      simp only [aw0, aw1, aw2, aw3, aw4, aw5, aw6, aw7, ne_eq, eq_self, implies_true, imp_self, reduceIte, reduceCtorEq, Nat.reduceAdd, Nat.reduceLT, Nat.reduceLeDiff, Nat.reduceEqDiff, Nat.reduceSub, Nat.reduceMul, Nat.reduceBEq, Int.reduceBEq, Int.reduceBNe, Int.reduceLT, Int.reduceLE, Int.reduceGT, Int.reduceGE, Int.reduceNeg, Int.reduceEq, Int.reduceNe, Int.reduceToNat, Int.reduceAdd, aconv, acvB, capR, acmpnil, appBox, storeB, ares1, appendTo, afill, aeqL, teset, inj_take, inj_drop, inj_agg, inj_len, inj_one, List.length_map]
      refine acode_draw_chain te_ok mixed [] (by kernel_rfl) ?_
      simp only [aw0, aw1, aw2, aw3, aw4, aw5, aw6, aw7, ne_eq, eq_self, implies_true, imp_self, reduceIte, reduceCtorEq, Nat.reduceAdd, Nat.reduceLT, Nat.reduceLeDiff, Nat.reduceEqDiff, Nat.reduceSub, Nat.reduceMul, Nat.reduceBEq, Int.reduceBEq, Int.reduceBNe, Int.reduceLT, Int.reduceLE, Int.reduceGT, Int.reduceGE, Int.reduceNeg, Int.reduceEq, Int.reduceNe, Int.reduceToNat, Int.reduceAdd, aconv, acvB, capR, acmpnil, appBox, storeB, ares1, appendTo, afill, aeqL, teset, inj_take, inj_drop, inj_agg, inj_len, inj_one, List.length_map, hq, Int.natCast_nonneg, Int.toNat_natCast, Nat.zero_le, hml, Nat.le_refl, and_self, if_true, ite_self, Nat.sub_zero, List.drop_zero, hs1, hs2]
      refine skR_pure (ih (xs.take m) (by rw [List.length_take]; omega) (by omega) (fun x hx2 => hx x (List.mem_of_mem_take hx2))) ?_
      refine skR_pure (ih (xs.drop m) (by rw [List.length_drop]; omega) (by omega) (fun x hx2 => hx x (List.mem_of_mem_drop hx2))) ?_
      obtain ⟨a, ha⟩ : ∃ a, a = sortV (xs.take m) := ⟨_, rfl⟩
      obtain ⟨b, hb⟩ : ∃ b, b = sortV (xs.drop m) := ⟨_, rfl⟩
      have hoa : ∀ x ∈ a, Vok x := fun x hx2 => hx x (List.mem_of_mem_take (sortV_mem.1 (ha ▸ hx2)))
      have hob : ∀ x ∈ b, Vok x := fun x hx2 => hx x (List.mem_of_mem_drop (sortV_mem.1 (hb ▸ hx2)))
      have hab : a.merge b leV = sortV xs := by rw [ha, hb]; exact sort_halves hx m
      have hal : a.length ≤ 1000 := by rw [ha, sortV_len, List.length_take]; omega
      have hbl : b.length ≤ 1000 := by rw [hb, sortV_len, List.length_drop]; omega
      rw [← ha, ← hb, ← hab]
      refine ⟨fun n s' h' => ∃ (i k : Nat) (aX : AV) (out : List V), s' 3 = .sl .ro 5 (a.map inj) ∧ s' 4 = .sl .ro 5 (b.map inj) ∧ s' 5 = aX ∧ s' 6 = .int .i64 i ∧ s' 7 = .int .i64 k ∧ n + i + k = a.length + b.length ∧ i ≤ a.length ∧ k ≤ b.length ∧ h.Ext h' ∧ Own5 h' h.nt aX out ∧ out ++ (a.drop i).merge (b.drop k) leV = a.merge b leV, ⟨a.length + b.length, 0, 0, .sl .full 0 [], [], ?_⟩, ?_⟩
      · simp only [aw0, aw1, aw2, aw3, aw4, aw5, aw6, aw7, ne_eq, eq_self, implies_true, imp_self, reduceIte, reduceCtorEq, Nat.reduceAdd, Nat.reduceLT, Nat.reduceLeDiff, Nat.reduceEqDiff, Nat.reduceSub, Nat.reduceMul, Nat.reduceBEq, Int.reduceBEq, Int.reduceBNe, Int.reduceLT, Int.reduceLE, Int.reduceGT, Int.reduceGE, Int.reduceNeg, Int.reduceEq, Int.reduceNe, Int.reduceToNat, Int.reduceAdd, aconv, acvB, capR, acmpnil, appBox, storeB, ares1, appendTo, afill, aeqL, teset, Int.natCast_zero, List.drop_zero, List.nil_append]
        exact ⟨Nat.zero_le _, Nat.zero_le _, .refl _, .inl ⟨rfl, rfl⟩⟩
      · rintro n' s' h' ⟨i, k, aX, out, e3, e4, e5, e6, e7, hnn, hi, hk, hE, ho, hv⟩
        simp only [aw0, aw1, aw2, aw3, aw4, aw5, aw6, aw7, ne_eq, eq_self, implies_true, imp_self, reduceIte, reduceCtorEq, Nat.reduceAdd, Nat.reduceLT, Nat.reduceLeDiff, Nat.reduceEqDiff, Nat.reduceSub, Nat.reduceMul, Nat.reduceBEq, Int.reduceBEq, Int.reduceBNe, Int.reduceLT, Int.reduceLE, Int.reduceGT, Int.reduceGE, Int.reduceNeg, Int.reduceEq, Int.reduceNe, Int.reduceToNat, Int.reduceAdd, aconv, acvB, capR, acmpnil, appBox, storeB, ares1, appendTo, afill, aeqL, teset, e3, e4, e5, e6, e7, inj_take, inj_drop, inj_agg, inj_len, inj_one, List.length_map]
        cases hc2 : (decide ((i : Int) < (a.length : Int)) || decide ((k : Int) < (b.length : Int))) with
        | false =>
          have hend : a.length ≤ i ∧ b.length ≤ k := by
            obtain ⟨h1, h2⟩ := Bool.or_eq_false_iff.1 hc2
            simp only [decide_eq_false_iff_not] at h1 h2
            omega
          rw [List.drop_eq_nil_of_le hend.1, List.drop_eq_nil_of_le hend.2, List.merge_right, List.append_nil] at hv
          simp only [aw0, aw1, aw2, aw3, aw4, aw5, aw6, aw7, ne_eq, eq_self, implies_true, imp_self, reduceIte, reduceCtorEq, Nat.reduceAdd, Nat.reduceLT, Nat.reduceLeDiff, Nat.reduceEqDiff, Nat.reduceSub, Nat.reduceMul, Nat.reduceBEq, Int.reduceBEq, Int.reduceBNe, Int.reduceLT, Int.reduceLE, Int.reduceGT, Int.reduceGE, Int.reduceNeg, Int.reduceEq, Int.reduceNe, Int.reduceToNat, Int.reduceAdd, aconv, acvB, capR, acmpnil, appBox, storeB, ares1, appendTo, afill, aeqL, teset, e3, e4, e5, e6, e7, inj_take, inj_drop, inj_agg, inj_len, inj_one, List.length_map]
          exact ⟨hE, _, rfl, hv ▸ ho.wk⟩
        | true =>
          have hor : i < a.length ∨ k < b.length := by
            rcases Bool.or_eq_true_iff.1 hc2 with h1 | h1
            · simp only [decide_eq_true_eq] at h1; omega
            · simp only [decide_eq_true_eq] at h1; omega
          simp only [aw0, aw1, aw2, aw3, aw4, aw5, aw6, aw7, ne_eq, eq_self, implies_true, imp_self, reduceIte, reduceCtorEq, Nat.reduceAdd, Nat.reduceLT, Nat.reduceLeDiff, Nat.reduceEqDiff, Nat.reduceSub, Nat.reduceMul, Nat.reduceBEq, Int.reduceBEq, Int.reduceBNe, Int.reduceLT, Int.reduceLE, Int.reduceGT, Int.reduceGE, Int.reduceNeg, Int.reduceEq, Int.reduceNe, Int.reduceToNat, Int.reduceAdd, aconv, acvB, capR, acmpnil, appBox, storeB, ares1, appendTo, afill, aeqL, teset, e3, e4, e5, e6, e7, inj_take, inj_drop, inj_agg, inj_len, inj_one, List.length_map]
          refine acode_draw_chain te_ok mixed [] (by kernel_rfl) ?_
          simp only [aw0, aw1, aw2, aw3, aw4, aw5, aw6, aw7, ne_eq, eq_self, implies_true, imp_self, reduceIte, reduceCtorEq, Nat.reduceAdd, Nat.reduceLT, Nat.reduceLeDiff, Nat.reduceEqDiff, Nat.reduceSub, Nat.reduceMul, Nat.reduceBEq, Int.reduceBEq, Int.reduceBNe, Int.reduceLT, Int.reduceLE, Int.reduceGT, Int.reduceGE, Int.reduceNeg, Int.reduceEq, Int.reduceNe, Int.reduceToNat, Int.reduceAdd, aconv, acvB, capR, acmpnil, appBox, storeB, ares1, appendTo, afill, aeqL, teset, e3, e4, e5, e6, e7, inj_take, inj_drop, inj_agg, inj_len, inj_one, List.length_map]
          cases hkq : ((k : Int) == (b.length : Int)) with
          | true =>
            have hkb2 : k = b.length := by
              have : (k : Int) = (b.length : Int) := by simpa using hkq
              omega
            have hia : i < a.length := by omega
            have hmv := merge_a (b := b) (k := k) hia (.inl (by omega))
            simp only [aw0, aw1, aw2, aw3, aw4, aw5, aw6, aw7, ne_eq, eq_self, implies_true, imp_self, reduceIte, reduceCtorEq, Nat.reduceAdd, Nat.reduceLT, Nat.reduceLeDiff, Nat.reduceEqDiff, Nat.reduceSub, Nat.reduceMul, Nat.reduceBEq, Int.reduceBEq, Int.reduceBNe, Int.reduceLT, Int.reduceLE, Int.reduceGT, Int.reduceGE, Int.reduceNeg, Int.reduceEq, Int.reduceNe, Int.reduceToNat, Int.reduceAdd, aconv, acvB, capR, acmpnil, appBox, storeB, ares1, appendTo, afill, aeqL, teset, e3, e4, e5, e6, e7, inj_take, inj_drop, inj_agg, inj_len, inj_one, List.length_map]
            have hget : (a.map inj)[((i : Nat) : Int).toNat]? = some (inj a[i]) := by simp [hia]
            rw [hmv] at hv
            rcases ho with ⟨rfl, rfl⟩ | ⟨t, G, rfl, htk, htn⟩
            · simp only [aw0, aw1, aw2, aw3, aw4, aw5, aw6, aw7, ne_eq, eq_self, implies_true, imp_self, reduceIte, reduceCtorEq, Nat.reduceAdd, Nat.reduceLT, Nat.reduceLeDiff, Nat.reduceEqDiff, Nat.reduceSub, Nat.reduceMul, Nat.reduceBEq, Int.reduceBEq, Int.reduceBNe, Int.reduceLT, Int.reduceLE, Int.reduceGT, Int.reduceGE, Int.reduceNeg, Int.reduceEq, Int.reduceNe, Int.reduceToNat, Int.reduceAdd, aconv, acvB, capR, acmpnil, appBox, storeB, ares1, appendTo, afill, aeqL, teset, e3, e4, e5, e6, e7, inj_take, inj_drop, inj_agg, inj_len, inj_one, List.length_map, hget, Int.natCast_nonneg, range1, inj_len, inj_one, List.map_nil, List.nil_append]
              refine .inl ?_
              refine ⟨n' - 1, by omega, i + 1, k, _, [] ++ [a[i]], rfl, by rw [wrap_succ (by omega)], rfl, by omega, by omega, hk, hE.newTok, .inr ⟨h'.nt, 0, rfl, by rw [newTok_tok, if_pos rfl], hE.nt⟩, ?_⟩
              rw [List.append_assoc]; exact hv
            · have hout : out.length < 1000000 := by
                have := congrArg List.length hv
                rw [List.length_append, List.length_merge] at this
                omega
              have hb0 : (out.length + 1) * 80 ≤ 140737488355328 := by omega
              simp only [aw0, aw1, aw2, aw3, aw4, aw5, aw6, aw7, ne_eq, eq_self, implies_true, imp_self, reduceIte, reduceCtorEq, Nat.reduceAdd, Nat.reduceLT, Nat.reduceLeDiff, Nat.reduceEqDiff, Nat.reduceSub, Nat.reduceMul, Nat.reduceBEq, Int.reduceBEq, Int.reduceBNe, Int.reduceLT, Int.reduceLE, Int.reduceGT, Int.reduceGE, Int.reduceNeg, Int.reduceEq, Int.reduceNe, Int.reduceToNat, Int.reduceAdd, aconv, acvB, capR, acmpnil, appBox, storeB, ares1, appendTo, afill, aeqL, teset, e3, e4, e5, e6, e7, inj_take, inj_drop, inj_agg, inj_len, inj_one, List.length_map, hget, Int.natCast_nonneg, range1, inj_len, inj_one, htk, hb0, List.length_map]
              refine ⟨n' - 1, by omega, i + 1, k, _, out ++ [a[i]], rfl, by rw [wrap_succ (by omega)], rfl, by omega, by omega, hk, hE.setTok htn _, .inr ⟨t, G + 1, by simp, by rw [setTok_tok, if_pos rfl], htn⟩, ?_⟩
              rw [List.append_assoc]; exact hv
          | false =>
            have hkb2 : k ≠ b.length := by
              have : ¬ (k : Int) = (b.length : Int) := by simpa using hkq
              omega
            have hkb : k < b.length := by omega
            simp only [aw0, aw1, aw2, aw3, aw4, aw5, aw6, aw7, ne_eq, eq_self, implies_true, imp_self, reduceIte, reduceCtorEq, Nat.reduceAdd, Nat.reduceLT, Nat.reduceLeDiff, Nat.reduceEqDiff, Nat.reduceSub, Nat.reduceMul, Nat.reduceBEq, Int.reduceBEq, Int.reduceBNe, Int.reduceLT, Int.reduceLE, Int.reduceGT, Int.reduceGE, Int.reduceNeg, Int.reduceEq, Int.reduceNe, Int.reduceToNat, Int.reduceAdd, aconv, acvB, capR, acmpnil, appBox, storeB, ares1, appendTo, afill, aeqL, teset, e3, e4, e5, e6, e7, inj_take, inj_drop, inj_agg, inj_len, inj_one, List.length_map]
            cases hi2 : decide ((i : Int) < (a.length : Int)) with
            | false =>
              have hia : a.length ≤ i := by simp only [decide_eq_false_iff_not] at hi2; omega
              have hmv := merge_b (a := a) (i := i) hkb (.inl hia)
              simp only [aw0, aw1, aw2, aw3, aw4, aw5, aw6, aw7, ne_eq, eq_self, implies_true, imp_self, reduceIte, reduceCtorEq, Nat.reduceAdd, Nat.reduceLT, Nat.reduceLeDiff, Nat.reduceEqDiff, Nat.reduceSub, Nat.reduceMul, Nat.reduceBEq, Int.reduceBEq, Int.reduceBNe, Int.reduceLT, Int.reduceLE, Int.reduceGT, Int.reduceGE, Int.reduceNeg, Int.reduceEq, Int.reduceNe, Int.reduceToNat, Int.reduceAdd, aconv, acvB, capR, acmpnil, appBox, storeB, ares1, appendTo, afill, aeqL, teset, e3, e4, e5, e6, e7, inj_take, inj_drop, inj_agg, inj_len, inj_one, List.length_map]
              have hget : (b.map inj)[((k : Nat) : Int).toNat]? = some (inj b[k]) := by simp [hkb]
              rw [hmv] at hv
              rcases ho with ⟨rfl, rfl⟩ | ⟨t, G, rfl, htk, htn⟩
              · simp only [aw0, aw1, aw2, aw3, aw4, aw5, aw6, aw7, ne_eq, eq_self, implies_true, imp_self, reduceIte, reduceCtorEq, Nat.reduceAdd, Nat.reduceLT, Nat.reduceLeDiff, Nat.reduceEqDiff, Nat.reduceSub, Nat.reduceMul, Nat.reduceBEq, Int.reduceBEq, Int.reduceBNe, Int.reduceLT, Int.reduceLE, Int.reduceGT, Int.reduceGE, Int.reduceNeg, Int.reduceEq, Int.reduceNe, Int.reduceToNat, Int.reduceAdd, aconv, acvB, capR, acmpnil, appBox, storeB, ares1, appendTo, afill, aeqL, teset, e3, e4, e5, e6, e7, inj_take, inj_drop, inj_agg, inj_len, inj_one, List.length_map, hget, Int.natCast_nonneg, range1, inj_len, inj_one, List.map_nil, List.nil_append]
                refine .inl ?_
                refine ⟨n' - 1, by omega, i, k + 1, _, [] ++ [b[k]], rfl, rfl, by rw [wrap_succ (by omega)], by omega, hi, by omega, hE.newTok, .inr ⟨h'.nt, 0, rfl, by rw [newTok_tok, if_pos rfl], hE.nt⟩, ?_⟩
                rw [List.append_assoc]; exact hv
              · have hout : out.length < 1000000 := by
                  have := congrArg List.length hv
                  rw [List.length_append, List.length_merge] at this
                  omega
                have hb0 : (out.length + 1) * 80 ≤ 140737488355328 := by omega
                simp only [aw0, aw1, aw2, aw3, aw4, aw5, aw6, aw7, ne_eq, eq_self, implies_true, imp_self, reduceIte, reduceCtorEq, Nat.reduceAdd, Nat.reduceLT, Nat.reduceLeDiff, Nat.reduceEqDiff, Nat.reduceSub, Nat.reduceMul, Nat.reduceBEq, Int.reduceBEq, Int.reduceBNe, Int.reduceLT, Int.reduceLE, Int.reduceGT, Int.reduceGE, Int.reduceNeg, Int.reduceEq, Int.reduceNe, Int.reduceToNat, Int.reduceAdd, aconv, acvB, capR, acmpnil, appBox, storeB, ares1, appendTo, afill, aeqL, teset, e3, e4, e5, e6, e7, inj_take, inj_drop, inj_agg, inj_len, inj_one, List.length_map, hget, Int.natCast_nonneg, range1, inj_len, inj_one, htk, hb0, List.length_map]
                refine ⟨n' - 1, by omega, i, k + 1, _, out ++ [b[k]], rfl, rfl, by rw [wrap_succ (by omega)], by omega, hi, by omega, hE.setTok htn _, .inr ⟨t, G + 1, by simp, by rw [setTok_tok, if_pos rfl], htn⟩, ?_⟩
                rw [List.append_assoc]; exact hv
            | true =>
              have hia : i < a.length := by simp only [decide_eq_true_eq] at hi2; omega
              have hga : (a.map inj)[((i : Nat) : Int).toNat]? = some (inj a[i]) := by simp [hia]
              have hgb : (b.map inj)[((k : Nat) : Int).toNat]? = some (inj b[k]) := by simp [hkb]
              have hva := hoa _ (List.getElem_mem hia)
              have hvb := hob _ (List.getElem_mem hkb)
              simp only [aw0, aw1, aw2, aw3, aw4, aw5, aw6, aw7, ne_eq, eq_self, implies_true, imp_self, reduceIte, reduceCtorEq, Nat.reduceAdd, Nat.reduceLT, Nat.reduceLeDiff, Nat.reduceEqDiff, Nat.reduceSub, Nat.reduceMul, Nat.reduceBEq, Int.reduceBEq, Int.reduceBNe, Int.reduceLT, Int.reduceLE, Int.reduceGT, Int.reduceGE, Int.reduceNeg, Int.reduceEq, Int.reduceNe, Int.reduceToNat, Int.reduceAdd, aconv, acvB, capR, acmpnil, appBox, storeB, ares1, appendTo, afill, aeqL, teset, e3, e4, e5, e6, e7, inj_take, inj_drop, inj_agg, inj_len, inj_one, List.length_map, hga, hgb, Int.natCast_nonneg]
              refine skR_pure (reforder_pure a[i] b[k] hva hvb) ?_
              simp only [aw0, aw1, aw2, aw3, aw4, aw5, aw6, aw7, ne_eq, eq_self, implies_true, imp_self, reduceIte, reduceCtorEq, Nat.reduceAdd, Nat.reduceLT, Nat.reduceLeDiff, Nat.reduceEqDiff, Nat.reduceSub, Nat.reduceMul, Nat.reduceBEq, Int.reduceBEq, Int.reduceBNe, Int.reduceLT, Int.reduceLE, Int.reduceGT, Int.reduceGE, Int.reduceNeg, Int.reduceEq, Int.reduceNe, Int.reduceToNat, Int.reduceAdd, aconv, acvB, capR, acmpnil, appBox, storeB, ares1, appendTo, afill, aeqL, teset, e3, e4, e5, e6, e7, inj_take, inj_drop, inj_agg, inj_len, inj_one, List.length_map]
              rw [le_ord hva hvb]
              cases hle : leV a[i] b[k] with
              | true =>
                have hmv := merge_a hia (.inr ⟨hkb, hle⟩)
                simp only [aw0, aw1, aw2, aw3, aw4, aw5, aw6, aw7, ne_eq, eq_self, implies_true, imp_self, reduceIte, reduceCtorEq, Nat.reduceAdd, Nat.reduceLT, Nat.reduceLeDiff, Nat.reduceEqDiff, Nat.reduceSub, Nat.reduceMul, Nat.reduceBEq, Int.reduceBEq, Int.reduceBNe, Int.reduceLT, Int.reduceLE, Int.reduceGT, Int.reduceGE, Int.reduceNeg, Int.reduceEq, Int.reduceNe, Int.reduceToNat, Int.reduceAdd, aconv, acvB, capR, acmpnil, appBox, storeB, ares1, appendTo, afill, aeqL, teset, e3, e4, e5, e6, e7, inj_take, inj_drop, inj_agg, inj_len, inj_one, List.length_map]
                have hget : (a.map inj)[((i : Nat) : Int).toNat]? = some (inj a[i]) := by simp [hia]
                rw [hmv] at hv
                rcases ho with ⟨rfl, rfl⟩ | ⟨t, G, rfl, htk, htn⟩
                · simp only [aw0, aw1, aw2, aw3, aw4, aw5, aw6, aw7, ne_eq, eq_self, implies_true, imp_self, reduceIte, reduceCtorEq, Nat.reduceAdd, Nat.reduceLT, Nat.reduceLeDiff, Nat.reduceEqDiff, Nat.reduceSub, Nat.reduceMul, Nat.reduceBEq, Int.reduceBEq, Int.reduceBNe, Int.reduceLT, Int.reduceLE, Int.reduceGT, Int.reduceGE, Int.reduceNeg, Int.reduceEq, Int.reduceNe, Int.reduceToNat, Int.reduceAdd, aconv, acvB, capR, acmpnil, appBox, storeB, ares1, appendTo, afill, aeqL, teset, e3, e4, e5, e6, e7, inj_take, inj_drop, inj_agg, inj_len, inj_one, List.length_map, hget, Int.natCast_nonneg, range1, inj_len, inj_one, List.map_nil, List.nil_append]
                  refine .inl ?_
                  refine ⟨n' - 1, by omega, i + 1, k, _, [] ++ [a[i]], rfl, by rw [wrap_succ (by omega)], rfl, by omega, by omega, hk, hE.newTok, .inr ⟨h'.nt, 0, rfl, by rw [newTok_tok, if_pos rfl], hE.nt⟩, ?_⟩
                  rw [List.append_assoc]; exact hv
                · have hout : out.length < 1000000 := by
                    have := congrArg List.length hv
                    rw [List.length_append, List.length_merge] at this
                    omega
                  have hb0 : (out.length + 1) * 80 ≤ 140737488355328 := by omega
                  simp only [aw0, aw1, aw2, aw3, aw4, aw5, aw6, aw7, ne_eq, eq_self, implies_true, imp_self, reduceIte, reduceCtorEq, Nat.reduceAdd, Nat.reduceLT, Nat.reduceLeDiff, Nat.reduceEqDiff, Nat.reduceSub, Nat.reduceMul, Nat.reduceBEq, Int.reduceBEq, Int.reduceBNe, Int.reduceLT, Int.reduceLE, Int.reduceGT, Int.reduceGE, Int.reduceNeg, Int.reduceEq, Int.reduceNe, Int.reduceToNat, Int.reduceAdd, aconv, acvB, capR, acmpnil, appBox, storeB, ares1, appendTo, afill, aeqL, teset, e3, e4, e5, e6, e7, inj_take, inj_drop, inj_agg, inj_len, inj_one, List.length_map, hget, Int.natCast_nonneg, range1, inj_len, inj_one, htk, hb0, List.length_map]
                  refine ⟨n' - 1, by omega, i + 1, k, _, out ++ [a[i]], rfl, by rw [wrap_succ (by omega)], rfl, by omega, by omega, hk, hE.setTok htn _, .inr ⟨t, G + 1, by simp, by rw [setTok_tok, if_pos rfl], htn⟩, ?_⟩
                  rw [List.append_assoc]; exact hv
              | false =>
                have hmv := merge_b hkb (.inr ⟨hia, hle⟩)
                simp only [aw0, aw1, aw2, aw3, aw4, aw5, aw6, aw7, ne_eq, eq_self, implies_true, imp_self, reduceIte, reduceCtorEq, Nat.reduceAdd, Nat.reduceLT, Nat.reduceLeDiff, Nat.reduceEqDiff, Nat.reduceSub, Nat.reduceMul, Nat.reduceBEq, Int.reduceBEq, Int.reduceBNe, Int.reduceLT, Int.reduceLE, Int.reduceGT, Int.reduceGE, Int.reduceNeg, Int.reduceEq, Int.reduceNe, Int.reduceToNat, Int.reduceAdd, aconv, acvB, capR, acmpnil, appBox, storeB, ares1, appendTo, afill, aeqL, teset, e3, e4, e5, e6, e7, inj_take, inj_drop, inj_agg, inj_len, inj_one, List.length_map]
                have hget : (b.map inj)[((k : Nat) : Int).toNat]? = some (inj b[k]) := by simp [hkb]
                rw [hmv] at hv
                rcases ho with ⟨rfl, rfl⟩ | ⟨t, G, rfl, htk, htn⟩
                · simp only [aw0, aw1, aw2, aw3, aw4, aw5, aw6, aw7, ne_eq, eq_self, implies_true, imp_self, reduceIte, reduceCtorEq, Nat.reduceAdd, Nat.reduceLT, Nat.reduceLeDiff, Nat.reduceEqDiff, Nat.reduceSub, Nat.reduceMul, Nat.reduceBEq, Int.reduceBEq, Int.reduceBNe, Int.reduceLT, Int.reduceLE, Int.reduceGT, Int.reduceGE, Int.reduceNeg, Int.reduceEq, Int.reduceNe, Int.reduceToNat, Int.reduceAdd, aconv, acvB, capR, acmpnil, appBox, storeB, ares1, appendTo, afill, aeqL, teset, e3, e4, e5, e6, e7, inj_take, inj_drop, inj_agg, inj_len, inj_one, List.length_map, hget, Int.natCast_nonneg, range1, inj_len, inj_one, List.map_nil, List.nil_append]
                  refine .inl ?_
                  refine ⟨n' - 1, by omega, i, k + 1, _, [] ++ [b[k]], rfl, rfl, by rw [wrap_succ (by omega)], by omega, hi, by omega, hE.newTok, .inr ⟨h'.nt, 0, rfl, by rw [newTok_tok, if_pos rfl], hE.nt⟩, ?_⟩
                  rw [List.append_assoc]; exact hv
                · have hout : out.length < 1000000 := by
                    have := congrArg List.length hv
                    rw [List.length_append, List.length_merge] at this
                    omega
                  have hb0 : (out.length + 1) * 80 ≤ 140737488355328 := by omega
                  simp only [aw0, aw1, aw2, aw3, aw4, aw5, aw6, aw7, ne_eq, eq_self, implies_true, imp_self, reduceIte, reduceCtorEq, Nat.reduceAdd, Nat.reduceLT, Nat.reduceLeDiff, Nat.reduceEqDiff, Nat.reduceSub, Nat.reduceMul, Nat.reduceBEq, Int.reduceBEq, Int.reduceBNe, Int.reduceLT, Int.reduceLE, Int.reduceGT, Int.reduceGE, Int.reduceNeg, Int.reduceEq, Int.reduceNe, Int.reduceToNat, Int.reduceAdd, aconv, acvB, capR, acmpnil, appBox, storeB, ares1, appendTo, afill, aeqL, teset, e3, e4, e5, e6, e7, inj_take, inj_drop, inj_agg, inj_len, inj_one, List.length_map, hget, Int.natCast_nonneg, range1, inj_len, inj_one, htk, hb0, List.length_map]
                  refine ⟨n' - 1, by omega, i, k + 1, _, out ++ [b[k]], rfl, rfl, by rw [wrap_succ (by omega)], by omega, hi, by omega, hE.setTok htn _, .inr ⟨t, G + 1, by simp, by rw [setTok_tok, if_pos rfl], htn⟩, ?_⟩
                  rw [List.append_assoc]; exact hv
end Go.Proofs.YtlbhgoffiigfbaaGreat.AW
end
section
set_option linter.unusedSimpArgs false
set_option linter.unusedVariables false
namespace Go.Proofs.YtlbhgoffiigfbaaGreat.AW
open Go Go.RowKit

def ddO : Option V → List V → List V
  | none, l => dd l
  | some p, l => ddG p l
def pO (s : List V) (j : Nat) : Option V := if j = 0 then none else s[j-1]?
theorem pO_succ {s : List V} {j : Nat} (hj : j < s.length) : pO s (j + 1) = some s[j] := by
  unfold pO
  rw [if_neg (by omega), Nat.add_sub_cancel, List.getElem?_eq_getElem hj]
theorem ddO_zero {s : List V} (hj : 0 < s.length) : ddO (pO s 0) (s.drop 0) = s[0] :: ddO (pO s (0 + 1)) (s.drop (0 + 1)) := by
  rw [pO_succ hj, show pO s 0 = none from rfl, List.drop_eq_getElem_cons hj]
  rfl
theorem ddO_step {s : List V} {i : Nat} (hj : i + 1 < s.length) : ddO (pO s (i + 1)) (s.drop (i + 1)) = if ord s[i + 1] s[i] = 0 then ddO (pO s (i + 1 + 1)) (s.drop (i + 1 + 1)) else s[i + 1] :: ddO (pO s (i + 1 + 1)) (s.drop (i + 1 + 1)) := by
  rw [pO_succ hj, pO_succ (show i < s.length by omega)]
  show ddG s[i] (s.drop (i + 1)) = if ord s[i + 1] s[i] = 0 then ddG s[i + 1] (s.drop (i + 1 + 1)) else s[i + 1] :: ddG s[i + 1] (s.drop (i + 1 + 1))
  exact ddG_step _ hj
theorem ddO_len (s : List V) (j : Nat) : (ddO (pO s j) (s.drop j)).length ≤ s.length := by
  have h : ∀ o l, (ddO o l).length ≤ l.length := fun o l => by cases o <;> simp only [ddO, dd_len, ddG_len]
  have := h (pO s j) (s.drop j)
  rw [List.length_drop] at this
  omega
set_option maxHeartbeats 4000000 in
theorem refdistinct_pure (xs : List V) (hx : ∀ x ∈ xs, Vok x) (hval : xs.all valid = true) (hl : xs.length ≤ 1000) : Pure Tryz.prog 50 [.sl .ro 5 (xs.map inj)] (.tup [.sl .ro 5 ((wordsL xs).map inj), .int .i64 0]) := by
  refine Pure.ofW ⟨Tryz.f50, Tryz.func50, rfl, by kernel_rfl⟩ (by simp only [AV.under, AV.underL, injs_und, Bool.and_true]) (fun h hsc => ?_)
  refine acalls_of te_ok [] Tryz.func50 (c := _) rfl (Nat.le_of_ble_eq_true rfl) ?_
  simp only [aw0, aw1, aw2, aw3, aw4, aw5, aw6, aw7, ne_eq, eq_self, implies_true, imp_self, reduceIte, reduceCtorEq, Nat.reduceAdd, Nat.reduceLT, Nat.reduceLeDiff, Nat.reduceEqDiff, Nat.reduceSub, Nat.reduceMul, Nat.reduceBEq, Int.reduceBEq, Int.reduceBNe, Int.reduceLT, Int.reduceLE, Int.reduceGT, Int.reduceGE, Int.reduceNeg, Int.reduceEq, Int.reduceNe, Int.reduceToNat, Int.reduceAdd, aconv, acvB, capR, acmpnil, appBox, storeB, ares1, appendTo, afill, aeqL, teset, Tryz.ntmps50, Tryz.results50, inj_take, inj_drop, inj_agg, inj_len, inj_one, List.length_map]
  have hav := allvalid_pure xs (by omega)
  rw [hval] at hav
  refine ACallV.pure hav ?_
  simp only [aw0, aw1, aw2, aw3, aw4, aw5, aw6, aw7, ne_eq, eq_self, implies_true, imp_self, reduceIte, reduceCtorEq, Nat.reduceAdd, Nat.reduceLT, Nat.reduceLeDiff, Nat.reduceEqDiff, Nat.reduceSub, Nat.reduceMul, Nat.reduceBEq, Int.reduceBEq, Int.reduceBNe, Int.reduceLT, Int.reduceLE, Int.reduceGT, Int.reduceGE, Int.reduceNeg, Int.reduceEq, Int.reduceNe, Int.reduceToNat, Int.reduceAdd, aconv, acvB, capR, acmpnil, appBox, storeB, ares1, appendTo, afill, aeqL, teset]
  refine ACallV.pure (refsorted_pure (xs.length + 1) xs (by omega) (by omega) hx) ?_
  obtain ⟨s, hs⟩ : ∃ s, s = sortV xs := ⟨_, rfl⟩
  have hok : ∀ x ∈ s, Vok x := fun x hx2 => hx x (sortV_mem.1 (hs ▸ hx2))
  have hsl : s.length ≤ 1000 := by rw [hs, sortV_len]; omega
  unfold wordsL
  rw [← hs]
  simp only [aw0, aw1, aw2, aw3, aw4, aw5, aw6, aw7, ne_eq, eq_self, implies_true, imp_self, reduceIte, reduceCtorEq, Nat.reduceAdd, Nat.reduceLT, Nat.reduceLeDiff, Nat.reduceEqDiff, Nat.reduceSub, Nat.reduceMul, Nat.reduceBEq, Int.reduceBEq, Int.reduceBNe, Int.reduceLT, Int.reduceLE, Int.reduceGT, Int.reduceGE, Int.reduceNeg, Int.reduceEq, Int.reduceNe, Int.reduceToNat, Int.reduceAdd, aconv, acvB, capR, acmpnil, appBox, storeB, ares1, appendTo, afill, aeqL, teset]
  refine ⟨fun n s' h' => ∃ (j : Nat) (aX : AV) (out : List V), s' 4 = .sl .ro 5 (s.map inj) ∧ s' 5 = aX ∧ s' 6 = .int .i64 j ∧ n + j = s.length ∧ h.Ext h' ∧ Own5 h' h.nt aX out ∧ out ++ ddO (pO s j) (s.drop j) = dd s, ⟨s.length, 0, .sl .full 0 [], [], ?_⟩, ?_⟩
  · simp only [aw0, aw1, aw2, aw3, aw4, aw5, aw6, aw7, ne_eq, eq_self, implies_true, imp_self, reduceIte, reduceCtorEq, Nat.reduceAdd, Nat.reduceLT, Nat.reduceLeDiff, Nat.reduceEqDiff, Nat.reduceSub, Nat.reduceMul, Nat.reduceBEq, Int.reduceBEq, Int.reduceBNe, Int.reduceLT, Int.reduceLE, Int.reduceGT, Int.reduceGE, Int.reduceNeg, Int.reduceEq, Int.reduceNe, Int.reduceToNat, Int.reduceAdd, aconv, acvB, capR, acmpnil, appBox, storeB, ares1, appendTo, afill, aeqL, teset, Int.natCast_zero, List.drop_zero, List.nil_append]
    exact ⟨.refl _, .inl ⟨rfl, rfl⟩, rfl⟩
  · rintro n s' h' ⟨j, aX, out, e4, e5, e6, hn, hE, ho, hv⟩
    simp only [aw0, aw1, aw2, aw3, aw4, aw5, aw6, aw7, ne_eq, eq_self, implies_true, imp_self, reduceIte, reduceCtorEq, Nat.reduceAdd, Nat.reduceLT, Nat.reduceLeDiff, Nat.reduceEqDiff, Nat.reduceSub, Nat.reduceMul, Nat.reduceBEq, Int.reduceBEq, Int.reduceBNe, Int.reduceLT, Int.reduceLE, Int.reduceGT, Int.reduceGE, Int.reduceNeg, Int.reduceEq, Int.reduceNe, Int.reduceToNat, Int.reduceAdd, aconv, acvB, capR, acmpnil, appBox, storeB, ares1, appendTo, afill, aeqL, teset, e4, e5, e6, inj_take, inj_drop, inj_agg, inj_len, inj_one, List.length_map]
    cases hc : decide ((j : Int) < (s.length : Int)) with
    | false =>
      simp only [decide_eq_false_iff_not] at hc
      have hnil : ddO (pO s j) (s.drop j) = [] := by
        rw [List.drop_eq_nil_of_le (by omega)]
        cases pO s j <;> simp [ddO, dd, ddG]
      rw [hnil, List.append_nil] at hv
      simp only [aw0, aw1, aw2, aw3, aw4, aw5, aw6, aw7, ne_eq, eq_self, implies_true, imp_self, reduceIte, reduceCtorEq, Nat.reduceAdd, Nat.reduceLT, Nat.reduceLeDiff, Nat.reduceEqDiff, Nat.reduceSub, Nat.reduceMul, Nat.reduceBEq, Int.reduceBEq, Int.reduceBNe, Int.reduceLT, Int.reduceLE, Int.reduceGT, Int.reduceGE, Int.reduceNeg, Int.reduceEq, Int.reduceNe, Int.reduceToNat, Int.reduceAdd, aconv, acvB, capR, acmpnil, appBox, storeB, ares1, appendTo, afill, aeqL, teset, e4, e5, e6, inj_take, inj_drop, inj_agg, inj_len, inj_one, List.length_map]
      exact ⟨hE, _, rfl, (WkAll.cons (hv ▸ ho.wk) (.cons (.refl _) .nil)).tup⟩
    | true =>
      simp only [decide_eq_true_eq] at hc
      have hj : j < s.length := by omega
      simp only [aw0, aw1, aw2, aw3, aw4, aw5, aw6, aw7, ne_eq, eq_self, implies_true, imp_self, reduceIte, reduceCtorEq, Nat.reduceAdd, Nat.reduceLT, Nat.reduceLeDiff, Nat.reduceEqDiff, Nat.reduceSub, Nat.reduceMul, Nat.reduceBEq, Int.reduceBEq, Int.reduceBNe, Int.reduceLT, Int.reduceLE, Int.reduceGT, Int.reduceGE, Int.reduceNeg, Int.reduceEq, Int.reduceNe, Int.reduceToNat, Int.reduceAdd, aconv, acvB, capR, acmpnil, appBox, storeB, ares1, appendTo, afill, aeqL, teset, e4, e5, e6, inj_take, inj_drop, inj_agg, inj_len, inj_one, List.length_map]
      refine acode_draw_chain te_ok mixed [] (by kernel_rfl) ?_
      simp only [aw0, aw1, aw2, aw3, aw4, aw5, aw6, aw7, ne_eq, eq_self, implies_true, imp_self, reduceIte, reduceCtorEq, Nat.reduceAdd, Nat.reduceLT, Nat.reduceLeDiff, Nat.reduceEqDiff, Nat.reduceSub, Nat.reduceMul, Nat.reduceBEq, Int.reduceBEq, Int.reduceBNe, Int.reduceLT, Int.reduceLE, Int.reduceGT, Int.reduceGE, Int.reduceNeg, Int.reduceEq, Int.reduceNe, Int.reduceToNat, Int.reduceAdd, aconv, acvB, capR, acmpnil, appBox, storeB, ares1, appendTo, afill, aeqL, teset, e4, e5, e6, inj_take, inj_drop, inj_agg, inj_len, inj_one, List.length_map]
      cases h0 : ((j : Int) == 0) with
      | true =>
        have hj0 : j = 0 := by
          have : (j : Int) = 0 := by simpa using h0
          omega
        have hst : ddO (pO s j) (s.drop j) = s[j] :: ddO (pO s (j + 1)) (s.drop (j + 1)) := by
          subst hj0; exact ddO_zero hj
        rw [hst] at hv
        simp only [aw0, aw1, aw2, aw3, aw4, aw5, aw6, aw7, ne_eq, eq_self, implies_true, imp_self, reduceIte, reduceCtorEq, Nat.reduceAdd, Nat.reduceLT, Nat.reduceLeDiff, Nat.reduceEqDiff, Nat.reduceSub, Nat.reduceMul, Nat.reduceBEq, Int.reduceBEq, Int.reduceBNe, Int.reduceLT, Int.reduceLE, Int.reduceGT, Int.reduceGE, Int.reduceNeg, Int.reduceEq, Int.reduceNe, Int.reduceToNat, Int.reduceAdd, aconv, acvB, capR, acmpnil, appBox, storeB, ares1, appendTo, afill, aeqL, teset, e4, e5, e6, inj_take, inj_drop, inj_agg, inj_len, inj_one, List.length_map]
        have hget : (s.map inj)[((j : Nat) : Int).toNat]? = some (inj s[j]) := by simp [hj]
        rcases ho with ⟨rfl, rfl⟩ | ⟨t, G, rfl, htk, htn⟩
        · simp only [aw0, aw1, aw2, aw3, aw4, aw5, aw6, aw7, ne_eq, eq_self, implies_true, imp_self, reduceIte, reduceCtorEq, Nat.reduceAdd, Nat.reduceLT, Nat.reduceLeDiff, Nat.reduceEqDiff, Nat.reduceSub, Nat.reduceMul, Nat.reduceBEq, Int.reduceBEq, Int.reduceBNe, Int.reduceLT, Int.reduceLE, Int.reduceGT, Int.reduceGE, Int.reduceNeg, Int.reduceEq, Int.reduceNe, Int.reduceToNat, Int.reduceAdd, aconv, acvB, capR, acmpnil, appBox, storeB, ares1, appendTo, afill, aeqL, teset, e4, e5, e6, inj_take, inj_drop, inj_agg, inj_len, inj_one, List.length_map, hget, Int.natCast_nonneg, range1, inj_len, inj_one, List.map_nil, List.nil_append]
          refine .inl ?_
          refine ⟨n - 1, by omega, j + 1, _, [] ++ [s[j]], rfl, by rw [wrap_succ (by omega)], by omega, hE.newTok, .inr ⟨h'.nt, 0, rfl, by rw [newTok_tok, if_pos rfl], hE.nt⟩, ?_⟩
          rw [List.append_assoc]; exact hv
        · have hout : out.length < 1000000 := by
            have := congrArg List.length hv
            rw [List.length_append] at this
            have h3 := dd_len s
            omega
          have hb0 : (out.length + 1) * 80 ≤ 140737488355328 := by omega
          simp only [aw0, aw1, aw2, aw3, aw4, aw5, aw6, aw7, ne_eq, eq_self, implies_true, imp_self, reduceIte, reduceCtorEq, Nat.reduceAdd, Nat.reduceLT, Nat.reduceLeDiff, Nat.reduceEqDiff, Nat.reduceSub, Nat.reduceMul, Nat.reduceBEq, Int.reduceBEq, Int.reduceBNe, Int.reduceLT, Int.reduceLE, Int.reduceGT, Int.reduceGE, Int.reduceNeg, Int.reduceEq, Int.reduceNe, Int.reduceToNat, Int.reduceAdd, aconv, acvB, capR, acmpnil, appBox, storeB, ares1, appendTo, afill, aeqL, teset, e4, e5, e6, inj_take, inj_drop, inj_agg, inj_len, inj_one, List.length_map, hget, Int.natCast_nonneg, range1, inj_len, inj_one, htk, hb0, List.length_map]
          refine ⟨n - 1, by omega, j + 1, _, out ++ [s[j]], rfl, by rw [wrap_succ (by omega)], by omega, hE.setTok htn _, .inr ⟨t, G + 1, by simp, by rw [setTok_tok, if_pos rfl], htn⟩, ?_⟩
          rw [List.append_assoc]; exact hv
      | false =>
        have hj0 : j ≠ 0 := by
          have : ¬ (j : Int) = 0 := by simpa using h0
          omega
        obtain ⟨i, hji⟩ : ∃ i, j = i + 1 := ⟨j - 1, by omega⟩
        have hi : i < s.length := by omega
        have hg1 : (s.map inj)[((i : Nat) : Int).toNat]? = some (inj s[i]) := by simp [hi]
        have hg2 : (s.map inj)[((j : Nat) : Int).toNat]? = some (inj s[j]) := by simp [hj]
        have hwi : IntKind.i64.wrap (((j : Nat) : Int) - 1) = ((i : Nat) : Int) := by rw [wrap_i64 (by omega) (by omega)]; omega
        have hvi := hok _ (List.getElem_mem hi)
        have hvj := hok _ (List.getElem_mem hj)
        have hst : ddO (pO s j) (s.drop j) = if ord s[j] s[i] = 0 then ddO (pO s (j + 1)) (s.drop (j + 1)) else s[j] :: ddO (pO s (j + 1)) (s.drop (j + 1)) := by
          subst hji; exact ddO_step hj
        have han := ord_anti hvi hvj
        simp only [aw0, aw1, aw2, aw3, aw4, aw5, aw6, aw7, ne_eq, eq_self, implies_true, imp_self, reduceIte, reduceCtorEq, Nat.reduceAdd, Nat.reduceLT, Nat.reduceLeDiff, Nat.reduceEqDiff, Nat.reduceSub, Nat.reduceMul, Nat.reduceBEq, Int.reduceBEq, Int.reduceBNe, Int.reduceLT, Int.reduceLE, Int.reduceGT, Int.reduceGE, Int.reduceNeg, Int.reduceEq, Int.reduceNe, Int.reduceToNat, Int.reduceAdd, aconv, acvB, capR, acmpnil, appBox, storeB, ares1, appendTo, afill, aeqL, teset, e4, e5, e6, inj_take, inj_drop, inj_agg, inj_len, inj_one, List.length_map, hg1, hg2, hwi, Int.natCast_nonneg]
        refine skR_pure (refequal_pure s[i] s[j] hvi hvj) ?_
        simp only [aw0, aw1, aw2, aw3, aw4, aw5, aw6, aw7, ne_eq, eq_self, implies_true, imp_self, reduceIte, reduceCtorEq, Nat.reduceAdd, Nat.reduceLT, Nat.reduceLeDiff, Nat.reduceEqDiff, Nat.reduceSub, Nat.reduceMul, Nat.reduceBEq, Int.reduceBEq, Int.reduceBNe, Int.reduceLT, Int.reduceLE, Int.reduceGT, Int.reduceGE, Int.reduceNeg, Int.reduceEq, Int.reduceNe, Int.reduceToNat, Int.reduceAdd, aconv, acvB, capR, acmpnil, appBox, storeB, ares1, appendTo, afill, aeqL, teset, e4, e5, e6, inj_take, inj_drop, inj_agg, inj_len, inj_one, List.length_map]
        cases hq : (ord s[i] s[j] == 0) with
        | true =>
          have hq2 : ord s[i] s[j] = 0 := by simpa using hq
          rw [hst, if_pos (by omega)] at hv
          simp only [aw0, aw1, aw2, aw3, aw4, aw5, aw6, aw7, ne_eq, eq_self, implies_true, imp_self, reduceIte, reduceCtorEq, Nat.reduceAdd, Nat.reduceLT, Nat.reduceLeDiff, Nat.reduceEqDiff, Nat.reduceSub, Nat.reduceMul, Nat.reduceBEq, Int.reduceBEq, Int.reduceBNe, Int.reduceLT, Int.reduceLE, Int.reduceGT, Int.reduceGE, Int.reduceNeg, Int.reduceEq, Int.reduceNe, Int.reduceToNat, Int.reduceAdd, aconv, acvB, capR, acmpnil, appBox, storeB, ares1, appendTo, afill, aeqL, teset, e4, e5, e6, inj_take, inj_drop, inj_agg, inj_len, inj_one, List.length_map]
          exact ⟨n - 1, by omega, j + 1, _, out, rfl, by rw [wrap_succ (by omega)], by omega, hE, ho, hv⟩
        | false =>
          have hq2 : ord s[i] s[j] ≠ 0 := by simpa using hq
          rw [hst, if_neg (by omega)] at hv
          simp only [aw0, aw1, aw2, aw3, aw4, aw5, aw6, aw7, ne_eq, eq_self, implies_true, imp_self, reduceIte, reduceCtorEq, Nat.reduceAdd, Nat.reduceLT, Nat.reduceLeDiff, Nat.reduceEqDiff, Nat.reduceSub, Nat.reduceMul, Nat.reduceBEq, Int.reduceBEq, Int.reduceBNe, Int.reduceLT, Int.reduceLE, Int.reduceGT, Int.reduceGE, Int.reduceNeg, Int.reduceEq, Int.reduceNe, Int.reduceToNat, Int.reduceAdd, aconv, acvB, capR, acmpnil, appBox, storeB, ares1, appendTo, afill, aeqL, teset, e4, e5, e6, inj_take, inj_drop, inj_agg, inj_len, inj_one, List.length_map]
          have hget : (s.map inj)[((j : Nat) : Int).toNat]? = some (inj s[j]) := by simp [hj]
          rcases ho with ⟨rfl, rfl⟩ | ⟨t, G, rfl, htk, htn⟩
          · simp only [aw0, aw1, aw2, aw3, aw4, aw5, aw6, aw7, ne_eq, eq_self, implies_true, imp_self, reduceIte, reduceCtorEq, Nat.reduceAdd, Nat.reduceLT, Nat.reduceLeDiff, Nat.reduceEqDiff, Nat.reduceSub, Nat.reduceMul, Nat.reduceBEq, Int.reduceBEq, Int.reduceBNe, Int.reduceLT, Int.reduceLE, Int.reduceGT, Int.reduceGE, Int.reduceNeg, Int.reduceEq, Int.reduceNe, Int.reduceToNat, Int.reduceAdd, aconv, acvB, capR, acmpnil, appBox, storeB, ares1, appendTo, afill, aeqL, teset, e4, e5, e6, inj_take, inj_drop, inj_agg, inj_len, inj_one, List.length_map, hget, Int.natCast_nonneg, range1, inj_len, inj_one, List.map_nil, List.nil_append]
            refine .inl ?_
            refine ⟨n - 1, by omega, j + 1, _, [] ++ [s[j]], rfl, by rw [wrap_succ (by omega)], by omega, hE.newTok, .inr ⟨h'.nt, 0, rfl, by rw [newTok_tok, if_pos rfl], hE.nt⟩, ?_⟩
            rw [List.append_assoc]; exact hv
          · have hout : out.length < 1000000 := by
              have := congrArg List.length hv
              rw [List.length_append] at this
              have h3 := dd_len s
              omega
            have hb0 : (out.length + 1) * 80 ≤ 140737488355328 := by omega
            simp only [aw0, aw1, aw2, aw3, aw4, aw5, aw6, aw7, ne_eq, eq_self, implies_true, imp_self, reduceIte, reduceCtorEq, Nat.reduceAdd, Nat.reduceLT, Nat.reduceLeDiff, Nat.reduceEqDiff, Nat.reduceSub, Nat.reduceMul, Nat.reduceBEq, Int.reduceBEq, Int.reduceBNe, Int.reduceLT, Int.reduceLE, Int.reduceGT, Int.reduceGE, Int.reduceNeg, Int.reduceEq, Int.reduceNe, Int.reduceToNat, Int.reduceAdd, aconv, acvB, capR, acmpnil, appBox, storeB, ares1, appendTo, afill, aeqL, teset, e4, e5, e6, inj_take, inj_drop, inj_agg, inj_len, inj_one, List.length_map, hget, Int.natCast_nonneg, range1, inj_len, inj_one, htk, hb0, List.length_map]
            refine ⟨n - 1, by omega, j + 1, _, out ++ [s[j]], rfl, by rw [wrap_succ (by omega)], by omega, hE.setTok htn _, .inr ⟨t, G + 1, by simp, by rw [setTok_tok, if_pos rfl], htn⟩, ?_⟩
            rw [List.append_assoc]; exact hv
end Go.Proofs.YtlbhgoffiigfbaaGreat.AW
end
section
set_option linter.unusedSimpArgs false
set_option linter.unusedVariables false
namespace Go.Proofs.YtlbhgoffiigfbaaGreat.AW
open Go Go.RowKit

theorem ord_eq0 {a b : V} (ha : Vok a) (hb : Vok b) (h : ord a b = 0) : a = b := ordN_zero _ _ ha hb (by rw [← ord_eq _ _ ha hb]; exact h)
theorem ddG_all : ∀ (r : List V) (p : V), (∀ y ∈ p :: r, Vok y) → ∀ y ∈ r, y = p ∨ y ∈ ddG p r
  | [], _, _ => by intro y hy; cases hy
  | a :: r, p, hok => by
    intro y hy
    have ha := hok a (List.mem_cons_of_mem _ List.mem_cons_self)
    have hp := hok p List.mem_cons_self
    have ih := ddG_all r a (fun z hz => hok z (List.mem_cons_of_mem _ hz))
    rw [ddG]
    split
    · next h0 =>
      have hap := ord_eq0 ha hp h0
      rcases List.mem_cons.1 hy with rfl | hy
      · exact .inl hap
      · rcases ih y hy with rfl | h
        · exact .inl hap
        · exact .inr h
    · rcases List.mem_cons.1 hy with rfl | hy
      · exact .inr List.mem_cons_self
      · rcases ih y hy with rfl | h
        · exact .inr List.mem_cons_self
        · exact .inr (List.mem_cons_of_mem _ h)
theorem words_all {xs : List V} (hx : ∀ x ∈ xs, Vok x) : ∀ x ∈ xs, x ∈ wordsL xs := by
  intro x hxx
  have h1 : x ∈ sortV xs := sortV_mem.2 hxx
  have hok : ∀ y ∈ sortV xs, Vok y := fun y hy => hx y (sortV_mem.1 hy)
  unfold wordsL
  cases hs : sortV xs with
  | nil => rw [hs] at h1; cases h1
  | cons p r =>
    rw [hs] at h1 hok
    show x ∈ p :: ddG p r
    rcases List.mem_cons.1 h1 with rfl | h1
    · exact List.mem_cons_self
    · rcases ddG_all r p hok x h1 with rfl | h
      · exact List.mem_cons_self
      · exact List.mem_cons_of_mem _ h
/-- The first that is equal is where a search ends. -/
theorem lb_first {ws : List V} {v : V} {k : Nat} (hs : ws.Pairwise fun a b => leV a b = true) (hw : ∀ w ∈ ws, Vok w) (hv : Vok v) (hk : k < ws.length) (h0 : ord ws[k] v = 0) (hb : ∀ (k' : Nat) w, k' < k → ws[k']? = some w → ord w v ≠ 0) : lbV ws v = k := by
  have e : ws[k] = v := ord_eq0 (hw _ (List.getElem_mem hk)) hv h0
  have h1 : lbV ws v ≤ k := lbV_ge hk (by unfold ltV; rw [h0]; decide)
  by_cases hz : k = 0
  · omega
  · have hm : k - 1 < ws.length := by omega
    have hne := hb (k - 1) ws[k - 1] (by omega) (List.getElem?_eq_getElem hm)
    have hle : leV ws[k - 1] ws[k] = true := List.pairwise_iff_getElem.1 hs (k - 1) k hm hk (by omega)
    have hlt : ltV v ws[k - 1] = true := by
      unfold ltV
      rw [e] at hle
      unfold leV at hle
      rw [← ord_eq _ _ (hw _ (List.getElem_mem hm)) hv] at hle
      have := of_decide_eq_true hle
      exact decide_eq_true (by omega)
    have := lbV_lt hs hw hv hm hlt
    omega
set_option maxHeartbeats 4000000 in
theorem refdict_pure (xs : List V) (hx : ∀ x ∈ xs, Vok x) (hval : xs.all valid = true) (hl : xs.length ≤ 1000) : Pure Tryz.prog 38 [.sl .ro 5 (xs.map inj)] (.str (sB (dictA xs))) := by
  have hwok := words_ok hx
  have hwl := words_len xs
  have hws := words_sorted xs
  have hall := words_all hx
  have hvl := valsA_len hwok
  have hpl := places_len (wordsL xs) (by omega) xs
  have hn1 := numA_len (wordsL xs).length (by omega)
  have hn2 := numA_len xs.length (by omega)
  have hdl : (dictA xs).length = (numA (wordsL xs).length).length + (valsA (wordsL xs)).length + (numA xs.length).length + (placesA (wordsL xs) xs).length := by unfold dictA; simp only [List.length_append]
  have hc0 := catW (BY.plain (wordsL xs)) (BY.num xs.length) (by unfold plainA; rw [List.length_append]; omega)
  refine Pure.of ⟨Tryz.f38, Tryz.func38, rfl, by kernel_rfl⟩ rfl (fun h => ?_)
  refine acalls_of te_ok [12] Tryz.func38 (c := _) rfl (Nat.le_of_ble_eq_true rfl) ?_
  simp only [aw0, aw1, aw2, aw3, aw4, aw5, aw6, aw7, ne_eq, eq_self, implies_true, imp_self, reduceIte, reduceCtorEq, Nat.reduceAdd, Nat.reduceLT, Nat.reduceLeDiff, Nat.reduceEqDiff, Nat.reduceSub, Nat.reduceMul, Nat.reduceBEq, Int.reduceBEq, Int.reduceBNe, Int.reduceLT, Int.reduceLE, Int.reduceGT, Int.reduceGE, Int.reduceNeg, Int.reduceEq, Int.reduceNe, Int.reduceToNat, Int.reduceAdd, aconv, acvB, capR, acmpnil, appBox, storeB, ares1, appendTo, afill, aeqL, teset, Tryz.ntmps38, Tryz.results38, inj_take, inj_drop, inj_agg, inj_len, inj_one, List.length_map]
  refine ACallV.pure (refdistinct_pure xs hx hval hl) ?_
  simp only [aw0, aw1, aw2, aw3, aw4, aw5, aw6, aw7, ne_eq, eq_self, implies_true, imp_self, reduceIte, reduceCtorEq, Nat.reduceAdd, Nat.reduceLT, Nat.reduceLeDiff, Nat.reduceEqDiff, Nat.reduceSub, Nat.reduceMul, Nat.reduceBEq, Int.reduceBEq, Int.reduceBNe, Int.reduceLT, Int.reduceLE, Int.reduceGT, Int.reduceGE, Int.reduceNeg, Int.reduceEq, Int.reduceNe, Int.reduceToNat, Int.reduceAdd, aconv, acvB, capR, acmpnil, appBox, storeB, ares1, appendTo, afill, aeqL, teset, inj_take, inj_drop, inj_agg, inj_len, inj_one, List.length_map]
  refine ACallV.pure (refplain_pure (wordsL xs) hwok (by omega)) ?_
  simp only [aw0, aw1, aw2, aw3, aw4, aw5, aw6, aw7, ne_eq, eq_self, implies_true, imp_self, reduceIte, reduceCtorEq, Nat.reduceAdd, Nat.reduceLT, Nat.reduceLeDiff, Nat.reduceEqDiff, Nat.reduceSub, Nat.reduceMul, Nat.reduceBEq, Int.reduceBEq, Int.reduceBNe, Int.reduceLT, Int.reduceLE, Int.reduceGT, Int.reduceGE, Int.reduceNeg, Int.reduceEq, Int.reduceNe, Int.reduceToNat, Int.reduceAdd, aconv, acvB, capR, acmpnil, appBox, storeB, ares1, appendTo, afill, aeqL, teset, inj_take, inj_drop, inj_agg, inj_len, inj_one, List.length_map]
  refine ACallV.pure (count_pure xs.length (by omega)) ?_
  simp only [aw0, aw1, aw2, aw3, aw4, aw5, aw6, aw7, ne_eq, eq_self, implies_true, imp_self, reduceIte, reduceCtorEq, Nat.reduceAdd, Nat.reduceLT, Nat.reduceLeDiff, Nat.reduceEqDiff, Nat.reduceSub, Nat.reduceMul, Nat.reduceBEq, Int.reduceBEq, Int.reduceBNe, Int.reduceLT, Int.reduceLE, Int.reduceGT, Int.reduceGE, Int.reduceNeg, Int.reduceEq, Int.reduceNe, Int.reduceToNat, Int.reduceAdd, aconv, acvB, capR, acmpnil, appBox, storeB, ares1, appendTo, afill, aeqL, teset, sB_num, abin_str, astr, hc0]
  refine ⟨fun n s' h' => ∃ (j : Nat) (ys : List AV), s' 0 = .sl .ro 5 (xs.map inj) ∧ s' 3 = .sl .ro 5 ((wordsL xs).map inj) ∧ s' 5 = .str (sB ys) ∧ s' 6 = .int .i64 j ∧ h' = h ∧ n + j = xs.length ∧ BY ys ∧ ys ++ placesA (wordsL xs) (xs.drop j) = dictA xs, ⟨xs.length, 0, plainA (wordsL xs) ++ numA xs.length, ?_⟩, ?_⟩
  · simp only [aw0, aw1, aw2, aw3, aw4, aw5, aw6, aw7, ne_eq, eq_self, implies_true, imp_self, reduceIte, reduceCtorEq, Nat.reduceAdd, Nat.reduceLT, Nat.reduceLeDiff, Nat.reduceEqDiff, Nat.reduceSub, Nat.reduceMul, Nat.reduceBEq, Int.reduceBEq, Int.reduceBNe, Int.reduceLT, Int.reduceLE, Int.reduceGT, Int.reduceGE, Int.reduceNeg, Int.reduceEq, Int.reduceNe, Int.reduceToNat, Int.reduceAdd, aconv, acvB, capR, acmpnil, appBox, storeB, ares1, appendTo, afill, aeqL, teset, Int.natCast_zero, List.drop_zero]
    exact ⟨by rw [sB_app (BY.plain _) (BY.num _)], BY.app (BY.plain _) (BY.num _), rfl⟩
  · rintro n s' h' ⟨j, ys, e0, e3, e5, e6, rfl, hn, hys, hv⟩
    simp only [aw0, aw1, aw2, aw3, aw4, aw5, aw6, aw7, ne_eq, eq_self, implies_true, imp_self, reduceIte, reduceCtorEq, Nat.reduceAdd, Nat.reduceLT, Nat.reduceLeDiff, Nat.reduceEqDiff, Nat.reduceSub, Nat.reduceMul, Nat.reduceBEq, Int.reduceBEq, Int.reduceBNe, Int.reduceLT, Int.reduceLE, Int.reduceGT, Int.reduceGE, Int.reduceNeg, Int.reduceEq, Int.reduceNe, Int.reduceToNat, Int.reduceAdd, aconv, acvB, capR, acmpnil, appBox, storeB, ares1, appendTo, afill, aeqL, teset, e0, e3, e5, e6, inj_take, inj_drop, inj_agg, inj_len, inj_one, List.length_map]
    cases hc : decide ((j : Int) < (xs.length : Int)) with
    | false =>
      simp only [aw0, aw1, aw2, aw3, aw4, aw5, aw6, aw7, ne_eq, eq_self, implies_true, imp_self, reduceIte, reduceCtorEq, Nat.reduceAdd, Nat.reduceLT, Nat.reduceLeDiff, Nat.reduceEqDiff, Nat.reduceSub, Nat.reduceMul, Nat.reduceBEq, Int.reduceBEq, Int.reduceBNe, Int.reduceLT, Int.reduceLE, Int.reduceGT, Int.reduceGE, Int.reduceNeg, Int.reduceEq, Int.reduceNe, Int.reduceToNat, Int.reduceAdd, aconv, acvB, capR, acmpnil, appBox, storeB, ares1, appendTo, afill, aeqL, teset, e0, e3, e5, e6, inj_take, inj_drop, inj_agg, inj_len, inj_one, List.length_map]
      simp only [decide_eq_false_iff_not] at hc
      rw [List.drop_eq_nil_of_le (by omega), show placesA (wordsL xs) [] = [] from rfl, List.append_nil] at hv
      exact ⟨.refl _, _, rfl, by rw [hv]; rfl⟩
    | true =>
      simp only [decide_eq_true_eq] at hc
      have hj : j < xs.length := by omega
      have hget : (xs.map inj)[((j : Nat) : Int).toNat]? = some (inj xs[j]) := by simp [hj]
      have hokj := hx _ (List.getElem_mem hj)
      obtain ⟨q, hq, hqe⟩ := List.mem_iff_getElem.1 (hall _ (List.getElem_mem hj))
      rw [places_drop hj] at hv
      have hlv := congrArg List.length hv
      simp only [List.length_append] at hlv
      simp only [aw0, aw1, aw2, aw3, aw4, aw5, aw6, aw7, ne_eq, eq_self, implies_true, imp_self, reduceIte, reduceCtorEq, Nat.reduceAdd, Nat.reduceLT, Nat.reduceLeDiff, Nat.reduceEqDiff, Nat.reduceSub, Nat.reduceMul, Nat.reduceBEq, Int.reduceBEq, Int.reduceBNe, Int.reduceLT, Int.reduceLE, Int.reduceGT, Int.reduceGE, Int.reduceNeg, Int.reduceEq, Int.reduceNe, Int.reduceToNat, Int.reduceAdd, aconv, acvB, capR, acmpnil, appBox, storeB, ares1, appendTo, afill, aeqL, teset, e0, e3, e5, e6, inj_take, inj_drop, inj_agg, inj_len, inj_one, List.length_map]
      refine ⟨fun n2 s2 h2 => ∃ (k : Nat), s2 0 = .sl .ro 5 (xs.map inj) ∧ s2 3 = .sl .ro 5 ((wordsL xs).map inj) ∧ s2 5 = .str (sB ys) ∧ s2 6 = .int .i64 j ∧ s2 7 = .int .i64 k ∧ h2 = h' ∧ n2 + k = (wordsL xs).length ∧ (∀ (k' : Nat) w, k' < k → (wordsL xs)[k']? = some w → ord w xs[j] ≠ 0), ⟨(wordsL xs).length, 0, ?_⟩, ?_⟩
      · simp only [aw0, aw1, aw2, aw3, aw4, aw5, aw6, aw7, ne_eq, eq_self, implies_true, imp_self, reduceIte, reduceCtorEq, Nat.reduceAdd, Nat.reduceLT, Nat.reduceLeDiff, Nat.reduceEqDiff, Nat.reduceSub, Nat.reduceMul, Nat.reduceBEq, Int.reduceBEq, Int.reduceBNe, Int.reduceLT, Int.reduceLE, Int.reduceGT, Int.reduceGE, Int.reduceNeg, Int.reduceEq, Int.reduceNe, Int.reduceToNat, Int.reduceAdd, aconv, acvB, capR, acmpnil, appBox, storeB, ares1, appendTo, afill, aeqL, teset, e0, e3, e5, e6, Int.natCast_zero]
        exact fun k' w hk' => absurd hk' (Nat.not_lt_zero _)
      · rintro n2 s2 h2 ⟨k, f0, f3, f5, f6, f7, rfl, hn2, hbef⟩
        have hk : k < (wordsL xs).length := by
          by_cases hlt : q < k
          · have := hbef q _ hlt (List.getElem?_eq_getElem hq)
            rw [hqe] at this
            exact absurd (ord_self hokj) this
          · omega
        have hgk : ((wordsL xs).map inj)[((k : Nat) : Int).toNat]? = some (inj (wordsL xs)[k]) := by simp [hk]
        have hokk := hwok _ (List.getElem_mem hk)
        simp only [aw0, aw1, aw2, aw3, aw4, aw5, aw6, aw7, ne_eq, eq_self, implies_true, imp_self, reduceIte, reduceCtorEq, Nat.reduceAdd, Nat.reduceLT, Nat.reduceLeDiff, Nat.reduceEqDiff, Nat.reduceSub, Nat.reduceMul, Nat.reduceBEq, Int.reduceBEq, Int.reduceBNe, Int.reduceLT, Int.reduceLE, Int.reduceGT, Int.reduceGE, Int.reduceNeg, Int.reduceEq, Int.reduceNe, Int.reduceToNat, Int.reduceAdd, aconv, acvB, capR, acmpnil, appBox, storeB, ares1, appendTo, afill, aeqL, teset, f0, f3, f5, f6, f7, inj_take, inj_drop, inj_agg, inj_len, inj_one, List.length_map]
        refine acode_draw_chain te_ok mixed [] (by kernel_rfl) ?_
        simp only [aw0, aw1, aw2, aw3, aw4, aw5, aw6, aw7, ne_eq, eq_self, implies_true, imp_self, reduceIte, reduceCtorEq, Nat.reduceAdd, Nat.reduceLT, Nat.reduceLeDiff, Nat.reduceEqDiff, Nat.reduceSub, Nat.reduceMul, Nat.reduceBEq, Int.reduceBEq, Int.reduceBNe, Int.reduceLT, Int.reduceLE, Int.reduceGT, Int.reduceGE, Int.reduceNeg, Int.reduceEq, Int.reduceNe, Int.reduceToNat, Int.reduceAdd, aconv, acvB, capR, acmpnil, appBox, storeB, ares1, appendTo, afill, aeqL, teset, f0, f3, f5, f6, f7, inj_take, inj_drop, inj_agg, inj_len, inj_one, List.length_map, hget, hgk, Int.natCast_nonneg]
        refine skR_pure (refequal_pure _ _ hokk hokj) ?_
        simp only [aw0, aw1, aw2, aw3, aw4, aw5, aw6, aw7, ne_eq, eq_self, implies_true, imp_self, reduceIte, reduceCtorEq, Nat.reduceAdd, Nat.reduceLT, Nat.reduceLeDiff, Nat.reduceEqDiff, Nat.reduceSub, Nat.reduceMul, Nat.reduceBEq, Int.reduceBEq, Int.reduceBNe, Int.reduceLT, Int.reduceLE, Int.reduceGT, Int.reduceGE, Int.reduceNeg, Int.reduceEq, Int.reduceNe, Int.reduceToNat, Int.reduceAdd, aconv, acvB, capR, acmpnil, appBox, storeB, ares1, appendTo, afill, aeqL, teset, f0, f3, f5, f6, f7, inj_take, inj_drop, inj_agg, inj_len, inj_one, List.length_map]
        cases hz : (ord (wordsL xs)[k] xs[j] == 0) with
        | true =>
          have hz2 : ord (wordsL xs)[k] xs[j] = 0 := by simpa using hz
          have hlb := lb_first hws hwok hokj hk hz2 hbef
          rw [hlb] at hv hlv
          have hb1 := BY.num k
          have hcat := catW hys hb1 (by omega)
          simp only [aw0, aw1, aw2, aw3, aw4, aw5, aw6, aw7, ne_eq, eq_self, implies_true, imp_self, reduceIte, reduceCtorEq, Nat.reduceAdd, Nat.reduceLT, Nat.reduceLeDiff, Nat.reduceEqDiff, Nat.reduceSub, Nat.reduceMul, Nat.reduceBEq, Int.reduceBEq, Int.reduceBNe, Int.reduceLT, Int.reduceLE, Int.reduceGT, Int.reduceGE, Int.reduceNeg, Int.reduceEq, Int.reduceNe, Int.reduceToNat, Int.reduceAdd, aconv, acvB, capR, acmpnil, appBox, storeB, ares1, appendTo, afill, aeqL, teset, f0, f3, f5, f6, f7, inj_take, inj_drop, inj_agg, inj_len, inj_one, List.length_map]
          refine ACallV.pure (count_pure k (by omega)) ?_
          simp only [aw0, aw1, aw2, aw3, aw4, aw5, aw6, aw7, ne_eq, eq_self, implies_true, imp_self, reduceIte, reduceCtorEq, Nat.reduceAdd, Nat.reduceLT, Nat.reduceLeDiff, Nat.reduceEqDiff, Nat.reduceSub, Nat.reduceMul, Nat.reduceBEq, Int.reduceBEq, Int.reduceBNe, Int.reduceLT, Int.reduceLE, Int.reduceGT, Int.reduceGE, Int.reduceNeg, Int.reduceEq, Int.reduceNe, Int.reduceToNat, Int.reduceAdd, aconv, acvB, capR, acmpnil, appBox, storeB, ares1, appendTo, afill, aeqL, teset, sB_num, f0, f3, f5, f6, f7, inj_take, inj_drop, inj_agg, inj_len, inj_one, List.length_map, abin_str, astr, hcat]
          refine ⟨n - 1, by omega, j + 1, ys ++ numA k, by rw [sB_app hys hb1], by rw [wrap_succ (by omega)], by omega, BY.app hys hb1, ?_⟩
          rw [List.append_assoc]; exact hv
        | false =>
          have hz2 : ord (wordsL xs)[k] xs[j] ≠ 0 := by simpa using hz
          simp only [aw0, aw1, aw2, aw3, aw4, aw5, aw6, aw7, ne_eq, eq_self, implies_true, imp_self, reduceIte, reduceCtorEq, Nat.reduceAdd, Nat.reduceLT, Nat.reduceLeDiff, Nat.reduceEqDiff, Nat.reduceSub, Nat.reduceMul, Nat.reduceBEq, Int.reduceBEq, Int.reduceBNe, Int.reduceLT, Int.reduceLE, Int.reduceGT, Int.reduceGE, Int.reduceNeg, Int.reduceEq, Int.reduceNe, Int.reduceToNat, Int.reduceAdd, aconv, acvB, capR, acmpnil, appBox, storeB, ares1, appendTo, afill, aeqL, teset, f0, f3, f5, f6, f7, inj_take, inj_drop, inj_agg, inj_len, inj_one, List.length_map]
          refine ⟨n2 - 1, by omega, k + 1, by rw [wrap_succ (by omega)], by omega, ?_⟩
          intro k' w hk' hw
          by_cases e : k' = k
          · subst e; rw [List.getElem?_eq_getElem hk] at hw; injection hw with hw; subst hw; exact hz2
          · exact hbef k' w (by omega) hw
end Go.Proofs.YtlbhgoffiigfbaaGreat.AW
end
section
set_option linter.unusedSimpArgs false
set_option linter.unusedVariables false
namespace Go.Proofs.YtlbhgoffiigfbaaGreat.AW
open Go Go.RowKit

theorem encS_eq (e : Nat) (xs : List V) : encS e xs = sB (encA e xs) := rfl
theorem validL_all {xs : List V} (h : validL xs = true) : xs.all valid = true := by
  unfold validL at h
  exact (Bool.and_eq_true_iff.1 h).2
theorem refbytes_pure (xs : List V) (e : Nat) (h1 : 1 ≤ e) (h4 : e ≤ 4) (hv : validL xs = true) : Pure Tryz.prog 26 [.sl .ro 5 (xs.map inj), .int .i64 (e : Int)] (.str (encS e xs)) := by
  obtain ⟨hx, hl⟩ := validL_ok hv
  have hall := validL_all hv
  rcases nE_cases h1 h4 with rfl | rfl | rfl | rfl
  · rw [show (((1 : Nat) : Int)) = 1 from rfl]
    refine Pure.of ⟨Tryz.f26, Tryz.func26, rfl, by kernel_rfl⟩ rfl (fun h => ?_)
    refine acalls_of te_ok [] Tryz.func26 (c := _) rfl (Nat.le_of_ble_eq_true rfl) ?_
    simp only [aw0, aw1, aw2, aw3, aw4, aw5, aw6, aw7, ne_eq, eq_self, implies_true, imp_self, reduceIte, reduceCtorEq, Nat.reduceAdd, Nat.reduceLT, Nat.reduceLeDiff, Nat.reduceEqDiff, Nat.reduceSub, Nat.reduceMul, Nat.reduceBEq, Int.reduceBEq, Int.reduceBNe, Int.reduceLT, Int.reduceLE, Int.reduceGT, Int.reduceGE, Int.reduceNeg, Int.reduceEq, Int.reduceNe, Int.reduceToNat, Int.reduceAdd, aconv, acvB, capR, acmpnil, appBox, storeB, ares1, appendTo, afill, aeqL, teset, Tryz.ntmps26, Tryz.results26, Int.reduceBEq]
    refine ACallV.pure (refplain_pure xs hx (by omega)) ?_
    simp only [aw0, aw1, aw2, aw3, aw4, aw5, aw6, aw7, ne_eq, eq_self, implies_true, imp_self, reduceIte, reduceCtorEq, Nat.reduceAdd, Nat.reduceLT, Nat.reduceLeDiff, Nat.reduceEqDiff, Nat.reduceSub, Nat.reduceMul, Nat.reduceBEq, Int.reduceBEq, Int.reduceBNe, Int.reduceLT, Int.reduceLE, Int.reduceGT, Int.reduceGE, Int.reduceNeg, Int.reduceEq, Int.reduceNe, Int.reduceToNat, Int.reduceAdd, aconv, acvB, capR, acmpnil, appBox, storeB, ares1, appendTo, afill, aeqL, teset]
    exact ⟨.refl _, _, rfl, rfl⟩
  · rw [show (((2 : Nat) : Int)) = 2 from rfl]
    refine Pure.of ⟨Tryz.f26, Tryz.func26, rfl, by kernel_rfl⟩ rfl (fun h => ?_)
    refine acalls_of te_ok [] Tryz.func26 (c := _) rfl (Nat.le_of_ble_eq_true rfl) ?_
    simp only [aw0, aw1, aw2, aw3, aw4, aw5, aw6, aw7, ne_eq, eq_self, implies_true, imp_self, reduceIte, reduceCtorEq, Nat.reduceAdd, Nat.reduceLT, Nat.reduceLeDiff, Nat.reduceEqDiff, Nat.reduceSub, Nat.reduceMul, Nat.reduceBEq, Int.reduceBEq, Int.reduceBNe, Int.reduceLT, Int.reduceLE, Int.reduceGT, Int.reduceGE, Int.reduceNeg, Int.reduceEq, Int.reduceNe, Int.reduceToNat, Int.reduceAdd, aconv, acvB, capR, acmpnil, appBox, storeB, ares1, appendTo, afill, aeqL, teset, Tryz.ntmps26, Tryz.results26, Int.reduceBEq]
    refine ACallV.pure (refruns_pure xs hx (by omega)) ?_
    simp only [aw0, aw1, aw2, aw3, aw4, aw5, aw6, aw7, ne_eq, eq_self, implies_true, imp_self, reduceIte, reduceCtorEq, Nat.reduceAdd, Nat.reduceLT, Nat.reduceLeDiff, Nat.reduceEqDiff, Nat.reduceSub, Nat.reduceMul, Nat.reduceBEq, Int.reduceBEq, Int.reduceBNe, Int.reduceLT, Int.reduceLE, Int.reduceGT, Int.reduceGE, Int.reduceNeg, Int.reduceEq, Int.reduceNe, Int.reduceToNat, Int.reduceAdd, aconv, acvB, capR, acmpnil, appBox, storeB, ares1, appendTo, afill, aeqL, teset]
    exact ⟨.refl _, _, rfl, rfl⟩
  · rw [show (((3 : Nat) : Int)) = 3 from rfl]
    refine Pure.of ⟨Tryz.f26, Tryz.func26, rfl, by kernel_rfl⟩ rfl (fun h => ?_)
    refine acalls_of te_ok [] Tryz.func26 (c := _) rfl (Nat.le_of_ble_eq_true rfl) ?_
    simp only [aw0, aw1, aw2, aw3, aw4, aw5, aw6, aw7, ne_eq, eq_self, implies_true, imp_self, reduceIte, reduceCtorEq, Nat.reduceAdd, Nat.reduceLT, Nat.reduceLeDiff, Nat.reduceEqDiff, Nat.reduceSub, Nat.reduceMul, Nat.reduceBEq, Int.reduceBEq, Int.reduceBNe, Int.reduceLT, Int.reduceLE, Int.reduceGT, Int.reduceGE, Int.reduceNeg, Int.reduceEq, Int.reduceNe, Int.reduceToNat, Int.reduceAdd, aconv, acvB, capR, acmpnil, appBox, storeB, ares1, appendTo, afill, aeqL, teset, Tryz.ntmps26, Tryz.results26, Int.reduceBEq]
    refine ACallV.pure (refdict_pure xs hx hall (by omega)) ?_
    simp only [aw0, aw1, aw2, aw3, aw4, aw5, aw6, aw7, ne_eq, eq_self, implies_true, imp_self, reduceIte, reduceCtorEq, Nat.reduceAdd, Nat.reduceLT, Nat.reduceLeDiff, Nat.reduceEqDiff, Nat.reduceSub, Nat.reduceMul, Nat.reduceBEq, Int.reduceBEq, Int.reduceBNe, Int.reduceLT, Int.reduceLE, Int.reduceGT, Int.reduceGE, Int.reduceNeg, Int.reduceEq, Int.reduceNe, Int.reduceToNat, Int.reduceAdd, aconv, acvB, capR, acmpnil, appBox, storeB, ares1, appendTo, afill, aeqL, teset]
    exact ⟨.refl _, _, rfl, rfl⟩
  · rw [show (((4 : Nat) : Int)) = 4 from rfl]
    refine Pure.of ⟨Tryz.f26, Tryz.func26, rfl, by kernel_rfl⟩ rfl (fun h => ?_)
    refine acalls_of te_ok [] Tryz.func26 (c := _) rfl (Nat.le_of_ble_eq_true rfl) ?_
    simp only [aw0, aw1, aw2, aw3, aw4, aw5, aw6, aw7, ne_eq, eq_self, implies_true, imp_self, reduceIte, reduceCtorEq, Nat.reduceAdd, Nat.reduceLT, Nat.reduceLeDiff, Nat.reduceEqDiff, Nat.reduceSub, Nat.reduceMul, Nat.reduceBEq, Int.reduceBEq, Int.reduceBNe, Int.reduceLT, Int.reduceLE, Int.reduceGT, Int.reduceGE, Int.reduceNeg, Int.reduceEq, Int.reduceNe, Int.reduceToNat, Int.reduceAdd, aconv, acvB, capR, acmpnil, appBox, storeB, ares1, appendTo, afill, aeqL, teset, Tryz.ntmps26, Tryz.results26, Int.reduceBEq]
    refine ACallV.pure (refdelta_pure xs hx (by omega)) ?_
    simp only [aw0, aw1, aw2, aw3, aw4, aw5, aw6, aw7, ne_eq, eq_self, implies_true, imp_self, reduceIte, reduceCtorEq, Nat.reduceAdd, Nat.reduceLT, Nat.reduceLeDiff, Nat.reduceEqDiff, Nat.reduceSub, Nat.reduceMul, Nat.reduceBEq, Int.reduceBEq, Int.reduceBNe, Int.reduceLT, Int.reduceLE, Int.reduceGT, Int.reduceGE, Int.reduceNeg, Int.reduceEq, Int.reduceNe, Int.reduceToNat, Int.reduceAdd, aconv, acvB, capR, acmpnil, appBox, storeB, ares1, appendTo, afill, aeqL, teset]
    exact ⟨.refl _, _, rfl, rfl⟩
theorem refpack_form (xs : List V) (n : Int) (hl : xs.length < 4611686018427387904) (hv : validL xs = false) : Pure Tryz.prog 9 [.sl .ro 5 (xs.map inj), .int .i64 n] (packBad 1) := by
  have hf := form_pure xs hl
  rw [hv] at hf
  refine Pure.of ⟨Tryz.f9, Tryz.func9, rfl, by kernel_rfl⟩ rfl (fun h => ?_)
  refine acalls_of te_ok [12, 13] Tryz.func9 (c := _) rfl (Nat.le_of_ble_eq_true rfl) ?_
  simp only [aw0, aw1, aw2, aw3, aw4, aw5, aw6, aw7, ne_eq, eq_self, implies_true, imp_self, reduceIte, reduceCtorEq, Nat.reduceAdd, Nat.reduceLT, Nat.reduceLeDiff, Nat.reduceEqDiff, Nat.reduceSub, Nat.reduceMul, Nat.reduceBEq, Int.reduceBEq, Int.reduceBNe, Int.reduceLT, Int.reduceLE, Int.reduceGT, Int.reduceGE, Int.reduceNeg, Int.reduceEq, Int.reduceNe, Int.reduceToNat, Int.reduceAdd, aconv, acvB, capR, acmpnil, appBox, storeB, ares1, appendTo, afill, aeqL, teset, Tryz.ntmps9, Tryz.results9]
  refine ACallV.pure hf ?_
  simp only [aw0, aw1, aw2, aw3, aw4, aw5, aw6, aw7, ne_eq, eq_self, implies_true, imp_self, reduceIte, reduceCtorEq, Nat.reduceAdd, Nat.reduceLT, Nat.reduceLeDiff, Nat.reduceEqDiff, Nat.reduceSub, Nat.reduceMul, Nat.reduceBEq, Int.reduceBEq, Int.reduceBNe, Int.reduceLT, Int.reduceLE, Int.reduceGT, Int.reduceGE, Int.reduceNeg, Int.reduceEq, Int.reduceNe, Int.reduceToNat, Int.reduceAdd, aconv, acvB, capR, acmpnil, appBox, storeB, ares1, appendTo, afill, aeqL, teset]
  exact ⟨.refl _, _, rfl, rfl⟩
theorem refpack_arg (xs : List V) (n : Int) (hl : xs.length < 4611686018427387904) (hv : validL xs = true) (hn : n < 1 ∨ 4 < n) : Pure Tryz.prog 9 [.sl .ro 5 (xs.map inj), .int .i64 n] (packBad 3) := by
  have hf := form_pure xs hl
  rw [hv] at hf
  refine Pure.of ⟨Tryz.f9, Tryz.func9, rfl, by kernel_rfl⟩ rfl (fun h => ?_)
  refine acalls_of te_ok [12, 13] Tryz.func9 (c := _) rfl (Nat.le_of_ble_eq_true rfl) ?_
  simp only [aw0, aw1, aw2, aw3, aw4, aw5, aw6, aw7, ne_eq, eq_self, implies_true, imp_self, reduceIte, reduceCtorEq, Nat.reduceAdd, Nat.reduceLT, Nat.reduceLeDiff, Nat.reduceEqDiff, Nat.reduceSub, Nat.reduceMul, Nat.reduceBEq, Int.reduceBEq, Int.reduceBNe, Int.reduceLT, Int.reduceLE, Int.reduceGT, Int.reduceGE, Int.reduceNeg, Int.reduceEq, Int.reduceNe, Int.reduceToNat, Int.reduceAdd, aconv, acvB, capR, acmpnil, appBox, storeB, ares1, appendTo, afill, aeqL, teset, Tryz.ntmps9, Tryz.results9]
  refine ACallV.pure hf ?_
  simp only [aw0, aw1, aw2, aw3, aw4, aw5, aw6, aw7, ne_eq, eq_self, implies_true, imp_self, reduceIte, reduceCtorEq, Nat.reduceAdd, Nat.reduceLT, Nat.reduceLeDiff, Nat.reduceEqDiff, Nat.reduceSub, Nat.reduceMul, Nat.reduceBEq, Int.reduceBEq, Int.reduceBNe, Int.reduceLT, Int.reduceLE, Int.reduceGT, Int.reduceGE, Int.reduceNeg, Int.reduceEq, Int.reduceNe, Int.reduceToNat, Int.reduceAdd, aconv, acvB, capR, acmpnil, appBox, storeB, ares1, appendTo, afill, aeqL, teset]
  cases hc : (decide (n < 1) || decide (n > 4)) with
  | true =>
    simp only [aw0, aw1, aw2, aw3, aw4, aw5, aw6, aw7, ne_eq, eq_self, implies_true, imp_self, reduceIte, reduceCtorEq, Nat.reduceAdd, Nat.reduceLT, Nat.reduceLeDiff, Nat.reduceEqDiff, Nat.reduceSub, Nat.reduceMul, Nat.reduceBEq, Int.reduceBEq, Int.reduceBNe, Int.reduceLT, Int.reduceLE, Int.reduceGT, Int.reduceGE, Int.reduceNeg, Int.reduceEq, Int.reduceNe, Int.reduceToNat, Int.reduceAdd, aconv, acvB, capR, acmpnil, appBox, storeB, ares1, appendTo, afill, aeqL, teset]
    exact ⟨.refl _, _, rfl, rfl⟩
  | false =>
    exfalso
    obtain ⟨h1, h2⟩ := Bool.or_eq_false_iff.1 hc
    simp only [decide_eq_false_iff_not] at h1 h2
    omega
theorem refpack_good (xs : List V) (e : Nat) (h1 : 1 ≤ e) (h4 : e ≤ 4) (hl : xs.length < 4611686018427387904) (hv : validL xs = true) : Pure Tryz.prog 9 [.sl .ro 5 (xs.map inj), .int .i64 (e : Int)] (if canL e xs = true then .tup [.str (encS e xs), .int .i64 0] else packBad 8) := by
  have hf := form_pure xs hl
  rw [hv] at hf
  refine Pure.of ⟨Tryz.f9, Tryz.func9, rfl, by kernel_rfl⟩ (by split <;> rfl) (fun h => ?_)
  refine acalls_of te_ok [12, 13] Tryz.func9 (c := _) rfl (Nat.le_of_ble_eq_true rfl) ?_
  simp only [aw0, aw1, aw2, aw3, aw4, aw5, aw6, aw7, ne_eq, eq_self, implies_true, imp_self, reduceIte, reduceCtorEq, Nat.reduceAdd, Nat.reduceLT, Nat.reduceLeDiff, Nat.reduceEqDiff, Nat.reduceSub, Nat.reduceMul, Nat.reduceBEq, Int.reduceBEq, Int.reduceBNe, Int.reduceLT, Int.reduceLE, Int.reduceGT, Int.reduceGE, Int.reduceNeg, Int.reduceEq, Int.reduceNe, Int.reduceToNat, Int.reduceAdd, aconv, acvB, capR, acmpnil, appBox, storeB, ares1, appendTo, afill, aeqL, teset, Tryz.ntmps9, Tryz.results9]
  refine ACallV.pure hf ?_
  have c1 : decide (((e : Nat) : Int) < 1) = false := by simp only [decide_eq_false_iff_not]; omega
  have c2 : decide (((e : Nat) : Int) > 4) = false := by simp only [decide_eq_false_iff_not]; omega
  simp only [aw0, aw1, aw2, aw3, aw4, aw5, aw6, aw7, ne_eq, eq_self, implies_true, imp_self, reduceIte, reduceCtorEq, Nat.reduceAdd, Nat.reduceLT, Nat.reduceLeDiff, Nat.reduceEqDiff, Nat.reduceSub, Nat.reduceMul, Nat.reduceBEq, Int.reduceBEq, Int.reduceBNe, Int.reduceLT, Int.reduceLE, Int.reduceGT, Int.reduceGE, Int.reduceNeg, Int.reduceEq, Int.reduceNe, Int.reduceToNat, Int.reduceAdd, aconv, acvB, capR, acmpnil, appBox, storeB, ares1, appendTo, afill, aeqL, teset, c1, c2]
  cases he : (((e : Nat) : Int) == 4) with
  | false =>
    have he4 : e ≠ 4 := by
      have : ¬ ((e : Nat) : Int) = 4 := by simpa using he
      omega
    have hcan : canL e xs = true := by unfold canL; rw [if_neg he4]
    simp only [aw0, aw1, aw2, aw3, aw4, aw5, aw6, aw7, ne_eq, eq_self, implies_true, imp_self, reduceIte, reduceCtorEq, Nat.reduceAdd, Nat.reduceLT, Nat.reduceLeDiff, Nat.reduceEqDiff, Nat.reduceSub, Nat.reduceMul, Nat.reduceBEq, Int.reduceBEq, Int.reduceBNe, Int.reduceLT, Int.reduceLE, Int.reduceGT, Int.reduceGE, Int.reduceNeg, Int.reduceEq, Int.reduceNe, Int.reduceToNat, Int.reduceAdd, aconv, acvB, capR, acmpnil, appBox, storeB, ares1, appendTo, afill, aeqL, teset]
    refine ACallV.pure (refbytes_pure xs e h1 h4 hv) ?_
    simp only [aw0, aw1, aw2, aw3, aw4, aw5, aw6, aw7, ne_eq, eq_self, implies_true, imp_self, reduceIte, reduceCtorEq, Nat.reduceAdd, Nat.reduceLT, Nat.reduceLeDiff, Nat.reduceEqDiff, Nat.reduceSub, Nat.reduceMul, Nat.reduceBEq, Int.reduceBEq, Int.reduceBNe, Int.reduceLT, Int.reduceLE, Int.reduceGT, Int.reduceGE, Int.reduceNeg, Int.reduceEq, Int.reduceNe, Int.reduceToNat, Int.reduceAdd, aconv, acvB, capR, acmpnil, appBox, storeB, ares1, appendTo, afill, aeqL, teset]
    exact ⟨.refl _, _, rfl, by rw [if_pos hcan]; rfl⟩
  | true =>
    have he4 : e = 4 := by
      have : ((e : Nat) : Int) = 4 := by simpa using he
      omega
    have hce : canL e xs = intsL xs := by unfold canL; rw [if_pos he4]
    simp only [aw0, aw1, aw2, aw3, aw4, aw5, aw6, aw7, ne_eq, eq_self, implies_true, imp_self, reduceIte, reduceCtorEq, Nat.reduceAdd, Nat.reduceLT, Nat.reduceLeDiff, Nat.reduceEqDiff, Nat.reduceSub, Nat.reduceMul, Nat.reduceBEq, Int.reduceBEq, Int.reduceBNe, Int.reduceLT, Int.reduceLE, Int.reduceGT, Int.reduceGE, Int.reduceNeg, Int.reduceEq, Int.reduceNe, Int.reduceToNat, Int.reduceAdd, aconv, acvB, capR, acmpnil, appBox, storeB, ares1, appendTo, afill, aeqL, teset]
    refine ACallV.pure (refints_pure xs hl) ?_
    cases hi : intsL xs with
    | false =>
      simp only [aw0, aw1, aw2, aw3, aw4, aw5, aw6, aw7, ne_eq, eq_self, implies_true, imp_self, reduceIte, reduceCtorEq, Nat.reduceAdd, Nat.reduceLT, Nat.reduceLeDiff, Nat.reduceEqDiff, Nat.reduceSub, Nat.reduceMul, Nat.reduceBEq, Int.reduceBEq, Int.reduceBNe, Int.reduceLT, Int.reduceLE, Int.reduceGT, Int.reduceGE, Int.reduceNeg, Int.reduceEq, Int.reduceNe, Int.reduceToNat, Int.reduceAdd, aconv, acvB, capR, acmpnil, appBox, storeB, ares1, appendTo, afill, aeqL, teset]
      exact ⟨.refl _, _, rfl, by rw [hce, hi, if_neg (by decide)]; rfl⟩
    | true =>
      simp only [aw0, aw1, aw2, aw3, aw4, aw5, aw6, aw7, ne_eq, eq_self, implies_true, imp_self, reduceIte, reduceCtorEq, Nat.reduceAdd, Nat.reduceLT, Nat.reduceLeDiff, Nat.reduceEqDiff, Nat.reduceSub, Nat.reduceMul, Nat.reduceBEq, Int.reduceBEq, Int.reduceBNe, Int.reduceLT, Int.reduceLE, Int.reduceGT, Int.reduceGE, Int.reduceNeg, Int.reduceEq, Int.reduceNe, Int.reduceToNat, Int.reduceAdd, aconv, acvB, capR, acmpnil, appBox, storeB, ares1, appendTo, afill, aeqL, teset]
      refine ACallV.pure (refbytes_pure xs e h1 h4 hv) ?_
      simp only [aw0, aw1, aw2, aw3, aw4, aw5, aw6, aw7, ne_eq, eq_self, implies_true, imp_self, reduceIte, reduceCtorEq, Nat.reduceAdd, Nat.reduceLT, Nat.reduceLeDiff, Nat.reduceEqDiff, Nat.reduceSub, Nat.reduceMul, Nat.reduceBEq, Int.reduceBEq, Int.reduceBNe, Int.reduceLT, Int.reduceLE, Int.reduceGT, Int.reduceGE, Int.reduceNeg, Int.reduceEq, Int.reduceNe, Int.reduceToNat, Int.reduceAdd, aconv, acvB, capR, acmpnil, appBox, storeB, ares1, appendTo, afill, aeqL, teset]
      exact ⟨.refl _, _, rfl, by rw [hce, hi, if_pos rfl]; rfl⟩
theorem great_pure (xs : List V) (hl : xs.length < 4611686018427387904) : Pure Tryz.prog 6 [.sl .ro 5 (xs.map inj)] (.bool (decide (xs.length > 400))) := by
  refine Pure.of ⟨Tryz.f6, Tryz.func6, rfl, by kernel_rfl⟩ rfl (fun h => ?_)
  refine acalls_of te_ok [] Tryz.func6 (c := _) rfl (Nat.le_of_ble_eq_true rfl) ?_
  simp only [aw0, aw1, aw2, aw3, aw4, aw5, aw6, aw7, ne_eq, eq_self, implies_true, imp_self, reduceIte, reduceCtorEq, Nat.reduceAdd, Nat.reduceLT, Nat.reduceLeDiff, Nat.reduceEqDiff, Nat.reduceSub, Nat.reduceMul, Nat.reduceBEq, Int.reduceBEq, Int.reduceBNe, Int.reduceLT, Int.reduceLE, Int.reduceGT, Int.reduceGE, Int.reduceNeg, Int.reduceEq, Int.reduceNe, Int.reduceToNat, Int.reduceAdd, aconv, acvB, capR, acmpnil, appBox, storeB, ares1, appendTo, afill, aeqL, teset, Tryz.ntmps6, Tryz.results6, inj_take, inj_drop, inj_agg, inj_len, inj_one, List.length_map]
  have : decide ((xs.length : Int) > 400) = decide (xs.length > 400) := by congr 1; apply propext; omega
  exact ⟨.refl _, _, rfl, by rw [this]; rfl⟩
end Go.Proofs.YtlbhgoffiigfbaaGreat.AW
end
