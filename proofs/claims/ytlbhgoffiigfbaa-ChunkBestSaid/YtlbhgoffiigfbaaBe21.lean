/- Texts of this claim, part 21: V79, P74, V80, V81, V82, L62. -/
import Derived.Test.YtlbhgoffiigfbaaBe1
import Derived.Test.YtlbhgoffiigfbaaBe2
import Derived.Test.YtlbhgoffiigfbaaBe6
import Derived.Test.YtlbhgoffiigfbaaBe7
import Derived.Test.YtlbhgoffiigfbaaBe8
import Derived.Test.YtlbhgoffiigfbaaBe9
import Derived.Test.YtlbhgoffiigfbaaBe10
import Derived.Test.YtlbhgoffiigfbaaBe11
import Derived.Test.YtlbhgoffiigfbaaBe12
import Derived.Test.YtlbhgoffiigfbaaBe13
import Derived.Test.YtlbhgoffiigfbaaBe14
import Derived.Test.YtlbhgoffiigfbaaBe15
import Derived.Test.YtlbhgoffiigfbaaBe16
import Derived.Test.YtlbhgoffiigfbaaBe17
import Derived.Test.YtlbhgoffiigfbaaBe18
import Derived.Test.YtlbhgoffiigfbaaBe19
import Derived.Test.YtlbhgoffiigfbaaBe20
section
set_option linter.unusedSimpArgs false
set_option linter.unusedVariables false
namespace Go.Proofs.Ytlbhgoffiigfbaa.AW
open Go Go.RowKit

theorem ddG_sub : ∀ (r : List V) (p : V), (ddG p r).Sublist r
  | [], _ => by simp [ddG]
  | a :: r, p => by
    rw [ddG]
    split
    · exact (ddG_sub r a).cons a
    · exact (ddG_sub r a).cons_cons a
theorem dd_sub (xs : List V) : (dd xs).Sublist xs := by
  cases xs with
  | nil => simp [dd]
  | cons x r => rw [dd]; exact (ddG_sub r x).cons_cons x
/-- The different values, in their order. -/
def wordsL (xs : List V) : List V := dd (sortV xs)
theorem words_ok {xs : List V} (hx : ∀ x ∈ xs, Vok x) : ∀ w ∈ wordsL xs, Vok w := fun w hw => hx w (sortV_mem.1 (dd_mem w hw))
theorem words_sorted (xs : List V) : (wordsL xs).Pairwise fun a b => leV a b = true := (sortV_sorted xs).sublist (dd_sub _)
theorem words_len (xs : List V) : (wordsL xs).length ≤ xs.length := by
  have := dd_len (sortV xs)
  rw [sortV_len] at this
  exact this
def placesA (ws : List V) (xs : List V) : List AV := xs.flatMap fun v => numA (lbV ws v)
def dictA (xs : List V) : List AV := numA (wordsL xs).length ++ valsA (wordsL xs) ++ numA xs.length ++ placesA (wordsL xs) xs
theorem bytes_places (ws xs : List V) : ∀ x ∈ placesA ws xs, ∃ k, x = .int .u8 k := by
  intro x hx
  unfold placesA at hx
  obtain ⟨v, _, h⟩ := List.mem_flatMap.1 hx
  exact bytes_numA _ x h
theorem places_len (ws : List V) (hw : ws.length ≤ 1000) : ∀ (xs : List V), (placesA ws xs).length ≤ 9 * xs.length
  | [] => by simp [placesA]
  | v :: xs => by
    have h1 := places_len ws hw xs
    have h2 := numA_len (lbV ws v) (by have := lbV_le ws v; omega)
    simp only [placesA, List.flatMap_cons, List.length_append, List.length_cons] at *
    omega
theorem places_drop {ws xs : List V} {j : Nat} (hj : j < xs.length) : placesA ws (xs.drop j) = numA (lbV ws xs[j]) ++ placesA ws (xs.drop (j + 1)) := by
  unfold placesA
  rw [List.drop_eq_getElem_cons hj, List.flatMap_cons]
theorem dict_can (xs : List V) : Pure Try.prog 97 [.agg [], .sl .ro 5 (xs.map inj)] (.bool true) := by
  refine Pure.of ⟨Try.f97, Try.func97, rfl, by kernel_rfl⟩ rfl (fun h => ?_)
  refine acalls_of te_ok [] Try.func97 (c := _) rfl (Nat.le_of_ble_eq_true rfl) ?_
  simp only [aw0, aw1, aw2, aw3, aw4, aw5, aw6, aw7, ne_eq, eq_self, implies_true, imp_self, reduceIte, reduceCtorEq, Nat.reduceAdd, Nat.reduceLT, Nat.reduceLeDiff, Nat.reduceEqDiff, Nat.reduceSub, Nat.reduceMul, Nat.reduceBEq, Int.reduceBEq, Int.reduceBNe, Int.reduceLT, Int.reduceLE, Int.reduceGT, Int.reduceGE, Int.reduceNeg, Int.reduceEq, Int.reduceNe, Int.reduceToNat, Int.reduceAdd, aconv, acvB, capR, acmpnil, appBox, storeB, ares1, appendTo, afill, aeqL, teset, Try.ntmps97, Try.results97]
  exact ⟨by (repeat (first | exact AH.Ext.refl _ | assumption | refine AH.Ext.set ?_ (by first | omega | (simp only [new_nb, set_nb, kill_nb, newTok_nb, setTok_nb]; omega)) _ | refine AH.Ext.new ?_ _)), _, rfl, rfl⟩
theorem sort_none : Pure Try.prog 100 [.sl .ro 5 [], .fn (.func 90) [] []] (.tup []) := erun_pure ec5_ok (d := 60) rfl (by kernel_rfl)
theorem compact_none : Pure Try.prog 101 [.sl .ro 5 [], .fn (.func 87) [] []] (.sl .ro 5 []) := by
  refine Pure.of ⟨Try.f101, Try.func101, rfl, by kernel_rfl⟩ rfl (fun h => ?_)
  refine acalls_of te_ok [] Try.func101 (c := _) rfl (Nat.le_of_ble_eq_true rfl) ?_
  simp only [aw0, aw1, aw2, aw3, aw4, aw5, aw6, aw7, ne_eq, eq_self, implies_true, imp_self, reduceIte, reduceCtorEq, Nat.reduceAdd, Nat.reduceLT, Nat.reduceLeDiff, Nat.reduceEqDiff, Nat.reduceSub, Nat.reduceMul, Nat.reduceBEq, Int.reduceBEq, Int.reduceBNe, Int.reduceLT, Int.reduceLE, Int.reduceGT, Int.reduceGE, Int.reduceNeg, Int.reduceEq, Int.reduceNe, Int.reduceToNat, Int.reduceAdd, aconv, acvB, capR, acmpnil, appBox, storeB, ares1, appendTo, afill, aeqL, teset, Try.ntmps101, Try.results101, List.length_nil, Int.natCast_zero]
  exact ⟨.refl _, _, rfl, rfl⟩
set_option maxHeartbeats 4000000 in
theorem dict_write (xs : List V) (hx : ∀ x ∈ xs, Vok x) (hl : xs.length ≤ 1000) : Pure Try.prog 99 [.agg [], .sl .full 0 [], .sl .ro 5 (xs.map inj)] (.sl .ro 1 (dictA xs)) := by
  have hby : ∀ x ∈ dictA xs, ∃ k, x = .int .u8 k := by
    intro x hx
    unfold dictA at hx
    rcases List.mem_append.1 hx with h | h
    · rcases List.mem_append.1 h with h | h
      · exact (List.mem_append.1 h).elim (bytes_numA _ x) (bytes_valsA _ x)
      · exact bytes_numA _ x h
    · exact bytes_places _ _ x h
  have hwok := words_ok hx
  have hwl := words_len xs
  have hws := words_sorted xs
  have hvl := valsA_len hwok
  have hpl := places_len (wordsL xs) (by omega) xs
  have hn1 := numA_len (wordsL xs).length (by omega)
  have hn2 := numA_len xs.length (by omega)
  have hlen0 : (numA (wordsL xs).length ++ valsA (wordsL xs)).length < 1000000000 := by rw [List.length_append]; omega
  refine Pure.of ⟨Try.f99, Try.func99, rfl, by kernel_rfl⟩ (by simp only [AV.under]; rw [under_of hby]) (fun h => ?_)
  refine acalls_of te_ok [] Try.func99 (c := _) rfl (Nat.le_of_ble_eq_true rfl) ?_
  simp only [aw0, aw1, aw2, aw3, aw4, aw5, aw6, aw7, ne_eq, eq_self, implies_true, imp_self, reduceIte, reduceCtorEq, Nat.reduceAdd, Nat.reduceLT, Nat.reduceLeDiff, Nat.reduceEqDiff, Nat.reduceSub, Nat.reduceMul, Nat.reduceBEq, Int.reduceBEq, Int.reduceBNe, Int.reduceLT, Int.reduceLE, Int.reduceGT, Int.reduceGE, Int.reduceNeg, Int.reduceEq, Int.reduceNe, Int.reduceToNat, Int.reduceAdd, aconv, acvB, capR, acmpnil, appBox, storeB, ares1, appendTo, afill, aeqL, teset, Try.ntmps99, Try.results99, inj_take, inj_drop, inj_agg, inj_len, inj_one, List.length_map]
  refine ACallV.mono ?_ (ACallV.of ⟨Try.f41, Try.func41, rfl, by kernel_rfl⟩ (clonevals_calls xs (by omega) _))
  rintro out h' (⟨e, rfl, rfl⟩ | ⟨hne, rfl, rfl⟩)
  · have hw0 : wordsL xs = [] := by rw [e]; simp [wordsL, sortV, dd]
    simp only [aw0, aw1, aw2, aw3, aw4, aw5, aw6, aw7, ne_eq, eq_self, implies_true, imp_self, reduceIte, reduceCtorEq, Nat.reduceAdd, Nat.reduceLT, Nat.reduceLeDiff, Nat.reduceEqDiff, Nat.reduceSub, Nat.reduceMul, Nat.reduceBEq, Int.reduceBEq, Int.reduceBNe, Int.reduceLT, Int.reduceLE, Int.reduceGT, Int.reduceGE, Int.reduceNeg, Int.reduceEq, Int.reduceNe, Int.reduceToNat, Int.reduceAdd, aconv, acvB, capR, acmpnil, appBox, storeB, ares1, appendTo, afill, aeqL, teset, callK_ret, inj_take, inj_drop, inj_agg, inj_len, inj_one, List.length_map]
    refine ACallV.pure sort_none ?_
    simp only [aw0, aw1, aw2, aw3, aw4, aw5, aw6, aw7, ne_eq, eq_self, implies_true, imp_self, reduceIte, reduceCtorEq, Nat.reduceAdd, Nat.reduceLT, Nat.reduceLeDiff, Nat.reduceEqDiff, Nat.reduceSub, Nat.reduceMul, Nat.reduceBEq, Int.reduceBEq, Int.reduceBNe, Int.reduceLT, Int.reduceLE, Int.reduceGT, Int.reduceGE, Int.reduceNeg, Int.reduceEq, Int.reduceNe, Int.reduceToNat, Int.reduceAdd, aconv, acvB, capR, acmpnil, appBox, storeB, ares1, appendTo, afill, aeqL, teset, inj_take, inj_drop, inj_agg, inj_len, inj_one, List.length_map]
    have hcn : Pure Try.prog 101 [.sl .ro 5 [], .fn (.func 87) [] []] (.sl .ro 5 ((wordsL xs).map inj)) := by rw [hw0]; exact compact_none
    refine ACallV.pure hcn ?_
    simp only [aw0, aw1, aw2, aw3, aw4, aw5, aw6, aw7, ne_eq, eq_self, implies_true, imp_self, reduceIte, reduceCtorEq, Nat.reduceAdd, Nat.reduceLT, Nat.reduceLeDiff, Nat.reduceEqDiff, Nat.reduceSub, Nat.reduceMul, Nat.reduceBEq, Int.reduceBEq, Int.reduceBNe, Int.reduceLT, Int.reduceLE, Int.reduceGT, Int.reduceGE, Int.reduceNeg, Int.reduceEq, Int.reduceNe, Int.reduceToNat, Int.reduceAdd, aconv, acvB, capR, acmpnil, appBox, storeB, ares1, appendTo, afill, aeqL, teset, inj_take, inj_drop, inj_agg, inj_len, inj_one, List.length_map]
    refine ACallV.mono ?_ (ACallV.of ⟨Try.f70, Try.func70, rfl, by kernel_rfl⟩ (addvalues_nil (wordsL xs) hwok (by omega) _))
    rintro out h' ⟨G, rfl, ht, hE2⟩
    have hE : h.Ext h' := ((AH.Ext.refl h).new _).trans hE2
    simp only [aw0, aw1, aw2, aw3, aw4, aw5, aw6, aw7, ne_eq, eq_self, implies_true, imp_self, reduceIte, reduceCtorEq, Nat.reduceAdd, Nat.reduceLT, Nat.reduceLeDiff, Nat.reduceEqDiff, Nat.reduceSub, Nat.reduceMul, Nat.reduceBEq, Int.reduceBEq, Int.reduceBNe, Int.reduceLT, Int.reduceLE, Int.reduceGT, Int.reduceGE, Int.reduceNeg, Int.reduceEq, Int.reduceNe, Int.reduceToNat, Int.reduceAdd, aconv, acvB, capR, acmpnil, appBox, storeB, ares1, appendTo, afill, aeqL, teset, callK_ret, inj_take, inj_drop, inj_agg, inj_len, inj_one, List.length_map]
    have ht0 : h'.tok h.nt = some G := ht
    refine ACallV.mono ?_ (ACallV.of ⟨Try.f22, Try.func22, rfl, by kernel_rfl⟩ (addnum_tok _ xs.length h.nt G (by omega) hlen0 _ ht0))
    rintro out h'' ⟨rfl, rfl⟩
    simp only [aw0, aw1, aw2, aw3, aw4, aw5, aw6, aw7, ne_eq, eq_self, implies_true, imp_self, reduceIte, reduceCtorEq, Nat.reduceAdd, Nat.reduceLT, Nat.reduceLeDiff, Nat.reduceEqDiff, Nat.reduceSub, Nat.reduceMul, Nat.reduceBEq, Int.reduceBEq, Int.reduceBNe, Int.reduceLT, Int.reduceLE, Int.reduceGT, Int.reduceGE, Int.reduceNeg, Int.reduceEq, Int.reduceNe, Int.reduceToNat, Int.reduceAdd, aconv, acvB, capR, acmpnil, appBox, storeB, ares1, appendTo, afill, aeqL, teset, callK_ret, inj_take, inj_drop, inj_agg, inj_len, inj_one, List.length_map]
    refine ⟨fun n s' h2 => ∃ (j G2 : Nat) (ys : List AV), s' 1 = .sl (.tok h.nt G2) 1 ys ∧ s' 7 = .sl .ro 5 ((wordsL xs).map inj) ∧ s' 24 = .sl .ro 5 (xs.map inj) ∧ s' 25 = .int .i64 xs.length ∧ s' 26 = .int .i64 j ∧ n + j = xs.length ∧ h.Ext h2 ∧ h2.tok h.nt = some G2 ∧ ys ++ placesA (wordsL xs) (xs.drop j) = dictA xs, ⟨xs.length, 0, G + (numA xs.length).length, numA (wordsL xs).length ++ valsA (wordsL xs) ++ numA xs.length, ?_⟩, ?_⟩
    · simp only [aw0, aw1, aw2, aw3, aw4, aw5, aw6, aw7, ne_eq, eq_self, implies_true, imp_self, reduceIte, reduceCtorEq, Nat.reduceAdd, Nat.reduceLT, Nat.reduceLeDiff, Nat.reduceEqDiff, Nat.reduceSub, Nat.reduceMul, Nat.reduceBEq, Int.reduceBEq, Int.reduceBNe, Int.reduceLT, Int.reduceLE, Int.reduceGT, Int.reduceGE, Int.reduceNeg, Int.reduceEq, Int.reduceNe, Int.reduceToNat, Int.reduceAdd, aconv, acvB, capR, acmpnil, appBox, storeB, ares1, appendTo, afill, aeqL, teset, Int.natCast_zero, List.drop_zero]
      first | exact ⟨hE.setTok (Nat.le_refl _) _, rfl⟩ | exact ⟨rfl, hE.setTok (Nat.le_refl _) _, rfl⟩
    · rintro n s' h2 ⟨j, G2, ys, e1, e7, e24, e25, e26, hn, hE3, ht3, hv⟩
      simp only [aw0, aw1, aw2, aw3, aw4, aw5, aw6, aw7, ne_eq, eq_self, implies_true, imp_self, reduceIte, reduceCtorEq, Nat.reduceAdd, Nat.reduceLT, Nat.reduceLeDiff, Nat.reduceEqDiff, Nat.reduceSub, Nat.reduceMul, Nat.reduceBEq, Int.reduceBEq, Int.reduceBNe, Int.reduceLT, Int.reduceLE, Int.reduceGT, Int.reduceGE, Int.reduceNeg, Int.reduceEq, Int.reduceNe, Int.reduceToNat, Int.reduceAdd, aconv, acvB, capR, acmpnil, appBox, storeB, ares1, appendTo, afill, aeqL, teset, e1, e7, e24, e25, e26, inj_take, inj_drop, inj_agg, inj_len, inj_one, List.length_map]
      cases hc : decide ((j : Int) < (xs.length : Int)) with
      | false =>
        simp only [aw0, aw1, aw2, aw3, aw4, aw5, aw6, aw7, ne_eq, eq_self, implies_true, imp_self, reduceIte, reduceCtorEq, Nat.reduceAdd, Nat.reduceLT, Nat.reduceLeDiff, Nat.reduceEqDiff, Nat.reduceSub, Nat.reduceMul, Nat.reduceBEq, Int.reduceBEq, Int.reduceBNe, Int.reduceLT, Int.reduceLE, Int.reduceGT, Int.reduceGE, Int.reduceNeg, Int.reduceEq, Int.reduceNe, Int.reduceToNat, Int.reduceAdd, aconv, acvB, capR, acmpnil, appBox, storeB, ares1, appendTo, afill, aeqL, teset, e1, e7, e24, e25, e26, inj_take, inj_drop, inj_agg, inj_len, inj_one, List.length_map]
        simp only [decide_eq_false_iff_not] at hc
        rw [List.drop_eq_nil_of_le (by omega)] at hv
        simp only [placesA, List.flatMap_nil, List.append_nil] at hv
        exact ⟨hE3, _, rfl, by rw [hv]; show AV.sl Tag.ro 1 (AV.eraseL (dictA xs)) = _; rw [erase_of hby]⟩
      | true =>
        simp only [decide_eq_true_eq] at hc
        have hj : j < xs.length := by omega
        have hget : (xs.map inj)[((j : Nat) : Int).toNat]? = some (inj xs[j]) := by simp [hj]
        rw [places_drop hj] at hv
        have hlen : ys.length < 1000000000 := by
          have := congrArg List.length hv
          simp only [dictA, List.length_append] at this
          omega
        simp only [aw0, aw1, aw2, aw3, aw4, aw5, aw6, aw7, ne_eq, eq_self, implies_true, imp_self, reduceIte, reduceCtorEq, Nat.reduceAdd, Nat.reduceLT, Nat.reduceLeDiff, Nat.reduceEqDiff, Nat.reduceSub, Nat.reduceMul, Nat.reduceBEq, Int.reduceBEq, Int.reduceBNe, Int.reduceLT, Int.reduceLE, Int.reduceGT, Int.reduceGE, Int.reduceNeg, Int.reduceEq, Int.reduceNe, Int.reduceToNat, Int.reduceAdd, aconv, acvB, capR, acmpnil, appBox, storeB, ares1, appendTo, afill, aeqL, teset, e1, e7, e24, e25, e26, inj_take, inj_drop, inj_agg, inj_len, inj_one, List.length_map, boxR, hget, Int.natCast_nonneg]
        refine ACallV.pure (searchV_pure (wordsL xs) xs[j] hws hwok (hx _ (List.getElem_mem hj)) (by omega)) ?_
        simp only [aw0, aw1, aw2, aw3, aw4, aw5, aw6, aw7, ne_eq, eq_self, implies_true, imp_self, reduceIte, reduceCtorEq, Nat.reduceAdd, Nat.reduceLT, Nat.reduceLeDiff, Nat.reduceEqDiff, Nat.reduceSub, Nat.reduceMul, Nat.reduceBEq, Int.reduceBEq, Int.reduceBNe, Int.reduceLT, Int.reduceLE, Int.reduceGT, Int.reduceGE, Int.reduceNeg, Int.reduceEq, Int.reduceNe, Int.reduceToNat, Int.reduceAdd, aconv, acvB, capR, acmpnil, appBox, storeB, ares1, appendTo, afill, aeqL, teset, e1, e7, e24, e25, e26, inj_take, inj_drop, inj_agg, inj_len, inj_one, List.length_map, boxR]
        have hk : ((h2.new [AV.int IntKind.i64 0, AV.int IntKind.i64 0, AV.str { data := #[] }, AV.sl Tag.full 0 [], AV.sl Tag.full 0 []]).set h2.nb (inj xs[j]).cells).tok h.nt = some G2 := ht3
        have hlb := lbV_le (wordsL xs) xs[j]
        refine ACallV.mono ?_ (ACallV.of ⟨Try.f22, Try.func22, rfl, by kernel_rfl⟩ (addnum_tok ys (lbV (wordsL xs) xs[j]) h.nt G2 (by omega) hlen _ hk))
        rintro out h3 ⟨rfl, rfl⟩
        simp only [aw0, aw1, aw2, aw3, aw4, aw5, aw6, aw7, ne_eq, eq_self, implies_true, imp_self, reduceIte, reduceCtorEq, Nat.reduceAdd, Nat.reduceLT, Nat.reduceLeDiff, Nat.reduceEqDiff, Nat.reduceSub, Nat.reduceMul, Nat.reduceBEq, Int.reduceBEq, Int.reduceBNe, Int.reduceLT, Int.reduceLE, Int.reduceGT, Int.reduceGE, Int.reduceNeg, Int.reduceEq, Int.reduceNe, Int.reduceToNat, Int.reduceAdd, aconv, acvB, capR, acmpnil, appBox, storeB, ares1, appendTo, afill, aeqL, teset, callK_ret, e1, e7, e24, e25, e26]
        refine ⟨n - 1, by omega, j + 1, _, ys ++ numA (lbV (wordsL xs) xs[j]), rfl, by rw [wrap_succ (by omega)], by omega, ((hE3.new _).set hE3.nb _).setTok (Nat.le_refl _) _, rfl, by rw [List.append_assoc]; exact hv⟩
  · have hsne : sortV xs ≠ [] := fun e => hne (List.eq_nil_of_length_eq_zero (by rw [← sortV_len, e]; rfl))
    simp only [aw0, aw1, aw2, aw3, aw4, aw5, aw6, aw7, ne_eq, eq_self, implies_true, imp_self, reduceIte, reduceCtorEq, Nat.reduceAdd, Nat.reduceLT, Nat.reduceLeDiff, Nat.reduceEqDiff, Nat.reduceSub, Nat.reduceMul, Nat.reduceBEq, Int.reduceBEq, Int.reduceBNe, Int.reduceLT, Int.reduceLE, Int.reduceGT, Int.reduceGE, Int.reduceNeg, Int.reduceEq, Int.reduceNe, Int.reduceToNat, Int.reduceAdd, aconv, acvB, capR, acmpnil, appBox, storeB, ares1, appendTo, afill, aeqL, teset, callK_ret, inj_take, inj_drop, inj_agg, inj_len, inj_one, List.length_map]
    refine ACallV.mono ?_ (ACallV.of ⟨Try.f100, Try.func100, rfl, by kernel_rfl⟩ (sort_calls hx hne (by omega) (b := (h.new []).nb) (by rw [new_box, if_pos rfl])))
    rintro out h' ⟨rfl, rfl⟩
    simp only [aw0, aw1, aw2, aw3, aw4, aw5, aw6, aw7, ne_eq, eq_self, implies_true, imp_self, reduceIte, reduceCtorEq, Nat.reduceAdd, Nat.reduceLT, Nat.reduceLeDiff, Nat.reduceEqDiff, Nat.reduceSub, Nat.reduceMul, Nat.reduceBEq, Int.reduceBEq, Int.reduceBNe, Int.reduceLT, Int.reduceLE, Int.reduceGT, Int.reduceGE, Int.reduceNeg, Int.reduceEq, Int.reduceNe, Int.reduceToNat, Int.reduceAdd, aconv, acvB, capR, acmpnil, appBox, storeB, ares1, appendTo, afill, aeqL, teset, callK_ret, inj_take, inj_drop, inj_agg, inj_len, inj_one, List.length_map]
    have hcp := compact_calls (xs := sortV xs) (fun x hx2 => hx x (sortV_mem.1 hx2)) hsne (by rw [sortV_len]; omega) (b := (h.new []).nb) (h := ((h.new []).new ((xs.map inj).flatMap AV.cells)).set (h.new []).nb (((sortV xs).map inj).flatMap AV.cells)) (by rw [set_box, if_pos rfl]; rfl)
    rw [sortV_len] at hcp
    refine ACallV.mono ?_ (ACallV.of ⟨Try.f101, Try.func101, rfl, by kernel_rfl⟩ hcp)
    rintro out h' ⟨rfl, rfl⟩
    simp only [aw0, aw1, aw2, aw3, aw4, aw5, aw6, aw7, ne_eq, eq_self, implies_true, imp_self, reduceIte, reduceCtorEq, Nat.reduceAdd, Nat.reduceLT, Nat.reduceLeDiff, Nat.reduceEqDiff, Nat.reduceSub, Nat.reduceMul, Nat.reduceBEq, Int.reduceBEq, Int.reduceBNe, Int.reduceLT, Int.reduceLE, Int.reduceGT, Int.reduceGE, Int.reduceNeg, Int.reduceEq, Int.reduceNe, Int.reduceToNat, Int.reduceAdd, aconv, acvB, capR, acmpnil, appBox, storeB, ares1, appendTo, afill, aeqL, teset, callK_ret, inj_take, inj_drop, inj_agg, inj_len, inj_one, List.length_map]
    refine ACallV.mono ?_ (ACallV.of ⟨Try.f70, Try.func70, rfl, by kernel_rfl⟩ (addvalues_nil (wordsL xs) hwok (by omega) _))
    rintro out h' ⟨G, rfl, ht, hE2⟩
    have hE : h.Ext h' := (((((AH.Ext.refl h).new _).new _).set (Nat.le_succ _) _).kill (Nat.le_succ _)).trans hE2
    simp only [aw0, aw1, aw2, aw3, aw4, aw5, aw6, aw7, ne_eq, eq_self, implies_true, imp_self, reduceIte, reduceCtorEq, Nat.reduceAdd, Nat.reduceLT, Nat.reduceLeDiff, Nat.reduceEqDiff, Nat.reduceSub, Nat.reduceMul, Nat.reduceBEq, Int.reduceBEq, Int.reduceBNe, Int.reduceLT, Int.reduceLE, Int.reduceGT, Int.reduceGE, Int.reduceNeg, Int.reduceEq, Int.reduceNe, Int.reduceToNat, Int.reduceAdd, aconv, acvB, capR, acmpnil, appBox, storeB, ares1, appendTo, afill, aeqL, teset, callK_ret, inj_take, inj_drop, inj_agg, inj_len, inj_one, List.length_map]
    have ht0 : h'.tok h.nt = some G := ht
    refine ACallV.mono ?_ (ACallV.of ⟨Try.f22, Try.func22, rfl, by kernel_rfl⟩ (addnum_tok _ xs.length h.nt G (by omega) hlen0 _ ht0))
    rintro out h'' ⟨rfl, rfl⟩
    simp only [aw0, aw1, aw2, aw3, aw4, aw5, aw6, aw7, ne_eq, eq_self, implies_true, imp_self, reduceIte, reduceCtorEq, Nat.reduceAdd, Nat.reduceLT, Nat.reduceLeDiff, Nat.reduceEqDiff, Nat.reduceSub, Nat.reduceMul, Nat.reduceBEq, Int.reduceBEq, Int.reduceBNe, Int.reduceLT, Int.reduceLE, Int.reduceGT, Int.reduceGE, Int.reduceNeg, Int.reduceEq, Int.reduceNe, Int.reduceToNat, Int.reduceAdd, aconv, acvB, capR, acmpnil, appBox, storeB, ares1, appendTo, afill, aeqL, teset, callK_ret, inj_take, inj_drop, inj_agg, inj_len, inj_one, List.length_map]
    refine ⟨fun n s' h2 => ∃ (j G2 : Nat) (ys : List AV), s' 1 = .sl (.tok h.nt G2) 1 ys ∧ s' 7 = .sl .ro 5 ((wordsL xs).map inj) ∧ s' 24 = .sl .ro 5 (xs.map inj) ∧ s' 25 = .int .i64 xs.length ∧ s' 26 = .int .i64 j ∧ n + j = xs.length ∧ h.Ext h2 ∧ h2.tok h.nt = some G2 ∧ ys ++ placesA (wordsL xs) (xs.drop j) = dictA xs, ⟨xs.length, 0, G + (numA xs.length).length, numA (wordsL xs).length ++ valsA (wordsL xs) ++ numA xs.length, ?_⟩, ?_⟩
    · simp only [aw0, aw1, aw2, aw3, aw4, aw5, aw6, aw7, ne_eq, eq_self, implies_true, imp_self, reduceIte, reduceCtorEq, Nat.reduceAdd, Nat.reduceLT, Nat.reduceLeDiff, Nat.reduceEqDiff, Nat.reduceSub, Nat.reduceMul, Nat.reduceBEq, Int.reduceBEq, Int.reduceBNe, Int.reduceLT, Int.reduceLE, Int.reduceGT, Int.reduceGE, Int.reduceNeg, Int.reduceEq, Int.reduceNe, Int.reduceToNat, Int.reduceAdd, aconv, acvB, capR, acmpnil, appBox, storeB, ares1, appendTo, afill, aeqL, teset, Int.natCast_zero, List.drop_zero]
      first | exact ⟨hE.setTok (Nat.le_refl _) _, rfl⟩ | exact ⟨rfl, hE.setTok (Nat.le_refl _) _, rfl⟩
    · rintro n s' h2 ⟨j, G2, ys, e1, e7, e24, e25, e26, hn, hE3, ht3, hv⟩
      simp only [aw0, aw1, aw2, aw3, aw4, aw5, aw6, aw7, ne_eq, eq_self, implies_true, imp_self, reduceIte, reduceCtorEq, Nat.reduceAdd, Nat.reduceLT, Nat.reduceLeDiff, Nat.reduceEqDiff, Nat.reduceSub, Nat.reduceMul, Nat.reduceBEq, Int.reduceBEq, Int.reduceBNe, Int.reduceLT, Int.reduceLE, Int.reduceGT, Int.reduceGE, Int.reduceNeg, Int.reduceEq, Int.reduceNe, Int.reduceToNat, Int.reduceAdd, aconv, acvB, capR, acmpnil, appBox, storeB, ares1, appendTo, afill, aeqL, teset, e1, e7, e24, e25, e26, inj_take, inj_drop, inj_agg, inj_len, inj_one, List.length_map]
      cases hc : decide ((j : Int) < (xs.length : Int)) with
      | false =>
        simp only [aw0, aw1, aw2, aw3, aw4, aw5, aw6, aw7, ne_eq, eq_self, implies_true, imp_self, reduceIte, reduceCtorEq, Nat.reduceAdd, Nat.reduceLT, Nat.reduceLeDiff, Nat.reduceEqDiff, Nat.reduceSub, Nat.reduceMul, Nat.reduceBEq, Int.reduceBEq, Int.reduceBNe, Int.reduceLT, Int.reduceLE, Int.reduceGT, Int.reduceGE, Int.reduceNeg, Int.reduceEq, Int.reduceNe, Int.reduceToNat, Int.reduceAdd, aconv, acvB, capR, acmpnil, appBox, storeB, ares1, appendTo, afill, aeqL, teset, e1, e7, e24, e25, e26, inj_take, inj_drop, inj_agg, inj_len, inj_one, List.length_map]
        simp only [decide_eq_false_iff_not] at hc
        rw [List.drop_eq_nil_of_le (by omega)] at hv
        simp only [placesA, List.flatMap_nil, List.append_nil] at hv
        exact ⟨hE3, _, rfl, by rw [hv]; show AV.sl Tag.ro 1 (AV.eraseL (dictA xs)) = _; rw [erase_of hby]⟩
      | true =>
        simp only [decide_eq_true_eq] at hc
        have hj : j < xs.length := by omega
        have hget : (xs.map inj)[((j : Nat) : Int).toNat]? = some (inj xs[j]) := by simp [hj]
        rw [places_drop hj] at hv
        have hlen : ys.length < 1000000000 := by
          have := congrArg List.length hv
          simp only [dictA, List.length_append] at this
          omega
        simp only [aw0, aw1, aw2, aw3, aw4, aw5, aw6, aw7, ne_eq, eq_self, implies_true, imp_self, reduceIte, reduceCtorEq, Nat.reduceAdd, Nat.reduceLT, Nat.reduceLeDiff, Nat.reduceEqDiff, Nat.reduceSub, Nat.reduceMul, Nat.reduceBEq, Int.reduceBEq, Int.reduceBNe, Int.reduceLT, Int.reduceLE, Int.reduceGT, Int.reduceGE, Int.reduceNeg, Int.reduceEq, Int.reduceNe, Int.reduceToNat, Int.reduceAdd, aconv, acvB, capR, acmpnil, appBox, storeB, ares1, appendTo, afill, aeqL, teset, e1, e7, e24, e25, e26, inj_take, inj_drop, inj_agg, inj_len, inj_one, List.length_map, boxR, hget, Int.natCast_nonneg]
        refine ACallV.pure (searchV_pure (wordsL xs) xs[j] hws hwok (hx _ (List.getElem_mem hj)) (by omega)) ?_
        simp only [aw0, aw1, aw2, aw3, aw4, aw5, aw6, aw7, ne_eq, eq_self, implies_true, imp_self, reduceIte, reduceCtorEq, Nat.reduceAdd, Nat.reduceLT, Nat.reduceLeDiff, Nat.reduceEqDiff, Nat.reduceSub, Nat.reduceMul, Nat.reduceBEq, Int.reduceBEq, Int.reduceBNe, Int.reduceLT, Int.reduceLE, Int.reduceGT, Int.reduceGE, Int.reduceNeg, Int.reduceEq, Int.reduceNe, Int.reduceToNat, Int.reduceAdd, aconv, acvB, capR, acmpnil, appBox, storeB, ares1, appendTo, afill, aeqL, teset, e1, e7, e24, e25, e26, inj_take, inj_drop, inj_agg, inj_len, inj_one, List.length_map, boxR]
        have hk : ((h2.new [AV.int IntKind.i64 0, AV.int IntKind.i64 0, AV.str { data := #[] }, AV.sl Tag.full 0 [], AV.sl Tag.full 0 []]).set h2.nb (inj xs[j]).cells).tok h.nt = some G2 := ht3
        have hlb := lbV_le (wordsL xs) xs[j]
        refine ACallV.mono ?_ (ACallV.of ⟨Try.f22, Try.func22, rfl, by kernel_rfl⟩ (addnum_tok ys (lbV (wordsL xs) xs[j]) h.nt G2 (by omega) hlen _ hk))
        rintro out h3 ⟨rfl, rfl⟩
        simp only [aw0, aw1, aw2, aw3, aw4, aw5, aw6, aw7, ne_eq, eq_self, implies_true, imp_self, reduceIte, reduceCtorEq, Nat.reduceAdd, Nat.reduceLT, Nat.reduceLeDiff, Nat.reduceEqDiff, Nat.reduceSub, Nat.reduceMul, Nat.reduceBEq, Int.reduceBEq, Int.reduceBNe, Int.reduceLT, Int.reduceLE, Int.reduceGT, Int.reduceGE, Int.reduceNeg, Int.reduceEq, Int.reduceNe, Int.reduceToNat, Int.reduceAdd, aconv, acvB, capR, acmpnil, appBox, storeB, ares1, appendTo, afill, aeqL, teset, callK_ret, e1, e7, e24, e25, e26]
        refine ⟨n - 1, by omega, j + 1, _, ys ++ numA (lbV (wordsL xs) xs[j]), rfl, by rw [wrap_succ (by omega)], by omega, ((hE3.new _).set hE3.nb _).setTok (Nat.le_refl _) _, rfl, by rw [List.append_assoc]; exact hv⟩
end Go.Proofs.Ytlbhgoffiigfbaa.AW
end
section
set_option linter.unusedSimpArgs false
set_option linter.unusedVariables false
namespace Go.Proofs.Ytlbhgoffiigfbaa.AW
open Go Go.RowKit

def BY (l : List AV) : Prop := ∀ x ∈ l, ∃ k : Nat, k < 256 ∧ x = .int .u8 (k : Int)
theorem BY.app {a b : List AV} (ha : BY a) (hb : BY b) : BY (a ++ b) := fun x hx => (List.mem_append.1 hx).elim (ha x) (hb x)
theorem BY.flat {α : Type} {f : α → List AV} (hf : ∀ x, BY (f x)) (l : List α) : BY (l.flatMap f) := by
  intro x hx
  obtain ⟨y, _, h⟩ := List.mem_flatMap.1 hx
  exact hf y x h
theorem BY.nil : BY [] := fun x hx => by cases hx
theorem wrap_byte (z : Int) : ∃ k : Nat, k < 256 ∧ AV.int .u8 (IntKind.u8.wrap z) = .int .u8 (k : Int) := by
  have h : 0 ≤ IntKind.u8.wrap z ∧ IntKind.u8.wrap z < 256 := by
    simp only [IntKind.wrap, IntKind.bits, IntKind.signed, Bool.false_and, Bool.false_eq_true, if_false]
    omega
  exact ⟨(IntKind.u8.wrap z).toNat, by omega, by rw [Int.toNat_of_nonneg h.1]⟩
theorem BY.num (n : Nat) : BY (numA n) := by
  intro x hx
  unfold numA at hx
  obtain ⟨k, hk, rfl⟩ := List.mem_map.1 hx
  exact ⟨k, numL_lt n k hk, rfl⟩
theorem BY.str (s : ByteArray) : BY (strA s) := by
  unfold strA
  refine BY.app (BY.num _) (fun x hx => ?_)
  obtain ⟨b, _, rfl⟩ := List.mem_map.1 hx
  exact ⟨b.toNat, b.toNat_lt, rfl⟩
theorem BY.one (z : Int) : BY [.int .u8 (IntKind.u8.wrap z)] := by
  intro x hx
  rw [List.mem_singleton] at hx
  subst hx
  exact wrap_byte z
mutual
theorem BY.val : ∀ (v : V), BY (valA v)
  | .mk k i t xs ks => by
    rw [valA, ← List.singleton_append]
    refine BY.app (BY.one k) ?_
    split
    · exact BY.one i
    · split
      · exact BY.num _
      · split
        · exact BY.str _
        · split
          · exact BY.app (BY.num _) (BY.valL _ xs ks)
          · exact BY.nil
theorem BY.valL : ∀ (obj : Bool) (xs : List V) (ks : List ByteArray), BY (AW.valL obj xs ks)
  | true, [], _ => by simp only [AW.valL]; exact BY.nil
  | false, [], _ => by simp only [AW.valL]; exact BY.nil
  | true, v :: xs, k :: ks => by rw [AW.valL]; exact BY.app (BY.str _) (BY.app (BY.val v) (BY.valL true xs ks))
  | true, _ :: _, [] => by simp only [AW.valL]; exact BY.nil
  | false, v :: xs, ks => by rw [AW.valL]; exact BY.app (BY.val v) (BY.valL false xs ks)
end
theorem BY.vals (xs : List V) : BY (valsA xs) := BY.flat BY.val xs
theorem BY.plain (xs : List V) : BY (plainA xs) := BY.app (BY.num _) (BY.vals _)
theorem BY.runs (xs : List V) : BY (runsA xs) := BY.app (BY.num _) (BY.flat (fun p => BY.app (BY.num _) (BY.val _)) _)
theorem BY.dict (xs : List V) : BY (dictA xs) := BY.app (BY.app (BY.app (BY.num _) (BY.vals _)) (BY.num _)) (BY.flat (fun v => BY.num _) _)
theorem BY.deltaL : ∀ (xs : List V) (p : Int), BY (deltaL p xs)
  | [], _ => by simp only [AW.deltaL]; exact BY.nil
  | v :: xs, p => by rw [AW.deltaL]; exact BY.app (BY.num _) (BY.deltaL xs _)
theorem BY.delta (xs : List V) : BY (deltaA xs) := BY.app (BY.num _) (BY.deltaL _ _)
def asB (l : List AV) : List UInt8 := (avB l).getD []
theorem BY.avB : ∀ {l : List AV}, BY l → AW.avB l = some (asB l)
  | [], _ => rfl
  | x :: l, h => by
    obtain ⟨k, hk, rfl⟩ := h x List.mem_cons_self
    have ih := BY.avB (l := l) (fun z hz => h z (List.mem_cons_of_mem _ hz))
    have hb : 0 ≤ (k : Int) ∧ (k : Int) < 256 := by omega
    unfold asB
    simp only [AW.avB, if_pos hb, ih, Option.getD_some]
theorem BY.cells : ∀ {l : List AV}, BY l → l.flatMap AV.cells = l
  | [], _ => rfl
  | x :: l, h => by
    obtain ⟨k, hk, rfl⟩ := h x List.mem_cons_self
    rw [List.flatMap_cons, BY.cells (l := l) (fun z hz => h z (List.mem_cons_of_mem _ hz))]
    rfl
theorem BY.len {l : List AV} (h : BY l) : (asB l).length = l.length := (avB_spec h.avB).1.symm
/-- The bytes in an encoding. -/
def encA (e : Nat) (xs : List V) : List AV := if e = 1 then plainA xs else if e = 2 then runsA xs else if e = 3 then dictA xs else deltaA xs
theorem BY.enc (e : Nat) (xs : List V) : BY (encA e xs) := by
  unfold encA
  split
  · exact BY.plain xs
  · split
    · exact BY.runs xs
    · split
      · exact BY.dict xs
      · exact BY.delta xs
def encS (e : Nat) (xs : List V) : ByteArray := ⟨⟨asB (encA e xs)⟩⟩
def canL (e : Nat) (xs : List V) : Bool := if e = 4 then intsL xs else true
theorem encS_size (e : Nat) (xs : List V) : (encS e xs).size = (encA e xs).length := (BY.enc e xs).len
end Go.Proofs.Ytlbhgoffiigfbaa.AW
end
section
set_option linter.unusedSimpArgs false
set_option linter.unusedVariables false
namespace Go.Proofs.Ytlbhgoffiigfbaa.AW
open Go Go.RowKit

def tyE (e : Nat) : Nat := if e = 1 then 69 else if e = 2 then 70 else if e = 3 then 71 else 72
theorem range4 : ([0, 1, 2, 3] = List.range 4) = True := by simp; decide
theorem encodings_pure : Pure Try.prog 30 [] (.sl .ro 1 [.iface (tyE 1) (.agg []), .iface (tyE 2) (.agg []), .iface (tyE 3) (.agg []), .iface (tyE 4) (.agg [])]) := by
  refine Pure.of ⟨Try.f30, Try.func30, rfl, by kernel_rfl⟩ rfl (fun h => ?_)
  refine acalls_of te_ok [] Try.func30 (c := _) rfl (Nat.le_of_ble_eq_true rfl) ?_
  simp only [aw0, aw1, aw2, aw3, aw4, aw5, aw6, aw7, ne_eq, eq_self, implies_true, imp_self, reduceIte, reduceCtorEq, Nat.reduceAdd, Nat.reduceLT, Nat.reduceLeDiff, Nat.reduceEqDiff, Nat.reduceSub, Nat.reduceMul, Nat.reduceBEq, Int.reduceBEq, Int.reduceBNe, Int.reduceLT, Int.reduceLE, Int.reduceGT, Int.reduceGE, Int.reduceNeg, Int.reduceEq, Int.reduceNe, Int.reduceToNat, Int.reduceAdd, aconv, acvB, capR, acmpnil, appBox, storeB, ares1, appendTo, afill, aeqL, teset, Try.ntmps30, Try.results30, range4]
  exact ⟨.refl _, _, rfl, rfl⟩
theorem of_bad (n : Int) (hn : n < 1 ∨ 4 < n) : Pure Try.prog 25 [.int .i64 n] (.tup [.nili, .bool false]) := by
  refine Pure.of ⟨Try.f25, Try.func25, rfl, by kernel_rfl⟩ rfl (fun h => ?_)
  refine acalls_of te_ok [7, 8] Try.func25 (c := _) rfl (Nat.le_of_ble_eq_true rfl) ?_
  simp only [aw0, aw1, aw2, aw3, aw4, aw5, aw6, aw7, ne_eq, eq_self, implies_true, imp_self, reduceIte, reduceCtorEq, Nat.reduceAdd, Nat.reduceLT, Nat.reduceLeDiff, Nat.reduceEqDiff, Nat.reduceSub, Nat.reduceMul, Nat.reduceBEq, Int.reduceBEq, Int.reduceBNe, Int.reduceLT, Int.reduceLE, Int.reduceGT, Int.reduceGE, Int.reduceNeg, Int.reduceEq, Int.reduceNe, Int.reduceToNat, Int.reduceAdd, aconv, acvB, capR, acmpnil, appBox, storeB, ares1, appendTo, afill, aeqL, teset, Try.ntmps25, Try.results25]
  cases h1 : decide (n < 1) with
  | true =>
    simp only [aw0, aw1, aw2, aw3, aw4, aw5, aw6, aw7, ne_eq, eq_self, implies_true, imp_self, reduceIte, reduceCtorEq, Nat.reduceAdd, Nat.reduceLT, Nat.reduceLeDiff, Nat.reduceEqDiff, Nat.reduceSub, Nat.reduceMul, Nat.reduceBEq, Int.reduceBEq, Int.reduceBNe, Int.reduceLT, Int.reduceLE, Int.reduceGT, Int.reduceGE, Int.reduceNeg, Int.reduceEq, Int.reduceNe, Int.reduceToNat, Int.reduceAdd, aconv, acvB, capR, acmpnil, appBox, storeB, ares1, appendTo, afill, aeqL, teset]
    exact ⟨.refl _, _, rfl, rfl⟩
  | false =>
    simp only [decide_eq_false_iff_not] at h1
    have h2 : decide (n > 4) = true := by simp only [decide_eq_true_eq]; omega
    simp only [aw0, aw1, aw2, aw3, aw4, aw5, aw6, aw7, ne_eq, eq_self, implies_true, imp_self, reduceIte, reduceCtorEq, Nat.reduceAdd, Nat.reduceLT, Nat.reduceLeDiff, Nat.reduceEqDiff, Nat.reduceSub, Nat.reduceMul, Nat.reduceBEq, Int.reduceBEq, Int.reduceBNe, Int.reduceLT, Int.reduceLE, Int.reduceGT, Int.reduceGE, Int.reduceNeg, Int.reduceEq, Int.reduceNe, Int.reduceToNat, Int.reduceAdd, aconv, acvB, capR, acmpnil, appBox, storeB, ares1, appendTo, afill, aeqL, teset, h2]
    exact ⟨.refl _, _, rfl, rfl⟩
theorem of_1 : Pure Try.prog 25 [.int .i64 1] (.tup [.iface (tyE 1) (.agg []), .bool true]) := erun_pure ec5_ok (d := 60) rfl (by kernel_rfl)
theorem of_2 : Pure Try.prog 25 [.int .i64 2] (.tup [.iface (tyE 2) (.agg []), .bool true]) := erun_pure ec5_ok (d := 60) rfl (by kernel_rfl)
theorem of_3 : Pure Try.prog 25 [.int .i64 3] (.tup [.iface (tyE 3) (.agg []), .bool true]) := erun_pure ec5_ok (d := 60) rfl (by kernel_rfl)
theorem of_4 : Pure Try.prog 25 [.int .i64 4] (.tup [.iface (tyE 4) (.agg []), .bool true]) := erun_pure ec5_ok (d := 60) rfl (by kernel_rfl)
def nE (n : Int) : Prop := ¬ (n < 1 ∨ 4 < n)
theorem nE_cases {e : Nat} (h1 : 1 ≤ e) (h4 : e ≤ 4) : e = 1 ∨ e = 2 ∨ e = 3 ∨ e = 4 := by omega
theorem of_good (e : Nat) (h1 : 1 ≤ e) (h4 : e ≤ 4) : Pure Try.prog 25 [.int .i64 (e : Int)] (.tup [.iface (tyE e) (.agg []), .bool true]) := by
  rcases nE_cases h1 h4 with rfl | rfl | rfl | rfl
  · exact of_1
  · exact of_2
  · exact of_3
  · exact of_4
/-- Whether values can be written so, and their bytes, by the method that is found. -/
theorem can_meth (e : Nat) (h1 : 1 ≤ e) (h4 : e ≤ 4) (xs : List V) (hl : xs.length < 4611686018427387904) : ∃ f, AMeth Try.prog (tyE e) "cirrus/chunk.can" f ∧ Pure Try.prog f [.agg [], .sl .ro 5 (xs.map inj)] (.bool (canL e xs)) := by
  rcases nE_cases h1 h4 with rfl | rfl | rfl | rfl
  · exact ⟨_, m_plainly_can, plain_can xs⟩
  · exact ⟨_, m_inRuns_can, runs_can xs⟩
  · exact ⟨_, m_byDict_can, dict_can xs⟩
  · exact ⟨_, m_byDelta_can, delta_can xs hl⟩
theorem write_meth (e : Nat) (h1 : 1 ≤ e) (h4 : e ≤ 4) (xs : List V) (hx : ∀ x ∈ xs, Vok x) (hl : xs.length ≤ 1000) : ∃ f, AMeth Try.prog (tyE e) "cirrus/chunk.write" f ∧ Pure Try.prog f [.agg [], .sl .full 0 [], .sl .ro 5 (xs.map inj)] (.sl .ro 1 (encA e xs)) := by
  rcases nE_cases h1 h4 with rfl | rfl | rfl | rfl
  · exact ⟨_, m_plainly_write, plain_write xs hx hl⟩
  · exact ⟨_, m_inRuns_write, runs_write xs hx hl⟩
  · exact ⟨_, m_byDict_write, dict_write xs hx hl⟩
  · exact ⟨_, m_byDelta_write, delta_write xs hx hl⟩
theorem meth_call {P : Program} {t : Nat} {name : String} {v : AV} {args : List AV} {r : AV} {dst : Option Nat} {s : AS} {h : AH} {k : AK} {Q : AQ} (hm : ∃ f, AMeth P t name f ∧ Pure P f (v :: args) r) (hk : k (putD s dst r) h Q) : ∃ f, AMeth P t name f ∧ ACallF P f (v :: args) h (callK dst s k Q) := by
  obtain ⟨f, h1, h2⟩ := hm
  exact ⟨f, h1, ACallF.ofPure h2 hk⟩
theorem validL_ok {xs : List V} (h : validL xs = true) : (∀ x ∈ xs, Vok x) ∧ xs.length ≤ 200 := by
  unfold validL at h
  rw [Bool.and_eq_true, decide_eq_true_eq, List.all_eq_true] at h
  exact ⟨fun x hx => ⟨6, of_decide_eq_true (h.2 x hx)⟩, h.1⟩
def packBad (n : Int) : AV := .tup [.str ⟨#[]⟩, .int .i64 n]
theorem pack_form (xs : List V) (n : Int) (hsm : ∀ x ∈ xs, x.sm) (hl : xs.length < 4611686018427387904) (hv : validL xs = false) : Pure Try.prog 15 [.sl .ro 5 (xs.map inj), .int .i64 n] (packBad 1) := by
  have hof : ∃ a b, Pure Try.prog 25 [.int .i64 n] (.tup [a, .bool b]) := by
    by_cases hn : n < 1 ∨ 4 < n
    · exact ⟨_, _, of_bad n hn⟩
    · have := of_good n.toNat (by omega) (by omega)
      rw [Int.toNat_of_nonneg (by omega)] at this
      exact ⟨_, _, this⟩
  obtain ⟨a, b, hof⟩ := hof
  refine Pure.of ⟨Try.f15, Try.func15, rfl, by kernel_rfl⟩ rfl (fun h => ?_)
  refine acalls_of te_ok [] Try.func15 (c := _) rfl (Nat.le_of_ble_eq_true rfl) ?_
  simp only [aw0, aw1, aw2, aw3, aw4, aw5, aw6, aw7, ne_eq, eq_self, implies_true, imp_self, reduceIte, reduceCtorEq, Nat.reduceAdd, Nat.reduceLT, Nat.reduceLeDiff, Nat.reduceEqDiff, Nat.reduceSub, Nat.reduceMul, Nat.reduceBEq, Int.reduceBEq, Int.reduceBNe, Int.reduceLT, Int.reduceLE, Int.reduceGT, Int.reduceGE, Int.reduceNeg, Int.reduceEq, Int.reduceNe, Int.reduceToNat, Int.reduceAdd, aconv, acvB, capR, acmpnil, appBox, storeB, ares1, appendTo, afill, aeqL, teset, Try.ntmps15, Try.results15]
  refine ACallV.pure hof ?_
  simp only [aw0, aw1, aw2, aw3, aw4, aw5, aw6, aw7, ne_eq, eq_self, implies_true, imp_self, reduceIte, reduceCtorEq, Nat.reduceAdd, Nat.reduceLT, Nat.reduceLeDiff, Nat.reduceEqDiff, Nat.reduceSub, Nat.reduceMul, Nat.reduceBEq, Int.reduceBEq, Int.reduceBNe, Int.reduceLT, Int.reduceLE, Int.reduceGT, Int.reduceGE, Int.reduceNeg, Int.reduceEq, Int.reduceNe, Int.reduceToNat, Int.reduceAdd, aconv, acvB, capR, acmpnil, appBox, storeB, ares1, appendTo, afill, aeqL, teset]
  refine ACallV.pure (validL_pure xs hsm hl) ?_
  simp only [aw0, aw1, aw2, aw3, aw4, aw5, aw6, aw7, ne_eq, eq_self, implies_true, imp_self, reduceIte, reduceCtorEq, Nat.reduceAdd, Nat.reduceLT, Nat.reduceLeDiff, Nat.reduceEqDiff, Nat.reduceSub, Nat.reduceMul, Nat.reduceBEq, Int.reduceBEq, Int.reduceBNe, Int.reduceLT, Int.reduceLE, Int.reduceGT, Int.reduceGE, Int.reduceNeg, Int.reduceEq, Int.reduceNe, Int.reduceToNat, Int.reduceAdd, aconv, acvB, capR, acmpnil, appBox, storeB, ares1, appendTo, afill, aeqL, teset, hv]
  exact ⟨.refl _, _, rfl, rfl⟩
theorem pack_arg (xs : List V) (n : Int) (hsm : ∀ x ∈ xs, x.sm) (hl : xs.length < 4611686018427387904) (hv : validL xs = true) (hn : n < 1 ∨ 4 < n) : Pure Try.prog 15 [.sl .ro 5 (xs.map inj), .int .i64 n] (packBad 3) := by
  refine Pure.of ⟨Try.f15, Try.func15, rfl, by kernel_rfl⟩ rfl (fun h => ?_)
  refine acalls_of te_ok [] Try.func15 (c := _) rfl (Nat.le_of_ble_eq_true rfl) ?_
  simp only [aw0, aw1, aw2, aw3, aw4, aw5, aw6, aw7, ne_eq, eq_self, implies_true, imp_self, reduceIte, reduceCtorEq, Nat.reduceAdd, Nat.reduceLT, Nat.reduceLeDiff, Nat.reduceEqDiff, Nat.reduceSub, Nat.reduceMul, Nat.reduceBEq, Int.reduceBEq, Int.reduceBNe, Int.reduceLT, Int.reduceLE, Int.reduceGT, Int.reduceGE, Int.reduceNeg, Int.reduceEq, Int.reduceNe, Int.reduceToNat, Int.reduceAdd, aconv, acvB, capR, acmpnil, appBox, storeB, ares1, appendTo, afill, aeqL, teset, Try.ntmps15, Try.results15]
  refine ACallV.pure (of_bad n hn) ?_
  simp only [aw0, aw1, aw2, aw3, aw4, aw5, aw6, aw7, ne_eq, eq_self, implies_true, imp_self, reduceIte, reduceCtorEq, Nat.reduceAdd, Nat.reduceLT, Nat.reduceLeDiff, Nat.reduceEqDiff, Nat.reduceSub, Nat.reduceMul, Nat.reduceBEq, Int.reduceBEq, Int.reduceBNe, Int.reduceLT, Int.reduceLE, Int.reduceGT, Int.reduceGE, Int.reduceNeg, Int.reduceEq, Int.reduceNe, Int.reduceToNat, Int.reduceAdd, aconv, acvB, capR, acmpnil, appBox, storeB, ares1, appendTo, afill, aeqL, teset]
  refine ACallV.pure (validL_pure xs hsm hl) ?_
  simp only [aw0, aw1, aw2, aw3, aw4, aw5, aw6, aw7, ne_eq, eq_self, implies_true, imp_self, reduceIte, reduceCtorEq, Nat.reduceAdd, Nat.reduceLT, Nat.reduceLeDiff, Nat.reduceEqDiff, Nat.reduceSub, Nat.reduceMul, Nat.reduceBEq, Int.reduceBEq, Int.reduceBNe, Int.reduceLT, Int.reduceLE, Int.reduceGT, Int.reduceGE, Int.reduceNeg, Int.reduceEq, Int.reduceNe, Int.reduceToNat, Int.reduceAdd, aconv, acvB, capR, acmpnil, appBox, storeB, ares1, appendTo, afill, aeqL, teset, hv]
  exact ⟨.refl _, _, rfl, rfl⟩
theorem pack_good (xs : List V) (e : Nat) (h1 : 1 ≤ e) (h4 : e ≤ 4) (hsm : ∀ x ∈ xs, x.sm) (hl : xs.length < 4611686018427387904) (hv : validL xs = true) : Pure Try.prog 15 [.sl .ro 5 (xs.map inj), .int .i64 (e : Int)] (if canL e xs = true then .tup [.str (encS e xs), .int .i64 0] else packBad 8) := by
  obtain ⟨hx, hx2⟩ := validL_ok hv
  have hby := BY.enc e xs
  refine Pure.of ⟨Try.f15, Try.func15, rfl, by kernel_rfl⟩ (by split <;> rfl) (fun h => ?_)
  refine acalls_of te_ok [] Try.func15 (c := _) rfl (Nat.le_of_ble_eq_true rfl) ?_
  simp only [aw0, aw1, aw2, aw3, aw4, aw5, aw6, aw7, ne_eq, eq_self, implies_true, imp_self, reduceIte, reduceCtorEq, Nat.reduceAdd, Nat.reduceLT, Nat.reduceLeDiff, Nat.reduceEqDiff, Nat.reduceSub, Nat.reduceMul, Nat.reduceBEq, Int.reduceBEq, Int.reduceBNe, Int.reduceLT, Int.reduceLE, Int.reduceGT, Int.reduceGE, Int.reduceNeg, Int.reduceEq, Int.reduceNe, Int.reduceToNat, Int.reduceAdd, aconv, acvB, capR, acmpnil, appBox, storeB, ares1, appendTo, afill, aeqL, teset, Try.ntmps15, Try.results15]
  refine ACallV.pure (of_good e h1 h4) ?_
  simp only [aw0, aw1, aw2, aw3, aw4, aw5, aw6, aw7, ne_eq, eq_self, implies_true, imp_self, reduceIte, reduceCtorEq, Nat.reduceAdd, Nat.reduceLT, Nat.reduceLeDiff, Nat.reduceEqDiff, Nat.reduceSub, Nat.reduceMul, Nat.reduceBEq, Int.reduceBEq, Int.reduceBNe, Int.reduceLT, Int.reduceLE, Int.reduceGT, Int.reduceGE, Int.reduceNeg, Int.reduceEq, Int.reduceNe, Int.reduceToNat, Int.reduceAdd, aconv, acvB, capR, acmpnil, appBox, storeB, ares1, appendTo, afill, aeqL, teset]
  refine ACallV.pure (validL_pure xs hsm hl) ?_
  simp only [aw0, aw1, aw2, aw3, aw4, aw5, aw6, aw7, ne_eq, eq_self, implies_true, imp_self, reduceIte, reduceCtorEq, Nat.reduceAdd, Nat.reduceLT, Nat.reduceLeDiff, Nat.reduceEqDiff, Nat.reduceSub, Nat.reduceMul, Nat.reduceBEq, Int.reduceBEq, Int.reduceBNe, Int.reduceLT, Int.reduceLE, Int.reduceGT, Int.reduceGE, Int.reduceNeg, Int.reduceEq, Int.reduceNe, Int.reduceToNat, Int.reduceAdd, aconv, acvB, capR, acmpnil, appBox, storeB, ares1, appendTo, afill, aeqL, teset, hv]
  refine meth_call (can_meth e h1 h4 xs hl) ?_
  cases hc : canL e xs with
  | false =>
    simp only [aw0, aw1, aw2, aw3, aw4, aw5, aw6, aw7, ne_eq, eq_self, implies_true, imp_self, reduceIte, reduceCtorEq, Nat.reduceAdd, Nat.reduceLT, Nat.reduceLeDiff, Nat.reduceEqDiff, Nat.reduceSub, Nat.reduceMul, Nat.reduceBEq, Int.reduceBEq, Int.reduceBNe, Int.reduceLT, Int.reduceLE, Int.reduceGT, Int.reduceGE, Int.reduceNeg, Int.reduceEq, Int.reduceNe, Int.reduceToNat, Int.reduceAdd, aconv, acvB, capR, acmpnil, appBox, storeB, ares1, appendTo, afill, aeqL, teset]
    exact ⟨.refl _, _, rfl, rfl⟩
  | true =>
    simp only [aw0, aw1, aw2, aw3, aw4, aw5, aw6, aw7, ne_eq, eq_self, implies_true, imp_self, reduceIte, reduceCtorEq, Nat.reduceAdd, Nat.reduceLT, Nat.reduceLeDiff, Nat.reduceEqDiff, Nat.reduceSub, Nat.reduceMul, Nat.reduceBEq, Int.reduceBEq, Int.reduceBNe, Int.reduceLT, Int.reduceLE, Int.reduceGT, Int.reduceGE, Int.reduceNeg, Int.reduceEq, Int.reduceNe, Int.reduceToNat, Int.reduceAdd, aconv, acvB, capR, acmpnil, appBox, storeB, ares1, appendTo, afill, aeqL, teset]
    refine meth_call (write_meth e h1 h4 xs hx (by omega)) ?_
    simp only [aw0, aw1, aw2, aw3, aw4, aw5, aw6, aw7, ne_eq, eq_self, implies_true, imp_self, reduceIte, reduceCtorEq, Nat.reduceAdd, Nat.reduceLT, Nat.reduceLeDiff, Nat.reduceEqDiff, Nat.reduceSub, Nat.reduceMul, Nat.reduceBEq, Int.reduceBEq, Int.reduceBNe, Int.reduceLT, Int.reduceLE, Int.reduceGT, Int.reduceGE, Int.reduceNeg, Int.reduceEq, Int.reduceNe, Int.reduceToNat, Int.reduceAdd, aconv, acvB, capR, acmpnil, appBox, storeB, ares1, appendTo, afill, aeqL, teset, cellsOf, or_true, hby.cells, hby.avB]
    exact ⟨.refl _, _, rfl, rfl⟩
end Go.Proofs.Ytlbhgoffiigfbaa.AW
end
section
set_option linter.unusedSimpArgs false
set_option linter.unusedVariables false
namespace Go.Proofs.Ytlbhgoffiigfbaa.AW
open Go Go.RowKit

def bytesOf (e : Nat) (xs : List V) : ByteArray := if e = 0 then ⟨#[]⟩ else encS e xs
/-- The best of the first encodings. -/
def bestN (xs : List V) : Nat → Nat
  | 0 => 0
  | i + 1 => if canL (i + 1) xs = true then (if bestN xs i = 0 ∨ (encS (i + 1) xs).size < (bytesOf (bestN xs i) xs).size then i + 1 else bestN xs i) else bestN xs i
theorem best_form (xs : List V) (hsm : ∀ x ∈ xs, x.sm) (hl : xs.length < 4611686018427387904) (hv : validL xs = false) : Pure Try.prog 18 [.sl .ro 5 (xs.map inj)] (.tup [.int .i64 0, .str ⟨#[]⟩, .int .i64 1]) := by
  refine Pure.of ⟨Try.f18, Try.func18, rfl, by kernel_rfl⟩ rfl (fun h => ?_)
  refine acalls_of te_ok [] Try.func18 (c := _) rfl (Nat.le_of_ble_eq_true rfl) ?_
  simp only [aw0, aw1, aw2, aw3, aw4, aw5, aw6, aw7, ne_eq, eq_self, implies_true, imp_self, reduceIte, reduceCtorEq, Nat.reduceAdd, Nat.reduceLT, Nat.reduceLeDiff, Nat.reduceEqDiff, Nat.reduceSub, Nat.reduceMul, Nat.reduceBEq, Int.reduceBEq, Int.reduceBNe, Int.reduceLT, Int.reduceLE, Int.reduceGT, Int.reduceGE, Int.reduceNeg, Int.reduceEq, Int.reduceNe, Int.reduceToNat, Int.reduceAdd, aconv, acvB, capR, acmpnil, appBox, storeB, ares1, appendTo, afill, aeqL, teset, Try.ntmps18, Try.results18]
  refine ACallV.pure (validL_pure xs hsm hl) ?_
  simp only [aw0, aw1, aw2, aw3, aw4, aw5, aw6, aw7, ne_eq, eq_self, implies_true, imp_self, reduceIte, reduceCtorEq, Nat.reduceAdd, Nat.reduceLT, Nat.reduceLeDiff, Nat.reduceEqDiff, Nat.reduceSub, Nat.reduceMul, Nat.reduceBEq, Int.reduceBEq, Int.reduceBNe, Int.reduceLT, Int.reduceLE, Int.reduceGT, Int.reduceGE, Int.reduceNeg, Int.reduceEq, Int.reduceNe, Int.reduceToNat, Int.reduceAdd, aconv, acvB, capR, acmpnil, appBox, storeB, ares1, appendTo, afill, aeqL, teset, hv]
  exact ⟨.refl _, _, rfl, rfl⟩
set_option maxHeartbeats 1000000 in
theorem best_good (xs : List V) (hsm : ∀ x ∈ xs, x.sm) (hl : xs.length < 4611686018427387904) (hv : validL xs = true) : Pure Try.prog 18 [.sl .ro 5 (xs.map inj)] (.tup [.int .i64 (bestN xs 4), .str (bytesOf (bestN xs 4) xs), .int .i64 0]) := by
  obtain ⟨hx, hx2⟩ := validL_ok hv
  refine Pure.of ⟨Try.f18, Try.func18, rfl, by kernel_rfl⟩ rfl (fun h => ?_)
  refine acalls_of te_ok [31, 32, 33, 34, 35] Try.func18 (c := _) rfl (Nat.le_of_ble_eq_true rfl) ?_
  simp only [aw0, aw1, aw2, aw3, aw4, aw5, aw6, aw7, ne_eq, eq_self, implies_true, imp_self, reduceIte, reduceCtorEq, Nat.reduceAdd, Nat.reduceLT, Nat.reduceLeDiff, Nat.reduceEqDiff, Nat.reduceSub, Nat.reduceMul, Nat.reduceBEq, Int.reduceBEq, Int.reduceBNe, Int.reduceLT, Int.reduceLE, Int.reduceGT, Int.reduceGE, Int.reduceNeg, Int.reduceEq, Int.reduceNe, Int.reduceToNat, Int.reduceAdd, aconv, acvB, capR, acmpnil, appBox, storeB, ares1, appendTo, afill, aeqL, teset, Try.ntmps18, Try.results18]
  refine ACallV.pure (validL_pure xs hsm hl) ?_
  simp only [aw0, aw1, aw2, aw3, aw4, aw5, aw6, aw7, ne_eq, eq_self, implies_true, imp_self, reduceIte, reduceCtorEq, Nat.reduceAdd, Nat.reduceLT, Nat.reduceLeDiff, Nat.reduceEqDiff, Nat.reduceSub, Nat.reduceMul, Nat.reduceBEq, Int.reduceBEq, Int.reduceBNe, Int.reduceLT, Int.reduceLE, Int.reduceGT, Int.reduceGE, Int.reduceNeg, Int.reduceEq, Int.reduceNe, Int.reduceToNat, Int.reduceAdd, aconv, acvB, capR, acmpnil, appBox, storeB, ares1, appendTo, afill, aeqL, teset, hv]
  refine ACallV.pure encodings_pure ?_
  simp only [aw0, aw1, aw2, aw3, aw4, aw5, aw6, aw7, ne_eq, eq_self, implies_true, imp_self, reduceIte, reduceCtorEq, Nat.reduceAdd, Nat.reduceLT, Nat.reduceLeDiff, Nat.reduceEqDiff, Nat.reduceSub, Nat.reduceMul, Nat.reduceBEq, Int.reduceBEq, Int.reduceBNe, Int.reduceLT, Int.reduceLE, Int.reduceGT, Int.reduceGE, Int.reduceNeg, Int.reduceEq, Int.reduceNe, Int.reduceToNat, Int.reduceAdd, aconv, acvB, capR, acmpnil, appBox, storeB, ares1, appendTo, afill, aeqL, teset, List.length_cons, List.length_nil]
  refine ⟨fun n s' h' => ∃ i : Nat, s' 0 = .sl .ro 5 (xs.map inj) ∧ s' 5 = .int .i64 (bestN xs i) ∧ s' 6 = .str (bytesOf (bestN xs i) xs) ∧ s' 13 = .sl .ro 1 [.iface (tyE 1) (.agg []), .iface (tyE 2) (.agg []), .iface (tyE 3) (.agg []), .iface (tyE 4) (.agg [])] ∧ s' 14 = .int .i64 4 ∧ s' 15 = .int .i64 i ∧ h' = h ∧ n + i = 4, ⟨4, 0, ?_⟩, ?_⟩
  · simp only [aw0, aw1, aw2, aw3, aw4, aw5, aw6, aw7, ne_eq, eq_self, implies_true, imp_self, reduceIte, reduceCtorEq, Nat.reduceAdd, Nat.reduceLT, Nat.reduceLeDiff, Nat.reduceEqDiff, Nat.reduceSub, Nat.reduceMul, Nat.reduceBEq, Int.reduceBEq, Int.reduceBNe, Int.reduceLT, Int.reduceLE, Int.reduceGT, Int.reduceGE, Int.reduceNeg, Int.reduceEq, Int.reduceNe, Int.reduceToNat, Int.reduceAdd, aconv, acvB, capR, acmpnil, appBox, storeB, ares1, appendTo, afill, aeqL, teset, Int.natCast_zero, bestN, bytesOf, if_true]
    first | done | rfl | exact ⟨rfl, rfl⟩
  · rintro n s' h' ⟨i, e0, e5, e6, e13, e14, e15, rfl, hn⟩
    simp only [aw0, aw1, aw2, aw3, aw4, aw5, aw6, aw7, ne_eq, eq_self, implies_true, imp_self, reduceIte, reduceCtorEq, Nat.reduceAdd, Nat.reduceLT, Nat.reduceLeDiff, Nat.reduceEqDiff, Nat.reduceSub, Nat.reduceMul, Nat.reduceBEq, Int.reduceBEq, Int.reduceBNe, Int.reduceLT, Int.reduceLE, Int.reduceGT, Int.reduceGE, Int.reduceNeg, Int.reduceEq, Int.reduceNe, Int.reduceToNat, Int.reduceAdd, aconv, acvB, capR, acmpnil, appBox, storeB, ares1, appendTo, afill, aeqL, teset, e0, e5, e6, e13, e14, e15]
    cases hc : decide ((i : Int) < 4) with
    | false =>
      simp only [decide_eq_false_iff_not] at hc
      obtain rfl : i = 4 := by omega
      simp only [aw0, aw1, aw2, aw3, aw4, aw5, aw6, aw7, ne_eq, eq_self, implies_true, imp_self, reduceIte, reduceCtorEq, Nat.reduceAdd, Nat.reduceLT, Nat.reduceLeDiff, Nat.reduceEqDiff, Nat.reduceSub, Nat.reduceMul, Nat.reduceBEq, Int.reduceBEq, Int.reduceBNe, Int.reduceLT, Int.reduceLE, Int.reduceGT, Int.reduceGE, Int.reduceNeg, Int.reduceEq, Int.reduceNe, Int.reduceToNat, Int.reduceAdd, aconv, acvB, capR, acmpnil, appBox, storeB, ares1, appendTo, afill, aeqL, teset, e0, e5, e6, e13, e14, e15]
      exact ⟨.refl _, _, rfl, rfl⟩
    | true =>
      simp only [decide_eq_true_eq] at hc
      have hi : i < 4 := by omega
      have hget : ([.iface (tyE 1) (.agg []), .iface (tyE 2) (.agg []), .iface (tyE 3) (.agg []), .iface (tyE 4) (.agg [])] : List AV)[((i : Nat) : Int).toNat]? = some (.iface (tyE (i + 1)) (.agg [])) := by
        rcases (show i = 0 ∨ i = 1 ∨ i = 2 ∨ i = 3 by omega) with rfl | rfl | rfl | rfl <;> rfl
      simp only [aw0, aw1, aw2, aw3, aw4, aw5, aw6, aw7, ne_eq, eq_self, implies_true, imp_self, reduceIte, reduceCtorEq, Nat.reduceAdd, Nat.reduceLT, Nat.reduceLeDiff, Nat.reduceEqDiff, Nat.reduceSub, Nat.reduceMul, Nat.reduceBEq, Int.reduceBEq, Int.reduceBNe, Int.reduceLT, Int.reduceLE, Int.reduceGT, Int.reduceGE, Int.reduceNeg, Int.reduceEq, Int.reduceNe, Int.reduceToNat, Int.reduceAdd, aconv, acvB, capR, acmpnil, appBox, storeB, ares1, appendTo, afill, aeqL, teset, e0, e5, e6, e13, e14, e15, hget, Int.natCast_nonneg, List.length_cons, List.length_nil]
      refine meth_call (can_meth (i + 1) (by omega) (by omega) xs hl) ?_
      cases hcan : canL (i + 1) xs with
      | false =>
        simp only [aw0, aw1, aw2, aw3, aw4, aw5, aw6, aw7, ne_eq, eq_self, implies_true, imp_self, reduceIte, reduceCtorEq, Nat.reduceAdd, Nat.reduceLT, Nat.reduceLeDiff, Nat.reduceEqDiff, Nat.reduceSub, Nat.reduceMul, Nat.reduceBEq, Int.reduceBEq, Int.reduceBNe, Int.reduceLT, Int.reduceLE, Int.reduceGT, Int.reduceGE, Int.reduceNeg, Int.reduceEq, Int.reduceNe, Int.reduceToNat, Int.reduceAdd, aconv, acvB, capR, acmpnil, appBox, storeB, ares1, appendTo, afill, aeqL, teset, e0, e5, e6, e13, e14, e15]
        refine ⟨n - 1, by omega, i + 1, ?_, ?_, by rw [wrap_succ (by omega)], by omega⟩
        · rw [bestN, hcan]; rfl
        · rw [bestN, hcan]; rfl
      | true =>
        simp only [aw0, aw1, aw2, aw3, aw4, aw5, aw6, aw7, ne_eq, eq_self, implies_true, imp_self, reduceIte, reduceCtorEq, Nat.reduceAdd, Nat.reduceLT, Nat.reduceLeDiff, Nat.reduceEqDiff, Nat.reduceSub, Nat.reduceMul, Nat.reduceBEq, Int.reduceBEq, Int.reduceBNe, Int.reduceLT, Int.reduceLE, Int.reduceGT, Int.reduceGE, Int.reduceNeg, Int.reduceEq, Int.reduceNe, Int.reduceToNat, Int.reduceAdd, aconv, acvB, capR, acmpnil, appBox, storeB, ares1, appendTo, afill, aeqL, teset, e0, e5, e6, e13, e14, e15]
        refine meth_call (write_meth (i + 1) (by omega) (by omega) xs hx (by omega)) ?_
        have hby := BY.enc (i + 1) xs
        simp only [aw0, aw1, aw2, aw3, aw4, aw5, aw6, aw7, ne_eq, eq_self, implies_true, imp_self, reduceIte, reduceCtorEq, Nat.reduceAdd, Nat.reduceLT, Nat.reduceLeDiff, Nat.reduceEqDiff, Nat.reduceSub, Nat.reduceMul, Nat.reduceBEq, Int.reduceBEq, Int.reduceBNe, Int.reduceLT, Int.reduceLE, Int.reduceGT, Int.reduceGE, Int.reduceNeg, Int.reduceEq, Int.reduceNe, Int.reduceToNat, Int.reduceAdd, aconv, acvB, capR, acmpnil, appBox, storeB, ares1, appendTo, afill, aeqL, teset, e0, e5, e6, e13, e14, e15, cellsOf, or_true, hby.cells, hby.avB]
        have hsz : ((⟨⟨asB (encA (i + 1) xs)⟩⟩ : ByteArray).size : Int) = ((encS (i + 1) xs).size : Int) := rfl
        have hstr : AV.str ⟨⟨asB (encA (i + 1) xs)⟩⟩ = .str (encS (i + 1) xs) := rfl
        have hcond : (((bestN xs i : Nat) : Int) == 0 || decide (((⟨⟨asB (encA (i + 1) xs)⟩⟩ : ByteArray).size : Int) < ((bytesOf (bestN xs i) xs).size : Int))) = decide (bestN xs i = 0 ∨ (encS (i + 1) xs).size < (bytesOf (bestN xs i) xs).size) := by
          rw [hsz, Bool.decide_or]
          congr 1
          · by_cases h0 : bestN xs i = 0 <;> simp [h0]
          · simp only [Int.ofNat_lt]
        rw [hcond]
        cases hd : decide (bestN xs i = 0 ∨ (encS (i + 1) xs).size < (bytesOf (bestN xs i) xs).size) with
        | true =>
          have hb : bestN xs (i + 1) = i + 1 := by rw [bestN, if_pos hcan, if_pos (of_decide_eq_true hd)]
          simp only [aw0, aw1, aw2, aw3, aw4, aw5, aw6, aw7, ne_eq, eq_self, implies_true, imp_self, reduceIte, reduceCtorEq, Nat.reduceAdd, Nat.reduceLT, Nat.reduceLeDiff, Nat.reduceEqDiff, Nat.reduceSub, Nat.reduceMul, Nat.reduceBEq, Int.reduceBEq, Int.reduceBNe, Int.reduceLT, Int.reduceLE, Int.reduceGT, Int.reduceGE, Int.reduceNeg, Int.reduceEq, Int.reduceNe, Int.reduceToNat, Int.reduceAdd, aconv, acvB, capR, acmpnil, appBox, storeB, ares1, appendTo, afill, aeqL, teset, e0, e5, e6, e13, e14, e15]
          refine ⟨n - 1, by omega, i + 1, ?_, ?_, by rw [wrap_succ (by omega)], by omega⟩
          · rw [hb, wrap_succ (by omega)]
          · rw [hb]; rfl
        | false =>
          have hb : bestN xs (i + 1) = bestN xs i := by rw [bestN, if_pos hcan, if_neg (of_decide_eq_false hd)]
          simp only [aw0, aw1, aw2, aw3, aw4, aw5, aw6, aw7, ne_eq, eq_self, implies_true, imp_self, reduceIte, reduceCtorEq, Nat.reduceAdd, Nat.reduceLT, Nat.reduceLeDiff, Nat.reduceEqDiff, Nat.reduceSub, Nat.reduceMul, Nat.reduceBEq, Int.reduceBEq, Int.reduceBNe, Int.reduceLT, Int.reduceLE, Int.reduceGT, Int.reduceGE, Int.reduceNeg, Int.reduceEq, Int.reduceNe, Int.reduceToNat, Int.reduceAdd, aconv, acvB, capR, acmpnil, appBox, storeB, ares1, appendTo, afill, aeqL, teset, e0, e5, e6, e13, e14, e15]
          refine ⟨n - 1, by omega, i + 1, ?_, ?_, by rw [wrap_succ (by omega)], by omega⟩
          · rw [hb]
          · rw [hb]
end Go.Proofs.Ytlbhgoffiigfbaa.AW
end
section
set_option linter.unusedSimpArgs false
set_option linter.unusedVariables false
namespace Go.Proofs.Ytlbhgoffiigfbaa.AW
open Go Go.RowKit

theorem allvalid_pure (xs : List V) (hl : xs.length < 4611686018427387904) : Pure Try.prog 24 [.sl .ro 5 (xs.map inj)] (.bool (xs.all valid)) := by
  refine Pure.of ⟨Try.f24, Try.func24, rfl, by kernel_rfl⟩ rfl (fun h => ?_)
  refine acalls_of te_ok [] Try.func24 (c := _) rfl (Nat.le_of_ble_eq_true rfl) ?_
  simp only [aw0, aw1, aw2, aw3, aw4, aw5, aw6, aw7, ne_eq, eq_self, implies_true, imp_self, reduceIte, reduceCtorEq, Nat.reduceAdd, Nat.reduceLT, Nat.reduceLeDiff, Nat.reduceEqDiff, Nat.reduceSub, Nat.reduceMul, Nat.reduceBEq, Int.reduceBEq, Int.reduceBNe, Int.reduceLT, Int.reduceLE, Int.reduceGT, Int.reduceGE, Int.reduceNeg, Int.reduceEq, Int.reduceNe, Int.reduceToNat, Int.reduceAdd, aconv, acvB, capR, acmpnil, appBox, storeB, ares1, appendTo, afill, aeqL, teset, Try.ntmps24, Try.results24, inj_take, inj_drop, inj_agg, inj_len, inj_one, List.length_map]
  refine ⟨fun n s' h' => ∃ (j : Nat), s' 0 = .sl .ro 5 (xs.map inj) ∧ s' 3 = .int .i64 j ∧ h' = h ∧ n + j = xs.length ∧ (∀ (j' : Nat) x, j' < j → xs[j']? = some x → valid x = true), ⟨xs.length, 0, ?_⟩, ?_⟩
  · simp only [aw0, aw1, aw2, aw3, aw4, aw5, aw6, aw7, ne_eq, eq_self, implies_true, imp_self, reduceIte, reduceCtorEq, Nat.reduceAdd, Nat.reduceLT, Nat.reduceLeDiff, Nat.reduceEqDiff, Nat.reduceSub, Nat.reduceMul, Nat.reduceBEq, Int.reduceBEq, Int.reduceBNe, Int.reduceLT, Int.reduceLE, Int.reduceGT, Int.reduceGE, Int.reduceNeg, Int.reduceEq, Int.reduceNe, Int.reduceToNat, Int.reduceAdd, aconv, acvB, capR, acmpnil, appBox, storeB, ares1, appendTo, afill, aeqL, teset, Int.natCast_zero]
    exact fun j' x hj => absurd hj (Nat.not_lt_zero _)
  · rintro n s' h' ⟨j, e0, e3, rfl, hn, hall⟩
    simp only [aw0, aw1, aw2, aw3, aw4, aw5, aw6, aw7, ne_eq, eq_self, implies_true, imp_self, reduceIte, reduceCtorEq, Nat.reduceAdd, Nat.reduceLT, Nat.reduceLeDiff, Nat.reduceEqDiff, Nat.reduceSub, Nat.reduceMul, Nat.reduceBEq, Int.reduceBEq, Int.reduceBNe, Int.reduceLT, Int.reduceLE, Int.reduceGT, Int.reduceGE, Int.reduceNeg, Int.reduceEq, Int.reduceNe, Int.reduceToNat, Int.reduceAdd, aconv, acvB, capR, acmpnil, appBox, storeB, ares1, appendTo, afill, aeqL, teset, e0, e3, inj_take, inj_drop, inj_agg, inj_len, inj_one, List.length_map]
    cases hc : decide ((j : Int) < (xs.length : Int)) with
    | false =>
      simp only [aw0, aw1, aw2, aw3, aw4, aw5, aw6, aw7, ne_eq, eq_self, implies_true, imp_self, reduceIte, reduceCtorEq, Nat.reduceAdd, Nat.reduceLT, Nat.reduceLeDiff, Nat.reduceEqDiff, Nat.reduceSub, Nat.reduceMul, Nat.reduceBEq, Int.reduceBEq, Int.reduceBNe, Int.reduceLT, Int.reduceLE, Int.reduceGT, Int.reduceGE, Int.reduceNeg, Int.reduceEq, Int.reduceNe, Int.reduceToNat, Int.reduceAdd, aconv, acvB, capR, acmpnil, appBox, storeB, ares1, appendTo, afill, aeqL, teset, e0, e3, inj_take, inj_drop, inj_agg, inj_len, inj_one, List.length_map]
      simp only [decide_eq_false_iff_not] at hc
      refine ⟨.refl _, _, rfl, ?_⟩
      have : xs.all valid = true := by
        rw [List.all_eq_true]
        intro x hx
        obtain ⟨j', hj'⟩ := List.mem_iff_getElem?.1 hx
        exact hall j' x (by have := (List.getElem?_eq_some_iff.1 hj').1; omega) hj'
      rw [this]; rfl
    | true =>
      simp only [decide_eq_true_eq] at hc
      have hj : j < xs.length := by omega
      have hget : (xs.map inj)[((j : Nat) : Int).toNat]? = some (inj xs[j]) := by simp [hj]
      simp only [aw0, aw1, aw2, aw3, aw4, aw5, aw6, aw7, ne_eq, eq_self, implies_true, imp_self, reduceIte, reduceCtorEq, Nat.reduceAdd, Nat.reduceLT, Nat.reduceLeDiff, Nat.reduceEqDiff, Nat.reduceSub, Nat.reduceMul, Nat.reduceBEq, Int.reduceBEq, Int.reduceBNe, Int.reduceLT, Int.reduceLE, Int.reduceGT, Int.reduceGE, Int.reduceNeg, Int.reduceEq, Int.reduceNe, Int.reduceToNat, Int.reduceAdd, aconv, acvB, capR, acmpnil, appBox, storeB, ares1, appendTo, afill, aeqL, teset, e0, e3, inj_take, inj_drop, inj_agg, inj_len, inj_one, List.length_map, hget, Int.natCast_nonneg]
      refine ACallV.pure (refvalid_pure xs[j]) ?_
      cases hk : valid xs[j] with
      | false =>
        simp only [aw0, aw1, aw2, aw3, aw4, aw5, aw6, aw7, ne_eq, eq_self, implies_true, imp_self, reduceIte, reduceCtorEq, Nat.reduceAdd, Nat.reduceLT, Nat.reduceLeDiff, Nat.reduceEqDiff, Nat.reduceSub, Nat.reduceMul, Nat.reduceBEq, Int.reduceBEq, Int.reduceBNe, Int.reduceLT, Int.reduceLE, Int.reduceGT, Int.reduceGE, Int.reduceNeg, Int.reduceEq, Int.reduceNe, Int.reduceToNat, Int.reduceAdd, aconv, acvB, capR, acmpnil, appBox, storeB, ares1, appendTo, afill, aeqL, teset, e0, e3, inj_take, inj_drop, inj_agg, inj_len, inj_one, List.length_map]
        refine ⟨.refl _, _, rfl, ?_⟩
        have : xs.all valid = false := by
          rw [Bool.eq_false_iff]
          intro hq
          rw [List.all_eq_true] at hq
          rw [hq _ (List.getElem_mem hj)] at hk; cases hk
        rw [this]; rfl
      | true =>
        simp only [aw0, aw1, aw2, aw3, aw4, aw5, aw6, aw7, ne_eq, eq_self, implies_true, imp_self, reduceIte, reduceCtorEq, Nat.reduceAdd, Nat.reduceLT, Nat.reduceLeDiff, Nat.reduceEqDiff, Nat.reduceSub, Nat.reduceMul, Nat.reduceBEq, Int.reduceBEq, Int.reduceBNe, Int.reduceLT, Int.reduceLE, Int.reduceGT, Int.reduceGE, Int.reduceNeg, Int.reduceEq, Int.reduceNe, Int.reduceToNat, Int.reduceAdd, aconv, acvB, capR, acmpnil, appBox, storeB, ares1, appendTo, afill, aeqL, teset, e0, e3, inj_take, inj_drop, inj_agg, inj_len, inj_one, List.length_map]
        refine ⟨n - 1, by omega, j + 1, by rw [wrap_succ (by omega)], by omega, fun j' x hj' hx => ?_⟩
        by_cases e : j' = j
        · subst e; rw [List.getElem?_eq_getElem hj] at hx; injection hx with hx; subst hx; exact hk
        · exact hall j' x (by omega) hx
theorem proper_pure (xs : List V) (hl : xs.length < 4611686018427387904) : Pure Try.prog 14 [.sl .ro 5 (xs.map inj)] (.bool (validL xs)) := by
  refine Pure.of ⟨Try.f14, Try.func14, rfl, by kernel_rfl⟩ rfl (fun h => ?_)
  refine acalls_of te_ok [] Try.func14 (c := _) rfl (Nat.le_of_ble_eq_true rfl) ?_
  simp only [aw0, aw1, aw2, aw3, aw4, aw5, aw6, aw7, ne_eq, eq_self, implies_true, imp_self, reduceIte, reduceCtorEq, Nat.reduceAdd, Nat.reduceLT, Nat.reduceLeDiff, Nat.reduceEqDiff, Nat.reduceSub, Nat.reduceMul, Nat.reduceBEq, Int.reduceBEq, Int.reduceBNe, Int.reduceLT, Int.reduceLE, Int.reduceGT, Int.reduceGE, Int.reduceNeg, Int.reduceEq, Int.reduceNe, Int.reduceToNat, Int.reduceAdd, aconv, acvB, capR, acmpnil, appBox, storeB, ares1, appendTo, afill, aeqL, teset, Try.ntmps14, Try.results14, inj_take, inj_drop, inj_agg, inj_len, inj_one, List.length_map]
  cases hc : decide ((xs.length : Int) ≤ 200) with
  | false =>
    simp only [aw0, aw1, aw2, aw3, aw4, aw5, aw6, aw7, ne_eq, eq_self, implies_true, imp_self, reduceIte, reduceCtorEq, Nat.reduceAdd, Nat.reduceLT, Nat.reduceLeDiff, Nat.reduceEqDiff, Nat.reduceSub, Nat.reduceMul, Nat.reduceBEq, Int.reduceBEq, Int.reduceBNe, Int.reduceLT, Int.reduceLE, Int.reduceGT, Int.reduceGE, Int.reduceNeg, Int.reduceEq, Int.reduceNe, Int.reduceToNat, Int.reduceAdd, aconv, acvB, capR, acmpnil, appBox, storeB, ares1, appendTo, afill, aeqL, teset, inj_take, inj_drop, inj_agg, inj_len, inj_one, List.length_map]
    simp only [decide_eq_false_iff_not] at hc
    have : decide (xs.length ≤ 200) = false := by simp only [decide_eq_false_iff_not]; omega
    exact ⟨.refl _, _, rfl, by unfold validL; rw [this]; rfl⟩
  | true =>
    simp only [aw0, aw1, aw2, aw3, aw4, aw5, aw6, aw7, ne_eq, eq_self, implies_true, imp_self, reduceIte, reduceCtorEq, Nat.reduceAdd, Nat.reduceLT, Nat.reduceLeDiff, Nat.reduceEqDiff, Nat.reduceSub, Nat.reduceMul, Nat.reduceBEq, Int.reduceBEq, Int.reduceBNe, Int.reduceLT, Int.reduceLE, Int.reduceGT, Int.reduceGE, Int.reduceNeg, Int.reduceEq, Int.reduceNe, Int.reduceToNat, Int.reduceAdd, aconv, acvB, capR, acmpnil, appBox, storeB, ares1, appendTo, afill, aeqL, teset, inj_take, inj_drop, inj_agg, inj_len, inj_one, List.length_map]
    simp only [decide_eq_true_eq] at hc
    refine ACallV.pure (allvalid_pure xs hl) ?_
    simp only [aw0, aw1, aw2, aw3, aw4, aw5, aw6, aw7, ne_eq, eq_self, implies_true, imp_self, reduceIte, reduceCtorEq, Nat.reduceAdd, Nat.reduceLT, Nat.reduceLeDiff, Nat.reduceEqDiff, Nat.reduceSub, Nat.reduceMul, Nat.reduceBEq, Int.reduceBEq, Int.reduceBNe, Int.reduceLT, Int.reduceLE, Int.reduceGT, Int.reduceGE, Int.reduceNeg, Int.reduceEq, Int.reduceNe, Int.reduceToNat, Int.reduceAdd, aconv, acvB, capR, acmpnil, appBox, storeB, ares1, appendTo, afill, aeqL, teset]
    have : decide (xs.length ≤ 200) = true := by simp only [decide_eq_true_eq]; omega
    exact ⟨.refl _, _, rfl, by unfold validL; rw [this]; rfl⟩
theorem can_not {e : Nat} {xs : List V} (h : canL e xs = false) : e = 4 := by
  unfold canL at h
  by_cases e4 : e = 4
  · exact e4
  · rw [if_neg e4] at h; cases h
/-- The best one is the first of those with the fewest bytes. -/
theorem bestN_spec (xs : List V) : ∀ i, 1 ≤ i → i ≤ 4 → (1 ≤ bestN xs i ∧ bestN xs i ≤ i) ∧ canL (bestN xs i) xs = true ∧ ∀ e, 1 ≤ e → e ≤ i → canL e xs = true → (encS (bestN xs i) xs).size ≤ (encS e xs).size ∧ (e < bestN xs i → (encS (bestN xs i) xs).size < (encS e xs).size) := by
  intro i
  induction i with
  | zero => intro h; omega
  | succ i ih =>
    intro _ h4
    by_cases hi : i = 0
    · subst hi
      have hb : bestN xs 1 = 1 := by
        have hc : canL 1 xs = true := rfl
        rw [bestN, if_pos hc, if_pos (.inl rfl)]
      show (1 ≤ bestN xs 1 ∧ bestN xs 1 ≤ 1) ∧ canL (bestN xs 1) xs = true ∧ _
      rw [hb]
      refine ⟨⟨Nat.le_refl _, Nat.le_refl _⟩, rfl, fun e h1 h2 _ => ?_⟩
      obtain rfl : e = 1 := by omega
      exact ⟨Nat.le_refl _, fun h => by omega⟩
    · obtain ⟨⟨a1, a2⟩, a3, a4⟩ := ih (by omega) (by omega)
      have hbz : bestN xs i ≠ 0 := by omega
      have hby : bytesOf (bestN xs i) xs = encS (bestN xs i) xs := by unfold bytesOf; rw [if_neg hbz]
      by_cases hc : canL (i + 1) xs = true
      · by_cases hs : (encS (i + 1) xs).size < (encS (bestN xs i) xs).size
        · have hb : bestN xs (i + 1) = i + 1 := by rw [bestN, if_pos hc, if_pos (.inr (by rw [hby]; exact hs))]
          rw [hb]
          refine ⟨⟨by omega, Nat.le_refl _⟩, hc, fun e h1 h2 h3 => ?_⟩
          by_cases e1 : e = i + 1
          · subst e1; exact ⟨Nat.le_refl _, fun h => by omega⟩
          · have := (a4 e h1 (by omega) h3).1
            exact ⟨by omega, fun _ => by omega⟩
        · have hb : bestN xs (i + 1) = bestN xs i := by
            rw [bestN, if_pos hc, if_neg]
            rintro (h | h)
            · exact hbz h
            · rw [hby] at h; exact hs h
          rw [hb]
          refine ⟨⟨a1, by omega⟩, a3, fun e h1 h2 h3 => ?_⟩
          by_cases e1 : e = i + 1
          · subst e1; exact ⟨by omega, fun h => by omega⟩
          · exact a4 e h1 (by omega) h3
      · have hb : bestN xs (i + 1) = bestN xs i := by rw [bestN, if_neg hc]
        rw [hb]
        refine ⟨⟨a1, by omega⟩, a3, fun e h1 h2 h3 => ?_⟩
        by_cases e1 : e = i + 1
        · subst e1; exact absurd h3 hc
        · exact a4 e h1 (by omega) h3
end Go.Proofs.Ytlbhgoffiigfbaa.AW
end
section
set_option linter.unusedSimpArgs false
set_option linter.unusedVariables false
namespace Go.Proofs.Ytlbhgoffiigfbaa.AW
open Go Go.RowKit

set_option maxHeartbeats 2000000 in
theorem best_law (xs : List V) (hsm : ∀ x ∈ xs, x.sm) (hl : xs.length < 4611686018427387904) : Pure Try.prog 6 [.sl .ro 5 (xs.map inj)] (.bool true) := by
  refine Pure.of ⟨Try.f6, Try.func6, rfl, by kernel_rfl⟩ rfl (fun h => ?_)
  refine acalls_of te_ok [22, 23, 26, 27, 44, 45, 48, 49, 50, 58, 59, 60, 61, 62, 63, 64, 65, 66, 67, 70, 71, 72, 73, 74, 75, 76, 77] Try.func6 (c := _) rfl (Nat.le_of_ble_eq_true rfl) ?_
  simp only [aw0, aw1, aw2, aw3, aw4, aw5, aw6, aw7, ne_eq, eq_self, implies_true, imp_self, reduceIte, reduceCtorEq, Nat.reduceAdd, Nat.reduceLT, Nat.reduceLeDiff, Nat.reduceEqDiff, Nat.reduceSub, Nat.reduceMul, Nat.reduceBEq, Int.reduceBEq, Int.reduceBNe, Int.reduceLT, Int.reduceLE, Int.reduceGT, Int.reduceGE, Int.reduceNeg, Int.reduceEq, Int.reduceNe, Int.reduceToNat, Int.reduceAdd, aconv, acvB, capR, acmpnil, appBox, storeB, ares1, appendTo, afill, aeqL, teset, Try.ntmps6, Try.results6]
  refine ACallV.pure (proper_pure xs hl) ?_
  cases hv : validL xs with
  | false =>
    simp only [aw0, aw1, aw2, aw3, aw4, aw5, aw6, aw7, ne_eq, eq_self, implies_true, imp_self, reduceIte, reduceCtorEq, Nat.reduceAdd, Nat.reduceLT, Nat.reduceLeDiff, Nat.reduceEqDiff, Nat.reduceSub, Nat.reduceMul, Nat.reduceBEq, Int.reduceBEq, Int.reduceBNe, Int.reduceLT, Int.reduceLE, Int.reduceGT, Int.reduceGE, Int.reduceNeg, Int.reduceEq, Int.reduceNe, Int.reduceToNat, Int.reduceAdd, aconv, acvB, capR, acmpnil, appBox, storeB, ares1, appendTo, afill, aeqL, teset]
    refine ACallV.pure awake_pure ?_
    simp only [aw0, aw1, aw2, aw3, aw4, aw5, aw6, aw7, ne_eq, eq_self, implies_true, imp_self, reduceIte, reduceCtorEq, Nat.reduceAdd, Nat.reduceLT, Nat.reduceLeDiff, Nat.reduceEqDiff, Nat.reduceSub, Nat.reduceMul, Nat.reduceBEq, Int.reduceBEq, Int.reduceBNe, Int.reduceLT, Int.reduceLE, Int.reduceGT, Int.reduceGE, Int.reduceNeg, Int.reduceEq, Int.reduceNe, Int.reduceToNat, Int.reduceAdd, aconv, acvB, capR, acmpnil, appBox, storeB, ares1, appendTo, afill, aeqL, teset]
    exact ⟨.refl _, _, rfl, rfl⟩
  | true =>
    simp only [aw0, aw1, aw2, aw3, aw4, aw5, aw6, aw7, ne_eq, eq_self, implies_true, imp_self, reduceIte, reduceCtorEq, Nat.reduceAdd, Nat.reduceLT, Nat.reduceLeDiff, Nat.reduceEqDiff, Nat.reduceSub, Nat.reduceMul, Nat.reduceBEq, Int.reduceBEq, Int.reduceBNe, Int.reduceLT, Int.reduceLE, Int.reduceGT, Int.reduceGE, Int.reduceNeg, Int.reduceEq, Int.reduceNe, Int.reduceToNat, Int.reduceAdd, aconv, acvB, capR, acmpnil, appBox, storeB, ares1, appendTo, afill, aeqL, teset]
    refine ACallV.pure (best_good xs hsm hl hv) ?_
    obtain ⟨⟨b1, b2⟩, b3, b4⟩ := bestN_spec xs 4 (by decide) (by decide)
    generalize hB : bestN xs 4 = B at b1 b2 b3 b4 ⊢
    have hbo : bytesOf B xs = encS B xs := by unfold bytesOf; rw [if_neg (by omega)]
    rw [hbo]
    have c1 : decide (((B : Nat) : Int) < 1) = false := by simp only [decide_eq_false_iff_not]; omega
    have c2 : decide (((B : Nat) : Int) > 4) = false := by simp only [decide_eq_false_iff_not]; omega
    simp only [aw0, aw1, aw2, aw3, aw4, aw5, aw6, aw7, ne_eq, eq_self, implies_true, imp_self, reduceIte, reduceCtorEq, Nat.reduceAdd, Nat.reduceLT, Nat.reduceLeDiff, Nat.reduceEqDiff, Nat.reduceSub, Nat.reduceMul, Nat.reduceBEq, Int.reduceBEq, Int.reduceBNe, Int.reduceLT, Int.reduceLE, Int.reduceGT, Int.reduceGE, Int.reduceNeg, Int.reduceEq, Int.reduceNe, Int.reduceToNat, Int.reduceAdd, aconv, acvB, capR, acmpnil, appBox, storeB, ares1, appendTo, afill, aeqL, teset, c1, c2]
    refine ⟨fun n s' h' => ∃ i : Nat, s' 0 = .sl .ro 5 (xs.map inj) ∧ s' 3 = .int .i64 B ∧ s' 4 = .str (encS B xs) ∧ s' 6 = .int .i64 ((i + 1 : Nat) : Int) ∧ h' = h ∧ n + i = 4, ⟨4, 0, ?_⟩, ?_⟩
    · simp only [aw0, aw1, aw2, aw3, aw4, aw5, aw6, aw7, ne_eq, eq_self, implies_true, imp_self, reduceIte, reduceCtorEq, Nat.reduceAdd, Nat.reduceLT, Nat.reduceLeDiff, Nat.reduceEqDiff, Nat.reduceSub, Nat.reduceMul, Nat.reduceBEq, Int.reduceBEq, Int.reduceBNe, Int.reduceLT, Int.reduceLE, Int.reduceGT, Int.reduceGE, Int.reduceNeg, Int.reduceEq, Int.reduceNe, Int.reduceToNat, Int.reduceAdd, aconv, acvB, capR, acmpnil, appBox, storeB, ares1, appendTo, afill, aeqL, teset, Int.natCast_one, Nat.zero_add]
      first | done | rfl | trivial
    · rintro n s' h' ⟨i, e0, e3, e4, e6, rfl, hn⟩
      simp only [aw0, aw1, aw2, aw3, aw4, aw5, aw6, aw7, ne_eq, eq_self, implies_true, imp_self, reduceIte, reduceCtorEq, Nat.reduceAdd, Nat.reduceLT, Nat.reduceLeDiff, Nat.reduceEqDiff, Nat.reduceSub, Nat.reduceMul, Nat.reduceBEq, Int.reduceBEq, Int.reduceBNe, Int.reduceLT, Int.reduceLE, Int.reduceGT, Int.reduceGE, Int.reduceNeg, Int.reduceEq, Int.reduceNe, Int.reduceToNat, Int.reduceAdd, aconv, acvB, capR, acmpnil, appBox, storeB, ares1, appendTo, afill, aeqL, teset, e0, e3, e4, e6]
      cases hc : decide (((i + 1 : Nat) : Int) ≤ 4) with
      | false =>
        simp only [aw0, aw1, aw2, aw3, aw4, aw5, aw6, aw7, ne_eq, eq_self, implies_true, imp_self, reduceIte, reduceCtorEq, Nat.reduceAdd, Nat.reduceLT, Nat.reduceLeDiff, Nat.reduceEqDiff, Nat.reduceSub, Nat.reduceMul, Nat.reduceBEq, Int.reduceBEq, Int.reduceBNe, Int.reduceLT, Int.reduceLE, Int.reduceGT, Int.reduceGE, Int.reduceNeg, Int.reduceEq, Int.reduceNe, Int.reduceToNat, Int.reduceAdd, aconv, acvB, capR, acmpnil, appBox, storeB, ares1, appendTo, afill, aeqL, teset, e0, e3, e4, e6]
        refine ACallV.pure awake_pure ?_
        simp only [aw0, aw1, aw2, aw3, aw4, aw5, aw6, aw7, ne_eq, eq_self, implies_true, imp_self, reduceIte, reduceCtorEq, Nat.reduceAdd, Nat.reduceLT, Nat.reduceLeDiff, Nat.reduceEqDiff, Nat.reduceSub, Nat.reduceMul, Nat.reduceBEq, Int.reduceBEq, Int.reduceBNe, Int.reduceLT, Int.reduceLE, Int.reduceGT, Int.reduceGE, Int.reduceNeg, Int.reduceEq, Int.reduceNe, Int.reduceToNat, Int.reduceAdd, aconv, acvB, capR, acmpnil, appBox, storeB, ares1, appendTo, afill, aeqL, teset]
        exact ⟨.refl _, _, rfl, rfl⟩
      | true =>
        simp only [decide_eq_true_eq] at hc
        simp only [aw0, aw1, aw2, aw3, aw4, aw5, aw6, aw7, ne_eq, eq_self, implies_true, imp_self, reduceIte, reduceCtorEq, Nat.reduceAdd, Nat.reduceLT, Nat.reduceLeDiff, Nat.reduceEqDiff, Nat.reduceSub, Nat.reduceMul, Nat.reduceBEq, Int.reduceBEq, Int.reduceBNe, Int.reduceLT, Int.reduceLE, Int.reduceGT, Int.reduceGE, Int.reduceNeg, Int.reduceEq, Int.reduceNe, Int.reduceToNat, Int.reduceAdd, aconv, acvB, capR, acmpnil, appBox, storeB, ares1, appendTo, afill, aeqL, teset, e0, e3, e4, e6]
        refine ACallV.pure (pack_good xs (i + 1) (by omega) (by omega) hsm hl hv) ?_
        cases hcan : canL (i + 1) xs with
        | false =>
          simp only [aw0, aw1, aw2, aw3, aw4, aw5, aw6, aw7, ne_eq, eq_self, implies_true, imp_self, reduceIte, reduceCtorEq, Nat.reduceAdd, Nat.reduceLT, Nat.reduceLeDiff, Nat.reduceEqDiff, Nat.reduceSub, Nat.reduceMul, Nat.reduceBEq, Int.reduceBEq, Int.reduceBNe, Int.reduceLT, Int.reduceLE, Int.reduceGT, Int.reduceGE, Int.reduceNeg, Int.reduceEq, Int.reduceNe, Int.reduceToNat, Int.reduceAdd, aconv, acvB, capR, acmpnil, appBox, storeB, ares1, appendTo, afill, aeqL, teset, e0, e3, e4, e6, packBad, if_true, if_false, Bool.false_eq_true]
          have hi4 := can_not hcan
          have hBn : B ≠ 4 := by rintro rfl; rw [← hi4, hcan] at b3; cases b3
          have hcond : ((((i + 1 : Nat) : Int) != 4) || (((i + 1 : Nat) : Int) == ((B : Nat) : Int))) = false := by
            rw [hi4]
            simp only [Bool.or_eq_false_iff, bne_eq_false_iff_eq, beq_eq_false_iff_ne]
            exact ⟨rfl, by omega⟩
          rw [hcond]
          simp only [aw0, aw1, aw2, aw3, aw4, aw5, aw6, aw7, ne_eq, eq_self, implies_true, imp_self, reduceIte, reduceCtorEq, Nat.reduceAdd, Nat.reduceLT, Nat.reduceLeDiff, Nat.reduceEqDiff, Nat.reduceSub, Nat.reduceMul, Nat.reduceBEq, Int.reduceBEq, Int.reduceBNe, Int.reduceLT, Int.reduceLE, Int.reduceGT, Int.reduceGE, Int.reduceNeg, Int.reduceEq, Int.reduceNe, Int.reduceToNat, Int.reduceAdd, aconv, acvB, capR, acmpnil, appBox, storeB, ares1, appendTo, afill, aeqL, teset, e0, e3, e4, e6]
          exact ⟨n - 1, by omega, i + 1, by rw [wrap_succ (by omega)], by omega⟩
        | true =>
          simp only [aw0, aw1, aw2, aw3, aw4, aw5, aw6, aw7, ne_eq, eq_self, implies_true, imp_self, reduceIte, reduceCtorEq, Nat.reduceAdd, Nat.reduceLT, Nat.reduceLeDiff, Nat.reduceEqDiff, Nat.reduceSub, Nat.reduceMul, Nat.reduceBEq, Int.reduceBEq, Int.reduceBNe, Int.reduceLT, Int.reduceLE, Int.reduceGT, Int.reduceGE, Int.reduceNeg, Int.reduceEq, Int.reduceNe, Int.reduceToNat, Int.reduceAdd, aconv, acvB, capR, acmpnil, appBox, storeB, ares1, appendTo, afill, aeqL, teset, e0, e3, e4, e6, packBad, if_true, if_false, Bool.false_eq_true]
          obtain ⟨d1, d2⟩ := b4 (i + 1) (by omega) (by omega) hcan
          have hcond : (decide (((encS (i + 1) xs).size : Int) < ((encS B xs).size : Int)) || decide (((i + 1 : Nat) : Int) < ((B : Nat) : Int)) && (((encS (i + 1) xs).size : Int) == ((encS B xs).size : Int)) || ((((i + 1 : Nat) : Int) == ((B : Nat) : Int)) && !((encS (i + 1) xs).toList == (encS B xs).toList))) = false := by
            have q1 : decide (((encS (i + 1) xs).size : Int) < ((encS B xs).size : Int)) = false := by simp only [decide_eq_false_iff_not]; omega
            have q2 : (decide (((i + 1 : Nat) : Int) < ((B : Nat) : Int)) && (((encS (i + 1) xs).size : Int) == ((encS B xs).size : Int))) = false := by
              by_cases hlt : i + 1 < B
              · have := d2 hlt
                rw [Bool.and_eq_false_iff]; right
                rw [beq_eq_false_iff_ne]; omega
              · rw [Bool.and_eq_false_iff]; left
                simp only [decide_eq_false_iff_not]; omega
            have q3 : ((((i + 1 : Nat) : Int) == ((B : Nat) : Int)) && !((encS (i + 1) xs).toList == (encS B xs).toList)) = false := by
              by_cases he : i + 1 = B
              · rw [he]; simp
              · rw [Bool.and_eq_false_iff]; left
                rw [beq_eq_false_iff_ne]; omega
            rw [q1, q2, q3]; rfl
          rw [hcond]
          simp only [aw0, aw1, aw2, aw3, aw4, aw5, aw6, aw7, ne_eq, eq_self, implies_true, imp_self, reduceIte, reduceCtorEq, Nat.reduceAdd, Nat.reduceLT, Nat.reduceLeDiff, Nat.reduceEqDiff, Nat.reduceSub, Nat.reduceMul, Nat.reduceBEq, Int.reduceBEq, Int.reduceBNe, Int.reduceLT, Int.reduceLE, Int.reduceGT, Int.reduceGE, Int.reduceNeg, Int.reduceEq, Int.reduceNe, Int.reduceToNat, Int.reduceAdd, aconv, acvB, capR, acmpnil, appBox, storeB, ares1, appendTo, afill, aeqL, teset, e0, e3, e4, e6]
          exact ⟨n - 1, by omega, i + 1, by rw [wrap_succ (by omega)], by omega⟩
end Go.Proofs.Ytlbhgoffiigfbaa.AW
end
