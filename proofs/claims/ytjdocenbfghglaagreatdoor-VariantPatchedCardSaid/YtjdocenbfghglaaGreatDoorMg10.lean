/- Texts of this claim, part 10: V42, V43, V45. -/
import Derived.Test.YtjdocenbfghglaaGreatDoorMg1
import Derived.Test.YtjdocenbfghglaaGreatDoorMg2
import Derived.Test.YtjdocenbfghglaaGreatDoorMg3
section
set_option linter.unusedSimpArgs false
set_option linter.unusedVariables false
namespace Go.Proofs.YtjdocenbfghglaaGreatDoor.AW
open Go Go.RowKit

theorem take_succ_get {α : Type} (xs : List α) {j : Nat} (h : j < xs.length) : xs.take (j + 1) = xs.take j ++ [xs[j]] := by rw [List.take_succ_eq_append_getElem h]
theorem take_step {α : Type} (xs : List α) {j : Nat} (h : j < xs.length) : xs.take (j + 1) = xs.take j ++ [xs[j]] := take_succ_get xs h
theorem erase_hit {α : Type} (xs : List α) {i j : Nat} (h : j < xs.length) (e : j = i) : (xs.take (j + 1)).eraseIdx i = (xs.take j).eraseIdx i := by
  subst e
  have hl : (xs.take j).length = j := by simp; omega
  rw [take_succ_get xs h, List.eraseIdx_append_of_length_le (by omega), hl, Nat.sub_self, List.eraseIdx_cons_zero, List.append_nil, List.eraseIdx_of_length_le (by omega)]
theorem erase_non {α : Type} (xs : List α) {i j : Nat} (h : j < xs.length) (e : j ≠ i) : (xs.take (j + 1)).eraseIdx i = (xs.take j).eraseIdx i ++ [xs[j]] := by
  have hl : (xs.take j).length = j := by simp; omega
  rw [take_succ_get xs h]
  by_cases h1 : i < j
  · rw [List.eraseIdx_append_of_lt_length (by omega)]
  · rw [List.eraseIdx_append_of_length_le (by omega), hl, List.eraseIdx_of_length_le (l := [xs[j]]) (by simp; omega), List.eraseIdx_of_length_le (by omega)]
theorem set_hit {α : Type} (xs : List α) (y : α) {i j : Nat} (h : j < xs.length) (e : j = i) : (xs.take (j + 1)).set i y = (xs.take j).set i y ++ [y] := by
  subst e
  have hl : (xs.take j).length = j := by simp; omega
  rw [take_succ_get xs h, List.set_append_right _ _ (by omega), hl, Nat.sub_self, List.set_cons_zero, List.set_eq_of_length_le (by omega)]
theorem set_non {α : Type} (xs : List α) (y : α) {i j : Nat} (h : j < xs.length) (e : j ≠ i) : (xs.take (j + 1)).set i y = (xs.take j).set i y ++ [xs[j]] := by
  have hl : (xs.take j).length = j := by simp; omega
  rw [take_succ_get xs h]
  by_cases h1 : i < j
  · rw [List.set_append_left _ _ (by omega)]
  · rw [List.set_append_right _ _ (by omega), hl, List.set_eq_of_length_le (l := [xs[j]]) (by simp; omega), List.set_eq_of_length_le (l := xs.take j) (by omega)]
theorem set_len {α : Type} (xs : List α) (i : Nat) (y : α) (j : Nat) : ((xs.take j).set i y).length ≤ j + 1 := by simp; omega
theorem erase_len {α : Type} (xs : List α) (i j : Nat) : ((xs.take j).eraseIdx i).length ≤ j + 1 := by
  have := List.length_eraseIdx_le (xs.take j) i
  have h2 : (xs.take j).length ≤ j := by simp; omega
  omega
theorem take_len1 {α : Type} (xs : List α) (j : Nat) : (xs.take j).length ≤ j + 1 := by simp; omega
theorem ne_int {a b : Nat} (h : a ≠ b) : ((a : Int) == (b : Int)) = false := by rw [beq_eq_false_iff_ne]; omega
theorem nneg (m : Nat) : decide (((m : Nat) : Int) < 0) = false := by simp
theorem neg_ne {ix : Int} (h : ix < 0) (j : Nat) : (ix == ((j : Nat) : Int)) = false := by rw [beq_eq_false_iff_ne]; omega
theorem len_ne1 {a : Nat} (h : 0 < a) : (((a + 1 : Nat) : Int) == 1) = false := by rw [beq_eq_false_iff_ne]; omega
theorem key_at {ks : List ByteArray} {key : ByteArray} {i j : Nat} (h : ks[i]? = some key) (hj : j < ks.length) (e : j = i) : ks[j] = key := by
  subst e
  rw [List.getElem?_eq_getElem hj] at h
  injection h
theorem el_at {xs : List V} {o : V} {i j : Nat} (h : xs[i]? = some o) (hj : j < xs.length) (e : j = i) : xs[j] = o := by
  subst e
  rw [List.getElem?_eq_getElem hj] at h
  injection h
theorem asc_inj {ks : List ByteArray} {k : ByteArray} (ha : Asc ks) {a b : Nat} (h1 : ks[a]? = some k) (h2 : ks[b]? = some k) : a = b := by
  rcases Nat.lt_trichotomy a b with h | h | h
  · exact absurd rfl (sless_ne (Asc.lt ha (b - a - 1) a k k h1 (by rw [show a + (b - a - 1) + 1 = b by omega]; exact h2)))
  · exact h
  · exact absurd rfl (sless_ne (Asc.lt ha (a - b - 1) b k k h2 (by rw [show b + (a - b - 1) + 1 = a by omega]; exact h1)))
set_option maxHeartbeats 40000000 in
theorem refwo_s4 (xs : List V) (ks : List ByteArray) (key : ByteArray) (i : Nat) (hi : i < xs.length) (hx6 : xs.length < 1000000) (m : Nat) (him : m = i) (hks : ks = []) : Pure Tryz.prog 48 [.agg [.int .i64 4, .int .i64 0, .str ⟨#[]⟩, .sl .ro 5 (xs.map inj), .sl .ro 1 (ks.map .str)], .sl .ro 2 [.agg [.int .i64 ((m : Nat) : Int), .str key]]] (inj (.mk 4 0 ⟨#[]⟩ (xs.eraseIdx i) ([]))) := by
  refine Pure.of0 ⟨Tryz.f48, Tryz.func48, rfl, by kernel_rfl⟩ (by
    have h1 := injs_under xs
    have h2 := strs_under ks

    simp [AV.underL, AV.under, h1, h2]) (inj_under _) ?_



  have hk5 : True := trivial
  have hk4 : True := trivial
  refine acalls_of te_ok [] Tryz.func48 (c := _) rfl (Nat.le_of_ble_eq_true rfl) ?_
  simp only [aws, eq_self, reduceIte, Nat.reduceAdd, Nat.reduceLT, Nat.reduceLeDiff, storeB, afill, teset, Tryz.ntmps48, Tryz.results48, boxR]
  refine ⟨fun n' s' h' => ∃ (j : Nat) (ok : List ByteArray) (ox : List V) (aK aX : AV), s' 1 = .sl .ro 2 [.agg [.int .i64 ((m : Nat) : Int), .str key]] ∧ s' 2 = .ptr 0 0 ∧ s' 4 = .ptr 1 0 ∧ s' 5 = .ptr 2 0 ∧ s' 6 = .int .i64 j ∧ n' + j = xs.length ∧ 3 ≤ h'.nb ∧
    h'.box 0 = some [.int .i64 4, .int .i64 0, .str ⟨#[]⟩, .sl .ro 5 (xs.map inj), .sl .ro 1 (ks.map .str)] ∧ h'.box 1 = some [.int .i64 0, .int .i64 0, .str ⟨#[]⟩, .sl .full 0 [], .sl .full 0 []] ∧ h'.box 2 = some [.int .i64 4, .int .i64 0, .str ⟨#[]⟩, aX, aK] ∧
    ((ox = [] ∧ ok = [] ∧ aX = .sl .full 0 [] ∧ aK = .sl .full 0 [] ∧ h'.nt = 0) ∨ (∃ g g' : Nat, aX = .sl (.tok 0 g) 5 (ox.map inj) ∧ h'.tok 0 = some g ∧ aK = .sl .full 0 [] ∧ h'.nt = 1 ∧ ok = [] ∧ g' = g')) ∧ ox = (xs.take j).eraseIdx i ∧ ok = [], ⟨xs.length, 0, [], [], .sl .full 0 [], .sl .full 0 [], ?_⟩, ?_⟩
  · simp only [aws, eq_self, reduceIte, reduceCtorEq, Nat.reduceAdd, Nat.reduceEqDiff, Int.natCast_zero, List.eraseIdx_nil, Nat.le_refl]
  · rintro n' s' h' ⟨j, ok, ox, aK, aX, e1, e2, e4, e5, e6, hn', hnb, b0, b1, b2, hown, hoxe, hoke⟩
    have hjm : j < 1000000 := jlt hn' hx6
    have ne0 : (0 = h'.nb) = False := eq_false (by omega)
    have ne1 : (1 = h'.nb) = False := eq_false (by omega)
    have ne2 : (2 = h'.nb) = False := eq_false (by omega)
    have ne0' : (h'.nb = 0) = False := eq_false (by omega)
    have ne1' : (h'.nb = 1) = False := eq_false (by omega)
    have ne2' : (h'.nb = 2) = False := eq_false (by omega)
    have hbX : (ox.length + 1) * 80 ≤ 140737488355328 := b80 (by rw [hoxe]; exact erase_len xs i j) hjm
    have hbK : True := trivial
    have hb1 : (0 + 1) * 16 ≤ 140737488355328 := by decide
    have hb3 : (0 + 1) * 80 ≤ 140737488355328 := by decide
    rcases hown with ⟨hox, hok, rfl, rfl, hnt⟩ | ⟨g, g', rfl, hk0, rfl, hnt, hok, _⟩
    · have hk0 : True := trivial
      have hk1 : True := trivial
      simp only [aws, eq_self, reduceIte, Nat.reduceLT, Nat.reduceEqDiff, acmpnil, teset, e2, e6, b0, List.length_map, List.length_map]
      cases hc : decide ((j : Int) < (xs.length : Int)) with
      | false =>
        have hjl : xs.length ≤ j := nlt (by simpa only [decide_eq_false_iff_not] using hc)
        have htx : xs.take j = xs := List.take_of_length_le hjl
      
        rw [htx] at hoxe
      
        simp only [aws, eq_self, reduceIte, Nat.reduceAdd, Nat.reduceLT, Nat.reduceLeDiff, Nat.reduceEqDiff, storeB, ares1, teset, e4, e5, b1, b2]
        rw [← hoxe, inj_mk]
        refine ⟨_, rfl, To0.wk (WkAll.cons (.refl _) (.cons (.refl _) (.cons (.refl _) (.cons ?_ (.cons ?_ .nil))))).agg⟩
        · rw [hox]; exact wk_nil5
        · exact wk_nil1
      | true =>
        simp only [decide_eq_true_eq] at hc
        have hj : j < xs.length := Int.ofNat_lt.1 hc
      
        have hgx : (xs.map inj)[((j : Nat) : Int).toNat]? = some (inj xs[j]) := by rw [Int.toNat_natCast, List.getElem?_map, List.getElem?_eq_getElem hj]; rfl
      
        simp only [aws, eq_self, reduceIte, Nat.reduceAdd, Nat.reduceLT, Nat.reduceLeDiff, Nat.reduceEqDiff, storeB, teset, e2, e6, b0, inj_take, inj_agg, inj_len, inj_one, inj_len, inj_one, hgx, Int.natCast_nonneg]
        refine acode_draw_chain te_ok mixed [] (by kernel_rfl) ?_
        by_cases hji : j = i
        · have hq : (((m : Nat) : Int) == ((j : Nat) : Int)) = true := by rw [him, hji]; exact beq_self_eq_true _
          simp only [aws, eq_self, reduceIte, Nat.reduceAdd, Nat.reduceLT, Nat.reduceLeDiff, Nat.reduceEqDiff, Int.reduceLE, Int.reduceToNat, acmpnil, teset, e1, e2, e4, e5, e6, b0, b1, b2, Int.natCast_one, ne0, ne1, ne2, hnt, hq]
          refine ⟨n' - 1, nlt1 hn' hj, j + 1, ok, ox, _, _, by rw [wrap_succ (jwrap hjm)], nadd hn' hj, Nat.le_trans (by decide) hnb, rfl, .inl ⟨hox, hok, rfl, rfl⟩, by rw [hoxe]; exact (erase_hit xs hj hji).symm, hok⟩
      
        · have hq : (((m : Nat) : Int) == ((j : Nat) : Int)) = false := ne_int (by rw [him]; exact fun h => hji h.symm)
          have hq2 : decide (((m : Nat) : Int) < 0) = false := nneg m
          simp only [aws, eq_self, reduceIte, reduceCtorEq, Nat.reduceAdd, Nat.reduceLT, Nat.reduceLeDiff, Nat.reduceEqDiff, Nat.reduceMul, Int.reduceBEq, Int.reduceLE, Int.reduceToNat, acmpnil, appBox, storeB, appendTo, teset, e1, e2, e4, e5, e6, b0, b1, b2, inj_take, inj_agg, inj_len, inj_one, range1, inj_len, inj_one, ne0, ne1, ne2, ne0', ne1', hnt, hb3, hq, hq2]
          refine .inl ?_
          refine ⟨n' - 1, nlt1 hn' hj, j + 1, ok, ox ++ [xs[j]], _, _, by rw [wrap_succ (jwrap hjm)], nadd hn' hj, Nat.le_trans (by decide) hnb, rfl, .inr ⟨0, 0, by simp [hox], rfl, rfl, hok⟩, by rw [hoxe]; exact (erase_non xs hj hji).symm, hok⟩
    · have hox : True := trivial
      have hk1 : True := trivial
      simp only [aws, eq_self, reduceIte, Nat.reduceLT, Nat.reduceEqDiff, acmpnil, teset, e2, e6, b0, List.length_map, List.length_map]
      cases hc : decide ((j : Int) < (xs.length : Int)) with
      | false =>
        have hjl : xs.length ≤ j := nlt (by simpa only [decide_eq_false_iff_not] using hc)
        have htx : xs.take j = xs := List.take_of_length_le hjl
      
        rw [htx] at hoxe
      
        simp only [aws, eq_self, reduceIte, Nat.reduceAdd, Nat.reduceLT, Nat.reduceLeDiff, Nat.reduceEqDiff, storeB, ares1, teset, e4, e5, b1, b2]
        rw [← hoxe, inj_mk]
        refine ⟨_, rfl, To0.wk (WkAll.cons (.refl _) (.cons (.refl _) (.cons (.refl _) (.cons ?_ (.cons ?_ .nil))))).agg⟩
        · exact .ro
        · exact wk_nil1
      | true =>
        simp only [decide_eq_true_eq] at hc
        have hj : j < xs.length := Int.ofNat_lt.1 hc
      
        have hgx : (xs.map inj)[((j : Nat) : Int).toNat]? = some (inj xs[j]) := by rw [Int.toNat_natCast, List.getElem?_map, List.getElem?_eq_getElem hj]; rfl
      
        simp only [aws, eq_self, reduceIte, Nat.reduceAdd, Nat.reduceLT, Nat.reduceLeDiff, Nat.reduceEqDiff, storeB, teset, e2, e6, b0, inj_take, inj_agg, inj_len, inj_one, inj_len, inj_one, hgx, Int.natCast_nonneg]
        refine acode_draw_chain te_ok mixed [] (by kernel_rfl) ?_
        by_cases hji : j = i
        · have hq : (((m : Nat) : Int) == ((j : Nat) : Int)) = true := by rw [him, hji]; exact beq_self_eq_true _
          simp only [aws, eq_self, reduceIte, Nat.reduceAdd, Nat.reduceLT, Nat.reduceLeDiff, Nat.reduceEqDiff, Int.reduceLE, Int.reduceToNat, acmpnil, teset, e1, e2, e4, e5, e6, b0, b1, b2, Int.natCast_one, ne0, ne1, ne2, hnt, hk0, hq]
          refine ⟨n' - 1, nlt1 hn' hj, j + 1, ok, ox, _, _, by rw [wrap_succ (jwrap hjm)], nadd hn' hj, Nat.le_trans (by decide) hnb, rfl, .inr ⟨g, 0, rfl, rfl, rfl, hok⟩, by rw [hoxe]; exact (erase_hit xs hj hji).symm, hok⟩
      
        · have hq : (((m : Nat) : Int) == ((j : Nat) : Int)) = false := ne_int (by rw [him]; exact fun h => hji h.symm)
          have hq2 : decide (((m : Nat) : Int) < 0) = false := nneg m
          simp only [aws, eq_self, reduceIte, reduceCtorEq, Nat.reduceAdd, Nat.reduceLT, Nat.reduceLeDiff, Nat.reduceEqDiff, Nat.reduceMul, Int.reduceBEq, Int.reduceLE, Int.reduceToNat, acmpnil, appBox, storeB, appendTo, teset, e1, e2, e4, e5, e6, b0, b1, b2, inj_take, inj_agg, inj_len, inj_one, List.length_map, range1, inj_len, inj_one, ne0, ne1, ne2, List.length_map, hnt, hk0, hbX, hq, hq2]
          refine ⟨n' - 1, nlt1 hn' hj, j + 1, ok, ox ++ [xs[j]], _, _, by rw [wrap_succ (jwrap hjm)], nadd hn' hj, Nat.le_trans (by decide) hnb, rfl, .inr ⟨g + 1, 0, by simp [hok], rfl, rfl, hok⟩, by rw [hoxe]; exact (erase_non xs hj hji).symm, hok⟩

set_option maxHeartbeats 40000000 in
theorem refwo_s5 (xs : List V) (ks : List ByteArray) (key : ByteArray) (i : Nat) (hi : i < xs.length) (hx6 : xs.length < 1000000) (ix : Int) (hix : ix < 0) (hkl : ks.length = xs.length) (ha : Asc ks) (hkey : ks[i]? = some key) : Pure Tryz.prog 48 [.agg [.int .i64 5, .int .i64 0, .str ⟨#[]⟩, .sl .ro 5 (xs.map inj), .sl .ro 1 (ks.map .str)], .sl .ro 2 [.agg [.int .i64 ix, .str key]]] (inj (.mk 5 0 ⟨#[]⟩ (xs.eraseIdx i) (ks.eraseIdx i))) := by
  refine Pure.of0 ⟨Tryz.f48, Tryz.func48, rfl, by kernel_rfl⟩ (by
    have h1 := injs_under xs
    have h2 := strs_under ks

    simp [AV.underL, AV.under, h1, h2]) (inj_under _) ?_



  have hk5 : True := trivial
  have hk4 : True := trivial
  refine acalls_of te_ok [] Tryz.func48 (c := _) rfl (Nat.le_of_ble_eq_true rfl) ?_
  simp only [aws, eq_self, reduceIte, Nat.reduceAdd, Nat.reduceLT, Nat.reduceLeDiff, storeB, afill, teset, Tryz.ntmps48, Tryz.results48, boxR]
  refine ⟨fun n' s' h' => ∃ (j : Nat) (ok : List ByteArray) (ox : List V) (aK aX : AV), s' 1 = .sl .ro 2 [.agg [.int .i64 ix, .str key]] ∧ s' 2 = .ptr 0 0 ∧ s' 4 = .ptr 1 0 ∧ s' 5 = .ptr 2 0 ∧ s' 6 = .int .i64 j ∧ n' + j = xs.length ∧ 3 ≤ h'.nb ∧
    h'.box 0 = some [.int .i64 5, .int .i64 0, .str ⟨#[]⟩, .sl .ro 5 (xs.map inj), .sl .ro 1 (ks.map .str)] ∧ h'.box 1 = some [.int .i64 0, .int .i64 0, .str ⟨#[]⟩, .sl .full 0 [], .sl .full 0 []] ∧ h'.box 2 = some [.int .i64 5, .int .i64 0, .str ⟨#[]⟩, aX, aK] ∧
    ((ox = [] ∧ ok = [] ∧ aX = .sl .full 0 [] ∧ aK = .sl .full 0 [] ∧ h'.nt = 0) ∨ (∃ g g' : Nat, aX = .sl (.tok 0 g) 5 (ox.map inj) ∧ h'.tok 0 = some g ∧ aK = .sl (.tok 1 g') 1 (ok.map .str) ∧ h'.tok 1 = some g' ∧ h'.nt = 2)) ∧ ox = (xs.take j).eraseIdx i ∧ ok = (ks.take j).eraseIdx i, ⟨xs.length, 0, [], [], .sl .full 0 [], .sl .full 0 [], ?_⟩, ?_⟩
  · simp only [aws, eq_self, reduceIte, reduceCtorEq, Nat.reduceAdd, Nat.reduceEqDiff, Int.natCast_zero, List.eraseIdx_nil, Nat.le_refl]
  · rintro n' s' h' ⟨j, ok, ox, aK, aX, e1, e2, e4, e5, e6, hn', hnb, b0, b1, b2, hown, hoxe, hoke⟩
    have hjm : j < 1000000 := jlt hn' hx6
    have ne0 : (0 = h'.nb) = False := eq_false (by omega)
    have ne1 : (1 = h'.nb) = False := eq_false (by omega)
    have ne2 : (2 = h'.nb) = False := eq_false (by omega)
    have ne0' : (h'.nb = 0) = False := eq_false (by omega)
    have ne1' : (h'.nb = 1) = False := eq_false (by omega)
    have ne2' : (h'.nb = 2) = False := eq_false (by omega)
    have hbX : (ox.length + 1) * 80 ≤ 140737488355328 := b80 (by rw [hoxe]; exact erase_len xs i j) hjm
    have hbK : (ok.length + 1) * 16 ≤ 140737488355328 := b16 (by rw [hoke]; exact erase_len ks i j) hjm
    have hb1 : (0 + 1) * 16 ≤ 140737488355328 := by decide
    have hb3 : (0 + 1) * 80 ≤ 140737488355328 := by decide
    rcases hown with ⟨hox, hok, rfl, rfl, hnt⟩ | ⟨g, g', rfl, hk0, rfl, hk1, hnt⟩
    · have hk0 : True := trivial
      have hk1 : True := trivial
      simp only [aws, eq_self, reduceIte, Nat.reduceLT, Nat.reduceEqDiff, acmpnil, teset, e2, e6, b0, List.length_map, List.length_map]
      cases hc : decide ((j : Int) < (xs.length : Int)) with
      | false =>
        have hjl : xs.length ≤ j := nlt (by simpa only [decide_eq_false_iff_not] using hc)
        have htx : xs.take j = xs := List.take_of_length_le hjl
        have htk : ks.take j = ks := List.take_of_length_le (hkl ▸ hjl)
        rw [htx] at hoxe
        rw [htk] at hoke
        simp only [aws, eq_self, reduceIte, Nat.reduceAdd, Nat.reduceLT, Nat.reduceLeDiff, Nat.reduceEqDiff, storeB, ares1, teset, e4, e5, b1, b2]
        rw [← hoxe, ← hoke, inj_mk]
        refine ⟨_, rfl, To0.wk (WkAll.cons (.refl _) (.cons (.refl _) (.cons (.refl _) (.cons ?_ (.cons ?_ .nil))))).agg⟩
        · rw [hox]; exact wk_nil5
        · rw [hok]; exact wk_nil1
      | true =>
        simp only [decide_eq_true_eq] at hc
        have hj : j < xs.length := Int.ofNat_lt.1 hc
        have hjk : j < ks.length := hkl ▸ hj
        have hgx : (xs.map inj)[((j : Nat) : Int).toNat]? = some (inj xs[j]) := by rw [Int.toNat_natCast, List.getElem?_map, List.getElem?_eq_getElem hj]; rfl
        have hgk : (ks.map AV.str)[((j : Nat) : Int).toNat]? = some (.str ks[j]) := by rw [Int.toNat_natCast, List.getElem?_map, List.getElem?_eq_getElem hjk]; rfl
        simp only [aws, eq_self, reduceIte, Nat.reduceAdd, Nat.reduceLT, Nat.reduceLeDiff, Nat.reduceEqDiff, storeB, teset, e2, e6, b0, inj_take, inj_agg, inj_len, inj_one, inj_len, inj_one, hgx, Int.natCast_nonneg]
        refine acode_draw_chain te_ok mixed [] (by kernel_rfl) ?_
        have hq : (ix == ((j : Nat) : Int)) = false := neg_ne hix j
        have hq2 : decide (ix < 0) = true := decide_eq_true hix
        simp only [aws, eq_self, reduceIte, Nat.reduceAdd, Nat.reduceLT, Nat.reduceEqDiff, Int.reduceLE, Int.reduceToNat, acmpnil, teset, e1, e2, e6, b0, ne0, Int.natCast_nonneg, hgk, hq, hq2]
        by_cases hji : j = i
        · have hqk : (ks[j].toList == key.toList) = true := by rw [key_at hkey hjk hji]; exact beq_self_eq_true _
          simp only [aws, eq_self, reduceIte, Nat.reduceAdd, Nat.reduceLT, Nat.reduceLeDiff, Nat.reduceEqDiff, acmpnil, storeB, ares1, teset, e1, e2, e4, e5, e6, b0, b1, b2, Int.natCast_one, ne0, ne1, ne2, hnt, hqk]
          refine ⟨n' - 1, nlt1 hn' hj, j + 1, ok, ox, _, _, by rw [wrap_succ (jwrap hjm)], nadd hn' hj, Nat.le_trans (by decide) hnb, rfl, .inl ⟨hox, hok, rfl, rfl⟩, by rw [hoxe]; exact (erase_hit xs hj hji).symm, by rw [hoke]; exact (erase_hit ks hjk hji).symm⟩
      
        · have hqk : (ks[j].toList == key.toList) = false := ba_ne (fun e => hji (asc_inj ha (by rw [List.getElem?_eq_getElem hjk, e]) hkey))
          simp only [aws, eq_self, reduceIte, reduceCtorEq, Nat.reduceAdd, Nat.reduceLT, Nat.reduceLeDiff, Nat.reduceEqDiff, Nat.reduceMul, acmpnil, appBox, storeB, appendTo, teset, e2, e5, b0, b2, inj_take, inj_agg, inj_len, inj_one, range1, inj_len, inj_one, ne0, ne2, ne1', hnt, hb3, hqk]
          refine .inl ?_
          refine acode_draw_chain te_ok mixed [] (by kernel_rfl) ?_
          simp only [aws, eq_self, implies_true, imp_self, reduceIte, reduceCtorEq, Nat.reduceAdd, Nat.reduceLT, Nat.reduceLeDiff, Nat.reduceEqDiff, Nat.reduceMul, acmpnil, appBox, storeB, appendTo, teset, e1, e2, e4, e5, e6, b0, b1, b2, range1, ne0, ne1, ne2, newTok_boxf, skR_app1, hnt, hb1, Int.natCast_nonneg, hgk]
          refine ⟨n' - 1, nlt1 hn' hj, j + 1, ok ++ [ks[j]], ox ++ [xs[j]], _, _, by rw [wrap_succ (jwrap hjm)], nadd hn' hj, Nat.le_trans (by decide) hnb, rfl, .inr ⟨0, 0, by simp [hox], rfl, by simp [hok], rfl⟩, by rw [hoxe]; exact (erase_non xs hj hji).symm, by rw [hoke]; exact (erase_non ks hjk hji).symm⟩
    · have hox : True := trivial
      have hok : True := trivial
      simp only [aws, eq_self, reduceIte, Nat.reduceLT, Nat.reduceEqDiff, acmpnil, teset, e2, e6, b0, List.length_map, List.length_map]
      cases hc : decide ((j : Int) < (xs.length : Int)) with
      | false =>
        have hjl : xs.length ≤ j := nlt (by simpa only [decide_eq_false_iff_not] using hc)
        have htx : xs.take j = xs := List.take_of_length_le hjl
        have htk : ks.take j = ks := List.take_of_length_le (hkl ▸ hjl)
        rw [htx] at hoxe
        rw [htk] at hoke
        simp only [aws, eq_self, reduceIte, Nat.reduceAdd, Nat.reduceLT, Nat.reduceLeDiff, Nat.reduceEqDiff, storeB, ares1, teset, e4, e5, b1, b2]
        rw [← hoxe, ← hoke, inj_mk]
        refine ⟨_, rfl, To0.wk (WkAll.cons (.refl _) (.cons (.refl _) (.cons (.refl _) (.cons ?_ (.cons ?_ .nil))))).agg⟩
        · exact .ro
        · exact .ro
      | true =>
        simp only [decide_eq_true_eq] at hc
        have hj : j < xs.length := Int.ofNat_lt.1 hc
        have hjk : j < ks.length := hkl ▸ hj
        have hgx : (xs.map inj)[((j : Nat) : Int).toNat]? = some (inj xs[j]) := by rw [Int.toNat_natCast, List.getElem?_map, List.getElem?_eq_getElem hj]; rfl
        have hgk : (ks.map AV.str)[((j : Nat) : Int).toNat]? = some (.str ks[j]) := by rw [Int.toNat_natCast, List.getElem?_map, List.getElem?_eq_getElem hjk]; rfl
        simp only [aws, eq_self, reduceIte, Nat.reduceAdd, Nat.reduceLT, Nat.reduceLeDiff, Nat.reduceEqDiff, storeB, teset, e2, e6, b0, inj_take, inj_agg, inj_len, inj_one, inj_len, inj_one, hgx, Int.natCast_nonneg]
        refine acode_draw_chain te_ok mixed [] (by kernel_rfl) ?_
        have hq : (ix == ((j : Nat) : Int)) = false := neg_ne hix j
        have hq2 : decide (ix < 0) = true := decide_eq_true hix
        simp only [aws, eq_self, reduceIte, Nat.reduceAdd, Nat.reduceLT, Nat.reduceEqDiff, Int.reduceLE, Int.reduceToNat, acmpnil, teset, e1, e2, e6, b0, ne0, Int.natCast_nonneg, hgk, hq, hq2]
        by_cases hji : j = i
        · have hqk : (ks[j].toList == key.toList) = true := by rw [key_at hkey hjk hji]; exact beq_self_eq_true _
          simp only [aws, eq_self, reduceIte, Nat.reduceAdd, Nat.reduceLT, Nat.reduceLeDiff, Nat.reduceEqDiff, acmpnil, storeB, ares1, teset, e1, e2, e4, e5, e6, b0, b1, b2, Int.natCast_one, ne0, ne1, ne2, hnt, hk0, hk1, hqk]
          refine ⟨n' - 1, nlt1 hn' hj, j + 1, ok, ox, _, _, by rw [wrap_succ (jwrap hjm)], nadd hn' hj, Nat.le_trans (by decide) hnb, rfl, .inr ⟨g, g', rfl, rfl, rfl, rfl⟩, by rw [hoxe]; exact (erase_hit xs hj hji).symm, by rw [hoke]; exact (erase_hit ks hjk hji).symm⟩
      
        · have hqk : (ks[j].toList == key.toList) = false := ba_ne (fun e => hji (asc_inj ha (by rw [List.getElem?_eq_getElem hjk, e]) hkey))
          simp only [aws, eq_self, reduceIte, reduceCtorEq, Nat.reduceAdd, Nat.reduceLT, Nat.reduceLeDiff, Nat.reduceEqDiff, Nat.reduceMul, acmpnil, appBox, storeB, appendTo, teset, e2, e5, b0, b2, inj_take, inj_agg, inj_len, inj_one, List.length_map, range1, inj_len, inj_one, ne0, ne2, List.length_map, hk0, hbX, hqk]
          refine acode_draw_chain te_ok mixed [] (by kernel_rfl) ?_
          simp only [aws, eq_self, implies_true, imp_self, reduceIte, reduceCtorEq, Nat.reduceAdd, Nat.reduceLT, Nat.reduceLeDiff, Nat.reduceEqDiff, Nat.reduceMul, acmpnil, appBox, storeB, appendTo, teset, e1, e2, e4, e5, e6, b0, b1, b2, List.length_map, range1, ne0, ne1, ne2, setTok_boxf, List.length_map, hnt, hk0, hk1, hbK, Int.natCast_nonneg, hgk]
          refine ⟨n' - 1, nlt1 hn' hj, j + 1, ok ++ [ks[j]], ox ++ [xs[j]], _, _, by rw [wrap_succ (jwrap hjm)], nadd hn' hj, Nat.le_trans (by decide) hnb, rfl, .inr ⟨g + 1, g' + 1, by simp [hok], rfl, by simp [hok], rfl⟩, by rw [hoxe]; exact (erase_non xs hj hji).symm, by rw [hoke]; exact (erase_non ks hjk hji).symm⟩

set_option maxHeartbeats 40000000 in
theorem refwo_m4 (xs : List V) (ks : List ByteArray) (key : ByteArray) (i : Nat) (hi : i < xs.length) (hx6 : xs.length < 1000000) (m : Nat) (him : m = i) (hks : ks = []) (p : List Stp) (hp : p ≠ []) (o y : V) (ho : xs[i]? = some o) (hy : Pure Tryz.prog 48 [inj o, .sl .ro 2 (p.map injS)] (inj y)) : Pure Tryz.prog 48 [.agg [.int .i64 4, .int .i64 0, .str ⟨#[]⟩, .sl .ro 5 (xs.map inj), .sl .ro 1 (ks.map .str)], .sl .ro 2 (.agg [.int .i64 ((m : Nat) : Int), .str key] :: p.map injS)] (inj (.mk 4 0 ⟨#[]⟩ (xs.set i y) ([]))) := by
  refine Pure.of0 ⟨Tryz.f48, Tryz.func48, rfl, by kernel_rfl⟩ (by
    have h1 := injs_under xs
    have h2 := strs_under ks
    have h3 := injS_under p
    simp [AV.underL, AV.under, h1, h2, h3]) (inj_under _) ?_
  have hpl : 0 < p.length := List.length_pos_iff.2 hp
  have hl1 : (((p.length + 1 : Nat) : Int) == 1) = false := len_ne1 hpl
  have takep : List.take p.length (p.map injS) = p.map injS := List.take_of_length_le (Nat.le_of_eq (List.length_map ..))
  have hk5 : True := trivial
  have hk4 : True := trivial
  refine acalls_of te_ok [] Tryz.func48 (c := _) rfl (Nat.le_of_ble_eq_true rfl) ?_
  simp only [aws, eq_self, reduceIte, Nat.reduceAdd, Nat.reduceLT, Nat.reduceLeDiff, storeB, afill, teset, Tryz.ntmps48, Tryz.results48, boxR]
  refine ⟨fun n' s' h' => ∃ (j : Nat) (ok : List ByteArray) (ox : List V) (aK aX : AV), s' 1 = .sl .ro 2 (.agg [.int .i64 ((m : Nat) : Int), .str key] :: p.map injS) ∧ s' 2 = .ptr 0 0 ∧ s' 4 = .ptr 1 0 ∧ s' 5 = .ptr 2 0 ∧ s' 6 = .int .i64 j ∧ n' + j = xs.length ∧ 3 ≤ h'.nb ∧
    h'.box 0 = some [.int .i64 4, .int .i64 0, .str ⟨#[]⟩, .sl .ro 5 (xs.map inj), .sl .ro 1 (ks.map .str)] ∧ h'.box 1 = some [.int .i64 0, .int .i64 0, .str ⟨#[]⟩, .sl .full 0 [], .sl .full 0 []] ∧ h'.box 2 = some [.int .i64 4, .int .i64 0, .str ⟨#[]⟩, aX, aK] ∧
    ((ox = [] ∧ ok = [] ∧ aX = .sl .full 0 [] ∧ aK = .sl .full 0 [] ∧ h'.nt = 0) ∨ (∃ g g' : Nat, aX = .sl (.tok 0 g) 5 (ox.map inj) ∧ h'.tok 0 = some g ∧ aK = .sl .full 0 [] ∧ h'.nt = 1 ∧ ok = [] ∧ g' = g')) ∧ ox = (xs.take j).set i y ∧ ok = [], ⟨xs.length, 0, [], [], .sl .full 0 [], .sl .full 0 [], ?_⟩, ?_⟩
  · simp only [aws, eq_self, reduceIte, reduceCtorEq, Nat.reduceAdd, Nat.reduceEqDiff, Int.natCast_zero, List.set_nil, Nat.le_refl]
  · rintro n' s' h' ⟨j, ok, ox, aK, aX, e1, e2, e4, e5, e6, hn', hnb, b0, b1, b2, hown, hoxe, hoke⟩
    have hjm : j < 1000000 := jlt hn' hx6
    have ne0 : (0 = h'.nb) = False := eq_false (by omega)
    have ne1 : (1 = h'.nb) = False := eq_false (by omega)
    have ne2 : (2 = h'.nb) = False := eq_false (by omega)
    have ne0' : (h'.nb = 0) = False := eq_false (by omega)
    have ne1' : (h'.nb = 1) = False := eq_false (by omega)
    have ne2' : (h'.nb = 2) = False := eq_false (by omega)
    have hbX : (ox.length + 1) * 80 ≤ 140737488355328 := b80 (by rw [hoxe]; exact set_len xs i y j) hjm
    have hbK : True := trivial
    have hb1 : (0 + 1) * 16 ≤ 140737488355328 := by decide
    have hb3 : (0 + 1) * 80 ≤ 140737488355328 := by decide
    rcases hown with ⟨hox, hok, rfl, rfl, hnt⟩ | ⟨g, g', rfl, hk0, rfl, hnt, hok, _⟩
    · have hk0 : True := trivial
      have hk1 : True := trivial
      simp only [aws, eq_self, reduceIte, Nat.reduceLT, Nat.reduceEqDiff, acmpnil, teset, e2, e6, b0, List.length_map, List.length_map]
      cases hc : decide ((j : Int) < (xs.length : Int)) with
      | false =>
        have hjl : xs.length ≤ j := nlt (by simpa only [decide_eq_false_iff_not] using hc)
        have htx : xs.take j = xs := List.take_of_length_le hjl
      
        rw [htx] at hoxe
      
        simp only [aws, eq_self, reduceIte, Nat.reduceAdd, Nat.reduceLT, Nat.reduceLeDiff, Nat.reduceEqDiff, storeB, ares1, teset, e4, e5, b1, b2]
        rw [← hoxe, inj_mk]
        refine ⟨_, rfl, To0.wk (WkAll.cons (.refl _) (.cons (.refl _) (.cons (.refl _) (.cons ?_ (.cons ?_ .nil))))).agg⟩
        · rw [hox]; exact wk_nil5
        · exact wk_nil1
      | true =>
        simp only [decide_eq_true_eq] at hc
        have hj : j < xs.length := Int.ofNat_lt.1 hc
      
        have hgx : (xs.map inj)[((j : Nat) : Int).toNat]? = some (inj xs[j]) := by rw [Int.toNat_natCast, List.getElem?_map, List.getElem?_eq_getElem hj]; rfl
      
        simp only [aws, eq_self, reduceIte, Nat.reduceAdd, Nat.reduceLT, Nat.reduceLeDiff, Nat.reduceEqDiff, storeB, teset, e2, e6, b0, inj_take, inj_agg, inj_len, inj_one, inj_len, inj_one, hgx, Int.natCast_nonneg]
        refine acode_draw_chain te_ok mixed [] (by kernel_rfl) ?_
        by_cases hji : j = i
        · have hq : (((m : Nat) : Int) == ((j : Nat) : Int)) = true := by rw [him, hji]; exact beq_self_eq_true _
          simp only [aws, eq_self, reduceIte, Nat.reduceAdd, Nat.reduceLT, Nat.reduceEqDiff, Int.reduceLE, Int.reduceToNat, acmpnil, teset, e1, e6, List.length_map, List.length_map, hq]
          simp only [aws, hl1]
          refine acode_draw_chain te_ok mixed [] (by kernel_rfl) ?_
          simp only [aws, eq_self, reduceIte, reduceCtorEq, Nat.reduceAdd, Nat.reduceLT, Nat.reduceLeDiff, Nat.reduceEqDiff, Int.reduceLE, Int.reduceToNat, storeB, teset, e1, e5, inj_take, inj_agg, inj_len, List.length_map, inj_len, List.length_map, Nat.add_sub_cancel, takep, Nat.le_refl]
          refine skR_pure (by rw [el_at ho hj hji]; exact hy) ?_
          simp only [aws, eq_self, reduceIte, reduceCtorEq, Nat.reduceAdd, Nat.reduceLT, Nat.reduceLeDiff, Nat.reduceEqDiff, Nat.reduceMul, Int.reduceBEq, acmpnil, appBox, storeB, appendTo, teset, e1, e2, e4, e5, e6, b0, b1, b2, inj_take, inj_drop, inj_agg, inj_len, inj_one, range1, inj_len, inj_one, ne0, ne1, ne2, ne0', ne1', hnt, hb3]
          refine .inl ?_
          refine ⟨n' - 1, nlt1 hn' hj, j + 1, ok, ox ++ [y], _, _, by rw [wrap_succ (jwrap hjm)], nadd hn' hj, Nat.le_trans (by decide) hnb, rfl, .inr ⟨0, 0, by simp [hox], rfl, rfl, hok⟩, by rw [hoxe]; exact (set_hit xs y hj hji).symm, hok⟩
      
        · have hq : (((m : Nat) : Int) == ((j : Nat) : Int)) = false := ne_int (by rw [him]; exact fun h => hji h.symm)
          have hq2 : decide (((m : Nat) : Int) < 0) = false := nneg m
          simp only [aws, eq_self, reduceIte, reduceCtorEq, Nat.reduceAdd, Nat.reduceLT, Nat.reduceLeDiff, Nat.reduceEqDiff, Nat.reduceMul, Int.reduceBEq, Int.reduceLE, Int.reduceToNat, acmpnil, appBox, storeB, appendTo, teset, e1, e2, e4, e5, e6, b0, b1, b2, inj_take, inj_agg, inj_len, inj_one, range1, inj_len, inj_one, ne0, ne1, ne2, ne0', ne1', hnt, hb3, hq, hq2]
          refine .inl ?_
          refine ⟨n' - 1, nlt1 hn' hj, j + 1, ok, ox ++ [xs[j]], _, _, by rw [wrap_succ (jwrap hjm)], nadd hn' hj, Nat.le_trans (by decide) hnb, rfl, .inr ⟨0, 0, by simp [hox], rfl, rfl, hok⟩, by rw [hoxe]; exact (set_non xs y hj hji).symm, hok⟩
    · have hox : True := trivial
      have hk1 : True := trivial
      simp only [aws, eq_self, reduceIte, Nat.reduceLT, Nat.reduceEqDiff, acmpnil, teset, e2, e6, b0, List.length_map, List.length_map]
      cases hc : decide ((j : Int) < (xs.length : Int)) with
      | false =>
        have hjl : xs.length ≤ j := nlt (by simpa only [decide_eq_false_iff_not] using hc)
        have htx : xs.take j = xs := List.take_of_length_le hjl
      
        rw [htx] at hoxe
      
        simp only [aws, eq_self, reduceIte, Nat.reduceAdd, Nat.reduceLT, Nat.reduceLeDiff, Nat.reduceEqDiff, storeB, ares1, teset, e4, e5, b1, b2]
        rw [← hoxe, inj_mk]
        refine ⟨_, rfl, To0.wk (WkAll.cons (.refl _) (.cons (.refl _) (.cons (.refl _) (.cons ?_ (.cons ?_ .nil))))).agg⟩
        · exact .ro
        · exact wk_nil1
      | true =>
        simp only [decide_eq_true_eq] at hc
        have hj : j < xs.length := Int.ofNat_lt.1 hc
      
        have hgx : (xs.map inj)[((j : Nat) : Int).toNat]? = some (inj xs[j]) := by rw [Int.toNat_natCast, List.getElem?_map, List.getElem?_eq_getElem hj]; rfl
      
        simp only [aws, eq_self, reduceIte, Nat.reduceAdd, Nat.reduceLT, Nat.reduceLeDiff, Nat.reduceEqDiff, storeB, teset, e2, e6, b0, inj_take, inj_agg, inj_len, inj_one, inj_len, inj_one, hgx, Int.natCast_nonneg]
        refine acode_draw_chain te_ok mixed [] (by kernel_rfl) ?_
        by_cases hji : j = i
        · have hq : (((m : Nat) : Int) == ((j : Nat) : Int)) = true := by rw [him, hji]; exact beq_self_eq_true _
          simp only [aws, eq_self, reduceIte, Nat.reduceAdd, Nat.reduceLT, Nat.reduceEqDiff, Int.reduceLE, Int.reduceToNat, acmpnil, teset, e1, e6, List.length_map, List.length_map, hq]
          simp only [aws, hl1]
          refine acode_draw_chain te_ok mixed [] (by kernel_rfl) ?_
          simp only [aws, eq_self, reduceIte, reduceCtorEq, Nat.reduceAdd, Nat.reduceLT, Nat.reduceLeDiff, Nat.reduceEqDiff, Int.reduceLE, Int.reduceToNat, storeB, teset, e1, e5, inj_take, inj_agg, inj_len, List.length_map, inj_len, List.length_map, Nat.add_sub_cancel, takep, Nat.le_refl]
          refine skR_pure (by rw [el_at ho hj hji]; exact hy) ?_
          simp only [aws, eq_self, reduceIte, reduceCtorEq, Nat.reduceAdd, Nat.reduceLT, Nat.reduceLeDiff, Nat.reduceEqDiff, Nat.reduceMul, Int.reduceBEq, acmpnil, appBox, storeB, appendTo, teset, e1, e2, e4, e5, e6, b0, b1, b2, inj_take, inj_drop, inj_agg, inj_len, inj_one, List.length_map, range1, inj_len, inj_one, ne0, ne1, ne2, List.length_map, hnt, hk0, hbX]
          refine ⟨n' - 1, nlt1 hn' hj, j + 1, ok, ox ++ [y], _, _, by rw [wrap_succ (jwrap hjm)], nadd hn' hj, Nat.le_trans (by decide) hnb, rfl, .inr ⟨g + 1, 0, by simp [hok], rfl, rfl, hok⟩, by rw [hoxe]; exact (set_hit xs y hj hji).symm, hok⟩
      
        · have hq : (((m : Nat) : Int) == ((j : Nat) : Int)) = false := ne_int (by rw [him]; exact fun h => hji h.symm)
          have hq2 : decide (((m : Nat) : Int) < 0) = false := nneg m
          simp only [aws, eq_self, reduceIte, reduceCtorEq, Nat.reduceAdd, Nat.reduceLT, Nat.reduceLeDiff, Nat.reduceEqDiff, Nat.reduceMul, Int.reduceBEq, Int.reduceLE, Int.reduceToNat, acmpnil, appBox, storeB, appendTo, teset, e1, e2, e4, e5, e6, b0, b1, b2, inj_take, inj_agg, inj_len, inj_one, List.length_map, range1, inj_len, inj_one, ne0, ne1, ne2, List.length_map, hnt, hk0, hbX, hq, hq2]
          refine ⟨n' - 1, nlt1 hn' hj, j + 1, ok, ox ++ [xs[j]], _, _, by rw [wrap_succ (jwrap hjm)], nadd hn' hj, Nat.le_trans (by decide) hnb, rfl, .inr ⟨g + 1, 0, by simp [hok], rfl, rfl, hok⟩, by rw [hoxe]; exact (set_non xs y hj hji).symm, hok⟩

set_option maxHeartbeats 40000000 in
theorem refwo_m5 (xs : List V) (ks : List ByteArray) (key : ByteArray) (i : Nat) (hi : i < xs.length) (hx6 : xs.length < 1000000) (ix : Int) (hix : ix < 0) (hkl : ks.length = xs.length) (ha : Asc ks) (hkey : ks[i]? = some key) (p : List Stp) (hp : p ≠ []) (o y : V) (ho : xs[i]? = some o) (hy : Pure Tryz.prog 48 [inj o, .sl .ro 2 (p.map injS)] (inj y)) : Pure Tryz.prog 48 [.agg [.int .i64 5, .int .i64 0, .str ⟨#[]⟩, .sl .ro 5 (xs.map inj), .sl .ro 1 (ks.map .str)], .sl .ro 2 (.agg [.int .i64 ix, .str key] :: p.map injS)] (inj (.mk 5 0 ⟨#[]⟩ (xs.set i y) (ks))) := by
  refine Pure.of0 ⟨Tryz.f48, Tryz.func48, rfl, by kernel_rfl⟩ (by
    have h1 := injs_under xs
    have h2 := strs_under ks
    have h3 := injS_under p
    simp [AV.underL, AV.under, h1, h2, h3]) (inj_under _) ?_
  have hpl : 0 < p.length := List.length_pos_iff.2 hp
  have hl1 : (((p.length + 1 : Nat) : Int) == 1) = false := len_ne1 hpl
  have takep : List.take p.length (p.map injS) = p.map injS := List.take_of_length_le (Nat.le_of_eq (List.length_map ..))
  have hk5 : True := trivial
  have hk4 : True := trivial
  refine acalls_of te_ok [] Tryz.func48 (c := _) rfl (Nat.le_of_ble_eq_true rfl) ?_
  simp only [aws, eq_self, reduceIte, Nat.reduceAdd, Nat.reduceLT, Nat.reduceLeDiff, storeB, afill, teset, Tryz.ntmps48, Tryz.results48, boxR]
  refine ⟨fun n' s' h' => ∃ (j : Nat) (ok : List ByteArray) (ox : List V) (aK aX : AV), s' 1 = .sl .ro 2 (.agg [.int .i64 ix, .str key] :: p.map injS) ∧ s' 2 = .ptr 0 0 ∧ s' 4 = .ptr 1 0 ∧ s' 5 = .ptr 2 0 ∧ s' 6 = .int .i64 j ∧ n' + j = xs.length ∧ 3 ≤ h'.nb ∧
    h'.box 0 = some [.int .i64 5, .int .i64 0, .str ⟨#[]⟩, .sl .ro 5 (xs.map inj), .sl .ro 1 (ks.map .str)] ∧ h'.box 1 = some [.int .i64 0, .int .i64 0, .str ⟨#[]⟩, .sl .full 0 [], .sl .full 0 []] ∧ h'.box 2 = some [.int .i64 5, .int .i64 0, .str ⟨#[]⟩, aX, aK] ∧
    ((ox = [] ∧ ok = [] ∧ aX = .sl .full 0 [] ∧ aK = .sl .full 0 [] ∧ h'.nt = 0) ∨ (∃ g g' : Nat, aX = .sl (.tok 0 g) 5 (ox.map inj) ∧ h'.tok 0 = some g ∧ aK = .sl (.tok 1 g') 1 (ok.map .str) ∧ h'.tok 1 = some g' ∧ h'.nt = 2)) ∧ ox = (xs.take j).set i y ∧ ok = ks.take j, ⟨xs.length, 0, [], [], .sl .full 0 [], .sl .full 0 [], ?_⟩, ?_⟩
  · simp only [aws, eq_self, reduceIte, reduceCtorEq, Nat.reduceAdd, Nat.reduceEqDiff, Int.natCast_zero, List.set_nil, Nat.le_refl]
  · rintro n' s' h' ⟨j, ok, ox, aK, aX, e1, e2, e4, e5, e6, hn', hnb, b0, b1, b2, hown, hoxe, hoke⟩
    have hjm : j < 1000000 := jlt hn' hx6
    have ne0 : (0 = h'.nb) = False := eq_false (by omega)
    have ne1 : (1 = h'.nb) = False := eq_false (by omega)
    have ne2 : (2 = h'.nb) = False := eq_false (by omega)
    have ne0' : (h'.nb = 0) = False := eq_false (by omega)
    have ne1' : (h'.nb = 1) = False := eq_false (by omega)
    have ne2' : (h'.nb = 2) = False := eq_false (by omega)
    have hbX : (ox.length + 1) * 80 ≤ 140737488355328 := b80 (by rw [hoxe]; exact set_len xs i y j) hjm
    have hbK : (ok.length + 1) * 16 ≤ 140737488355328 := b16 (by rw [hoke]; exact take_len1 ks j) hjm
    have hb1 : (0 + 1) * 16 ≤ 140737488355328 := by decide
    have hb3 : (0 + 1) * 80 ≤ 140737488355328 := by decide
    rcases hown with ⟨hox, hok, rfl, rfl, hnt⟩ | ⟨g, g', rfl, hk0, rfl, hk1, hnt⟩
    · have hk0 : True := trivial
      have hk1 : True := trivial
      simp only [aws, eq_self, reduceIte, Nat.reduceLT, Nat.reduceEqDiff, acmpnil, teset, e2, e6, b0, List.length_map, List.length_map]
      cases hc : decide ((j : Int) < (xs.length : Int)) with
      | false =>
        have hjl : xs.length ≤ j := nlt (by simpa only [decide_eq_false_iff_not] using hc)
        have htx : xs.take j = xs := List.take_of_length_le hjl
        have htk : ks.take j = ks := List.take_of_length_le (hkl ▸ hjl)
        rw [htx] at hoxe
        rw [htk] at hoke
        simp only [aws, eq_self, reduceIte, Nat.reduceAdd, Nat.reduceLT, Nat.reduceLeDiff, Nat.reduceEqDiff, storeB, ares1, teset, e4, e5, b1, b2]
        rw [← hoxe, ← hoke, inj_mk]
        refine ⟨_, rfl, To0.wk (WkAll.cons (.refl _) (.cons (.refl _) (.cons (.refl _) (.cons ?_ (.cons ?_ .nil))))).agg⟩
        · rw [hox]; exact wk_nil5
        · rw [hok]; exact wk_nil1
      | true =>
        simp only [decide_eq_true_eq] at hc
        have hj : j < xs.length := Int.ofNat_lt.1 hc
        have hjk : j < ks.length := hkl ▸ hj
        have hgx : (xs.map inj)[((j : Nat) : Int).toNat]? = some (inj xs[j]) := by rw [Int.toNat_natCast, List.getElem?_map, List.getElem?_eq_getElem hj]; rfl
        have hgk : (ks.map AV.str)[((j : Nat) : Int).toNat]? = some (.str ks[j]) := by rw [Int.toNat_natCast, List.getElem?_map, List.getElem?_eq_getElem hjk]; rfl
        simp only [aws, eq_self, reduceIte, Nat.reduceAdd, Nat.reduceLT, Nat.reduceLeDiff, Nat.reduceEqDiff, storeB, teset, e2, e6, b0, inj_take, inj_agg, inj_len, inj_one, inj_len, inj_one, hgx, Int.natCast_nonneg]
        refine acode_draw_chain te_ok mixed [] (by kernel_rfl) ?_
        have hq : (ix == ((j : Nat) : Int)) = false := neg_ne hix j
        have hq2 : decide (ix < 0) = true := decide_eq_true hix
        simp only [aws, eq_self, reduceIte, Nat.reduceAdd, Nat.reduceLT, Nat.reduceEqDiff, Int.reduceLE, Int.reduceToNat, acmpnil, teset, e1, e2, e6, b0, ne0, Int.natCast_nonneg, hgk, hq, hq2]
        by_cases hji : j = i
        · have hqk : (ks[j].toList == key.toList) = true := by rw [key_at hkey hjk hji]; exact beq_self_eq_true _
          simp only [aws, eq_self, reduceIte, Nat.reduceLT, Nat.reduceEqDiff, acmpnil, teset, e1, List.length_map, List.length_map, hqk]
          simp only [aws, hl1]
          refine acode_draw_chain te_ok mixed [] (by kernel_rfl) ?_
          simp only [aws, eq_self, reduceIte, reduceCtorEq, Nat.reduceAdd, Nat.reduceLT, Nat.reduceLeDiff, Nat.reduceEqDiff, Int.reduceLE, Int.reduceToNat, storeB, teset, e1, e5, inj_take, inj_agg, inj_len, List.length_map, inj_len, List.length_map, Nat.add_sub_cancel, takep, Nat.le_refl]
          refine skR_pure (by rw [el_at ho hj hji]; exact hy) ?_
          simp only [aws, eq_self, reduceIte, reduceCtorEq, Nat.reduceAdd, Nat.reduceLT, Nat.reduceLeDiff, Nat.reduceEqDiff, Nat.reduceMul, acmpnil, appBox, storeB, appendTo, teset, e2, e5, b0, b2, inj_take, inj_drop, inj_agg, inj_len, inj_one, range1, inj_len, inj_one, ne0, ne2, ne1', hnt, hb3]
          refine .inl ?_
          refine acode_draw_chain te_ok mixed [] (by kernel_rfl) ?_
          simp only [aws, eq_self, implies_true, imp_self, reduceIte, reduceCtorEq, Nat.reduceAdd, Nat.reduceLT, Nat.reduceLeDiff, Nat.reduceEqDiff, Nat.reduceMul, acmpnil, appBox, storeB, appendTo, teset, e1, e2, e4, e5, e6, b0, b1, b2, range1, ne0, ne1, ne2, newTok_boxf, skR_app1, hnt, hb1, Int.natCast_nonneg, hgk]
          refine ⟨n' - 1, nlt1 hn' hj, j + 1, ok ++ [ks[j]], ox ++ [y], _, _, by rw [wrap_succ (jwrap hjm)], nadd hn' hj, Nat.le_trans (by decide) hnb, rfl, .inr ⟨0, 0, by simp [hox], rfl, by simp [hok], rfl⟩, by rw [hoxe]; exact (set_hit xs y hj hji).symm, by rw [hoke]; exact (take_step ks hjk).symm⟩
      
        · have hqk : (ks[j].toList == key.toList) = false := ba_ne (fun e => hji (asc_inj ha (by rw [List.getElem?_eq_getElem hjk, e]) hkey))
          simp only [aws, eq_self, reduceIte, reduceCtorEq, Nat.reduceAdd, Nat.reduceLT, Nat.reduceLeDiff, Nat.reduceEqDiff, Nat.reduceMul, acmpnil, appBox, storeB, appendTo, teset, e2, e5, b0, b2, inj_take, inj_agg, inj_len, inj_one, range1, inj_len, inj_one, ne0, ne2, ne1', hnt, hb3, hqk]
          refine .inl ?_
          refine acode_draw_chain te_ok mixed [] (by kernel_rfl) ?_
          simp only [aws, eq_self, implies_true, imp_self, reduceIte, reduceCtorEq, Nat.reduceAdd, Nat.reduceLT, Nat.reduceLeDiff, Nat.reduceEqDiff, Nat.reduceMul, acmpnil, appBox, storeB, appendTo, teset, e1, e2, e4, e5, e6, b0, b1, b2, range1, ne0, ne1, ne2, newTok_boxf, skR_app1, hnt, hb1, Int.natCast_nonneg, hgk]
          refine ⟨n' - 1, nlt1 hn' hj, j + 1, ok ++ [ks[j]], ox ++ [xs[j]], _, _, by rw [wrap_succ (jwrap hjm)], nadd hn' hj, Nat.le_trans (by decide) hnb, rfl, .inr ⟨0, 0, by simp [hox], rfl, by simp [hok], rfl⟩, by rw [hoxe]; exact (set_non xs y hj hji).symm, by rw [hoke]; exact (take_step ks hjk).symm⟩
    · have hox : True := trivial
      have hok : True := trivial
      simp only [aws, eq_self, reduceIte, Nat.reduceLT, Nat.reduceEqDiff, acmpnil, teset, e2, e6, b0, List.length_map, List.length_map]
      cases hc : decide ((j : Int) < (xs.length : Int)) with
      | false =>
        have hjl : xs.length ≤ j := nlt (by simpa only [decide_eq_false_iff_not] using hc)
        have htx : xs.take j = xs := List.take_of_length_le hjl
        have htk : ks.take j = ks := List.take_of_length_le (hkl ▸ hjl)
        rw [htx] at hoxe
        rw [htk] at hoke
        simp only [aws, eq_self, reduceIte, Nat.reduceAdd, Nat.reduceLT, Nat.reduceLeDiff, Nat.reduceEqDiff, storeB, ares1, teset, e4, e5, b1, b2]
        rw [← hoxe, ← hoke, inj_mk]
        refine ⟨_, rfl, To0.wk (WkAll.cons (.refl _) (.cons (.refl _) (.cons (.refl _) (.cons ?_ (.cons ?_ .nil))))).agg⟩
        · exact .ro
        · exact .ro
      | true =>
        simp only [decide_eq_true_eq] at hc
        have hj : j < xs.length := Int.ofNat_lt.1 hc
        have hjk : j < ks.length := hkl ▸ hj
        have hgx : (xs.map inj)[((j : Nat) : Int).toNat]? = some (inj xs[j]) := by rw [Int.toNat_natCast, List.getElem?_map, List.getElem?_eq_getElem hj]; rfl
        have hgk : (ks.map AV.str)[((j : Nat) : Int).toNat]? = some (.str ks[j]) := by rw [Int.toNat_natCast, List.getElem?_map, List.getElem?_eq_getElem hjk]; rfl
        simp only [aws, eq_self, reduceIte, Nat.reduceAdd, Nat.reduceLT, Nat.reduceLeDiff, Nat.reduceEqDiff, storeB, teset, e2, e6, b0, inj_take, inj_agg, inj_len, inj_one, inj_len, inj_one, hgx, Int.natCast_nonneg]
        refine acode_draw_chain te_ok mixed [] (by kernel_rfl) ?_
        have hq : (ix == ((j : Nat) : Int)) = false := neg_ne hix j
        have hq2 : decide (ix < 0) = true := decide_eq_true hix
        simp only [aws, eq_self, reduceIte, Nat.reduceAdd, Nat.reduceLT, Nat.reduceEqDiff, Int.reduceLE, Int.reduceToNat, acmpnil, teset, e1, e2, e6, b0, ne0, Int.natCast_nonneg, hgk, hq, hq2]
        by_cases hji : j = i
        · have hqk : (ks[j].toList == key.toList) = true := by rw [key_at hkey hjk hji]; exact beq_self_eq_true _
          simp only [aws, eq_self, reduceIte, Nat.reduceLT, Nat.reduceEqDiff, acmpnil, teset, e1, List.length_map, List.length_map, hqk]
          simp only [aws, hl1]
          refine acode_draw_chain te_ok mixed [] (by kernel_rfl) ?_
          simp only [aws, eq_self, reduceIte, reduceCtorEq, Nat.reduceAdd, Nat.reduceLT, Nat.reduceLeDiff, Nat.reduceEqDiff, Int.reduceLE, Int.reduceToNat, storeB, teset, e1, e5, inj_take, inj_agg, inj_len, List.length_map, inj_len, List.length_map, Nat.add_sub_cancel, takep, Nat.le_refl]
          refine skR_pure (by rw [el_at ho hj hji]; exact hy) ?_
          simp only [aws, eq_self, reduceIte, reduceCtorEq, Nat.reduceAdd, Nat.reduceLT, Nat.reduceLeDiff, Nat.reduceEqDiff, Nat.reduceMul, acmpnil, appBox, storeB, appendTo, teset, e2, e5, b0, b2, inj_take, inj_drop, inj_agg, inj_len, inj_one, List.length_map, range1, inj_len, inj_one, ne0, ne2, List.length_map, hk0, hbX]
          refine acode_draw_chain te_ok mixed [] (by kernel_rfl) ?_
          simp only [aws, eq_self, implies_true, imp_self, reduceIte, reduceCtorEq, Nat.reduceAdd, Nat.reduceLT, Nat.reduceLeDiff, Nat.reduceEqDiff, Nat.reduceMul, acmpnil, appBox, storeB, appendTo, teset, e1, e2, e4, e5, e6, b0, b1, b2, List.length_map, range1, ne0, ne1, ne2, setTok_boxf, List.length_map, hnt, hk0, hk1, hbK, Int.natCast_nonneg, hgk]
          refine ⟨n' - 1, nlt1 hn' hj, j + 1, ok ++ [ks[j]], ox ++ [y], _, _, by rw [wrap_succ (jwrap hjm)], nadd hn' hj, Nat.le_trans (by decide) hnb, rfl, .inr ⟨g + 1, g' + 1, by simp [hok], rfl, by simp [hok], rfl⟩, by rw [hoxe]; exact (set_hit xs y hj hji).symm, by rw [hoke]; exact (take_step ks hjk).symm⟩
      
        · have hqk : (ks[j].toList == key.toList) = false := ba_ne (fun e => hji (asc_inj ha (by rw [List.getElem?_eq_getElem hjk, e]) hkey))
          simp only [aws, eq_self, reduceIte, reduceCtorEq, Nat.reduceAdd, Nat.reduceLT, Nat.reduceLeDiff, Nat.reduceEqDiff, Nat.reduceMul, acmpnil, appBox, storeB, appendTo, teset, e2, e5, b0, b2, inj_take, inj_agg, inj_len, inj_one, List.length_map, range1, inj_len, inj_one, ne0, ne2, List.length_map, hk0, hbX, hqk]
          refine acode_draw_chain te_ok mixed [] (by kernel_rfl) ?_
          simp only [aws, eq_self, implies_true, imp_self, reduceIte, reduceCtorEq, Nat.reduceAdd, Nat.reduceLT, Nat.reduceLeDiff, Nat.reduceEqDiff, Nat.reduceMul, acmpnil, appBox, storeB, appendTo, teset, e1, e2, e4, e5, e6, b0, b1, b2, List.length_map, range1, ne0, ne1, ne2, setTok_boxf, List.length_map, hnt, hk0, hk1, hbK, Int.natCast_nonneg, hgk]
          refine ⟨n' - 1, nlt1 hn' hj, j + 1, ok ++ [ks[j]], ox ++ [xs[j]], _, _, by rw [wrap_succ (jwrap hjm)], nadd hn' hj, Nat.le_trans (by decide) hnb, rfl, .inr ⟨g + 1, g' + 1, by simp [hok], rfl, by simp [hok], rfl⟩, by rw [hoxe]; exact (set_non xs y hj hji).symm, by rw [hoke]; exact (take_step ks hjk).symm⟩

end Go.Proofs.YtjdocenbfghglaaGreatDoor.AW
end
section
set_option linter.unusedSimpArgs false
set_option linter.unusedVariables false
namespace Go.Proofs.YtjdocenbfghglaaGreatDoor.AW
open Go Go.RowKit

theorem with_set (xs : List V) {i : Nat} (h : i < xs.length) (y : V) : xs.take i ++ y :: xs.drop (min (i + 1) xs.length) = xs.set i y := by
  rw [Nat.min_eq_left (by omega), List.set_eq_take_append_cons_drop, if_pos h]
theorem refwo_pure : ∀ (p : List Stp) (v o : V), Wok v → p ≠ [] → atS v p = some o → p.length < 1000000 → Pure Tryz.prog 48 [inj v, .sl .ro 2 (p.map injS)] (inj (withoutP p v)) := by
  intro p
  induction p with
  | nil => intro v o _ h; exact absurd rfl h
  | cons s p ih =>
    intro v o hv _ ho hl
    simp only [List.length_cons] at hl
    simp only [atS] at ho
    cases ht : itemS v s with
    | none => rw [ht] at ho; cases ho
    | some o1 =>
    rw [ht] at ho
    obtain ⟨i, hi1, hi2, hi3⟩ := itemP_nat hv ht
    have hlt := (List.getElem?_eq_some_iff.1 hi2).1
    have hx6 : v.items.length < 1000000 := by have := hv.shape.2; omega
    have hvo : Wok o1 := hv.items o1 (itemS_mem ht)
    have hspec1 : p = [] → withoutP (s :: p) v = delV v i := by rintro rfl; simp only [withoutP, hi1, Int.toNat_natCast]
    have hspec2 : p ≠ [] → withoutP (s :: p) v = withV v i (withoutP p o1) := by
      intro hp
      obtain ⟨t, p', rfl⟩ := List.exists_cons_of_ne_nil hp
      simp only [withoutP, hi1, Int.toNat_natCast]
      rw [List.getD_eq_getElem?_getD, hi2]; rfl
    have hk : (s.index < 0 ∧ v.kind = 5) ∨ (0 ≤ s.index ∧ v.kind = 4) := by
      by_cases h1 : s.index < 0 ∧ v.kind = 5
      · exact .inl h1
      · by_cases h2 : 0 ≤ s.index ∧ v.kind = 4
        · exact .inr h2
        · rw [itemS_no h1 h2] at ht; cases ht
    obtain ⟨ix, key⟩ := s
    obtain ⟨k, n, t, xs, ks⟩ := v
    rcases hk with ⟨h0, h5⟩ | ⟨h0, h4⟩
    · obtain ⟨q1, q2, q3, q4⟩ := shape5 hv h5
      have hkey : ks[i]? = some key := by
        rw [itemP_5 h0 h5] at hi1
        injection hi1 with e1 e2
        have : lb ks key = i := Int.ofNat.inj e1
        rw [← this]; exact found_at e2
      simp only [V.kind, V.int, V.text, V.items, V.keys] at h5 q1 q2 q3 q4 hi2 hlt hx6 h0
      subst h5 q1 q2
      rw [inj_mk]
      by_cases hp : p = []
      · rw [hspec1 hp]
        subst hp
        exact refwo_s5 xs ks key i hlt hx6 ix h0 q3 q4 hkey
      · rw [hspec2 hp]
        have := refwo_m5 xs ks key i hlt hx6 ix h0 q3 q4 hkey p hp o1 (withoutP p o1) hi2 (ih o1 o hvo hp ho (by omega))
        rw [← with_set xs hlt] at this
        exact this
    · obtain ⟨q1, q2, q3⟩ := shape4 hv h4
      have hix : ix = (i : Int) := by
        rw [itemP_4 h0 h4] at hi1
        injection hi1
      simp only [V.kind, V.int, V.text, V.items, V.keys] at h4 q1 q2 q3 hi2 hlt hx6 h0
      subst h4 q1 q2 q3 hix
      rw [inj_mk]
      by_cases hp : p = []
      · rw [hspec1 hp]
        subst hp
        exact refwo_s4 xs [] key i hlt hx6 i rfl rfl
      · rw [hspec2 hp]
        have := refwo_m4 xs [] key i hlt hx6 i rfl rfl p hp o1 (withoutP p o1) hi2 (ih o1 o hvo hp ho (by omega))
        rw [← with_set xs hlt] at this
        exact this
end Go.Proofs.YtjdocenbfghglaaGreatDoor.AW
end
section
set_option linter.unusedSimpArgs false
set_option linter.unusedVariables false
namespace Go.Proofs.YtjdocenbfghglaaGreatDoor.AW
open Go Go.RowKit

theorem refstep_pure (i : Int) (t : ByteArray) (xs : List V) (ks : List ByteArray) (j : Nat) (hj : j < ks.length) : Pure Tryz.prog 97 [inj (.mk 5 i t xs ks), .int .i64 (j : Int)] (.agg [.int .i64 (-1), .str ks[j]]) := by
  have hget : (ks.map AV.str)[((j : Nat) : Int).toNat]? = some (.str ks[j]) := by simp [hj]
  rw [inj_mk]
  refine Pure.ofW ⟨Tryz.f97, Tryz.func97, rfl, by kernel_rfl⟩ rfl (fun h hsc => ?_)
  refine acalls_of te_ok [] Tryz.func97 (c := _) rfl (Nat.le_of_ble_eq_true rfl) ?_
  simp only [aws, eq_self, reduceIte, Nat.reduceAdd, Nat.reduceLT, Nat.reduceLeDiff, Nat.reduceEqDiff, Int.reduceNeg, acmpnil, storeB, ares1, afill, teset, Tryz.ntmps97, Tryz.results97, boxR, hget, Int.natCast_nonneg]
  exact ⟨by (repeat (first | exact AH.Ext.refl _ | assumption | refine AH.Ext.set ?_ (by first | omega | (simp only [new_nb, set_nb, kill_nb, newTok_nb, setTok_nb]; omega)) _ | refine AH.Ext.new ?_ _)), _, rfl, .refl _⟩
theorem refitem1_pure {v : V} (h : OK5 v) (hw : Wok v) (k : ByteArray) : Pure Tryz.prog 91 [inj v, .agg [.int .i64 (-1), .str k]] (.tup [inj ((lk v.keys v.items k).getD zeroV), .bool (foundS v.keys k)]) := by
  have := refitem_pure hw (keyS k)
  rw [outV_getD, item_found5 h, itemS_lk h.1] at this
  exact this
theorem refwith1_pure {v : V} (h : OK5 v) (hw : Wok v) (k : ByteArray) (y : V) : Pure Tryz.prog 100 [inj v, .str k, inj y] (inj (setK v k y)) := by
  have := with_pure0 v k y h.2.2.2.1 (by have := hw.keys.2; omega)
  rw [refWith_ok hw h.1] at this
  exact this
theorem refwithout1_pure {v : V} (h : OK5 v) (hw : Wok v) (k : ByteArray) (hf : foundS v.keys k = true) : Pure Tryz.prog 48 [inj v, .sl .ro 2 [.agg [.int .i64 (-1), .str k]]] (inj (delV v (lb v.keys k))) := by
  have hs := item_found5 h k
  rw [hf] at hs
  obtain ⟨o, ho⟩ := Option.isSome_iff_exists.1 hs
  have := refwo_pure [keyS k] v o hw (by simp) (by rw [at_one h, ← itemS_lk h.1, ho]) (by simp)
  rw [without_one h.1] at this
  exact this
set_option maxHeartbeats 8000000 in
theorem refmerge_pure : ∀ (b a : V), Vok a → Vok b → Pure Tryz.prog 66 [inj a, inj b] (inj (mergeV a b)) := by
  intro b
  induction b using V.ind with
  | h k i t xs ks ih =>
    intro a ha hb
    have hmw := merge_wok (.mk k i t xs ks) a ha hb
    have hst := MI.start (n := xs.length) ha (show xs.length ≤ 60 from hb.shape.2) ks
    have hbw := hb.w
    obtain ⟨ak, ai, at_, ax, as_⟩ := a
    rw [inj_mk, inj_mk]
    refine Pure.ofW ⟨Tryz.f66, Tryz.func66, rfl, by kernel_rfl⟩ (inj_under _) (fun h hsc => ?_)
    refine acalls_of te_ok [] Tryz.func66 (c := _) rfl (Nat.le_of_ble_eq_true rfl) ?_
    simp only [aws, eq_self, reduceIte, Nat.reduceLT, Nat.reduceEqDiff, acmpnil, teset, Tryz.ntmps66, Tryz.results66, boxR]
    cases hk : (k != 5) with
    | true =>
      have hk5 : k ≠ 5 := by simpa using hk
      simp only [aws, eq_self, reduceIte, Nat.reduceAdd, Nat.reduceLT, Nat.reduceLeDiff, Nat.reduceEqDiff, storeB, ares1, teset]
      refine ⟨by (repeat (first | exact AH.Ext.refl _ | assumption | refine AH.Ext.set ?_ (by first | omega | (simp only [new_nb, set_nb, kill_nb, newTok_nb, setTok_nb]; omega)) _ | refine AH.Ext.new ?_ _)), _, rfl, ?_⟩
      rw [mergeV, if_neg hk5, inj_mk]
      exact .refl _
    | false =>
      have hk5 : k = 5 := by simpa using hk
      subst hk5
      obtain ⟨_, b2, b3, b4, b5, b6⟩ := hbw.ok5 rfl
      simp only [V.int, V.text, V.items, V.keys] at b2 b3 b4 b5 b6
      rw [mergeV, if_pos rfl] at hmw ⊢
      have hxl : xs.length ≤ 60 := hb.shape.2
      have zz : ∀ a b : Nat, a < b → ((a = b) = False) ∧ ((b = a) = False) := fun a b hab => ⟨by rw [eq_iff_iff]; exact ⟨fun e => by omega, False.elim⟩, by rw [eq_iff_iff]; exact ⟨fun e => by omega, False.elim⟩⟩
      cases hak : (ak != 5) with
      | true =>
        have hak5 : ak ≠ 5 := by simpa using hak
        rw [if_neg (show ¬ (V.mk ak ai at_ ax as_).kind = 5 from hak5)] at hmw hst ⊢
        simp only [aws, eq_self, reduceIte, Nat.reduceLT, Nat.reduceEqDiff, acmpnil, teset, hak]
        refine ACallV.det ⟨Tryz.f30, Tryz.func30, rfl, by kernel_rfl⟩ rfl (objnil_calls _) ?_
        simp only [aws, eq_self, reduceIte, Nat.reduceAdd, Nat.reduceLT, Nat.reduceLeDiff, Nat.reduceEqDiff, storeB, teset]
        refine ⟨fun n s' h' => ∃ (j : Nat) (cx : List V) (ck : List ByteArray) (aX aK : AV), s' 2 = .ptr h.nb 0 ∧ s' 3 = .ptr (h.nb + 1) 0 ∧ s' 4 = .ptr (h.nb + 1 + 1) 0 ∧ s' 5 = .int .i64 j ∧ n + j = ks.length ∧ h.Ext h' ∧ h.nb + 1 + 1 < h'.nb ∧ h'.box h.nb = some [.int .i64 5, .int .i64 0, .str ⟨#[]⟩, aX, aK] ∧ h'.box (h.nb + 1) = some [.int .i64 5, .int .i64 i, .str t, .sl .ro 5 (xs.map inj), .sl .ro 1 (ks.map .str)] ∧ h'.box (h.nb + 1 + 1) = some [.int .i64 0, .int .i64 0, .str ⟨#[]⟩, .sl .full 0 [], .sl .full 0 []] ∧ MI (.mk 5 0 ⟨#[]⟩ cx ck) (ks.drop j).length (ks.drop j) ∧ aX.one = true ∧ aK.one = true ∧ Wk aX (.sl .ro 5 (cx.map inj)) ∧ Wk aK (.sl .ro 1 (ck.map .str)) ∧ mergeL (.mk 5 0 ⟨#[]⟩ cx ck) (xs.drop j) (ks.drop j) = mergeL (emptyV 5) xs ks, ⟨ks.length, 0, [], [], .sl .full 0 [], .sl .full 0 [], ?_⟩, ?_⟩
        · simp only [aws, eq_self, reduceIte, Nat.reduceEqDiff, Int.natCast_zero]
          exact ⟨by (repeat (first | exact AH.Ext.refl _ | assumption | refine AH.Ext.set ?_ (by first | omega | (simp only [new_nb, set_nb, kill_nb, newTok_nb, setTok_nb]; omega)) _ | refine AH.Ext.new ?_ _)), by omega, by rw [b4]; exact hst, wk_nil5, wk_nil1, rfl⟩
        · rintro n s' h' ⟨j, cx, ck, aX, aK, e2, e3, e4, e5, hn, hE, hnb, g1, g2, g3, hMI, o1, o2, wX, wK, hrest⟩
          simp only [aws, eq_self, reduceIte, Nat.reduceLT, Nat.reduceEqDiff, acmpnil, teset, e3, e5, g2, List.length_map]
          cases hc : decide ((j : Int) < (ks.length : Int)) with
          | false =>
            simp only [decide_eq_false_iff_not] at hc
            simp only [aws, eq_self, reduceIte, Nat.reduceAdd, Nat.reduceLT, Nat.reduceLeDiff, Nat.reduceEqDiff, storeB, ares1, teset, e2, e4, g1, g3, o1, o2]
            refine ⟨by (repeat (first | exact AH.Ext.refl _ | assumption | refine AH.Ext.set ?_ (by first | omega | (simp only [new_nb, set_nb, kill_nb, newTok_nb, setTok_nb]; omega)) _ | refine AH.Ext.new ?_ _)), _, rfl, ?_⟩
            rw [List.drop_eq_nil_of_le (by omega), List.drop_eq_nil_of_le (by omega), mergeL] at hrest
            rw [← hrest]
            exact wk_agg5 wX wK
          | true =>
            simp only [decide_eq_true_eq] at hc
            have hj : j < ks.length := by omega
            have hjx : j < xs.length := by omega
            have hgetx : (xs.map inj)[((j : Nat) : Int).toNat]? = some (inj xs[j]) := by simp [hjx]
            have hstp := refstep_pure i t xs ks j hj
            rw [inj_mk] at hstp
            rw [List.drop_eq_getElem_cons hj] at hMI hrest
            rw [List.drop_eq_getElem_cons hjx, mergeL_cons] at hrest
            have hMI2 : MI (V.mk 5 0 ⟨#[]⟩ cx ck) ((ks.drop (j + 1)).length + 1) (ks[j] :: ks.drop (j + 1)) := by rw [List.length_cons] at hMI; exact hMI
            have hko := b6 _ (List.getElem_mem hj)
            have hxo : Vok xs[j] := hb.items _ (List.getElem_mem hjx)
            have hpk := List.pairwise_iff_getElem.1 (asc_pw b5)
            have hold := hMI2.old
            have hmo := merge_wok xs[j] _ hold hxo
            have hstep := hMI2.step hko (fun q hq e => by
              obtain ⟨d, hd, hde⟩ := List.getElem_of_mem hq
              rw [List.getElem_drop] at hde
              have := hpk j (j + 1 + d) hj (by rw [List.length_drop] at hd; omega) (by omega)
              rw [hde, ← e] at this
              unfold sless at this
              rw [bl_irrefl] at this; cases this) hmo
            have hok := hMI2.1
            have hcw := hMI2.wok
            have hat := refitem1_pure hok hcw ks[j]
            have hm := ih xs[j] (List.getElem_mem hjx) ((lk ck cx ks[j]).getD zeroV) hold hxo
            unfold stepV at hstep hrest
            simp only [V.keys, V.items] at hat hm hstep hrest hold hmo
            have hput := fun y => refwith1_pure hok hcw ks[j] y
            have hwo := refwithout1_pure hok hcw ks[j]
            simp only [V.keys] at hwo
            have hwa := wk_agg5 (k := 5) (i := 0) (t := ⟨#[]⟩) wX wK
            generalize ks[j] = key at *
            generalize (lk ck cx key).getD zeroV = old at *
            generalize xs[j] = x at *
            have hnb1 := hE.nb
            obtain ⟨ok, oi, ot, ox, os⟩ := old
            obtain ⟨xk, xi, xt, xx, xs'⟩ := x
            rw [inj_mk] at hgetx
            rw [inj_mk ok] at hat
            rw [inj_mk, inj_mk] at hm
            have y1 := zz h.nb h'.nb (by omega)
            have y2 := zz (h.nb + 1) h'.nb (by omega)
            have y3 := zz (h.nb + 1 + 1) h'.nb (by omega)
            have y4 := zz h.nb (h'.nb + 1) (by omega)
            have y5 := zz (h.nb + 1) (h'.nb + 1) (by omega)
            have y6 := zz (h.nb + 1 + 1) (h'.nb + 1) (by omega)
            have y7 := zz h'.nb (h'.nb + 1) (by omega)
            simp only [aws, eq_self, reduceIte, Nat.reduceAdd, Nat.reduceLT, Nat.reduceLeDiff, Nat.reduceEqDiff, teset, e3, e5, g2]
            refine ACallV.pure hstp ?_
            simp only [aws, eq_self, reduceIte, Nat.reduceAdd, Nat.reduceLT, Nat.reduceLeDiff, Nat.reduceEqDiff, Int.reduceNeg, storeB, teset, e2, g1, y1.1]
            refine ACallV.pureW hat (.cons hwa (.cons (.refl _) .nil)) ?_
            simp only [aws, eq_self, reduceIte, Nat.reduceAdd, Nat.reduceLT, Nat.reduceLeDiff, Nat.reduceEqDiff, Int.reduceNeg, acmpnil, storeB, teset, e3, e5, g2, hgetx, Int.natCast_nonneg, y2.1, y5.1, y7.2]
            cases hxk : (xk != 0) with
            | true =>
              have hxk0 : xk ≠ 0 := by simpa using hxk
              rw [if_neg (show ¬ (V.mk xk xi xt xx xs').kind = 0 from hxk0)] at hstep hrest
              have hpy := hput (mergeV (.mk ok oi ot ox os) (.mk xk xi xt xx xs'))
              obtain ⟨cx', ck', hset⟩ : ∃ cx' ck', setK (.mk 5 0 ⟨#[]⟩ cx ck) key (mergeV (.mk ok oi ot ox os) (.mk xk xi xt xx xs')) = .mk 5 0 ⟨#[]⟩ cx' ck' := ⟨_, _, (set_ok5 hok hko).form⟩
              rw [hset] at hpy hstep hrest
              rw [inj_mk 5 0 ⟨#[]⟩ cx' ck'] at hpy
              simp only [aws, Int.reduceNeg]
              refine acode_draw_chain te_ok mixed [] (by kernel_rfl) ?_
              simp only [aws, eq_self, implies_true, imp_self, reduceIte, reduceCtorEq, Nat.reduceAdd, Nat.reduceLT, Nat.reduceLeDiff, Nat.reduceEqDiff, Int.reduceNeg, acmpnil, storeB, teset, e2, e3, e4, e5, g1, g2, hgetx, Int.natCast_nonneg, y1.1, y2.1, y4.1, y5.1, y7.1, y7.2]
              refine skR_pure hm ?_
              refine skR_pure (Pure.wk hpy (.cons hwa (.cons (.refl _) (.cons (.refl _) .nil))) (.refl _)) ?_
              simp only [aws, eq_self, reduceIte, Nat.reduceAdd, Nat.reduceLeDiff, Int.reduceNeg, g1, g2, g3, y1.1, y2.1, y3.1, y4.1, y5.1, y6.1]
              exact ⟨n - 1, by omega, j + 1, cx', ck', _, _, by rw [wrap_succ (by omega)], by omega, by (repeat (first | exact AH.Ext.refl _ | assumption | refine AH.Ext.set ?_ (by first | omega | (simp only [new_nb, set_nb, kill_nb, newTok_nb, setTok_nb]; omega)) _ | refine AH.Ext.new ?_ _)), by omega, rfl, hstep, rfl, rfl, .refl _, .refl _, hrest⟩
            | false =>
              have hxk0 : xk = 0 := by simpa using hxk
              rw [if_pos (show (V.mk xk xi xt xx xs').kind = 0 from hxk0)] at hstep hrest
              cases hf : foundS ck key with
              | true =>
                have hwy := hwo hf
                simp only [hf, if_true] at hstep hrest
                obtain ⟨cx', ck', hset⟩ : ∃ cx' ck', delV (.mk 5 0 ⟨#[]⟩ cx ck) (lb ck key) = .mk 5 0 ⟨#[]⟩ cx' ck' := ⟨_, _, (del_ok5 hok _).form⟩
                rw [hset] at hwy hstep hrest
                rw [inj_mk 5 0 ⟨#[]⟩ cx' ck'] at hwy
                simp only [aws, eq_self, reduceIte, Nat.reduceAdd, Nat.reduceLT, Nat.reduceLeDiff, Nat.reduceEqDiff, Nat.reduceMul, Int.reduceNeg, teset, e2, g1, range1, y1.1, y4.1, y7.1]
                refine ACallV.pureW hwy (.cons hwa (.cons .ro .nil)) ?_
                simp only [aws, eq_self, reduceIte, Nat.reduceAdd, Nat.reduceLT, Nat.reduceLeDiff, Nat.reduceEqDiff, Int.reduceNeg, acmpnil, storeB, teset, e2, e3, e4, e5, g1, g2, g3, y1.1, y2.1, y3.1, y4.1, y5.1, y6.1]
                exact ⟨n - 1, by omega, j + 1, cx', ck', _, _, by rw [wrap_succ (by omega)], by omega, by (repeat (first | exact AH.Ext.refl _ | assumption | refine AH.Ext.set ?_ (by first | omega | (simp only [new_nb, set_nb, kill_nb, newTok_nb, setTok_nb]; omega)) _ | refine AH.Ext.new ?_ _)), by omega, rfl, hstep, rfl, rfl, .refl _, .refl _, hrest⟩
              | false =>
                simp only [hf, Bool.false_eq_true, if_false] at hstep hrest
                simp only [aws, eq_self, reduceIte, Nat.reduceLT, Nat.reduceEqDiff, Int.reduceNeg, acmpnil, e2, e3, e4, e5, g1, g2, g3, y1.1, y2.1, y3.1, y4.1, y5.1, y6.1]
                exact ⟨n - 1, by omega, j + 1, cx, ck, aX, aK, by rw [wrap_succ (by omega)], by omega, by (repeat (first | exact AH.Ext.refl _ | assumption | refine AH.Ext.set ?_ (by first | omega | (simp only [new_nb, set_nb, kill_nb, newTok_nb, setTok_nb]; omega)) _ | refine AH.Ext.new ?_ _)), by omega, rfl, hstep, o1, o2, wX, wK, hrest⟩
      | false =>
        have hak5 : ak = 5 := by simpa using hak
        subst hak5
        rw [if_pos (show (V.mk 5 ai at_ ax as_).kind = 5 from rfl)] at hmw hst ⊢
        obtain ⟨_, a2, a3, a4, a5, a6⟩ := ha.w.ok5 rfl
        simp only [V.int, V.text, V.items, V.keys] at a2 a3 a4 a5 a6
        subst a2 a3
        simp only [aws, eq_self, reduceIte, Nat.reduceLT, Nat.reduceEqDiff, acmpnil, teset, hak]
        refine ⟨fun n s' h' => ∃ (j : Nat) (cx : List V) (ck : List ByteArray) (aX aK : AV), s' 2 = .ptr h.nb 0 ∧ s' 3 = .ptr (h.nb + 1) 0 ∧ s' 4 = .ptr (h.nb + 1 + 1) 0 ∧ s' 5 = .int .i64 j ∧ n + j = ks.length ∧ h.Ext h' ∧ h.nb + 1 + 1 < h'.nb ∧ h'.box h.nb = some [.int .i64 5, .int .i64 0, .str ⟨#[]⟩, aX, aK] ∧ h'.box (h.nb + 1) = some [.int .i64 5, .int .i64 i, .str t, .sl .ro 5 (xs.map inj), .sl .ro 1 (ks.map .str)] ∧ h'.box (h.nb + 1 + 1) = some [.int .i64 0, .int .i64 0, .str ⟨#[]⟩, .sl .full 0 [], .sl .full 0 []] ∧ MI (.mk 5 0 ⟨#[]⟩ cx ck) (ks.drop j).length (ks.drop j) ∧ aX.one = true ∧ aK.one = true ∧ Wk aX (.sl .ro 5 (cx.map inj)) ∧ Wk aK (.sl .ro 1 (ck.map .str)) ∧ mergeL (.mk 5 0 ⟨#[]⟩ cx ck) (xs.drop j) (ks.drop j) = mergeL (.mk 5 0 ⟨#[]⟩ ax as_) xs ks, ⟨ks.length, 0, ax, as_, .sl .ro 5 (ax.map inj), .sl .ro 1 (as_.map .str), ?_⟩, ?_⟩
        · simp only [aws, eq_self, reduceIte, Nat.reduceEqDiff, Int.natCast_zero]
          exact ⟨by (repeat (first | exact AH.Ext.refl _ | assumption | refine AH.Ext.set ?_ (by first | omega | (simp only [new_nb, set_nb, kill_nb, newTok_nb, setTok_nb]; omega)) _ | refine AH.Ext.new ?_ _)), by omega, by rw [b4]; exact hst, .refl _, .refl _⟩
        · rintro n s' h' ⟨j, cx, ck, aX, aK, e2, e3, e4, e5, hn, hE, hnb, g1, g2, g3, hMI, o1, o2, wX, wK, hrest⟩
          simp only [aws, eq_self, reduceIte, Nat.reduceLT, Nat.reduceEqDiff, acmpnil, teset, e3, e5, g2, List.length_map]
          cases hc : decide ((j : Int) < (ks.length : Int)) with
          | false =>
            simp only [decide_eq_false_iff_not] at hc
            simp only [aws, eq_self, reduceIte, Nat.reduceAdd, Nat.reduceLT, Nat.reduceLeDiff, Nat.reduceEqDiff, storeB, ares1, teset, e2, e4, g1, g3, o1, o2]
            refine ⟨by (repeat (first | exact AH.Ext.refl _ | assumption | refine AH.Ext.set ?_ (by first | omega | (simp only [new_nb, set_nb, kill_nb, newTok_nb, setTok_nb]; omega)) _ | refine AH.Ext.new ?_ _)), _, rfl, ?_⟩
            rw [List.drop_eq_nil_of_le (by omega), List.drop_eq_nil_of_le (by omega), mergeL] at hrest
            rw [← hrest]
            exact wk_agg5 wX wK
          | true =>
            simp only [decide_eq_true_eq] at hc
            have hj : j < ks.length := by omega
            have hjx : j < xs.length := by omega
            have hgetx : (xs.map inj)[((j : Nat) : Int).toNat]? = some (inj xs[j]) := by simp [hjx]
            have hstp := refstep_pure i t xs ks j hj
            rw [inj_mk] at hstp
            rw [List.drop_eq_getElem_cons hj] at hMI hrest
            rw [List.drop_eq_getElem_cons hjx, mergeL_cons] at hrest
            have hMI2 : MI (V.mk 5 0 ⟨#[]⟩ cx ck) ((ks.drop (j + 1)).length + 1) (ks[j] :: ks.drop (j + 1)) := by rw [List.length_cons] at hMI; exact hMI
            have hko := b6 _ (List.getElem_mem hj)
            have hxo : Vok xs[j] := hb.items _ (List.getElem_mem hjx)
            have hpk := List.pairwise_iff_getElem.1 (asc_pw b5)
            have hold := hMI2.old
            have hmo := merge_wok xs[j] _ hold hxo
            have hstep := hMI2.step hko (fun q hq e => by
              obtain ⟨d, hd, hde⟩ := List.getElem_of_mem hq
              rw [List.getElem_drop] at hde
              have := hpk j (j + 1 + d) hj (by rw [List.length_drop] at hd; omega) (by omega)
              rw [hde, ← e] at this
              unfold sless at this
              rw [bl_irrefl] at this; cases this) hmo
            have hok := hMI2.1
            have hcw := hMI2.wok
            have hat := refitem1_pure hok hcw ks[j]
            have hm := ih xs[j] (List.getElem_mem hjx) ((lk ck cx ks[j]).getD zeroV) hold hxo
            unfold stepV at hstep hrest
            simp only [V.keys, V.items] at hat hm hstep hrest hold hmo
            have hput := fun y => refwith1_pure hok hcw ks[j] y
            have hwo := refwithout1_pure hok hcw ks[j]
            simp only [V.keys] at hwo
            have hwa := wk_agg5 (k := 5) (i := 0) (t := ⟨#[]⟩) wX wK
            generalize ks[j] = key at *
            generalize (lk ck cx key).getD zeroV = old at *
            generalize xs[j] = x at *
            have hnb1 := hE.nb
            obtain ⟨ok, oi, ot, ox, os⟩ := old
            obtain ⟨xk, xi, xt, xx, xs'⟩ := x
            rw [inj_mk] at hgetx
            rw [inj_mk ok] at hat
            rw [inj_mk, inj_mk] at hm
            have y1 := zz h.nb h'.nb (by omega)
            have y2 := zz (h.nb + 1) h'.nb (by omega)
            have y3 := zz (h.nb + 1 + 1) h'.nb (by omega)
            have y4 := zz h.nb (h'.nb + 1) (by omega)
            have y5 := zz (h.nb + 1) (h'.nb + 1) (by omega)
            have y6 := zz (h.nb + 1 + 1) (h'.nb + 1) (by omega)
            have y7 := zz h'.nb (h'.nb + 1) (by omega)
            simp only [aws, eq_self, reduceIte, Nat.reduceAdd, Nat.reduceLT, Nat.reduceLeDiff, Nat.reduceEqDiff, teset, e3, e5, g2]
            refine ACallV.pure hstp ?_
            simp only [aws, eq_self, reduceIte, Nat.reduceAdd, Nat.reduceLT, Nat.reduceLeDiff, Nat.reduceEqDiff, Int.reduceNeg, storeB, teset, e2, g1, y1.1]
            refine ACallV.pureW hat (.cons hwa (.cons (.refl _) .nil)) ?_
            simp only [aws, eq_self, reduceIte, Nat.reduceAdd, Nat.reduceLT, Nat.reduceLeDiff, Nat.reduceEqDiff, Int.reduceNeg, acmpnil, storeB, teset, e3, e5, g2, hgetx, Int.natCast_nonneg, y2.1, y5.1, y7.2]
            cases hxk : (xk != 0) with
            | true =>
              have hxk0 : xk ≠ 0 := by simpa using hxk
              rw [if_neg (show ¬ (V.mk xk xi xt xx xs').kind = 0 from hxk0)] at hstep hrest
              have hpy := hput (mergeV (.mk ok oi ot ox os) (.mk xk xi xt xx xs'))
              obtain ⟨cx', ck', hset⟩ : ∃ cx' ck', setK (.mk 5 0 ⟨#[]⟩ cx ck) key (mergeV (.mk ok oi ot ox os) (.mk xk xi xt xx xs')) = .mk 5 0 ⟨#[]⟩ cx' ck' := ⟨_, _, (set_ok5 hok hko).form⟩
              rw [hset] at hpy hstep hrest
              rw [inj_mk 5 0 ⟨#[]⟩ cx' ck'] at hpy
              simp only [aws, Int.reduceNeg]
              refine acode_draw_chain te_ok mixed [] (by kernel_rfl) ?_
              simp only [aws, eq_self, implies_true, imp_self, reduceIte, reduceCtorEq, Nat.reduceAdd, Nat.reduceLT, Nat.reduceLeDiff, Nat.reduceEqDiff, Int.reduceNeg, acmpnil, storeB, teset, e2, e3, e4, e5, g1, g2, hgetx, Int.natCast_nonneg, y1.1, y2.1, y4.1, y5.1, y7.1, y7.2]
              refine skR_pure hm ?_
              refine skR_pure (Pure.wk hpy (.cons hwa (.cons (.refl _) (.cons (.refl _) .nil))) (.refl _)) ?_
              simp only [aws, eq_self, reduceIte, Nat.reduceAdd, Nat.reduceLeDiff, Int.reduceNeg, g1, g2, g3, y1.1, y2.1, y3.1, y4.1, y5.1, y6.1]
              exact ⟨n - 1, by omega, j + 1, cx', ck', _, _, by rw [wrap_succ (by omega)], by omega, by (repeat (first | exact AH.Ext.refl _ | assumption | refine AH.Ext.set ?_ (by first | omega | (simp only [new_nb, set_nb, kill_nb, newTok_nb, setTok_nb]; omega)) _ | refine AH.Ext.new ?_ _)), by omega, rfl, hstep, rfl, rfl, .refl _, .refl _, hrest⟩
            | false =>
              have hxk0 : xk = 0 := by simpa using hxk
              rw [if_pos (show (V.mk xk xi xt xx xs').kind = 0 from hxk0)] at hstep hrest
              cases hf : foundS ck key with
              | true =>
                have hwy := hwo hf
                simp only [hf, if_true] at hstep hrest
                obtain ⟨cx', ck', hset⟩ : ∃ cx' ck', delV (.mk 5 0 ⟨#[]⟩ cx ck) (lb ck key) = .mk 5 0 ⟨#[]⟩ cx' ck' := ⟨_, _, (del_ok5 hok _).form⟩
                rw [hset] at hwy hstep hrest
                rw [inj_mk 5 0 ⟨#[]⟩ cx' ck'] at hwy
                simp only [aws, eq_self, reduceIte, Nat.reduceAdd, Nat.reduceLT, Nat.reduceLeDiff, Nat.reduceEqDiff, Nat.reduceMul, Int.reduceNeg, teset, e2, g1, range1, y1.1, y4.1, y7.1]
                refine ACallV.pureW hwy (.cons hwa (.cons .ro .nil)) ?_
                simp only [aws, eq_self, reduceIte, Nat.reduceAdd, Nat.reduceLT, Nat.reduceLeDiff, Nat.reduceEqDiff, Int.reduceNeg, acmpnil, storeB, teset, e2, e3, e4, e5, g1, g2, g3, y1.1, y2.1, y3.1, y4.1, y5.1, y6.1]
                exact ⟨n - 1, by omega, j + 1, cx', ck', _, _, by rw [wrap_succ (by omega)], by omega, by (repeat (first | exact AH.Ext.refl _ | assumption | refine AH.Ext.set ?_ (by first | omega | (simp only [new_nb, set_nb, kill_nb, newTok_nb, setTok_nb]; omega)) _ | refine AH.Ext.new ?_ _)), by omega, rfl, hstep, rfl, rfl, .refl _, .refl _, hrest⟩
              | false =>
                simp only [hf, Bool.false_eq_true, if_false] at hstep hrest
                simp only [aws, eq_self, reduceIte, Nat.reduceLT, Nat.reduceEqDiff, Int.reduceNeg, acmpnil, e2, e3, e4, e5, g1, g2, g3, y1.1, y2.1, y3.1, y4.1, y5.1, y6.1]
                exact ⟨n - 1, by omega, j + 1, cx, ck, aX, aK, by rw [wrap_succ (by omega)], by omega, by (repeat (first | exact AH.Ext.refl _ | assumption | refine AH.Ext.set ?_ (by first | omega | (simp only [new_nb, set_nb, kill_nb, newTok_nb, setTok_nb]; omega)) _ | refine AH.Ext.new ?_ _)), by omega, rfl, hstep, o1, o2, wX, wK, hrest⟩
end Go.Proofs.YtjdocenbfghglaaGreatDoor.AW
end
