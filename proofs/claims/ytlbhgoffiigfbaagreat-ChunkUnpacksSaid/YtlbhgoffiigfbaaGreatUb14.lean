/- Texts of this claim, part 14: V81, V82, V93, V94, V95, V96, V97, V98, P82, P83, V117, L68. -/
import Derived.Test.YtlbhgoffiigfbaaGreatUb1
import Derived.Test.YtlbhgoffiigfbaaGreatUb3
import Derived.Test.YtlbhgoffiigfbaaGreatUb4
import Derived.Test.YtlbhgoffiigfbaaGreatUb5
import Derived.Test.YtlbhgoffiigfbaaGreatUb6
import Derived.Test.YtlbhgoffiigfbaaGreatUb7
import Derived.Test.YtlbhgoffiigfbaaGreatUb8
import Derived.Test.YtlbhgoffiigfbaaGreatUb9
import Derived.Test.YtlbhgoffiigfbaaGreatUb10
import Derived.Test.YtlbhgoffiigfbaaGreatUb11
import Derived.Test.YtlbhgoffiigfbaaGreatUb12
import Derived.Test.YtlbhgoffiigfbaaGreatUb13
section
set_option linter.unusedSimpArgs false
set_option linter.unusedVariables false
namespace Go.Proofs.YtlbhgoffiigfbaaGreat.AW
open Go Go.RowKit

end Go.Proofs.YtlbhgoffiigfbaaGreat.AW
end
section
set_option linter.unusedSimpArgs false
set_option linter.unusedVariables false
namespace Go.Proofs.YtlbhgoffiigfbaaGreat.AW
open Go Go.RowKit

theorem allvalid_pure (xs : List V) (hl : xs.length < 4611686018427387904) : Pure Tryz.prog 36 [.sl .ro 5 (xs.map inj)] (.bool (xs.all valid)) := by
  refine Pure.of ⟨Tryz.f36, Tryz.func36, rfl, by kernel_rfl⟩ rfl (fun h => ?_)
  refine acalls_of te_ok [] Tryz.func36 (c := _) rfl (Nat.le_of_ble_eq_true rfl) ?_
  simp only [aws, eq_self, Nat.reduceLT, Tryz.ntmps36, Tryz.results36]
  refine ⟨fun n s' h' => ∃ (j : Nat), s' 0 = .sl .ro 5 (xs.map inj) ∧ s' 3 = .int .i64 j ∧ h' = h ∧ n + j = xs.length ∧ (∀ (j' : Nat) x, j' < j → xs[j']? = some x → valid x = true), ⟨xs.length, 0, ?_⟩, ?_⟩
  · simp only [aws, eq_self, reduceIte, Int.natCast_zero]
    exact fun j' x hj => absurd hj (Nat.not_lt_zero _)
  · rintro n s' h' ⟨j, e0, e3, rfl, hn, hall⟩
    simp only [aws, eq_self, reduceIte, Nat.reduceLT, acmpnil, teset, e0, e3, List.length_map]
    cases hc : decide ((j : Int) < (xs.length : Int)) with
    | false =>
      simp only [aws, eq_self, reduceIte, Nat.reduceLT, ares1]
      simp only [decide_eq_false_iff_not] at hc
      refine ⟨.refl _, _, rfl, ?_⟩
      have : xs.all valid = true := by
        rw [List.all_eq_true]
        intro x hx
        obtain ⟨j', hj'⟩ := List.mem_iff_getElem?.1 hx
        exact hall j' x (by have := (List.getElem?_eq_some_iff.1 hj').1; omega) hj'
      rw [this]; rfl
    | true =>
      simp only [decide_eq_true_eq] at hc
      have hj : j < xs.length := by omega
      have hget : (xs.map inj)[((j : Nat) : Int).toNat]? = some (inj xs[j]) := by simp [hj]
      simp only [aws, eq_self, reduceIte, Nat.reduceLT, Nat.reduceLeDiff, Nat.reduceEqDiff, teset, e0, e3, inj_take, inj_agg, inj_len, hget, Int.natCast_nonneg]
      refine ACallV.pure (refvalid_pure xs[j]) ?_
      cases hk : valid xs[j] with
      | false =>
        simp only [aws, eq_self, reduceIte, Nat.reduceLT, Nat.reduceEqDiff, ares1]
        refine ⟨.refl _, _, rfl, ?_⟩
        have : xs.all valid = false := by
          rw [Bool.eq_false_iff]
          intro hq
          rw [List.all_eq_true] at hq
          rw [hq _ (List.getElem_mem hj)] at hk; cases hk
        rw [this]; rfl
      | true =>
        simp only [aws, eq_self, reduceIte, reduceCtorEq, Nat.reduceLT, Nat.reduceEqDiff, acmpnil, e0, e3]
        refine ⟨n - 1, by omega, j + 1, by rw [wrap_succ (by omega)], by omega, fun j' x hj' hx => ?_⟩
        by_cases e : j' = j
        · subst e; rw [List.getElem?_eq_getElem hj] at hx; injection hx with hx; subst hx; exact hk
        · exact hall j' x (by omega) hx
end Go.Proofs.YtlbhgoffiigfbaaGreat.AW
end
section
set_option linter.unusedSimpArgs false
set_option linter.unusedVariables false
namespace Go.Proofs.YtlbhgoffiigfbaaGreat.AW
open Go Go.RowKit

theorem catW {a b : List AV} (ha : BY a) (hb : BY b) (hl : a.length + b.length ≤ 1000000000) : (sB a).size + (sB b).size ≤ 9223372036854775807 := by
  rw [sB_size ha, sB_size hb]; omega
theorem refplain_pure (xs : List V) (hx : ∀ x ∈ xs, Vok x) (hl : xs.length ≤ 1000) : Pure Tryz.prog 40 [.sl .ro 5 (xs.map inj)] (.str (sB (plainA xs))) := by
  have hvl := valsA_len hx
  have hnl := numA_len xs.length (by omega)
  have hpl : (plainA xs).length ≤ 9 + 13200 * xs.length := by unfold plainA; rw [List.length_append]; omega
  refine Pure.of ⟨Tryz.f40, Tryz.func40, rfl, by kernel_rfl⟩ rfl (fun h => ?_)
  refine acalls_of te_ok [] Tryz.func40 (c := _) rfl (Nat.le_of_ble_eq_true rfl) ?_
  simp only [aws, eq_self, reduceIte, Nat.reduceLT, teset, Tryz.ntmps40, Tryz.results40, List.length_map]
  refine ACallV.pure (count_pure xs.length (by omega)) ?_
  simp only [aws, eq_self, reduceIte, Nat.reduceLT, sB_num]
  refine ⟨fun n s' h' => ∃ (j : Nat) (ys : List AV), s' 0 = .sl .ro 5 (xs.map inj) ∧ s' 3 = .str (sB ys) ∧ s' 4 = .int .i64 j ∧ h' = h ∧ n + j = xs.length ∧ BY ys ∧ ys ++ valsA (xs.drop j) = plainA xs, ⟨xs.length, 0, numA xs.length, ?_⟩, ?_⟩
  · simp only [aws, eq_self, reduceIte, Int.natCast_zero]
    exact ⟨BY.num _, rfl⟩
  · rintro n s' h' ⟨j, ys, e0, e3, e4, rfl, hn, hys, hv⟩
    simp only [aws, eq_self, reduceIte, Nat.reduceLT, acmpnil, teset, e0, e4, List.length_map]
    cases hc : decide ((j : Int) < (xs.length : Int)) with
    | false =>
      simp only [aws, eq_self, reduceIte, Nat.reduceLT, Nat.reduceEqDiff, ares1, e3]
      simp only [decide_eq_false_iff_not] at hc
      rw [List.drop_eq_nil_of_le (by omega)] at hv
      rw [show valsA [] = [] from rfl, List.append_nil] at hv
      exact ⟨.refl _, _, rfl, by rw [hv]; rfl⟩
    | true =>
      simp only [decide_eq_true_eq] at hc
      have hj : j < xs.length := by omega
      have hget : (xs.map inj)[((j : Nat) : Int).toNat]? = some (inj xs[j]) := by simp [hj]
      rw [valsA_drop hj] at hv
      have hbx := BY.val xs[j]
      have hlv := congrArg List.length hv
      simp only [List.length_append] at hlv
      have hcat := catW hys hbx (by omega)
      simp only [aws, eq_self, reduceIte, reduceCtorEq, Nat.reduceLT, Nat.reduceLeDiff, Nat.reduceEqDiff, teset, e0, e3, e4, inj_take, inj_agg, inj_len, hget, Int.natCast_nonneg]
      refine ACallV.pure (refvalue_pure _ (hx _ (List.getElem_mem hj))) ?_
      simp only [aws, eq_self, reduceIte, reduceCtorEq, Nat.reduceLT, Nat.reduceEqDiff, acmpnil, e0, e3, e4, astr, hcat]
      refine ⟨n - 1, by omega, j + 1, ys ++ valA xs[j], ?_, by rw [wrap_succ (by omega)], by omega, BY.app hys hbx, ?_⟩
      · rw [sB_app hys hbx]
      · rw [List.append_assoc]; exact hv
theorem form_pure (xs : List V) (hl : xs.length < 4611686018427387904) : Pure Tryz.prog 24 [.sl .ro 5 (xs.map inj)] (.bool (validL xs)) := by
  refine Pure.of ⟨Tryz.f24, Tryz.func24, rfl, by kernel_rfl⟩ rfl (fun h => ?_)
  refine acalls_of te_ok [] Tryz.func24 (c := _) rfl (Nat.le_of_ble_eq_true rfl) ?_
  simp only [aws, eq_self, implies_true, reduceIte, Nat.reduceLT, acmpnil, teset, Tryz.ntmps24, Tryz.results24, List.length_map]
  cases hc : decide ((xs.length : Int) ≤ 200) with
  | false =>
    simp only [aws, eq_self, reduceIte, Nat.reduceLT, ares1]
    simp only [decide_eq_false_iff_not] at hc
    have : decide (xs.length ≤ 200) = false := by simp only [decide_eq_false_iff_not]; omega
    exact ⟨.refl _, _, rfl, by unfold validL; rw [this]; rfl⟩
  | true =>
    simp only [aws, eq_self, reduceIte, Nat.reduceLT]
    simp only [decide_eq_true_eq] at hc
    refine ACallV.pure (allvalid_pure xs hl) ?_
    simp only [aws, eq_self, reduceIte, Nat.reduceLT, ares1]
    have : decide (xs.length ≤ 200) = true := by simp only [decide_eq_true_eq]; omega
    exact ⟨.refl _, _, rfl, by unfold validL; rw [this]; rfl⟩
theorem drop0 (v : V) : (inj v).cells = [.int .i64 v.kind, .int .i64 v.int, .str v.text, .sl .ro 5 (v.items.map inj), .sl .ro 1 (v.keys.map .str)] := by cases v; simp [inj_mk, AV.cells, V.kind, V.int, V.text, V.items, V.keys]
theorem refints_pure (xs : List V) (hl : xs.length < 4611686018427387904) : Pure Tryz.prog 25 [.sl .ro 5 (xs.map inj)] (.bool (intsL xs)) := by
  refine Pure.of ⟨Tryz.f25, Tryz.func25, rfl, by kernel_rfl⟩ rfl (fun h => ?_)
  refine acalls_of te_ok [] Tryz.func25 (c := _) rfl (Nat.le_of_ble_eq_true rfl) ?_
  simp only [aws, eq_self, Nat.reduceLT, Tryz.ntmps25, Tryz.results25]
  refine ⟨fun n s' h' => ∃ (j : Nat), s' 0 = .sl .ro 5 (xs.map inj) ∧ s' 3 = .int .i64 j ∧ h' = h ∧ n + j = xs.length ∧ intsL (xs.drop j) = intsL xs, ⟨xs.length, 0, ?_⟩, ?_⟩
  · simp only [aws, eq_self, reduceIte, Int.natCast_zero]
    first | done | rfl
  · rintro n s' h' ⟨j, e0, e3, rfl, hn, ha⟩
    simp only [aws, eq_self, reduceIte, Nat.reduceLT, acmpnil, teset, e0, e3, List.length_map]
    cases hc : decide ((j : Int) < (xs.length : Int)) with
    | false =>
      simp only [aws, eq_self, reduceIte, Nat.reduceLT, ares1]
      simp only [decide_eq_false_iff_not] at hc
      rw [List.drop_eq_nil_of_le (by omega)] at ha
      exact ⟨.refl _, _, rfl, by rw [← ha]; rfl⟩
    | true =>
      simp only [decide_eq_true_eq] at hc
      have hj : j < xs.length := by omega
      have hget : (xs.map inj)[((j : Nat) : Int).toNat]? = some (inj xs[j]) := by simp [hj]
      rw [List.drop_eq_getElem_cons hj, show intsL (xs[j] :: xs.drop (j + 1)) = (xs[j].kind == 2 && intsL (xs.drop (j + 1))) from rfl] at ha
      have hci := drop0 xs[j]
      simp only [aws, eq_self, reduceIte, Nat.reduceLT, Nat.reduceEqDiff, acmpnil, teset, e0, e3, hget, Int.natCast_nonneg, hci]
      cases hk : (xs[j].kind != 2) with
      | true =>
        have hk2 : (xs[j].kind == 2) = false := by simpa using hk
        rw [hk2, Bool.false_and] at ha
        simp only [aws, eq_self, reduceIte, Nat.reduceLT, Nat.reduceEqDiff, ares1]
        exact ⟨.refl _, _, rfl, by rw [← ha]; rfl⟩
      | false =>
        have hk2 : (xs[j].kind == 2) = true := by simpa using hk
        rw [hk2, Bool.true_and] at ha
        simp only [aws, eq_self, reduceIte, reduceCtorEq, Nat.reduceLT, Nat.reduceEqDiff, acmpnil, e0, e3]
        exact ⟨n - 1, by omega, j + 1, by rw [wrap_succ (by omega)], by omega, ha⟩
def pI (xs : List V) (j : Nat) : Int := if j = 0 then 0 else ((xs[j-1]?.map V.int).getD 0)
theorem pI_succ {xs : List V} {j : Nat} (hj : j < xs.length) : pI xs (j + 1) = xs[j].int := by
  unfold pI
  rw [if_neg (by omega), Nat.add_sub_cancel, List.getElem?_eq_getElem hj]; rfl
set_option maxHeartbeats 4000000 in
theorem refdelta_pure (xs : List V) (hx : ∀ x ∈ xs, Vok x) (hl : xs.length ≤ 1000) : Pure Tryz.prog 39 [.sl .ro 5 (xs.map inj)] (.str (sB (deltaA xs))) := by
  have hbl := deltaL_len xs 0 hx (by omega) (by omega)
  have hnl := numA_len xs.length (by omega)
  have hpl : (deltaA xs).length ≤ 9 + 9 * xs.length := by unfold deltaA; rw [List.length_append]; omega
  refine Pure.of ⟨Tryz.f39, Tryz.func39, rfl, by kernel_rfl⟩ rfl (fun h => ?_)
  refine acalls_of te_ok [] Tryz.func39 (c := _) rfl (Nat.le_of_ble_eq_true rfl) ?_
  simp only [aws, eq_self, reduceIte, Nat.reduceLT, teset, Tryz.ntmps39, Tryz.results39, List.length_map]
  refine ACallV.pure (count_pure xs.length (by omega)) ?_
  simp only [aws, eq_self, reduceIte, Nat.reduceLT, sB_num]
  refine ⟨fun n s' h' => ∃ (j : Nat) (ys : List AV), s' 0 = .sl .ro 5 (xs.map inj) ∧ s' 3 = .str (sB ys) ∧ s' 4 = .int .i64 j ∧ h' = h ∧ n + j = xs.length ∧ BY ys ∧ ys ++ deltaL (pI xs j) (xs.drop j) = deltaA xs, ⟨xs.length, 0, numA xs.length, ?_⟩, ?_⟩
  · simp only [aws, eq_self, reduceIte, Int.natCast_zero]
    exact ⟨BY.num _, rfl⟩
  · rintro n s' h' ⟨j, ys, e0, e3, e4, rfl, hn, hys, hv⟩
    simp only [aws, eq_self, reduceIte, Nat.reduceLT, acmpnil, teset, e0, e4, List.length_map]
    cases hc : decide ((j : Int) < (xs.length : Int)) with
    | false =>
      simp only [aws, eq_self, reduceIte, Nat.reduceLT, Nat.reduceEqDiff, ares1, e3]
      simp only [decide_eq_false_iff_not] at hc
      rw [List.drop_eq_nil_of_le (by omega)] at hv
      simp only [deltaL, List.append_nil] at hv
      exact ⟨.refl _, _, rfl, by rw [hv]; rfl⟩
    | true =>
      simp only [decide_eq_true_eq] at hc
      have hj : j < xs.length := by omega
      have hget : (xs.map inj)[((j : Nat) : Int).toNat]? = some (inj xs[j]) := by simp [hj]
      have hvi := (hx _ (List.getElem_mem hj)).int
      rw [deltaL_drop hj] at hv
      have hlv := congrArg List.length hv
      simp only [List.length_append] at hlv
      have hbx := BY.num (zig (xs[j].int - pI xs j))
      have hcat := catW hys hbx (by omega)
      simp only [aws, eq_self, reduceIte, Nat.reduceLT, acmpnil, e4]
      cases h0 : ((j : Int) == 0) with
      | true =>
        have hj0 : j = 0 := by simpa using h0
        have hp : xs[j].int - pI xs j = xs[j].int := by unfold pI; rw [if_pos hj0]; omega
        rw [hp] at hv hbx hcat
        have hci := drop1 xs[j]
        simp only [aws, eq_self, reduceIte, reduceCtorEq, Nat.reduceLT, Nat.reduceEqDiff, teset, e0, e3, e4, hget, Int.natCast_nonneg, hci]
        refine ACallV.pure (refint_pure xs[j].int (by omega) (by omega)) ?_
        simp only [aws, eq_self, reduceIte, reduceCtorEq, Nat.reduceLT, Nat.reduceEqDiff, acmpnil, e0, e3, e4, astr, hcat]
        refine ⟨n - 1, by omega, j + 1, ys ++ numA (zig xs[j].int), ?_, by rw [wrap_succ (by omega)], by omega, BY.app hys hbx, ?_⟩
        · rw [sB_app hys hbx]
        · rw [List.append_assoc, pI_succ hj]; exact hv
      | false =>
        have hj0 : j ≠ 0 := by simpa using h0
        obtain ⟨i, rfl⟩ : ∃ i, j = i + 1 := ⟨j - 1, by omega⟩
        have hi : i < xs.length := by omega
        have hget2 : (xs.map inj)[((i : Nat) : Int).toNat]? = some (inj xs[i]) := by simp [hi]
        have hwi : IntKind.i64.wrap (((i + 1 : Nat) : Int) - 1) = ((i : Nat) : Int) := by rw [wrap_i64 (by omega) (by omega)]; omega
        have hvj := (hx _ (List.getElem_mem hi)).int
        have hws : IntKind.i64.wrap (xs[i + 1].int - xs[i].int) = xs[i + 1].int - xs[i].int := wrap_i64 (by omega) (by omega)
        rw [pI_succ hi] at hv hbx hcat
        simp only [aws]
        refine acode_draw_chain te_ok mixed [] (by kernel_rfl) ?_
        have hci := drop1 xs[i + 1]
        have hci2 := drop1 xs[i]
        simp only [aws, eq_self, implies_true, imp_self, reduceIte, reduceCtorEq, Nat.reduceAdd, Nat.reduceLT, Nat.reduceEqDiff, acmpnil, teset, e0, e3, e4, hget, hget2, Int.natCast_nonneg, hci, hci2, hwi, hws]
        refine skR_pure (refint_pure (xs[i + 1].int - xs[i].int) (by omega) (by omega)) ?_
        simp only [aws, eq_self, reduceIte, astr, hcat]
        refine ⟨n - 1, by omega, i + 1 + 1, ys ++ numA (zig (xs[i + 1].int - xs[i].int)), ?_, by rw [wrap_succ (by omega)], by omega, BY.app hys hbx, ?_⟩
        · rw [sB_app hys hbx]
        · rw [List.append_assoc, pI_succ hj]; exact hv
end Go.Proofs.YtlbhgoffiigfbaaGreat.AW
end
section
set_option linter.unusedSimpArgs false
set_option linter.unusedVariables false
namespace Go.Proofs.YtlbhgoffiigfbaaGreat.AW
open Go Go.RowKit

theorem runs_next {xs : List V} {i m : Nat} (hi : i < xs.length) (h : i + headN xs[i] (xs.drop i) = m) (h0 : ord xs[i] xs[i] = 0) : i < m ∧ runsL (xs.drop i) = (m - i, xs[i]) :: runsL (xs.drop m) := by
  rw [headN_step hi, if_pos h0] at h
  refine ⟨by omega, ?_⟩
  rw [List.drop_eq_getElem_cons hi, runsL_cons, List.drop_drop, show i + 1 + headN xs[i] (xs.drop (i + 1)) = m by omega, show 1 + headN xs[i] (xs.drop (i + 1)) = m - i by omega]
set_option maxHeartbeats 4000000 in
theorem refruns_pure (xs : List V) (hx : ∀ x ∈ xs, Vok x) (hl : xs.length ≤ 1000) : Pure Tryz.prog 37 [.sl .ro 5 (xs.map inj)] (.str (sB (runsA xs))) := by
  have hbl := runB_len xs.length xs (Nat.le_refl _) hl hx
  have hrl := runsL_len xs.length xs (Nat.le_refl _)
  have hcl := numA_len (runsL xs).length (by omega)
  refine Pure.of ⟨Tryz.f37, Tryz.func37, rfl, by kernel_rfl⟩ rfl (fun h => ?_)
  refine acalls_of te_ok [] Tryz.func37 (c := _) rfl (Nat.le_of_ble_eq_true rfl) ?_
  simp only [aws, eq_self, Nat.reduceLT, Tryz.ntmps37, Tryz.results37]
  refine ⟨fun n s' h' => ∃ (i c : Nat) (ys : List AV), s' 0 = .sl .ro 5 (xs.map inj) ∧ s' 3 = .str (sB ys) ∧ s' 4 = .int .i64 c ∧ s' 5 = .int .i64 i ∧ h' = h ∧ n + i = xs.length ∧ BY ys ∧ ys ++ runB (runsL (xs.drop i)) = runB (runsL xs) ∧ c + (runsL (xs.drop i)).length = (runsL xs).length, ⟨xs.length, 0, 0, [], ?_⟩, ?_⟩
  · simp only [aws, eq_self, reduceIte, Int.natCast_zero]
    exact ⟨rfl, BY.nil⟩
  · rintro n s' h' ⟨i, c, ys, e0, e3, e4, e5, rfl, hn, hys, hv, hcnt⟩
    simp only [aws, eq_self, reduceIte, Nat.reduceLT, acmpnil, teset, e0, e5, List.length_map]
    cases hc : decide ((i : Int) < (xs.length : Int)) with
    | false =>
      simp only [aws, eq_self, reduceIte, Nat.reduceLT, Nat.reduceEqDiff, e4]
      simp only [decide_eq_false_iff_not] at hc
      rw [List.drop_eq_nil_of_le (by omega), runsL_nil] at hv hcnt
      rw [show runB [] = [] from rfl, List.append_nil] at hv
      have hcn : c = (runsL xs).length := by simpa using hcnt
      subst hv
      have hcat := catW (BY.num c) hys (by rw [hcn]; omega)
      refine ACallV.pure (count_pure c (by omega)) ?_
      simp only [aws, eq_self, reduceIte, Nat.reduceLT, Nat.reduceEqDiff, acmpnil, ares1, sB_num, astr, hcat, e3]
      refine ⟨.refl _, _, rfl, ?_⟩
      rw [sB_app (BY.num _) hys, hcn]; rfl
    | true =>
      simp only [decide_eq_true_eq] at hc
      have hi : i < xs.length := by omega
      have hoki := hx _ (List.getElem_mem hi)
      have hget : (xs.map inj)[((i : Nat) : Int).toNat]? = some (inj xs[i]) := by simp [hi]
      simp only [aws, eq_self, reduceIte, Nat.reduceLT, e5]
      refine ⟨fun n2 s2 h2 => ∃ (m : Nat), s2 0 = .sl .ro 5 (xs.map inj) ∧ s2 3 = .str (sB ys) ∧ s2 4 = .int .i64 c ∧ s2 5 = .int .i64 i ∧ s2 6 = .int .i64 m ∧ h2 = h' ∧ n2 + m = xs.length ∧ i + headN xs[i] (xs.drop i) = m + headN xs[i] (xs.drop m), ⟨n, i, ?_⟩, ?_⟩
      · simp only [aws, eq_self, reduceIte, reduceCtorEq, Nat.reduceEqDiff, e0, e3, e4, e5]
        first | done | omega
      · rintro n2 s2 h2 ⟨m, f0, f3, f4, f5, f6, rfl, hn2, hm⟩
        simp only [aws]
        refine acode_draw_chain te_ok mixed [] (by kernel_rfl) ?_
        simp only [aws, eq_self, reduceIte, reduceCtorEq, Nat.reduceAdd, Nat.reduceLT, Nat.reduceEqDiff, acmpnil, teset, f0, f6, List.length_map]
        have hexit : True := trivial
        cases hc2 : decide ((m : Int) < (xs.length : Int)) with
        | false =>
          simp only [decide_eq_false_iff_not] at hc2
          have h0 : headN xs[i] (xs.drop m) = 0 := by rw [List.drop_eq_nil_of_le (by omega)]; rfl
          rw [h0, Nat.add_zero] at hm
          obtain ⟨him, hru⟩ := runs_next hi hm (ord_self hoki)
          simp only [aws, eq_self, reduceIte, reduceCtorEq, Nat.reduceLT, Nat.reduceEqDiff, acmpnil, f0, f3, f4, f5]
          have hws : IntKind.i64.wrap ((m : Int) - (i : Int)) = ((m - i : Nat) : Int) := by rw [wrap_i64 (by omega) (by omega)]; omega
          rw [hru] at hv hcnt
          rw [show runB ((m - i, xs[i]) :: runsL (xs.drop m)) = (numA (m - i) ++ valA xs[i]) ++ runB (runsL (xs.drop m)) from rfl] at hv
          rw [List.length_cons] at hcnt
          have hlv := congrArg List.length hv
          simp only [List.length_append] at hlv
          have hb1 := BY.num (m - i)
          have hb2 := BY.val xs[i]
          have hcat1 := catW hys hb1 (by omega)
          have hcat2 : (sB ys ++ sB (numA (m - i))).size + (sB (valA xs[i])).size ≤ 9223372036854775807 := by
            rw [sB_app hys hb1]
            exact catW (BY.app hys hb1) hb2 (by rw [List.length_append]; omega)
          refine acode_draw_chain te_ok mixed [] (by kernel_rfl) ?_
          simp only [aws, eq_self, implies_true, imp_self, reduceIte, reduceCtorEq, Nat.reduceAdd, Nat.reduceLT, Nat.reduceLeDiff, Nat.reduceEqDiff, acmpnil, teset, f0, f3, f4, f5, f6, inj_take, inj_agg, inj_len, hws, hget, Int.natCast_nonneg]
          refine skR_pure (count_pure (m - i) (by omega)) ?_
          simp only [aws, eq_self, reduceIte, sB_num, astr, hcat1]
          refine skR_pure (refvalue_pure _ hoki) ?_
          simp only [aws, eq_self, reduceIte, astr, hcat2]
          refine ⟨xs.length - m, by omega, m, c + 1, ys ++ numA (m - i) ++ valA xs[i], ?_, by rw [wrap_succ (by omega)], rfl, by omega, BY.app (BY.app hys hb1) hb2, ?_, by omega⟩
          · rw [sB_app hys hb1, sB_app (BY.app hys hb1) hb2]
          · rw [← hv]; simp only [List.append_assoc]
        | true =>
          simp only [decide_eq_true_eq] at hc2
          have hmj : m < xs.length := by omega
          have hokm := hx _ (List.getElem_mem hmj)
          have hgm : (xs.map inj)[((m : Nat) : Int).toNat]? = some (inj xs[m]) := by simp [hmj]
          simp only [aws, eq_self, reduceIte, reduceCtorEq, Nat.reduceLeDiff, Nat.reduceEqDiff, teset, f0, f5, f6, inj_take, inj_agg, inj_len, hget, hgm, Int.natCast_nonneg]
          refine skR_pure (refequal_pure xs[m] xs[i] hokm hoki) ?_
          cases hq : (ord xs[m] xs[i] == 0) with
          | false =>
            have hq2 : ord xs[m] xs[i] ≠ 0 := by simpa using hq
            have h0 : headN xs[i] (xs.drop m) = 0 := by
              rw [headN_step hmj, if_neg]
              rw [ord_anti hokm hoki]; omega
            rw [h0, Nat.add_zero] at hm
            obtain ⟨him, hru⟩ := runs_next hi hm (ord_self hoki)
            simp only [aws, eq_self, reduceIte, reduceCtorEq, Nat.reduceLT, Nat.reduceEqDiff, acmpnil, f0, f3, f4, f5]
            have hws : IntKind.i64.wrap ((m : Int) - (i : Int)) = ((m - i : Nat) : Int) := by rw [wrap_i64 (by omega) (by omega)]; omega
            rw [hru] at hv hcnt
            rw [show runB ((m - i, xs[i]) :: runsL (xs.drop m)) = (numA (m - i) ++ valA xs[i]) ++ runB (runsL (xs.drop m)) from rfl] at hv
            rw [List.length_cons] at hcnt
            have hlv := congrArg List.length hv
            simp only [List.length_append] at hlv
            have hb1 := BY.num (m - i)
            have hb2 := BY.val xs[i]
            have hcat1 := catW hys hb1 (by omega)
            have hcat2 : (sB ys ++ sB (numA (m - i))).size + (sB (valA xs[i])).size ≤ 9223372036854775807 := by
              rw [sB_app hys hb1]
              exact catW (BY.app hys hb1) hb2 (by rw [List.length_append]; omega)
            refine acode_draw_chain te_ok mixed [] (by kernel_rfl) ?_
            simp only [aws, eq_self, implies_true, imp_self, reduceIte, reduceCtorEq, Nat.reduceAdd, Nat.reduceLT, Nat.reduceLeDiff, Nat.reduceEqDiff, acmpnil, teset, f0, f3, f4, f5, f6, inj_take, inj_agg, inj_len, hws, hget, Int.natCast_nonneg]
            refine skR_pure (count_pure (m - i) (by omega)) ?_
            simp only [aws, eq_self, reduceIte, sB_num, astr, hcat1]
            refine skR_pure (refvalue_pure _ hoki) ?_
            simp only [aws, eq_self, reduceIte, astr, hcat2]
            refine ⟨xs.length - m, by omega, m, c + 1, ys ++ numA (m - i) ++ valA xs[i], ?_, by rw [wrap_succ (by omega)], rfl, by omega, BY.app (BY.app hys hb1) hb2, ?_, by omega⟩
            · rw [sB_app hys hb1, sB_app (BY.app hys hb1) hb2]
            · rw [← hv]; simp only [List.append_assoc]
          | true =>
            have hq2 : ord xs[m] xs[i] = 0 := by simpa using hq
            have hst : headN xs[i] (xs.drop m) = 1 + headN xs[i] (xs.drop (m + 1)) := by
              rw [headN_step hmj, if_pos]
              rw [ord_anti hokm hoki]; omega
            simp only [aws, eq_self, reduceIte, reduceCtorEq, Nat.reduceLT, Nat.reduceEqDiff, acmpnil, f0, f3, f4, f5, f6]
            exact ⟨n2 - 1, by omega, m + 1, by rw [wrap_succ (by omega)], by omega, by omega⟩
end Go.Proofs.YtlbhgoffiigfbaaGreat.AW
end
section
set_option linter.unusedSimpArgs false
set_option linter.unusedVariables false
namespace Go.Proofs.YtlbhgoffiigfbaaGreat.AW
open Go Go.RowKit

theorem merge_a {a b : List V} {i k : Nat} (hi : i < a.length) (h : b.length ≤ k ∨ ∃ hk : k < b.length, leV a[i] b[k] = true) : (a.drop i).merge (b.drop k) leV = a[i] :: (a.drop (i + 1)).merge (b.drop k) leV := by
  rw [List.drop_eq_getElem_cons hi]
  rcases h with h | ⟨hk, hle⟩
  · rw [List.drop_eq_nil_of_le h, List.merge_right, List.merge_right]
  · rw [List.drop_eq_getElem_cons hk, List.cons_merge_cons, if_pos hle]
theorem merge_b {a b : List V} {i k : Nat} (hk : k < b.length) (h : a.length ≤ i ∨ ∃ hi : i < a.length, leV a[i] b[k] = false) : (a.drop i).merge (b.drop k) leV = b[k] :: (a.drop i).merge (b.drop (k + 1)) leV := by
  rw [List.drop_eq_getElem_cons hk]
  rcases h with h | ⟨hi, hle⟩
  · rw [List.drop_eq_nil_of_le h, List.nil_merge, List.nil_merge]
  · rw [List.drop_eq_getElem_cons hi, List.cons_merge_cons, if_neg (by rw [hle]; decide)]
theorem sort_halves {xs : List V} (hx : ∀ x ∈ xs, Vok x) (m : Nat) : (sortV (xs.take m)).merge (sortV (xs.drop m)) leV = sortV xs := by
  have hp : ((sortV (xs.take m)).merge (sortV (xs.drop m)) leV).Perm xs := by
    refine (List.merge_perm_append leV).trans ?_
    refine ((sortV_perm _).append (sortV_perm _)).trans ?_
    rw [List.take_append_drop]
  refine sorted_one (fun a ha => hx a (hp.mem_iff.1 ha)) (hp.trans (sortV_perm xs).symm) ?_ (sortV_sorted xs)
  exact List.pairwise_merge leV_trans leV_total _ _ (sortV_sorted _) (sortV_sorted _)
theorem le_ord {a b : V} (ha : Vok a) (hb : Vok b) : decide (ord a b ≤ 0) = leV a b := by unfold leV; rw [ord_eq _ _ ha hb]
set_option maxHeartbeats 8000000 in
theorem refsorted_pure : ∀ (n : Nat) (xs : List V), xs.length < n → n ≤ 1001 → (∀ x ∈ xs, Vok x) → Pure Tryz.prog 63 [.sl .ro 5 (xs.map inj)] (.sl .ro 5 ((sortV xs).map inj)) := by
  intro n
  induction n with
  | zero => intro xs h0; exact absurd h0 (Nat.not_lt_zero _)
  | succ n ih =>
    intro xs hn h1000 hx
    refine Pure.ofW ⟨Tryz.f63, Tryz.func63, rfl, by kernel_rfl⟩ (by simp only [AV.under]; exact injs_und _) (fun h hsc => ?_)
    refine acalls_of te_ok [31, 32, 33, 34] Tryz.func63 (c := _) rfl (Nat.le_of_ble_eq_true rfl) ?_
    simp only [aws, eq_self, reduceIte, Nat.reduceLT, acmpnil, teset, Tryz.ntmps63, Tryz.results63, List.length_map]
    cases hc : decide ((xs.length : Int) < 2) with
    | true =>
      simp only [decide_eq_true_eq] at hc
      rcases xs with _ | ⟨x, _ | ⟨y, xs⟩⟩
      · simp only [aws, eq_self, reduceIte, reduceCtorEq, Nat.reduceLT, Nat.reduceLeDiff, Nat.reduceEqDiff, Nat.reduceMul, appBox, ares1, appendTo, teset, range0, Int.natCast_zero]
        exact ⟨.refl _, _, rfl, by rw [show sortV [] = [] by simp [sortV]]; exact .ro⟩
      · simp only [aws, eq_self, reduceIte, reduceCtorEq, Nat.reduceLT, Nat.reduceLeDiff, Nat.reduceEqDiff, Nat.reduceMul, appBox, ares1, appendTo, teset, range0]
        refine .inl ⟨(AH.Ext.refl h).newTok, _, rfl, by rw [show sortV [x] = [x] by simp [sortV]]; exact .ro⟩
      · exfalso; simp only [List.length_cons] at hc; omega
    | false =>
      simp only [decide_eq_false_iff_not] at hc
      obtain ⟨m, hm⟩ : ∃ m, m = xs.length / 2 := ⟨_, rfl⟩
      have hq : IntKind.i64.wrap (((xs.length : Nat) : Int).tdiv 2) = ((m : Nat) : Int) := by
        rw [Int.tdiv_eq_ediv_of_nonneg (Int.natCast_nonneg _), wrap_i64 (by omega) (by omega)]; omega
      have hml : m ≤ xs.length := by omega
      have hs1 : List.take m (List.map inj xs) = (xs.take m).map inj := List.map_take.symm
      have hs2 : List.take (xs.length - m) (List.drop m (List.map inj xs)) = (xs.drop m).map inj := by
        rw [List.take_of_length_le (by rw [List.length_drop, List.length_map]; exact Nat.le_refl _), List.map_drop]
      simp only [aws]
      refine acode_draw_chain te_ok mixed [] (by kernel_rfl) ?_
      simp only [aws, eq_self, reduceIte, reduceCtorEq, Nat.reduceAdd, Nat.reduceLT, Nat.reduceEqDiff, Int.reduceEq, acmpnil, teset, List.length_map, hq, Int.natCast_nonneg, Int.toNat_natCast, Nat.zero_le, hml, Nat.le_refl, if_true, ite_self, Nat.sub_zero, hs1, hs2]
      refine skR_pure (ih (xs.take m) (by rw [List.length_take]; omega) (by omega) (fun x hx2 => hx x (List.mem_of_mem_take hx2))) ?_
      refine skR_pure (ih (xs.drop m) (by rw [List.length_drop]; omega) (by omega) (fun x hx2 => hx x (List.mem_of_mem_drop hx2))) ?_
      obtain ⟨a, ha⟩ : ∃ a, a = sortV (xs.take m) := ⟨_, rfl⟩
      obtain ⟨b, hb⟩ : ∃ b, b = sortV (xs.drop m) := ⟨_, rfl⟩
      have hoa : ∀ x ∈ a, Vok x := fun x hx2 => hx x (List.mem_of_mem_take (sortV_mem.1 (ha ▸ hx2)))
      have hob : ∀ x ∈ b, Vok x := fun x hx2 => hx x (List.mem_of_mem_drop (sortV_mem.1 (hb ▸ hx2)))
      have hab : a.merge b leV = sortV xs := by rw [ha, hb]; exact sort_halves hx m
      have hal : a.length ≤ 1000 := by rw [ha, sortV_len, List.length_take]; omega
      have hbl : b.length ≤ 1000 := by rw [hb, sortV_len, List.length_drop]; omega
      rw [← ha, ← hb, ← hab]
      refine ⟨fun n s' h' => ∃ (i k : Nat) (aX : AV) (out : List V), s' 3 = .sl .ro 5 (a.map inj) ∧ s' 4 = .sl .ro 5 (b.map inj) ∧ s' 5 = aX ∧ s' 6 = .int .i64 i ∧ s' 7 = .int .i64 k ∧ n + i + k = a.length + b.length ∧ i ≤ a.length ∧ k ≤ b.length ∧ h.Ext h' ∧ Own5 h' h.nt aX out ∧ out ++ (a.drop i).merge (b.drop k) leV = a.merge b leV, ⟨a.length + b.length, 0, 0, .sl .full 0 [], [], ?_⟩, ?_⟩
      · simp only [aws, eq_self, reduceIte, Nat.reduceEqDiff, Int.natCast_zero]
        exact ⟨Nat.zero_le _, Nat.zero_le _, .refl _, .inl ⟨rfl, rfl⟩⟩
      · rintro n' s' h' ⟨i, k, aX, out, e3, e4, e5, e6, e7, hnn, hi, hk, hE, ho, hv⟩
        simp only [aws, eq_self, implies_true, imp_self, reduceIte, Nat.reduceLT, Nat.reduceEqDiff, Nat.reduceBEq, acmpnil, teset, e3, e4, e6, e7, List.length_map]
        cases hc2 : (decide ((i : Int) < (a.length : Int)) || decide ((k : Int) < (b.length : Int))) with
        | false =>
          have hend : a.length ≤ i ∧ b.length ≤ k := by
            obtain ⟨h1, h2⟩ := Bool.or_eq_false_iff.1 hc2
            simp only [decide_eq_false_iff_not] at h1 h2
            omega
          rw [List.drop_eq_nil_of_le hend.1, List.drop_eq_nil_of_le hend.2, List.merge_right, List.append_nil] at hv
          simp only [aws, eq_self, reduceIte, Nat.reduceLT, Nat.reduceEqDiff, ares1, e5]
          exact ⟨hE, _, rfl, hv ▸ ho.wk⟩
        | true =>
          have hor : i < a.length ∨ k < b.length := by
            rcases Bool.or_eq_true_iff.1 hc2 with h1 | h1
            · simp only [decide_eq_true_eq] at h1; omega
            · simp only [decide_eq_true_eq] at h1; omega
          simp only [aws]
          refine acode_draw_chain te_ok mixed [] (by kernel_rfl) ?_
          simp only [aws, eq_self, reduceIte, Nat.reduceAdd, Nat.reduceLT, Nat.reduceEqDiff, acmpnil, teset, e4, e7, List.length_map]
          cases hkq : ((k : Int) == (b.length : Int)) with
          | true =>
            have hkb2 : k = b.length := by
              have : (k : Int) = (b.length : Int) := by simpa using hkq
              omega
            have hia : i < a.length := by omega
            have hmv := merge_a (b := b) (k := k) hia (.inl (by omega))
            simp only [aws, eq_self, reduceIte, Nat.reduceLT, Nat.reduceEqDiff, teset, e3, e5, e6]
            have hget : (a.map inj)[((i : Nat) : Int).toNat]? = some (inj a[i]) := by simp [hia]
            rw [hmv] at hv
            rcases ho with ⟨rfl, rfl⟩ | ⟨t, G, rfl, htk, htn⟩
            · simp only [aws, eq_self, reduceIte, reduceCtorEq, Nat.reduceLT, Nat.reduceLeDiff, Nat.reduceEqDiff, Nat.reduceMul, acmpnil, appBox, appendTo, teset, e3, e4, e5, e6, e7, inj_take, inj_agg, inj_len, inj_one, hget, Int.natCast_nonneg, range1, inj_len, inj_one]
              refine .inl ?_
              refine ⟨n' - 1, by omega, i + 1, k, _, [] ++ [a[i]], rfl, by rw [wrap_succ (by omega)], rfl, by omega, by omega, hk, hE.newTok, .inr ⟨h'.nt, 0, rfl, by rw [newTok_tok, if_pos rfl], hE.nt⟩, ?_⟩
              rw [List.append_assoc]; exact hv
            · have hout : out.length < 1000000 := by
                have := congrArg List.length hv
                rw [List.length_append, List.length_merge] at this
                omega
              have hb0 : (out.length + 1) * 80 ≤ 140737488355328 := by omega
              simp only [aws, eq_self, reduceIte, reduceCtorEq, Nat.reduceLT, Nat.reduceLeDiff, Nat.reduceEqDiff, Nat.reduceMul, acmpnil, appBox, appendTo, teset, e3, e4, e5, e6, e7, inj_take, inj_agg, inj_len, inj_one, List.length_map, hget, Int.natCast_nonneg, range1, inj_len, inj_one, htk, hb0, List.length_map]
              refine ⟨n' - 1, by omega, i + 1, k, _, out ++ [a[i]], rfl, by rw [wrap_succ (by omega)], rfl, by omega, by omega, hk, hE.setTok htn _, .inr ⟨t, G + 1, by simp, by rw [setTok_tok, if_pos rfl], htn⟩, ?_⟩
              rw [List.append_assoc]; exact hv
          | false =>
            have hkb2 : k ≠ b.length := by
              have : ¬ (k : Int) = (b.length : Int) := by simpa using hkq
              omega
            have hkb : k < b.length := by omega
            simp only [aws, eq_self, reduceIte, Nat.reduceEqDiff, acmpnil, teset, e3, e6, List.length_map]
            cases hi2 : decide ((i : Int) < (a.length : Int)) with
            | false =>
              have hia : a.length ≤ i := by simp only [decide_eq_false_iff_not] at hi2; omega
              have hmv := merge_b (a := a) (i := i) hkb (.inl hia)
              simp only [aws, eq_self, reduceIte, Nat.reduceLT, Nat.reduceEqDiff, teset, e4, e5, e7]
              have hget : (b.map inj)[((k : Nat) : Int).toNat]? = some (inj b[k]) := by simp [hkb]
              rw [hmv] at hv
              rcases ho with ⟨rfl, rfl⟩ | ⟨t, G, rfl, htk, htn⟩
              · simp only [aws, eq_self, reduceIte, reduceCtorEq, Nat.reduceLT, Nat.reduceLeDiff, Nat.reduceEqDiff, Nat.reduceMul, acmpnil, appBox, appendTo, teset, e3, e4, e5, e6, e7, inj_take, inj_agg, inj_len, inj_one, hget, Int.natCast_nonneg, range1, inj_len, inj_one]
                refine .inl ?_
                refine ⟨n' - 1, by omega, i, k + 1, _, [] ++ [b[k]], rfl, rfl, by rw [wrap_succ (by omega)], by omega, hi, by omega, hE.newTok, .inr ⟨h'.nt, 0, rfl, by rw [newTok_tok, if_pos rfl], hE.nt⟩, ?_⟩
                rw [List.append_assoc]; exact hv
              · have hout : out.length < 1000000 := by
                  have := congrArg List.length hv
                  rw [List.length_append, List.length_merge] at this
                  omega
                have hb0 : (out.length + 1) * 80 ≤ 140737488355328 := by omega
                simp only [aws, eq_self, reduceIte, reduceCtorEq, Nat.reduceLT, Nat.reduceLeDiff, Nat.reduceEqDiff, Nat.reduceMul, acmpnil, appBox, appendTo, teset, e3, e4, e5, e6, e7, inj_take, inj_agg, inj_len, inj_one, List.length_map, hget, Int.natCast_nonneg, range1, inj_len, inj_one, htk, hb0, List.length_map]
                refine ⟨n' - 1, by omega, i, k + 1, _, out ++ [b[k]], rfl, rfl, by rw [wrap_succ (by omega)], by omega, hi, by omega, hE.setTok htn _, .inr ⟨t, G + 1, by simp, by rw [setTok_tok, if_pos rfl], htn⟩, ?_⟩
                rw [List.append_assoc]; exact hv
            | true =>
              have hia : i < a.length := by simp only [decide_eq_true_eq] at hi2; omega
              have hga : (a.map inj)[((i : Nat) : Int).toNat]? = some (inj a[i]) := by simp [hia]
              have hgb : (b.map inj)[((k : Nat) : Int).toNat]? = some (inj b[k]) := by simp [hkb]
              have hva := hoa _ (List.getElem_mem hia)
              have hvb := hob _ (List.getElem_mem hkb)
              simp only [aws, eq_self, reduceIte, Nat.reduceLeDiff, Nat.reduceEqDiff, acmpnil, teset, e3, e4, e6, e7, inj_take, inj_agg, inj_len, hga, hgb, Int.natCast_nonneg]
              refine skR_pure (reforder_pure a[i] b[k] hva hvb) ?_
              simp only [aws, eq_self, reduceIte]
              rw [le_ord hva hvb]
              cases hle : leV a[i] b[k] with
              | true =>
                have hmv := merge_a hia (.inr ⟨hkb, hle⟩)
                simp only [aws, eq_self, reduceIte, Nat.reduceLT, Nat.reduceEqDiff, teset, e3, e5, e6]
                have hget : (a.map inj)[((i : Nat) : Int).toNat]? = some (inj a[i]) := by simp [hia]
                rw [hmv] at hv
                rcases ho with ⟨rfl, rfl⟩ | ⟨t, G, rfl, htk, htn⟩
                · simp only [aws, eq_self, reduceIte, reduceCtorEq, Nat.reduceLT, Nat.reduceLeDiff, Nat.reduceEqDiff, Nat.reduceMul, acmpnil, appBox, appendTo, teset, e3, e4, e5, e6, e7, inj_take, inj_agg, inj_len, inj_one, hget, Int.natCast_nonneg, range1, inj_len, inj_one]
                  refine .inl ?_
                  refine ⟨n' - 1, by omega, i + 1, k, _, [] ++ [a[i]], rfl, by rw [wrap_succ (by omega)], rfl, by omega, by omega, hk, hE.newTok, .inr ⟨h'.nt, 0, rfl, by rw [newTok_tok, if_pos rfl], hE.nt⟩, ?_⟩
                  rw [List.append_assoc]; exact hv
                · have hout : out.length < 1000000 := by
                    have := congrArg List.length hv
                    rw [List.length_append, List.length_merge] at this
                    omega
                  have hb0 : (out.length + 1) * 80 ≤ 140737488355328 := by omega
                  simp only [aws, eq_self, reduceIte, reduceCtorEq, Nat.reduceLT, Nat.reduceLeDiff, Nat.reduceEqDiff, Nat.reduceMul, acmpnil, appBox, appendTo, teset, e3, e4, e5, e6, e7, inj_take, inj_agg, inj_len, inj_one, List.length_map, hget, Int.natCast_nonneg, range1, inj_len, inj_one, htk, hb0, List.length_map]
                  refine ⟨n' - 1, by omega, i + 1, k, _, out ++ [a[i]], rfl, by rw [wrap_succ (by omega)], rfl, by omega, by omega, hk, hE.setTok htn _, .inr ⟨t, G + 1, by simp, by rw [setTok_tok, if_pos rfl], htn⟩, ?_⟩
                  rw [List.append_assoc]; exact hv
              | false =>
                have hmv := merge_b hkb (.inr ⟨hia, hle⟩)
                simp only [aws, eq_self, reduceIte, Nat.reduceLT, Nat.reduceEqDiff, teset, e4, e5, e7]
                have hget : (b.map inj)[((k : Nat) : Int).toNat]? = some (inj b[k]) := by simp [hkb]
                rw [hmv] at hv
                rcases ho with ⟨rfl, rfl⟩ | ⟨t, G, rfl, htk, htn⟩
                · simp only [aws, eq_self, reduceIte, reduceCtorEq, Nat.reduceLT, Nat.reduceLeDiff, Nat.reduceEqDiff, Nat.reduceMul, acmpnil, appBox, appendTo, teset, e3, e4, e5, e6, e7, inj_take, inj_agg, inj_len, inj_one, hget, Int.natCast_nonneg, range1, inj_len, inj_one]
                  refine .inl ?_
                  refine ⟨n' - 1, by omega, i, k + 1, _, [] ++ [b[k]], rfl, rfl, by rw [wrap_succ (by omega)], by omega, hi, by omega, hE.newTok, .inr ⟨h'.nt, 0, rfl, by rw [newTok_tok, if_pos rfl], hE.nt⟩, ?_⟩
                  rw [List.append_assoc]; exact hv
                · have hout : out.length < 1000000 := by
                    have := congrArg List.length hv
                    rw [List.length_append, List.length_merge] at this
                    omega
                  have hb0 : (out.length + 1) * 80 ≤ 140737488355328 := by omega
                  simp only [aws, eq_self, reduceIte, reduceCtorEq, Nat.reduceLT, Nat.reduceLeDiff, Nat.reduceEqDiff, Nat.reduceMul, acmpnil, appBox, appendTo, teset, e3, e4, e5, e6, e7, inj_take, inj_agg, inj_len, inj_one, List.length_map, hget, Int.natCast_nonneg, range1, inj_len, inj_one, htk, hb0, List.length_map]
                  refine ⟨n' - 1, by omega, i, k + 1, _, out ++ [b[k]], rfl, rfl, by rw [wrap_succ (by omega)], by omega, hi, by omega, hE.setTok htn _, .inr ⟨t, G + 1, by simp, by rw [setTok_tok, if_pos rfl], htn⟩, ?_⟩
                  rw [List.append_assoc]; exact hv
end Go.Proofs.YtlbhgoffiigfbaaGreat.AW
end
section
set_option linter.unusedSimpArgs false
set_option linter.unusedVariables false
namespace Go.Proofs.YtlbhgoffiigfbaaGreat.AW
open Go Go.RowKit

def ddO : Option V → List V → List V
  | none, l => dd l
  | some p, l => ddG p l
def pO (s : List V) (j : Nat) : Option V := if j = 0 then none else s[j-1]?
theorem pO_succ {s : List V} {j : Nat} (hj : j < s.length) : pO s (j + 1) = some s[j] := by
  unfold pO
  rw [if_neg (by omega), Nat.add_sub_cancel, List.getElem?_eq_getElem hj]
theorem ddO_zero {s : List V} (hj : 0 < s.length) : ddO (pO s 0) (s.drop 0) = s[0] :: ddO (pO s (0 + 1)) (s.drop (0 + 1)) := by
  rw [pO_succ hj, show pO s 0 = none from rfl, List.drop_eq_getElem_cons hj]
  rfl
theorem ddO_step {s : List V} {i : Nat} (hj : i + 1 < s.length) : ddO (pO s (i + 1)) (s.drop (i + 1)) = if ord s[i + 1] s[i] = 0 then ddO (pO s (i + 1 + 1)) (s.drop (i + 1 + 1)) else s[i + 1] :: ddO (pO s (i + 1 + 1)) (s.drop (i + 1 + 1)) := by
  rw [pO_succ hj, pO_succ (show i < s.length by omega)]
  show ddG s[i] (s.drop (i + 1)) = if ord s[i + 1] s[i] = 0 then ddG s[i + 1] (s.drop (i + 1 + 1)) else s[i + 1] :: ddG s[i + 1] (s.drop (i + 1 + 1))
  exact ddG_step _ hj
set_option maxHeartbeats 4000000 in
theorem refdistinct_pure (xs : List V) (hx : ∀ x ∈ xs, Vok x) (hval : xs.all valid = true) (hl : xs.length ≤ 1000) : Pure Tryz.prog 50 [.sl .ro 5 (xs.map inj)] (.tup [.sl .ro 5 ((wordsL xs).map inj), .int .i64 0]) := by
  refine Pure.ofW ⟨Tryz.f50, Tryz.func50, rfl, by kernel_rfl⟩ (by simp only [AV.under, AV.underL, injs_und, Bool.and_true]) (fun h hsc => ?_)
  refine acalls_of te_ok [] Tryz.func50 (c := _) rfl (Nat.le_of_ble_eq_true rfl) ?_
  simp only [aws, eq_self, reduceIte, Nat.reduceLT, Tryz.ntmps50, Tryz.results50]
  have hav := allvalid_pure xs (by omega)
  rw [hval] at hav
  refine ACallV.pure hav ?_
  simp only [aws, eq_self, reduceIte, reduceCtorEq, Nat.reduceLT]
  refine ACallV.pure (refsorted_pure (xs.length + 1) xs (by omega) (by omega) hx) ?_
  obtain ⟨s, hs⟩ : ∃ s, s = sortV xs := ⟨_, rfl⟩
  have hok : ∀ x ∈ s, Vok x := fun x hx2 => hx x (sortV_mem.1 (hs ▸ hx2))
  have hsl : s.length ≤ 1000 := by rw [hs, sortV_len]; omega
  unfold wordsL
  rw [← hs]
  simp only [aws, eq_self, reduceIte, Nat.reduceLT, Nat.reduceEqDiff]
  refine ⟨fun n s' h' => ∃ (j : Nat) (aX : AV) (out : List V), s' 4 = .sl .ro 5 (s.map inj) ∧ s' 5 = aX ∧ s' 6 = .int .i64 j ∧ n + j = s.length ∧ h.Ext h' ∧ Own5 h' h.nt aX out ∧ out ++ ddO (pO s j) (s.drop j) = dd s, ⟨s.length, 0, .sl .full 0 [], [], ?_⟩, ?_⟩
  · simp only [aws, eq_self, reduceIte, Int.natCast_zero]
    exact ⟨.refl _, .inl ⟨rfl, rfl⟩, rfl⟩
  · rintro n s' h' ⟨j, aX, out, e4, e5, e6, hn, hE, ho, hv⟩
    simp only [aws, eq_self, reduceIte, Nat.reduceLT, acmpnil, teset, e4, e6, List.length_map]
    cases hc : decide ((j : Int) < (s.length : Int)) with
    | false =>
      simp only [decide_eq_false_iff_not] at hc
      have hnil : ddO (pO s j) (s.drop j) = [] := by
        rw [List.drop_eq_nil_of_le (by omega)]
        cases pO s j <;> simp [ddO, dd, ddG]
      rw [hnil, List.append_nil] at hv
      simp only [aws, eq_self, reduceIte, Nat.reduceLT, Nat.reduceEqDiff, ares1, e5]
      exact ⟨hE, _, rfl, (WkAll.cons (hv ▸ ho.wk) (.cons (.refl _) .nil)).tup⟩
    | true =>
      simp only [decide_eq_true_eq] at hc
      have hj : j < s.length := by omega
      simp only [aws]
      refine acode_draw_chain te_ok mixed [] (by kernel_rfl) ?_
      simp only [aws, eq_self, reduceIte, Nat.reduceAdd, Nat.reduceLT, Nat.reduceEqDiff, acmpnil, e6]
      cases h0 : ((j : Int) == 0) with
      | true =>
        have hj0 : j = 0 := by
          have : (j : Int) = 0 := by simpa using h0
          omega
        have hst : ddO (pO s j) (s.drop j) = s[j] :: ddO (pO s (j + 1)) (s.drop (j + 1)) := by
          subst hj0; exact ddO_zero hj
        rw [hst] at hv
        simp only [aws, eq_self, reduceIte, Nat.reduceLT, Nat.reduceEqDiff, teset, e4, e5, e6]
        have hget : (s.map inj)[((j : Nat) : Int).toNat]? = some (inj s[j]) := by simp [hj]
        rcases ho with ⟨rfl, rfl⟩ | ⟨t, G, rfl, htk, htn⟩
        · simp only [aws, eq_self, reduceIte, reduceCtorEq, Nat.reduceLT, Nat.reduceLeDiff, Nat.reduceEqDiff, Nat.reduceMul, acmpnil, appBox, appendTo, teset, e4, e5, e6, inj_take, inj_agg, inj_len, inj_one, hget, Int.natCast_nonneg, range1, inj_len, inj_one]
          refine .inl ?_
          refine ⟨n - 1, by omega, j + 1, _, [] ++ [s[j]], rfl, by rw [wrap_succ (by omega)], by omega, hE.newTok, .inr ⟨h'.nt, 0, rfl, by rw [newTok_tok, if_pos rfl], hE.nt⟩, ?_⟩
          rw [List.append_assoc]; exact hv
        · have hout : out.length < 1000000 := by
            have := congrArg List.length hv
            rw [List.length_append] at this
            have h3 := dd_len s
            omega
          have hb0 : (out.length + 1) * 80 ≤ 140737488355328 := by omega
          simp only [aws, eq_self, reduceIte, reduceCtorEq, Nat.reduceLT, Nat.reduceLeDiff, Nat.reduceEqDiff, Nat.reduceMul, acmpnil, appBox, appendTo, teset, e4, e5, e6, inj_take, inj_agg, inj_len, inj_one, List.length_map, hget, Int.natCast_nonneg, range1, inj_len, inj_one, htk, hb0, List.length_map]
          refine ⟨n - 1, by omega, j + 1, _, out ++ [s[j]], rfl, by rw [wrap_succ (by omega)], by omega, hE.setTok htn _, .inr ⟨t, G + 1, by simp, by rw [setTok_tok, if_pos rfl], htn⟩, ?_⟩
          rw [List.append_assoc]; exact hv
      | false =>
        have hj0 : j ≠ 0 := by
          have : ¬ (j : Int) = 0 := by simpa using h0
          omega
        obtain ⟨i, hji⟩ : ∃ i, j = i + 1 := ⟨j - 1, by omega⟩
        have hi : i < s.length := by omega
        have hg1 : (s.map inj)[((i : Nat) : Int).toNat]? = some (inj s[i]) := by simp [hi]
        have hg2 : (s.map inj)[((j : Nat) : Int).toNat]? = some (inj s[j]) := by simp [hj]
        have hwi : IntKind.i64.wrap (((j : Nat) : Int) - 1) = ((i : Nat) : Int) := by rw [wrap_i64 (by omega) (by omega)]; omega
        have hvi := hok _ (List.getElem_mem hi)
        have hvj := hok _ (List.getElem_mem hj)
        have hst : ddO (pO s j) (s.drop j) = if ord s[j] s[i] = 0 then ddO (pO s (j + 1)) (s.drop (j + 1)) else s[j] :: ddO (pO s (j + 1)) (s.drop (j + 1)) := by
          subst hji; exact ddO_step hj
        have han := ord_anti hvi hvj
        simp only [aws, eq_self, reduceIte, Nat.reduceLeDiff, Nat.reduceEqDiff, acmpnil, teset, e4, e6, inj_take, inj_agg, inj_len, hg1, hg2, hwi, Int.natCast_nonneg]
        refine skR_pure (refequal_pure s[i] s[j] hvi hvj) ?_
        simp only [aws, eq_self]
        cases hq : (ord s[i] s[j] == 0) with
        | true =>
          have hq2 : ord s[i] s[j] = 0 := by simpa using hq
          rw [hst, if_pos (by omega)] at hv
          simp only [aws, eq_self, reduceIte, Nat.reduceLT, Nat.reduceEqDiff, acmpnil, e4, e5, e6]
          exact ⟨n - 1, by omega, j + 1, _, out, rfl, by rw [wrap_succ (by omega)], by omega, hE, ho, hv⟩
        | false =>
          have hq2 : ord s[i] s[j] ≠ 0 := by simpa using hq
          rw [hst, if_neg (by omega)] at hv
          simp only [aws, eq_self, reduceIte, Nat.reduceLT, Nat.reduceEqDiff, teset, e4, e5, e6]
          have hget : (s.map inj)[((j : Nat) : Int).toNat]? = some (inj s[j]) := by simp [hj]
          rcases ho with ⟨rfl, rfl⟩ | ⟨t, G, rfl, htk, htn⟩
          · simp only [aws, eq_self, reduceIte, reduceCtorEq, Nat.reduceLT, Nat.reduceLeDiff, Nat.reduceEqDiff, Nat.reduceMul, acmpnil, appBox, appendTo, teset, e4, e5, e6, inj_take, inj_agg, inj_len, inj_one, hget, Int.natCast_nonneg, range1, inj_len, inj_one]
            refine .inl ?_
            refine ⟨n - 1, by omega, j + 1, _, [] ++ [s[j]], rfl, by rw [wrap_succ (by omega)], by omega, hE.newTok, .inr ⟨h'.nt, 0, rfl, by rw [newTok_tok, if_pos rfl], hE.nt⟩, ?_⟩
            rw [List.append_assoc]; exact hv
          · have hout : out.length < 1000000 := by
              have := congrArg List.length hv
              rw [List.length_append] at this
              have h3 := dd_len s
              omega
            have hb0 : (out.length + 1) * 80 ≤ 140737488355328 := by omega
            simp only [aws, eq_self, reduceIte, reduceCtorEq, Nat.reduceLT, Nat.reduceLeDiff, Nat.reduceEqDiff, Nat.reduceMul, acmpnil, appBox, appendTo, teset, e4, e5, e6, inj_take, inj_agg, inj_len, inj_one, List.length_map, hget, Int.natCast_nonneg, range1, inj_len, inj_one, htk, hb0, List.length_map]
            refine ⟨n - 1, by omega, j + 1, _, out ++ [s[j]], rfl, by rw [wrap_succ (by omega)], by omega, hE.setTok htn _, .inr ⟨t, G + 1, by simp, by rw [setTok_tok, if_pos rfl], htn⟩, ?_⟩
            rw [List.append_assoc]; exact hv
end Go.Proofs.YtlbhgoffiigfbaaGreat.AW
end
section
set_option linter.unusedSimpArgs false
set_option linter.unusedVariables false
namespace Go.Proofs.YtlbhgoffiigfbaaGreat.AW
open Go Go.RowKit

set_option maxHeartbeats 4000000 in
theorem refdict_pure (xs : List V) (hx : ∀ x ∈ xs, Vok x) (hval : xs.all valid = true) (hl : xs.length ≤ 1000) : Pure Tryz.prog 38 [.sl .ro 5 (xs.map inj)] (.str (sB (dictA xs))) := by
  have hwok := words_ok hx
  have hwl := words_len xs
  have hws := words_sorted xs
  have hall := words_all hx
  have hvl := valsA_len hwok
  have hpl := places_len (wordsL xs) (by omega) xs
  have hn1 := numA_len (wordsL xs).length (by omega)
  have hn2 := numA_len xs.length (by omega)
  have hdl : (dictA xs).length = (numA (wordsL xs).length).length + (valsA (wordsL xs)).length + (numA xs.length).length + (placesA (wordsL xs) xs).length := by unfold dictA; simp only [List.length_append]
  have hc0 := catW (BY.plain (wordsL xs)) (BY.num xs.length) (by unfold plainA; rw [List.length_append]; omega)
  refine Pure.of ⟨Tryz.f38, Tryz.func38, rfl, by kernel_rfl⟩ rfl (fun h => ?_)
  refine acalls_of te_ok [12] Tryz.func38 (c := _) rfl (Nat.le_of_ble_eq_true rfl) ?_
  simp only [aws, eq_self, reduceIte, Nat.reduceLT, Tryz.ntmps38, Tryz.results38]
  refine ACallV.pure (refdistinct_pure xs hx hval hl) ?_
  simp only [aws, eq_self, reduceIte, Nat.reduceLT, Nat.reduceEqDiff]
  refine ACallV.pure (refplain_pure (wordsL xs) hwok (by omega)) ?_
  simp only [aws, eq_self, reduceIte, reduceCtorEq, Nat.reduceLT, Nat.reduceEqDiff, teset, List.length_map]
  refine ACallV.pure (count_pure xs.length (by omega)) ?_
  simp only [aws, eq_self, reduceIte, Nat.reduceLT, Nat.reduceEqDiff, acmpnil, sB_num, astr, hc0]
  refine ⟨fun n s' h' => ∃ (j : Nat) (ys : List AV), s' 0 = .sl .ro 5 (xs.map inj) ∧ s' 3 = .sl .ro 5 ((wordsL xs).map inj) ∧ s' 5 = .str (sB ys) ∧ s' 6 = .int .i64 j ∧ h' = h ∧ n + j = xs.length ∧ BY ys ∧ ys ++ placesA (wordsL xs) (xs.drop j) = dictA xs, ⟨xs.length, 0, plainA (wordsL xs) ++ numA xs.length, ?_⟩, ?_⟩
  · simp only [aws, eq_self, reduceIte, reduceCtorEq, Nat.reduceEqDiff, Int.natCast_zero]
    exact ⟨by rw [sB_app (BY.plain _) (BY.num _)], BY.app (BY.plain _) (BY.num _), rfl⟩
  · rintro n s' h' ⟨j, ys, e0, e3, e5, e6, rfl, hn, hys, hv⟩
    simp only [aws, eq_self, reduceIte, reduceCtorEq, Nat.reduceLT, acmpnil, teset, e0, e6, List.length_map]
    cases hc : decide ((j : Int) < (xs.length : Int)) with
    | false =>
      simp only [aws, eq_self, reduceIte, Nat.reduceLT, Nat.reduceEqDiff, ares1, e5]
      simp only [decide_eq_false_iff_not] at hc
      rw [List.drop_eq_nil_of_le (by omega), show placesA (wordsL xs) [] = [] from rfl, List.append_nil] at hv
      exact ⟨.refl _, _, rfl, by rw [hv]; rfl⟩
    | true =>
      simp only [decide_eq_true_eq] at hc
      have hj : j < xs.length := by omega
      have hget : (xs.map inj)[((j : Nat) : Int).toNat]? = some (inj xs[j]) := by simp [hj]
      have hokj := hx _ (List.getElem_mem hj)
      obtain ⟨q, hq, hqe⟩ := List.mem_iff_getElem.1 (hall _ (List.getElem_mem hj))
      rw [places_drop hj] at hv
      have hlv := congrArg List.length hv
      simp only [List.length_append] at hlv
      simp only [aws, eq_self, Nat.reduceLT]
      refine ⟨fun n2 s2 h2 => ∃ (k : Nat), s2 0 = .sl .ro 5 (xs.map inj) ∧ s2 3 = .sl .ro 5 ((wordsL xs).map inj) ∧ s2 5 = .str (sB ys) ∧ s2 6 = .int .i64 j ∧ s2 7 = .int .i64 k ∧ h2 = h' ∧ n2 + k = (wordsL xs).length ∧ (∀ (k' : Nat) w, k' < k → (wordsL xs)[k']? = some w → ord w xs[j] ≠ 0), ⟨(wordsL xs).length, 0, ?_⟩, ?_⟩
      · simp only [aws, ne_eq, eq_self, reduceIte, reduceCtorEq, Nat.reduceEqDiff, e0, e3, e5, e6, Int.natCast_zero]
        exact fun k' w hk' => absurd hk' (Nat.not_lt_zero _)
      · rintro n2 s2 h2 ⟨k, f0, f3, f5, f6, f7, rfl, hn2, hbef⟩
        have hk : k < (wordsL xs).length := by
          by_cases hlt : q < k
          · have := hbef q _ hlt (List.getElem?_eq_getElem hq)
            rw [hqe] at this
            exact absurd (ord_self hokj) this
          · omega
        have hgk : ((wordsL xs).map inj)[((k : Nat) : Int).toNat]? = some (inj (wordsL xs)[k]) := by simp [hk]
        have hokk := hwok _ (List.getElem_mem hk)
        simp only [aws, ne_eq]
        refine acode_draw_chain te_ok mixed [] (by kernel_rfl) ?_
        simp only [aws, eq_self, reduceIte, reduceCtorEq, Nat.reduceAdd, Nat.reduceLT, Nat.reduceLeDiff, Nat.reduceEqDiff, teset, f0, f3, f6, f7, inj_take, inj_agg, inj_len, hget, hgk, Int.natCast_nonneg]
        refine skR_pure (refequal_pure _ _ hokk hokj) ?_
        simp only [aws, eq_self]
        cases hz : (ord (wordsL xs)[k] xs[j] == 0) with
        | true =>
          have hz2 : ord (wordsL xs)[k] xs[j] = 0 := by simpa using hz
          have hlb := lb_first hws hwok hokj hk hz2 hbef
          rw [hlb] at hv hlv
          have hb1 := BY.num k
          have hcat := catW hys hb1 (by omega)
          simp only [aws, eq_self, reduceIte, reduceCtorEq, Nat.reduceLT, Nat.reduceEqDiff, acmpnil, ares1, f0, f3, f5, f6, f7]
          refine ACallV.pure (count_pure k (by omega)) ?_
          simp only [aws, eq_self, reduceIte, reduceCtorEq, Nat.reduceLT, Nat.reduceEqDiff, acmpnil, sB_num, f0, f3, f5, f6, astr, hcat]
          refine ⟨n - 1, by omega, j + 1, ys ++ numA k, by rw [sB_app hys hb1], by rw [wrap_succ (by omega)], by omega, BY.app hys hb1, ?_⟩
          rw [List.append_assoc]; exact hv
        | false =>
          have hz2 : ord (wordsL xs)[k] xs[j] ≠ 0 := by simpa using hz
          simp only [aws, eq_self, reduceIte, reduceCtorEq, Nat.reduceLT, Nat.reduceEqDiff, acmpnil, f0, f3, f5, f6, f7]
          refine ⟨n2 - 1, by omega, k + 1, by rw [wrap_succ (by omega)], by omega, ?_⟩
          intro k' w hk' hw
          by_cases e : k' = k
          · subst e; rw [List.getElem?_eq_getElem hk] at hw; injection hw with hw; subst hw; exact hz2
          · exact hbef k' w (by omega) hw
end Go.Proofs.YtlbhgoffiigfbaaGreat.AW
end
section
set_option linter.unusedSimpArgs false
set_option linter.unusedVariables false
namespace Go.Proofs.YtlbhgoffiigfbaaGreat.AW
open Go Go.RowKit

theorem validL_all {xs : List V} (h : validL xs = true) : xs.all valid = true := by
  unfold validL at h
  exact (Bool.and_eq_true_iff.1 h).2
theorem refbytes_pure (xs : List V) (e : Nat) (h1 : 1 ≤ e) (h4 : e ≤ 4) (hv : validL xs = true) : Pure Tryz.prog 26 [.sl .ro 5 (xs.map inj), .int .i64 (e : Int)] (.str (encS e xs)) := by
  obtain ⟨hx, hl⟩ := validL_ok hv
  have hall := validL_all hv
  rcases nE_cases h1 h4 with rfl | rfl | rfl | rfl
  · rw [show (((1 : Nat) : Int)) = 1 from rfl]
    refine Pure.of ⟨Tryz.f26, Tryz.func26, rfl, by kernel_rfl⟩ rfl (fun h => ?_)
    refine acalls_of te_ok [] Tryz.func26 (c := _) rfl (Nat.le_of_ble_eq_true rfl) ?_
    simp only [aws, eq_self, reduceIte, reduceCtorEq, Nat.reduceLT, Nat.reduceEqDiff, Int.reduceBEq, acmpnil, Tryz.ntmps26, Tryz.results26, Int.reduceBEq]
    refine ACallV.pure (refplain_pure xs hx (by omega)) ?_
    simp only [aws, eq_self, reduceIte, Nat.reduceLT, Nat.reduceEqDiff, ares1]
    exact ⟨.refl _, _, rfl, rfl⟩
  · rw [show (((2 : Nat) : Int)) = 2 from rfl]
    refine Pure.of ⟨Tryz.f26, Tryz.func26, rfl, by kernel_rfl⟩ rfl (fun h => ?_)
    refine acalls_of te_ok [] Tryz.func26 (c := _) rfl (Nat.le_of_ble_eq_true rfl) ?_
    simp only [aws, eq_self, reduceIte, Nat.reduceLT, acmpnil, Tryz.ntmps26, Tryz.results26]
    refine ACallV.pure (refruns_pure xs hx (by omega)) ?_
    simp only [aws, eq_self, reduceIte, Nat.reduceLT, ares1]
    exact ⟨.refl _, _, rfl, rfl⟩
  · rw [show (((3 : Nat) : Int)) = 3 from rfl]
    refine Pure.of ⟨Tryz.f26, Tryz.func26, rfl, by kernel_rfl⟩ rfl (fun h => ?_)
    refine acalls_of te_ok [] Tryz.func26 (c := _) rfl (Nat.le_of_ble_eq_true rfl) ?_
    simp only [aws, eq_self, reduceIte, reduceCtorEq, Nat.reduceLT, Int.reduceBEq, acmpnil, Tryz.ntmps26, Tryz.results26, Int.reduceBEq]
    refine ACallV.pure (refdict_pure xs hx hall (by omega)) ?_
    simp only [aws, eq_self, reduceIte, Nat.reduceLT, Nat.reduceEqDiff, ares1]
    exact ⟨.refl _, _, rfl, rfl⟩
  · rw [show (((4 : Nat) : Int)) = 4 from rfl]
    refine Pure.of ⟨Tryz.f26, Tryz.func26, rfl, by kernel_rfl⟩ rfl (fun h => ?_)
    refine acalls_of te_ok [] Tryz.func26 (c := _) rfl (Nat.le_of_ble_eq_true rfl) ?_
    simp only [aws, eq_self, reduceIte, reduceCtorEq, Nat.reduceLT, Nat.reduceEqDiff, Int.reduceBEq, acmpnil, Tryz.ntmps26, Tryz.results26, Int.reduceBEq]
    refine ACallV.pure (refdelta_pure xs hx (by omega)) ?_
    simp only [aws, eq_self, reduceIte, Nat.reduceLT, Nat.reduceEqDiff, ares1]
    exact ⟨.refl _, _, rfl, rfl⟩
end Go.Proofs.YtlbhgoffiigfbaaGreat.AW
end
section
set_option linter.unusedSimpArgs false
set_option linter.unusedVariables false
namespace Go.Proofs.YtlbhgoffiigfbaaGreat.AW
open Go Go.RowKit

theorem shape_cases {k i : Int} {t : ByteArray} {xs : List V} {ks : List ByteArray} (h : shape (.mk k i t xs ks) = true) :
    (k = 0 ∧ i = 0 ∧ t = ⟨#[]⟩ ∧ xs = [] ∧ ks = []) ∨ (k = 1 ∧ (i = 0 ∨ i = 1) ∧ t = ⟨#[]⟩ ∧ xs = [] ∧ ks = []) ∨ (k = 2 ∧ t = ⟨#[]⟩ ∧ xs = [] ∧ ks = []) ∨ (k = 3 ∧ i = 0 ∧ xs = [] ∧ ks = []) ∨ (k = 4 ∧ i = 0 ∧ t = ⟨#[]⟩ ∧ ks = []) ∨ (k = 5 ∧ i = 0 ∧ t = ⟨#[]⟩ ∧ ks.length = xs.length) := by
  have pl : ∀ {n t' i' k' : Bool}, plainS (.mk k i t xs ks) n t' i' k' = true → (n = true ∨ i = 0) ∧ (t' = true ∨ t = ⟨#[]⟩) ∧ (i' = true ∨ xs = []) ∧ (k' = true ∨ ks = []) := by
    intro n t' i' k' hp
    simp only [plainS, V.int, V.text, V.items, V.keys, Bool.and_eq_true, Bool.or_eq_true, beq_iff_eq] at hp
    obtain ⟨⟨⟨h1, h2⟩, h3⟩, h4⟩ := hp
    refine ⟨h1, h2.imp id (fun e => ba_ext2 e), h3.imp id (fun e => List.eq_nil_of_length_eq_zero (by omega)), h4.imp id (fun e => List.eq_nil_of_length_eq_zero (by omega))⟩
  by_cases h0 : k = 0
  · subst h0; rw [shape_0] at h
    have := pl h; simp at this
    exact .inl ⟨rfl, this⟩
  by_cases h1 : k = 1
  · subst h1; rw [shape_1, Bool.and_eq_true] at h
    have := pl h.1; simp at this
    have h2 := h.2
    simp only [Bool.or_eq_true, beq_iff_eq] at h2
    exact .inr (.inl ⟨rfl, h2, this⟩)
  by_cases h2 : k = 2
  · subst h2; rw [shape_2, Bool.and_eq_true] at h
    have := pl h.1; simp at this
    exact .inr (.inr (.inl ⟨rfl, this⟩))
  by_cases h3 : k = 3
  · subst h3; rw [shape_3, Bool.and_eq_true] at h
    have := pl h.1; simp at this
    exact .inr (.inr (.inr (.inl ⟨rfl, this⟩)))
  by_cases h4 : k = 4
  · subst h4; rw [shape_4] at h
    have := pl h; simp at this
    exact .inr (.inr (.inr (.inr (.inl ⟨rfl, this⟩))))
  by_cases h5 : k = 5
  · subst h5; rw [shape_5, Bool.and_eq_true, Bool.and_eq_true] at h
    have := pl h.1.1; simp at this
    have h2 := h.1.2
    simp only [beq_iff_eq] at h2
    exact .inr (.inr (.inr (.inr (.inr ⟨rfl, this.1, this.2, by omega⟩))))
  rw [shape_x _ _ _ _ h0 h1 h2 h3 h4 h5] at h; cases h
theorem asB_raw (l : List UInt8) : asB (l.map fun (b : UInt8) => AV.int .u8 (b.toNat : Int)) = l := by
  have h := sB_raw l
  unfold sB at h
  simpa using h
theorem BY.raw (l : List UInt8) : BY (l.map fun (b : UInt8) => AV.int .u8 (b.toNat : Int)) := by
  intro x hx
  obtain ⟨c, _, rfl⟩ := List.mem_map.1 hx
  exact ⟨c.toNat, c.toNat_lt, rfl⟩
theorem asB_str (s : ByteArray) : asB (strA s) = numBy s.size ++ s.data.toList := by
  unfold strA
  rw [asB_app (BY.num _) (BY.raw _), asB_num, asB_raw]
theorem asB_byte (n : Nat) (h : n < 256) : asB [AV.int .u8 (IntKind.u8.wrap (n : Int))] = [UInt8.ofNat n] := by
  have hw : IntKind.u8.wrap (n : Int) = (n : Int) := by
    simp only [IntKind.wrap, IntKind.bits, IntKind.signed, Bool.false_and, Bool.false_eq_true, if_false]
    omega
  rw [hw, asB_cons n h BY.nil]
  rfl
theorem u8n (n : Nat) (h : n < 256) : (UInt8.ofNat n).toNat = n := by rw [UInt8.toNat_ofNat']; omega
theorem rText_str (s : ByteArray) (hs : s.size ≤ 100) (r : List UInt8) : rText (asB (strA s) ++ r) = some (s, r) := by
  have hlen : s.data.toList.length = s.size := by simp
  unfold rText
  rw [asB_str, List.append_assoc, rNum_num (by omega)]
  simp only
  rw [if_pos (by rw [List.length_append]; omega), List.take_append_of_le_length (by omega), List.take_of_length_le (by omega), ← hlen, List.drop_left]
theorem rInt_num (i : Int) (h1 : -1000000000000000 ≤ i) (h2 : i ≤ 1000000000000000) (r : List UInt8) : rInt (asB (numA (zig i)) ++ r) = some (i, r) := by
  unfold rInt
  rw [asB_num, rNum_num (by unfold zig; split <;> omega)]
  simp only [unzig_zig]
theorem rCount_num (n : Nat) (hn : n < 72057594037927936) {r : List UInt8} (hr : n ≤ r.length) : rCount (asB (numA n) ++ r) = some (n, r) := by
  unfold rCount
  rw [asB_num, rNum_num hn]
  simp only [if_pos hr]
theorem valA_pos (v : V) : 0 < (valA v).length := by cases v; rw [valA]; simp
theorem valL_ge : ∀ (obj : Bool) (xs : List V) (ks : List ByteArray), (obj = true → ks.length = xs.length) → xs.length ≤ (valL obj xs ks).length
  | _, [], _, _ => by simp
  | false, x :: xs, ks, _ => by
    have h1 := valL_ge false xs ks (fun h => by cases h)
    have h2 := valA_pos x
    rw [valL, List.length_append, List.length_cons]; omega
  | true, x :: xs, [], h => by have := h rfl; simp at this
  | true, x :: xs, k :: ks, h => by
    have h1 := valL_ge true xs ks (fun _ => by have := h rfl; simpa using this)
    have h2 := valA_pos x
    rw [valL, List.length_append, List.length_append, List.length_cons]; omega
theorem rItems_val (L : Nat) : ∀ (obj : Bool) (xs : List V) (ks : List ByteArray), (∀ x ∈ xs, ∀ r, rVal L (asB (valA x) ++ r) = some (x, r)) → (obj = true → ks.length = xs.length) → (obj = false → ks = []) → (∀ k ∈ ks, k.size ≤ 100) → ∀ r, rItems (rVal L) obj xs.length (asB (valL obj xs ks) ++ r) = some (xs, ks, r)
  | true, [], ks, _, h, _, _, r => by
    obtain rfl : ks = [] := List.eq_nil_of_length_eq_zero (by simpa using h rfl)
    rfl
  | false, [], ks, _, _, h, _, r => by
    obtain rfl := h rfl
    rfl
  | false, x :: xs, ks, hx, _, h, _, r => by
    obtain rfl := h rfl
    have ih := rItems_val L false xs [] (fun y hy => hx y (List.mem_cons_of_mem _ hy)) (fun e => by cases e) (fun _ => rfl) (fun k hk => by cases hk) r
    rw [valL, asB_app (BY.val _) (BY.valL _ _ _), List.append_assoc, List.length_cons, rItems]
    simp only [Bool.false_eq_true, if_false]
    rw [hx x List.mem_cons_self]
    simp only
    rw [ih]
  | true, x :: xs, [], _, h, _, _, r => by have := h rfl; simp at this
  | true, x :: xs, k :: ks, hx, h, _, hk, r => by
    have ih := rItems_val L true xs ks (fun y hy => hx y (List.mem_cons_of_mem _ hy)) (fun _ => by have := h rfl; simpa using this) (fun e => by cases e) (fun k hk' => hk k (List.mem_cons_of_mem _ hk')) r
    rw [valL, asB_app (BY.str _) (BY.app (BY.val _) (BY.valL _ _ _)), asB_app (BY.val _) (BY.valL _ _ _), List.append_assoc, List.append_assoc, List.length_cons, rItems]
    simp only [if_true]
    rw [rText_str k (hk k List.mem_cons_self)]
    simp only
    rw [hx x List.mem_cons_self]
    simp only
    rw [ih]
theorem rVal_val : ∀ (L : Nat) (v : V), nodesS L v ≤ 60 → ∀ r, rVal L (asB (valA v) ++ r) = some (v, r) := by
  intro L
  induction L with
  | zero => intro v h; simp [nodesS] at h
  | succ L ih =>
    intro v h r
    simp only [nodesS] at h
    split at h
    · omega
    next hl =>
    split at h
    case isFalse => omega
    next hs =>
    obtain ⟨k, i, t, xs, ks⟩ := v
    simp only [V.items] at h hl
    obtain ⟨hi, ht, hk⟩ := shape_small hs
    have hall := nodesF_all (nodesS L) xs 1 h
    have hxr : ∀ x ∈ xs, ∀ r, rVal L (asB (valA x) ++ r) = some (x, r) := fun x hx => ih x (hall x hx)
    have head : ∀ (n : Nat) (rest : List AV), n < 256 → BY rest → asB (AV.int .u8 (IntKind.u8.wrap (n : Int)) :: rest) = UInt8.ofNat n :: asB rest := fun n rest hn hB => by
      rw [← List.singleton_append, asB_app (BY.one _) hB, asB_byte n hn]; rfl
    have two : ∀ (l : List UInt8) (n : Nat), n < 256 → rVal (L + 1) (UInt8.ofNat n :: l) = (if n = 0 then some (V.mk 0 0 ⟨#[]⟩ [] [], l)
        else if n = 1 then (match rByte l with | some (i, l2) => some (.mk 1 (i : Int) ⟨#[]⟩ [] [], l2) | none => none)
        else if n = 2 then (match rInt l with | some (i, l2) => some (.mk 2 i ⟨#[]⟩ [] [], l2) | none => none)
        else if n = 3 then (match rText l with | some (t, l2) => some (.mk 3 0 t [] [], l2) | none => none)
        else if n = 4 ∨ n = 5 then (match rCount l with
          | some (m, l2) => (match rItems (rVal L) (n == 5) m l2 with
            | some (xs, ks, l3) => some (.mk (n : Int) 0 ⟨#[]⟩ xs ks, l3)
            | none => none)
          | none => none)
        else none) := fun l n hn => by
      rw [rVal]; simp only [rByte, u8n n hn]; rfl
    have hge := valL_ge
    rcases shape_cases hs with ⟨rfl, rfl, rfl, rfl, rfl⟩ | ⟨rfl, hi01, rfl, rfl, rfl⟩ | ⟨rfl, rfl, rfl, rfl⟩ | ⟨rfl, rfl, rfl, rfl⟩ | ⟨rfl, rfl, rfl, rfl⟩ | ⟨rfl, rfl, rfl, hkl⟩
    · rw [valA, show (0 : Int) = ((0 : Nat) : Int) from rfl, if_neg (by decide), if_neg (by decide), if_neg (by decide), if_neg (by decide), head 0 [] (by decide) BY.nil, List.cons_append, two _ 0 (by decide)]
      rfl
    · rw [valA, show (1 : Int) = ((1 : Nat) : Int) from rfl, if_pos rfl]
      obtain ⟨n, hn, rfl⟩ : ∃ n : Nat, n < 256 ∧ i = (n : Int) := by
        rcases hi01 with rfl | rfl
        · exact ⟨0, by decide, rfl⟩
        · exact ⟨1, by decide, rfl⟩
      rw [head 1 _ (by decide) (BY.one _), asB_byte n hn, List.cons_append, two _ 1 (by decide)]
      show (match rByte (UInt8.ofNat n :: r) with | some (i, l2) => some (V.mk 1 (i : Int) ⟨#[]⟩ [] [], l2) | none => none) = _
      simp only [rByte, u8n n hn]
      rfl
    · rw [valA, show (2 : Int) = ((2 : Nat) : Int) from rfl, if_neg (by decide), if_pos rfl, head 2 _ (by decide) (BY.num _), List.cons_append, two _ 2 (by decide)]
      show (match rInt (asB (numA (zig i)) ++ r) with | some (i, l2) => some (V.mk 2 i ⟨#[]⟩ [] [], l2) | none => none) = _
      rw [rInt_num i (by omega) (by omega)]
      rfl
    · rw [valA, show (3 : Int) = ((3 : Nat) : Int) from rfl, if_neg (by decide), if_neg (by decide), if_pos rfl, head 3 _ (by decide) (BY.str _), List.cons_append, two _ 3 (by decide)]
      show (match rText (asB (strA t) ++ r) with | some (t, l2) => some (V.mk 3 0 t [] [], l2) | none => none) = _
      rw [rText_str t ht]
      rfl
    · rw [valA, show (4 : Int) = ((4 : Nat) : Int) from rfl, if_neg (by decide), if_neg (by decide), if_neg (by decide), if_pos (.inl rfl), head 4 _ (by decide) (BY.app (BY.num _) (BY.valL _ _ _)), asB_app (BY.num _) (BY.valL _ _ _), List.cons_append, List.append_assoc, two _ 4 (by decide)]
      have h1 := hge false xs [] (fun e => by cases e)
      show (match rCount (asB (numA xs.length) ++ (asB (valL false xs []) ++ r)) with
          | some (m, l2) => (match rItems (rVal L) false m l2 with
            | some (xs, ks, l3) => some (V.mk (4 : Int) 0 ⟨#[]⟩ xs ks, l3)
            | none => none)
          | none => none) = _
      rw [rCount_num _ (by omega) (by rw [List.length_append, (BY.valL false xs []).len]; omega)]
      simp only
      rw [rItems_val L false xs [] hxr (fun e => by cases e) (fun _ => rfl) (fun k hk => by cases hk) r]
      rfl
    · rw [valA, show (5 : Int) = ((5 : Nat) : Int) from rfl, if_neg (by decide), if_neg (by decide), if_neg (by decide), if_pos (.inr rfl), head 5 _ (by decide) (BY.app (BY.num _) (BY.valL _ _ _)), asB_app (BY.num _) (BY.valL _ _ _), List.cons_append, List.append_assoc, two _ 5 (by decide)]
      have h1 := hge true xs ks (fun _ => hkl)
      show (match rCount (asB (numA xs.length) ++ (asB (valL true xs ks) ++ r)) with
          | some (m, l2) => (match rItems (rVal L) true m l2 with
            | some (xs, ks, l3) => some (V.mk (5 : Int) 0 ⟨#[]⟩ xs ks, l3)
            | none => none)
          | none => none) = _
      rw [rCount_num _ (by omega) (by rw [List.length_append, (BY.valL true xs ks).len]; omega)]
      simp only
      rw [rItems_val L true xs ks hxr (fun _ => hkl) (fun e => by cases e) hk r]
      rfl
end Go.Proofs.YtlbhgoffiigfbaaGreat.AW
end
section
set_option linter.unusedSimpArgs false
set_option linter.unusedVariables false
namespace Go.Proofs.YtlbhgoffiigfbaaGreat.AW
open Go Go.RowKit

theorem valid_nodes {x : V} (h : valid x = true) : nodesS 6 x ≤ 60 := of_decide_eq_true h
theorem valid_Vok {x : V} (h : valid x = true) : Vok x := ⟨6, valid_nodes h⟩
theorem asB_vals_cons (x : V) (xs : List V) : asB (valsA (x :: xs)) = asB (valA x) ++ asB (valsA xs) := by
  show asB (valA x ++ valsA xs) = _
  exact asB_app (BY.val _) (BY.vals _)
theorem rValsN_vals : ∀ (xs acc : List V) (r : List UInt8), (∀ x ∈ xs, valid x = true) → rValsN xs.length acc (asB (valsA xs) ++ r) = some (acc ++ xs, r)
  | [], acc, r, _ => by simp [rValsN, valsA, asB, avB]
  | x :: xs, acc, r, h => by
    have hx := h x List.mem_cons_self
    rw [asB_vals_cons, List.append_assoc, List.length_cons, rValsN, rVal_val 6 x (valid_nodes hx)]
    simp only [hx, if_true]
    rw [rValsN_vals xs (acc ++ [x]) r (fun y hy => h y (List.mem_cons_of_mem _ hy)), List.append_assoc]; rfl
theorem valsA_ge : ∀ (xs : List V), xs.length ≤ (valsA xs).length
  | [] => by simp
  | x :: xs => by
    have h1 := valsA_ge xs
    have h2 := valA_pos x
    show _ ≤ (valA x ++ valsA xs).length
    rw [List.length_append, List.length_cons]; omega
theorem rVals_plain (xs : List V) (h : ∀ x ∈ xs, valid x = true) (hl : xs.length ≤ 200) (r : List UInt8) : rVals (asB (plainA xs) ++ r) = some (xs, r) := by
  unfold rVals plainA
  have hg := valsA_ge xs
  rw [asB_app (BY.num _) (BY.vals _), List.append_assoc, rCount_num _ (by omega) (by rw [List.length_append, (BY.vals xs).len]; omega)]
  simp only [if_pos hl]
  rw [rValsN_vals xs [] r h]; rfl
def expand (rs : List (Nat × V)) : List V := rs.flatMap fun p => List.replicate p.1 p.2
theorem BY.runb (rs : List (Nat × V)) : BY (runB rs) := BY.flat (fun p => BY.app (BY.num _) (BY.val _)) rs
theorem runB_ge : ∀ (rs : List (Nat × V)), rs.length ≤ (runB rs).length
  | [] => by simp
  | p :: rs => by
    have h1 := runB_ge rs
    have h2 := valA_pos p.2
    show _ ≤ ((numA p.1 ++ valA p.2) ++ runB rs).length
    rw [List.length_append, List.length_append, List.length_cons]; omega
theorem rRunsN_runs : ∀ (rs : List (Nat × V)) (acc : List V) (r : List UInt8), (∀ p ∈ rs, valid p.2 = true) → (acc ++ expand rs).length ≤ 200 → rRunsN rs.length acc (asB (runB rs) ++ r) = some (acc ++ expand rs, r)
  | [], acc, r, _, _ => by simp [rRunsN, runB, asB, avB, expand]
  | p :: rs, acc, r, h, hl => by
    have hx := h p List.mem_cons_self
    have he : expand (p :: rs) = List.replicate p.1 p.2 ++ expand rs := rfl
    rw [he] at hl
    have hl2 := hl
    rw [List.length_append, List.length_append, List.length_replicate] at hl2
    have hb : asB (runB (p :: rs)) = numBy p.1 ++ (asB (valA p.2) ++ asB (runB rs)) := by
      show asB ((numA p.1 ++ valA p.2) ++ runB rs) = _
      rw [List.append_assoc, asB_app (BY.num _) (BY.app (BY.val _) (BY.runb _)), asB_app (BY.val _) (BY.runb _), asB_num]
    rw [hb, List.append_assoc, List.append_assoc, List.length_cons, rRunsN, rNum_num (by omega)]
    simp only
    rw [if_pos (by omega), rVal_val 6 p.2 (valid_nodes hx)]
    simp only
    rw [if_pos (by rw [List.length_append, List.length_replicate]; omega), rRunsN_runs rs _ r (fun q hq => h q (List.mem_cons_of_mem _ hq)) (by rw [List.append_assoc]; exact hl), he, List.append_assoc]
theorem expand_runs : ∀ (n : Nat) (xs : List V), xs.length ≤ n → (∀ x ∈ xs, Vok x) → expand (runsL xs) = xs
  | _, [], _, _ => by rw [runsL_nil]; rfl
  | 0, x :: ys, h, _ => by simp at h
  | n + 1, x :: ys, h, hv => by
    have hx := hv x List.mem_cons_self
    have hle := headN_le x ys
    simp only [List.length_cons] at h
    have ih := expand_runs n (ys.drop (headN x ys)) (by rw [List.length_drop]; omega) (fun y hy => hv y (List.mem_cons_of_mem _ (List.mem_of_mem_drop hy)))
    rw [runsL_cons]
    show List.replicate (1 + headN x ys) x ++ expand (runsL (ys.drop (headN x ys))) = x :: ys
    rw [ih]
    have ht : List.take (headN x ys) ys = List.replicate (headN x ys) x := by
      have h1 : List.take (headN x ys) ys = ys.takeWhile fun y => ord x y == 0 := by
        unfold headN
        exact (List.prefix_iff_eq_take.1 (List.takeWhile_prefix _)).symm
      rw [h1]
      refine List.eq_replicate_iff.2 ⟨rfl, fun y hy => ?_⟩
      have hm : y ∈ ys := (List.takeWhile_sublist _).mem hy
      have hy0 : ord x y = 0 := by
        have := List.all_eq_true.1 List.all_takeWhile y hy
        simpa using this
      have hyv := hv y (List.mem_cons_of_mem _ hm)
      exact (ordN_zero x y hx hyv (by rw [← ord_eq _ _ hx hyv]; exact hy0)).symm
    rw [Nat.add_comm, List.replicate_succ, ← ht, List.cons_append, List.take_append_drop]
theorem runs_mem : ∀ (n : Nat) (xs : List V), xs.length ≤ n → ∀ p ∈ runsL xs, p.2 ∈ xs
  | _, [], _ => by intro p hp; rw [runsL_nil] at hp; cases hp
  | 0, x :: ys, h => by simp at h
  | n + 1, x :: ys, h => by
    intro p hp
    simp only [List.length_cons] at h
    rw [runsL_cons] at hp
    rcases List.mem_cons.1 hp with rfl | hp
    · exact List.mem_cons_self
    · exact List.mem_cons_of_mem _ (List.mem_of_mem_drop (runs_mem n _ (by rw [List.length_drop]; omega) p hp))
theorem rRuns_runs (xs : List V) (h : ∀ x ∈ xs, valid x = true) (hl : xs.length ≤ 200) (r : List UInt8) : rRuns (asB (runsA xs) ++ r) = some (xs, r) := by
  have hex := expand_runs xs.length xs (Nat.le_refl _) (fun x hx => valid_Vok (h x hx))
  have hg := runB_ge (runsL xs)
  have hrl := runsL_len xs.length xs (Nat.le_refl _)
  unfold rRuns runsA
  rw [asB_app (BY.num _) (BY.runb _), List.append_assoc, rCount_num _ (by omega) (by rw [List.length_append, (BY.runb (runsL xs)).len]; omega)]
  simp only
  rw [rRunsN_runs (runsL xs) [] r (fun p hp => h _ (runs_mem xs.length xs (Nat.le_refl _) p hp)) (by rw [List.nil_append, hex]; exact hl), List.nil_append, hex]
theorem BY.places (ws xs : List V) : BY (placesA ws xs) := BY.flat (fun v => BY.num _) xs
theorem places_ge (ws : List V) : ∀ (xs : List V), xs.length ≤ (placesA ws xs).length
  | [] => by simp
  | x :: xs => by
    have h1 := places_ge ws xs
    have h2 := List.length_pos_iff.2 (numA_ne (lbV ws x))
    show _ ≤ (numA (lbV ws x) ++ placesA ws xs).length
    rw [List.length_append, List.length_cons]; omega
theorem rDictN_places (ws : List V) (hwl : ws.length ≤ 1000) : ∀ (xs acc : List V) (r : List UInt8), (∀ x ∈ xs, ws[lbV ws x]? = some x) → rDictN ws xs.length acc (asB (placesA ws xs) ++ r) = some (acc ++ xs, r)
  | [], acc, r, _ => by simp [rDictN, placesA, asB, avB]
  | x :: xs, acc, r, h => by
    have hx := h x List.mem_cons_self
    obtain ⟨hlt, hxe⟩ := List.getElem?_eq_some_iff.1 hx
    have hb : asB (placesA ws (x :: xs)) = numBy (lbV ws x) ++ asB (placesA ws xs) := by
      show asB (numA (lbV ws x) ++ placesA ws xs) = _
      rw [asB_app (BY.num _) (BY.places _ _), asB_num]
    rw [hb, List.append_assoc, List.length_cons, rDictN, rNum_num (by omega)]
    simp only
    rw [dif_pos hlt, hxe, rDictN_places ws hwl xs (acc ++ [x]) r (fun y hy => h y (List.mem_cons_of_mem _ hy)), List.append_assoc]; rfl
theorem least : ∀ (n : Nat) (P : Nat → Prop), P n → ∃ k, k ≤ n ∧ P k ∧ ∀ j, j < k → ¬ P j := by
  intro n
  induction n using Nat.strongRecOn with
  | ind n ih =>
    intro P hP
    by_cases h : ∃ j, j < n ∧ P j
    · obtain ⟨j, hj, hPj⟩ := h
      obtain ⟨k, h1, h2, h3⟩ := ih j hj P hPj
      exact ⟨k, by omega, h2, h3⟩
    · exact ⟨n, Nat.le_refl _, hP, fun j hj hPj => h ⟨j, hj, hPj⟩⟩
theorem word_at {xs : List V} (hx : ∀ x ∈ xs, Vok x) {x : V} (hm : x ∈ xs) : (wordsL xs)[lbV (wordsL xs) x]? = some x := by
  have hok := words_ok hx
  obtain ⟨i, hi, hie⟩ := List.getElem_of_mem (words_all hx x hm)
  obtain ⟨k, hk, hP, hb⟩ := least i (fun j => ∃ h : j < (wordsL xs).length, ord (wordsL xs)[j] x = 0) ⟨hi, by rw [hie]; exact ord_self (hx x hm)⟩
  obtain ⟨hkl, h0⟩ := hP
  have hlb := lb_first (words_sorted xs) hok (hx x hm) hkl h0 (fun k' w hk' hw h0' => by
    obtain ⟨hkl', hwe⟩ := List.getElem?_eq_some_iff.1 hw
    exact hb k' hk' ⟨hkl', by rw [hwe]; exact h0'⟩)
  rw [hlb, List.getElem?_eq_getElem hkl, ord_eq0 (hok _ (List.getElem_mem hkl)) (hx x hm) h0]
theorem rDict_dict (xs : List V) (h : ∀ x ∈ xs, valid x = true) (hl : xs.length ≤ 200) (r : List UInt8) : rDict (asB (dictA xs) ++ r) = some (xs, r) := by
  have hv : ∀ x ∈ xs, Vok x := fun x hx => valid_Vok (h x hx)
  have hwl := words_len xs
  have hwv : ∀ w ∈ wordsL xs, valid w = true := fun w hw => h w (sortV_mem.1 (dd_mem w hw))
  have hg := places_ge (wordsL xs) xs
  have hb : asB (dictA xs) ++ r = asB (plainA (wordsL xs)) ++ (asB (numA xs.length) ++ (asB (placesA (wordsL xs) xs) ++ r)) := by
    show asB (((numA (wordsL xs).length ++ valsA (wordsL xs)) ++ numA xs.length) ++ placesA (wordsL xs) xs) ++ r = asB (numA (wordsL xs).length ++ valsA (wordsL xs)) ++ _
    rw [asB_app (BY.app (BY.app (BY.num _) (BY.vals _)) (BY.num _)) (BY.places _ _), asB_app (BY.app (BY.num _) (BY.vals _)) (BY.num _), List.append_assoc, List.append_assoc]
  unfold rDict
  rw [hb, rVals_plain _ hwv (by omega)]
  simp only
  rw [rCount_num _ (by omega) (by rw [List.length_append, (BY.places _ xs).len]; omega)]
  simp only
  rw [rDictN_places _ (by omega) xs [] r (fun x hx => word_at hv hx)]
  rfl
theorem int_form {x : V} (hv : Vok x) (hk : x.kind = 2) : x = intV x.int := by
  obtain ⟨k, i, t, xs, ks⟩ := x
  have hk' : k = 2 := hk
  subst hk'
  rcases shape_cases (Vok.shape hv).1 with h | h | h | h | h | h
  · omega
  · omega
  · obtain ⟨_, rfl, rfl, rfl⟩ := h; rfl
  · omega
  · omega
  · omega
theorem rDeltaN_delta : ∀ (xs : List V) (p : Int) (acc : List V) (r : List UInt8), (∀ x ∈ xs, Vok x) → (∀ x ∈ xs, x.kind = 2) → -1000000000000 ≤ p → p ≤ 1000000000000 → rDeltaN xs.length p acc (asB (deltaL p xs) ++ r) = some (acc ++ xs, r)
  | [], p, acc, r, _, _, _, _ => by simp [rDeltaN, deltaL, asB, avB]
  | x :: xs, p, acc, r, hv, hk, h1, h2 => by
    have hx := hv x List.mem_cons_self
    have hi := hx.int
    have hb : asB (deltaL p (x :: xs)) = asB (numA (zig (x.int - p))) ++ asB (deltaL x.int xs) := by
      rw [deltaL, asB_app (BY.num _) (BY.deltaL _ _)]
    have ih := rDeltaN_delta xs x.int (acc ++ [x]) r (fun y hy => hv y (List.mem_cons_of_mem _ hy)) (fun y hy => hk y (List.mem_cons_of_mem _ hy)) hi.1 hi.2
    have he : p + (x.int - p) = x.int := by omega
    rw [hb, List.append_assoc, List.length_cons, rDeltaN, rInt_num _ (by omega) (by omega)]
    simp only [he]
    rw [if_pos hi, ← int_form hx (hk x List.mem_cons_self), ih, List.append_assoc]
    rfl
theorem delta_ge : ∀ (xs : List V) (p : Int), xs.length ≤ (deltaL p xs).length
  | [], _ => by simp
  | x :: xs, p => by
    have h1 := delta_ge xs x.int
    have h2 := List.length_pos_iff.2 (numA_ne (zig (x.int - p)))
    rw [deltaL, List.length_append, List.length_cons]; omega
theorem rDelta_delta (xs : List V) (h : ∀ x ∈ xs, valid x = true) (hk : intsL xs = true) (hl : xs.length ≤ 200) (r : List UInt8) : rDelta (asB (deltaA xs) ++ r) = some (xs, r) := by
  have hg := delta_ge xs 0
  unfold rDelta deltaA
  rw [asB_app (BY.num _) (BY.deltaL _ _), List.append_assoc, rCount_num _ (by omega) (by rw [List.length_append, (BY.deltaL xs 0).len]; omega)]
  simp only
  rw [rDeltaN_delta xs 0 [] r (fun x hx => valid_Vok (h x hx)) (fun x hx => by
    have := List.all_eq_true.1 hk x hx
    simpa using this) (by decide) (by decide)]
  rfl
/-- What is packed is unpacked. -/
theorem rEnc_enc (e : Nat) (e1 : 1 ≤ e) (e4 : e ≤ 4) (xs : List V) (h : ∀ x ∈ xs, valid x = true) (hl : xs.length ≤ 200) (hc : canL e xs = true) (r : List UInt8) : rEnc e (asB (encA e xs) ++ r) = some (xs, r) := by
  unfold rEnc encA
  by_cases h1 : e = 1
  · rw [if_pos h1, if_pos h1]; exact rVals_plain xs h hl r
  rw [if_neg h1, if_neg h1]
  by_cases h2 : e = 2
  · rw [if_pos h2, if_pos h2]; exact rRuns_runs xs h hl r
  rw [if_neg h2, if_neg h2]
  by_cases h3 : e = 3
  · rw [if_pos h3, if_pos h3]; exact rDict_dict xs h hl r
  rw [if_neg h3, if_neg h3]
  have h4 : e = 4 := by omega
  subst h4
  exact rDelta_delta xs h hc hl r
theorem unV_pack (e : Nat) (e1 : 1 ≤ e) (e4 : e ≤ 4) (xs : List V) (hv : validL xs = true) (hc : canL e xs = true) : unV e (asB (encA e xs)) = some xs := by
  have hv2 := hv
  unfold validL at hv2
  rw [Bool.and_eq_true, decide_eq_true_eq, List.all_eq_true] at hv2
  have := rEnc_enc e e1 e4 xs hv2.2 hv2.1 hc []
  rw [List.append_nil] at this
  unfold unV
  rw [this]
  exact if_pos ⟨rfl, hv, hc, rfl⟩
end Go.Proofs.YtlbhgoffiigfbaaGreat.AW
end
section
set_option linter.unusedSimpArgs false
set_option linter.unusedVariables false
namespace Go.Proofs.YtlbhgoffiigfbaaGreat.AW
open Go Go.RowKit

theorem refvalues_rf (e : Nat) (h1 : 1 ≤ e) (h4 : e ≤ 4) (s : List UInt8) (hsl : s.length < 1000000000000) (o : RS) (hst : o.1 <:+ s) {h : AH} {b : Nat} (hb : h.box b = some (rc s o)) : ACalls Tryz.prog 43 [.ptr b 0, .int .i64 (e : Int)] h (RfPost s h b (.sl .ro 5 ((fEnc e o).1.map inj)) (fEnc e o).2) := by
  rcases nE_cases h1 h4 with rfl | rfl | rfl | rfl
  · exact refvalues1_rf s hsl o hst hb
  · exact refvalues2_rf s hsl o hst hb
  · exact refvalues3_rf s hsl o hst hb
  · exact refvalues4_rf s hsl o hst hb
theorem unV_f {e : Nat} {l : List UInt8} {xs : List V} (h : unV e l = some xs) : fEnc e (l, false) = (xs, ([], false)) ∧ validL xs = true ∧ canL e xs = true ∧ encS e xs = bS l := by
  unfold unV at h
  cases hq : rEnc e l with
  | none => rw [hq] at h; cases h
  | some p =>
    obtain ⟨ys, r⟩ := p
    rw [hq] at h
    simp only [unIf] at h
    split at h
    · next hc =>
      injection h with h; subst h
      have := fEnc_of hq
      rw [hc.1] at this
      exact ⟨this, hc.2.1, hc.2.2.1, hc.2.2.2⟩
    · cases h
def valsV (e : Nat) (l : List UInt8) : AV := match unV e l with
  | some xs => .tup [.sl .ro 5 (xs.map inj), .bool true]
  | none => .tup [.sl .ro 5 [], .bool false]
theorem valsV_none {e : Nat} {l : List UInt8} (h : ∀ xs, unV e l ≠ some xs) : valsV e l = .tup [.sl .ro 5 [], .bool false] := by
  unfold valsV
  cases hq : unV e l with
  | none => rfl
  | some xs => exact absurd hq (h xs)
theorem wk_no : Wk (.tup [.sl .full 0 [], .bool false]) (.tup [.sl .ro 5 [], .bool false]) := (WkAll.cons wk_nil5 (.cons (.refl _) .nil)).tup
set_option maxHeartbeats 4000000 in
theorem refvals_good (e : Nat) (h1 : 1 ≤ e) (h4 : e ≤ 4) (l : List UInt8) (hll : l.length < 1000000000000) : Pure Tryz.prog 30 [.str (bS l), .int .i64 (e : Int)] (valsV e l) := by
  refine Pure.ofW ⟨Tryz.f30, Tryz.func30, rfl, by kernel_rfl⟩ (by unfold valsV; split <;> simp only [AV.under, AV.underL, injs_und, Bool.and_true]) (fun h hsc => ?_)
  have hb0 : (h.new [.str (bS l), .int .i64 0, .bool false]).box h.nb = some (rc l (l, false)) := by
    rw [new_box, if_pos rfl]
    show _ = some [AV.str (bS l), AV.int .i64 ((l.length - l.length : Nat) : Int), AV.bool false]
    rw [Nat.sub_self]; rfl
  have hvr := refvalues_rf e h1 h4 l hll (l, false) (List.suffix_refl _) hb0
  obtain ⟨hsm, hxl⟩ := fEnc_ok e l hll
  have hun := fun xs (hq : unV e l = some xs) => unV_f hq
  rcases hfe : fEnc e (l, false) with ⟨xs, r, bad⟩
  rw [hfe] at hvr hsm hxl hun
  simp only at hvr hsm hxl
  refine acalls_of te_ok [] Tryz.func30 (c := _) rfl (Nat.le_of_ble_eq_true rfl) ?_
  simp only [aws, eq_self, reduceIte, Nat.reduceAdd, Nat.reduceLT, Nat.reduceLeDiff, Nat.reduceEqDiff, afill, teset, Tryz.ntmps30, Tryz.results30, boxR]
  refine rf_call ⟨Tryz.f43, Tryz.func43, rfl, by kernel_rfl⟩ hvr ?_
  simp only [aws, eq_self, implies_true, reduceIte, Nat.reduceLT, Nat.reduceEqDiff, teset, rc]
  cases bad with
  | true =>
    have hno : ∀ ys, unV e l ≠ some ys := fun ys hq => by have := (hun ys hq).1; cases this
    have hc : True := trivial
    rw [valsV_none hno]
    simp only [aws, eq_self, implies_true, imp_self, reduceIte, reduceCtorEq, Nat.reduceLT, Nat.reduceEqDiff, Nat.reduceBEq, ares1]
    exact ⟨by (repeat (first | exact AH.Ext.refl _ | assumption | refine AH.Ext.set ?_ (by first | omega | (simp only [new_nb, set_nb, kill_nb, newTok_nb, setTok_nb]; omega)) _ | refine AH.Ext.new ?_ _)), _, rfl, wk_no⟩
  | false =>
    simp only [aws, eq_self, reduceIte, Nat.reduceLT, Nat.reduceEqDiff]
    refine ACallV.pure (form_pure xs (by omega)) ?_
    cases hv : validL xs with
    | false =>
      have hno : ∀ ys, unV e l ≠ some ys := fun ys hq => by
        obtain ⟨g1, g2, _⟩ := hun ys hq
        cases g1
        rw [hv] at g2; cases g2
      have hc : True := trivial
      rw [valsV_none hno]
      simp only [aws, eq_self, implies_true, imp_self, reduceIte, reduceCtorEq, Nat.reduceLT, Nat.reduceEqDiff, Nat.reduceBEq, ares1]
      exact ⟨by (repeat (first | exact AH.Ext.refl _ | assumption | refine AH.Ext.set ?_ (by first | omega | (simp only [new_nb, set_nb, kill_nb, newTok_nb, setTok_nb]; omega)) _ | refine AH.Ext.new ?_ _)), _, rfl, wk_no⟩
    | true =>
      by_cases he : e = 4
      · have q4 : (((e : Nat) : Int) == 4) = true := by rw [he]; rfl
        simp only [aws, eq_self, implies_true, reduceIte, Nat.reduceLT, Nat.reduceEqDiff, acmpnil, q4]
        refine ACallV.pure (refints_pure xs (by omega)) ?_
        cases hi : intsL xs with
        | false =>
          have hno : ∀ ys, unV e l ≠ some ys := fun ys hq => by
            obtain ⟨g1, g2, g3, _⟩ := hun ys hq
            cases g1
            unfold canL at g3
            rw [if_pos he, hi] at g3; cases g3
          have hc := q4
          rw [valsV_none hno]
          simp only [aws, eq_self, implies_true, reduceIte, reduceCtorEq, Nat.reduceLT, Nat.reduceEqDiff, Nat.reduceBEq, ares1]
          exact ⟨by (repeat (first | exact AH.Ext.refl _ | assumption | refine AH.Ext.set ?_ (by first | omega | (simp only [new_nb, set_nb, kill_nb, newTok_nb, setTok_nb]; omega)) _ | refine AH.Ext.new ?_ _)), _, rfl, wk_no⟩
        | true =>
          have hcan : canL e xs = true := by unfold canL; rw [if_pos he]; exact hi
          simp only [aws, eq_self, implies_true, reduceIte, Nat.reduceLT, Nat.reduceEqDiff]
          refine ACallV.pure (refbytes_pure xs e h1 h4 hv) ?_
          cases hc : ((encS e xs).toList == (bS l).toList) with
          | false =>
            have hno : ∀ ys, unV e l ≠ some ys := fun ys hq => by
              obtain ⟨g1, g2, g3, g4⟩ := hun ys hq
              cases g1
              rw [g4] at hc; simp at hc
            rw [valsV_none hno]
            simp only [aws, eq_self, implies_true, reduceIte, reduceCtorEq, Nat.reduceLT, Nat.reduceEqDiff, Nat.reduceBEq, acmpnil, ares1, hc]
            exact ⟨by (repeat (first | exact AH.Ext.refl _ | assumption | refine AH.Ext.set ?_ (by first | omega | (simp only [new_nb, set_nb, kill_nb, newTok_nb, setTok_nb]; omega)) _ | refine AH.Ext.new ?_ _)), _, rfl, wk_no⟩
          | true =>
            have hes : encS e xs = bS l := ba_ext2 (by simpa using hc)
            have hle : l = asB (encA e xs) := by
              have : (⟨⟨asB (encA e xs)⟩⟩ : ByteArray) = ⟨⟨l⟩⟩ := hes
              injection this with this
              injection this with this
              exact this.symm
            have hup : unV e l = some xs := by
              rw [hle]; exact unV_pack e h1 h4 xs hv hcan
            unfold valsV
            rw [hup]
            simp only [aws, eq_self, implies_true, reduceIte, reduceCtorEq, Nat.reduceLT, Nat.reduceEqDiff, Nat.reduceBEq, acmpnil, ares1, hc]
            exact ⟨by (repeat (first | exact AH.Ext.refl _ | assumption | refine AH.Ext.set ?_ (by first | omega | (simp only [new_nb, set_nb, kill_nb, newTok_nb, setTok_nb]; omega)) _ | refine AH.Ext.new ?_ _)), _, rfl, .refl _⟩
      · have q4 : (((e : Nat) : Int) == 4) = false := by rw [beq_eq_false_iff_ne]; omega
        have hcan : canL e xs = true := by unfold canL; rw [if_neg he]
        simp only [aws, eq_self, implies_true, reduceIte, Nat.reduceLT, Nat.reduceEqDiff, acmpnil, q4]
        refine ACallV.pure (refbytes_pure xs e h1 h4 hv) ?_
        cases hc : ((encS e xs).toList == (bS l).toList) with
        | false =>
          have hno : ∀ ys, unV e l ≠ some ys := fun ys hq => by
            obtain ⟨g1, g2, g3, g4⟩ := hun ys hq
            cases g1
            rw [g4] at hc; simp at hc
          rw [valsV_none hno]
          simp only [aws, eq_self, implies_true, reduceIte, reduceCtorEq, Nat.reduceLT, Nat.reduceEqDiff, Nat.reduceBEq, acmpnil, ares1, hc]
          exact ⟨by (repeat (first | exact AH.Ext.refl _ | assumption | refine AH.Ext.set ?_ (by first | omega | (simp only [new_nb, set_nb, kill_nb, newTok_nb, setTok_nb]; omega)) _ | refine AH.Ext.new ?_ _)), _, rfl, wk_no⟩
        | true =>
          have hes : encS e xs = bS l := ba_ext2 (by simpa using hc)
          have hle : l = asB (encA e xs) := by
            have : (⟨⟨asB (encA e xs)⟩⟩ : ByteArray) = ⟨⟨l⟩⟩ := hes
            injection this with this
            injection this with this
            exact this.symm
          have hup : unV e l = some xs := by
            rw [hle]; exact unV_pack e h1 h4 xs hv hcan
          unfold valsV
          rw [hup]
          simp only [aws, eq_self, implies_true, reduceIte, reduceCtorEq, Nat.reduceLT, Nat.reduceEqDiff, Nat.reduceBEq, acmpnil, ares1, hc]
          exact ⟨by (repeat (first | exact AH.Ext.refl _ | assumption | refine AH.Ext.set ?_ (by first | omega | (simp only [new_nb, set_nb, kill_nb, newTok_nb, setTok_nb]; omega)) _ | refine AH.Ext.new ?_ _)), _, rfl, .refl _⟩
theorem refunpack_arg (s : ByteArray) (n : Int) (hn : n < 1 ∨ 4 < n) : Pure Tryz.prog 11 [.str s, .int .i64 n] (unBad 3) := by
  refine Pure.ofW ⟨Tryz.f11, Tryz.func11, rfl, by kernel_rfl⟩ rfl (fun h hsc => ?_)
  refine acalls_of te_ok [] Tryz.func11 (c := _) rfl (Nat.le_of_ble_eq_true rfl) ?_
  simp only [aws, eq_self, implies_true, imp_self, reduceIte, Nat.reduceLT, Nat.reduceEqDiff, acmpnil, Tryz.ntmps11, Tryz.results11]
  cases hc : decide (n < 1) with
  | true =>
    simp only [aws, eq_self, reduceIte, Nat.reduceLT, Nat.reduceEqDiff, ares1]
    exact ⟨by (repeat (first | exact AH.Ext.refl _ | assumption | refine AH.Ext.set ?_ (by first | omega | (simp only [new_nb, set_nb, kill_nb, newTok_nb, setTok_nb]; omega)) _ | refine AH.Ext.new ?_ _)), _, rfl, wk_bad 3⟩
  | false =>
    have hc2 : decide (n > 4) = true := by simp only [decide_eq_false_iff_not] at hc; simp only [decide_eq_true_eq]; omega
    simp only [aws, eq_self, implies_true, reduceIte, Nat.reduceLT, Nat.reduceEqDiff, acmpnil, ares1, hc2]
    exact ⟨by (repeat (first | exact AH.Ext.refl _ | assumption | refine AH.Ext.set ?_ (by first | omega | (simp only [new_nb, set_nb, kill_nb, newTok_nb, setTok_nb]; omega)) _ | refine AH.Ext.new ?_ _)), _, rfl, wk_bad 3⟩
theorem refunpack_good (e : Nat) (h1 : 1 ≤ e) (h4 : e ≤ 4) (l : List UInt8) (hll : l.length < 1000000000000) : Pure Tryz.prog 11 [.str (bS l), .int .i64 (e : Int)] (unpackV e l) := by
  refine Pure.ofW ⟨Tryz.f11, Tryz.func11, rfl, by kernel_rfl⟩ (by unfold unpackV; split <;> simp only [unBad, AV.under, AV.underL, injs_und, Bool.and_true]) (fun h hsc => ?_)
  have hc : decide ((e : Int) < 1) = false := by simp only [decide_eq_false_iff_not]; omega
  have hc2 : decide ((e : Int) > 4) = false := by simp only [decide_eq_false_iff_not]; omega
  have hv := refvals_good e h1 h4 l hll
  unfold valsV at hv
  unfold unpackV
  refine acalls_of te_ok [] Tryz.func11 (c := _) rfl (Nat.le_of_ble_eq_true rfl) ?_
  simp only [aws, eq_self, implies_true, reduceIte, reduceCtorEq, Nat.reduceLT, Nat.reduceEqDiff, acmpnil, Tryz.ntmps11, Tryz.results11, hc, hc2]
  cases hq : unV e l with
  | none =>
    rw [hq] at hv
    refine ACallV.pure hv ?_
    simp only [aws, eq_self, reduceIte, Nat.reduceLT, Nat.reduceEqDiff, ares1]
    exact ⟨by (repeat (first | exact AH.Ext.refl _ | assumption | refine AH.Ext.set ?_ (by first | omega | (simp only [new_nb, set_nb, kill_nb, newTok_nb, setTok_nb]; omega)) _ | refine AH.Ext.new ?_ _)), _, rfl, wk_bad 12⟩
  | some xs =>
    rw [hq] at hv
    refine ACallV.pure hv ?_
    simp only [aws, eq_self, reduceIte, Nat.reduceLT, Nat.reduceEqDiff, ares1]
    exact ⟨by (repeat (first | exact AH.Ext.refl _ | assumption | refine AH.Ext.set ?_ (by first | omega | (simp only [new_nb, set_nb, kill_nb, newTok_nb, setTok_nb]; omega)) _ | refine AH.Ext.new ?_ _)), _, rfl, .refl _⟩
end Go.Proofs.YtlbhgoffiigfbaaGreat.AW
end
section
set_option linter.unusedSimpArgs false
set_option linter.unusedVariables false
namespace Go.Proofs.YtlbhgoffiigfbaaGreat.AW
open Go Go.RowKit

theorem nil_same : Pure Tryz.prog 12 [.sl .ro 5 [], .sl .ro 5 []] (.bool true) := samelist_pure [] [] (by decide) (fun x hx => by cases hx)
set_option maxHeartbeats 2000000 in
theorem unpacks_law (s : ByteArray) (n : Int) : Pure Tryz.prog 4 [.str s, .int .i64 n] (.bool true) := by
  refine Pure.of ⟨Tryz.f4, Tryz.func4, rfl, by kernel_rfl⟩ rfl (fun h => ?_)
  refine acalls_of te_ok [] Tryz.func4 (c := _) rfl (Nat.le_of_ble_eq_true rfl) ?_
  simp only [aws, eq_self, reduceIte, Nat.reduceLT, acmpnil, teset, Tryz.ntmps4, Tryz.results4]
  cases hg : decide ((s.size : Int) > 40000) with
  | true =>
    simp only [aws, eq_self, Nat.reduceLT]
    refine ACallV.pure awake_pure ?_
    simp only [aws, eq_self, reduceIte, Nat.reduceLT, ares1]
    exact ⟨.refl _, _, rfl, rfl⟩
  | false =>
    simp only [decide_eq_false_iff_not] at hg
    simp only [aws, eq_self, reduceIte, reduceCtorEq, Nat.reduceLT, Nat.reduceEqDiff]
    by_cases hn : n < 1 ∨ 4 < n
    · refine ACallV.pure (unpack_arg s n hn) ?_
      simp only [aws, eq_self, reduceIte, reduceCtorEq, Nat.reduceLT, Nat.reduceEqDiff, unBad]
      refine ACallV.pure (refunpack_arg s n hn) ?_
      simp only [aws, eq_self, reduceIte, Nat.reduceLT, Nat.reduceEqDiff, unBad]
      refine ACallV.pure nil_same ?_
      simp only [aws, eq_self, implies_true, reduceIte, Nat.reduceLT, Nat.reduceEqDiff, Nat.reduceBEq, acmpnil]
      refine ACallV.pure awake_pure ?_
      simp only [aws, eq_self, reduceIte, Nat.reduceLT, Nat.reduceEqDiff, ares1]
      exact ⟨.refl _, _, rfl, rfl⟩
    · obtain ⟨e, rfl⟩ : ∃ e : Nat, n = (e : Int) := ⟨n.toNat, by omega⟩
      have hsl : s.data.toList.length < 1000000000000 := by
        have : s.data.toList.length = s.size := by simp
        omega
      have hu := unpack_good e (by omega) (by omega) s.data.toList hsl
      have hr := refunpack_good e (by omega) (by omega) s.data.toList hsl
      rw [show bS s.data.toList = s from rfl] at hu hr
      unfold unpackV at hu hr
      cases hq : unV e s.data.toList with
      | none =>
        rw [hq] at hu hr
        refine ACallV.pure hu ?_
        simp only [aws, eq_self, reduceIte, reduceCtorEq, Nat.reduceLT, Nat.reduceEqDiff, unBad]
        refine ACallV.pure hr ?_
        simp only [aws, eq_self, reduceIte, Nat.reduceLT, Nat.reduceEqDiff, unBad]
        refine ACallV.pure nil_same ?_
        simp only [aws, eq_self, implies_true, reduceIte, Nat.reduceLT, Nat.reduceEqDiff, Nat.reduceBEq, acmpnil]
        refine ACallV.pure awake_pure ?_
        simp only [aws, eq_self, reduceIte, Nat.reduceLT, Nat.reduceEqDiff, ares1]
        exact ⟨.refl _, _, rfl, rfl⟩
      | some xs =>
        rw [hq] at hu hr
        obtain ⟨_, hv, _, _⟩ := unV_f hq
        obtain ⟨hx, hx2⟩ := validL_ok hv
        have hsame := samelist_pure xs xs (by omega) (fun x hx' y => same_pure x y (hx x hx').sm)
        rw [sameL_self] at hsame
        refine ACallV.pure hu ?_
        simp only [aws, eq_self, reduceIte, reduceCtorEq, Nat.reduceLT, Nat.reduceEqDiff]
        refine ACallV.pure hr ?_
        simp only [aws, eq_self, reduceIte, Nat.reduceLT, Nat.reduceEqDiff]
        refine ACallV.pure hsame ?_
        simp only [aws, eq_self, implies_true, reduceIte, Nat.reduceLT, Nat.reduceEqDiff, Nat.reduceBEq, acmpnil]
        refine ACallV.pure awake_pure ?_
        simp only [aws, eq_self, reduceIte, Nat.reduceLT, Nat.reduceEqDiff, ares1]
        exact ⟨.refl _, _, rfl, rfl⟩
end Go.Proofs.YtlbhgoffiigfbaaGreat.AW
end
