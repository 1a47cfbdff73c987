/- Texts of this claim, part 13: V110, V111, V81, V82, L65, P82, P83, L66, P84, L67. -/
import Derived.Test.YtlbhgoffiigfbaaOb1
import Derived.Test.YtlbhgoffiigfbaaOb3
import Derived.Test.YtlbhgoffiigfbaaOb4
import Derived.Test.YtlbhgoffiigfbaaOb5
import Derived.Test.YtlbhgoffiigfbaaOb6
import Derived.Test.YtlbhgoffiigfbaaOb7
import Derived.Test.YtlbhgoffiigfbaaOb8
import Derived.Test.YtlbhgoffiigfbaaOb9
import Derived.Test.YtlbhgoffiigfbaaOb10
import Derived.Test.YtlbhgoffiigfbaaOb11
import Derived.Test.YtlbhgoffiigfbaaOb12
section
set_option linter.unusedSimpArgs false
set_option linter.unusedVariables false
namespace Go.Proofs.Ytlbhgoffiigfbaa.AW
open Go Go.RowKit

set_option maxHeartbeats 2000000 in
theorem clones_pure (xs : List V) (hx : ∀ x ∈ xs, Vok x) (hl : xs.length < 1000000) : Pure Try.prog 29 [.sl .ro 5 (xs.map inj)] (.sl .ro 5 (xs.map inj)) := by
  refine Pure.ofW ⟨Try.f29, Try.func29, rfl, by kernel_rfl⟩ (injs_und _) (fun h hsc => ?_)
  refine acalls_of te_ok [] Try.func29 (c := _) rfl (Nat.le_of_ble_eq_true rfl) ?_
  simp only [aws, ne_eq, eq_self, implies_true, imp_self, reduceIte, reduceCtorEq, Nat.reduceAdd, Nat.reduceLT, Nat.reduceLeDiff, Nat.reduceEqDiff, Nat.reduceSub, Nat.reduceMul, Nat.reduceBEq, Int.reduceBEq, Int.reduceBNe, Int.reduceLT, Int.reduceLE, Int.reduceGT, Int.reduceGE, Int.reduceNeg, Int.reduceEq, Int.reduceNe, Int.reduceToNat, Int.reduceAdd, aconv, acvB, capR, acmpnil, appBox, storeB, ares1, appendTo, afill, aeqL, teset, Try.ntmps29, Try.results29, inj_take, inj_drop, inj_agg, inj_len, inj_one, List.length_map]
  refine ⟨fun n s' h' => ∃ (j : Nat) (aX : AV), s' 3 = aX ∧ s' 6 = .sl .ro 5 (xs.map inj) ∧ s' 7 = .int .i64 xs.length ∧ s' 8 = .int .i64 j ∧ n + j = xs.length ∧ h.Ext h' ∧ Own5 h' h.nt aX (xs.take j), ⟨xs.length, 0, .sl .full 0 [], ?_⟩, ?_⟩
  · simp only [aws, ne_eq, eq_self, implies_true, imp_self, reduceIte, reduceCtorEq, Nat.reduceAdd, Nat.reduceLT, Nat.reduceLeDiff, Nat.reduceEqDiff, Nat.reduceSub, Nat.reduceMul, Nat.reduceBEq, Int.reduceBEq, Int.reduceBNe, Int.reduceLT, Int.reduceLE, Int.reduceGT, Int.reduceGE, Int.reduceNeg, Int.reduceEq, Int.reduceNe, Int.reduceToNat, Int.reduceAdd, aconv, acvB, capR, acmpnil, appBox, storeB, ares1, appendTo, afill, aeqL, teset, Int.natCast_zero]
    exact ⟨.refl _, .inl ⟨rfl, rfl⟩⟩
  · rintro n s' h' ⟨j, aX, e3, e6, e7, e8, hn, hE, ho⟩
    simp only [aws, ne_eq, eq_self, implies_true, imp_self, reduceIte, reduceCtorEq, Nat.reduceAdd, Nat.reduceLT, Nat.reduceLeDiff, Nat.reduceEqDiff, Nat.reduceSub, Nat.reduceMul, Nat.reduceBEq, Int.reduceBEq, Int.reduceBNe, Int.reduceLT, Int.reduceLE, Int.reduceGT, Int.reduceGE, Int.reduceNeg, Int.reduceEq, Int.reduceNe, Int.reduceToNat, Int.reduceAdd, aconv, acvB, capR, acmpnil, appBox, storeB, ares1, appendTo, afill, aeqL, teset, e3, e6, e7, e8]
    cases hc : decide ((j : Int) < (xs.length : Int)) with
    | false =>
      simp only [decide_eq_false_iff_not] at hc
      have how := ho.wk
      rw [List.take_of_length_le (by omega)] at how
      simp only [aws, ne_eq, eq_self, implies_true, imp_self, reduceIte, reduceCtorEq, Nat.reduceAdd, Nat.reduceLT, Nat.reduceLeDiff, Nat.reduceEqDiff, Nat.reduceSub, Nat.reduceMul, Nat.reduceBEq, Int.reduceBEq, Int.reduceBNe, Int.reduceLT, Int.reduceLE, Int.reduceGT, Int.reduceGE, Int.reduceNeg, Int.reduceEq, Int.reduceNe, Int.reduceToNat, Int.reduceAdd, aconv, acvB, capR, acmpnil, appBox, storeB, ares1, appendTo, afill, aeqL, teset, e3, e6, e7, e8]
      exact ⟨hE, _, rfl, how⟩
    | true =>
      simp only [decide_eq_true_eq] at hc
      have hj : j < xs.length := by omega
      have hget : (xs.map inj)[((j : Nat) : Int).toNat]? = some (inj xs[j]) := by simp [hj]
      have htk1 : xs.take (j + 1) = xs.take j ++ [xs[j]] := List.take_succ_eq_append_getElem hj
      simp only [aws, ne_eq, eq_self, implies_true, imp_self, reduceIte, reduceCtorEq, Nat.reduceAdd, Nat.reduceLT, Nat.reduceLeDiff, Nat.reduceEqDiff, Nat.reduceSub, Nat.reduceMul, Nat.reduceBEq, Int.reduceBEq, Int.reduceBNe, Int.reduceLT, Int.reduceLE, Int.reduceGT, Int.reduceGE, Int.reduceNeg, Int.reduceEq, Int.reduceNe, Int.reduceToNat, Int.reduceAdd, aconv, acvB, capR, acmpnil, appBox, storeB, ares1, appendTo, afill, aeqL, teset, e3, e6, e7, e8, hget, Int.natCast_nonneg, boxR, inj_take, inj_drop, inj_agg, inj_len, inj_one, List.length_map]
      refine ACallV.pure (clone_pure xs[j] (hx _ (List.getElem_mem hj))) ?_
      have hnt := hE.nt
      have hnb := hE.nb
      rcases ho with ⟨rfl, ht⟩ | ⟨t, G, rfl, htk, htn⟩
      · simp only [aws, ne_eq, eq_self, implies_true, imp_self, reduceIte, reduceCtorEq, Nat.reduceAdd, Nat.reduceLT, Nat.reduceLeDiff, Nat.reduceEqDiff, Nat.reduceSub, Nat.reduceMul, Nat.reduceBEq, Int.reduceBEq, Int.reduceBNe, Int.reduceLT, Int.reduceLE, Int.reduceGT, Int.reduceGE, Int.reduceNeg, Int.reduceEq, Int.reduceNe, Int.reduceToNat, Int.reduceAdd, aconv, acvB, capR, acmpnil, appBox, storeB, ares1, appendTo, afill, aeqL, teset, e3, e6, e7, e8, boxR, inj_take, inj_drop, inj_agg, inj_len, inj_one, List.length_map, range1, List.map_nil, List.nil_append]
        refine .inl ?_
        exact ⟨n - 1, by omega, j + 1, _, rfl, by rw [wrap_succ (by omega)], by omega, AH.Ext.newTok (by (repeat (first | exact AH.Ext.refl _ | assumption | refine AH.Ext.set ?_ (by first | omega | (simp only [new_nb, set_nb, kill_nb, newTok_nb, setTok_nb]; omega)) _ | refine AH.Ext.new ?_ _))), .inr ⟨h'.nt, 0, by rw [htk1, ht]; rfl, (by show (AH.newTok _).tok _ = _; exact newTok_at rfl), hnt⟩⟩
      · have hb0 : ((xs.take j).length + 1) * 80 ≤ 140737488355328 := by rw [List.length_take]; omega
        simp only [aws, ne_eq, eq_self, implies_true, imp_self, reduceIte, reduceCtorEq, Nat.reduceAdd, Nat.reduceLT, Nat.reduceLeDiff, Nat.reduceEqDiff, Nat.reduceSub, Nat.reduceMul, Nat.reduceBEq, Int.reduceBEq, Int.reduceBNe, Int.reduceLT, Int.reduceLE, Int.reduceGT, Int.reduceGE, Int.reduceNeg, Int.reduceEq, Int.reduceNe, Int.reduceToNat, Int.reduceAdd, aconv, acvB, capR, acmpnil, appBox, storeB, ares1, appendTo, afill, aeqL, teset, e3, e6, e7, e8, boxR, inj_take, inj_drop, inj_agg, inj_len, inj_one, List.length_map, range1, htk, hb0, List.length_map]
        exact ⟨n - 1, by omega, j + 1, _, rfl, by rw [wrap_succ (by omega)], by omega, AH.Ext.setTok (by (repeat (first | exact AH.Ext.refl _ | assumption | refine AH.Ext.set ?_ (by first | omega | (simp only [new_nb, set_nb, kill_nb, newTok_nb, setTok_nb]; omega)) _ | refine AH.Ext.new ?_ _))) htn _, .inr ⟨t, G + 1, by rw [htk1, List.map_append]; rfl, (by show (AH.setTok _ t (G + 1)).tok t = _; rw [setTok_tok, if_pos rfl]), htn⟩⟩
theorem read_meth (e : Nat) (h1 : 1 ≤ e) (h4 : e ≤ 4) (l : List UInt8) {h : AH} {b : Nat} (hll : l.length < 1000000000000) (hb : h.box b = some [.str (bS l)]) :
    ∃ f, AMeth Try.prog (tyE e) "cirrus/chunk.read" f ∧ FOk Try.prog f ∧ ACalls Try.prog f [.agg [], .ptr b 0] h (RdPost h b (lO (rEnc e l))) := by
  rcases nE_cases h1 h4 with rfl | rfl | rfl | rfl
  · exact ⟨_, m_plainly_read, ⟨Try.f67, Try.func67, rfl, by kernel_rfl⟩, plain_read l hll hb⟩
  · exact ⟨_, m_inRuns_read, ⟨Try.f82, Try.func82, rfl, by kernel_rfl⟩, runs_read l hll hb⟩
  · exact ⟨_, m_byDict_read, ⟨Try.f98, Try.func98, rfl, by kernel_rfl⟩, dict_read l hll hb⟩
  · exact ⟨_, m_byDelta_read, ⟨Try.f122, Try.func122, rfl, by kernel_rfl⟩, delta_read l hll hb⟩
/-- What the reading leaves: what was read, and what is left of the bytes. -/
def UnPost (H : AH) (br b8 : Nat) (o : Option (List V × List UInt8)) (out : AOut) (h' : AH) : Prop := match o with
  | some (xs, r) => out = .ret (.tup []) ∧ h' = (H.set br [.str (bS r)]).set b8 [.sl .ro 5 (xs.map inj)]
  | none => out = .panic wrongV ∧ ∃ r, h' = H.set br [.str (bS r)]
theorem unpackfn_calls (e : Nat) (h1 : 1 ≤ e) (h4 : e ≤ 4) (l : List UInt8) {H : AH} {b6 b9 b8 br : Nat} {c : AV} (hll : l.length < 1000000000000) (h6 : H.box b6 = some [.iface (tyE e) (.agg [])]) (h9 : H.box b9 = some [.ptr br 0]) (h8 : H.box b8 = some [c]) (hr : H.box br = some [.str (bS l)]) (hne : b8 ≠ br) :
    ACalls Try.prog 28 [.ptr b6 0, .ptr b9 0, .ptr b8 0] H (UnPost H br b8 (rEnc e l)) := by
  obtain ⟨f, hm, hf, hrd⟩ := read_meth e h1 h4 l hll hr
  have hne1 : (b8 = br) = False := by rw [eq_iff_iff]; exact ⟨hne, False.elim⟩
  refine acalls_of te_ok [] Try.func28 (c := _) rfl (Nat.le_of_ble_eq_true rfl) ?_
  simp only [aws, ne_eq, eq_self, implies_true, imp_self, reduceIte, reduceCtorEq, Nat.reduceAdd, Nat.reduceLT, Nat.reduceLeDiff, Nat.reduceEqDiff, Nat.reduceSub, Nat.reduceMul, Nat.reduceBEq, Int.reduceBEq, Int.reduceBNe, Int.reduceLT, Int.reduceLE, Int.reduceGT, Int.reduceGE, Int.reduceNeg, Int.reduceEq, Int.reduceNe, Int.reduceToNat, Int.reduceAdd, aconv, acvB, capR, acmpnil, appBox, storeB, ares1, appendTo, afill, aeqL, teset, Try.ntmps28, Try.results28, boxR, h6, h9, h8, hr]
  refine ⟨f, hm, .inl ⟨hf, hrd.mono ?_⟩⟩
  rintro out h' hp
  cases hq : rEnc e l with
  | none =>
    rw [hq] at hp
    obtain ⟨rfl, r, rfl⟩ := hp
    simp only [aws, ne_eq, eq_self, implies_true, imp_self, reduceIte, reduceCtorEq, Nat.reduceAdd, Nat.reduceLT, Nat.reduceLeDiff, Nat.reduceEqDiff, Nat.reduceSub, Nat.reduceMul, Nat.reduceBEq, Int.reduceBEq, Int.reduceBNe, Int.reduceLT, Int.reduceLE, Int.reduceGT, Int.reduceGE, Int.reduceNeg, Int.reduceEq, Int.reduceNe, Int.reduceToNat, Int.reduceAdd, aconv, acvB, capR, acmpnil, appBox, storeB, ares1, appendTo, afill, aeqL, teset, callK_panic, retQ_panic, thenQ_panic]
    exact ⟨rfl, r, rfl⟩
  | some p =>
    obtain ⟨xs, r⟩ := p
    rw [hq] at hp
    obtain ⟨rfl, rfl⟩ := hp
    simp only [aws, ne_eq, eq_self, implies_true, imp_self, reduceIte, reduceCtorEq, Nat.reduceAdd, Nat.reduceLT, Nat.reduceLeDiff, Nat.reduceEqDiff, Nat.reduceSub, Nat.reduceMul, Nat.reduceBEq, Int.reduceBEq, Int.reduceBNe, Int.reduceLT, Int.reduceLE, Int.reduceGT, Int.reduceGE, Int.reduceNeg, Int.reduceEq, Int.reduceNe, Int.reduceToNat, Int.reduceAdd, aconv, acvB, capR, acmpnil, appBox, storeB, ares1, appendTo, afill, aeqL, teset, callK_ret, boxR, h8, hne1]
    exact ⟨rfl, rfl⟩
end Go.Proofs.Ytlbhgoffiigfbaa.AW
end
section
set_option linter.unusedSimpArgs false
set_option linter.unusedVariables false
namespace Go.Proofs.Ytlbhgoffiigfbaa.AW
open Go Go.RowKit

def unBad (n : Int) : AV := .tup [.sl .ro 5 [], .int .i64 n]
/-- The values of bytes, if there are any. -/
def unIf (e : Nat) (l : List UInt8) (xs : List V) (r : List UInt8) : Option (List V) := if r = [] ∧ validL xs = true ∧ canL e xs = true ∧ encS e xs = bS l then some xs else none
def unV (e : Nat) (l : List UInt8) : Option (List V) := match rEnc e l with
  | some (xs, r) => unIf e l xs r
  | none => none
def unpackV (e : Nat) (l : List UInt8) : AV := match unV e l with
  | some xs => .tup [.sl .ro 5 (xs.map inj), .int .i64 0]
  | none => unBad 12
theorem wk_bad (n : Int) : Wk (.tup [.sl .full 0 [], .int .i64 n]) (unBad n) := (WkAll.cons wk_nil5 (.cons (.refl _) .nil)).tup
theorem unpack_arg (s : ByteArray) (n : Int) (hn : n < 1 ∨ 4 < n) : Pure Try.prog 16 [.str s, .int .i64 n] (unBad 3) := by
  refine Pure.ofW ⟨Try.f16, Try.func16, rfl, by kernel_rfl⟩ rfl (fun h hsc => ?_)
  refine acalls_of te_ok [14] Try.func16 (c := _) rfl (Nat.le_of_ble_eq_true rfl) ?_
  simp only [aws, ne_eq, eq_self, implies_true, imp_self, reduceIte, reduceCtorEq, Nat.reduceAdd, Nat.reduceLT, Nat.reduceLeDiff, Nat.reduceEqDiff, Nat.reduceSub, Nat.reduceMul, Nat.reduceBEq, Int.reduceBEq, Int.reduceBNe, Int.reduceLT, Int.reduceLE, Int.reduceGT, Int.reduceGE, Int.reduceNeg, Int.reduceEq, Int.reduceNe, Int.reduceToNat, Int.reduceAdd, aconv, acvB, capR, acmpnil, appBox, storeB, ares1, appendTo, afill, aeqL, teset, Try.ntmps16, Try.results16]
  refine ACallV.pure (of_bad n hn) ?_
  simp only [aws, ne_eq, eq_self, implies_true, imp_self, reduceIte, reduceCtorEq, Nat.reduceAdd, Nat.reduceLT, Nat.reduceLeDiff, Nat.reduceEqDiff, Nat.reduceSub, Nat.reduceMul, Nat.reduceBEq, Int.reduceBEq, Int.reduceBNe, Int.reduceLT, Int.reduceLE, Int.reduceGT, Int.reduceGE, Int.reduceNeg, Int.reduceEq, Int.reduceNe, Int.reduceToNat, Int.reduceAdd, aconv, acvB, capR, acmpnil, appBox, storeB, ares1, appendTo, afill, aeqL, teset, boxR]
  exact ⟨by (repeat (first | exact AH.Ext.refl _ | assumption | refine AH.Ext.set ?_ (by first | omega | (simp only [new_nb, set_nb, kill_nb, newTok_nb, setTok_nb]; omega)) _ | refine AH.Ext.new ?_ _)), _, rfl, wk_bad 3⟩
/-- What is caught: whether the bytes were read, and the heap then. -/
def CaPost (e : Nat) (l : List UInt8) (h : AH) (out : AOut) (h' : AH) : Prop := h.Ext h' ∧ match rEnc e l with
  | some (xs, r) => out = .ret (.bool true) ∧ h'.box h.nb = some [.iface (tyE e) (.agg [])] ∧ h'.box (h.nb + 1) = some [.sl .ro 5 (xs.map inj)] ∧ h'.box (h.nb + 1 + 1) = some [.str (bS r)] ∧ h'.box (h.nb + 1 + 1 + 1) = some [.ptr (h.nb + 1 + 1) 0]
  | none => out = .ret (.bool false)
theorem caught_un (e : Nat) (h1 : 1 ≤ e) (h4 : e ≤ 4) (l : List UInt8) (hll : l.length < 1000000000000) {h H : AH} (HE : h.Ext H) (HN : H.nb = h.nb + 1 + 1 + 1 + 1) (k6 : H.box h.nb = some [.iface (tyE e) (.agg [])]) (k8 : H.box (h.nb + 1) = some [.sl .full 0 []]) (kr : H.box (h.nb + 1 + 1) = some [.str (bS l)]) (k9 : H.box (h.nb + 1 + 1 + 1) = some [.ptr (h.nb + 1 + 1) 0]) :
    ACalls Try.prog 27 [.fn (.func 28) [] [.ptr h.nb 0, .ptr (h.nb + 1 + 1 + 1) 0, .ptr (h.nb + 1) 0]] H (CaPost e l h) := by
  have nb : ∀ b c, b < H.nb → (H.new c).box b = H.box b := fun b c hb => by rw [new_box, if_neg (by omega)]
  have hu := unpackfn_calls e h1 h4 l (H := H.new [.bool false]) (b6 := h.nb) (b9 := h.nb + 1 + 1 + 1) (b8 := h.nb + 1) (br := h.nb + 1 + 1) hll ((nb _ _ (by omega)).trans k6) ((nb _ _ (by omega)).trans k9) ((nb _ _ (by omega)).trans k8) ((nb _ _ (by omega)).trans kr) (by omega)
  refine caught_acalls2 ⟨Try.f28, Try.func28, rfl, by kernel_rfl⟩ (hu.mono ?_)
  rintro out h2 hp
  have se : ∀ (X : AH) (b q : Nat) (c : List AV), q ≠ b → (X.set b c).box q = X.box q := fun X b q c hq => by rw [set_box, if_neg hq]
  have nw : ∀ (X : AH) (q : Nat) (c : List AV), q ≠ X.nb → (X.new c).box q = X.box q := fun X q c hq => by rw [new_box, if_neg hq]
  unfold UnPost at hp
  cases hq : rEnc e l with
  | none =>
    rw [hq] at hp
    obtain ⟨rfl, r, rfl⟩ := hp
    refine ⟨?_, by simp only [set_nb, new_nb]; omega, .inr ⟨rfl, ?_⟩⟩
    · rw [se _ _ _ _ (by omega), new_box, if_pos rfl]
    · unfold CaPost
      rw [hq]
      exact ⟨by (repeat (first | exact AH.Ext.refl _ | assumption | refine AH.Ext.set ?_ (by first | omega | (simp only [new_nb, set_nb, kill_nb, newTok_nb, setTok_nb]; omega)) _ | refine AH.Ext.new ?_ _)), rfl⟩
  | some p =>
    obtain ⟨xs, r⟩ := p
    rw [hq] at hp
    obtain ⟨rfl, rfl⟩ := hp
    refine ⟨?_, by simp only [set_nb, new_nb]; omega, .inl ⟨⟨_, rfl⟩, ?_⟩⟩
    · rw [se _ _ _ _ (by omega), se _ _ _ _ (by omega), new_box, if_pos rfl]
    · unfold CaPost
      rw [hq]
      refine ⟨by (repeat (first | exact AH.Ext.refl _ | assumption | refine AH.Ext.set ?_ (by first | omega | (simp only [new_nb, set_nb, kill_nb, newTok_nb, setTok_nb]; omega)) _ | refine AH.Ext.new ?_ _)), rfl, ?_, ?_, ?_, ?_⟩
      · rw [se _ _ _ _ (by omega), se _ _ _ _ (by omega), se _ _ _ _ (by omega), nw _ _ _ (by omega)]; exact k6
      · rw [se _ _ _ _ (by omega), set_at]
      · rw [se _ _ _ _ (by omega), se _ _ _ _ (by omega), set_at]
      · rw [se _ _ _ _ (by omega), se _ _ _ _ (by omega), se _ _ _ _ (by omega), nw _ _ _ (by omega)]; exact k9
set_option maxHeartbeats 4000000 in
theorem unpack_good (e : Nat) (h1 : 1 ≤ e) (h4 : e ≤ 4) (l : List UInt8) (hll : l.length < 1000000000000) : Pure Try.prog 16 [.str (bS l), .int .i64 (e : Int)] (unpackV e l) := by
  refine Pure.ofW ⟨Try.f16, Try.func16, rfl, by kernel_rfl⟩ (by unfold unpackV; split <;> simp only [unBad, AV.under, AV.underL, injs_und, Bool.and_true]) (fun h hsc => ?_)
  refine acalls_of te_ok [14] Try.func16 (c := _) rfl (Nat.le_of_ble_eq_true rfl) ?_
  simp only [aws, ne_eq, eq_self, implies_true, imp_self, reduceIte, reduceCtorEq, Nat.reduceAdd, Nat.reduceLT, Nat.reduceLeDiff, Nat.reduceEqDiff, Nat.reduceSub, Nat.reduceMul, Nat.reduceBEq, Int.reduceBEq, Int.reduceBNe, Int.reduceLT, Int.reduceLE, Int.reduceGT, Int.reduceGE, Int.reduceNeg, Int.reduceEq, Int.reduceNe, Int.reduceToNat, Int.reduceAdd, aconv, acvB, capR, acmpnil, appBox, storeB, ares1, appendTo, afill, aeqL, teset, Try.ntmps16, Try.results16]
  refine ACallV.pure (of_good e h1 h4) ?_
  simp only [aws, ne_eq, eq_self, implies_true, imp_self, reduceIte, reduceCtorEq, Nat.reduceAdd, Nat.reduceLT, Nat.reduceLeDiff, Nat.reduceEqDiff, Nat.reduceSub, Nat.reduceMul, Nat.reduceBEq, Int.reduceBEq, Int.reduceBNe, Int.reduceLT, Int.reduceLE, Int.reduceGT, Int.reduceGE, Int.reduceNeg, Int.reduceEq, Int.reduceNe, Int.reduceToNat, Int.reduceAdd, aconv, acvB, capR, acmpnil, appBox, storeB, ares1, appendTo, afill, aeqL, teset, boxR]
  obtain ⟨H, hH⟩ : ∃ H, H = (((((h.new [.nili]).set h.nb [.iface (tyE e) (.agg [])]).new [.sl .full 0 []]).new [.str (bS l)]).new [.nilp]).set (h.nb + 1 + 1 + 1) [.ptr (h.nb + 1 + 1) 0] := ⟨_, rfl⟩
  have se : ∀ (X : AH) (b q : Nat) (c : List AV), q ≠ b → (X.set b c).box q = X.box q := fun X b q c hq => by rw [set_box, if_neg hq]
  have nw : ∀ (X : AH) (q : Nat) (c : List AV), q ≠ X.nb → (X.new c).box q = X.box q := fun X q c hq => by rw [new_box, if_neg hq]
  have HE : h.Ext H := by rw [hH]; (repeat (first | exact AH.Ext.refl _ | assumption | refine AH.Ext.set ?_ (by first | omega | (simp only [new_nb, set_nb, kill_nb, newTok_nb, setTok_nb]; omega)) _ | refine AH.Ext.new ?_ _))
  have HN : H.nb = h.nb + 1 + 1 + 1 + 1 := by rw [hH]; rfl
  have k6 : H.box h.nb = some [.iface (tyE e) (.agg [])] := by
    rw [hH, se _ _ _ _ (by omega), nw _ _ _ (by simp only [new_nb, set_nb]; omega), nw _ _ _ (by simp only [new_nb, set_nb]; omega), nw _ _ _ (by simp only [new_nb, set_nb]; omega), set_at]
  have k8 : H.box (h.nb + 1) = some [.sl .full 0 []] := by
    rw [hH, se _ _ _ _ (by omega), nw _ _ _ (by simp only [new_nb, set_nb]; omega), nw _ _ _ (by simp only [new_nb, set_nb]; omega), new_box]; exact if_pos rfl
  have kr : H.box (h.nb + 1 + 1) = some [.str (bS l)] := by
    rw [hH, se _ _ _ _ (by omega), nw _ _ _ (by simp only [new_nb, set_nb]; omega), new_box]; exact if_pos rfl
  have k9 : H.box (h.nb + 1 + 1 + 1) = some [.ptr (h.nb + 1 + 1) 0] := by rw [hH, set_at]
  rw [← hH]
  clear hH
  refine ACallV.mono ?_ (ACallV.of ⟨Try.f27, Try.func27, rfl, by kernel_rfl⟩ (caught_un e h1 h4 l hll HE HN k6 k8 kr k9))
  rintro out K ⟨KE, hp⟩
  clear HE HN k6 k8 kr k9
  unfold unpackV unV
  cases hq : rEnc e l with
  | none =>
    rw [hq] at hp
    subst hp
    simp only [aws, ne_eq, eq_self, implies_true, imp_self, reduceIte, reduceCtorEq, Nat.reduceAdd, Nat.reduceLT, Nat.reduceLeDiff, Nat.reduceEqDiff, Nat.reduceSub, Nat.reduceMul, Nat.reduceBEq, Int.reduceBEq, Int.reduceBNe, Int.reduceLT, Int.reduceLE, Int.reduceGT, Int.reduceGE, Int.reduceNeg, Int.reduceEq, Int.reduceNe, Int.reduceToNat, Int.reduceAdd, aconv, acvB, capR, acmpnil, appBox, storeB, ares1, appendTo, afill, aeqL, teset, callK_ret]
    exact ⟨KE, _, rfl, wk_bad 12⟩
  | some p =>
    obtain ⟨xs, r⟩ := p
    rw [hq] at hp
    obtain ⟨rfl, k6, k8, kr, k9⟩ := hp
    obtain ⟨hsm, hxl⟩ := rEnc_ok hll hq
    simp only
    cases r with
    | cons c r =>
      have hne : (!(bS (c :: r)).toList == ([] : List UInt8)) = true := by rw [bS_toList]; rfl
      rw [show unIf e l xs (c :: r) = none from if_neg (fun h5 => by cases h5.1)]
      simp only [aws, ne_eq, eq_self, implies_true, imp_self, reduceIte, reduceCtorEq, Nat.reduceAdd, Nat.reduceLT, Nat.reduceLeDiff, Nat.reduceEqDiff, Nat.reduceSub, Nat.reduceMul, Nat.reduceBEq, Int.reduceBEq, Int.reduceBNe, Int.reduceLT, Int.reduceLE, Int.reduceGT, Int.reduceGE, Int.reduceNeg, Int.reduceEq, Int.reduceNe, Int.reduceToNat, Int.reduceAdd, aconv, acvB, capR, acmpnil, appBox, storeB, ares1, appendTo, afill, aeqL, teset, callK_ret, k6, k8, kr, k9, nil_toList, hne]
      exact ⟨KE, _, rfl, wk_bad 12⟩
    | nil =>
      have hne : (!(bS []).toList == ([] : List UInt8)) = false := by rw [bS_toList]; rfl
      simp only [aws, ne_eq, eq_self, implies_true, imp_self, reduceIte, reduceCtorEq, Nat.reduceAdd, Nat.reduceLT, Nat.reduceLeDiff, Nat.reduceEqDiff, Nat.reduceSub, Nat.reduceMul, Nat.reduceBEq, Int.reduceBEq, Int.reduceBNe, Int.reduceLT, Int.reduceLE, Int.reduceGT, Int.reduceGE, Int.reduceNeg, Int.reduceEq, Int.reduceNe, Int.reduceToNat, Int.reduceAdd, aconv, acvB, capR, acmpnil, appBox, storeB, ares1, appendTo, afill, aeqL, teset, callK_ret, k6, k8, kr, k9, nil_toList, hne]
      refine ACallV.pure (validL_pure xs hsm (by omega)) ?_
      cases hv : validL xs with
      | false =>
        rw [show unIf e l xs [] = none from if_neg (fun h5 => by rw [hv] at h5; exact Bool.false_ne_true h5.2.1)]
        simp only [aws, ne_eq, eq_self, implies_true, imp_self, reduceIte, reduceCtorEq, Nat.reduceAdd, Nat.reduceLT, Nat.reduceLeDiff, Nat.reduceEqDiff, Nat.reduceSub, Nat.reduceMul, Nat.reduceBEq, Int.reduceBEq, Int.reduceBNe, Int.reduceLT, Int.reduceLE, Int.reduceGT, Int.reduceGE, Int.reduceNeg, Int.reduceEq, Int.reduceNe, Int.reduceToNat, Int.reduceAdd, aconv, acvB, capR, acmpnil, appBox, storeB, ares1, appendTo, afill, aeqL, teset, k6, k8, kr, k9]
        exact ⟨KE, _, rfl, wk_bad 12⟩
      | true =>
        obtain ⟨hx, hx2⟩ := validL_ok hv
        simp only [aws, ne_eq, eq_self, implies_true, imp_self, reduceIte, reduceCtorEq, Nat.reduceAdd, Nat.reduceLT, Nat.reduceLeDiff, Nat.reduceEqDiff, Nat.reduceSub, Nat.reduceMul, Nat.reduceBEq, Int.reduceBEq, Int.reduceBNe, Int.reduceLT, Int.reduceLE, Int.reduceGT, Int.reduceGE, Int.reduceNeg, Int.reduceEq, Int.reduceNe, Int.reduceToNat, Int.reduceAdd, aconv, acvB, capR, acmpnil, appBox, storeB, ares1, appendTo, afill, aeqL, teset, k6, k8, kr, k9]
        refine meth_call (can_meth e h1 h4 xs (by omega)) ?_
        cases hcan : canL e xs with
        | false =>
          rw [show unIf e l xs [] = none from if_neg (fun h5 => by rw [hcan] at h5; exact Bool.false_ne_true h5.2.2.1)]
          simp only [aws, ne_eq, eq_self, implies_true, imp_self, reduceIte, reduceCtorEq, Nat.reduceAdd, Nat.reduceLT, Nat.reduceLeDiff, Nat.reduceEqDiff, Nat.reduceSub, Nat.reduceMul, Nat.reduceBEq, Int.reduceBEq, Int.reduceBNe, Int.reduceLT, Int.reduceLE, Int.reduceGT, Int.reduceGE, Int.reduceNeg, Int.reduceEq, Int.reduceNe, Int.reduceToNat, Int.reduceAdd, aconv, acvB, capR, acmpnil, appBox, storeB, ares1, appendTo, afill, aeqL, teset, k6, k8, kr, k9]
          exact ⟨KE, _, rfl, wk_bad 12⟩
        | true =>
          simp only [aws, ne_eq, eq_self, implies_true, imp_self, reduceIte, reduceCtorEq, Nat.reduceAdd, Nat.reduceLT, Nat.reduceLeDiff, Nat.reduceEqDiff, Nat.reduceSub, Nat.reduceMul, Nat.reduceBEq, Int.reduceBEq, Int.reduceBNe, Int.reduceLT, Int.reduceLE, Int.reduceGT, Int.reduceGE, Int.reduceNeg, Int.reduceEq, Int.reduceNe, Int.reduceToNat, Int.reduceAdd, aconv, acvB, capR, acmpnil, appBox, storeB, ares1, appendTo, afill, aeqL, teset, k6, k8, kr, k9]
          refine meth_call (write_meth e h1 h4 xs hx (by omega)) ?_
          have hby := BY.enc e xs
          simp only [aws, ne_eq, eq_self, implies_true, imp_self, reduceIte, reduceCtorEq, Nat.reduceAdd, Nat.reduceLT, Nat.reduceLeDiff, Nat.reduceEqDiff, Nat.reduceSub, Nat.reduceMul, Nat.reduceBEq, Int.reduceBEq, Int.reduceBNe, Int.reduceLT, Int.reduceLE, Int.reduceGT, Int.reduceGE, Int.reduceNeg, Int.reduceEq, Int.reduceNe, Int.reduceToNat, Int.reduceAdd, aconv, acvB, capR, acmpnil, appBox, storeB, ares1, appendTo, afill, aeqL, teset, k6, k8, kr, k9, cellsOf, or_true, hby.cells, hby.avB]
          cases hs : (!(⟨⟨asB (encA e xs)⟩⟩ : ByteArray).toList == (bS l).toList) with
          | true =>
            have hne2 : ¬ encS e xs = bS l := fun h5 => by
              rw [show (⟨⟨asB (encA e xs)⟩⟩ : ByteArray) = encS e xs from rfl, h5] at hs
              simp at hs
            rw [show unIf e l xs [] = none from if_neg (fun h5 => hne2 h5.2.2.2)]
            simp only [aws, ne_eq, eq_self, implies_true, imp_self, reduceIte, reduceCtorEq, Nat.reduceAdd, Nat.reduceLT, Nat.reduceLeDiff, Nat.reduceEqDiff, Nat.reduceSub, Nat.reduceMul, Nat.reduceBEq, Int.reduceBEq, Int.reduceBNe, Int.reduceLT, Int.reduceLE, Int.reduceGT, Int.reduceGE, Int.reduceNeg, Int.reduceEq, Int.reduceNe, Int.reduceToNat, Int.reduceAdd, aconv, acvB, capR, acmpnil, appBox, storeB, ares1, appendTo, afill, aeqL, teset, k6, k8, kr, k9]
            exact ⟨KE, _, rfl, wk_bad 12⟩
          | false =>
            have heq : encS e xs = bS l := ba_ext2 (by
              have h5 : ((⟨⟨asB (encA e xs)⟩⟩ : ByteArray).toList == (bS l).toList) = true := by simpa using hs
              exact eq_of_beq h5)
            rw [show unIf e l xs [] = some xs from if_pos ⟨rfl, hv, hcan, heq⟩]
            simp only [aws, ne_eq, eq_self, implies_true, imp_self, reduceIte, reduceCtorEq, Nat.reduceAdd, Nat.reduceLT, Nat.reduceLeDiff, Nat.reduceEqDiff, Nat.reduceSub, Nat.reduceMul, Nat.reduceBEq, Int.reduceBEq, Int.reduceBNe, Int.reduceLT, Int.reduceLE, Int.reduceGT, Int.reduceGE, Int.reduceNeg, Int.reduceEq, Int.reduceNe, Int.reduceToNat, Int.reduceAdd, aconv, acvB, capR, acmpnil, appBox, storeB, ares1, appendTo, afill, aeqL, teset, k6, k8, kr, k9]
            refine ACallV.pure (clones_pure xs hx (by omega)) ?_
            simp only [aws, ne_eq, eq_self, implies_true, imp_self, reduceIte, reduceCtorEq, Nat.reduceAdd, Nat.reduceLT, Nat.reduceLeDiff, Nat.reduceEqDiff, Nat.reduceSub, Nat.reduceMul, Nat.reduceBEq, Int.reduceBEq, Int.reduceBNe, Int.reduceLT, Int.reduceLE, Int.reduceGT, Int.reduceGE, Int.reduceNeg, Int.reduceEq, Int.reduceNe, Int.reduceToNat, Int.reduceAdd, aconv, acvB, capR, acmpnil, appBox, storeB, ares1, appendTo, afill, aeqL, teset]
            exact ⟨KE, _, rfl, .refl _⟩
end Go.Proofs.Ytlbhgoffiigfbaa.AW
end
section
set_option linter.unusedSimpArgs false
set_option linter.unusedVariables false
namespace Go.Proofs.Ytlbhgoffiigfbaa.AW
open Go Go.RowKit

def bytesOf (e : Nat) (xs : List V) : ByteArray := if e = 0 then ⟨#[]⟩ else encS e xs
end Go.Proofs.Ytlbhgoffiigfbaa.AW
end
section
set_option linter.unusedSimpArgs false
set_option linter.unusedVariables false
namespace Go.Proofs.Ytlbhgoffiigfbaa.AW
open Go Go.RowKit

theorem allvalid_pure (xs : List V) (hl : xs.length < 4611686018427387904) : Pure Try.prog 24 [.sl .ro 5 (xs.map inj)] (.bool (xs.all valid)) := by
  refine Pure.of ⟨Try.f24, Try.func24, rfl, by kernel_rfl⟩ rfl (fun h => ?_)
  refine acalls_of te_ok [] Try.func24 (c := _) rfl (Nat.le_of_ble_eq_true rfl) ?_
  simp only [aws, ne_eq, eq_self, implies_true, imp_self, reduceIte, reduceCtorEq, Nat.reduceAdd, Nat.reduceLT, Nat.reduceLeDiff, Nat.reduceEqDiff, Nat.reduceSub, Nat.reduceMul, Nat.reduceBEq, Int.reduceBEq, Int.reduceBNe, Int.reduceLT, Int.reduceLE, Int.reduceGT, Int.reduceGE, Int.reduceNeg, Int.reduceEq, Int.reduceNe, Int.reduceToNat, Int.reduceAdd, aconv, acvB, capR, acmpnil, appBox, storeB, ares1, appendTo, afill, aeqL, teset, Try.ntmps24, Try.results24, inj_take, inj_drop, inj_agg, inj_len, inj_one, List.length_map]
  refine ⟨fun n s' h' => ∃ (j : Nat), s' 0 = .sl .ro 5 (xs.map inj) ∧ s' 3 = .int .i64 j ∧ h' = h ∧ n + j = xs.length ∧ (∀ (j' : Nat) x, j' < j → xs[j']? = some x → valid x = true), ⟨xs.length, 0, ?_⟩, ?_⟩
  · simp only [aws, ne_eq, eq_self, implies_true, imp_self, reduceIte, reduceCtorEq, Nat.reduceAdd, Nat.reduceLT, Nat.reduceLeDiff, Nat.reduceEqDiff, Nat.reduceSub, Nat.reduceMul, Nat.reduceBEq, Int.reduceBEq, Int.reduceBNe, Int.reduceLT, Int.reduceLE, Int.reduceGT, Int.reduceGE, Int.reduceNeg, Int.reduceEq, Int.reduceNe, Int.reduceToNat, Int.reduceAdd, aconv, acvB, capR, acmpnil, appBox, storeB, ares1, appendTo, afill, aeqL, teset, Int.natCast_zero]
    exact fun j' x hj => absurd hj (Nat.not_lt_zero _)
  · rintro n s' h' ⟨j, e0, e3, rfl, hn, hall⟩
    simp only [aws, ne_eq, eq_self, implies_true, imp_self, reduceIte, reduceCtorEq, Nat.reduceAdd, Nat.reduceLT, Nat.reduceLeDiff, Nat.reduceEqDiff, Nat.reduceSub, Nat.reduceMul, Nat.reduceBEq, Int.reduceBEq, Int.reduceBNe, Int.reduceLT, Int.reduceLE, Int.reduceGT, Int.reduceGE, Int.reduceNeg, Int.reduceEq, Int.reduceNe, Int.reduceToNat, Int.reduceAdd, aconv, acvB, capR, acmpnil, appBox, storeB, ares1, appendTo, afill, aeqL, teset, e0, e3, inj_take, inj_drop, inj_agg, inj_len, inj_one, List.length_map]
    cases hc : decide ((j : Int) < (xs.length : Int)) with
    | false =>
      simp only [aws, ne_eq, eq_self, implies_true, imp_self, reduceIte, reduceCtorEq, Nat.reduceAdd, Nat.reduceLT, Nat.reduceLeDiff, Nat.reduceEqDiff, Nat.reduceSub, Nat.reduceMul, Nat.reduceBEq, Int.reduceBEq, Int.reduceBNe, Int.reduceLT, Int.reduceLE, Int.reduceGT, Int.reduceGE, Int.reduceNeg, Int.reduceEq, Int.reduceNe, Int.reduceToNat, Int.reduceAdd, aconv, acvB, capR, acmpnil, appBox, storeB, ares1, appendTo, afill, aeqL, teset, e0, e3, inj_take, inj_drop, inj_agg, inj_len, inj_one, List.length_map]
      simp only [decide_eq_false_iff_not] at hc
      refine ⟨.refl _, _, rfl, ?_⟩
      have : xs.all valid = true := by
        rw [List.all_eq_true]
        intro x hx
        obtain ⟨j', hj'⟩ := List.mem_iff_getElem?.1 hx
        exact hall j' x (by have := (List.getElem?_eq_some_iff.1 hj').1; omega) hj'
      rw [this]; rfl
    | true =>
      simp only [decide_eq_true_eq] at hc
      have hj : j < xs.length := by omega
      have hget : (xs.map inj)[((j : Nat) : Int).toNat]? = some (inj xs[j]) := by simp [hj]
      simp only [aws, ne_eq, eq_self, implies_true, imp_self, reduceIte, reduceCtorEq, Nat.reduceAdd, Nat.reduceLT, Nat.reduceLeDiff, Nat.reduceEqDiff, Nat.reduceSub, Nat.reduceMul, Nat.reduceBEq, Int.reduceBEq, Int.reduceBNe, Int.reduceLT, Int.reduceLE, Int.reduceGT, Int.reduceGE, Int.reduceNeg, Int.reduceEq, Int.reduceNe, Int.reduceToNat, Int.reduceAdd, aconv, acvB, capR, acmpnil, appBox, storeB, ares1, appendTo, afill, aeqL, teset, e0, e3, inj_take, inj_drop, inj_agg, inj_len, inj_one, List.length_map, hget, Int.natCast_nonneg]
      refine ACallV.pure (refvalid_pure xs[j]) ?_
      cases hk : valid xs[j] with
      | false =>
        simp only [aws, ne_eq, eq_self, implies_true, imp_self, reduceIte, reduceCtorEq, Nat.reduceAdd, Nat.reduceLT, Nat.reduceLeDiff, Nat.reduceEqDiff, Nat.reduceSub, Nat.reduceMul, Nat.reduceBEq, Int.reduceBEq, Int.reduceBNe, Int.reduceLT, Int.reduceLE, Int.reduceGT, Int.reduceGE, Int.reduceNeg, Int.reduceEq, Int.reduceNe, Int.reduceToNat, Int.reduceAdd, aconv, acvB, capR, acmpnil, appBox, storeB, ares1, appendTo, afill, aeqL, teset, e0, e3, inj_take, inj_drop, inj_agg, inj_len, inj_one, List.length_map]
        refine ⟨.refl _, _, rfl, ?_⟩
        have : xs.all valid = false := by
          rw [Bool.eq_false_iff]
          intro hq
          rw [List.all_eq_true] at hq
          rw [hq _ (List.getElem_mem hj)] at hk; cases hk
        rw [this]; rfl
      | true =>
        simp only [aws, ne_eq, eq_self, implies_true, imp_self, reduceIte, reduceCtorEq, Nat.reduceAdd, Nat.reduceLT, Nat.reduceLeDiff, Nat.reduceEqDiff, Nat.reduceSub, Nat.reduceMul, Nat.reduceBEq, Int.reduceBEq, Int.reduceBNe, Int.reduceLT, Int.reduceLE, Int.reduceGT, Int.reduceGE, Int.reduceNeg, Int.reduceEq, Int.reduceNe, Int.reduceToNat, Int.reduceAdd, aconv, acvB, capR, acmpnil, appBox, storeB, ares1, appendTo, afill, aeqL, teset, e0, e3, inj_take, inj_drop, inj_agg, inj_len, inj_one, List.length_map]
        refine ⟨n - 1, by omega, j + 1, by rw [wrap_succ (by omega)], by omega, fun j' x hj' hx => ?_⟩
        by_cases e : j' = j
        · subst e; rw [List.getElem?_eq_getElem hj] at hx; injection hx with hx; subst hx; exact hk
        · exact hall j' x (by omega) hx
theorem proper_pure (xs : List V) (hl : xs.length < 4611686018427387904) : Pure Try.prog 14 [.sl .ro 5 (xs.map inj)] (.bool (validL xs)) := by
  refine Pure.of ⟨Try.f14, Try.func14, rfl, by kernel_rfl⟩ rfl (fun h => ?_)
  refine acalls_of te_ok [] Try.func14 (c := _) rfl (Nat.le_of_ble_eq_true rfl) ?_
  simp only [aws, ne_eq, eq_self, implies_true, imp_self, reduceIte, reduceCtorEq, Nat.reduceAdd, Nat.reduceLT, Nat.reduceLeDiff, Nat.reduceEqDiff, Nat.reduceSub, Nat.reduceMul, Nat.reduceBEq, Int.reduceBEq, Int.reduceBNe, Int.reduceLT, Int.reduceLE, Int.reduceGT, Int.reduceGE, Int.reduceNeg, Int.reduceEq, Int.reduceNe, Int.reduceToNat, Int.reduceAdd, aconv, acvB, capR, acmpnil, appBox, storeB, ares1, appendTo, afill, aeqL, teset, Try.ntmps14, Try.results14, inj_take, inj_drop, inj_agg, inj_len, inj_one, List.length_map]
  cases hc : decide ((xs.length : Int) ≤ 200) with
  | false =>
    simp only [aws, ne_eq, eq_self, implies_true, imp_self, reduceIte, reduceCtorEq, Nat.reduceAdd, Nat.reduceLT, Nat.reduceLeDiff, Nat.reduceEqDiff, Nat.reduceSub, Nat.reduceMul, Nat.reduceBEq, Int.reduceBEq, Int.reduceBNe, Int.reduceLT, Int.reduceLE, Int.reduceGT, Int.reduceGE, Int.reduceNeg, Int.reduceEq, Int.reduceNe, Int.reduceToNat, Int.reduceAdd, aconv, acvB, capR, acmpnil, appBox, storeB, ares1, appendTo, afill, aeqL, teset, inj_take, inj_drop, inj_agg, inj_len, inj_one, List.length_map]
    simp only [decide_eq_false_iff_not] at hc
    have : decide (xs.length ≤ 200) = false := by simp only [decide_eq_false_iff_not]; omega
    exact ⟨.refl _, _, rfl, by unfold validL; rw [this]; rfl⟩
  | true =>
    simp only [aws, ne_eq, eq_self, implies_true, imp_self, reduceIte, reduceCtorEq, Nat.reduceAdd, Nat.reduceLT, Nat.reduceLeDiff, Nat.reduceEqDiff, Nat.reduceSub, Nat.reduceMul, Nat.reduceBEq, Int.reduceBEq, Int.reduceBNe, Int.reduceLT, Int.reduceLE, Int.reduceGT, Int.reduceGE, Int.reduceNeg, Int.reduceEq, Int.reduceNe, Int.reduceToNat, Int.reduceAdd, aconv, acvB, capR, acmpnil, appBox, storeB, ares1, appendTo, afill, aeqL, teset, inj_take, inj_drop, inj_agg, inj_len, inj_one, List.length_map]
    simp only [decide_eq_true_eq] at hc
    refine ACallV.pure (allvalid_pure xs hl) ?_
    simp only [aws, ne_eq, eq_self, implies_true, imp_self, reduceIte, reduceCtorEq, Nat.reduceAdd, Nat.reduceLT, Nat.reduceLeDiff, Nat.reduceEqDiff, Nat.reduceSub, Nat.reduceMul, Nat.reduceBEq, Int.reduceBEq, Int.reduceBNe, Int.reduceLT, Int.reduceLE, Int.reduceGT, Int.reduceGE, Int.reduceNeg, Int.reduceEq, Int.reduceNe, Int.reduceToNat, Int.reduceAdd, aconv, acvB, capR, acmpnil, appBox, storeB, ares1, appendTo, afill, aeqL, teset]
    have : decide (xs.length ≤ 200) = true := by simp only [decide_eq_true_eq]; omega
    exact ⟨.refl _, _, rfl, by unfold validL; rw [this]; rfl⟩
theorem can_not {e : Nat} {xs : List V} (h : canL e xs = false) : e = 4 := by
  unfold canL at h
  by_cases e4 : e = 4
  · exact e4
  · rw [if_neg e4] at h; cases h
end Go.Proofs.Ytlbhgoffiigfbaa.AW
end
section
set_option linter.unusedSimpArgs false
set_option linter.unusedVariables false
namespace Go.Proofs.Ytlbhgoffiigfbaa.AW
open Go Go.RowKit

theorem unV_spec {e : Nat} {l : List UInt8} {xs : List V} (h : unV e l = some xs) : validL xs = true ∧ canL e xs = true ∧ encS e xs = bS l := by
  unfold unV at h
  cases hq : rEnc e l with
  | none => rw [hq] at h; cases h
  | some p =>
    obtain ⟨ys, r⟩ := p
    rw [hq] at h
    simp only [unIf] at h
    split at h
    · next hc =>
      injection h with h; subst h
      exact ⟨hc.2.1, hc.2.2.1, hc.2.2.2⟩
    · cases h
theorem bS_data (s : ByteArray) : bS s.data.toList = s := rfl
set_option maxHeartbeats 2000000 in
theorem only_law (s : ByteArray) (n : Int) : Pure Try.prog 5 [.str s, .int .i64 n] (.bool true) := by
  refine Pure.of ⟨Try.f5, Try.func5, rfl, by kernel_rfl⟩ rfl (fun h => ?_)
  refine acalls_of te_ok [18, 24, 25, 35, 39, 40, 41] Try.func5 (c := _) rfl (Nat.le_of_ble_eq_true rfl) ?_
  simp only [aws, ne_eq, eq_self, implies_true, imp_self, reduceIte, reduceCtorEq, Nat.reduceAdd, Nat.reduceLT, Nat.reduceLeDiff, Nat.reduceEqDiff, Nat.reduceSub, Nat.reduceMul, Nat.reduceBEq, Int.reduceBEq, Int.reduceBNe, Int.reduceLT, Int.reduceLE, Int.reduceGT, Int.reduceGE, Int.reduceNeg, Int.reduceEq, Int.reduceNe, Int.reduceToNat, Int.reduceAdd, aconv, acvB, capR, acmpnil, appBox, storeB, ares1, appendTo, afill, aeqL, teset, Try.ntmps5, Try.results5]
  cases hg : decide ((s.size : Int) > 40000) with
  | true =>
    simp only [aws, ne_eq, eq_self, implies_true, imp_self, reduceIte, reduceCtorEq, Nat.reduceAdd, Nat.reduceLT, Nat.reduceLeDiff, Nat.reduceEqDiff, Nat.reduceSub, Nat.reduceMul, Nat.reduceBEq, Int.reduceBEq, Int.reduceBNe, Int.reduceLT, Int.reduceLE, Int.reduceGT, Int.reduceGE, Int.reduceNeg, Int.reduceEq, Int.reduceNe, Int.reduceToNat, Int.reduceAdd, aconv, acvB, capR, acmpnil, appBox, storeB, ares1, appendTo, afill, aeqL, teset]
    refine ACallV.pure awake_pure ?_
    simp only [aws, ne_eq, eq_self, implies_true, imp_self, reduceIte, reduceCtorEq, Nat.reduceAdd, Nat.reduceLT, Nat.reduceLeDiff, Nat.reduceEqDiff, Nat.reduceSub, Nat.reduceMul, Nat.reduceBEq, Int.reduceBEq, Int.reduceBNe, Int.reduceLT, Int.reduceLE, Int.reduceGT, Int.reduceGE, Int.reduceNeg, Int.reduceEq, Int.reduceNe, Int.reduceToNat, Int.reduceAdd, aconv, acvB, capR, acmpnil, appBox, storeB, ares1, appendTo, afill, aeqL, teset]
    exact ⟨.refl _, _, rfl, rfl⟩
  | false =>
    simp only [decide_eq_false_iff_not] at hg
    simp only [aws, ne_eq, eq_self, implies_true, imp_self, reduceIte, reduceCtorEq, Nat.reduceAdd, Nat.reduceLT, Nat.reduceLeDiff, Nat.reduceEqDiff, Nat.reduceSub, Nat.reduceMul, Nat.reduceBEq, Int.reduceBEq, Int.reduceBNe, Int.reduceLT, Int.reduceLE, Int.reduceGT, Int.reduceGE, Int.reduceNeg, Int.reduceEq, Int.reduceNe, Int.reduceToNat, Int.reduceAdd, aconv, acvB, capR, acmpnil, appBox, storeB, ares1, appendTo, afill, aeqL, teset]
    by_cases hn : n < 1 ∨ 4 < n
    · refine ACallV.pure (unpack_arg s n hn) ?_
      simp only [aws, ne_eq, eq_self, implies_true, imp_self, reduceIte, reduceCtorEq, Nat.reduceAdd, Nat.reduceLT, Nat.reduceLeDiff, Nat.reduceEqDiff, Nat.reduceSub, Nat.reduceMul, Nat.reduceBEq, Int.reduceBEq, Int.reduceBNe, Int.reduceLT, Int.reduceLE, Int.reduceGT, Int.reduceGE, Int.reduceNeg, Int.reduceEq, Int.reduceNe, Int.reduceToNat, Int.reduceAdd, aconv, acvB, capR, acmpnil, appBox, storeB, ares1, appendTo, afill, aeqL, teset, unBad]
      refine ACallV.pure awake_pure ?_
      simp only [aws, ne_eq, eq_self, implies_true, imp_self, reduceIte, reduceCtorEq, Nat.reduceAdd, Nat.reduceLT, Nat.reduceLeDiff, Nat.reduceEqDiff, Nat.reduceSub, Nat.reduceMul, Nat.reduceBEq, Int.reduceBEq, Int.reduceBNe, Int.reduceLT, Int.reduceLE, Int.reduceGT, Int.reduceGE, Int.reduceNeg, Int.reduceEq, Int.reduceNe, Int.reduceToNat, Int.reduceAdd, aconv, acvB, capR, acmpnil, appBox, storeB, ares1, appendTo, afill, aeqL, teset]
      exact ⟨.refl _, _, rfl, rfl⟩
    · obtain ⟨e, rfl⟩ : ∃ e : Nat, n = (e : Int) := ⟨n.toNat, by omega⟩
      have hsl : s.data.toList.length < 1000000000000 := by
        have : s.data.toList.length = s.size := by simp
        omega
      have hu := unpack_good e (by omega) (by omega) s.data.toList hsl
      rw [bS_data] at hu
      unfold unpackV at hu
      cases hq : unV e s.data.toList with
      | none =>
        rw [hq] at hu
        refine ACallV.pure hu ?_
        simp only [aws, ne_eq, eq_self, implies_true, imp_self, reduceIte, reduceCtorEq, Nat.reduceAdd, Nat.reduceLT, Nat.reduceLeDiff, Nat.reduceEqDiff, Nat.reduceSub, Nat.reduceMul, Nat.reduceBEq, Int.reduceBEq, Int.reduceBNe, Int.reduceLT, Int.reduceLE, Int.reduceGT, Int.reduceGE, Int.reduceNeg, Int.reduceEq, Int.reduceNe, Int.reduceToNat, Int.reduceAdd, aconv, acvB, capR, acmpnil, appBox, storeB, ares1, appendTo, afill, aeqL, teset, unBad]
        refine ACallV.pure awake_pure ?_
        simp only [aws, ne_eq, eq_self, implies_true, imp_self, reduceIte, reduceCtorEq, Nat.reduceAdd, Nat.reduceLT, Nat.reduceLeDiff, Nat.reduceEqDiff, Nat.reduceSub, Nat.reduceMul, Nat.reduceBEq, Int.reduceBEq, Int.reduceBNe, Int.reduceLT, Int.reduceLE, Int.reduceGT, Int.reduceGE, Int.reduceNeg, Int.reduceEq, Int.reduceNe, Int.reduceToNat, Int.reduceAdd, aconv, acvB, capR, acmpnil, appBox, storeB, ares1, appendTo, afill, aeqL, teset]
        exact ⟨.refl _, _, rfl, rfl⟩
      | some xs =>
        rw [hq] at hu
        obtain ⟨hv, hc, hes⟩ := unV_spec hq
        rw [bS_data] at hes
        obtain ⟨hx, hx2⟩ := validL_ok hv
        have hp := pack_good xs e (by omega) (by omega) (fun x hxx => (hx x hxx).sm) (by omega) hv
        rw [hc, if_pos rfl, hes] at hp
        refine ACallV.pure hu ?_
        simp only [aws, ne_eq, eq_self, implies_true, imp_self, reduceIte, reduceCtorEq, Nat.reduceAdd, Nat.reduceLT, Nat.reduceLeDiff, Nat.reduceEqDiff, Nat.reduceSub, Nat.reduceMul, Nat.reduceBEq, Int.reduceBEq, Int.reduceBNe, Int.reduceLT, Int.reduceLE, Int.reduceGT, Int.reduceGE, Int.reduceNeg, Int.reduceEq, Int.reduceNe, Int.reduceToNat, Int.reduceAdd, aconv, acvB, capR, acmpnil, appBox, storeB, ares1, appendTo, afill, aeqL, teset]
        refine ACallV.pure hp ?_
        simp only [aws, ne_eq, eq_self, implies_true, imp_self, reduceIte, reduceCtorEq, Nat.reduceAdd, Nat.reduceLT, Nat.reduceLeDiff, Nat.reduceEqDiff, Nat.reduceSub, Nat.reduceMul, Nat.reduceBEq, Int.reduceBEq, Int.reduceBNe, Int.reduceLT, Int.reduceLE, Int.reduceGT, Int.reduceGE, Int.reduceNeg, Int.reduceEq, Int.reduceNe, Int.reduceToNat, Int.reduceAdd, aconv, acvB, capR, acmpnil, appBox, storeB, ares1, appendTo, afill, aeqL, teset, beq_self_eq_true]
        refine ACallV.pure awake_pure ?_
        simp only [aws, ne_eq, eq_self, implies_true, imp_self, reduceIte, reduceCtorEq, Nat.reduceAdd, Nat.reduceLT, Nat.reduceLeDiff, Nat.reduceEqDiff, Nat.reduceSub, Nat.reduceMul, Nat.reduceBEq, Int.reduceBEq, Int.reduceBNe, Int.reduceLT, Int.reduceLE, Int.reduceGT, Int.reduceGE, Int.reduceNeg, Int.reduceEq, Int.reduceNe, Int.reduceToNat, Int.reduceAdd, aconv, acvB, capR, acmpnil, appBox, storeB, ares1, appendTo, afill, aeqL, teset]
        exact ⟨.refl _, _, rfl, rfl⟩
end Go.Proofs.Ytlbhgoffiigfbaa.AW
end
section
set_option linter.unusedSimpArgs false
set_option linter.unusedVariables false
namespace Go.Proofs.Ytlbhgoffiigfbaa.AW
open Go Go.RowKit

theorem shape_cases {k i : Int} {t : ByteArray} {xs : List V} {ks : List ByteArray} (h : shape (.mk k i t xs ks) = true) :
    (k = 0 ∧ i = 0 ∧ t = ⟨#[]⟩ ∧ xs = [] ∧ ks = []) ∨ (k = 1 ∧ (i = 0 ∨ i = 1) ∧ t = ⟨#[]⟩ ∧ xs = [] ∧ ks = []) ∨ (k = 2 ∧ t = ⟨#[]⟩ ∧ xs = [] ∧ ks = []) ∨ (k = 3 ∧ i = 0 ∧ xs = [] ∧ ks = []) ∨ (k = 4 ∧ i = 0 ∧ t = ⟨#[]⟩ ∧ ks = []) ∨ (k = 5 ∧ i = 0 ∧ t = ⟨#[]⟩ ∧ ks.length = xs.length) := by
  have pl : ∀ {n t' i' k' : Bool}, plainS (.mk k i t xs ks) n t' i' k' = true → (n = true ∨ i = 0) ∧ (t' = true ∨ t = ⟨#[]⟩) ∧ (i' = true ∨ xs = []) ∧ (k' = true ∨ ks = []) := by
    intro n t' i' k' hp
    simp only [plainS, V.int, V.text, V.items, V.keys, Bool.and_eq_true, Bool.or_eq_true, beq_iff_eq] at hp
    obtain ⟨⟨⟨h1, h2⟩, h3⟩, h4⟩ := hp
    refine ⟨h1, h2.imp id (fun e => ba_ext2 e), h3.imp id (fun e => List.eq_nil_of_length_eq_zero (by omega)), h4.imp id (fun e => List.eq_nil_of_length_eq_zero (by omega))⟩
  by_cases h0 : k = 0
  · subst h0; rw [shape_0] at h
    have := pl h; simp at this
    exact .inl ⟨rfl, this⟩
  by_cases h1 : k = 1
  · subst h1; rw [shape_1, Bool.and_eq_true] at h
    have := pl h.1; simp at this
    have h2 := h.2
    simp only [V.int, Bool.or_eq_true, beq_iff_eq] at h2
    exact .inr (.inl ⟨rfl, h2, this⟩)
  by_cases h2 : k = 2
  · subst h2; rw [shape_2, Bool.and_eq_true] at h
    have := pl h.1; simp at this
    exact .inr (.inr (.inl ⟨rfl, this⟩))
  by_cases h3 : k = 3
  · subst h3; rw [shape_3, Bool.and_eq_true] at h
    have := pl h.1; simp at this
    exact .inr (.inr (.inr (.inl ⟨rfl, this⟩)))
  by_cases h4 : k = 4
  · subst h4; rw [shape_4] at h
    have := pl h; simp at this
    exact .inr (.inr (.inr (.inr (.inl ⟨rfl, this⟩))))
  by_cases h5 : k = 5
  · subst h5; rw [shape_5, Bool.and_eq_true, Bool.and_eq_true] at h
    have := pl h.1.1; simp at this
    have h2 := h.1.2
    simp only [V.keys, V.items, beq_iff_eq] at h2
    exact .inr (.inr (.inr (.inr (.inr ⟨rfl, this.1, this.2, by omega⟩))))
  rw [shape_x _ _ _ _ h0 h1 h2 h3 h4 h5] at h; cases h
theorem asB_raw (l : List UInt8) : asB (l.map fun (b : UInt8) => AV.int .u8 (b.toNat : Int)) = l := by
  have h := sB_raw l
  unfold sB at h
  simpa using h
theorem BY.raw (l : List UInt8) : BY (l.map fun (b : UInt8) => AV.int .u8 (b.toNat : Int)) := by
  intro x hx
  obtain ⟨c, _, rfl⟩ := List.mem_map.1 hx
  exact ⟨c.toNat, c.toNat_lt, rfl⟩
theorem asB_str (s : ByteArray) : asB (strA s) = numBy s.size ++ s.data.toList := by
  unfold strA
  rw [asB_app (BY.num _) (BY.raw _), asB_num, asB_raw]
theorem asB_byte (n : Nat) (h : n < 256) : asB [AV.int .u8 (IntKind.u8.wrap (n : Int))] = [UInt8.ofNat n] := by
  have hw : IntKind.u8.wrap (n : Int) = (n : Int) := by
    simp only [IntKind.wrap, IntKind.bits, IntKind.signed, Bool.false_and, Bool.false_eq_true, if_false]
    omega
  rw [hw, asB_cons n h BY.nil]
  rfl
theorem u8n (n : Nat) (h : n < 256) : (UInt8.ofNat n).toNat = n := by rw [UInt8.toNat_ofNat']; omega
theorem rText_str (s : ByteArray) (hs : s.size ≤ 100) (r : List UInt8) : rText (asB (strA s) ++ r) = some (s, r) := by
  have hlen : s.data.toList.length = s.size := by simp
  unfold rText
  rw [asB_str, List.append_assoc, rNum_num (by omega)]
  simp only
  rw [if_pos (by rw [List.length_append]; omega), List.take_append_of_le_length (by omega), List.take_of_length_le (by omega), ← hlen, List.drop_left]
theorem rInt_num (i : Int) (h1 : -1000000000000000 ≤ i) (h2 : i ≤ 1000000000000000) (r : List UInt8) : rInt (asB (numA (zig i)) ++ r) = some (i, r) := by
  unfold rInt
  rw [asB_num, rNum_num (by unfold zig; split <;> omega)]
  simp only [unzig_zig]
theorem rCount_num (n : Nat) (hn : n < 72057594037927936) {r : List UInt8} (hr : n ≤ r.length) : rCount (asB (numA n) ++ r) = some (n, r) := by
  unfold rCount
  rw [asB_num, rNum_num hn]
  simp only [if_pos hr]
theorem valA_pos (v : V) : 0 < (valA v).length := by cases v; rw [valA]; simp
theorem valL_ge : ∀ (obj : Bool) (xs : List V) (ks : List ByteArray), (obj = true → ks.length = xs.length) → xs.length ≤ (valL obj xs ks).length
  | _, [], _, _ => by simp
  | false, x :: xs, ks, _ => by
    have h1 := valL_ge false xs ks (fun h => by cases h)
    have h2 := valA_pos x
    rw [valL, List.length_append, List.length_cons]; omega
  | true, x :: xs, [], h => by have := h rfl; simp at this
  | true, x :: xs, k :: ks, h => by
    have h1 := valL_ge true xs ks (fun _ => by have := h rfl; simpa using this)
    have h2 := valA_pos x
    rw [valL, List.length_append, List.length_append, List.length_cons]; omega
theorem rItems_val (L : Nat) : ∀ (obj : Bool) (xs : List V) (ks : List ByteArray), (∀ x ∈ xs, ∀ r, rVal L (asB (valA x) ++ r) = some (x, r)) → (obj = true → ks.length = xs.length) → (obj = false → ks = []) → (∀ k ∈ ks, k.size ≤ 100) → ∀ r, rItems (rVal L) obj xs.length (asB (valL obj xs ks) ++ r) = some (xs, ks, r)
  | true, [], ks, _, h, _, _, r => by
    obtain rfl : ks = [] := List.eq_nil_of_length_eq_zero (by simpa using h rfl)
    rfl
  | false, [], ks, _, _, h, _, r => by
    obtain rfl := h rfl
    rfl
  | false, x :: xs, ks, hx, _, h, _, r => by
    obtain rfl := h rfl
    have ih := rItems_val L false xs [] (fun y hy => hx y (List.mem_cons_of_mem _ hy)) (fun e => by cases e) (fun _ => rfl) (fun k hk => by cases hk) r
    rw [valL, asB_app (BY.val _) (BY.valL _ _ _), List.append_assoc, List.length_cons, rItems]
    simp only [Bool.false_eq_true, if_false]
    rw [hx x List.mem_cons_self]
    simp only
    rw [ih]
  | true, x :: xs, [], _, h, _, _, r => by have := h rfl; simp at this
  | true, x :: xs, k :: ks, hx, h, _, hk, r => by
    have ih := rItems_val L true xs ks (fun y hy => hx y (List.mem_cons_of_mem _ hy)) (fun _ => by have := h rfl; simpa using this) (fun e => by cases e) (fun k hk' => hk k (List.mem_cons_of_mem _ hk')) r
    rw [valL, asB_app (BY.str _) (BY.app (BY.val _) (BY.valL _ _ _)), asB_app (BY.val _) (BY.valL _ _ _), List.append_assoc, List.append_assoc, List.length_cons, rItems]
    simp only [if_true]
    rw [rText_str k (hk k List.mem_cons_self)]
    simp only
    rw [hx x List.mem_cons_self]
    simp only
    rw [ih]
theorem rVal_val : ∀ (L : Nat) (v : V), nodesS L v ≤ 60 → ∀ r, rVal L (asB (valA v) ++ r) = some (v, r) := by
  intro L
  induction L with
  | zero => intro v h; simp [nodesS] at h
  | succ L ih =>
    intro v h r
    simp only [nodesS] at h
    split at h
    · omega
    next hl =>
    split at h
    case isFalse => omega
    next hs =>
    obtain ⟨k, i, t, xs, ks⟩ := v
    simp only [V.items] at h hl
    obtain ⟨hi, ht, hk⟩ := shape_small hs
    have hall := nodesF_all (nodesS L) xs 1 h
    have hxr : ∀ x ∈ xs, ∀ r, rVal L (asB (valA x) ++ r) = some (x, r) := fun x hx => ih x (hall x hx)
    have head : ∀ (n : Nat) (rest : List AV), n < 256 → BY rest → asB (AV.int .u8 (IntKind.u8.wrap (n : Int)) :: rest) = UInt8.ofNat n :: asB rest := fun n rest hn hB => by
      rw [← List.singleton_append, asB_app (BY.one _) hB, asB_byte n hn]; rfl
    have two : ∀ (l : List UInt8) (n : Nat), n < 256 → rVal (L + 1) (UInt8.ofNat n :: l) = (if n = 0 then some (V.mk 0 0 ⟨#[]⟩ [] [], l)
        else if n = 1 then (match rByte l with | some (i, l2) => some (.mk 1 (i : Int) ⟨#[]⟩ [] [], l2) | none => none)
        else if n = 2 then (match rInt l with | some (i, l2) => some (.mk 2 i ⟨#[]⟩ [] [], l2) | none => none)
        else if n = 3 then (match rText l with | some (t, l2) => some (.mk 3 0 t [] [], l2) | none => none)
        else if n = 4 ∨ n = 5 then (match rCount l with
          | some (m, l2) => (match rItems (rVal L) (n == 5) m l2 with
            | some (xs, ks, l3) => some (.mk (n : Int) 0 ⟨#[]⟩ xs ks, l3)
            | none => none)
          | none => none)
        else none) := fun l n hn => by
      rw [rVal]; simp only [rByte, u8n n hn]; rfl
    have hge := valL_ge
    rcases shape_cases hs with ⟨rfl, rfl, rfl, rfl, rfl⟩ | ⟨rfl, hi01, rfl, rfl, rfl⟩ | ⟨rfl, rfl, rfl, rfl⟩ | ⟨rfl, rfl, rfl, rfl⟩ | ⟨rfl, rfl, rfl, rfl⟩ | ⟨rfl, rfl, rfl, hkl⟩
    · rw [valA, show (0 : Int) = ((0 : Nat) : Int) from rfl, if_neg (by decide), if_neg (by decide), if_neg (by decide), if_neg (by decide), head 0 [] (by decide) BY.nil, List.cons_append, two _ 0 (by decide)]
      rfl
    · rw [valA, show (1 : Int) = ((1 : Nat) : Int) from rfl, if_pos rfl]
      obtain ⟨n, hn, rfl⟩ : ∃ n : Nat, n < 256 ∧ i = (n : Int) := by
        rcases hi01 with rfl | rfl
        · exact ⟨0, by decide, rfl⟩
        · exact ⟨1, by decide, rfl⟩
      rw [head 1 _ (by decide) (BY.one _), asB_byte n hn, List.cons_append, two _ 1 (by decide)]
      show (match rByte (UInt8.ofNat n :: r) with | some (i, l2) => some (V.mk 1 (i : Int) ⟨#[]⟩ [] [], l2) | none => none) = _
      simp only [rByte, u8n n hn]
      rfl
    · rw [valA, show (2 : Int) = ((2 : Nat) : Int) from rfl, if_neg (by decide), if_pos rfl, head 2 _ (by decide) (BY.num _), List.cons_append, two _ 2 (by decide)]
      show (match rInt (asB (numA (zig i)) ++ r) with | some (i, l2) => some (V.mk 2 i ⟨#[]⟩ [] [], l2) | none => none) = _
      rw [rInt_num i (by omega) (by omega)]
      rfl
    · rw [valA, show (3 : Int) = ((3 : Nat) : Int) from rfl, if_neg (by decide), if_neg (by decide), if_pos rfl, head 3 _ (by decide) (BY.str _), List.cons_append, two _ 3 (by decide)]
      show (match rText (asB (strA t) ++ r) with | some (t, l2) => some (V.mk 3 0 t [] [], l2) | none => none) = _
      rw [rText_str t ht]
      rfl
    · rw [valA, show (4 : Int) = ((4 : Nat) : Int) from rfl, if_neg (by decide), if_neg (by decide), if_neg (by decide), if_pos (.inl rfl), head 4 _ (by decide) (BY.app (BY.num _) (BY.valL _ _ _)), asB_app (BY.num _) (BY.valL _ _ _), List.cons_append, List.append_assoc, two _ 4 (by decide)]
      have h1 := hge false xs [] (fun e => by cases e)
      show (match rCount (asB (numA xs.length) ++ (asB (valL false xs []) ++ r)) with
          | some (m, l2) => (match rItems (rVal L) false m l2 with
            | some (xs, ks, l3) => some (V.mk (4 : Int) 0 ⟨#[]⟩ xs ks, l3)
            | none => none)
          | none => none) = _
      rw [rCount_num _ (by omega) (by rw [List.length_append, (BY.valL false xs []).len]; omega)]
      simp only
      rw [rItems_val L false xs [] hxr (fun e => by cases e) (fun _ => rfl) (fun k hk => by cases hk) r]
      rfl
    · rw [valA, show (5 : Int) = ((5 : Nat) : Int) from rfl, if_neg (by decide), if_neg (by decide), if_neg (by decide), if_pos (.inr rfl), head 5 _ (by decide) (BY.app (BY.num _) (BY.valL _ _ _)), asB_app (BY.num _) (BY.valL _ _ _), List.cons_append, List.append_assoc, two _ 5 (by decide)]
      have h1 := hge true xs ks (fun _ => hkl)
      show (match rCount (asB (numA xs.length) ++ (asB (valL true xs ks) ++ r)) with
          | some (m, l2) => (match rItems (rVal L) true m l2 with
            | some (xs, ks, l3) => some (V.mk (5 : Int) 0 ⟨#[]⟩ xs ks, l3)
            | none => none)
          | none => none) = _
      rw [rCount_num _ (by omega) (by rw [List.length_append, (BY.valL true xs ks).len]; omega)]
      simp only
      rw [rItems_val L true xs ks hxr (fun _ => hkl) (fun e => by cases e) hk r]
      rfl
end Go.Proofs.Ytlbhgoffiigfbaa.AW
end
section
set_option linter.unusedSimpArgs false
set_option linter.unusedVariables false
namespace Go.Proofs.Ytlbhgoffiigfbaa.AW
open Go Go.RowKit

theorem valid_nodes {x : V} (h : valid x = true) : nodesS 6 x ≤ 60 := of_decide_eq_true h
theorem valid_Vok {x : V} (h : valid x = true) : Vok x := ⟨6, valid_nodes h⟩
theorem asB_vals_cons (x : V) (xs : List V) : asB (valsA (x :: xs)) = asB (valA x) ++ asB (valsA xs) := by
  show asB (valA x ++ valsA xs) = _
  exact asB_app (BY.val _) (BY.vals _)
theorem rValsN_vals : ∀ (xs acc : List V) (r : List UInt8), (∀ x ∈ xs, valid x = true) → rValsN xs.length acc (asB (valsA xs) ++ r) = some (acc ++ xs, r)
  | [], acc, r, _ => by simp [rValsN, valsA, asB, avB]
  | x :: xs, acc, r, h => by
    have hx := h x List.mem_cons_self
    rw [asB_vals_cons, List.append_assoc, List.length_cons, rValsN, rVal_val 6 x (valid_nodes hx)]
    simp only [hx, if_true]
    rw [rValsN_vals xs (acc ++ [x]) r (fun y hy => h y (List.mem_cons_of_mem _ hy)), List.append_assoc]; rfl
theorem valsA_ge : ∀ (xs : List V), xs.length ≤ (valsA xs).length
  | [] => by simp
  | x :: xs => by
    have h1 := valsA_ge xs
    have h2 := valA_pos x
    show _ ≤ (valA x ++ valsA xs).length
    rw [List.length_append, List.length_cons]; omega
theorem rVals_plain (xs : List V) (h : ∀ x ∈ xs, valid x = true) (hl : xs.length ≤ 200) (r : List UInt8) : rVals (asB (plainA xs) ++ r) = some (xs, r) := by
  unfold rVals plainA
  have hg := valsA_ge xs
  rw [asB_app (BY.num _) (BY.vals _), List.append_assoc, rCount_num _ (by omega) (by rw [List.length_append, (BY.vals xs).len]; omega)]
  simp only [if_pos hl]
  rw [rValsN_vals xs [] r h]; rfl
def expand (rs : List (Nat × V)) : List V := rs.flatMap fun p => List.replicate p.1 p.2
theorem BY.runb (rs : List (Nat × V)) : BY (runB rs) := BY.flat (fun p => BY.app (BY.num _) (BY.val _)) rs
theorem runB_ge : ∀ (rs : List (Nat × V)), rs.length ≤ (runB rs).length
  | [] => by simp
  | p :: rs => by
    have h1 := runB_ge rs
    have h2 := valA_pos p.2
    show _ ≤ ((numA p.1 ++ valA p.2) ++ runB rs).length
    rw [List.length_append, List.length_append, List.length_cons]; omega
theorem rRunsN_runs : ∀ (rs : List (Nat × V)) (acc : List V) (r : List UInt8), (∀ p ∈ rs, valid p.2 = true) → (acc ++ expand rs).length ≤ 200 → rRunsN rs.length acc (asB (runB rs) ++ r) = some (acc ++ expand rs, r)
  | [], acc, r, _, _ => by simp [rRunsN, runB, asB, avB, expand]
  | p :: rs, acc, r, h, hl => by
    have hx := h p List.mem_cons_self
    have he : expand (p :: rs) = List.replicate p.1 p.2 ++ expand rs := rfl
    rw [he] at hl
    have hl2 := hl
    rw [List.length_append, List.length_append, List.length_replicate] at hl2
    have hb : asB (runB (p :: rs)) = numBy p.1 ++ (asB (valA p.2) ++ asB (runB rs)) := by
      show asB ((numA p.1 ++ valA p.2) ++ runB rs) = _
      rw [List.append_assoc, asB_app (BY.num _) (BY.app (BY.val _) (BY.runb _)), asB_app (BY.val _) (BY.runb _), asB_num]
    rw [hb, List.append_assoc, List.append_assoc, List.length_cons, rRunsN, rNum_num (by omega)]
    simp only
    rw [if_pos (by omega), rVal_val 6 p.2 (valid_nodes hx)]
    simp only
    rw [if_pos (by rw [List.length_append, List.length_replicate]; omega), rRunsN_runs rs _ r (fun q hq => h q (List.mem_cons_of_mem _ hq)) (by rw [List.append_assoc]; exact hl), he, List.append_assoc]
theorem expand_runs : ∀ (n : Nat) (xs : List V), xs.length ≤ n → (∀ x ∈ xs, Vok x) → expand (runsL xs) = xs
  | _, [], _, _ => by rw [runsL_nil]; rfl
  | 0, x :: ys, h, _ => by simp at h
  | n + 1, x :: ys, h, hv => by
    have hx := hv x List.mem_cons_self
    have hle := headN_le x ys
    simp only [List.length_cons] at h
    have ih := expand_runs n (ys.drop (headN x ys)) (by rw [List.length_drop]; omega) (fun y hy => hv y (List.mem_cons_of_mem _ (List.mem_of_mem_drop hy)))
    rw [runsL_cons]
    show List.replicate (1 + headN x ys) x ++ expand (runsL (ys.drop (headN x ys))) = x :: ys
    rw [ih]
    have ht : List.take (headN x ys) ys = List.replicate (headN x ys) x := by
      have h1 : List.take (headN x ys) ys = ys.takeWhile fun y => ord x y == 0 := by
        unfold headN
        exact (List.prefix_iff_eq_take.1 (List.takeWhile_prefix _)).symm
      rw [h1]
      refine List.eq_replicate_iff.2 ⟨rfl, fun y hy => ?_⟩
      have hm : y ∈ ys := (List.takeWhile_sublist _).mem hy
      have hy0 : ord x y = 0 := by
        have := List.all_eq_true.1 List.all_takeWhile y hy
        simpa using this
      have hyv := hv y (List.mem_cons_of_mem _ hm)
      exact (ordN_zero x y hx hyv (by rw [← ord_eq _ _ hx hyv]; exact hy0)).symm
    rw [Nat.add_comm, List.replicate_succ, ← ht, List.cons_append, List.take_append_drop]
theorem runs_mem : ∀ (n : Nat) (xs : List V), xs.length ≤ n → ∀ p ∈ runsL xs, p.2 ∈ xs
  | _, [], _ => by intro p hp; rw [runsL_nil] at hp; cases hp
  | 0, x :: ys, h => by simp at h
  | n + 1, x :: ys, h => by
    intro p hp
    simp only [List.length_cons] at h
    rw [runsL_cons] at hp
    rcases List.mem_cons.1 hp with rfl | hp
    · exact List.mem_cons_self
    · exact List.mem_cons_of_mem _ (List.mem_of_mem_drop (runs_mem n _ (by rw [List.length_drop]; omega) p hp))
theorem rRuns_runs (xs : List V) (h : ∀ x ∈ xs, valid x = true) (hl : xs.length ≤ 200) (r : List UInt8) : rRuns (asB (runsA xs) ++ r) = some (xs, r) := by
  have hex := expand_runs xs.length xs (Nat.le_refl _) (fun x hx => valid_Vok (h x hx))
  have hg := runB_ge (runsL xs)
  have hrl := runsL_len xs.length xs (Nat.le_refl _)
  unfold rRuns runsA
  rw [asB_app (BY.num _) (BY.runb _), List.append_assoc, rCount_num _ (by omega) (by rw [List.length_append, (BY.runb (runsL xs)).len]; omega)]
  simp only
  rw [rRunsN_runs (runsL xs) [] r (fun p hp => h _ (runs_mem xs.length xs (Nat.le_refl _) p hp)) (by rw [List.nil_append, hex]; exact hl), List.nil_append, hex]
theorem BY.places (ws xs : List V) : BY (placesA ws xs) := BY.flat (fun v => BY.num _) xs
theorem places_ge (ws : List V) : ∀ (xs : List V), xs.length ≤ (placesA ws xs).length
  | [] => by simp
  | x :: xs => by
    have h1 := places_ge ws xs
    have h2 := List.length_pos_iff.2 (numA_ne (lbV ws x))
    show _ ≤ (numA (lbV ws x) ++ placesA ws xs).length
    rw [List.length_append, List.length_cons]; omega
theorem rDictN_places (ws : List V) (hwl : ws.length ≤ 1000) : ∀ (xs acc : List V) (r : List UInt8), (∀ x ∈ xs, ws[lbV ws x]? = some x) → rDictN ws xs.length acc (asB (placesA ws xs) ++ r) = some (acc ++ xs, r)
  | [], acc, r, _ => by simp [rDictN, placesA, asB, avB]
  | x :: xs, acc, r, h => by
    have hx := h x List.mem_cons_self
    obtain ⟨hlt, hxe⟩ := List.getElem?_eq_some_iff.1 hx
    have hb : asB (placesA ws (x :: xs)) = numBy (lbV ws x) ++ asB (placesA ws xs) := by
      show asB (numA (lbV ws x) ++ placesA ws xs) = _
      rw [asB_app (BY.num _) (BY.places _ _), asB_num]
    rw [hb, List.append_assoc, List.length_cons, rDictN, rNum_num (by omega)]
    simp only
    rw [dif_pos hlt, hxe, rDictN_places ws hwl xs (acc ++ [x]) r (fun y hy => h y (List.mem_cons_of_mem _ hy)), List.append_assoc]; rfl
theorem least : ∀ (n : Nat) (P : Nat → Prop), P n → ∃ k, k ≤ n ∧ P k ∧ ∀ j, j < k → ¬ P j := by
  intro n
  induction n using Nat.strongRecOn with
  | ind n ih =>
    intro P hP
    by_cases h : ∃ j, j < n ∧ P j
    · obtain ⟨j, hj, hPj⟩ := h
      obtain ⟨k, h1, h2, h3⟩ := ih j hj P hPj
      exact ⟨k, by omega, h2, h3⟩
    · exact ⟨n, Nat.le_refl _, hP, fun j hj hPj => h ⟨j, hj, hPj⟩⟩
theorem word_at {xs : List V} (hx : ∀ x ∈ xs, Vok x) {x : V} (hm : x ∈ xs) : (wordsL xs)[lbV (wordsL xs) x]? = some x := by
  have hok := words_ok hx
  obtain ⟨i, hi, hie⟩ := List.getElem_of_mem (words_all hx x hm)
  obtain ⟨k, hk, hP, hb⟩ := least i (fun j => ∃ h : j < (wordsL xs).length, ord (wordsL xs)[j] x = 0) ⟨hi, by rw [hie]; exact ord_self (hx x hm)⟩
  obtain ⟨hkl, h0⟩ := hP
  have hlb := lb_first (words_sorted xs) hok (hx x hm) hkl h0 (fun k' w hk' hw h0' => by
    obtain ⟨hkl', hwe⟩ := List.getElem?_eq_some_iff.1 hw
    exact hb k' hk' ⟨hkl', by rw [hwe]; exact h0'⟩)
  rw [hlb, List.getElem?_eq_getElem hkl, ord_eq0 (hok _ (List.getElem_mem hkl)) (hx x hm) h0]
theorem rDict_dict (xs : List V) (h : ∀ x ∈ xs, valid x = true) (hl : xs.length ≤ 200) (r : List UInt8) : rDict (asB (dictA xs) ++ r) = some (xs, r) := by
  have hv : ∀ x ∈ xs, Vok x := fun x hx => valid_Vok (h x hx)
  have hwl := words_len xs
  have hwv : ∀ w ∈ wordsL xs, valid w = true := fun w hw => h w (sortV_mem.1 (dd_mem w hw))
  have hg := places_ge (wordsL xs) xs
  have hb : asB (dictA xs) ++ r = asB (plainA (wordsL xs)) ++ (asB (numA xs.length) ++ (asB (placesA (wordsL xs) xs) ++ r)) := by
    show asB (((numA (wordsL xs).length ++ valsA (wordsL xs)) ++ numA xs.length) ++ placesA (wordsL xs) xs) ++ r = asB (numA (wordsL xs).length ++ valsA (wordsL xs)) ++ _
    rw [asB_app (BY.app (BY.app (BY.num _) (BY.vals _)) (BY.num _)) (BY.places _ _), asB_app (BY.app (BY.num _) (BY.vals _)) (BY.num _), List.append_assoc, List.append_assoc]
  unfold rDict
  rw [hb, rVals_plain _ hwv (by omega)]
  simp only
  rw [rCount_num _ (by omega) (by rw [List.length_append, (BY.places _ xs).len]; omega)]
  simp only
  rw [rDictN_places _ (by omega) xs [] r (fun x hx => word_at hv hx)]
  rfl
theorem int_form {x : V} (hv : Vok x) (hk : x.kind = 2) : x = intV x.int := by
  obtain ⟨k, i, t, xs, ks⟩ := x
  have hk' : k = 2 := hk
  subst hk'
  rcases shape_cases (Vok.shape hv).1 with h | h | h | h | h | h
  · omega
  · omega
  · obtain ⟨_, rfl, rfl, rfl⟩ := h; rfl
  · omega
  · omega
  · omega
theorem rDeltaN_delta : ∀ (xs : List V) (p : Int) (acc : List V) (r : List UInt8), (∀ x ∈ xs, Vok x) → (∀ x ∈ xs, x.kind = 2) → -1000000000000 ≤ p → p ≤ 1000000000000 → rDeltaN xs.length p acc (asB (deltaL p xs) ++ r) = some (acc ++ xs, r)
  | [], p, acc, r, _, _, _, _ => by simp [rDeltaN, deltaL, asB, avB]
  | x :: xs, p, acc, r, hv, hk, h1, h2 => by
    have hx := hv x List.mem_cons_self
    have hi := hx.int
    have hb : asB (deltaL p (x :: xs)) = asB (numA (zig (x.int - p))) ++ asB (deltaL x.int xs) := by
      rw [deltaL, asB_app (BY.num _) (BY.deltaL _ _)]
    have ih := rDeltaN_delta xs x.int (acc ++ [x]) r (fun y hy => hv y (List.mem_cons_of_mem _ hy)) (fun y hy => hk y (List.mem_cons_of_mem _ hy)) hi.1 hi.2
    have he : p + (x.int - p) = x.int := by omega
    rw [hb, List.append_assoc, List.length_cons, rDeltaN, rInt_num _ (by omega) (by omega)]
    simp only [he]
    rw [if_pos hi, ← int_form hx (hk x List.mem_cons_self), ih, List.append_assoc]
    rfl
theorem delta_ge : ∀ (xs : List V) (p : Int), xs.length ≤ (deltaL p xs).length
  | [], _ => by simp
  | x :: xs, p => by
    have h1 := delta_ge xs x.int
    have h2 := List.length_pos_iff.2 (numA_ne (zig (x.int - p)))
    rw [deltaL, List.length_append, List.length_cons]; omega
theorem rDelta_delta (xs : List V) (h : ∀ x ∈ xs, valid x = true) (hk : intsL xs = true) (hl : xs.length ≤ 200) (r : List UInt8) : rDelta (asB (deltaA xs) ++ r) = some (xs, r) := by
  have hg := delta_ge xs 0
  unfold rDelta deltaA
  rw [asB_app (BY.num _) (BY.deltaL _ _), List.append_assoc, rCount_num _ (by omega) (by rw [List.length_append, (BY.deltaL xs 0).len]; omega)]
  simp only
  rw [rDeltaN_delta xs 0 [] r (fun x hx => valid_Vok (h x hx)) (fun x hx => by
    have := List.all_eq_true.1 hk x hx
    simpa using this) (by decide) (by decide)]
  rfl
/-- What is packed is unpacked. -/
theorem rEnc_enc (e : Nat) (e1 : 1 ≤ e) (e4 : e ≤ 4) (xs : List V) (h : ∀ x ∈ xs, valid x = true) (hl : xs.length ≤ 200) (hc : canL e xs = true) (r : List UInt8) : rEnc e (asB (encA e xs) ++ r) = some (xs, r) := by
  unfold rEnc encA
  by_cases h1 : e = 1
  · rw [if_pos h1, if_pos h1]; exact rVals_plain xs h hl r
  rw [if_neg h1, if_neg h1]
  by_cases h2 : e = 2
  · rw [if_pos h2, if_pos h2]; exact rRuns_runs xs h hl r
  rw [if_neg h2, if_neg h2]
  by_cases h3 : e = 3
  · rw [if_pos h3, if_pos h3]; exact rDict_dict xs h hl r
  rw [if_neg h3, if_neg h3]
  have h4 : e = 4 := by omega
  subst h4
  exact rDelta_delta xs h hc hl r
theorem unV_pack (e : Nat) (e1 : 1 ≤ e) (e4 : e ≤ 4) (xs : List V) (hv : validL xs = true) (hc : canL e xs = true) : unV e (asB (encA e xs)) = some xs := by
  have hv2 := hv
  unfold validL at hv2
  rw [Bool.and_eq_true, decide_eq_true_eq, List.all_eq_true] at hv2
  have := rEnc_enc e e1 e4 xs hv2.2 hv2.1 hc []
  rw [List.append_nil] at this
  unfold unV
  rw [this]
  exact if_pos ⟨rfl, hv, hc, rfl⟩
end Go.Proofs.Ytlbhgoffiigfbaa.AW
end
section
set_option linter.unusedSimpArgs false
set_option linter.unusedVariables false
namespace Go.Proofs.Ytlbhgoffiigfbaa.AW
open Go Go.RowKit

theorem encA_small (e : Nat) (xs : List V) (hx : ∀ x ∈ xs, Vok x) (hl : xs.length ≤ 200) : (encA e xs).length < 100000000 := by
  have h0 := numA_len xs.length (by omega)
  have h1 := valsA_len hx
  have h2 := runB_len xs.length xs (Nat.le_refl _) (by omega) hx
  have h3 := runsL_len xs.length xs (Nat.le_refl _)
  have h4 := numA_len (runsL xs).length (by omega)
  have h5 := words_len xs
  have h6 := numA_len (wordsL xs).length (by omega)
  have h7 := valsA_len (words_ok hx)
  have h8 := places_len (wordsL xs) (by omega) xs
  have h9 := deltaL_len xs 0 hx (by decide) (by decide)
  unfold encA
  split
  · simp only [plainA, List.length_append]; omega
  · split
    · simp only [runsA, List.length_append]; omega
    · split
      · simp only [dictA, List.length_append]; omega
      · simp only [deltaA, List.length_append]; omega
theorem encA_sizes (e : Nat) (xs : List V) (hv : validL xs = true) : (asB (encA e xs)).length < 1000000000000 := by
  obtain ⟨hx, hl⟩ := validL_ok hv
  have := encA_small e xs hx hl
  rw [(BY.enc e xs).len]
  omega
theorem unpack_back (e : Nat) (e1 : 1 ≤ e) (e4 : e ≤ 4) (xs : List V) (hv : validL xs = true) (hc : canL e xs = true) : Pure Try.prog 16 [.str (encS e xs), .int .i64 (e : Int)] (.tup [.sl .ro 5 (xs.map inj), .int .i64 0]) := by
  have hu := unpack_good e e1 e4 (asB (encA e xs)) (encA_sizes e xs hv)
  unfold unpackV at hu
  rw [unV_pack e e1 e4 xs hv hc] at hu
  exact hu
set_option maxHeartbeats 2000000 in
theorem back_law (xs : List V) (hsm : ∀ x ∈ xs, x.sm) (hl : xs.length < 4611686018427387904) : Pure Try.prog 4 [.sl .ro 5 (xs.map inj)] (.bool true) := by
  refine Pure.of ⟨Try.f4, Try.func4, rfl, by kernel_rfl⟩ rfl (fun h => ?_)
  refine acalls_of te_ok [25, 26] Try.func4 (c := _) rfl (Nat.le_of_ble_eq_true rfl) ?_
  simp only [aws, ne_eq, eq_self, implies_true, imp_self, reduceIte, reduceCtorEq, Nat.reduceAdd, Nat.reduceLT, Nat.reduceLeDiff, Nat.reduceEqDiff, Nat.reduceSub, Nat.reduceMul, Nat.reduceBEq, Int.reduceBEq, Int.reduceBNe, Int.reduceLT, Int.reduceLE, Int.reduceGT, Int.reduceGE, Int.reduceNeg, Int.reduceEq, Int.reduceNe, Int.reduceToNat, Int.reduceAdd, aconv, acvB, capR, acmpnil, appBox, storeB, ares1, appendTo, afill, aeqL, teset, Try.ntmps4, Try.results4]
  refine ACallV.pure (proper_pure xs hl) ?_
  cases hv : validL xs with
  | false =>
    simp only [aws, ne_eq, eq_self, implies_true, imp_self, reduceIte, reduceCtorEq, Nat.reduceAdd, Nat.reduceLT, Nat.reduceLeDiff, Nat.reduceEqDiff, Nat.reduceSub, Nat.reduceMul, Nat.reduceBEq, Int.reduceBEq, Int.reduceBNe, Int.reduceLT, Int.reduceLE, Int.reduceGT, Int.reduceGE, Int.reduceNeg, Int.reduceEq, Int.reduceNe, Int.reduceToNat, Int.reduceAdd, aconv, acvB, capR, acmpnil, appBox, storeB, ares1, appendTo, afill, aeqL, teset]
    refine ACallV.pure awake_pure ?_
    simp only [aws, ne_eq, eq_self, implies_true, imp_self, reduceIte, reduceCtorEq, Nat.reduceAdd, Nat.reduceLT, Nat.reduceLeDiff, Nat.reduceEqDiff, Nat.reduceSub, Nat.reduceMul, Nat.reduceBEq, Int.reduceBEq, Int.reduceBNe, Int.reduceLT, Int.reduceLE, Int.reduceGT, Int.reduceGE, Int.reduceNeg, Int.reduceEq, Int.reduceNe, Int.reduceToNat, Int.reduceAdd, aconv, acvB, capR, acmpnil, appBox, storeB, ares1, appendTo, afill, aeqL, teset]
    exact ⟨.refl _, _, rfl, rfl⟩
  | true =>
    simp only [aws, ne_eq, eq_self, implies_true, imp_self, reduceIte, reduceCtorEq, Nat.reduceAdd, Nat.reduceLT, Nat.reduceLeDiff, Nat.reduceEqDiff, Nat.reduceSub, Nat.reduceMul, Nat.reduceBEq, Int.reduceBEq, Int.reduceBNe, Int.reduceLT, Int.reduceLE, Int.reduceGT, Int.reduceGE, Int.reduceNeg, Int.reduceEq, Int.reduceNe, Int.reduceToNat, Int.reduceAdd, aconv, acvB, capR, acmpnil, appBox, storeB, ares1, appendTo, afill, aeqL, teset]
    have hsame := samelist_pure xs xs hl (fun x hx y => same_pure x y (hsm x hx))
    rw [sameL_self] at hsame
    refine ⟨fun n s' h' => ∃ i : Nat, s' 0 = .sl .ro 5 (xs.map inj) ∧ s' 3 = .int .i64 ((i + 1 : Nat) : Int) ∧ h' = h ∧ n + i = 4, ⟨4, 0, ?_⟩, ?_⟩
    · simp only [aws, ne_eq, eq_self, implies_true, imp_self, reduceIte, reduceCtorEq, Nat.reduceAdd, Nat.reduceLT, Nat.reduceLeDiff, Nat.reduceEqDiff, Nat.reduceSub, Nat.reduceMul, Nat.reduceBEq, Int.reduceBEq, Int.reduceBNe, Int.reduceLT, Int.reduceLE, Int.reduceGT, Int.reduceGE, Int.reduceNeg, Int.reduceEq, Int.reduceNe, Int.reduceToNat, Int.reduceAdd, aconv, acvB, capR, acmpnil, appBox, storeB, ares1, appendTo, afill, aeqL, teset, Int.natCast_one, Nat.zero_add]
      first | done | rfl | trivial
    · rintro n s' h' ⟨i, e0, e3, rfl, hn⟩
      simp only [aws, ne_eq, eq_self, implies_true, imp_self, reduceIte, reduceCtorEq, Nat.reduceAdd, Nat.reduceLT, Nat.reduceLeDiff, Nat.reduceEqDiff, Nat.reduceSub, Nat.reduceMul, Nat.reduceBEq, Int.reduceBEq, Int.reduceBNe, Int.reduceLT, Int.reduceLE, Int.reduceGT, Int.reduceGE, Int.reduceNeg, Int.reduceEq, Int.reduceNe, Int.reduceToNat, Int.reduceAdd, aconv, acvB, capR, acmpnil, appBox, storeB, ares1, appendTo, afill, aeqL, teset, e0, e3]
      cases hc : decide (((i + 1 : Nat) : Int) ≤ 4) with
      | false =>
        simp only [aws, ne_eq, eq_self, implies_true, imp_self, reduceIte, reduceCtorEq, Nat.reduceAdd, Nat.reduceLT, Nat.reduceLeDiff, Nat.reduceEqDiff, Nat.reduceSub, Nat.reduceMul, Nat.reduceBEq, Int.reduceBEq, Int.reduceBNe, Int.reduceLT, Int.reduceLE, Int.reduceGT, Int.reduceGE, Int.reduceNeg, Int.reduceEq, Int.reduceNe, Int.reduceToNat, Int.reduceAdd, aconv, acvB, capR, acmpnil, appBox, storeB, ares1, appendTo, afill, aeqL, teset, e0, e3]
        refine ACallV.pure awake_pure ?_
        simp only [aws, ne_eq, eq_self, implies_true, imp_self, reduceIte, reduceCtorEq, Nat.reduceAdd, Nat.reduceLT, Nat.reduceLeDiff, Nat.reduceEqDiff, Nat.reduceSub, Nat.reduceMul, Nat.reduceBEq, Int.reduceBEq, Int.reduceBNe, Int.reduceLT, Int.reduceLE, Int.reduceGT, Int.reduceGE, Int.reduceNeg, Int.reduceEq, Int.reduceNe, Int.reduceToNat, Int.reduceAdd, aconv, acvB, capR, acmpnil, appBox, storeB, ares1, appendTo, afill, aeqL, teset]
        exact ⟨.refl _, _, rfl, rfl⟩
      | true =>
        simp only [decide_eq_true_eq] at hc
        simp only [aws, ne_eq, eq_self, implies_true, imp_self, reduceIte, reduceCtorEq, Nat.reduceAdd, Nat.reduceLT, Nat.reduceLeDiff, Nat.reduceEqDiff, Nat.reduceSub, Nat.reduceMul, Nat.reduceBEq, Int.reduceBEq, Int.reduceBNe, Int.reduceLT, Int.reduceLE, Int.reduceGT, Int.reduceGE, Int.reduceNeg, Int.reduceEq, Int.reduceNe, Int.reduceToNat, Int.reduceAdd, aconv, acvB, capR, acmpnil, appBox, storeB, ares1, appendTo, afill, aeqL, teset, e0, e3]
        refine ACallV.pure (pack_good xs (i + 1) (by omega) (by omega) hsm hl hv) ?_
        cases hcan : canL (i + 1) xs with
        | false =>
          have hi4 := can_not hcan
          have hcond : (((i + 1 : Nat) : Int) == 4) = true := by rw [hi4]; rfl
          simp only [aws, ne_eq, eq_self, implies_true, imp_self, reduceIte, reduceCtorEq, Nat.reduceAdd, Nat.reduceLT, Nat.reduceLeDiff, Nat.reduceEqDiff, Nat.reduceSub, Nat.reduceMul, Nat.reduceBEq, Int.reduceBEq, Int.reduceBNe, Int.reduceLT, Int.reduceLE, Int.reduceGT, Int.reduceGE, Int.reduceNeg, Int.reduceEq, Int.reduceNe, Int.reduceToNat, Int.reduceAdd, aconv, acvB, capR, acmpnil, appBox, storeB, ares1, appendTo, afill, aeqL, teset, e0, e3, packBad, if_true, if_false, Bool.false_eq_true, hcond]
          exact ⟨n - 1, by omega, i + 1, by rw [wrap_succ (by omega)], by omega⟩
        | true =>
          simp only [aws, ne_eq, eq_self, implies_true, imp_self, reduceIte, reduceCtorEq, Nat.reduceAdd, Nat.reduceLT, Nat.reduceLeDiff, Nat.reduceEqDiff, Nat.reduceSub, Nat.reduceMul, Nat.reduceBEq, Int.reduceBEq, Int.reduceBNe, Int.reduceLT, Int.reduceLE, Int.reduceGT, Int.reduceGE, Int.reduceNeg, Int.reduceEq, Int.reduceNe, Int.reduceToNat, Int.reduceAdd, aconv, acvB, capR, acmpnil, appBox, storeB, ares1, appendTo, afill, aeqL, teset, e0, e3, if_true, if_false, Bool.and_false]
          refine ACallV.pure (unpack_back (i + 1) (by omega) (by omega) xs hv hcan) ?_
          simp only [aws, ne_eq, eq_self, implies_true, imp_self, reduceIte, reduceCtorEq, Nat.reduceAdd, Nat.reduceLT, Nat.reduceLeDiff, Nat.reduceEqDiff, Nat.reduceSub, Nat.reduceMul, Nat.reduceBEq, Int.reduceBEq, Int.reduceBNe, Int.reduceLT, Int.reduceLE, Int.reduceGT, Int.reduceGE, Int.reduceNeg, Int.reduceEq, Int.reduceNe, Int.reduceToNat, Int.reduceAdd, aconv, acvB, capR, acmpnil, appBox, storeB, ares1, appendTo, afill, aeqL, teset, e0, e3]
          refine ACallV.pure hsame ?_
          simp only [aws, ne_eq, eq_self, implies_true, imp_self, reduceIte, reduceCtorEq, Nat.reduceAdd, Nat.reduceLT, Nat.reduceLeDiff, Nat.reduceEqDiff, Nat.reduceSub, Nat.reduceMul, Nat.reduceBEq, Int.reduceBEq, Int.reduceBNe, Int.reduceLT, Int.reduceLE, Int.reduceGT, Int.reduceGE, Int.reduceNeg, Int.reduceEq, Int.reduceNe, Int.reduceToNat, Int.reduceAdd, aconv, acvB, capR, acmpnil, appBox, storeB, ares1, appendTo, afill, aeqL, teset, e0, e3]
          exact ⟨n - 1, by omega, i + 1, by rw [wrap_succ (by omega)], by omega⟩
end Go.Proofs.Ytlbhgoffiigfbaa.AW
end
section
set_option linter.unusedSimpArgs false
set_option linter.unusedVariables false
namespace Go.Proofs.Ytlbhgoffiigfbaa.AW
open Go Go.RowKit

mutual
theorem sameS_eq : ∀ (x y : V), sameS x y = true → x = y
  | .mk k i t xs ks, .mk k' i' t' xs' ks' => by
    intro h
    simp only [sameS, Bool.and_eq_true] at h
    obtain ⟨⟨h1, h2⟩, h3⟩ := h
    have h1' : k = k' ∧ i = i' ∧ t.toList = t'.toList ∧ ks.length = ks'.length := by
      simp only [Bool.not_eq_true', Bool.or_eq_false_iff, bne_eq_false_iff_eq, Bool.not_eq_false', beq_iff_eq] at h1
      exact ⟨h1.1.1.1, h1.1.1.2, h1.1.2, by have := h1.2; omega⟩
    obtain ⟨rfl, rfl, ht, hl⟩ := h1'
    have ht2 : t = t' := ba_ext2 ht
    have hk : ks = ks' := by
      apply List.ext_getElem hl
      intro j a b
      rw [List.all_eq_true] at h2
      have hz : j < (ks.zip ks').length := by rw [List.length_zip]; omega
      have := h2 (ks.zip ks')[j] (List.getElem_mem hz)
      rw [List.getElem_zip] at this
      exact ba_ext2 (by simpa using this)
    rw [ht2, hk, sameL_eq2 xs xs' h3]
theorem sameL_eq2 : ∀ (xs ys : List V), sameL xs ys = true → xs = ys
  | [], [], _ => rfl
  | [], y :: ys, h => by simp [sameL] at h
  | x :: xs, [], h => by simp [sameL] at h
  | x :: xs, y :: ys, h => by
    simp only [sameL, Bool.and_eq_true] at h
    rw [sameS_eq x y h.1, sameL_eq2 xs ys h.2]
end
theorem sameS_ord {x y : V} (hx : Vok x) (hy : Vok y) : sameS x y = (ord x y == 0) := by
  rw [Bool.eq_iff_iff, beq_iff_eq]
  constructor
  · intro h
    rw [sameS_eq x y h]; exact ord_self hy
  · intro h
    rw [ord_eq0 hx hy h]; exact sameS_self y
def rep (n : Nat) (xs : List V) : List V := xs.flatMap fun x => List.replicate n x
theorem rep_cons (n : Nat) (x : V) (xs : List V) : rep n (x :: xs) = List.replicate n x ++ rep n xs := rfl
theorem rep_app (n : Nat) (xs ys : List V) : rep n (xs ++ ys) = rep n xs ++ rep n ys := List.flatMap_append
theorem repN_len (n : Nat) : ∀ (xs : List V), (rep n xs).length = n * xs.length
  | [] => rfl
  | x :: xs => by rw [rep_cons, List.length_append, List.length_replicate, repN_len n xs, List.length_cons, Nat.mul_succ, Nat.add_comm]
theorem rep_mem {n : Nat} {xs : List V} : ∀ y ∈ rep n xs, y ∈ xs := by
  intro y hy
  obtain ⟨x, hx, h⟩ := List.mem_flatMap.1 hy
  rw [(List.mem_replicate.1 h).2]; exact hx
theorem drop_rep (x : V) (l : List V) : ∀ (n k : Nat), (List.replicate n x ++ l).drop (n + k) = l.drop k
  | 0, k => by simp
  | n + 1, k => by
    rw [List.replicate_succ, List.cons_append, show n + 1 + k = (n + k) + 1 by omega, List.drop_succ_cons]
    exact drop_rep x l n k
theorem rep_drop (n : Nat) : ∀ (h : Nat) (xs : List V), (rep n xs).drop (n * h) = rep n (xs.drop h)
  | 0, xs => by simp
  | h + 1, [] => by simp [rep]
  | h + 1, x :: xs => by
    rw [rep_cons, List.drop_succ_cons, ← rep_drop n h xs, Nat.mul_succ, Nat.add_comm, drop_rep]
theorem headN_rep {n : Nat} (hn : 1 ≤ n) (x : V) : ∀ (ys : List V), headN x (rep n ys) = n * headN x ys
  | [] => by simp [rep, headN]
  | y :: ys => by
    have ih := headN_rep hn x ys
    unfold headN at ih ⊢
    rw [rep_cons, List.takeWhile_cons]
    by_cases h : ord x y = 0
    · rw [List.takeWhile_append_of_pos (fun a ha => by rw [(List.mem_replicate.1 ha).2]; simpa using h), if_pos (by simpa using h), List.length_append, List.length_replicate, ih, List.length_cons, Nat.mul_succ, Nat.add_comm]
    · obtain ⟨m, rfl⟩ : ∃ m, n = m + 1 := ⟨n - 1, by omega⟩
      rw [List.replicate_succ, List.cons_append, List.takeWhile_cons, if_neg (by simpa using h), if_neg (by simpa using h)]
      simp
theorem headN_reps {x : V} (hx : ord x x = 0) (m : Nat) (ys : List V) : headN x (List.replicate m x ++ ys) = m + headN x ys := by
  unfold headN
  rw [List.takeWhile_append_of_pos (fun a ha => by rw [(List.mem_replicate.1 ha).2]; simpa using hx), List.length_append, List.length_replicate]
theorem runsL_rep {n : Nat} (hn : 1 ≤ n) : ∀ (k : Nat) (xs : List V), xs.length ≤ k → (∀ x ∈ xs, Vok x) → runsL (rep n xs) = (runsL xs).map fun p => (n * p.1, p.2)
  | _, [], _, _ => by rw [show rep n [] = [] from rfl, runsL_nil]; rfl
  | 0, x :: ys, h, _ => by simp at h
  | k + 1, x :: ys, h, hv => by
    have hx := ord_self (hv x List.mem_cons_self)
    simp only [List.length_cons] at h
    have ih := runsL_rep hn k (ys.drop (headN x ys)) (by rw [List.length_drop]; omega) (fun y hy => hv y (List.mem_cons_of_mem _ (List.mem_of_mem_drop hy)))
    obtain ⟨m, rfl⟩ : ∃ m, n = m + 1 := ⟨n - 1, by omega⟩
    rw [rep_cons, List.replicate_succ, List.cons_append, runsL_cons, headN_reps hx, headN_rep hn, runsL_cons, List.map_cons, ← ih]
    congr 1
    · congr 1
      rw [Nat.mul_add]; omega
    · rw [drop_rep, rep_drop]
/-- By how much longer the counts are. -/
def wantI (n : Nat) : List (Nat × V) → Int
  | [] => 0
  | p :: r => ((numA (n * p.1)).length : Int) - ((numA p.1).length : Int) + wantI n r
theorem runB_want (n : Nat) : ∀ (rs : List (Nat × V)), ((runB (rs.map fun p => (n * p.1, p.2))).length : Int) = ((runB rs).length : Int) + wantI n rs
  | [] => rfl
  | p :: rs => by
    have ih := runB_want n rs
    rw [wantI, List.map_cons]
    simp only [runB, List.flatMap_cons, List.length_append] at ih ⊢
    omega
theorem runsA_want {n : Nat} (hn : 1 ≤ n) (xs : List V) (hv : ∀ x ∈ xs, Vok x) : ((runsA (rep n xs)).length : Int) = ((runsA xs).length : Int) + wantI n (runsL xs) := by
  have h1 := runsL_rep hn xs.length xs (Nat.le_refl _) hv
  have h2 := runB_want n (runsL xs)
  unfold runsA
  rw [h1, List.length_map, List.length_append, List.length_append]
  omega
theorem rep_valid {n : Nat} {xs : List V} (hv : validL xs = true) (hl : n * xs.length ≤ 200) : validL (rep n xs) = true := by
  unfold validL at hv ⊢
  rw [Bool.and_eq_true, decide_eq_true_eq, List.all_eq_true] at hv ⊢
  exact ⟨by rw [repN_len]; exact hl, fun x hx => hv.2 x (rep_mem x hx)⟩
end Go.Proofs.Ytlbhgoffiigfbaa.AW
end
section
set_option linter.unusedSimpArgs false
set_option linter.unusedVariables false
namespace Go.Proofs.Ytlbhgoffiigfbaa.AW
open Go Go.RowKit

theorem times_eq : ∀ t : Fin 256, ∃ n : Fin 6, 1 ≤ n.val ∧ IntKind.i64.wrap ((IntKind.i64.wrap ((t.val : Nat) : Int)).tmod 5 + 1) = ((n.val : Nat) : Int) := by decide +kernel
theorem runs_size (xs : List V) : (encS 2 xs).size = (runsA xs).length := encS_size 2 xs
theorem runs_next2 {xs : List V} {i m : Nat} (hi : i < xs.length) (h : i + headN xs[i] (xs.drop i) = m) (h0 : ord xs[i] xs[i] = 0) : i < m ∧ runsL (xs.drop i) = (m - i, xs[i]) :: runsL (xs.drop m) := by
  rw [headN_step hi, if_pos h0] at h
  refine ⟨by omega, ?_⟩
  rw [List.drop_eq_getElem_cons hi, runsL_cons, List.drop_drop, show i + 1 + headN xs[i] (xs.drop (i + 1)) = m by omega, show 1 + headN xs[i] (xs.drop (i + 1)) = m - i by omega]
set_option maxHeartbeats 8000000 in
theorem runs_law (xs : List V) (t : Int) (hsm : ∀ x ∈ xs, x.sm) (hl : xs.length < 4611686018427387904) (ht : 0 ≤ t) (ht2 : t ≤ 255) : Pure Try.prog 7 [.sl .ro 5 (xs.map inj), .int .u8 t] (.bool true) := by
  obtain ⟨tk, rfl⟩ : ∃ k : Nat, t = (k : Int) := ⟨t.toNat, by omega⟩
  obtain ⟨⟨n, hn6⟩, hn1, hte⟩ := times_eq ⟨tk, by omega⟩
  simp only at hn1 hte
  refine Pure.of ⟨Try.f7, Try.func7, rfl, by kernel_rfl⟩ rfl (fun h => ?_)
  refine acalls_of te_ok [] Try.func7 (c := _) rfl (Nat.le_of_ble_eq_true rfl) ?_
  simp only [aws, ne_eq, eq_self, implies_true, imp_self, reduceIte, reduceCtorEq, Nat.reduceAdd, Nat.reduceLT, Nat.reduceLeDiff, Nat.reduceEqDiff, Nat.reduceSub, Nat.reduceMul, Nat.reduceBEq, Int.reduceBEq, Int.reduceBNe, Int.reduceLT, Int.reduceLE, Int.reduceGT, Int.reduceGE, Int.reduceNeg, Int.reduceEq, Int.reduceNe, Int.reduceToNat, Int.reduceAdd, aconv, acvB, capR, acmpnil, appBox, storeB, ares1, appendTo, afill, aeqL, teset, Try.ntmps7, Try.results7, inj_take, inj_drop, inj_agg, inj_len, inj_one, List.length_map]
  refine ACallV.pure (proper_pure xs hl) ?_
  cases hv : validL xs with
  | false =>
    simp only [aws, ne_eq, eq_self, implies_true, imp_self, reduceIte, reduceCtorEq, Nat.reduceAdd, Nat.reduceLT, Nat.reduceLeDiff, Nat.reduceEqDiff, Nat.reduceSub, Nat.reduceMul, Nat.reduceBEq, Int.reduceBEq, Int.reduceBNe, Int.reduceLT, Int.reduceLE, Int.reduceGT, Int.reduceGE, Int.reduceNeg, Int.reduceEq, Int.reduceNe, Int.reduceToNat, Int.reduceAdd, aconv, acvB, capR, acmpnil, appBox, storeB, ares1, appendTo, afill, aeqL, teset]
    refine ACallV.pure awake_pure ?_
    simp only [aws, ne_eq, eq_self, implies_true, imp_self, reduceIte, reduceCtorEq, Nat.reduceAdd, Nat.reduceLT, Nat.reduceLeDiff, Nat.reduceEqDiff, Nat.reduceSub, Nat.reduceMul, Nat.reduceBEq, Int.reduceBEq, Int.reduceBNe, Int.reduceLT, Int.reduceLE, Int.reduceGT, Int.reduceGE, Int.reduceNeg, Int.reduceEq, Int.reduceNe, Int.reduceToNat, Int.reduceAdd, aconv, acvB, capR, acmpnil, appBox, storeB, ares1, appendTo, afill, aeqL, teset]
    exact ⟨by (repeat (first | exact AH.Ext.refl _ | assumption | refine AH.Ext.set ?_ (by first | omega | (simp only [new_nb, set_nb, kill_nb, newTok_nb, setTok_nb]; omega)) _ | refine AH.Ext.new ?_ _)), _, rfl, rfl⟩
  | true =>
    obtain ⟨hx, hl2⟩ := validL_ok hv
    have hmul2 : n * xs.length ≤ 1000 := Nat.le_trans (Nat.mul_le_mul (show n ≤ 5 by omega) hl2) (by decide)
    have hmul : IntKind.i64.wrap ((n : Int) * (xs.length : Int)) = ((n * xs.length : Nat) : Int) := by rw [← Int.natCast_mul, wrap_i64 (by omega) (by omega)]
    simp only [aws, ne_eq, eq_self, implies_true, imp_self, reduceIte, reduceCtorEq, Nat.reduceAdd, Nat.reduceLT, Nat.reduceLeDiff, Nat.reduceEqDiff, Nat.reduceSub, Nat.reduceMul, Nat.reduceBEq, Int.reduceBEq, Int.reduceBNe, Int.reduceLT, Int.reduceLE, Int.reduceGT, Int.reduceGE, Int.reduceNeg, Int.reduceEq, Int.reduceNe, Int.reduceToNat, Int.reduceAdd, aconv, acvB, capR, acmpnil, appBox, storeB, ares1, appendTo, afill, aeqL, teset, hte, hmul, inj_take, inj_drop, inj_agg, inj_len, inj_one, List.length_map]
    cases hgr : decide (((n * xs.length : Nat) : Int) > 200) with
    | true =>
      simp only [aws, ne_eq, eq_self, implies_true, imp_self, reduceIte, reduceCtorEq, Nat.reduceAdd, Nat.reduceLT, Nat.reduceLeDiff, Nat.reduceEqDiff, Nat.reduceSub, Nat.reduceMul, Nat.reduceBEq, Int.reduceBEq, Int.reduceBNe, Int.reduceLT, Int.reduceLE, Int.reduceGT, Int.reduceGE, Int.reduceNeg, Int.reduceEq, Int.reduceNe, Int.reduceToNat, Int.reduceAdd, aconv, acvB, capR, acmpnil, appBox, storeB, ares1, appendTo, afill, aeqL, teset, hte, hmul, inj_take, inj_drop, inj_agg, inj_len, inj_one, List.length_map]
      refine ACallV.pure awake_pure ?_
      simp only [aws, ne_eq, eq_self, implies_true, imp_self, reduceIte, reduceCtorEq, Nat.reduceAdd, Nat.reduceLT, Nat.reduceLeDiff, Nat.reduceEqDiff, Nat.reduceSub, Nat.reduceMul, Nat.reduceBEq, Int.reduceBEq, Int.reduceBNe, Int.reduceLT, Int.reduceLE, Int.reduceGT, Int.reduceGE, Int.reduceNeg, Int.reduceEq, Int.reduceNe, Int.reduceToNat, Int.reduceAdd, aconv, acvB, capR, acmpnil, appBox, storeB, ares1, appendTo, afill, aeqL, teset]
      exact ⟨by (repeat (first | exact AH.Ext.refl _ | assumption | refine AH.Ext.set ?_ (by first | omega | (simp only [new_nb, set_nb, kill_nb, newTok_nb, setTok_nb]; omega)) _ | refine AH.Ext.new ?_ _)), _, rfl, rfl⟩
    | false =>
      simp only [decide_eq_false_iff_not] at hgr
      have hv2 := rep_valid (n := n) hv (by omega)
      obtain ⟨hx2, _⟩ := validL_ok hv2
      have hwant := runsA_want hn1 xs hx
      simp only [aws, ne_eq, eq_self, implies_true, imp_self, reduceIte, reduceCtorEq, Nat.reduceAdd, Nat.reduceLT, Nat.reduceLeDiff, Nat.reduceEqDiff, Nat.reduceSub, Nat.reduceMul, Nat.reduceBEq, Int.reduceBEq, Int.reduceBNe, Int.reduceLT, Int.reduceLE, Int.reduceGT, Int.reduceGE, Int.reduceNeg, Int.reduceEq, Int.reduceNe, Int.reduceToNat, Int.reduceAdd, aconv, acvB, capR, acmpnil, appBox, storeB, ares1, appendTo, afill, aeqL, teset, hte, hmul, inj_take, inj_drop, inj_agg, inj_len, inj_one, List.length_map]
      refine ⟨fun m s' h' => ∃ (i : Nat) (aX : AV), s' 0 = .sl .ro 5 (xs.map inj) ∧ s' 5 = .int .i64 n ∧ s' 6 = aX ∧ s' 7 = .int .i64 0 ∧ s' 8 = .int .i64 i ∧ m + i = xs.length ∧ h.Ext h' ∧ Own5 h' h.nt aX (rep n (xs.take i)), ⟨xs.length, 0, .sl .full 0 [], ?_⟩, ?_⟩
      · simp only [aws, ne_eq, eq_self, implies_true, imp_self, reduceIte, reduceCtorEq, Nat.reduceAdd, Nat.reduceLT, Nat.reduceLeDiff, Nat.reduceEqDiff, Nat.reduceSub, Nat.reduceMul, Nat.reduceBEq, Int.reduceBEq, Int.reduceBNe, Int.reduceLT, Int.reduceLE, Int.reduceGT, Int.reduceGE, Int.reduceNeg, Int.reduceEq, Int.reduceNe, Int.reduceToNat, Int.reduceAdd, aconv, acvB, capR, acmpnil, appBox, storeB, ares1, appendTo, afill, aeqL, teset, Int.natCast_zero]
        exact ⟨.refl _, .inl ⟨rfl, rfl⟩⟩
      · rintro m s' h' ⟨i, aX, e0, e5, e6, e7, e8, hm, hE, ho⟩
        simp only [aws, ne_eq, eq_self, implies_true, imp_self, reduceIte, reduceCtorEq, Nat.reduceAdd, Nat.reduceLT, Nat.reduceLeDiff, Nat.reduceEqDiff, Nat.reduceSub, Nat.reduceMul, Nat.reduceBEq, Int.reduceBEq, Int.reduceBNe, Int.reduceLT, Int.reduceLE, Int.reduceGT, Int.reduceGE, Int.reduceNeg, Int.reduceEq, Int.reduceNe, Int.reduceToNat, Int.reduceAdd, aconv, acvB, capR, acmpnil, appBox, storeB, ares1, appendTo, afill, aeqL, teset, e0, e5, e6, e7, e8, inj_take, inj_drop, inj_agg, inj_len, inj_one, List.length_map]
        cases hc1 : decide ((i : Int) < (xs.length : Int)) with
        | true =>
          simp only [decide_eq_true_eq] at hc1
          have hi : i < xs.length := by omega
          have hget : (xs.map inj)[((i : Nat) : Int).toNat]? = some (inj xs[i]) := by simp [hi]
          have htk1 : rep n (xs.take (i + 1)) = rep n (xs.take i) ++ List.replicate n xs[i] := by
            rw [List.take_succ_eq_append_getElem hi, rep_app]
            show _ ++ (List.replicate n xs[i] ++ []) = _
            rw [List.append_nil]
          simp only [aws, ne_eq, eq_self, implies_true, imp_self, reduceIte, reduceCtorEq, Nat.reduceAdd, Nat.reduceLT, Nat.reduceLeDiff, Nat.reduceEqDiff, Nat.reduceSub, Nat.reduceMul, Nat.reduceBEq, Int.reduceBEq, Int.reduceBNe, Int.reduceLT, Int.reduceLE, Int.reduceGT, Int.reduceGE, Int.reduceNeg, Int.reduceEq, Int.reduceNe, Int.reduceToNat, Int.reduceAdd, aconv, acvB, capR, acmpnil, appBox, storeB, ares1, appendTo, afill, aeqL, teset, e0, e5, e6, e7, e8, inj_take, inj_drop, inj_agg, inj_len, inj_one, List.length_map]
          refine ⟨fun m2 s2 h2 => ∃ (k : Nat) (aY : AV), s2 0 = .sl .ro 5 (xs.map inj) ∧ s2 5 = .int .i64 n ∧ s2 6 = aY ∧ s2 7 = .int .i64 0 ∧ s2 8 = .int .i64 i ∧ s2 9 = .int .i64 k ∧ m2 + k = n ∧ h.Ext h2 ∧ Own5 h2 h.nt aY (rep n (xs.take i) ++ List.replicate k xs[i]), ⟨n, 0, aX, ?_⟩, ?_⟩
          · simp only [aws, ne_eq, eq_self, implies_true, imp_self, reduceIte, reduceCtorEq, Nat.reduceAdd, Nat.reduceLT, Nat.reduceLeDiff, Nat.reduceEqDiff, Nat.reduceSub, Nat.reduceMul, Nat.reduceBEq, Int.reduceBEq, Int.reduceBNe, Int.reduceLT, Int.reduceLE, Int.reduceGT, Int.reduceGE, Int.reduceNeg, Int.reduceEq, Int.reduceNe, Int.reduceToNat, Int.reduceAdd, aconv, acvB, capR, acmpnil, appBox, storeB, ares1, appendTo, afill, aeqL, teset, e0, e5, e6, e7, e8, Int.natCast_zero, List.replicate_zero, List.append_nil]
            exact ⟨hE, ho⟩
          · rintro m2 s2 h2 ⟨k, aY, f0, f5, f6, f7, f8, f9, hm2, hE2, ho2⟩
            simp only [aws, ne_eq, eq_self, implies_true, imp_self, reduceIte, reduceCtorEq, Nat.reduceAdd, Nat.reduceLT, Nat.reduceLeDiff, Nat.reduceEqDiff, Nat.reduceSub, Nat.reduceMul, Nat.reduceBEq, Int.reduceBEq, Int.reduceBNe, Int.reduceLT, Int.reduceLE, Int.reduceGT, Int.reduceGE, Int.reduceNeg, Int.reduceEq, Int.reduceNe, Int.reduceToNat, Int.reduceAdd, aconv, acvB, capR, acmpnil, appBox, storeB, ares1, appendTo, afill, aeqL, teset, f0, f5, f6, f7, f8, f9, inj_take, inj_drop, inj_agg, inj_len, inj_one, List.length_map]
            cases hc2 : decide ((k : Int) < (n : Int)) with
            | false =>
              simp only [decide_eq_false_iff_not] at hc2
              obtain rfl : k = n := by omega
              simp only [aws, ne_eq, eq_self, implies_true, imp_self, reduceIte, reduceCtorEq, Nat.reduceAdd, Nat.reduceLT, Nat.reduceLeDiff, Nat.reduceEqDiff, Nat.reduceSub, Nat.reduceMul, Nat.reduceBEq, Int.reduceBEq, Int.reduceBNe, Int.reduceLT, Int.reduceLE, Int.reduceGT, Int.reduceGE, Int.reduceNeg, Int.reduceEq, Int.reduceNe, Int.reduceToNat, Int.reduceAdd, aconv, acvB, capR, acmpnil, appBox, storeB, ares1, appendTo, afill, aeqL, teset, f0, f5, f6, f7, f8, f9, inj_take, inj_drop, inj_agg, inj_len, inj_one, List.length_map]
              exact ⟨m - 1, by omega, i + 1, aY, rfl, by rw [wrap_succ (by omega)], by omega, hE2, by rw [htk1]; exact ho2⟩
            | true =>
              simp only [decide_eq_true_eq] at hc2
              have hkl : (rep n (xs.take i) ++ List.replicate k xs[i]).length ≤ 2000 := by
                rw [List.length_append, List.length_replicate, repN_len, List.length_take]
                have : n * min i xs.length ≤ 5 * 200 := Nat.mul_le_mul (by omega) (by omega)
                omega
              have hrk : rep n (xs.take i) ++ List.replicate (k + 1) xs[i] = (rep n (xs.take i) ++ List.replicate k xs[i]) ++ [xs[i]] := by
                rw [List.replicate_succ', List.append_assoc]
              have hnt := hE2.nt
              generalize hys : rep n (xs.take i) ++ List.replicate k xs[i] = ys at ho2 hkl hrk
              rcases ho2 with ⟨rfl, hz⟩ | ⟨t, G, rfl, htk, htn⟩
              · simp only [aws, ne_eq, eq_self, implies_true, imp_self, reduceIte, reduceCtorEq, Nat.reduceAdd, Nat.reduceLT, Nat.reduceLeDiff, Nat.reduceEqDiff, Nat.reduceSub, Nat.reduceMul, Nat.reduceBEq, Int.reduceBEq, Int.reduceBNe, Int.reduceLT, Int.reduceLE, Int.reduceGT, Int.reduceGE, Int.reduceNeg, Int.reduceEq, Int.reduceNe, Int.reduceToNat, Int.reduceAdd, aconv, acvB, capR, acmpnil, appBox, storeB, ares1, appendTo, afill, aeqL, teset, f0, f5, f6, f7, f8, f9, inj_take, inj_drop, inj_agg, inj_len, inj_one, List.length_map, hget, Int.natCast_nonneg, range1, List.map_nil, List.nil_append]
                refine .inl ?_
                exact ⟨m2 - 1, by omega, k + 1, _, rfl, by rw [wrap_succ (by omega)], by omega, AH.Ext.newTok (by (repeat (first | exact AH.Ext.refl _ | assumption | refine AH.Ext.set ?_ (by first | omega | (simp only [new_nb, set_nb, kill_nb, newTok_nb, setTok_nb]; omega)) _ | refine AH.Ext.new ?_ _))), .inr ⟨h2.nt, 0, by rw [hrk, hz]; rfl, (by show (AH.newTok _).tok _ = _; exact newTok_at rfl), hnt⟩⟩
              · have hb0 : (ys.length + 1) * 80 ≤ 140737488355328 := by omega
                simp only [aws, ne_eq, eq_self, implies_true, imp_self, reduceIte, reduceCtorEq, Nat.reduceAdd, Nat.reduceLT, Nat.reduceLeDiff, Nat.reduceEqDiff, Nat.reduceSub, Nat.reduceMul, Nat.reduceBEq, Int.reduceBEq, Int.reduceBNe, Int.reduceLT, Int.reduceLE, Int.reduceGT, Int.reduceGE, Int.reduceNeg, Int.reduceEq, Int.reduceNe, Int.reduceToNat, Int.reduceAdd, aconv, acvB, capR, acmpnil, appBox, storeB, ares1, appendTo, afill, aeqL, teset, f0, f5, f6, f7, f8, f9, inj_take, inj_drop, inj_agg, inj_len, inj_one, List.length_map, hget, Int.natCast_nonneg, range1, htk, hb0, List.length_map]
                exact ⟨m2 - 1, by omega, k + 1, _, rfl, by rw [wrap_succ (by omega)], by omega, AH.Ext.setTok (by (repeat (first | exact AH.Ext.refl _ | assumption | refine AH.Ext.set ?_ (by first | omega | (simp only [new_nb, set_nb, kill_nb, newTok_nb, setTok_nb]; omega)) _ | refine AH.Ext.new ?_ _))) htn _, .inr ⟨t, G + 1, by rw [hrk, List.map_append]; rfl, (by show (AH.setTok _ t (G + 1)).tok t = _; rw [setTok_tok, if_pos rfl]), htn⟩⟩
        | false =>
          simp only [decide_eq_false_iff_not] at hc1
          have how := ho.wk
          rw [List.take_of_length_le (by omega)] at how
          clear ho
          simp only [aws, ne_eq, eq_self, implies_true, imp_self, reduceIte, reduceCtorEq, Nat.reduceAdd, Nat.reduceLT, Nat.reduceLeDiff, Nat.reduceEqDiff, Nat.reduceSub, Nat.reduceMul, Nat.reduceBEq, Int.reduceBEq, Int.reduceBNe, Int.reduceLT, Int.reduceLE, Int.reduceGT, Int.reduceGE, Int.reduceNeg, Int.reduceEq, Int.reduceNe, Int.reduceToNat, Int.reduceAdd, aconv, acvB, capR, acmpnil, appBox, storeB, ares1, appendTo, afill, aeqL, teset, e0, e5, e6, e7, e8, inj_take, inj_drop, inj_agg, inj_len, inj_one, List.length_map]
          refine ⟨fun m s2 h2 => ∃ (i : Nat) (w : Int), s2 0 = .sl .ro 5 (xs.map inj) ∧ s2 5 = .int .i64 n ∧ s2 6 = aX ∧ s2 7 = .int .i64 w ∧ s2 10 = .int .i64 i ∧ h2 = h' ∧ m + i = xs.length ∧ w + wantI n (runsL (xs.drop i)) = wantI n (runsL xs) ∧ -9 * (i : Int) ≤ w ∧ w ≤ 9 * (i : Int), ⟨xs.length, 0, 0, ?_⟩, ?_⟩
          · simp only [aws, ne_eq, eq_self, implies_true, imp_self, reduceIte, reduceCtorEq, Nat.reduceAdd, Nat.reduceLT, Nat.reduceLeDiff, Nat.reduceEqDiff, Nat.reduceSub, Nat.reduceMul, Nat.reduceBEq, Int.reduceBEq, Int.reduceBNe, Int.reduceLT, Int.reduceLE, Int.reduceGT, Int.reduceGE, Int.reduceNeg, Int.reduceEq, Int.reduceNe, Int.reduceToNat, Int.reduceAdd, aconv, acvB, capR, acmpnil, appBox, storeB, ares1, appendTo, afill, aeqL, teset, e0, e5, e6, e7, e8, Int.natCast_zero, List.drop_zero, Int.zero_add, Nat.add_zero]
            first | done | exact ⟨by omega, by omega⟩ | omega
          · clear e0 e5 e6 e7 e8 hc1 hm
            rintro m0 s1 h1 ⟨i, w, e0, e5, e6, e7, e10, rfl, hm, hw, hw1, hw2⟩
            simp only [aws, ne_eq, eq_self, implies_true, imp_self, reduceIte, reduceCtorEq, Nat.reduceAdd, Nat.reduceLT, Nat.reduceLeDiff, Nat.reduceEqDiff, Nat.reduceSub, Nat.reduceMul, Nat.reduceBEq, Int.reduceBEq, Int.reduceBNe, Int.reduceLT, Int.reduceLE, Int.reduceGT, Int.reduceGE, Int.reduceNeg, Int.reduceEq, Int.reduceNe, Int.reduceToNat, Int.reduceAdd, aconv, acvB, capR, acmpnil, appBox, storeB, ares1, appendTo, afill, aeqL, teset, e0, e5, e6, e7, e10, inj_take, inj_drop, inj_agg, inj_len, inj_one, List.length_map]
            cases hc3 : decide ((i : Int) < (xs.length : Int)) with
            | true =>
              simp only [decide_eq_true_eq] at hc3
              have hi : i < xs.length := by omega
              have hoki := hx _ (List.getElem_mem hi)
              have hget : (xs.map inj)[((i : Nat) : Int).toNat]? = some (inj xs[i]) := by simp [hi]
              simp only [aws, ne_eq, eq_self, implies_true, imp_self, reduceIte, reduceCtorEq, Nat.reduceAdd, Nat.reduceLT, Nat.reduceLeDiff, Nat.reduceEqDiff, Nat.reduceSub, Nat.reduceMul, Nat.reduceBEq, Int.reduceBEq, Int.reduceBNe, Int.reduceLT, Int.reduceLE, Int.reduceGT, Int.reduceGE, Int.reduceNeg, Int.reduceEq, Int.reduceNe, Int.reduceToNat, Int.reduceAdd, aconv, acvB, capR, acmpnil, appBox, storeB, ares1, appendTo, afill, aeqL, teset, e0, e5, e6, e7, e10, inj_take, inj_drop, inj_agg, inj_len, inj_one, List.length_map]
              refine ⟨fun n2 s2 h2 => ∃ (m : Nat), s2 0 = .sl .ro 5 (xs.map inj) ∧ s2 5 = .int .i64 n ∧ s2 6 = aX ∧ s2 7 = .int .i64 w ∧ s2 10 = .int .i64 i ∧ s2 11 = .int .i64 m ∧ h2 = h1 ∧ n2 + m = xs.length ∧ i + headN xs[i] (xs.drop i) = m + headN xs[i] (xs.drop m), ⟨m0, i, ?_⟩, ?_⟩
              · simp only [aws, ne_eq, eq_self, implies_true, imp_self, reduceIte, reduceCtorEq, Nat.reduceAdd, Nat.reduceLT, Nat.reduceLeDiff, Nat.reduceEqDiff, Nat.reduceSub, Nat.reduceMul, Nat.reduceBEq, Int.reduceBEq, Int.reduceBNe, Int.reduceLT, Int.reduceLE, Int.reduceGT, Int.reduceGE, Int.reduceNeg, Int.reduceEq, Int.reduceNe, Int.reduceToNat, Int.reduceAdd, aconv, acvB, capR, acmpnil, appBox, storeB, ares1, appendTo, afill, aeqL, teset, e0, e5, e6, e7, e10]
                first | done | omega
              · rintro n2 s2 h2 ⟨m, f0, f5, f6, f7, f10, f11, rfl, hn2, hmm⟩
                simp only [aws, ne_eq, eq_self, implies_true, imp_self, reduceIte, reduceCtorEq, Nat.reduceAdd, Nat.reduceLT, Nat.reduceLeDiff, Nat.reduceEqDiff, Nat.reduceSub, Nat.reduceMul, Nat.reduceBEq, Int.reduceBEq, Int.reduceBNe, Int.reduceLT, Int.reduceLE, Int.reduceGT, Int.reduceGE, Int.reduceNeg, Int.reduceEq, Int.reduceNe, Int.reduceToNat, Int.reduceAdd, aconv, acvB, capR, acmpnil, appBox, storeB, ares1, appendTo, afill, aeqL, teset, f0, f5, f6, f7, f10, f11, inj_take, inj_drop, inj_agg, inj_len, inj_one, List.length_map]
                refine acode_draw_chain te_ok mixed [] (by kernel_rfl) ?_
                simp only [aws, ne_eq, eq_self, implies_true, imp_self, reduceIte, reduceCtorEq, Nat.reduceAdd, Nat.reduceLT, Nat.reduceLeDiff, Nat.reduceEqDiff, Nat.reduceSub, Nat.reduceMul, Nat.reduceBEq, Int.reduceBEq, Int.reduceBNe, Int.reduceLT, Int.reduceLE, Int.reduceGT, Int.reduceGE, Int.reduceNeg, Int.reduceEq, Int.reduceNe, Int.reduceToNat, Int.reduceAdd, aconv, acvB, capR, acmpnil, appBox, storeB, ares1, appendTo, afill, aeqL, teset, f0, f5, f6, f7, f10, f11, inj_take, inj_drop, inj_agg, inj_len, inj_one, List.length_map]
                cases hc4 : decide ((m : Int) < (xs.length : Int)) with
                | false =>
                  simp only [decide_eq_false_iff_not] at hc4
                  have h0 : headN xs[i] (xs.drop m) = 0 := by rw [List.drop_eq_nil_of_le (by omega)]; rfl
                  rw [h0, Nat.add_zero] at hmm
                  obtain ⟨him, hru⟩ := runs_next2 hi hmm (ord_self hoki)
                  simp only [aws, ne_eq, eq_self, implies_true, imp_self, reduceIte, reduceCtorEq, Nat.reduceAdd, Nat.reduceLT, Nat.reduceLeDiff, Nat.reduceEqDiff, Nat.reduceSub, Nat.reduceMul, Nat.reduceBEq, Int.reduceBEq, Int.reduceBNe, Int.reduceLT, Int.reduceLE, Int.reduceGT, Int.reduceGE, Int.reduceNeg, Int.reduceEq, Int.reduceNe, Int.reduceToNat, Int.reduceAdd, aconv, acvB, capR, acmpnil, appBox, storeB, ares1, appendTo, afill, aeqL, teset, f0, f5, f6, f7, f10, f11, inj_take, inj_drop, inj_agg, inj_len, inj_one, List.length_map]
                  have him2 : m ≤ xs.length := by omega
                  have hws : IntKind.i64.wrap ((m : Int) - (i : Int)) = ((m - i : Nat) : Int) := by rw [wrap_i64 (by omega) (by omega)]; omega
                  have hnm : n * (m - i) ≤ 1000 := Nat.le_trans (Nat.mul_le_mul (show n ≤ 5 by omega) (show m - i ≤ 200 by omega)) (by decide)
                  have hws2 : IntKind.i64.wrap ((n : Int) * ((m - i : Nat) : Int)) = ((n * (m - i) : Nat) : Int) := by rw [← Int.natCast_mul, wrap_i64 (by omega) (by omega)]
                  have p1 := number_pure ((m - i : Nat) : Int) (by omega)
                  have p2 := number_pure ((n * (m - i) : Nat) : Int) (by omega)
                  rw [show numberV ((m - i : Nat) : Int) = .tup [.str (numS (m - i)), .int .i64 0] from by unfold numberV; rw [if_neg (by omega), Int.toNat_natCast]] at p1
                  rw [show numberV ((n * (m - i) : Nat) : Int) = .tup [.str (numS (n * (m - i))), .int .i64 0] from by unfold numberV; rw [if_neg (by omega), Int.toNat_natCast]] at p2
                  have z1 : (numS (m - i)).size = (numA (m - i)).length := by rw [sB_num]; exact sB_size (BY.num _)
                  have z2 : (numS (n * (m - i))).size = (numA (n * (m - i))).length := by rw [sB_num]; exact sB_size (BY.num _)
                  have y1 := numA_len (m - i) (by omega)
                  have y2 := numA_len (n * (m - i)) (by omega)
                  simp only [aws, ne_eq, eq_self, implies_true, imp_self, reduceIte, reduceCtorEq, Nat.reduceAdd, Nat.reduceLT, Nat.reduceLeDiff, Nat.reduceEqDiff, Nat.reduceSub, Nat.reduceMul, Nat.reduceBEq, Int.reduceBEq, Int.reduceBNe, Int.reduceLT, Int.reduceLE, Int.reduceGT, Int.reduceGE, Int.reduceNeg, Int.reduceEq, Int.reduceNe, Int.reduceToNat, Int.reduceAdd, aconv, acvB, capR, acmpnil, appBox, storeB, ares1, appendTo, afill, aeqL, teset, f0, f5, f6, f7, f10, f11, inj_take, inj_drop, inj_agg, inj_len, inj_one, List.length_map, hws]
                  refine ACallV.pure p1 ?_
                  simp only [aws, ne_eq, eq_self, implies_true, imp_self, reduceIte, reduceCtorEq, Nat.reduceAdd, Nat.reduceLT, Nat.reduceLeDiff, Nat.reduceEqDiff, Nat.reduceSub, Nat.reduceMul, Nat.reduceBEq, Int.reduceBEq, Int.reduceBNe, Int.reduceLT, Int.reduceLE, Int.reduceGT, Int.reduceGE, Int.reduceNeg, Int.reduceEq, Int.reduceNe, Int.reduceToNat, Int.reduceAdd, aconv, acvB, capR, acmpnil, appBox, storeB, ares1, appendTo, afill, aeqL, teset, f0, f5, f6, f7, f10, f11, inj_take, inj_drop, inj_agg, inj_len, inj_one, List.length_map, hws, hws2]
                  refine ACallV.pure p2 ?_
                  rw [hru, wantI] at hw
                  dsimp only at hw
                  have hwr1 : IntKind.i64.wrap (w + ((numA (n * (m - i))).length : Int)) = w + ((numA (n * (m - i))).length : Int) := wrap_i64 (by omega) (by omega)
                  have hwr2 : IntKind.i64.wrap (w + ((numA (n * (m - i))).length : Int) - ((numA (m - i)).length : Int)) = w + ((numA (n * (m - i))).length : Int) - ((numA (m - i)).length : Int) := wrap_i64 (by omega) (by omega)
                  simp only [aws, ne_eq, eq_self, implies_true, imp_self, reduceIte, reduceCtorEq, Nat.reduceAdd, Nat.reduceLT, Nat.reduceLeDiff, Nat.reduceEqDiff, Nat.reduceSub, Nat.reduceMul, Nat.reduceBEq, Int.reduceBEq, Int.reduceBNe, Int.reduceLT, Int.reduceLE, Int.reduceGT, Int.reduceGE, Int.reduceNeg, Int.reduceEq, Int.reduceNe, Int.reduceToNat, Int.reduceAdd, aconv, acvB, capR, acmpnil, appBox, storeB, ares1, appendTo, afill, aeqL, teset, f0, f5, f6, f7, f10, f11, inj_take, inj_drop, inj_agg, inj_len, inj_one, List.length_map, z1, z2, hwr1, hwr2]
                  exact ⟨xs.length - m, by omega, m, _, rfl, rfl, by omega, by omega, by omega, by omega⟩
                | true =>
                  simp only [decide_eq_true_eq] at hc4
                  have hmj : m < xs.length := by omega
                  have hokm := hx _ (List.getElem_mem hmj)
                  have hgm : (xs.map inj)[((m : Nat) : Int).toNat]? = some (inj xs[m]) := by simp [hmj]
                  have hsame := same_pure xs[i] xs[m] hoki.sm
                  rw [sameS_ord hoki hokm] at hsame
                  simp only [aws, ne_eq, eq_self, implies_true, imp_self, reduceIte, reduceCtorEq, Nat.reduceAdd, Nat.reduceLT, Nat.reduceLeDiff, Nat.reduceEqDiff, Nat.reduceSub, Nat.reduceMul, Nat.reduceBEq, Int.reduceBEq, Int.reduceBNe, Int.reduceLT, Int.reduceLE, Int.reduceGT, Int.reduceGE, Int.reduceNeg, Int.reduceEq, Int.reduceNe, Int.reduceToNat, Int.reduceAdd, aconv, acvB, capR, acmpnil, appBox, storeB, ares1, appendTo, afill, aeqL, teset, f0, f5, f6, f7, f10, f11, inj_take, inj_drop, inj_agg, inj_len, inj_one, List.length_map, hget, hgm, Int.natCast_nonneg]
                  refine skR_pure hsame ?_
                  cases hq : (ord xs[i] xs[m] == 0) with
                  | false =>
                    have hq2 : ord xs[i] xs[m] ≠ 0 := by simpa using hq
                    have h0 : headN xs[i] (xs.drop m) = 0 := by rw [headN_step hmj, if_neg hq2]
                    rw [h0, Nat.add_zero] at hmm
                    obtain ⟨him, hru⟩ := runs_next2 hi hmm (ord_self hoki)
                    simp only [aws, ne_eq, eq_self, implies_true, imp_self, reduceIte, reduceCtorEq, Nat.reduceAdd, Nat.reduceLT, Nat.reduceLeDiff, Nat.reduceEqDiff, Nat.reduceSub, Nat.reduceMul, Nat.reduceBEq, Int.reduceBEq, Int.reduceBNe, Int.reduceLT, Int.reduceLE, Int.reduceGT, Int.reduceGE, Int.reduceNeg, Int.reduceEq, Int.reduceNe, Int.reduceToNat, Int.reduceAdd, aconv, acvB, capR, acmpnil, appBox, storeB, ares1, appendTo, afill, aeqL, teset, f0, f5, f6, f7, f10, f11, inj_take, inj_drop, inj_agg, inj_len, inj_one, List.length_map]
                    have him2 : m ≤ xs.length := by omega
                    have hws : IntKind.i64.wrap ((m : Int) - (i : Int)) = ((m - i : Nat) : Int) := by rw [wrap_i64 (by omega) (by omega)]; omega
                    have hnm : n * (m - i) ≤ 1000 := Nat.le_trans (Nat.mul_le_mul (show n ≤ 5 by omega) (show m - i ≤ 200 by omega)) (by decide)
                    have hws2 : IntKind.i64.wrap ((n : Int) * ((m - i : Nat) : Int)) = ((n * (m - i) : Nat) : Int) := by rw [← Int.natCast_mul, wrap_i64 (by omega) (by omega)]
                    have p1 := number_pure ((m - i : Nat) : Int) (by omega)
                    have p2 := number_pure ((n * (m - i) : Nat) : Int) (by omega)
                    rw [show numberV ((m - i : Nat) : Int) = .tup [.str (numS (m - i)), .int .i64 0] from by unfold numberV; rw [if_neg (by omega), Int.toNat_natCast]] at p1
                    rw [show numberV ((n * (m - i) : Nat) : Int) = .tup [.str (numS (n * (m - i))), .int .i64 0] from by unfold numberV; rw [if_neg (by omega), Int.toNat_natCast]] at p2
                    have z1 : (numS (m - i)).size = (numA (m - i)).length := by rw [sB_num]; exact sB_size (BY.num _)
                    have z2 : (numS (n * (m - i))).size = (numA (n * (m - i))).length := by rw [sB_num]; exact sB_size (BY.num _)
                    have y1 := numA_len (m - i) (by omega)
                    have y2 := numA_len (n * (m - i)) (by omega)
                    simp only [aws, ne_eq, eq_self, implies_true, imp_self, reduceIte, reduceCtorEq, Nat.reduceAdd, Nat.reduceLT, Nat.reduceLeDiff, Nat.reduceEqDiff, Nat.reduceSub, Nat.reduceMul, Nat.reduceBEq, Int.reduceBEq, Int.reduceBNe, Int.reduceLT, Int.reduceLE, Int.reduceGT, Int.reduceGE, Int.reduceNeg, Int.reduceEq, Int.reduceNe, Int.reduceToNat, Int.reduceAdd, aconv, acvB, capR, acmpnil, appBox, storeB, ares1, appendTo, afill, aeqL, teset, f0, f5, f6, f7, f10, f11, inj_take, inj_drop, inj_agg, inj_len, inj_one, List.length_map, hws]
                    refine ACallV.pure p1 ?_
                    simp only [aws, ne_eq, eq_self, implies_true, imp_self, reduceIte, reduceCtorEq, Nat.reduceAdd, Nat.reduceLT, Nat.reduceLeDiff, Nat.reduceEqDiff, Nat.reduceSub, Nat.reduceMul, Nat.reduceBEq, Int.reduceBEq, Int.reduceBNe, Int.reduceLT, Int.reduceLE, Int.reduceGT, Int.reduceGE, Int.reduceNeg, Int.reduceEq, Int.reduceNe, Int.reduceToNat, Int.reduceAdd, aconv, acvB, capR, acmpnil, appBox, storeB, ares1, appendTo, afill, aeqL, teset, f0, f5, f6, f7, f10, f11, inj_take, inj_drop, inj_agg, inj_len, inj_one, List.length_map, hws, hws2]
                    refine ACallV.pure p2 ?_
                    rw [hru, wantI] at hw
                    dsimp only at hw
                    have hwr1 : IntKind.i64.wrap (w + ((numA (n * (m - i))).length : Int)) = w + ((numA (n * (m - i))).length : Int) := wrap_i64 (by omega) (by omega)
                    have hwr2 : IntKind.i64.wrap (w + ((numA (n * (m - i))).length : Int) - ((numA (m - i)).length : Int)) = w + ((numA (n * (m - i))).length : Int) - ((numA (m - i)).length : Int) := wrap_i64 (by omega) (by omega)
                    simp only [aws, ne_eq, eq_self, implies_true, imp_self, reduceIte, reduceCtorEq, Nat.reduceAdd, Nat.reduceLT, Nat.reduceLeDiff, Nat.reduceEqDiff, Nat.reduceSub, Nat.reduceMul, Nat.reduceBEq, Int.reduceBEq, Int.reduceBNe, Int.reduceLT, Int.reduceLE, Int.reduceGT, Int.reduceGE, Int.reduceNeg, Int.reduceEq, Int.reduceNe, Int.reduceToNat, Int.reduceAdd, aconv, acvB, capR, acmpnil, appBox, storeB, ares1, appendTo, afill, aeqL, teset, f0, f5, f6, f7, f10, f11, inj_take, inj_drop, inj_agg, inj_len, inj_one, List.length_map, z1, z2, hwr1, hwr2]
                    exact ⟨xs.length - m, by omega, m, _, rfl, rfl, by omega, by omega, by omega, by omega⟩
                  | true =>
                    have hq2 : ord xs[i] xs[m] = 0 := by simpa using hq
                    have hst : headN xs[i] (xs.drop m) = 1 + headN xs[i] (xs.drop (m + 1)) := by rw [headN_step hmj, if_pos hq2]
                    simp only [aws, ne_eq, eq_self, implies_true, imp_self, reduceIte, reduceCtorEq, Nat.reduceAdd, Nat.reduceLT, Nat.reduceLeDiff, Nat.reduceEqDiff, Nat.reduceSub, Nat.reduceMul, Nat.reduceBEq, Int.reduceBEq, Int.reduceBNe, Int.reduceLT, Int.reduceLE, Int.reduceGT, Int.reduceGE, Int.reduceNeg, Int.reduceEq, Int.reduceNe, Int.reduceToNat, Int.reduceAdd, aconv, acvB, capR, acmpnil, appBox, storeB, ares1, appendTo, afill, aeqL, teset, f0, f5, f6, f7, f10, f11, inj_take, inj_drop, inj_agg, inj_len, inj_one, List.length_map]
                    exact ⟨n2 - 1, by omega, m + 1, by rw [wrap_succ (by omega)], by omega, by omega⟩
            | false =>
              simp only [decide_eq_false_iff_not] at hc3
              rw [List.drop_eq_nil_of_le (by omega), runsL_nil, wantI, Int.add_zero] at hw
              subst hw
              have c2 : canL 2 xs = true := rfl
              have pk1 := pack_good xs 2 (by decide) (by decide) hsm hl hv
              rw [c2, if_pos rfl] at pk1
              have hl3 : (rep n xs).length < 4611686018427387904 := by rw [repN_len]; omega
              have hsm2 : ∀ x ∈ rep n xs, x.sm := fun x hx => hsm x (rep_mem x hx)
              have pk2 := pack_good (rep n xs) 2 (by decide) (by decide) hsm2 hl3 hv2
              rw [show canL 2 (rep n xs) = true from rfl, if_pos rfl] at pk2
              have hsame := samelist_pure (rep n xs) (rep n xs) hl3 (fun x hx y => same_pure x y (hsm2 x hx))
              rw [sameL_self] at hsame
              have hun := unpack_back 2 (by decide) (by decide) (rep n xs) hv2 rfl
              have hsz : (((encS 2 (rep n xs)).size : Int) - ((encS 2 xs).size : Int)) = wantI n (runsL xs) := by rw [runs_size, runs_size]; omega
              have hwz : IntKind.i64.wrap (wantI n (runsL xs)) = wantI n (runsL xs) := wrap_i64 (by omega) (by omega)
              rw [show ((2 : Nat) : Int) = 2 from rfl] at pk1 pk2 hun
              simp only [aws, ne_eq, eq_self, implies_true, imp_self, reduceIte, reduceCtorEq, Nat.reduceAdd, Nat.reduceLT, Nat.reduceLeDiff, Nat.reduceEqDiff, Nat.reduceSub, Nat.reduceMul, Nat.reduceBEq, Int.reduceBEq, Int.reduceBNe, Int.reduceLT, Int.reduceLE, Int.reduceGT, Int.reduceGE, Int.reduceNeg, Int.reduceEq, Int.reduceNe, Int.reduceToNat, Int.reduceAdd, aconv, acvB, capR, acmpnil, appBox, storeB, ares1, appendTo, afill, aeqL, teset, e0, e5, e6, e7, e10, inj_take, inj_drop, inj_agg, inj_len, inj_one, List.length_map]
              refine ACallV.pure pk1 ?_
              simp only [aws, ne_eq, eq_self, implies_true, imp_self, reduceIte, reduceCtorEq, Nat.reduceAdd, Nat.reduceLT, Nat.reduceLeDiff, Nat.reduceEqDiff, Nat.reduceSub, Nat.reduceMul, Nat.reduceBEq, Int.reduceBEq, Int.reduceBNe, Int.reduceLT, Int.reduceLE, Int.reduceGT, Int.reduceGE, Int.reduceNeg, Int.reduceEq, Int.reduceNe, Int.reduceToNat, Int.reduceAdd, aconv, acvB, capR, acmpnil, appBox, storeB, ares1, appendTo, afill, aeqL, teset, e0, e5, e6, e7, e10, inj_take, inj_drop, inj_agg, inj_len, inj_one, List.length_map]
              refine ACallV.pureW pk2 (.cons how (.cons (.refl _) .nil)) ?_
              simp only [aws, ne_eq, eq_self, implies_true, imp_self, reduceIte, reduceCtorEq, Nat.reduceAdd, Nat.reduceLT, Nat.reduceLeDiff, Nat.reduceEqDiff, Nat.reduceSub, Nat.reduceMul, Nat.reduceBEq, Int.reduceBEq, Int.reduceBNe, Int.reduceLT, Int.reduceLE, Int.reduceGT, Int.reduceGE, Int.reduceNeg, Int.reduceEq, Int.reduceNe, Int.reduceToNat, Int.reduceAdd, aconv, acvB, capR, acmpnil, appBox, storeB, ares1, appendTo, afill, aeqL, teset, e0, e5, e6, e7, e10, inj_take, inj_drop, inj_agg, inj_len, inj_one, List.length_map]
              refine ACallV.pure hun ?_
              simp (maxSteps := 4000000) only [aws, ne_eq, eq_self, implies_true, imp_self, reduceIte, reduceCtorEq, Nat.reduceAdd, Nat.reduceLT, Nat.reduceLeDiff, Nat.reduceEqDiff, Nat.reduceSub, Nat.reduceMul, Nat.reduceBEq, Int.reduceBEq, Int.reduceBNe, Int.reduceLT, Int.reduceLE, Int.reduceGT, Int.reduceGE, Int.reduceNeg, Int.reduceEq, Int.reduceNe, Int.reduceToNat, Int.reduceAdd, aconv, acvB, capR, acmpnil, appBox, storeB, ares1, appendTo, afill, aeqL, teset, e0, e5, e6, e7, e10, inj_take, inj_drop, inj_agg, inj_len, inj_one, List.length_map, hsz, hwz, beq_self_eq_true]
              refine ACallV.pureW hsame (.cons (.refl _) (.cons how .nil)) ?_
              simp only [aws, ne_eq, eq_self, implies_true, imp_self, reduceIte, reduceCtorEq, Nat.reduceAdd, Nat.reduceLT, Nat.reduceLeDiff, Nat.reduceEqDiff, Nat.reduceSub, Nat.reduceMul, Nat.reduceBEq, Int.reduceBEq, Int.reduceBNe, Int.reduceLT, Int.reduceLE, Int.reduceGT, Int.reduceGE, Int.reduceNeg, Int.reduceEq, Int.reduceNe, Int.reduceToNat, Int.reduceAdd, aconv, acvB, capR, acmpnil, appBox, storeB, ares1, appendTo, afill, aeqL, teset]
              refine ACallV.pure awake_pure ?_
              simp only [aws, ne_eq, eq_self, implies_true, imp_self, reduceIte, reduceCtorEq, Nat.reduceAdd, Nat.reduceLT, Nat.reduceLeDiff, Nat.reduceEqDiff, Nat.reduceSub, Nat.reduceMul, Nat.reduceBEq, Int.reduceBEq, Int.reduceBNe, Int.reduceLT, Int.reduceLE, Int.reduceGT, Int.reduceGE, Int.reduceNeg, Int.reduceEq, Int.reduceNe, Int.reduceToNat, Int.reduceAdd, aconv, acvB, capR, acmpnil, appBox, storeB, ares1, appendTo, afill, aeqL, teset]
              exact ⟨by (repeat (first | exact AH.Ext.refl _ | assumption | refine AH.Ext.set ?_ (by first | omega | (simp only [new_nb, set_nb, kill_nb, newTok_nb, setTok_nb]; omega)) _ | refine AH.Ext.new ?_ _)), _, rfl, rfl⟩
end Go.Proofs.Ytlbhgoffiigfbaa.AW
end
