/- Texts of this claim, part 13: V110, V111, P85, P86, V112, V113, V114, V115, V116, V90, V91. -/
import Derived.Test.YtlbhgoffiigfbaaGreatUb1
import Derived.Test.YtlbhgoffiigfbaaGreatUb3
import Derived.Test.YtlbhgoffiigfbaaGreatUb4
import Derived.Test.YtlbhgoffiigfbaaGreatUb5
import Derived.Test.YtlbhgoffiigfbaaGreatUb6
import Derived.Test.YtlbhgoffiigfbaaGreatUb7
import Derived.Test.YtlbhgoffiigfbaaGreatUb8
import Derived.Test.YtlbhgoffiigfbaaGreatUb9
import Derived.Test.YtlbhgoffiigfbaaGreatUb10
import Derived.Test.YtlbhgoffiigfbaaGreatUb11
import Derived.Test.YtlbhgoffiigfbaaGreatUb12
section
set_option linter.unusedSimpArgs false
set_option linter.unusedVariables false
namespace Go.Proofs.YtlbhgoffiigfbaaGreat.AW
open Go Go.RowKit

set_option maxHeartbeats 2000000 in
theorem clones_pure (xs : List V) (hx : ∀ x ∈ xs, Vok x) (hl : xs.length < 1000000) : Pure Tryz.prog 29 [.sl .ro 5 (xs.map inj)] (.sl .ro 5 (xs.map inj)) := by
  refine Pure.ofW ⟨Tryz.f29, Tryz.func29, rfl, by kernel_rfl⟩ (injs_und _) (fun h hsc => ?_)
  refine acalls_of te_ok [] Tryz.func29 (c := _) rfl (Nat.le_of_ble_eq_true rfl) ?_
  simp only [aws, eq_self, reduceIte, Nat.reduceLT, teset, Tryz.ntmps29, Tryz.results29, List.length_map]
  refine ⟨fun n s' h' => ∃ (j : Nat) (aX : AV), s' 3 = aX ∧ s' 6 = .sl .ro 5 (xs.map inj) ∧ s' 7 = .int .i64 xs.length ∧ s' 8 = .int .i64 j ∧ n + j = xs.length ∧ h.Ext h' ∧ Own5 h' h.nt aX (xs.take j), ⟨xs.length, 0, .sl .full 0 [], ?_⟩, ?_⟩
  · simp only [aws, eq_self, reduceIte, Int.natCast_zero]
    exact ⟨.refl _, .inl ⟨rfl, rfl⟩⟩
  · rintro n s' h' ⟨j, aX, e3, e6, e7, e8, hn, hE, ho⟩
    simp only [aws, eq_self, reduceIte, Nat.reduceLT, acmpnil, e7, e8]
    cases hc : decide ((j : Int) < (xs.length : Int)) with
    | false =>
      simp only [decide_eq_false_iff_not] at hc
      have how := ho.wk
      rw [List.take_of_length_le (by omega)] at how
      simp only [aws, eq_self, reduceIte, Nat.reduceLT, Nat.reduceEqDiff, ares1, e3]
      exact ⟨hE, _, rfl, how⟩
    | true =>
      simp only [decide_eq_true_eq] at hc
      have hj : j < xs.length := by omega
      have hget : (xs.map inj)[((j : Nat) : Int).toNat]? = some (inj xs[j]) := by simp [hj]
      have htk1 : xs.take (j + 1) = xs.take j ++ [xs[j]] := List.take_succ_eq_append_getElem hj
      simp only [aws, eq_self, reduceIte, Nat.reduceAdd, Nat.reduceLT, Nat.reduceLeDiff, storeB, teset, e3, e6, e8, hget, Int.natCast_nonneg, inj_take, inj_agg, inj_len, inj_one]
      refine ACallV.pure (clone_pure xs[j] (hx _ (List.getElem_mem hj))) ?_
      have hnt := hE.nt
      have hnb := hE.nb
      rcases ho with ⟨rfl, ht⟩ | ⟨t, G, rfl, htk, htn⟩
      · simp only [aws, eq_self, reduceIte, reduceCtorEq, Nat.reduceLT, Nat.reduceLeDiff, Nat.reduceEqDiff, Nat.reduceMul, acmpnil, appBox, appendTo, teset, e3, e6, e7, e8, inj_len, inj_one, range1]
        refine .inl ?_
        exact ⟨n - 1, by omega, j + 1, _, rfl, by rw [wrap_succ (by omega)], by omega, AH.Ext.newTok (by (repeat (first | exact AH.Ext.refl _ | assumption | refine AH.Ext.set ?_ (by first | omega | (simp only [new_nb, set_nb, kill_nb, newTok_nb, setTok_nb]; omega)) _ | refine AH.Ext.new ?_ _))), .inr ⟨h'.nt, 0, by rw [htk1, ht]; rfl, (by show (AH.newTok _).tok _ = _; exact newTok_at rfl), hnt⟩⟩
      · have hb0 : ((xs.take j).length + 1) * 80 ≤ 140737488355328 := by rw [List.length_take]; omega
        simp only [aws, eq_self, reduceIte, reduceCtorEq, Nat.reduceLT, Nat.reduceLeDiff, Nat.reduceEqDiff, Nat.reduceMul, acmpnil, appBox, appendTo, teset, e3, e6, e7, e8, inj_len, inj_one, List.length_map, range1, htk, hb0, List.length_map]
        exact ⟨n - 1, by omega, j + 1, _, rfl, by rw [wrap_succ (by omega)], by omega, AH.Ext.setTok (by (repeat (first | exact AH.Ext.refl _ | assumption | refine AH.Ext.set ?_ (by first | omega | (simp only [new_nb, set_nb, kill_nb, newTok_nb, setTok_nb]; omega)) _ | refine AH.Ext.new ?_ _))) htn _, .inr ⟨t, G + 1, by rw [htk1, List.map_append]; rfl, (by show (AH.setTok _ t (G + 1)).tok t = _; rw [setTok_tok, if_pos rfl]), htn⟩⟩
theorem read_meth (e : Nat) (h1 : 1 ≤ e) (h4 : e ≤ 4) (l : List UInt8) {h : AH} {b : Nat} (hll : l.length < 1000000000000) (hb : h.box b = some [.str (bS l)]) :
    ∃ f, AMeth Tryz.prog (tyE e) "cirrus/chunk.read" f ∧ FOk Tryz.prog f ∧ ACalls Tryz.prog f [.agg [], .ptr b 0] h (RdPost h b (lO (rEnc e l))) := by
  rcases nE_cases h1 h4 with rfl | rfl | rfl | rfl
  · exact ⟨_, m_plainly_read, ⟨Tryz.f90, Tryz.func90, rfl, by kernel_rfl⟩, plain_read l hll hb⟩
  · exact ⟨_, m_inRuns_read, ⟨Tryz.f105, Tryz.func105, rfl, by kernel_rfl⟩, runs_read l hll hb⟩
  · exact ⟨_, m_byDict_read, ⟨Tryz.f121, Tryz.func121, rfl, by kernel_rfl⟩, dict_read l hll hb⟩
  · exact ⟨_, m_byDelta_read, ⟨Tryz.f145, Tryz.func145, rfl, by kernel_rfl⟩, delta_read l hll hb⟩
/-- What the reading leaves: what was read, and what is left of the bytes. -/
def UnPost (H : AH) (br b8 : Nat) (o : Option (List V × List UInt8)) (out : AOut) (h' : AH) : Prop := match o with
  | some (xs, r) => out = .ret (.tup []) ∧ h' = (H.set br [.str (bS r)]).set b8 [.sl .ro 5 (xs.map inj)]
  | none => out = .panic wrongV ∧ ∃ r, h' = H.set br [.str (bS r)]
theorem unpackfn_calls (e : Nat) (h1 : 1 ≤ e) (h4 : e ≤ 4) (l : List UInt8) {H : AH} {b6 b9 b8 br : Nat} {c : AV} (hll : l.length < 1000000000000) (h6 : H.box b6 = some [.iface (tyE e) (.agg [])]) (h9 : H.box b9 = some [.ptr br 0]) (h8 : H.box b8 = some [c]) (hr : H.box br = some [.str (bS l)]) (hne : b8 ≠ br) :
    ACalls Tryz.prog 28 [.ptr b6 0, .ptr b9 0, .ptr b8 0] H (UnPost H br b8 (rEnc e l)) := by
  obtain ⟨f, hm, hf, hrd⟩ := read_meth e h1 h4 l hll hr
  have hne1 : (b8 = br) = False := by rw [eq_iff_iff]; exact ⟨hne, False.elim⟩
  refine acalls_of te_ok [] Tryz.func28 (c := _) rfl (Nat.le_of_ble_eq_true rfl) ?_
  simp only [aws, eq_self, reduceIte, Nat.reduceLT, teset, Tryz.ntmps28, Tryz.results28, h6, h9]
  refine ⟨f, hm, .inl ⟨hf, hrd.mono ?_⟩⟩
  rintro out h' hp
  cases hq : rEnc e l with
  | none =>
    rw [hq] at hp
    obtain ⟨rfl, r, rfl⟩ := hp
    simp only [aws]
    exact ⟨rfl, r, rfl⟩
  | some p =>
    obtain ⟨xs, r⟩ := p
    rw [hq] at hp
    obtain ⟨rfl, rfl⟩ := hp
    simp only [aws, eq_self, reduceIte, Nat.reduceLeDiff, storeB, teset, h8, hne1]
    exact ⟨rfl, rfl⟩
end Go.Proofs.YtlbhgoffiigfbaaGreat.AW
end
section
set_option linter.unusedSimpArgs false
set_option linter.unusedVariables false
namespace Go.Proofs.YtlbhgoffiigfbaaGreat.AW
open Go Go.RowKit

def unBad (n : Int) : AV := .tup [.sl .ro 5 [], .int .i64 n]
/-- The values of bytes, if there are any. -/
def unIf (e : Nat) (l : List UInt8) (xs : List V) (r : List UInt8) : Option (List V) := if r = [] ∧ validL xs = true ∧ canL e xs = true ∧ encS e xs = bS l then some xs else none
def unV (e : Nat) (l : List UInt8) : Option (List V) := match rEnc e l with
  | some (xs, r) => unIf e l xs r
  | none => none
def unpackV (e : Nat) (l : List UInt8) : AV := match unV e l with
  | some xs => .tup [.sl .ro 5 (xs.map inj), .int .i64 0]
  | none => unBad 12
theorem wk_bad (n : Int) : Wk (.tup [.sl .full 0 [], .int .i64 n]) (unBad n) := (WkAll.cons wk_nil5 (.cons (.refl _) .nil)).tup
theorem unpack_arg (s : ByteArray) (n : Int) (hn : n < 1 ∨ 4 < n) : Pure Tryz.prog 10 [.str s, .int .i64 n] (unBad 3) := by
  refine Pure.ofW ⟨Tryz.f10, Tryz.func10, rfl, by kernel_rfl⟩ rfl (fun h hsc => ?_)
  refine acalls_of te_ok [14] Tryz.func10 (c := _) rfl (Nat.le_of_ble_eq_true rfl) ?_
  simp only [aws, eq_self, reduceIte, Nat.reduceLT, Tryz.ntmps10, Tryz.results10]
  refine ACallV.pure (of_bad n hn) ?_
  simp only [aws, eq_self, reduceIte, Nat.reduceLT, Nat.reduceLeDiff, Nat.reduceEqDiff, storeB, ares1, teset]
  exact ⟨by (repeat (first | exact AH.Ext.refl _ | assumption | refine AH.Ext.set ?_ (by first | omega | (simp only [new_nb, set_nb, kill_nb, newTok_nb, setTok_nb]; omega)) _ | refine AH.Ext.new ?_ _)), _, rfl, wk_bad 3⟩
/-- What is caught: whether the bytes were read, and the heap then. -/
def CaPost (e : Nat) (l : List UInt8) (h : AH) (out : AOut) (h' : AH) : Prop := h.Ext h' ∧ match rEnc e l with
  | some (xs, r) => out = .ret (.bool true) ∧ h'.box h.nb = some [.iface (tyE e) (.agg [])] ∧ h'.box (h.nb + 1) = some [.sl .ro 5 (xs.map inj)] ∧ h'.box (h.nb + 1 + 1) = some [.str (bS r)] ∧ h'.box (h.nb + 1 + 1 + 1) = some [.ptr (h.nb + 1 + 1) 0]
  | none => out = .ret (.bool false)
theorem caught_un (e : Nat) (h1 : 1 ≤ e) (h4 : e ≤ 4) (l : List UInt8) (hll : l.length < 1000000000000) {h H : AH} (HE : h.Ext H) (HN : H.nb = h.nb + 1 + 1 + 1 + 1) (k6 : H.box h.nb = some [.iface (tyE e) (.agg [])]) (k8 : H.box (h.nb + 1) = some [.sl .full 0 []]) (kr : H.box (h.nb + 1 + 1) = some [.str (bS l)]) (k9 : H.box (h.nb + 1 + 1 + 1) = some [.ptr (h.nb + 1 + 1) 0]) :
    ACalls Tryz.prog 27 [.fn (.func 28) [] [.ptr h.nb 0, .ptr (h.nb + 1 + 1 + 1) 0, .ptr (h.nb + 1) 0]] H (CaPost e l h) := by
  have nb : ∀ b c, b < H.nb → (H.new c).box b = H.box b := fun b c hb => by rw [new_box, if_neg (by omega)]
  have hu := unpackfn_calls e h1 h4 l (H := H.new [.bool false]) (b6 := h.nb) (b9 := h.nb + 1 + 1 + 1) (b8 := h.nb + 1) (br := h.nb + 1 + 1) hll ((nb _ _ (by omega)).trans k6) ((nb _ _ (by omega)).trans k9) ((nb _ _ (by omega)).trans k8) ((nb _ _ (by omega)).trans kr) (by omega)
  refine caught_acalls2 ⟨Tryz.f28, Tryz.func28, rfl, by kernel_rfl⟩ (hu.mono ?_)
  rintro out h2 hp
  have se : ∀ (X : AH) (b q : Nat) (c : List AV), q ≠ b → (X.set b c).box q = X.box q := fun X b q c hq => by rw [set_box, if_neg hq]
  have nw : ∀ (X : AH) (q : Nat) (c : List AV), q ≠ X.nb → (X.new c).box q = X.box q := fun X q c hq => by rw [new_box, if_neg hq]
  unfold UnPost at hp
  cases hq : rEnc e l with
  | none =>
    rw [hq] at hp
    obtain ⟨rfl, r, rfl⟩ := hp
    refine ⟨?_, by simp only [set_nb, new_nb]; omega, .inr ⟨rfl, ?_⟩⟩
    · rw [se _ _ _ _ (by omega), new_box, if_pos rfl]
    · unfold CaPost
      rw [hq]
      exact ⟨by (repeat (first | exact AH.Ext.refl _ | assumption | refine AH.Ext.set ?_ (by first | omega | (simp only [new_nb, set_nb, kill_nb, newTok_nb, setTok_nb]; omega)) _ | refine AH.Ext.new ?_ _)), rfl⟩
  | some p =>
    obtain ⟨xs, r⟩ := p
    rw [hq] at hp
    obtain ⟨rfl, rfl⟩ := hp
    refine ⟨?_, by simp only [set_nb, new_nb]; omega, .inl ⟨⟨_, rfl⟩, ?_⟩⟩
    · rw [se _ _ _ _ (by omega), se _ _ _ _ (by omega), new_box, if_pos rfl]
    · unfold CaPost
      rw [hq]
      refine ⟨by (repeat (first | exact AH.Ext.refl _ | assumption | refine AH.Ext.set ?_ (by first | omega | (simp only [new_nb, set_nb, kill_nb, newTok_nb, setTok_nb]; omega)) _ | refine AH.Ext.new ?_ _)), rfl, ?_, ?_, ?_, ?_⟩
      · rw [se _ _ _ _ (by omega), se _ _ _ _ (by omega), se _ _ _ _ (by omega), nw _ _ _ (by omega)]; exact k6
      · rw [se _ _ _ _ (by omega), set_at]
      · rw [se _ _ _ _ (by omega), se _ _ _ _ (by omega), set_at]
      · rw [se _ _ _ _ (by omega), se _ _ _ _ (by omega), se _ _ _ _ (by omega), nw _ _ _ (by omega)]; exact k9
set_option maxHeartbeats 4000000 in
theorem unpack_good (e : Nat) (h1 : 1 ≤ e) (h4 : e ≤ 4) (l : List UInt8) (hll : l.length < 1000000000000) : Pure Tryz.prog 10 [.str (bS l), .int .i64 (e : Int)] (unpackV e l) := by
  refine Pure.ofW ⟨Tryz.f10, Tryz.func10, rfl, by kernel_rfl⟩ (by unfold unpackV; split <;> simp only [unBad, AV.under, AV.underL, injs_und, Bool.and_true]) (fun h hsc => ?_)
  refine acalls_of te_ok [14] Tryz.func10 (c := _) rfl (Nat.le_of_ble_eq_true rfl) ?_
  simp only [aws, eq_self, reduceIte, Nat.reduceLT, Tryz.ntmps10, Tryz.results10]
  refine ACallV.pure (of_good e h1 h4) ?_
  simp only [aws, eq_self, reduceIte, reduceCtorEq, Nat.reduceLT, Nat.reduceLeDiff, Nat.reduceEqDiff, storeB, afill, teset, boxR]
  obtain ⟨H, hH⟩ : ∃ H, H = (((((h.new [.nili]).set h.nb [.iface (tyE e) (.agg [])]).new [.sl .full 0 []]).new [.str (bS l)]).new [.nilp]).set (h.nb + 1 + 1 + 1) [.ptr (h.nb + 1 + 1) 0] := ⟨_, rfl⟩
  have se : ∀ (X : AH) (b q : Nat) (c : List AV), q ≠ b → (X.set b c).box q = X.box q := fun X b q c hq => by rw [set_box, if_neg hq]
  have nw : ∀ (X : AH) (q : Nat) (c : List AV), q ≠ X.nb → (X.new c).box q = X.box q := fun X q c hq => by rw [new_box, if_neg hq]
  have HE : h.Ext H := by rw [hH]; (repeat (first | exact AH.Ext.refl _ | assumption | refine AH.Ext.set ?_ (by first | omega | (simp only [new_nb, set_nb, kill_nb, newTok_nb, setTok_nb]; omega)) _ | refine AH.Ext.new ?_ _))
  have HN : H.nb = h.nb + 1 + 1 + 1 + 1 := by rw [hH]; rfl
  have k6 : H.box h.nb = some [.iface (tyE e) (.agg [])] := by
    rw [hH, se _ _ _ _ (by omega), nw _ _ _ (by simp only [new_nb, set_nb]; omega), nw _ _ _ (by simp only [new_nb, set_nb]; omega), nw _ _ _ (by simp only [new_nb, set_nb]; omega), set_at]
  have k8 : H.box (h.nb + 1) = some [.sl .full 0 []] := by
    rw [hH, se _ _ _ _ (by omega), nw _ _ _ (by simp only [new_nb, set_nb]; omega), nw _ _ _ (by simp only [new_nb, set_nb]; omega), new_box]; exact if_pos rfl
  have kr : H.box (h.nb + 1 + 1) = some [.str (bS l)] := by
    rw [hH, se _ _ _ _ (by omega), nw _ _ _ (by simp only [new_nb, set_nb]; omega), new_box]; exact if_pos rfl
  have k9 : H.box (h.nb + 1 + 1 + 1) = some [.ptr (h.nb + 1 + 1) 0] := by rw [hH, set_at]
  rw [← hH]
  clear hH
  refine ACallV.mono ?_ (ACallV.of ⟨Tryz.f27, Tryz.func27, rfl, by kernel_rfl⟩ (caught_un e h1 h4 l hll HE HN k6 k8 kr k9))
  rintro out K ⟨KE, hp⟩
  clear HE HN k6 k8 kr k9
  unfold unpackV unV
  cases hq : rEnc e l with
  | none =>
    rw [hq] at hp
    subst hp
    simp only [aws, eq_self, implies_true, reduceIte, reduceCtorEq, Nat.reduceLT, Nat.reduceEqDiff, Nat.reduceBEq, aconv, ares1, teset]
    exact ⟨KE, _, rfl, wk_bad 12⟩
  | some p =>
    obtain ⟨xs, r⟩ := p
    rw [hq] at hp
    obtain ⟨rfl, k6, k8, kr, k9⟩ := hp
    obtain ⟨hsm, hxl⟩ := rEnc_ok hll hq
    simp only
    cases r with
    | cons c r =>
      have hne : (!(bS (c :: r)).toList == ([] : List UInt8)) = true := by rw [bS_toList]; rfl
      rw [show unIf e l xs (c :: r) = none from if_neg (fun h5 => by cases h5.1)]
      simp only [aws, eq_self, implies_true, reduceIte, reduceCtorEq, Nat.reduceLT, Nat.reduceEqDiff, Nat.reduceBEq, aconv, acmpnil, ares1, teset, k6, k8, kr, k9, nil_toList, hne]
      exact ⟨KE, _, rfl, wk_bad 12⟩
    | nil =>
      have hne : (!(bS []).toList == ([] : List UInt8)) = false := by rw [bS_toList]; rfl
      simp only [aws, eq_self, implies_true, reduceIte, Nat.reduceLT, Nat.reduceEqDiff, Nat.reduceBEq, acmpnil, teset, k8, kr, k9, nil_toList, hne]
      refine ACallV.pure (validL_pure xs hsm (by omega)) ?_
      cases hv : validL xs with
      | false =>
        rw [show unIf e l xs [] = none from if_neg (fun h5 => by rw [hv] at h5; exact Bool.false_ne_true h5.2.1)]
        simp only [aws, eq_self, implies_true, reduceIte, reduceCtorEq, Nat.reduceLT, Nat.reduceEqDiff, Nat.reduceBEq, aconv, ares1, teset, k6, k8]
        exact ⟨KE, _, rfl, wk_bad 12⟩
      | true =>
        obtain ⟨hx, hx2⟩ := validL_ok hv
        simp only [aws, eq_self, implies_true, reduceIte, Nat.reduceLT, Nat.reduceEqDiff, Nat.reduceBEq, teset, k6, k8]
        refine meth_call (can_meth e h1 h4 xs (by omega)) ?_
        cases hcan : canL e xs with
        | false =>
          rw [show unIf e l xs [] = none from if_neg (fun h5 => by rw [hcan] at h5; exact Bool.false_ne_true h5.2.2.1)]
          simp only [aws, eq_self, implies_true, reduceIte, reduceCtorEq, Nat.reduceLT, Nat.reduceEqDiff, Nat.reduceBEq, aconv, ares1, teset, k6, k8]
          exact ⟨KE, _, rfl, wk_bad 12⟩
        | true =>
          simp only [aws, eq_self, implies_true, reduceIte, Nat.reduceLT, Nat.reduceEqDiff, Nat.reduceBEq, teset, k6, k8]
          refine meth_call (write_meth e h1 h4 xs hx (by omega)) ?_
          have hby := BY.enc e xs
          simp only [aws, eq_self, implies_true, reduceIte, reduceCtorEq, Nat.reduceLT, Nat.reduceEqDiff, Nat.reduceBEq, aconv, acvB, acmpnil, teset, cellsOf, hby.cells, hby.avB]
          cases hs : (!(⟨⟨asB (encA e xs)⟩⟩ : ByteArray).toList == (bS l).toList) with
          | true =>
            have hne2 : ¬ encS e xs = bS l := fun h5 => by
              rw [show (⟨⟨asB (encA e xs)⟩⟩ : ByteArray) = encS e xs from rfl, h5] at hs
              simp at hs
            rw [show unIf e l xs [] = none from if_neg (fun h5 => hne2 h5.2.2.2)]
            simp only [aws, eq_self, reduceIte, Nat.reduceLT, Nat.reduceEqDiff, ares1]
            exact ⟨KE, _, rfl, wk_bad 12⟩
          | false =>
            have heq : encS e xs = bS l := ba_ext2 (by
              have h5 : ((⟨⟨asB (encA e xs)⟩⟩ : ByteArray).toList == (bS l).toList) = true := by simpa using hs
              exact eq_of_beq h5)
            rw [show unIf e l xs [] = some xs from if_pos ⟨rfl, hv, hcan, heq⟩]
            simp only [aws, eq_self, reduceIte, Nat.reduceLT, Nat.reduceEqDiff, teset, k8]
            refine ACallV.pure (clones_pure xs hx (by omega)) ?_
            simp only [aws, eq_self, reduceIte, Nat.reduceLT, Nat.reduceEqDiff, ares1]
            exact ⟨KE, _, rfl, .refl _⟩
end Go.Proofs.YtlbhgoffiigfbaaGreat.AW
end
section
set_option linter.unusedSimpArgs false
set_option linter.unusedVariables false
namespace Go.Proofs.YtlbhgoffiigfbaaGreat.AW
open Go Go.RowKit

abbrev RS := List UInt8 × Bool
def fByte : RS → Nat × RS
  | (c :: l, false) => (c.toNat, (l, false))
  | ([], false) => (0, ([], true))
  | (l, true) => (0, (l, true))
def fNumF : Nat → Nat → Nat → RS → Nat × RS
  | 0, _, _, o => (0, (o.1, true))
  | k + 1, i, n, o => if (fByte o).1 < 128 then (n + (fByte o).1 % 128 * 128 ^ i, (fByte o).2) else fNumF k (i + 1) (n + (fByte o).1 % 128 * 128 ^ i) (fByte o).2
def fNum (o : RS) : Nat × RS := fNumF 8 0 0 o
def fInt (o : RS) : Int × RS := (unzig (fNum o).1, (fNum o).2)
def fStrL (n : Nat) : RS → ByteArray × RS
  | (l, false) => if n ≤ l.length then (⟨⟨l.take n⟩⟩, (l.drop n, false)) else (⟨#[]⟩, (l, true))
  | (l, true) => (⟨#[]⟩, (l, true))
def fStr (o : RS) : ByteArray × RS := fStrL (fNum o).1 (fNum o).2
def fKey (obj : Bool) (o : RS) : ByteArray × RS := if obj = true then fStr o else (⟨#[]⟩, o)
def fItems (f : RS → V × RS) (obj : Bool) : Nat → RS → List V × List ByteArray × RS
  | 0, o => ([], [], o)
  | _ + 1, (l, true) => ([], [], (l, true))
  | n + 1, (l, false) => ((f (fKey obj (l, false)).2).1 :: (fItems f obj n (f (fKey obj (l, false)).2).2).1, if obj = true then (fKey obj (l, false)).1 :: (fItems f obj n (f (fKey obj (l, false)).2).2).2.1 else [], (fItems f obj n (f (fKey obj (l, false)).2).2).2.2)
def fTail (f : RS → V × RS) (k : Nat) (o : RS) : V × RS :=
  if k = 1 then (.mk 1 ((fByte o).1 : Int) ⟨#[]⟩ [] [], (fByte o).2)
  else if k = 2 then (.mk 2 (fInt o).1 ⟨#[]⟩ [] [], (fInt o).2)
  else if k = 3 then (.mk 3 0 (fStr o).1 [] [], (fStr o).2)
  else if k = 4 ∨ k = 5 then (.mk (k : Int) 0 ⟨#[]⟩ (fItems f (k == 5) (fNum o).1 (fNum o).2).1 (fItems f (k == 5) (fNum o).1 (fNum o).2).2.1, (fItems f (k == 5) (fNum o).1 (fNum o).2).2.2)
  else (.mk (k : Int) 0 ⟨#[]⟩ [] [], o)
def fHead (f : RS → V × RS) : RS → V × RS
  | (c :: l, false) => fTail f c.toNat (l, false)
  | ([], false) => (zeroV, ([], true))
  | (l, true) => (zeroV, (l, true))
def fVal : Nat → RS → V × RS
  | 0, o => (zeroV, ((fByte o).2.1, true))
  | L + 1, o => fHead (fVal L) o
def fValsN : Nat → List V → RS → List V × RS
  | 0, acc, o => (acc, o)
  | _ + 1, acc, (l, true) => (acc, (l, true))
  | n + 1, acc, (l, false) => fValsN n (acc ++ [(fVal 6 (l, false)).1]) (fVal 6 (l, false)).2
def fPlain (o : RS) : List V × RS := fValsN (fNum o).1 [] (fNum o).2
def fOk (m : Nat) (acc : List V) (o : RS) : Bool := !o.2 && decide (m ≤ 200) && decide (acc.length ≤ 200)
def fRunsN : Nat → List V → RS → List V × RS
  | 0, acc, o => (acc, o)
  | _ + 1, acc, (l, true) => (acc, (l, true))
  | n + 1, acc, (l, false) =>
    if fOk (fNum (l, false)).1 acc (fVal 6 (fNum (l, false)).2).2 = true then fRunsN n (acc ++ List.replicate (fNum (l, false)).1 (fVal 6 (fNum (l, false)).2).1) (fVal 6 (fNum (l, false)).2).2
    else (acc, ((fVal 6 (fNum (l, false)).2).2.1, true))
def fRuns (o : RS) : List V × RS := fRunsN (fNum o).1 [] (fNum o).2
def fDictN (ds : List V) : Nat → List V → RS → List V × RS
  | 0, acc, o => (acc, o)
  | _ + 1, acc, (l, true) => (acc, (l, true))
  | n + 1, acc, (l, false) => if h : (fNum (l, false)).1 < ds.length then fDictN ds n (acc ++ [ds[(fNum (l, false)).1]]) (fNum (l, false)).2 else (acc, ((fNum (l, false)).2.1, true))
def fDict (o : RS) : List V × RS := fDictN (fPlain o).1 (fNum (fPlain o).2).1 [] (fNum (fPlain o).2).2
def fIn (q : Int) (o : RS) : RS := if -1000000000000 ≤ q ∧ q ≤ 1000000000000 then o else (o.1, true)
def fDeltaN : Nat → Int → List V → RS → List V × RS
  | 0, _, acc, o => (acc, o)
  | _ + 1, _, acc, (l, true) => (acc, (l, true))
  | n + 1, p, acc, (l, false) => fDeltaN n (p + (fInt (l, false)).1) (acc ++ [intV (p + (fInt (l, false)).1)]) (fIn (p + (fInt (l, false)).1) (fInt (l, false)).2)
def fDelta (o : RS) : List V × RS := fDeltaN (fNum o).1 0 [] (fNum o).2
def fEnc (e : Nat) (o : RS) : List V × RS := if e = 1 then fPlain o else if e = 2 then fRuns o else if e = 3 then fDict o else fDelta o

/- What the program reads, the reference reads. -/
theorem fNumF_of : ∀ (k i n : Nat) (l : List UInt8) {m : Nat} {r : List UInt8}, rNumF k i n l = some (m, r) → fNumF k i n (l, false) = (m, (r, false))
  | 0, _, _, _, _, _, h => by simp [rNumF] at h
  | _ + 1, _, _, [], _, _, h => by simp [rNumF] at h
  | k + 1, i, n, b :: l, m, r, h => by
    rw [rNumF] at h
    rw [fNumF]
    show (if b.toNat < 128 then (n + b.toNat % 128 * 128 ^ i, (l, false)) else fNumF k (i + 1) (n + b.toNat % 128 * 128 ^ i) (l, false)) = _
    split at h
    · next hb => injection h with h; injection h with h1 h2; subst h1 h2; rw [if_pos hb]
    · next hb => rw [if_neg hb]; exact fNumF_of k (i + 1) _ l h
theorem fNum_of {l : List UInt8} {m : Nat} {r : List UInt8} (h : rNum l = some (m, r)) : fNum (l, false) = (m, (r, false)) := fNumF_of 8 0 0 l h
theorem rCount_num' {l : List UInt8} {m : Nat} {r : List UInt8} (h : rCount l = some (m, r)) : rNum l = some (m, r) := by
  unfold rCount at h
  split at h
  · split at h
    · injection h with h; injection h with h1 h2; subst h1 h2; assumption
    · cases h
  · cases h
theorem fInt_of {l : List UInt8} {m : Int} {r : List UInt8} (h : rInt l = some (m, r)) : fInt (l, false) = (m, (r, false)) := by
  unfold rInt at h
  split at h
  · next hq => injection h with h; injection h with h1 h2; subst h1 h2; unfold fInt; rw [fNum_of hq]
  · cases h
theorem fStr_of {l : List UInt8} {m : ByteArray} {r : List UInt8} (h : rText l = some (m, r)) : fStr (l, false) = (m, (r, false)) := by
  unfold rText at h
  split at h
  · next n r' hq =>
    split at h
    · next hle =>
      injection h with h; injection h with h1 h2; subst h1 h2; unfold fStr; rw [fNum_of hq]
      exact if_pos hle
    · cases h
  · cases h
theorem fItems_of {f : List UInt8 → Option (V × List UInt8)} {g : RS → V × RS} (hfg : ∀ l x r, f l = some (x, r) → g (l, false) = (x, (r, false))) (obj : Bool) : ∀ (n : Nat) (l : List UInt8) {xs : List V} {ks : List ByteArray} {r : List UInt8}, rItems f obj n l = some (xs, ks, r) → fItems g obj n (l, false) = (xs, ks, (r, false))
  | 0, l, xs, ks, r, h => by injection h with h; injection h with h1 h; injection h with h2 h3; subst h1 h2 h3; rfl
  | n + 1, l, xs, ks, r, h => by
    rw [rItems] at h
    rw [fItems]
    split at h
    · next k l1 h1 =>
      have hk : fKey obj (l, false) = (k, (l1, false)) := by
        unfold fKey
        split at h1
        · next ho => rw [if_pos ho]; exact fStr_of h1
        · next ho => rw [if_neg ho]; injection h1 with h1; injection h1 with h2 h3; subst h2 h3; rfl
      split at h
      · next x l2 h2 =>
        split at h
        · next xs' ks' l3 h3 =>
          injection h with h; injection h with h4 h; injection h with h5 h6; subst h4 h5 h6
          rw [hk]
          simp only
          rw [hfg _ _ _ h2]
          simp only
          rw [fItems_of hfg obj n l2 h3]
        · cases h
      · cases h
    · cases h
theorem fVal_of : ∀ (L : Nat) (l : List UInt8) {x : V} {r : List UInt8}, rVal L l = some (x, r) → fVal L (l, false) = (x, (r, false))
  | 0, _, _, _, h => by cases h
  | L + 1, [], x, r, h => by cases h
  | L + 1, c :: l, x, r, h => by
    rw [rVal] at h
    simp only [rByte] at h
    show fTail (fVal L) c.toNat (l, false) = _
    unfold fTail
    split at h
    · next h0 =>
      injection h with h; injection h with h1 h2; subst h1 h2
      rw [if_neg (by omega), if_neg (by omega), if_neg (by omega), if_neg (by omega), h0]; rfl
    split at h
    · next h1 =>
      rw [if_pos h1]
      split at h
      · next h2 =>
        injection h with h; injection h with h3 h4; subst h3 h4
        cases l with
        | nil => cases h2
        | cons d l => injection h2 with h2; injection h2 with h3 h4; subst h3 h4; rfl
      · cases h
    next h1 =>
    rw [if_neg h1]
    split at h
    · next h2 =>
      rw [if_pos h2]
      split at h
      · next h3 => injection h with h; injection h with h4 h5; subst h4 h5; rw [fInt_of h3]
      · cases h
    next h2 =>
    rw [if_neg h2]
    split at h
    · next h3 =>
      rw [if_pos h3]
      split at h
      · next h4 => injection h with h; injection h with h5 h6; subst h5 h6; rw [fStr_of h4]
      · cases h
    next h3 =>
    rw [if_neg h3]
    split at h
    · next h45 =>
      rw [if_pos h45]
      split at h
      · next n l2 h5 =>
        rw [fNum_of (rCount_num' h5)]
        simp only
        split at h
        · next h6 =>
          injection h with h; injection h with h7 h8; subst h7 h8
          rw [fItems_of (fun l x r hh => fVal_of L l hh) _ n l2 h6]
        · cases h
      · cases h
    · cases h
theorem fValsN_of : ∀ (n : Nat) (acc : List V) (l : List UInt8) {xs : List V} {r : List UInt8}, rValsN n acc l = some (xs, r) → fValsN n acc (l, false) = (xs, (r, false))
  | 0, acc, l, xs, r, h => by injection h with h; injection h with h1 h2; subst h1 h2; rfl
  | n + 1, acc, l, xs, r, h => by
    rw [rValsN] at h
    rw [fValsN]
    split at h
    · next x l2 h1 =>
      rw [fVal_of 6 l h1]
      simp only
      split at h
      · exact fValsN_of n _ l2 h
      · cases h
    · cases h
theorem fPlain_of {l : List UInt8} {xs : List V} {r : List UInt8} (h : rVals l = some (xs, r)) : fPlain (l, false) = (xs, (r, false)) := by
  unfold rVals at h
  unfold fPlain
  split at h
  · next h1 =>
    rw [fNum_of (rCount_num' h1)]
    split at h
    · exact fValsN_of _ _ _ h
    · cases h
  · cases h
theorem fRunsN_of : ∀ (n : Nat) (acc : List V) (l : List UInt8) {xs : List V} {r : List UInt8}, acc.length ≤ 200 → rRunsN n acc l = some (xs, r) → fRunsN n acc (l, false) = (xs, (r, false))
  | 0, acc, l, xs, r, _, h => by injection h with h; injection h with h1 h2; subst h1 h2; rfl
  | n + 1, acc, l, xs, r, hl, h => by
    rw [rRunsN] at h
    rw [fRunsN]
    split at h
    · next m l1 h1 =>
      rw [fNum_of h1]
      simp only
      split at h
      · next hm =>
        split at h
        · next x l2 h2 =>
          rw [fVal_of 6 l1 h2]
          have hok : fOk m acc (l2, false) = true := by
            unfold fOk
            rw [decide_eq_true hm, decide_eq_true hl]; rfl
          simp only [hok, if_true]
          split at h
          · next h3 => exact fRunsN_of n _ l2 h3 h
          · cases h
        · cases h
      · cases h
    · cases h
theorem fRuns_of {l : List UInt8} {xs : List V} {r : List UInt8} (h : rRuns l = some (xs, r)) : fRuns (l, false) = (xs, (r, false)) := by
  unfold rRuns at h
  unfold fRuns
  split at h
  · next h1 =>
    rw [fNum_of (rCount_num' h1)]
    exact fRunsN_of _ _ _ (by simp) h
  · cases h
theorem fDictN_of (ws : List V) : ∀ (n : Nat) (acc : List V) (l : List UInt8) {xs : List V} {r : List UInt8}, rDictN ws n acc l = some (xs, r) → fDictN ws n acc (l, false) = (xs, (r, false))
  | 0, acc, l, xs, r, h => by injection h with h; injection h with h1 h2; subst h1 h2; rfl
  | n + 1, acc, l, xs, r, h => by
    rw [rDictN] at h
    rw [fDictN]
    split at h
    · next m l1 h1 =>
      split at h
      · next hm =>
        have h2 := fNum_of h1
        have e1 : (fNum (l, false)).1 = m := by rw [h2]
        have e2 : (fNum (l, false)).2 = (l1, false) := by rw [h2]
        rw [dif_pos (by rw [e1]; exact hm), e2]
        have e3 : ws[(fNum (l, false)).1]'(by rw [e1]; exact hm) = ws[m] := by congr 1
        rw [e3]
        exact fDictN_of ws n _ l1 h
      · cases h
    · cases h
theorem fDict_of {l : List UInt8} {xs : List V} {r : List UInt8} (h : rDict l = some (xs, r)) : fDict (l, false) = (xs, (r, false)) := by
  unfold rDict at h
  unfold fDict
  split at h
  · next h1 =>
    rw [fPlain_of h1]
    split at h
    · next h2 =>
      simp only
      rw [fNum_of (rCount_num' h2)]
      exact fDictN_of _ _ _ _ h
    · cases h
  · cases h
theorem fDeltaN_of : ∀ (n : Nat) (p : Int) (acc : List V) (l : List UInt8) {xs : List V} {r : List UInt8}, rDeltaN n p acc l = some (xs, r) → fDeltaN n p acc (l, false) = (xs, (r, false))
  | 0, p, acc, l, xs, r, h => by injection h with h; injection h with h1 h2; subst h1 h2; rfl
  | n + 1, p, acc, l, xs, r, h => by
    rw [rDeltaN] at h
    rw [fDeltaN]
    split at h
    · next d l1 h1 =>
      rw [fInt_of h1]
      simp only
      split at h
      · next hq =>
        rw [show fIn (p + d) (l1, false) = (l1, false) from if_pos hq]
        exact fDeltaN_of n _ _ l1 h
      · cases h
    · cases h
theorem fDelta_of {l : List UInt8} {xs : List V} {r : List UInt8} (h : rDelta l = some (xs, r)) : fDelta (l, false) = (xs, (r, false)) := by
  unfold rDelta at h
  unfold fDelta
  split at h
  · next h1 =>
    rw [fNum_of (rCount_num' h1)]
    exact fDeltaN_of _ _ _ _ h
  · cases h
theorem fEnc_of {e : Nat} {l : List UInt8} {xs : List V} {r : List UInt8} (h : rEnc e l = some (xs, r)) : fEnc e (l, false) = (xs, (r, false)) := by
  unfold rEnc at h
  unfold fEnc
  split at h
  · next h1 => rw [if_pos h1]; exact fPlain_of h
  next h1 =>
  rw [if_neg h1]
  split at h
  · next h2 => rw [if_pos h2]; exact fRuns_of h
  next h2 =>
  rw [if_neg h2]
  split at h
  · next h3 => rw [if_pos h3]; exact fDict_of h
  · next h3 => rw [if_neg h3]; exact fDelta_of h
end Go.Proofs.YtlbhgoffiigfbaaGreat.AW
end
section
set_option linter.unusedSimpArgs false
set_option linter.unusedVariables false
namespace Go.Proofs.YtlbhgoffiigfbaaGreat.AW
open Go Go.RowKit

theorem fByte_lt (o : RS) : (fByte o).1 < 256 := by
  obtain ⟨l, b⟩ := o
  cases b with
  | true => cases l <;> exact (by decide : 0 < 256)
  | false => cases l with
    | nil => exact (by decide : 0 < 256)
    | cons c l => exact c.toNat_lt
theorem fByte_bad (l : List UInt8) : fByte (l, true) = (0, (l, true)) := by cases l <;> rfl
theorem fByte_suf (o : RS) : (fByte o).2.1 <:+ o.1 := by
  obtain ⟨l, b⟩ := o
  cases b with
  | true => rw [fByte_bad]; exact List.suffix_refl _
  | false => cases l with
    | nil => exact List.suffix_refl _
    | cons c l => exact List.suffix_cons c l
theorem fByte_len {l r : List UInt8} (h : (fByte (l, false)).2 = (r, false)) : r.length < l.length := by
  cases l with
  | nil => cases h
  | cons c l => cases h; simp
theorem fNumF_lt : ∀ (k i n : Nat) (o : RS), n < 128 ^ i → (fNumF k i n o).1 < 128 ^ (i + k)
  | 0, i, n, o, h => Nat.pow_pos (by decide)
  | k + 1, i, n, o, h => by
    have hstep : n + (fByte o).1 % 128 * 128 ^ i < 128 ^ (i + 1) := by
      have h1 : (fByte o).1 % 128 ≤ 127 := by omega
      have h2 : (fByte o).1 % 128 * 128 ^ i ≤ 127 * 128 ^ i := Nat.mul_le_mul_right _ h1
      rw [Nat.pow_succ]; omega
    rw [fNumF]
    split
    · exact Nat.lt_of_lt_of_le hstep (Nat.pow_le_pow_right (by decide) (by omega))
    · have := fNumF_lt k (i + 1) _ (fByte o).2 hstep
      rw [show i + 1 + k = i + (k + 1) by omega] at this
      exact this
theorem fNum_lt (o : RS) : (fNum o).1 < 72057594037927936 := by
  show (fNumF 8 0 0 o).1 < _
  have := fNumF_lt 8 0 0 o (by decide)
  simpa using this
theorem fNumF_suf : ∀ (k i n : Nat) (o : RS), (fNumF k i n o).2.1 <:+ o.1
  | 0, _, _, _ => List.suffix_refl _
  | k + 1, i, n, o => by
    rw [fNumF]
    split
    · exact fByte_suf o
    · exact (fNumF_suf k _ _ _).trans (fByte_suf o)
theorem fNum_suf (o : RS) : (fNum o).2.1 <:+ o.1 := fNumF_suf 8 0 0 o
theorem fNumF_bad : ∀ (k i n : Nat) (l : List UInt8), (fNumF k i n (l, true)).2.2 = true
  | 0, _, _, _ => rfl
  | k + 1, i, n, l => by
    rw [fNumF, fByte_bad]
    simp only
    split
    · rfl
    · exact fNumF_bad k _ _ l
theorem fNum_bad (l : List UInt8) : (fNum (l, true)).2.2 = true := fNumF_bad 8 0 0 l
theorem fNumF_len : ∀ (k i n : Nat) (l : List UInt8) {r : List UInt8}, (fNumF k i n (l, false)).2 = (r, false) → r.length < l.length
  | 0, _, _, _, _, h => by cases h
  | k + 1, i, n, l, r, h => by
    rw [fNumF] at h
    split at h
    · exact fByte_len h
    · rcases hq : (fByte (l, false)).2 with ⟨l2, _ | _⟩
      · rw [hq] at h
        have h1 := fByte_len hq
        have h2 := fNumF_len k _ _ l2 h
        omega
      · rw [hq] at h
        have := fNumF_bad k (i + 1) (n + (fByte (l, false)).1 % 128 * 128 ^ i) l2
        rw [h] at this
        cases this
theorem fNum_len {l r : List UInt8} (h : (fNum (l, false)).2 = (r, false)) : r.length < l.length := fNumF_len 8 0 0 l h
theorem fStrL_suf (n : Nat) (o : RS) : (fStrL n o).2.1 <:+ o.1 := by
  obtain ⟨l, b⟩ := o
  cases b with
  | true => exact List.suffix_refl _
  | false =>
    unfold fStrL
    simp only
    split
    · exact List.drop_suffix _ _
    · exact List.suffix_refl _
theorem fStr_suf (o : RS) : (fStr o).2.1 <:+ o.1 := (fStrL_suf _ _).trans (fNum_suf o)
theorem fStrL_len {n : Nat} {o : RS} {r : List UInt8} (h : (fStrL n o).2 = (r, false)) : ∃ l, o = (l, false) ∧ r.length ≤ l.length := by
  obtain ⟨l, b⟩ := o
  cases b with
  | true => cases h
  | false =>
    unfold fStrL at h
    simp only at h
    split at h
    · cases h; exact ⟨l, rfl, by rw [List.length_drop]; omega⟩
    · cases h
theorem fStr_len {l r : List UInt8} (h : (fStr (l, false)).2 = (r, false)) : r.length < l.length := by
  obtain ⟨l2, h1, h2⟩ := fStrL_len h
  have := fNum_len h1
  omega
theorem fKey_suf (obj : Bool) (o : RS) : (fKey obj o).2.1 <:+ o.1 := by
  unfold fKey
  split
  · exact fStr_suf o
  · exact List.suffix_refl _
theorem fKey_len {obj : Bool} {l r : List UInt8} (h : (fKey obj (l, false)).2 = (r, false)) : r.length ≤ l.length := by
  unfold fKey at h
  split at h
  · have := fStr_len h; omega
  · cases h; exact Nat.le_refl _
theorem fItems_nil (f : RS → V × RS) (obj : Bool) (n : Nat) (l : List UInt8) : fItems f obj n (l, true) = ([], [], (l, true)) := by cases n <;> rfl
theorem fItems_suf {f : RS → V × RS} (hf : ∀ o, (f o).2.1 <:+ o.1) (obj : Bool) : ∀ (n : Nat) (o : RS), (fItems f obj n o).2.2.1 <:+ o.1
  | 0, _ => List.suffix_refl _
  | n + 1, (l, true) => List.suffix_refl _
  | n + 1, (l, false) => ((fItems_suf hf obj n _).trans (hf _)).trans (fKey_suf obj _)
theorem fTail_suf {f : RS → V × RS} (hf : ∀ o, (f o).2.1 <:+ o.1) (k : Nat) (o : RS) : (fTail f k o).2.1 <:+ o.1 := by
  unfold fTail
  split
  · exact fByte_suf o
  split
  · exact fNum_suf o
  split
  · exact fStr_suf o
  split
  · exact (fItems_suf hf _ _ _).trans (fNum_suf o)
  · exact List.suffix_refl _
theorem fVal_suf : ∀ (L : Nat) (o : RS), (fVal L o).2.1 <:+ o.1
  | 0, o => fByte_suf o
  | L + 1, (l, true) => by cases l <;> exact List.suffix_refl _
  | L + 1, ([], false) => List.suffix_refl _
  | L + 1, (c :: l, false) => (fTail_suf (fVal_suf L) _ _).trans (List.suffix_cons c l)
theorem fItems_len {f : RS → V × RS} (hf : ∀ o r, (f o).2 = (r, false) → ∃ l, o = (l, false) ∧ r.length < l.length) {obj : Bool} : ∀ (n : Nat) (l : List UInt8), (fItems f obj n (l, false)).1.length ≤ l.length + 1 ∧ (fItems f obj n (l, false)).2.1.length ≤ (fItems f obj n (l, false)).1.length ∧ ∀ r, (fItems f obj n (l, false)).2.2 = (r, false) → r.length + (fItems f obj n (l, false)).1.length ≤ l.length
  | 0, l => ⟨by simp [fItems], by simp [fItems], fun r h => by cases h; simp [fItems]⟩
  | n + 1, l => by
    rw [fItems]
    simp only [List.length_cons]
    rcases hq : (f (fKey obj (l, false)).2).2 with ⟨l2, _ | _⟩
    · obtain ⟨l1, h1, h2⟩ := hf _ _ hq
      have h3 := fKey_len h1
      obtain ⟨g1, g2, g3⟩ := fItems_len hf (obj := obj) n l2
      refine ⟨by omega, ?_, fun r h => ?_⟩
      · split
        · simp only [List.length_cons]; omega
        · simp
      · have := g3 r h; omega
    · rw [fItems_nil]
      simp only [List.length_nil]
      exact ⟨by omega, by split <;> simp, fun r h => (by cases h)⟩
theorem fTail_len {f : RS → V × RS} (hf : ∀ o r, (f o).2 = (r, false) → ∃ l, o = (l, false) ∧ r.length < l.length) {k : Nat} {l r : List UInt8} (h : (fTail f k (l, false)).2 = (r, false)) : r.length ≤ l.length := by
  unfold fTail at h
  split at h
  · have := fByte_len h; omega
  split at h
  · have : r.length < l.length := fNum_len h
    omega
  split at h
  · have := fStr_len h; omega
  split at h
  · rcases hq : (fNum (l, false)).2 with ⟨l2, _ | _⟩
    · rw [hq] at h
      have h1 := fNum_len hq
      have h2 := (fItems_len hf _ l2).2.2 r h
      omega
    · rw [hq, fItems_nil] at h; cases h
  · cases h; exact Nat.le_refl _
theorem fVal_len : ∀ {L : Nat} {o : RS} {r : List UInt8}, (fVal L o).2 = (r, false) → ∃ l, o = (l, false) ∧ r.length < l.length
  | 0, _, _, h => by cases h
  | L + 1, (l, true), _, h => by cases l <;> cases h
  | L + 1, ([], false), _, h => by cases h
  | L + 1, (c :: l, false), r, h => by
    have := fTail_len (fun o r h => fVal_len h) h
    exact ⟨_, rfl, by simp only [List.length_cons]; omega⟩
theorem zeroV_sm : zeroV.sm := by simp [zeroV, V.sm, V.smL]
theorem fVal_bad (L : Nat) (l : List UInt8) : fVal L (l, true) = (zeroV, (l, true)) := by
  cases L with
  | zero => show (zeroV, ((fByte (l, true)).2.1, true)) = _; rw [fByte_bad]
  | succ L => cases l <;> rfl
theorem fItems_sm {f : RS → V × RS} (hf : ∀ o r, (f o).2 = (r, false) → ∃ l, o = (l, false) ∧ r.length < l.length) (hs : ∀ l, l.length < 1000000000000 → (f (l, false)).1.sm) (h0 : ∀ l, (f (l, true)).1.sm) {obj : Bool} : ∀ (n : Nat) (l : List UInt8), l.length < 1000000000000 → ∀ x ∈ (fItems f obj n (l, false)).1, x.sm
  | 0, l, _ => by intro x hx; cases hx
  | n + 1, l, hl => by
    intro x hx
    rw [fItems] at hx
    rcases List.mem_cons.1 hx with rfl | hx
    · rcases hq : (fKey obj (l, false)).2 with ⟨l1, _ | _⟩
      · exact hs _ (by have := fKey_len hq; omega)
      · exact h0 _
    · rcases hq : (f (fKey obj (l, false)).2).2 with ⟨l2, _ | _⟩
      · obtain ⟨l1, h1, h2⟩ := hf _ _ hq
        have h3 := fKey_len h1
        rw [hq] at hx
        exact fItems_sm hf hs h0 n l2 (by omega) x hx
      · rw [hq, fItems_nil] at hx; cases hx
theorem fVal_sm : ∀ (L : Nat) (l : List UInt8), l.length < 1000000000000 → (fVal L (l, false)).1.sm
  | 0, _, _ => zeroV_sm
  | L + 1, [], _ => zeroV_sm
  | L + 1, c :: l, hl => by
    simp only [List.length_cons] at hl
    show (fTail (fVal L) c.toNat (l, false)).1.sm
    unfold fTail
    split
    · exact leaf_sm _ _ _
    split
    · exact leaf_sm _ _ _
    split
    · exact leaf_sm _ _ _
    split
    · simp only [V.sm, V.smL_iff]
      rcases hq : (fNum (l, false)).2 with ⟨l2, _ | _⟩
      · have h1 := fNum_len hq
        obtain ⟨g1, g2, g3⟩ := fItems_len (fun o r h => fVal_len (L := L) h) (obj := (c.toNat == 5)) (fNum (l, false)).1 l2
        exact ⟨by omega, by omega, fItems_sm (fun o r h => fVal_len (L := L) h) (fun l h => fVal_sm L l h) (fun l => by rw [fVal_bad]; exact zeroV_sm) _ l2 (by omega)⟩
      · rw [fItems_nil]
        exact ⟨by simp, by simp, fun x hx => (by cases hx)⟩
    · exact leaf_sm _ _ _
theorem mem_one {P : V → Prop} {acc : List V} {y : V} (h : ∀ x ∈ acc, P x) (hy : P y) : ∀ x ∈ acc ++ [y], P x := fun x hx => (List.mem_append.1 hx).elim (h x) (fun hx => by rw [List.mem_singleton.1 hx]; exact hy)
theorem fValsN_bad (n : Nat) (acc : List V) (l : List UInt8) : fValsN n acc (l, true) = (acc, (l, true)) := by cases n <;> rfl
theorem fValsN_ok : ∀ (n : Nat) (acc : List V) (l : List UInt8), l.length < 1000000000000 → (∀ x ∈ acc, x.sm) → (∀ x ∈ (fValsN n acc (l, false)).1, x.sm) ∧ (fValsN n acc (l, false)).1.length ≤ acc.length + l.length + 1 ∧ ∀ r, (fValsN n acc (l, false)).2 = (r, false) → r.length ≤ l.length
  | 0, acc, l, hl, ha => ⟨ha, by show acc.length ≤ _; omega, fun r h => by cases h; exact Nat.le_refl _⟩
  | n + 1, acc, l, hl, ha => by
    rw [fValsN]
    have ha2 := mem_one ha (fVal_sm 6 l hl)
    rcases hq : (fVal 6 (l, false)).2 with ⟨l2, _ | _⟩
    · obtain ⟨l', h1, h2⟩ := fVal_len hq
      cases h1
      obtain ⟨g1, g2, g3⟩ := fValsN_ok n _ l2 (by omega) ha2
      exact ⟨g1, by rw [List.length_append, List.length_singleton] at g2; omega, fun r h => by have := g3 r h; omega⟩
    · rw [fValsN_bad]
      exact ⟨ha2, by simp only [List.length_append, List.length_singleton]; omega, fun r h => (by cases h)⟩
theorem fPlain_ok (l : List UInt8) (hl : l.length < 1000000000000) : (∀ x ∈ (fPlain (l, false)).1, x.sm) ∧ (fPlain (l, false)).1.length ≤ l.length + 1 ∧ ∀ r, (fPlain (l, false)).2 = (r, false) → r.length ≤ l.length := by
  unfold fPlain
  rcases hq : (fNum (l, false)).2 with ⟨l2, _ | _⟩
  · have h1 := fNum_len hq
    obtain ⟨g1, g2, g3⟩ := fValsN_ok (fNum (l, false)).1 [] l2 (by omega) (fun x hx => by cases hx)
    exact ⟨g1, by simp only [List.length_nil] at g2; omega, fun r h => by have := g3 r h; omega⟩
  · rw [fValsN_bad]
    exact ⟨fun x hx => (by cases hx), by simp, fun r h => (by cases h)⟩
theorem fRunsN_bad (n : Nat) (acc : List V) (l : List UInt8) : fRunsN n acc (l, true) = (acc, (l, true)) := by cases n <;> rfl
theorem fOk_some {m : Nat} {acc : List V} {o : RS} (h : fOk m acc o = true) : o = (o.1, false) ∧ m ≤ 200 ∧ acc.length ≤ 200 := by
  unfold fOk at h
  obtain ⟨l, b⟩ := o
  simp only [Bool.and_eq_true, decide_eq_true_eq, Bool.not_eq_true'] at h
  obtain ⟨⟨rfl, h1⟩, h2⟩ := h
  exact ⟨rfl, h1, h2⟩
theorem fRunsN_ok : ∀ (n : Nat) (acc : List V) (l : List UInt8), l.length < 1000000000000 → (∀ x ∈ acc, x.sm) → acc.length ≤ 400 → (∀ x ∈ (fRunsN n acc (l, false)).1, x.sm) ∧ (fRunsN n acc (l, false)).1.length ≤ 400
  | 0, acc, l, hl, ha, h4 => ⟨ha, h4⟩
  | n + 1, acc, l, hl, ha, h4 => by
    rw [fRunsN]
    split
    · next hq =>
      obtain ⟨h1, h2, h3⟩ := fOk_some hq
      obtain ⟨l1, h5, h6⟩ := fVal_len h1
      have h7 := fNum_len h5
      rw [h1]
      refine fRunsN_ok n _ _ (by omega) (fun x hx => ?_) ?_
      · rcases List.mem_append.1 hx with hx | hx
        · exact ha x hx
        · rw [(List.mem_replicate.1 hx).2, h5]; exact fVal_sm 6 l1 (by omega)
      · rw [List.length_append, List.length_replicate]; omega
    · exact ⟨ha, h4⟩
theorem fDictN_bad (ds : List V) (n : Nat) (acc : List V) (l : List UInt8) : fDictN ds n acc (l, true) = (acc, (l, true)) := by cases n <;> rfl
theorem fDictN_ok {ds : List V} (hd : ∀ x ∈ ds, x.sm) : ∀ (n : Nat) (acc : List V) (l : List UInt8), (∀ x ∈ acc, x.sm) → (∀ x ∈ (fDictN ds n acc (l, false)).1, x.sm) ∧ (fDictN ds n acc (l, false)).1.length ≤ acc.length + l.length + 1
  | 0, acc, l, ha => ⟨ha, by show acc.length ≤ _; omega⟩
  | n + 1, acc, l, ha => by
    rw [fDictN]
    split
    · next hlt =>
      have ha2 := mem_one ha (hd _ (List.getElem_mem hlt))
      rcases hq : (fNum (l, false)).2 with ⟨l2, _ | _⟩
      · have h1 := fNum_len hq
        obtain ⟨g1, g2⟩ := fDictN_ok hd n _ l2 ha2
        exact ⟨g1, by rw [List.length_append, List.length_singleton] at g2; omega⟩
      · rw [fDictN_bad]; exact ⟨ha2, by simp only [List.length_append, List.length_singleton]; omega⟩
    · exact ⟨ha, by show acc.length ≤ _; omega⟩
theorem fDeltaN_bad (n : Nat) (p : Int) (acc : List V) (l : List UInt8) : fDeltaN n p acc (l, true) = (acc, (l, true)) := by cases n <;> rfl
theorem fIn_some {q : Int} {o : RS} {r : List UInt8} (h : fIn q o = (r, false)) : o = (r, false) ∧ -1000000000000 ≤ q ∧ q ≤ 1000000000000 := by
  unfold fIn at h
  split at h
  · next hc => exact ⟨h, hc⟩
  · cases h
theorem fDeltaN_ok : ∀ (n : Nat) (p : Int) (acc : List V) (l : List UInt8), (∀ x ∈ acc, x.sm) → (∀ x ∈ (fDeltaN n p acc (l, false)).1, x.sm) ∧ (fDeltaN n p acc (l, false)).1.length ≤ acc.length + l.length + 1
  | 0, p, acc, l, ha => ⟨ha, by show acc.length ≤ _; omega⟩
  | n + 1, p, acc, l, ha => by
    rw [fDeltaN]
    have ha2 := mem_one ha (show (intV (p + (fInt (l, false)).1)).sm from leaf_sm _ _ _)
    rcases hq : fIn (p + (fInt (l, false)).1) (fInt (l, false)).2 with ⟨l2, _ | _⟩
    · have h1 : l2.length < l.length := fNum_len (fIn_some hq).1
      obtain ⟨g1, g2⟩ := fDeltaN_ok n _ _ l2 ha2
      exact ⟨g1, by rw [List.length_append, List.length_singleton] at g2; omega⟩
    · rw [fDeltaN_bad]; exact ⟨ha2, by simp only [List.length_append, List.length_singleton]; omega⟩
theorem fEnc_ok (e : Nat) (l : List UInt8) (hl : l.length < 1000000000000) : (∀ x ∈ (fEnc e (l, false)).1, x.sm) ∧ (fEnc e (l, false)).1.length ≤ l.length + 500 := by
  unfold fEnc
  split
  · have := fPlain_ok l hl; exact ⟨this.1, by omega⟩
  split
  · unfold fRuns
    rcases hq : (fNum (l, false)).2 with ⟨l2, _ | _⟩
    · have h1 := fNum_len hq
      have := fRunsN_ok (fNum (l, false)).1 [] l2 (by omega) (fun x hx => by cases hx) (by simp)
      exact ⟨this.1, by omega⟩
    · rw [fRunsN_bad]; exact ⟨fun x hx => (by cases hx), by simp⟩
  split
  · unfold fDict
    obtain ⟨g1, g2, g3⟩ := fPlain_ok l hl
    rcases hp : (fPlain (l, false)).2 with ⟨l1, _ | _⟩
    · have h1 := g3 l1 hp
      rcases hq : (fNum (l1, false)).2 with ⟨l2, _ | _⟩
      · have h2 := fNum_len hq
        have := fDictN_ok g1 (fNum (l1, false)).1 [] l2 (fun x hx => by cases hx)
        simp only [List.length_nil] at this
        exact ⟨this.1, by omega⟩
      · rw [fDictN_bad]; exact ⟨fun x hx => (by cases hx), by simp⟩
    · rcases hq : (fNum (l1, true)).2 with ⟨l2, _ | _⟩
      · have := fNum_bad l1
        rw [hq] at this; cases this
      · rw [fDictN_bad]; exact ⟨fun x hx => (by cases hx), by simp⟩
  · unfold fDelta
    rcases hq : (fNum (l, false)).2 with ⟨l2, _ | _⟩
    · have h1 := fNum_len hq
      have := fDeltaN_ok (fNum (l, false)).1 0 [] l2 (fun x hx => by cases hx)
      simp only [List.length_nil] at this
      exact ⟨this.1, by omega⟩
    · rw [fDeltaN_bad]; exact ⟨fun x hx => (by cases hx), by simp⟩
end Go.Proofs.YtlbhgoffiigfbaaGreat.AW
end
section
set_option linter.unusedSimpArgs false
set_option linter.unusedVariables false
namespace Go.Proofs.YtlbhgoffiigfbaaGreat.AW
open Go Go.RowKit

/-- What a reader's box holds. -/
def rc (s : List UInt8) (o : RS) : List AV := [.str (bS s), .int .i64 ((s.length - o.1.length : Nat) : Int), .bool o.2]
def RfPost (s : List UInt8) (h : AH) (b : Nat) (v : AV) (o : RS) (out : AOut) (h' : AH) : Prop := out = .ret v ∧ h' = h.set b (rc s o)
def RfPre (s : List UInt8) (h : AH) (b : Nat) (v : AV) (o : RS) (out : AOut) (h2 : AH) : Prop := ExtX h b h2 ∧ h2.box b = some (rc s o) ∧ ∃ u, out = .ret u ∧ Wk u v
theorem Rf.of {f : FuncId} {args : List AV} {s : List UInt8} {h : AH} {b : Nat} {v : AV} {o : RS} (hv : v.under 0 0 = true)
    (hc : Scoped h → ACalls Tryz.prog f args h (RfPre s h b v o)) : ACalls Tryz.prog f args h (RfPost s h b v o) := by
  intro w0 m w args' h1 h2 hW
  refine ((hc hW.isScoped) w0 m w args' h1 h2 hW).mono ?_
  rintro e w' ⟨m', out, h'', q1, q2, q3, e1, e2, u, rfl, hu⟩
  obtain ⟨l1, W1⟩ := hW.cut q1 q3 (e1.cutOk hW.isScoped e2 rfl)
  refine ⟨_, .ret v, _, l1, ?_, W1, rfl, rfl⟩
  cases e with
  | returned c => exact (hu _ _ q2).cutTo (AV.under_mono hv)
  | panicked c => exact q2.elim
  | outgrown => exact q2.elim
theorem rf_call {f : FuncId} {args : List AV} {s0 : List UInt8} {h : AH} {b : Nat} {v : AV} {o : RS} {dst : Option Nat} {s : AS} {k : AK} {Q : AQ} (hf : FOk Tryz.prog f) (hr : ACalls Tryz.prog f args h (RfPost s0 h b v o))
    (hs : k (putD s dst v) (h.set b (rc s0 o)) Q) : ACallV Tryz.prog (.fn (.func f) [] []) args h (callK dst s k Q) := by
  refine ACallV.mono ?_ (ACallV.of hf hr)
  rintro out h' ⟨rfl, rfl⟩
  exact hs
/-- A call that reads, in a drawn region that looks at other boxes. -/
theorem skR_rf {f : FuncId} {args : List AV} {s0 : List UInt8} {h : AH} {b : Nat} {v : AV} {o : RS} {k : AV → AH → Prop} (hf : FOk Tryz.prog f) (hr : ACalls Tryz.prog f args h (RfPost s0 h b v o))
    (hs : k v (h.set b (rc s0 o))) : skR Tryz.prog (some (.but b)) 1 h (.call (.fn (.func f) [] []) args) k := by
  unfold skR
  simp only
  rw [if_neg (by decide)]
  exact ⟨v, _, ACallV.of hf hr, fun c hc => by rw [set_box, if_neg hc], hs⟩
theorem suf_at {s l : List UInt8} (h : l <:+ s) : l.length ≤ s.length ∧ l = s.drop (s.length - l.length) := by
  obtain ⟨p, rfl⟩ := h
  refine ⟨by rw [List.length_append]; omega, ?_⟩
  rw [List.length_append, Nat.add_sub_cancel, List.drop_left]
theorem refbyte_rf (s : List UInt8) (hsl : s.length < 1000000000000) (o : RS) (hst : o.1 <:+ s) {h : AH} {b : Nat} (hb : h.box b = some (rc s o)) : ACalls Tryz.prog 64 [.ptr b 0] h (RfPost s h b (.int .i64 ((fByte o).1 : Int)) (fByte o).2) := by
  refine Rf.of rfl fun hsc => ?_
  have hlt := hsc.box _ _ hb
  obtain ⟨l, bad⟩ := o
  cases bad with
  | true =>
    have hb' : h.box b = some [.str (bS s), .int .i64 ((s.length - l.length : Nat) : Int), .bool true] := hb
    rw [fByte_bad]
    refine acalls_of te_ok [] Tryz.func64 (c := _) rfl (Nat.le_of_ble_eq_true rfl) ?_
    simp only [aws, eq_self, Nat.reduceLT, Tryz.ntmps64, Tryz.results64]
    refine acode_draw_chain te_ok mixed [] (by kernel_rfl) ?_
    simp only [aws, eq_self, reduceIte, reduceCtorEq, Nat.reduceAdd, Nat.reduceLT, Nat.reduceLeDiff, Nat.reduceEqDiff, storeB, ares1, teset, hb']
    exact ⟨(ExtX.refl hlt).own _, set_at _ _ _, _, rfl, .refl _⟩
  | false =>
    have hb' : h.box b = some [.str (bS s), .int .i64 ((s.length - l.length : Nat) : Int), .bool false] := hb
    refine acalls_of te_ok [] Tryz.func64 (c := _) rfl (Nat.le_of_ble_eq_true rfl) ?_
    simp only [aws, eq_self, Nat.reduceLT, Tryz.ntmps64, Tryz.results64]
    refine acode_draw_chain te_ok mixed [] (by kernel_rfl) ?_
    simp only [aws, eq_self, reduceIte, reduceCtorEq, Nat.reduceAdd, Nat.reduceLT, Nat.reduceEqDiff, acmpnil, teset, hb', bS_size]
    cases l with
    | nil =>
      have hc : decide (((s.length - ([] : List UInt8).length : Nat) : Int) ≥ (s.length : Int)) = true := by rw [decide_eq_true_eq]; simp
      rw [List.length_nil, Nat.sub_zero] at hc
      simp only [aws, eq_self, reduceIte, reduceCtorEq, Nat.reduceAdd, Nat.reduceLT, Nat.reduceLeDiff, Nat.reduceEqDiff, storeB, ares1, teset, hb', Nat.sub_zero, hc]
      exact ⟨(ExtX.refl hlt).own _, set_at _ _ _, _, rfl, .refl _⟩
    | cons c l =>
      obtain ⟨p, hp⟩ := hst
      have hp' : s = p ++ c :: l := hp.symm
      have hsz : s.length = p.length + (l.length + 1) := by rw [hp', List.length_append, List.length_cons]
      have hat : s.length - (c :: l).length = p.length := by rw [List.length_cons]; omega
      have hat2 : s.length - l.length = p.length + 1 := by omega
      rw [hat] at hb' ⊢
      have hc : decide (((p.length : Nat) : Int) ≥ (s.length : Int)) = false := by simp only [decide_eq_false_iff_not]; omega
      have hlt2 : p.length < s.length := by omega
      have hcl := c.toNat_lt
      have hix : (bS s)[p.length]? = some c := by
        rw [show (bS s)[p.length]? = s[p.length]? from (getElem?_pos (bS s) p.length hlt2).trans (List.getElem?_eq_getElem hlt2).symm, hp']
        simp
      have hwc : IntKind.i64.wrap ((c.toNat : Nat) : Int) = ((c.toNat : Nat) : Int) := wrap_i64 (by omega) (by omega)
      have hwa : IntKind.i64.wrap ((p.length : Int) + 1) = ((s.length - l.length : Nat) : Int) := by rw [hat2]; exact wrap_succ (by omega)
      simp only [aws, hc]
      refine acode_draw_chain te_ok mixed [] (by kernel_rfl) ?_
      simp only [aws, eq_self, reduceIte, reduceCtorEq, Nat.reduceAdd, Nat.reduceLT, Nat.reduceLeDiff, Nat.reduceEqDiff, aconv, acvB, acmpnil, storeB, ares1, teset, hb', hix, hwc, hwa, Int.natCast_nonneg, Int.toNat_natCast]
      exact ⟨(ExtX.refl hlt).own _, set_at _ _ _, _, rfl, .refl _⟩
theorem rc_same (s : List UInt8) (h : AH) (b : Nat) (o : RS) (hb : h.box b = some (rc s o)) : h.set b (rc s o) = h := set_same hb
set_option maxHeartbeats 2000000 in
theorem refcount_rf (s : List UInt8) (hsl : s.length < 1000000000000) (o : RS) (hst : o.1 <:+ s) {h : AH} {b : Nat} (hb : h.box b = some (rc s o)) : ACalls Tryz.prog 55 [.ptr b 0] h (RfPost s h b (.int .i64 ((fNum o).1 : Int)) (fNum o).2) := by
  refine Rf.of rfl fun hsc => ?_
  have hlt := hsc.box _ _ hb
  refine acalls_of te_ok [] Tryz.func55 (c := _) rfl (Nat.le_of_ble_eq_true rfl) ?_
  simp only [aws, eq_self, Nat.reduceLT, Tryz.ntmps55, Tryz.results55]
  refine ⟨fun n s' h' => ∃ (i m : Nat) (o' : RS), s' 0 = .ptr b 0 ∧ s' 3 = .int .i64 m ∧ s' 4 = .int .i64 ((128 ^ i : Nat) : Int) ∧ s' 5 = .int .i64 i ∧ h' = h.set b (rc s o') ∧ o'.1 <:+ s ∧ n + i = 8 ∧ fNumF (8 - i) i m o' = fNum o ∧ m < 128 ^ i, ⟨8, 0, 0, o, ?_⟩, ?_⟩
  · simp only [aws, eq_self, reduceIte, Nat.reduceLT, Nat.reduceSub, Int.natCast_zero, Nat.pow_zero, Int.natCast_one, rc_same s h b o hb]
    exact ⟨hst, rfl⟩
  · rintro n s' h' ⟨i, m, o', e0, e3, e4, e5, rfl, hst', hn, hr, hm⟩
    have hb' := set_at h b (rc s o')
    simp only [aws, eq_self, reduceIte, Nat.reduceLT, acmpnil, e5]
    cases hc : decide ((i : Int) < 8) with
    | false =>
      simp only [decide_eq_false_iff_not] at hc
      obtain rfl : i = 8 := by omega
      simp only [aws, eq_self, reduceIte, Nat.reduceAdd, Nat.reduceLT, Nat.reduceLeDiff, Nat.reduceEqDiff, storeB, ares1, teset, e0, rc]
      rw [show fNum o = (0, (o'.1, true)) from hr.symm]
      exact ⟨((ExtX.refl hlt).own _).own _, set_at _ _ _, _, rfl, .refl _⟩
    | true =>
      simp only [decide_eq_true_eq] at hc
      obtain ⟨k, hk⟩ : ∃ k, 8 - i = k + 1 := ⟨7 - i, by omega⟩
      simp only [aws, eq_self, reduceIte, Nat.reduceLT, e0]
      refine rf_call ⟨Tryz.f64, Tryz.func64, rfl, by kernel_rfl⟩ (refbyte_rf s hsl o' hst' hb') ?_
      rw [set_set]
      rw [hk, fNumF] at hr
      have hst2 := (fByte_suf o').trans hst'
      generalize hcc : (fByte o').1 = c at hr
      generalize hoo : (fByte o').2 = o2 at hr hst2
      have hcl : c < 256 := by rw [← hcc]; exact fByte_lt o'
      have hc7 : c % 128 ≤ 127 := by omega
      have hpw : 128 ^ i ≤ 562949953421312 := Nat.le_trans (Nat.pow_le_pow_right (by decide) (show i ≤ 7 by omega)) (by decide)
      have hmul : c % 128 * 128 ^ i ≤ 127 * 562949953421312 := Nat.mul_le_mul hc7 hpw
      have hstep : m + c % 128 * 128 ^ i < 128 ^ (i + 1) := by
        have h2 : c % 128 * 128 ^ i ≤ 127 * 128 ^ i := Nat.mul_le_mul_right _ hc7
        rw [Nat.pow_succ]; omega
      have hr2 : ((c : Nat) : Int).tmod 128 = ((c % 128 : Nat) : Int) := by rw [Int.tmod_eq_emod_of_nonneg (by omega)]; omega
      have hw1 : IntKind.i64.wrap (((128 ^ i : Nat) : Int) * ((c % 128 : Nat) : Int)) = ((c % 128 * 128 ^ i : Nat) : Int) := by
        rw [← Int.natCast_mul, Nat.mul_comm, wrap_i64 (by omega) (by omega)]
      have hw2 : IntKind.i64.wrap ((m : Int) + ((c % 128 * 128 ^ i : Nat) : Int)) = ((m + c % 128 * 128 ^ i : Nat) : Int) := by
        rw [wrap_i64 (by omega) (by omega)]; omega
      have hw3 : IntKind.i64.wrap (((128 ^ i : Nat) : Int) * 128) = ((128 ^ (i + 1) : Nat) : Int) := by
        rw [wrap_i64 (by omega) (by omega), Nat.pow_succ]; omega
      simp only [aws, eq_self, reduceIte, Nat.reduceLT, Nat.reduceEqDiff, Int.reduceEq, acmpnil, e3, e4, hr2, hw1, hw2]
      cases hc2 : decide (((c : Nat) : Int) < 128) with
      | true =>
        simp only [decide_eq_true_eq] at hc2
        rw [if_pos (by omega)] at hr
        simp only [aws, eq_self, reduceIte, Nat.reduceLT, Nat.reduceEqDiff, ares1, e3]
        rw [← hr]
        exact ⟨(ExtX.refl hlt).own _, set_at _ _ _, _, rfl, .refl _⟩
      | false =>
        simp only [decide_eq_false_iff_not] at hc2
        rw [if_neg (by omega)] at hr
        simp only [aws, eq_self, reduceIte, reduceCtorEq, Nat.reduceLT, Nat.reduceEqDiff, acmpnil, e0, e3, e4, e5, hw3]
        refine ⟨n - 1, by omega, i + 1, _, o2, rfl, rfl, by rw [wrap_succ (by omega)], rfl, hst2, by omega, ?_, hstep⟩
        rw [show 8 - (i + 1) = k by omega]; exact hr
theorem refint_rf (s : List UInt8) (hsl : s.length < 1000000000000) (o : RS) (hst : o.1 <:+ s) {h : AH} {b : Nat} (hb : h.box b = some (rc s o)) : ACalls Tryz.prog 57 [.ptr b 0] h (RfPost s h b (.int .i64 (fInt o).1) (fInt o).2) := by
  refine Rf.of rfl fun hsc => ?_
  have hlt := hsc.box _ _ hb
  refine acalls_of te_ok [] Tryz.func57 (c := _) rfl (Nat.le_of_ble_eq_true rfl) ?_
  simp only [aws, eq_self, reduceIte, Nat.reduceLT, Tryz.ntmps57, Tryz.results57]
  refine rf_call ⟨Tryz.f55, Tryz.func55, rfl, by kernel_rfl⟩ (refcount_rf s hsl o hst hb) ?_
  unfold fInt
  have hm := fNum_lt o
  generalize (fNum o).1 = m at hm ⊢
  generalize (fNum o).2 = o2
  have hr2 : ((m : Nat) : Int).tmod 2 = ((m % 2 : Nat) : Int) := by rw [Int.tmod_eq_emod_of_nonneg (by omega)]; omega
  have hw1 : IntKind.i64.wrap ((m : Int) + 1) = (m : Int) + 1 := wrap_i64 (by omega) (by omega)
  have hw2 : IntKind.i64.wrap (0 - ((m : Int) + 1)) = -((m : Int) + 1) := by rw [wrap_i64 (by omega) (by omega)]; omega
  have hd1 : IntKind.i64.wrap ((m : Int).tdiv 2) = ((m / 2 : Nat) : Int) := by rw [Int.tdiv_eq_ediv_of_nonneg (by omega), wrap_i64 (by omega) (by omega)]; omega
  simp only [aws, eq_self, reduceIte, Nat.reduceLT, Int.reduceEq, acmpnil, hr2]
  cases hc : (((m % 2 : Nat) : Int) == 1) with
  | true =>
    have hm1 : m % 2 = 1 := by
      have : ((m % 2 : Nat) : Int) = 1 := by simpa only [beq_iff_eq] using hc
      omega
    have hd2 : IntKind.i64.wrap ((-((m : Int) + 1)).tdiv 2) = -(((m + 1) / 2 : Nat) : Int) := by rw [Int.neg_tdiv, Int.tdiv_eq_ediv_of_nonneg (by omega), wrap_i64 (by omega) (by omega)]; omega
    have hu : unzig m = -(((m + 1) / 2 : Nat) : Int) := by unfold unzig; rw [if_pos hm1]
    simp only [aws, eq_self, reduceIte, Nat.reduceLT, Nat.reduceEqDiff, Int.reduceEq, acmpnil, ares1, hw1, hw2, hd2]
    refine ⟨(ExtX.refl hlt).own _, set_at _ _ _, _, rfl, ?_⟩
    refine Wk.of_erase ?_
    show AV.int .i64 _ = AV.int .i64 (unzig m)
    rw [hu]
  | false =>
    have hm1 : ¬ m % 2 = 1 := by
      have : ¬ ((m % 2 : Nat) : Int) = 1 := by simpa only [beq_eq_false_iff_ne, ne_eq] using hc
      omega
    have hu : unzig m = ((m / 2 : Nat) : Int) := by unfold unzig; rw [if_neg hm1]
    simp only [aws, eq_self, reduceIte, Nat.reduceLT, Nat.reduceEqDiff, Int.reduceEq, acmpnil, ares1, hd1]
    refine ⟨(ExtX.refl hlt).own _, set_at _ _ _, _, rfl, ?_⟩
    refine Wk.of_erase ?_
    show AV.int .i64 _ = AV.int .i64 (unzig m)
    rw [hu]
theorem refstr_rf (s : List UInt8) (hsl : s.length < 1000000000000) (o : RS) (hst : o.1 <:+ s) {h : AH} {b : Nat} (hb : h.box b = some (rc s o)) : ACalls Tryz.prog 65 [.ptr b 0] h (RfPost s h b (.str (fStr o).1) (fStr o).2) := by
  refine Rf.of rfl fun hsc => ?_
  have hlt := hsc.box _ _ hb
  refine acalls_of te_ok [] Tryz.func65 (c := _) rfl (Nat.le_of_ble_eq_true rfl) ?_
  simp only [aws, eq_self, reduceIte, Nat.reduceLT, Tryz.ntmps65, Tryz.results65]
  refine rf_call ⟨Tryz.f55, Tryz.func55, rfl, by kernel_rfl⟩ (refcount_rf s hsl o hst hb) ?_
  unfold fStr
  have hm := fNum_lt o
  have hst2 := (fNum_suf o).trans hst
  generalize (fNum o).1 = m at hm ⊢
  generalize (fNum o).2 = o2 at hst2 ⊢
  obtain ⟨l, bad⟩ := o2
  obtain ⟨hl1, hl2⟩ := suf_at hst2
  simp only at hl1 hl2
  simp only [aws, eq_self, reduceIte, Nat.reduceLT]
  refine acode_draw_chain te_ok mixed [] (by kernel_rfl) ?_
  have hws : IntKind.i64.wrap ((s.length : Int) - ((s.length - l.length : Nat) : Int)) = ((l.length : Nat) : Int) := by rw [wrap_i64 (by omega) (by omega)]; omega
  cases bad with
  | true =>
    simp only [aws, eq_self, reduceIte, reduceCtorEq, Nat.reduceAdd, Nat.reduceLT, Nat.reduceLeDiff, Nat.reduceEqDiff, storeB, ares1, teset, rc]
    exact ⟨((ExtX.refl hlt).own _).own _, set_at _ _ _, _, rfl, .refl _⟩
  | false =>
    simp only [aws, eq_self, reduceIte, reduceCtorEq, Nat.reduceAdd, Nat.reduceLT, Nat.reduceEqDiff, acmpnil, teset, rc, bS_size, hws]
    cases hc : decide ((m : Int) > ((l.length : Nat) : Int)) with
    | true =>
      simp only [decide_eq_true_eq] at hc
      have hgt : ¬ m ≤ l.length := by omega
      simp only [aws, eq_self, reduceIte, reduceCtorEq, Nat.reduceAdd, Nat.reduceLT, Nat.reduceLeDiff, Nat.reduceEqDiff, storeB, ares1, teset]
      rw [show fStrL m (l, false) = (⟨#[]⟩, (l, true)) from if_neg hgt]
      exact ⟨((ExtX.refl hlt).own _).own _, set_at _ _ _, _, rfl, .refl _⟩
    | false =>
      simp only [decide_eq_false_iff_not] at hc
      have hle : m ≤ l.length := by omega
      have hwa : IntKind.i64.wrap (((s.length - l.length : Nat) : Int) + (m : Int)) = ((s.length - l.length + m : Nat) : Int) := by rw [wrap_i64 (by omega) (by omega)]; omega
      have hlo : s.length - l.length ≤ s.length - l.length + m := by omega
      have hhi : s.length - l.length + m ≤ s.length := by omega
      have hsub : s.length - l.length + m - (s.length - l.length) = m := by omega
      rw [show fStrL m (l, false) = (bS (l.take m), (l.drop m, false)) from if_pos hle]
      simp only [aws]
      refine acode_draw_chain te_ok mixed [] (by kernel_rfl) ?_
      simp only [aws, eq_self, reduceIte, reduceCtorEq, Nat.reduceAdd, Nat.reduceLT, Nat.reduceLeDiff, Nat.reduceEqDiff, acmpnil, storeB, ares1, teset, hwa, Int.natCast_nonneg, Int.toNat_natCast, bS_size, hlo, hhi, bS_extract, hsub, ← hl2]
      refine ⟨((ExtX.refl hlt).own _).own _, ?_, _, rfl, .refl _⟩
      rw [set_at]
      congr 4
      rw [List.length_drop]; congr 1; omega
end Go.Proofs.YtlbhgoffiigfbaaGreat.AW
end
section
set_option linter.unusedSimpArgs false
set_option linter.unusedVariables false
namespace Go.Proofs.YtlbhgoffiigfbaaGreat.AW
open Go Go.RowKit

theorem fItems_keys0 (f : RS → V × RS) : ∀ (n : Nat) (o : RS), (fItems f false n o).2.1 = []
  | 0, _ => rfl
  | n + 1, (l, true) => rfl
  | n + 1, (l, false) => rfl
theorem fItems_step4 (f : RS → V × RS) (n : Nat) (l : List UInt8) : (fItems f false (n + 1) (l, false)).1 = (f (l, false)).1 :: (fItems f false n (f (l, false)).2).1 ∧ (fItems f false (n + 1) (l, false)).2.2 = (fItems f false n (f (l, false)).2).2.2 := ⟨rfl, rfl⟩
theorem fItems_step5 (f : RS → V × RS) (n : Nat) (l : List UInt8) : (fItems f true (n + 1) (l, false)).1 = (f (fStr (l, false)).2).1 :: (fItems f true n (f (fStr (l, false)).2).2).1 ∧ (fItems f true (n + 1) (l, false)).2.1 = (fStr (l, false)).1 :: (fItems f true n (f (fStr (l, false)).2).2).2.1 ∧ (fItems f true (n + 1) (l, false)).2.2 = (fItems f true n (f (fStr (l, false)).2).2).2.2 := ⟨rfl, rfl, rfl⟩
theorem skR_app3 (P : Program) (L : Option LK) (h : AH) (v : AV) (h' h0 : AH) (n sz : Nat) (cells : List AV) (k : AV → AH → Prop) : skR P L 1 h (.app v h' h0 n sz cells) k = (boxEq L h h' ∧ k v h') := rfl
set_option maxHeartbeats 16000000 in
theorem refval_rf (s : List UInt8) (hsl : s.length < 1000000000000) : ∀ (L : Nat) (o : RS) {h : AH} {b : Nat}, L ≤ 100 → o.1 <:+ s → h.box b = some (rc s o) → ACalls Tryz.prog 56 [.ptr b 0, .int .i64 (L : Int)] h (RfPost s h b (inj (fVal L o).1) (fVal L o).2) := by
  intro L
  induction L with
  | zero =>
    intro o h b _ hst hb
    refine Rf.of (inj_under _) fun hsc => ?_
    have hlt := hsc.box _ _ hb
    have hn1 : (h.nb = b) = False := by rw [eq_iff_iff]; exact ⟨fun e => by omega, False.elim⟩
    have hn2 : (h.nb + 1 = b) = False := by rw [eq_iff_iff]; exact ⟨fun e => by omega, False.elim⟩
    have hn3 : (b = h.nb) = False := by rw [eq_iff_iff]; exact ⟨fun e => by omega, False.elim⟩
    have hn4 : (b = h.nb + 1) = False := by rw [eq_iff_iff]; exact ⟨fun e => by omega, False.elim⟩
    have hb1 : (h.new [.int .i64 0, .int .i64 0, .str ⟨#[]⟩, .sl .full 0 [], .sl .full 0 []]).box b = some (rc s o) := by
      rw [new_box, if_neg (by omega)]; exact hb
    refine acalls_of te_ok [] Tryz.func56 (c := _) rfl (Nat.le_of_ble_eq_true rfl) ?_
    simp only [aws, eq_self, reduceIte, Nat.reduceLT, teset, Tryz.ntmps56, Tryz.results56, Int.natCast_zero]
    refine rf_call ⟨Tryz.f64, Tryz.func64, rfl, by kernel_rfl⟩ (refbyte_rf s hsl o hst hb1) ?_
    simp only [aws, eq_self, reduceIte, reduceCtorEq, Nat.reduceAdd, Nat.reduceLT, Nat.reduceLeDiff, Nat.reduceEqDiff, Int.reduceLT, acmpnil, storeB, ares1, afill, teset, rc, hn1, hn2, hn3, hn4]
    exact ⟨by (repeat (first | assumption | exact ExtX.refl hlt | refine ExtX.own ?_ _ | refine ExtX.new ?_ _ | refine ExtX.newTok ?_ | refine ExtX.setTok ?_ (by omega) _ | refine ExtX.set ?_ (by first | omega | (simp only [new_nb, set_nb, kill_nb, newTok_nb, setTok_nb]; omega)) _)), by simp only [aws, eq_self, reduceIte, hn3, hn4]; rfl, _, rfl, wk_val wk_nil5 wk_nil1⟩
  | succ L ih =>
    intro o h b hL hst hb
    refine Rf.of (inj_under _) fun hsc => ?_
    have hlt := hsc.box _ _ hb
    have hn1 : (h.nb = b) = False := by rw [eq_iff_iff]; exact ⟨fun e => by omega, False.elim⟩
    have hn2 : (h.nb + 1 = b) = False := by rw [eq_iff_iff]; exact ⟨fun e => by omega, False.elim⟩
    have hn3 : (b = h.nb) = False := by rw [eq_iff_iff]; exact ⟨fun e => by omega, False.elim⟩
    have hn4 : (b = h.nb + 1) = False := by rw [eq_iff_iff]; exact ⟨fun e => by omega, False.elim⟩
    have hb1 : (h.new [.int .i64 0, .int .i64 0, .str ⟨#[]⟩, .sl .full 0 [], .sl .full 0 []]).box b = some (rc s o) := by
      rw [new_box, if_neg (by omega)]; exact hb
    have hlev : decide (((L + 1 : Nat) : Int) < 1) = false := by simp only [decide_eq_false_iff_not]; omega
    refine acalls_of te_ok [] Tryz.func56 (c := _) rfl (Nat.le_of_ble_eq_true rfl) ?_
    simp only [aws, eq_self, reduceIte, Nat.reduceLT, teset, Tryz.ntmps56, Tryz.results56]
    refine rf_call ⟨Tryz.f64, Tryz.func64, rfl, by kernel_rfl⟩ (refbyte_rf s hsl o hst hb1) ?_
    have hst1 := (fByte_suf o).trans hst
    rcases hq : fByte o with ⟨k, l, _ | _⟩
    · rw [hq] at hst1
      simp only at hst1
      obtain ⟨hk, hf⟩ : k < 256 ∧ fVal (L + 1) o = fTail (fVal L) k (l, false) := by
        obtain ⟨l', bad⟩ := o
        cases bad with
        | true => rw [fByte_bad] at hq; cases hq
        | false => cases l' with
          | nil => cases hq
          | cons c l' => cases hq; exact ⟨c.toNat_lt, rfl⟩
      rw [hf]
      unfold fTail
      have hll : l.length ≤ s.length := hst1.length_le
      simp only [aws, eq_self, reduceIte, reduceCtorEq, Nat.reduceAdd, Nat.reduceLT, Nat.reduceLeDiff, Nat.reduceEqDiff, acmpnil, storeB, afill, teset, rc, hlev, hn2, hn3, hn4]
      obtain ⟨H, hH⟩ : ∃ H, H = (((h.new [.int .i64 0, .int .i64 0, .str ⟨#[]⟩, .sl .full 0 [], .sl .full 0 []]).set b [.str (bS s), .int .i64 ((s.length - l.length : Nat) : Int), .bool false]).new [.int .i64 0, .int .i64 0, .str ⟨#[]⟩, .sl .full 0 [], .sl .full 0 []]).set (h.nb + 1) [.int .i64 ((k : Nat) : Int), .int .i64 0, .str ⟨#[]⟩, .sl .full 0 [], .sl .full 0 []] := ⟨_, rfl⟩
      have hz : (h.nb = h.nb + 1) = False := by rw [eq_iff_iff]; exact ⟨fun e => by omega, False.elim⟩
      have HX : ExtX h b H := by rw [hH]; (repeat (first | assumption | exact ExtX.refl hlt | refine ExtX.own ?_ _ | refine ExtX.new ?_ _ | refine ExtX.newTok ?_ | refine ExtX.setTok ?_ (by omega) _ | refine ExtX.set ?_ (by first | omega | (simp only [new_nb, set_nb, kill_nb, newTok_nb, setTok_nb]; omega)) _))
      have Hnb : h.nb + 1 < H.nb := by rw [hH]; simp only [new_nb, set_nb]; omega
      have Hb' : H.box b = some [.str (bS s), .int .i64 ((s.length - l.length : Nat) : Int), .bool false] := by rw [hH]; simp only [aws, eq_self, reduceIte, hn3, hn4]
      have Hb : H.box b = some (rc s (l, false)) := Hb'
      have H4 : H.box h.nb = some [.int .i64 0, .int .i64 0, .str ⟨#[]⟩, .sl .full 0 [], .sl .full 0 []] := by rw [hH]; simp only [aws, eq_self, reduceIte, hn1, hz]
      have H5 : H.box (h.nb + 1) = some [.int .i64 ((k : Nat) : Int), .int .i64 0, .str ⟨#[]⟩, .sl .full 0 [], .sl .full 0 []] := by rw [hH]; simp only [aws, eq_self, reduceIte, hn2]
      rw [← hH]
      clear hH hb1 hb hq hf
      by_cases h1 : k = 1
      · have q1 : ((k : Nat) : Int) = 1 := by rw [h1]; rfl
        rw [if_pos h1]
        simp only [aws, eq_self, reduceIte, reduceCtorEq, Nat.reduceLT, Nat.reduceEqDiff, q1]
        refine rf_call ⟨Tryz.f64, Tryz.func64, rfl, by kernel_rfl⟩ (refbyte_rf s hsl (l, false) hst1 Hb) ?_
        simp only [aws, eq_self, reduceIte, Nat.reduceAdd, Nat.reduceLT, Nat.reduceLeDiff, Nat.reduceEqDiff, storeB, ares1, teset, q1, H4, H5, hn1, hn2, hz]
        exact ⟨by (repeat (first | assumption | exact ExtX.refl hlt | refine ExtX.own ?_ _ | refine ExtX.new ?_ _ | refine ExtX.newTok ?_ | refine ExtX.setTok ?_ (by omega) _ | refine ExtX.set ?_ (by first | omega | (simp only [new_nb, set_nb, kill_nb, newTok_nb, setTok_nb]; omega)) _)), by simp only [aws, eq_self, reduceIte, rc, hn3, hn4], _, rfl, wk_val wk_nil5 wk_nil1⟩
      rw [if_neg h1]
      have q1 : (((k : Nat) : Int) == 1) = false := by rw [beq_eq_false_iff_ne]; omega
      by_cases h2 : k = 2
      · have q2 : ((k : Nat) : Int) = 2 := by rw [h2]; rfl
        rw [if_pos h2]
        simp only [aws, eq_self, reduceIte, reduceCtorEq, Nat.reduceLT, Nat.reduceEqDiff, Int.reduceBEq, acmpnil, q2]
        refine rf_call ⟨Tryz.f57, Tryz.func57, rfl, by kernel_rfl⟩ (refint_rf s hsl (l, false) hst1 Hb) ?_
        simp only [aws, eq_self, reduceIte, Nat.reduceAdd, Nat.reduceLT, Nat.reduceLeDiff, Nat.reduceEqDiff, storeB, ares1, teset, q2, H4, H5, hn1, hn2, hz]
        exact ⟨by (repeat (first | assumption | exact ExtX.refl hlt | refine ExtX.own ?_ _ | refine ExtX.new ?_ _ | refine ExtX.newTok ?_ | refine ExtX.setTok ?_ (by omega) _ | refine ExtX.set ?_ (by first | omega | (simp only [new_nb, set_nb, kill_nb, newTok_nb, setTok_nb]; omega)) _)), by simp only [aws, eq_self, reduceIte, rc, hn3, hn4], _, rfl, wk_val wk_nil5 wk_nil1⟩
      rw [if_neg h2]
      have q2 : (((k : Nat) : Int) == 2) = false := by rw [beq_eq_false_iff_ne]; omega
      by_cases h3 : k = 3
      · have q3 : ((k : Nat) : Int) = 3 := by rw [h3]; rfl
        rw [if_pos h3]
        simp only [aws, eq_self, reduceIte, reduceCtorEq, Nat.reduceLT, Nat.reduceEqDiff, Int.reduceBEq, acmpnil, q3]
        refine rf_call ⟨Tryz.f65, Tryz.func65, rfl, by kernel_rfl⟩ (refstr_rf s hsl (l, false) hst1 Hb) ?_
        simp only [aws, eq_self, reduceIte, Nat.reduceAdd, Nat.reduceLT, Nat.reduceLeDiff, Nat.reduceEqDiff, storeB, ares1, teset, q3, H4, H5, hn1, hn2, hz]
        exact ⟨by (repeat (first | assumption | exact ExtX.refl hlt | refine ExtX.own ?_ _ | refine ExtX.new ?_ _ | refine ExtX.newTok ?_ | refine ExtX.setTok ?_ (by omega) _ | refine ExtX.set ?_ (by first | omega | (simp only [new_nb, set_nb, kill_nb, newTok_nb, setTok_nb]; omega)) _)), by simp only [aws, eq_self, reduceIte, rc, hn3, hn4], _, rfl, wk_val wk_nil5 wk_nil1⟩
      rw [if_neg h3]
      have q3 : (((k : Nat) : Int) == 3) = false := by rw [beq_eq_false_iff_ne]; omega
      by_cases h45 : k = 4 ∨ k = 5
      · rw [if_pos h45]
        have hnl := fun r (e : (fNum (l, false)).2 = (r, false)) => fNum_len e
        have hnlt := fNum_lt (l, false)
        have hst2 := (fNum_suf (l, false)).trans hst1
        have hcr := refcount_rf s hsl (l, false) hst1 Hb
        generalize (fNum (l, false)).1 = n at hnlt hcr ⊢
        generalize (fNum (l, false)).2 = o2 at hst2 hnl hcr ⊢
        by_cases h4 : k = 4
        · have q4 : (((k : Nat) : Int) == 4) = true := by rw [h4]; rfl
          have q5 : (((k : Nat) : Int) == 5) = false := by rw [h4]; rfl
          have hk5 : (k == 5) = false := by rw [h4]; rfl
          rw [hk5]
          simp only [aws, eq_self, reduceIte, reduceCtorEq, Nat.reduceLT, Nat.reduceEqDiff, acmpnil, q1, q2, q3, q4]
          refine rf_call ⟨Tryz.f55, Tryz.func55, rfl, by kernel_rfl⟩ hcr ?_
          simp only [aws, eq_self, reduceIte, Nat.reduceLT, Nat.reduceEqDiff]
          refine ⟨fun nn s' h' => ∃ (j : Nat) (aX : AV) (xs : List V) (o' : RS), s' 0 = .ptr b 0 ∧ s' 1 = .int .i64 ((L + 1 : Nat) : Int) ∧ s' 4 = .ptr h.nb 0 ∧ s' 5 = .ptr (h.nb + 1) 0 ∧ s' 6 = .int .i64 n ∧ s' 7 = .int .i64 j ∧ nn + j = n ∧ ExtX h b h' ∧ h.nb + 1 < h'.nb ∧ o'.1 <:+ s ∧ h'.box b = some (rc s o') ∧ h'.box h.nb = some [.int .i64 0, .int .i64 0, .str ⟨#[]⟩, .sl .full 0 [], .sl .full 0 []] ∧ h'.box (h.nb + 1) = some [.int .i64 ((k : Nat) : Int), .int .i64 0, .str ⟨#[]⟩, aX, .sl .full 0 []] ∧ Own5 h' h.nt aX xs ∧ (∀ l', o' = (l', false) → xs.length + l'.length ≤ l.length) ∧ (fItems (fVal L) false n o2).1 = xs ++ (fItems (fVal L) false nn o').1 ∧ (fItems (fVal L) false n o2).2.2 = (fItems (fVal L) false nn o').2.2, ⟨n, 0, .sl .full 0 [], [], o2, ?_⟩, ?_⟩
          · simp only [aws, eq_self, reduceIte, reduceCtorEq, Nat.reduceEqDiff, Int.natCast_zero, H4, H5, hn1, hn2]
            exact ⟨by (repeat (first | assumption | exact ExtX.refl hlt | refine ExtX.own ?_ _ | refine ExtX.new ?_ _ | refine ExtX.newTok ?_ | refine ExtX.setTok ?_ (by omega) _ | refine ExtX.set ?_ (by first | omega | (simp only [new_nb, set_nb, kill_nb, newTok_nb, setTok_nb]; omega)) _)), Hnb, hst2, .inl ⟨rfl, rfl⟩, fun l' e => Nat.le_of_lt (hnl l' e)⟩
          · rintro nn s' h' ⟨j, aX, xs, o', e0, e1, e4, e5, e6, e7, hnn, cX, cn, hst', cb, c4, c5, ho, hlen, hit1, hit2⟩
            have hz2 : (h.nb + 1 = h.nb) = False := by rw [eq_iff_iff]; exact ⟨fun e => by omega, False.elim⟩
            simp only [aws, eq_self, implies_true, imp_self, reduceIte, reduceCtorEq, Nat.reduceLT, Nat.reduceEqDiff, acmpnil, teset, e0, e6, e7]
            cases hc : decide ((j : Int) < (n : Int)) with
            | false =>
              simp only [decide_eq_false_iff_not] at hc
              obtain rfl : nn = 0 := by omega
              rw [show fItems (fVal L) false 0 o' = ([], [], o') from rfl] at hit1 hit2
              simp only [List.append_nil] at hit1 hit2
              rw [fItems_keys0, hit1, hit2]
              have how := ho.wk
              rcases ho with ⟨rfl, rfl⟩ | ⟨t, G, rfl, htk, htn⟩
              · simp only [aws, eq_self, reduceIte, Nat.reduceAdd, Nat.reduceLT, Nat.reduceLeDiff, Nat.reduceEqDiff, storeB, ares1, teset, e4, e5, c4, c5]
                exact ⟨by (repeat (first | assumption | exact ExtX.refl hlt | refine ExtX.own ?_ _ | refine ExtX.new ?_ _ | refine ExtX.newTok ?_ | refine ExtX.setTok ?_ (by omega) _ | refine ExtX.set ?_ (by first | omega | (simp only [new_nb, set_nb, kill_nb, newTok_nb, setTok_nb]; omega)) _)), by simp only [aws, eq_self, reduceIte, cb, hn3], _, rfl, wk_val how wk_nil1⟩
              · simp only [aws, eq_self, reduceIte, Nat.reduceAdd, Nat.reduceLT, Nat.reduceLeDiff, Nat.reduceEqDiff, storeB, ares1, teset, e4, e5, c4, c5]
                exact ⟨by (repeat (first | assumption | exact ExtX.refl hlt | refine ExtX.own ?_ _ | refine ExtX.new ?_ _ | refine ExtX.newTok ?_ | refine ExtX.setTok ?_ (by omega) _ | refine ExtX.set ?_ (by first | omega | (simp only [new_nb, set_nb, kill_nb, newTok_nb, setTok_nb]; omega)) _)), by simp only [aws, eq_self, reduceIte, cb, hn3], _, rfl, wk_val how wk_nil1⟩
            | true =>
              simp only [decide_eq_true_eq] at hc
              obtain ⟨n', rfl⟩ : ∃ n', nn = n' + 1 := ⟨nn - 1, by omega⟩
              obtain ⟨l', bad⟩ := o'
              cases bad with
              | true =>
                have cb' : h'.box b = some [.str (bS s), .int .i64 ((s.length - l'.length : Nat) : Int), .bool true] := cb
                rw [fItems_nil] at hit1 hit2
                simp only [List.append_nil] at hit1 hit2
                rw [fItems_keys0, hit1, hit2]
                have how := ho.wk
                rcases ho with ⟨rfl, rfl⟩ | ⟨t, G, rfl, htk, htn⟩
                · simp only [aws, eq_self, implies_true, reduceIte, reduceCtorEq, Nat.reduceAdd, Nat.reduceLT, Nat.reduceLeDiff, Nat.reduceEqDiff, storeB, ares1, teset, e0, e4, e5, c4, c5, cb']
                  exact ⟨by (repeat (first | assumption | exact ExtX.refl hlt | refine ExtX.own ?_ _ | refine ExtX.new ?_ _ | refine ExtX.newTok ?_ | refine ExtX.setTok ?_ (by omega) _ | refine ExtX.set ?_ (by first | omega | (simp only [new_nb, set_nb, kill_nb, newTok_nb, setTok_nb]; omega)) _)), by simp only [aws, eq_self, reduceIte, cb, hn3], _, rfl, wk_val how wk_nil1⟩
                · simp only [aws, eq_self, implies_true, reduceIte, reduceCtorEq, Nat.reduceAdd, Nat.reduceLT, Nat.reduceLeDiff, Nat.reduceEqDiff, storeB, ares1, teset, e0, e4, e5, c4, c5, cb']
                  exact ⟨by (repeat (first | assumption | exact ExtX.refl hlt | refine ExtX.own ?_ _ | refine ExtX.new ?_ _ | refine ExtX.newTok ?_ | refine ExtX.setTok ?_ (by omega) _ | refine ExtX.set ?_ (by first | omega | (simp only [new_nb, set_nb, kill_nb, newTok_nb, setTok_nb]; omega)) _)), by simp only [aws, eq_self, reduceIte, cb, hn3], _, rfl, wk_val how wk_nil1⟩
              | false =>
                have cb' : h'.box b = some [.str (bS s), .int .i64 ((s.length - l'.length : Nat) : Int), .bool false] := cb
                have hl' := hlen l' rfl
                have hwL : IntKind.i64.wrap (((L + 1 : Nat) : Int) - 1) = ((L : Nat) : Int) := by rw [wrap_i64 (by omega) (by omega)]; omega
                rw [(fItems_step4 _ _ _).1] at hit1
                rw [(fItems_step4 _ _ _).2] at hit2
                have hvr := ih (l', false) (h := h') (b := b) (by omega) hst' cb
                have hvs := (fVal_suf L (l', false)).trans hst'
                have hvl := fun r (e : (fVal L (l', false)).2 = (r, false)) => fVal_len e
                generalize hx : (fVal L (l', false)).1 = x at hvr hit1
                generalize hoo : (fVal L (l', false)).2 = o3 at hvr hvs hvl hit1 hit2
                have hlen3 : ∀ l3, o3 = (l3, false) → (xs ++ [x]).length + l3.length ≤ l.length := by
                  intro l3 e
                  obtain ⟨l4, h5, h6⟩ := hvl l3 e
                  cases h5
                  rw [List.length_append, List.length_singleton]; omega
                simp only [aws, eq_self, implies_true, reduceIte, reduceCtorEq, Nat.reduceLT, Nat.reduceEqDiff, acmpnil, teset, e0, e5, c5, cb', q5]
                refine acode_draw_chainL (some (.but b)) te_ok mixed [5] (by kernel_rfl) ?_
                rcases ho with ⟨rfl, rfl⟩ | ⟨t, G, rfl, htk, htn⟩
                · simp only [aws, ne_eq, eq_self, implies_true, imp_self, reduceIte, reduceCtorEq, Nat.reduceAdd, Nat.reduceLT, Nat.reduceLeDiff, Nat.reduceEqDiff, Nat.reduceMul, acmpnil, appBox, storeB, appendTo, teset, e0, e1, e4, e5, e6, e7, c5, hn2, hwL, lowRd_but, range1]
                  refine skR_rf ⟨Tryz.f56, Tryz.func56, rfl, by kernel_rfl⟩ hvr ?_
                  simp only [aws, ne_eq, eq_self, implies_true, reduceIte, reduceCtorEq, Nat.reduceAdd, Nat.reduceLeDiff, Nat.reduceMul, c4, c5, cb', hn1, hn2, hn4, hz, boxEq_but, inj_len, inj_one, skR_app3]
                  exact ⟨n', by omega, j + 1, _, [] ++ [x], o3, by rw [wrap_succ (by omega)], by omega, by (repeat (first | assumption | exact ExtX.refl hlt | refine ExtX.own ?_ _ | refine ExtX.new ?_ _ | refine ExtX.newTok ?_ | refine ExtX.setTok ?_ (by omega) _ | refine ExtX.set ?_ (by first | omega | (simp only [new_nb, set_nb, kill_nb, newTok_nb, setTok_nb]; omega)) _)), cn, hvs, rfl, rfl, .inr ⟨h'.nt, 0, rfl, (by show (AH.newTok _).tok _ = _; exact newTok_at rfl), cX.nt⟩, hlen3, hit1, hit2⟩
                · have hb0 : (xs.length + 1) * 80 ≤ 140737488355328 := by omega
                  simp only [aws, ne_eq, eq_self, implies_true, imp_self, reduceIte, reduceCtorEq, Nat.reduceAdd, Nat.reduceLT, Nat.reduceLeDiff, Nat.reduceEqDiff, Nat.reduceMul, acmpnil, appBox, storeB, appendTo, teset, e0, e1, e4, e5, e6, e7, c5, hn2, hwL, lowRd_but, range1, List.length_map, List.length_map]
                  refine skR_rf ⟨Tryz.f56, Tryz.func56, rfl, by kernel_rfl⟩ hvr ?_
                  simp only [aws, ne_eq, eq_self, implies_true, reduceIte, reduceCtorEq, Nat.reduceAdd, Nat.reduceLeDiff, c4, c5, cb', hn1, hn2, hn4, hz, boxEq_but, inj_len, inj_one, htk, hb0]
                  exact ⟨n', by omega, j + 1, _, xs ++ [x], o3, by rw [wrap_succ (by omega)], by omega, by (repeat (first | assumption | exact ExtX.refl hlt | refine ExtX.own ?_ _ | refine ExtX.new ?_ _ | refine ExtX.newTok ?_ | refine ExtX.setTok ?_ (by omega) _ | refine ExtX.set ?_ (by first | omega | (simp only [new_nb, set_nb, kill_nb, newTok_nb, setTok_nb]; omega)) _)), cn, hvs, rfl, rfl, .inr ⟨t, G + 1, by simp, by show (AH.setTok _ t (G + 1)).tok t = _; rw [setTok_tok, if_pos rfl], htn⟩, hlen3, by rw [hit1, List.append_assoc]; rfl, hit2⟩
        · have h5 : k = 5 := h45.resolve_left h4
          have q4 : (((k : Nat) : Int) == 4) = false := by rw [h5]; rfl
          have q5 : (((k : Nat) : Int) == 5) = true := by rw [h5]; rfl
          have hk5 : (k == 5) = true := by rw [h5]; rfl
          rw [hk5]
          simp only [aws, eq_self, reduceIte, reduceCtorEq, Nat.reduceLT, Nat.reduceEqDiff, acmpnil, q1, q2, q3, q4, q5]
          refine rf_call ⟨Tryz.f55, Tryz.func55, rfl, by kernel_rfl⟩ hcr ?_
          simp only [aws, eq_self, reduceIte, Nat.reduceLT, Nat.reduceEqDiff]
          refine ⟨fun nn s' h' => ∃ (j : Nat) (aX aK : AV) (xs : List V) (ks : List ByteArray) (o' : RS), s' 0 = .ptr b 0 ∧ s' 1 = .int .i64 ((L + 1 : Nat) : Int) ∧ s' 4 = .ptr h.nb 0 ∧ s' 5 = .ptr (h.nb + 1) 0 ∧ s' 6 = .int .i64 n ∧ s' 7 = .int .i64 j ∧ nn + j = n ∧ ExtX h b h' ∧ h.nb + 1 < h'.nb ∧ o'.1 <:+ s ∧ h'.box b = some (rc s o') ∧ h'.box h.nb = some [.int .i64 0, .int .i64 0, .str ⟨#[]⟩, .sl .full 0 [], .sl .full 0 []] ∧ h'.box (h.nb + 1) = some [.int .i64 ((k : Nat) : Int), .int .i64 0, .str ⟨#[]⟩, aX, aK] ∧ OwnO h' h.nt aX aK xs ks ∧ ks.length = xs.length ∧ (∀ l', o' = (l', false) → xs.length + l'.length ≤ l.length) ∧ (fItems (fVal L) true n o2).1 = xs ++ (fItems (fVal L) true nn o').1 ∧ (fItems (fVal L) true n o2).2.1 = ks ++ (fItems (fVal L) true nn o').2.1 ∧ (fItems (fVal L) true n o2).2.2 = (fItems (fVal L) true nn o').2.2, ⟨n, 0, .sl .full 0 [], .sl .full 0 [], [], [], o2, ?_⟩, ?_⟩
          · simp only [aws, eq_self, reduceIte, reduceCtorEq, Nat.reduceEqDiff, Int.natCast_zero, H4, H5, hn1, hn2]
            exact ⟨by (repeat (first | assumption | exact ExtX.refl hlt | refine ExtX.own ?_ _ | refine ExtX.new ?_ _ | refine ExtX.newTok ?_ | refine ExtX.setTok ?_ (by omega) _ | refine ExtX.set ?_ (by first | omega | (simp only [new_nb, set_nb, kill_nb, newTok_nb, setTok_nb]; omega)) _)), Hnb, hst2, .inl ⟨rfl, rfl, rfl, rfl⟩, fun l' e => Nat.le_of_lt (hnl l' e)⟩
          · rintro nn s' h' ⟨j, aX, aK, xs, ks, o', e0, e1, e4, e5, e6, e7, hnn, cX, cn, hst', cb, c4, c5, ho, hkx, hlen, hit1, hit2, hit3⟩
            have hz2 : (h.nb + 1 = h.nb) = False := by rw [eq_iff_iff]; exact ⟨fun e => by omega, False.elim⟩
            simp only [aws, eq_self, implies_true, imp_self, reduceIte, reduceCtorEq, Nat.reduceLT, Nat.reduceEqDiff, acmpnil, teset, e0, e6, e7]
            cases hc : decide ((j : Int) < (n : Int)) with
            | false =>
              simp only [decide_eq_false_iff_not] at hc
              obtain rfl : nn = 0 := by omega
              rw [show fItems (fVal L) true 0 o' = ([], [], o') from rfl] at hit1 hit2 hit3
              simp only [List.append_nil] at hit1 hit2 hit3
              rw [hit1, hit2, hit3]
              obtain ⟨how1, how2⟩ := ho.wk
              rcases ho with ⟨rfl, rfl, rfl, rfl⟩ | ⟨t, G, t', G', rfl, rfl, htk, htk', htn, htn', htt⟩
              · simp only [aws, eq_self, reduceIte, Nat.reduceAdd, Nat.reduceLT, Nat.reduceLeDiff, Nat.reduceEqDiff, storeB, ares1, teset, e4, e5, c4, c5]
                exact ⟨by (repeat (first | assumption | exact ExtX.refl hlt | refine ExtX.own ?_ _ | refine ExtX.new ?_ _ | refine ExtX.newTok ?_ | refine ExtX.setTok ?_ (by omega) _ | refine ExtX.set ?_ (by first | omega | (simp only [new_nb, set_nb, kill_nb, newTok_nb, setTok_nb]; omega)) _)), by simp only [aws, eq_self, reduceIte, cb, hn3], _, rfl, wk_val how1 how2⟩
              · simp only [aws, eq_self, reduceIte, Nat.reduceAdd, Nat.reduceLT, Nat.reduceLeDiff, Nat.reduceEqDiff, storeB, ares1, teset, e4, e5, c4, c5]
                exact ⟨by (repeat (first | assumption | exact ExtX.refl hlt | refine ExtX.own ?_ _ | refine ExtX.new ?_ _ | refine ExtX.newTok ?_ | refine ExtX.setTok ?_ (by omega) _ | refine ExtX.set ?_ (by first | omega | (simp only [new_nb, set_nb, kill_nb, newTok_nb, setTok_nb]; omega)) _)), by simp only [aws, eq_self, reduceIte, cb, hn3], _, rfl, wk_val how1 how2⟩
            | true =>
              simp only [decide_eq_true_eq] at hc
              obtain ⟨n', rfl⟩ : ∃ n', nn = n' + 1 := ⟨nn - 1, by omega⟩
              obtain ⟨l', bad⟩ := o'
              cases bad with
              | true =>
                have cb' : h'.box b = some [.str (bS s), .int .i64 ((s.length - l'.length : Nat) : Int), .bool true] := cb
                rw [fItems_nil] at hit1 hit2 hit3
                simp only [List.append_nil] at hit1 hit2 hit3
                rw [hit1, hit2, hit3]
                obtain ⟨how1, how2⟩ := ho.wk
                rcases ho with ⟨rfl, rfl, rfl, rfl⟩ | ⟨t, G, t', G', rfl, rfl, htk, htk', htn, htn', htt⟩
                · simp only [aws, eq_self, implies_true, reduceIte, reduceCtorEq, Nat.reduceAdd, Nat.reduceLT, Nat.reduceLeDiff, Nat.reduceEqDiff, storeB, ares1, teset, e0, e4, e5, c4, c5, cb']
                  exact ⟨by (repeat (first | assumption | exact ExtX.refl hlt | refine ExtX.own ?_ _ | refine ExtX.new ?_ _ | refine ExtX.newTok ?_ | refine ExtX.setTok ?_ (by omega) _ | refine ExtX.set ?_ (by first | omega | (simp only [new_nb, set_nb, kill_nb, newTok_nb, setTok_nb]; omega)) _)), by simp only [aws, eq_self, reduceIte, cb, hn3], _, rfl, wk_val how1 how2⟩
                · simp only [aws, eq_self, implies_true, reduceIte, reduceCtorEq, Nat.reduceAdd, Nat.reduceLT, Nat.reduceLeDiff, Nat.reduceEqDiff, storeB, ares1, teset, e0, e4, e5, c4, c5, cb']
                  exact ⟨by (repeat (first | assumption | exact ExtX.refl hlt | refine ExtX.own ?_ _ | refine ExtX.new ?_ _ | refine ExtX.newTok ?_ | refine ExtX.setTok ?_ (by omega) _ | refine ExtX.set ?_ (by first | omega | (simp only [new_nb, set_nb, kill_nb, newTok_nb, setTok_nb]; omega)) _)), by simp only [aws, eq_self, reduceIte, cb, hn3], _, rfl, wk_val how1 how2⟩
              | false =>
                have cb' : h'.box b = some [.str (bS s), .int .i64 ((s.length - l'.length : Nat) : Int), .bool false] := cb
                have hl' := hlen l' rfl
                have hwL : IntKind.i64.wrap (((L + 1 : Nat) : Int) - 1) = ((L : Nat) : Int) := by rw [wrap_i64 (by omega) (by omega)]; omega
                rw [(fItems_step5 _ _ _).1] at hit1
                rw [(fItems_step5 _ _ _).2.1] at hit2
                rw [(fItems_step5 _ _ _).2.2] at hit3
                have htr := refstr_rf s hsl (l', false) hst' cb
                have hts := (fStr_suf (l', false)).trans hst'
                have htl := fun r (e : (fStr (l', false)).2 = (r, false)) => fStr_len e
                generalize hkk : (fStr (l', false)).1 = key at htr hit2
                generalize hoo : (fStr (l', false)).2 = o3 at htr hts htl hit1 hit2 hit3
                have hvr : ∀ X : AH, X.box b = some (rc s o3) → ACalls Tryz.prog 56 [.ptr b 0, .int .i64 (L : Int)] X (RfPost s X b (inj (fVal L o3).1) (fVal L o3).2) := fun X hX => ih o3 (by omega) hts hX
                have hvs := (fVal_suf L o3).trans hts
                have hvl := fun r (e : (fVal L o3).2 = (r, false)) => fVal_len e
                generalize hx : (fVal L o3).1 = x at hvr hit1
                generalize hoo2 : (fVal L o3).2 = o4 at hvr hvs hvl hit1 hit2 hit3
                have hlen3 : ∀ l3, o4 = (l3, false) → (xs ++ [x]).length + l3.length ≤ l.length := by
                  intro l3 e
                  obtain ⟨l4, h5, h6⟩ := hvl l3 e
                  have := htl l4 h5
                  rw [List.length_append, List.length_singleton]; omega
                have hkx2 : (ks ++ [key]).length = (xs ++ [x]).length := by rw [List.length_append, List.length_append, hkx]; rfl
                simp only [aws, eq_self, implies_true, reduceIte, reduceCtorEq, Nat.reduceLT, Nat.reduceEqDiff, acmpnil, teset, e0, e5, c5, cb', q5]
                refine acode_draw_chainL (some (.but b)) te_ok mixed [3] (by kernel_rfl) ?_
                rcases ho with ⟨rfl, rfl, rfl, rfl⟩ | ⟨t, G, t', G', rfl, rfl, htk, htk', htn, htn', htt⟩
                · simp only [aws, ne_eq, eq_self, reduceIte, reduceCtorEq, Nat.reduceAdd, Nat.reduceLT, Nat.reduceLeDiff, Nat.reduceEqDiff, Nat.reduceMul, appBox, storeB, appendTo, teset, e0, e5, c5, hn2, lowRd_but, range1]
                  refine skR_rf ⟨Tryz.f65, Tryz.func65, rfl, by kernel_rfl⟩ htr ?_
                  simp only [aws, ne_eq, eq_self, implies_true, reduceIte, reduceCtorEq, Nat.reduceAdd, Nat.reduceLeDiff, Nat.reduceMul, c5, hn2, boxEq_but, skR_app3]
                  refine acode_draw_chainL (some (.but b)) te_ok mixed [5] (by kernel_rfl) ?_
                  simp only [aws, ne_eq, eq_self, implies_true, imp_self, reduceIte, reduceCtorEq, Nat.reduceAdd, Nat.reduceLT, Nat.reduceLeDiff, Nat.reduceEqDiff, Nat.reduceMul, acmpnil, appBox, storeB, appendTo, teset, e0, e1, e4, e5, e6, e7, c5, hn2, hwL, lowRd_but, range1]
                  refine skR_rf ⟨Tryz.f56, Tryz.func56, rfl, by kernel_rfl⟩ (hvr _ (by simp only [aws, eq_self, reduceIte, hn4])) ?_
                  simp only [aws, ne_eq, eq_self, implies_true, reduceIte, reduceCtorEq, Nat.reduceAdd, Nat.reduceLeDiff, Nat.reduceMul, c4, c5, cb', hn1, hn2, hn4, hz, boxEq_but, inj_len, inj_one, skR_app3]
                  have hnt := cX.nt
                  exact ⟨n', by omega, j + 1, _, _, [] ++ [x], [] ++ [key], o4, by rw [wrap_succ (by omega)], by omega, by (repeat (first | assumption | exact ExtX.refl hlt | refine ExtX.own ?_ _ | refine ExtX.new ?_ _ | refine ExtX.newTok ?_ | refine ExtX.setTok ?_ (by omega) _ | refine ExtX.set ?_ (by first | omega | (simp only [new_nb, set_nb, kill_nb, newTok_nb, setTok_nb]; omega)) _)), cn, hvs, rfl, rfl, .inr ⟨h'.nt + 1, 0, h'.nt, 0, rfl, rfl, (by show (AH.newTok _).tok _ = _; exact newTok_at rfl), (by show (AH.newTok _).tok _ = _; exact (newTok_old (Nat.lt_succ_self h'.nt)).trans (newTok_tok0 (h'.set b (rc s o3)))), by omega, hnt, by omega⟩, hkx2, hlen3, by rw [hit1]; rfl, by rw [hit2]; rfl, hit3⟩
                · have m7 : (t = t') = False := by rw [eq_iff_iff]; exact ⟨htt, False.elim⟩
                  have m8 : (t' = t) = False := by rw [eq_iff_iff]; exact ⟨fun e => htt e.symm, False.elim⟩
                  have hb0 : (xs.length + 1) * 80 ≤ 140737488355328 := by omega
                  have hb1 : (ks.length + 1) * 16 ≤ 140737488355328 := by omega
                  simp only [aws, ne_eq, eq_self, reduceIte, reduceCtorEq, Nat.reduceAdd, Nat.reduceLT, Nat.reduceLeDiff, Nat.reduceEqDiff, Nat.reduceMul, appBox, storeB, appendTo, teset, e0, e5, c5, hn2, lowRd_but, range1, List.length_map, List.length_map]
                  refine skR_rf ⟨Tryz.f65, Tryz.func65, rfl, by kernel_rfl⟩ htr ?_
                  simp only [aws, ne_eq, eq_self, implies_true, reduceIte, reduceCtorEq, Nat.reduceAdd, Nat.reduceLeDiff, c5, hn2, boxEq_but, htk', hb1]
                  refine acode_draw_chainL (some (.but b)) te_ok mixed [5] (by kernel_rfl) ?_
                  simp only [aws, ne_eq, eq_self, implies_true, imp_self, reduceIte, reduceCtorEq, Nat.reduceAdd, Nat.reduceLT, Nat.reduceLeDiff, Nat.reduceEqDiff, Nat.reduceMul, acmpnil, appBox, storeB, appendTo, teset, e0, e1, e4, e5, e6, e7, c5, hn2, hwL, lowRd_but, range1, List.length_map, List.length_map]
                  refine skR_rf ⟨Tryz.f56, Tryz.func56, rfl, by kernel_rfl⟩ (hvr _ (by simp only [aws, eq_self, reduceIte, hn4])) ?_
                  simp only [aws, ne_eq, eq_self, implies_true, reduceIte, reduceCtorEq, Nat.reduceAdd, Nat.reduceLeDiff, c4, c5, cb', hn1, hn2, hn4, hz, boxEq_but, inj_len, inj_one, htk, hb0, m7]
                  exact ⟨n', by omega, j + 1, _, _, xs ++ [x], ks ++ [key], o4, by rw [wrap_succ (by omega)], by omega, by (repeat (first | assumption | exact ExtX.refl hlt | refine ExtX.own ?_ _ | refine ExtX.new ?_ _ | refine ExtX.newTok ?_ | refine ExtX.setTok ?_ (by omega) _ | refine ExtX.set ?_ (by first | omega | (simp only [new_nb, set_nb, kill_nb, newTok_nb, setTok_nb]; omega)) _)), cn, hvs, rfl, rfl, .inr ⟨t, G + 1, t', G' + 1, by simp, by simp, by show (AH.setTok _ t (G + 1)).tok t = _; rw [setTok_tok, if_pos rfl], by show (AH.setTok _ t (G + 1)).tok t' = _; rw [setTok_tok, if_neg (fun e => htt e.symm)]; show (AH.setTok _ t' (G' + 1)).tok t' = _; rw [setTok_tok, if_pos rfl], htn, htn', htt⟩, hkx2, hlen3, by rw [hit1, List.append_assoc]; rfl, by rw [hit2, List.append_assoc]; rfl, hit3⟩
      · rw [if_neg h45]
        have q4 : (((k : Nat) : Int) == 4) = false := by rw [beq_eq_false_iff_ne]; omega
        have q5 : (((k : Nat) : Int) == 5) = false := by rw [beq_eq_false_iff_ne]; omega
        simp only [aws, eq_self, reduceIte, Nat.reduceAdd, Nat.reduceLT, Nat.reduceLeDiff, Nat.reduceEqDiff, acmpnil, storeB, ares1, teset, q1, q2, q3, q4, q5, H4, H5]
        exact ⟨by (repeat (first | assumption | exact ExtX.refl hlt | refine ExtX.own ?_ _ | refine ExtX.new ?_ _ | refine ExtX.newTok ?_ | refine ExtX.setTok ?_ (by omega) _ | refine ExtX.set ?_ (by first | omega | (simp only [new_nb, set_nb, kill_nb, newTok_nb, setTok_nb]; omega)) _)), by simp only [aws, eq_self, reduceIte, rc, Hb', hn3], _, rfl, wk_val wk_nil5 wk_nil1⟩
    · have hk0 : fVal (L + 1) o = (zeroV, (l, true)) := by
        obtain ⟨l', bad⟩ := o
        cases bad with
        | true => rw [fByte_bad] at hq; cases hq; rw [fVal_bad]
        | false => cases l' with
          | nil => cases hq; rfl
          | cons c l' => cases hq
      rw [hk0]
      simp only [aws, eq_self, reduceIte, reduceCtorEq, Nat.reduceAdd, Nat.reduceLT, Nat.reduceLeDiff, Nat.reduceEqDiff, acmpnil, storeB, ares1, afill, teset, rc, hlev, hn1, hn2, hn3, hn4]
      exact ⟨by (repeat (first | assumption | exact ExtX.refl hlt | refine ExtX.own ?_ _ | refine ExtX.new ?_ _ | refine ExtX.newTok ?_ | refine ExtX.setTok ?_ (by omega) _ | refine ExtX.set ?_ (by first | omega | (simp only [new_nb, set_nb, kill_nb, newTok_nb, setTok_nb]; omega)) _)), by simp only [aws, eq_self, reduceIte, hn3, hn4]; rfl, _, rfl, wk_val wk_nil5 wk_nil1⟩
end Go.Proofs.YtlbhgoffiigfbaaGreat.AW
end
section
set_option linter.unusedSimpArgs false
set_option linter.unusedVariables false
namespace Go.Proofs.YtlbhgoffiigfbaaGreat.AW
open Go Go.RowKit

set_option maxHeartbeats 4000000 in
theorem refplain_rf (s : List UInt8) (hsl : s.length < 1000000000000) (o : RS) (hst : o.1 <:+ s) {h : AH} {b : Nat} (hb : h.box b = some (rc s o)) : ACalls Tryz.prog 54 [.ptr b 0] h (RfPost s h b (.sl .ro 5 ((fPlain o).1.map inj)) (fPlain o).2) := by
  refine Rf.of (injs_und _) fun hsc => ?_
  have hlt := hsc.box _ _ hb
  refine acalls_of te_ok [] Tryz.func54 (c := _) rfl (Nat.le_of_ble_eq_true rfl) ?_
  simp only [aws, eq_self, reduceIte, Nat.reduceLT, Tryz.ntmps54, Tryz.results54]
  refine rf_call ⟨Tryz.f55, Tryz.func55, rfl, by kernel_rfl⟩ (refcount_rf s hsl o hst hb) ?_
  unfold fPlain
  have hnlt := fNum_lt o
  have hst2 := (fNum_suf o).trans hst
  generalize (fNum o).1 = n at hnlt ⊢
  generalize (fNum o).2 = o2 at hst2 ⊢
  simp only [aws, eq_self, reduceIte, Nat.reduceLT]
  refine ⟨fun nn s' h' => ∃ (j : Nat) (aX : AV) (acc : List V) (o' : RS), s' 0 = .ptr b 0 ∧ s' 3 = aX ∧ s' 4 = .int .i64 n ∧ s' 5 = .int .i64 j ∧ nn + j = n ∧ ExtX h b h' ∧ o'.1 <:+ s ∧ h'.box b = some (rc s o') ∧ Own5 h' h.nt aX acc ∧ (∀ l', o' = (l', false) → acc.length + l'.length ≤ s.length) ∧ fValsN n [] o2 = fValsN nn acc o', ⟨n, 0, .sl .full 0 [], [], o2, ?_⟩, ?_⟩
  · simp only [aws, eq_self, reduceIte, Int.natCast_zero]
    exact ⟨by (repeat (first | assumption | exact ExtX.refl hlt | refine ExtX.own ?_ _ | refine ExtX.new ?_ _ | refine ExtX.newTok ?_ | refine ExtX.setTok ?_ (by omega) _ | refine ExtX.set ?_ (by first | omega | (simp only [new_nb, set_nb, kill_nb, newTok_nb, setTok_nb]; omega)) _)), hst2, .inl ⟨rfl, rfl⟩, fun l' e => by have := hst2.length_le; rw [e] at this; exact this⟩
  · rintro nn s' h' ⟨j, aX, acc, o', e0, e3, e4, e5, hnn, cX, hst', cb, ho, hlen, hit⟩
    simp only [aws, eq_self, implies_true, imp_self, reduceIte, reduceCtorEq, Nat.reduceLT, acmpnil, teset, e0, e4, e5]
    cases hc : decide ((j : Int) < (n : Int)) with
    | false =>
      simp only [decide_eq_false_iff_not] at hc
      obtain rfl : nn = 0 := by omega
      rw [hit, show fValsN 0 acc o' = (acc, o') from rfl]
      have how := ho.wk
      simp only [aws, eq_self, reduceIte, Nat.reduceLT, Nat.reduceEqDiff, ares1, teset, e3]
      exact ⟨cX, cb, _, rfl, how⟩
    | true =>
      simp only [decide_eq_true_eq] at hc
      obtain ⟨n', rfl⟩ : ∃ n', nn = n' + 1 := ⟨nn - 1, by omega⟩
      obtain ⟨l', bad⟩ := o'
      cases bad with
      | true =>
        have cb' : h'.box b = some [.str (bS s), .int .i64 ((s.length - l'.length : Nat) : Int), .bool true] := cb
        rw [hit, fValsN_bad]
        have how := ho.wk
        simp only [aws, eq_self, implies_true, reduceIte, reduceCtorEq, Nat.reduceLT, Nat.reduceEqDiff, ares1, teset, e0, e3, cb']
        exact ⟨cX, cb, _, rfl, how⟩
      | false =>
        have cb' : h'.box b = some [.str (bS s), .int .i64 ((s.length - l'.length : Nat) : Int), .bool false] := cb
        have hl' := hlen l' rfl
        rw [fValsN] at hit
        have hvr := refval_rf s hsl 6 (l', false) (h := h') (b := b) (by omega) hst' cb
        rw [show ((6 : Nat) : Int) = 6 from rfl] at hvr
        have hvs := (fVal_suf 6 (l', false)).trans hst'
        have hvl := fun r (e : (fVal 6 (l', false)).2 = (r, false)) => fVal_len e
        generalize hx : (fVal 6 (l', false)).1 = x at hvr hit
        generalize hoo : (fVal 6 (l', false)).2 = o3 at hvr hvs hvl hit
        have hlen3 : ∀ l3, o3 = (l3, false) → (acc ++ [x]).length + l3.length ≤ s.length := by
          intro l3 e
          obtain ⟨l4, h5, h6⟩ := hvl l3 e
          cases h5
          rw [List.length_append, List.length_singleton]; omega
        simp only [aws, eq_self, implies_true, reduceIte, reduceCtorEq, Nat.reduceLT, Nat.reduceEqDiff, teset, e0, e3, cb']
        refine rf_call ⟨Tryz.f56, Tryz.func56, rfl, by kernel_rfl⟩ hvr ?_
        rcases ho with ⟨rfl, rfl⟩ | ⟨t, G, rfl, htk, htn⟩
        · simp only [aws, eq_self, reduceIte, reduceCtorEq, Nat.reduceLT, Nat.reduceLeDiff, Nat.reduceEqDiff, Nat.reduceMul, acmpnil, appBox, appendTo, teset, e0, e3, e4, e5, inj_len, inj_one, range1]
          refine .inl ?_
          exact ⟨n', by omega, j + 1, _, [] ++ [x], o3, rfl, by rw [wrap_succ (by omega)], by omega, by (repeat (first | assumption | exact ExtX.refl hlt | refine ExtX.own ?_ _ | refine ExtX.new ?_ _ | refine ExtX.newTok ?_ | refine ExtX.setTok ?_ (by omega) _ | refine ExtX.set ?_ (by first | omega | (simp only [new_nb, set_nb, kill_nb, newTok_nb, setTok_nb]; omega)) _)), hvs, rfl, .inr ⟨h'.nt, 0, rfl, (by show (AH.newTok _).tok _ = _; exact newTok_at rfl), cX.nt⟩, hlen3, hit⟩
        · have hb0 : (acc.length + 1) * 80 ≤ 140737488355328 := by omega
          simp only [aws, eq_self, reduceIte, reduceCtorEq, Nat.reduceLT, Nat.reduceLeDiff, Nat.reduceEqDiff, Nat.reduceMul, acmpnil, appBox, appendTo, teset, e0, e3, e4, e5, inj_len, inj_one, List.length_map, range1, htk, hb0, List.length_map]
          exact ⟨n', by omega, j + 1, _, acc ++ [x], o3, rfl, by rw [wrap_succ (by omega)], by omega, by (repeat (first | assumption | exact ExtX.refl hlt | refine ExtX.own ?_ _ | refine ExtX.new ?_ _ | refine ExtX.newTok ?_ | refine ExtX.setTok ?_ (by omega) _ | refine ExtX.set ?_ (by first | omega | (simp only [new_nb, set_nb, kill_nb, newTok_nb, setTok_nb]; omega)) _)), hvs, rfl, .inr ⟨t, G + 1, by simp, (by show (AH.setTok _ t (G + 1)).tok t = _; rw [setTok_tok, if_pos rfl]), htn⟩, hlen3, hit⟩
theorem refvalues1_rf (s : List UInt8) (hsl : s.length < 1000000000000) (o : RS) (hst : o.1 <:+ s) {h : AH} {b : Nat} (hb : h.box b = some (rc s o)) : ACalls Tryz.prog 43 [.ptr b 0, .int .i64 1] h (RfPost s h b (.sl .ro 5 ((fPlain o).1.map inj)) (fPlain o).2) := by
  refine Rf.of (injs_und _) fun hsc => ?_
  have hlt := hsc.box _ _ hb
  refine acalls_of te_ok [] Tryz.func43 (c := _) rfl (Nat.le_of_ble_eq_true rfl) ?_
  simp only [aws, eq_self, reduceIte, reduceCtorEq, Nat.reduceLT, Nat.reduceEqDiff, Int.reduceNeg, acmpnil, Tryz.ntmps43, Tryz.results43]
  refine rf_call ⟨Tryz.f54, Tryz.func54, rfl, by kernel_rfl⟩ (refplain_rf s hsl o hst hb) ?_
  simp only [aws, eq_self, reduceIte, Nat.reduceLT, Nat.reduceEqDiff, ares1]
  exact ⟨by (repeat (first | assumption | exact ExtX.refl hlt | refine ExtX.own ?_ _ | refine ExtX.new ?_ _ | refine ExtX.newTok ?_ | refine ExtX.setTok ?_ (by omega) _ | refine ExtX.set ?_ (by first | omega | (simp only [new_nb, set_nb, kill_nb, newTok_nb, setTok_nb]; omega)) _)), set_at _ _ _, _, rfl, .refl _⟩
end Go.Proofs.YtlbhgoffiigfbaaGreat.AW
end
section
set_option linter.unusedSimpArgs false
set_option linter.unusedVariables false
namespace Go.Proofs.YtlbhgoffiigfbaaGreat.AW
open Go Go.RowKit

set_option maxHeartbeats 8000000 in
theorem refvalues2_rf (s : List UInt8) (hsl : s.length < 1000000000000) (o : RS) (hst : o.1 <:+ s) {h : AH} {b : Nat} (hb : h.box b = some (rc s o)) : ACalls Tryz.prog 43 [.ptr b 0, .int .i64 2] h (RfPost s h b (.sl .ro 5 ((fRuns o).1.map inj)) (fRuns o).2) := by
  refine Rf.of (injs_und _) fun hsc => ?_
  have hlt := hsc.box _ _ hb
  refine acalls_of te_ok [] Tryz.func43 (c := _) rfl (Nat.le_of_ble_eq_true rfl) ?_
  simp only [aws, eq_self, reduceIte, reduceCtorEq, Nat.reduceLT, Nat.reduceEqDiff, Int.reduceBEq, Int.reduceNeg, acmpnil, Tryz.ntmps43, Tryz.results43]
  refine rf_call ⟨Tryz.f55, Tryz.func55, rfl, by kernel_rfl⟩ (refcount_rf s hsl o hst hb) ?_
  unfold fRuns
  have hnlt := fNum_lt o
  have hst2 := (fNum_suf o).trans hst
  generalize (fNum o).1 = n at hnlt ⊢
  generalize (fNum o).2 = o2 at hst2 ⊢
  simp only [aws, eq_self, reduceIte, Nat.reduceLT, Nat.reduceEqDiff]
  refine ⟨fun nn s' h' => ∃ (j : Nat) (aX : AV) (acc : List V) (o' : RS), s' 0 = .ptr b 0 ∧ s' 5 = aX ∧ s' 6 = .int .i64 n ∧ s' 7 = .int .i64 j ∧ nn + j = n ∧ ExtX h b h' ∧ o'.1 <:+ s ∧ h'.box b = some (rc s o') ∧ Own5 h' h.nt aX acc ∧ acc.length ≤ 400 ∧ fRunsN n [] o2 = fRunsN nn acc o', ⟨n, 0, .sl .full 0 [], [], o2, ?_⟩, ?_⟩
  · simp only [aws, eq_self, reduceIte, reduceCtorEq, Nat.reduceLeDiff, Nat.reduceEqDiff, Int.natCast_zero]
    exact ⟨by (repeat (first | assumption | exact ExtX.refl hlt | refine ExtX.own ?_ _ | refine ExtX.new ?_ _ | refine ExtX.newTok ?_ | refine ExtX.setTok ?_ (by omega) _ | refine ExtX.set ?_ (by first | omega | (simp only [new_nb, set_nb, kill_nb, newTok_nb, setTok_nb]; omega)) _)), hst2, .inl ⟨rfl, rfl⟩⟩
  · rintro nn s' h' ⟨j, aX, acc, o', e0, e5, e6, e7, hnn, cX, hst', cb, ho, hal, hit⟩
    simp only [aws, eq_self, implies_true, imp_self, reduceIte, reduceCtorEq, Nat.reduceLT, Nat.reduceEqDiff, acmpnil, teset, e0, e6, e7]
    cases hc : decide ((j : Int) < (n : Int)) with
    | false =>
      simp only [decide_eq_false_iff_not] at hc
      obtain rfl : nn = 0 := by omega
      rw [hit, show fRunsN 0 acc o' = (acc, o') from rfl]
      have how := ho.wk
      simp only [aws, eq_self, reduceIte, Nat.reduceLT, Nat.reduceEqDiff, ares1, teset, e5]
      exact ⟨cX, cb, _, rfl, how⟩
    | true =>
      simp only [decide_eq_true_eq] at hc
      obtain ⟨n', rfl⟩ : ∃ n', nn = n' + 1 := ⟨nn - 1, by omega⟩
      obtain ⟨l', bad⟩ := o'
      cases bad with
      | true =>
        have cb' : h'.box b = some [.str (bS s), .int .i64 ((s.length - l'.length : Nat) : Int), .bool true] := cb
        rw [hit, fRunsN_bad]
        have how := ho.wk
        simp only [aws, eq_self, implies_true, reduceIte, reduceCtorEq, Nat.reduceLT, Nat.reduceEqDiff, ares1, teset, e0, e5, cb']
        exact ⟨cX, cb, _, rfl, how⟩
      | false =>
        have cb' : h'.box b = some [.str (bS s), .int .i64 ((s.length - l'.length : Nat) : Int), .bool false] := cb
        rw [fRunsN] at hit
        have hmr := refcount_rf s hsl (l', false) (h := h') (b := b) hst' cb
        have hms := (fNum_suf (l', false)).trans hst'
        have hmlt := fNum_lt (l', false)
        generalize (fNum (l', false)).1 = m at hmr hmlt hit
        generalize (fNum (l', false)).2 = o3 at hmr hms hit
        have hvr := refval_rf s hsl 6 o3 (h := h'.set b (rc s o3)) (b := b) (by omega) hms (set_at _ _ _)
        rw [show ((6 : Nat) : Int) = 6 from rfl] at hvr
        have hvs := (fVal_suf 6 o3).trans hms
        generalize hx : (fVal 6 o3).1 = x at hvr hit
        generalize hoo : (fVal 6 o3).2 = o4 at hvr hvs hit
        simp only [aws, eq_self, implies_true, reduceIte, reduceCtorEq, Nat.reduceLT, Nat.reduceEqDiff, teset, e0, cb']
        refine rf_call ⟨Tryz.f55, Tryz.func55, rfl, by kernel_rfl⟩ hmr ?_
        simp only [aws, eq_self, reduceIte, reduceCtorEq, Nat.reduceLT, Nat.reduceEqDiff, e0]
        refine rf_call ⟨Tryz.f56, Tryz.func56, rfl, by kernel_rfl⟩ hvr ?_
        obtain ⟨vk, vi, vt, vx, vs⟩ := x
        rw [inj_mk]
        have hn1 : (h'.nb = b) = False := by rw [eq_iff_iff]; exact ⟨fun e => by have := cX.nb; omega, False.elim⟩
        have hn3 : (b = h'.nb) = False := by rw [eq_iff_iff]; exact ⟨fun e => by have := cX.nb; omega, False.elim⟩
        rw [set_set]
        obtain ⟨l4, bad⟩ := o4
        cases bad with
        | true =>
          have hok : fOk m acc (l4, true) = false := rfl
          simp only [aws, eq_self, implies_true, imp_self, reduceIte, reduceCtorEq, Nat.reduceAdd, Nat.reduceLT, Nat.reduceLeDiff, Nat.reduceEqDiff, storeB, teset, e0, e5, rc, hn1, hn3]
          obtain ⟨H, hH⟩ : ∃ H, H = ((((h'.set b [.str (bS s), .int .i64 ((s.length - l4.length : Nat) : Int), .bool true]).new [.int .i64 0, .int .i64 0, .str ⟨#[]⟩, .sl .full 0 [], .sl .full 0 []]).set h'.nb [.int .i64 vk, .int .i64 vi, .str vt, .sl .ro 5 (vx.map inj), .sl .ro 1 (vs.map .str)]).set b [.str (bS s), .int .i64 ((s.length - l4.length : Nat) : Int), .bool true]) := ⟨_, rfl⟩
          have hkk : fRunsN n [] o2 = fRunsN n' acc (l4, true) := by rw [hit, if_neg (by rw [hok]; decide)]; exact (fRunsN_bad _ _ _).symm
          have hcn := cX.nb
          have HX : ExtX h b H := by rw [hH]; (repeat (first | assumption | exact ExtX.refl hlt | refine ExtX.own ?_ _ | refine ExtX.new ?_ _ | refine ExtX.newTok ?_ | refine ExtX.setTok ?_ (by omega) _ | refine ExtX.set ?_ (by first | omega | (simp only [new_nb, set_nb, kill_nb, newTok_nb, setTok_nb]; omega)) _))
          have Hb : H.box b = some [.str (bS s), .int .i64 ((s.length - l4.length : Nat) : Int), .bool true] := by rw [hH, set_at]
          have Ho : Own5 H h.nt aX acc := by rw [hH]; exact ho
          rw [← hH]
          clear hH
          refine ⟨fun m2 s2 h2 => s2 0 = .ptr b 0 ∧ s2 5 = aX ∧ s2 6 = .int .i64 n ∧ s2 7 = .int .i64 j ∧ s2 8 = .int .i64 m ∧ s2 10 = .int .i64 0 ∧ h2 = H, ⟨0, ?_⟩, ?_⟩
          · simp only [aws, eq_self, reduceIte, reduceCtorEq, Nat.reduceEqDiff, e0, e5, e6, e7]
          · rintro m2 s2 h2 ⟨f0, f5, f6, f7, f8, f10, rfl⟩
            simp only [aws, eq_self, implies_true, imp_self, reduceIte, reduceCtorEq, Nat.reduceLT, Nat.reduceEqDiff, acmpnil, teset, f0, f8, f10]
            cases hc4 : decide ((0 : Int) < (m : Int)) with
            | false =>
              simp only [aws, eq_self, reduceIte, reduceCtorEq, Nat.reduceLT, Nat.reduceEqDiff, acmpnil, ares1, teset, f0, f5, f6, f7]
              exact ⟨n', by omega, j + 1, aX, acc, (l4, true), rfl, by rw [wrap_succ (by omega)], by omega, HX, hvs, Hb, Ho, hal, hkk⟩
            | true =>
              simp only [aws, eq_self, implies_true, reduceIte, reduceCtorEq, Nat.reduceLT, Nat.reduceEqDiff, acmpnil, ares1, teset, f0, f5, f6, f7, Hb]
              exact ⟨n', by omega, j + 1, aX, acc, (l4, true), rfl, by rw [wrap_succ (by omega)], by omega, HX, hvs, rfl, Ho, hal, hkk⟩
        | false =>
          cases hc2 : decide ((m : Int) > 200) with
          | true =>
            have hok : fOk m acc (l4, false) = false := by
              have : decide (m ≤ 200) = false := by simp only [decide_eq_true_eq] at hc2; simp only [decide_eq_false_iff_not]; omega
              unfold fOk; rw [this]; rfl
            simp only [aws, eq_self, implies_true, reduceIte, reduceCtorEq, Nat.reduceAdd, Nat.reduceLT, Nat.reduceLeDiff, Nat.reduceEqDiff, acmpnil, storeB, teset, e0, e5, rc, hn1, hn3, hc2]
            obtain ⟨H, hH⟩ : ∃ H, H = ((((h'.set b [.str (bS s), .int .i64 ((s.length - l4.length : Nat) : Int), .bool false]).new [.int .i64 0, .int .i64 0, .str ⟨#[]⟩, .sl .full 0 [], .sl .full 0 []]).set h'.nb [.int .i64 vk, .int .i64 vi, .str vt, .sl .ro 5 (vx.map inj), .sl .ro 1 (vs.map .str)]).set b [.str (bS s), .int .i64 ((s.length - l4.length : Nat) : Int), .bool true]) := ⟨_, rfl⟩
            have hkk : fRunsN n [] o2 = fRunsN n' acc (l4, true) := by rw [hit, if_neg (by rw [hok]; decide)]; exact (fRunsN_bad _ _ _).symm
            have hcn := cX.nb
            have HX : ExtX h b H := by rw [hH]; (repeat (first | assumption | exact ExtX.refl hlt | refine ExtX.own ?_ _ | refine ExtX.new ?_ _ | refine ExtX.newTok ?_ | refine ExtX.setTok ?_ (by omega) _ | refine ExtX.set ?_ (by first | omega | (simp only [new_nb, set_nb, kill_nb, newTok_nb, setTok_nb]; omega)) _))
            have Hb : H.box b = some [.str (bS s), .int .i64 ((s.length - l4.length : Nat) : Int), .bool true] := by rw [hH, set_at]
            have Ho : Own5 H h.nt aX acc := by rw [hH]; exact ho
            rw [← hH]
            clear hH
            refine ⟨fun m2 s2 h2 => s2 0 = .ptr b 0 ∧ s2 5 = aX ∧ s2 6 = .int .i64 n ∧ s2 7 = .int .i64 j ∧ s2 8 = .int .i64 m ∧ s2 10 = .int .i64 0 ∧ h2 = H, ⟨0, ?_⟩, ?_⟩
            · simp only [aws, eq_self, reduceIte, reduceCtorEq, Nat.reduceEqDiff, e0, e5, e6, e7]
            · rintro m2 s2 h2 ⟨f0, f5, f6, f7, f8, f10, rfl⟩
              simp only [aws, eq_self, implies_true, imp_self, reduceIte, reduceCtorEq, Nat.reduceLT, Nat.reduceEqDiff, acmpnil, teset, f0, f8, f10]
              cases hc4 : decide ((0 : Int) < (m : Int)) with
              | false =>
                simp only [aws, eq_self, reduceIte, reduceCtorEq, Nat.reduceLT, Nat.reduceEqDiff, acmpnil, ares1, teset, f0, f5, f6, f7]
                exact ⟨n', by omega, j + 1, aX, acc, (l4, true), rfl, by rw [wrap_succ (by omega)], by omega, HX, hvs, Hb, Ho, hal, hkk⟩
              | true =>
                simp only [aws, eq_self, implies_true, reduceIte, reduceCtorEq, Nat.reduceLT, Nat.reduceEqDiff, acmpnil, ares1, teset, f0, f5, f6, f7, Hb]
                exact ⟨n', by omega, j + 1, aX, acc, (l4, true), rfl, by rw [wrap_succ (by omega)], by omega, HX, hvs, rfl, Ho, hal, hkk⟩
          | false =>
            cases hc3 : decide ((acc.length : Int) > 200) with
            | true =>
              have hok : fOk m acc (l4, false) = false := by
                have : decide (acc.length ≤ 200) = false := by simp only [decide_eq_true_eq] at hc3; simp only [decide_eq_false_iff_not]; omega
                unfold fOk; rw [this, Bool.and_false]
              have ho' := ho
              rcases ho' with ⟨_, rfl⟩ | ⟨t, G, hax, htk, htn⟩
              · simp at hc3
              · have e5' := e5
                rw [hax] at e5'
                simp only [aws, eq_self, implies_true, reduceIte, reduceCtorEq, Nat.reduceAdd, Nat.reduceLT, Nat.reduceLeDiff, Nat.reduceEqDiff, acmpnil, storeB, teset, e0, e5', rc, hn1, hn3, List.length_map, hc2, hc3]
                obtain ⟨H, hH⟩ : ∃ H, H = ((((h'.set b [.str (bS s), .int .i64 ((s.length - l4.length : Nat) : Int), .bool false]).new [.int .i64 0, .int .i64 0, .str ⟨#[]⟩, .sl .full 0 [], .sl .full 0 []]).set h'.nb [.int .i64 vk, .int .i64 vi, .str vt, .sl .ro 5 (vx.map inj), .sl .ro 1 (vs.map .str)]).set b [.str (bS s), .int .i64 ((s.length - l4.length : Nat) : Int), .bool true]) := ⟨_, rfl⟩
                have hkk : fRunsN n [] o2 = fRunsN n' acc (l4, true) := by rw [hit, if_neg (by rw [hok]; decide)]; exact (fRunsN_bad _ _ _).symm
                have hcn := cX.nb
                have HX : ExtX h b H := by rw [hH]; (repeat (first | assumption | exact ExtX.refl hlt | refine ExtX.own ?_ _ | refine ExtX.new ?_ _ | refine ExtX.newTok ?_ | refine ExtX.setTok ?_ (by omega) _ | refine ExtX.set ?_ (by first | omega | (simp only [new_nb, set_nb, kill_nb, newTok_nb, setTok_nb]; omega)) _))
                have Hb : H.box b = some [.str (bS s), .int .i64 ((s.length - l4.length : Nat) : Int), .bool true] := by rw [hH, set_at]
                have Ho : Own5 H h.nt aX acc := by rw [hH]; exact ho
                rw [← hH]
                clear hH
                refine ⟨fun m2 s2 h2 => s2 0 = .ptr b 0 ∧ s2 5 = aX ∧ s2 6 = .int .i64 n ∧ s2 7 = .int .i64 j ∧ s2 8 = .int .i64 m ∧ s2 10 = .int .i64 0 ∧ h2 = H, ⟨0, ?_⟩, ?_⟩
                · simp only [aws, eq_self, reduceIte, reduceCtorEq, Nat.reduceEqDiff, e0, e5, e6, e7]
                · rintro m2 s2 h2 ⟨f0, f5, f6, f7, f8, f10, rfl⟩
                  simp only [aws, eq_self, implies_true, imp_self, reduceIte, reduceCtorEq, Nat.reduceLT, Nat.reduceEqDiff, acmpnil, teset, f0, f8, f10]
                  cases hc4 : decide ((0 : Int) < (m : Int)) with
                  | false =>
                    simp only [aws, eq_self, reduceIte, reduceCtorEq, Nat.reduceLT, Nat.reduceEqDiff, acmpnil, ares1, teset, f0, f5, f6, f7]
                    exact ⟨n', by omega, j + 1, aX, acc, (l4, true), rfl, by rw [wrap_succ (by omega)], by omega, HX, hvs, Hb, Ho, hal, hkk⟩
                  | true =>
                    simp only [aws, eq_self, implies_true, reduceIte, reduceCtorEq, Nat.reduceLT, Nat.reduceEqDiff, acmpnil, ares1, teset, f0, f5, f6, f7, Hb]
                    exact ⟨n', by omega, j + 1, aX, acc, (l4, true), rfl, by rw [wrap_succ (by omega)], by omega, HX, hvs, rfl, Ho, hal, hkk⟩
            | false =>
              have hc2' := hc2
              have hc3' := hc3
              simp only [decide_eq_false_iff_not] at hc2' hc3'
              have hok : fOk m acc (l4, false) = true := by
                unfold fOk; rw [decide_eq_true (show m ≤ 200 by omega), decide_eq_true (show acc.length ≤ 200 by omega)]; rfl
              rw [if_pos hok] at hit
              have hcn := cX.nb
              have ho' := ho
              rcases ho' with ⟨hax, hacc⟩ | ⟨t, G, hax, htk, htn⟩
              · have e5' := e5
                rw [hax] at e5'
                simp only [aws, eq_self, implies_true, reduceIte, reduceCtorEq, Nat.reduceAdd, Nat.reduceLT, Nat.reduceLeDiff, Nat.reduceEqDiff, Int.reduceGT, acmpnil, storeB, teset, e0, e5', rc, hn1, hn3, hc2, Int.natCast_zero]
                obtain ⟨H, hH⟩ : ∃ H, H = ((((h'.set b [.str (bS s), .int .i64 ((s.length - l4.length : Nat) : Int), .bool false]).new [.int .i64 0, .int .i64 0, .str ⟨#[]⟩, .sl .full 0 [], .sl .full 0 []]).set h'.nb [.int .i64 vk, .int .i64 vi, .str vt, .sl .ro 5 (vx.map inj), .sl .ro 1 (vs.map .str)]).set b [.str (bS s), .int .i64 ((s.length - l4.length : Nat) : Int), .bool false]) := ⟨_, rfl⟩
                have HX : ExtX h b H := by rw [hH]; (repeat (first | assumption | exact ExtX.refl hlt | refine ExtX.own ?_ _ | refine ExtX.new ?_ _ | refine ExtX.newTok ?_ | refine ExtX.setTok ?_ (by omega) _ | refine ExtX.set ?_ (by first | omega | (simp only [new_nb, set_nb, kill_nb, newTok_nb, setTok_nb]; omega)) _))
                have Hb : H.box b = some [.str (bS s), .int .i64 ((s.length - l4.length : Nat) : Int), .bool false] := by rw [hH, set_at]
                have H9 : H.box h'.nb = some [.int .i64 vk, .int .i64 vi, .str vt, .sl .ro 5 (vx.map inj), .sl .ro 1 (vs.map .str)] := by rw [hH, set_box, if_neg (by omega), set_at]
                have Ho : Own5 H h.nt aX acc := by rw [hH]; exact ho
                rw [← hH]
                clear hH
                refine ⟨fun m2 s2 h2 => ∃ (k : Nat) (aY : AV), s2 0 = .ptr b 0 ∧ s2 5 = aY ∧ s2 6 = .int .i64 n ∧ s2 7 = .int .i64 j ∧ s2 8 = .int .i64 m ∧ s2 9 = .ptr h'.nb 0 ∧ s2 10 = .int .i64 k ∧ m2 + k = m ∧ ExtX h b h2 ∧ h2.box b = some [.str (bS s), .int .i64 ((s.length - l4.length : Nat) : Int), .bool false] ∧ h2.box h'.nb = some [.int .i64 vk, .int .i64 vi, .str vt, .sl .ro 5 (vx.map inj), .sl .ro 1 (vs.map .str)] ∧ Own5 h2 h.nt aY (acc ++ List.replicate k (.mk vk vi vt vx vs)), ⟨m, 0, aX, ?_⟩, ?_⟩
                · simp only [aws, eq_self, reduceIte, reduceCtorEq, Nat.reduceEqDiff, e0, e5, e6, e7, Hb, H9, Int.natCast_zero, List.replicate_zero]
                  exact ⟨HX, Ho⟩
                · rintro m2 s2 h2 ⟨k, aY, f0, f5, f6, f7, f8, f9, f10, hm2, cX2, cb2, c9, ho2⟩
                  simp only [aws, eq_self, implies_true, imp_self, reduceIte, reduceCtorEq, Nat.reduceLT, Nat.reduceEqDiff, acmpnil, teset, f0, f8, f10]
                  cases hc4 : decide ((k : Int) < (m : Int)) with
                  | false =>
                    simp only [decide_eq_false_iff_not] at hc4
                    obtain rfl : k = m := by omega
                    simp only [aws, eq_self, reduceIte, reduceCtorEq, Nat.reduceLT, Nat.reduceEqDiff, acmpnil, ares1, teset, f0, f5, f6, f7]
                    exact ⟨n', by omega, j + 1, aY, acc ++ List.replicate k (.mk vk vi vt vx vs), (l4, false), rfl, by rw [wrap_succ (by omega)], by omega, cX2, hvs, cb2, ho2, by rw [List.length_append, List.length_replicate]; omega, hit⟩
                  | true =>
                    simp only [decide_eq_true_eq] at hc4
                    have hrk : acc ++ List.replicate (k + 1) (V.mk vk vi vt vx vs) = (acc ++ List.replicate k (V.mk vk vi vt vx vs)) ++ [V.mk vk vi vt vx vs] := by
                      rw [List.replicate_succ', List.append_assoc]
                    have hyl : (acc ++ List.replicate k (V.mk vk vi vt vx vs)).length ≤ 400 := by rw [List.length_append, List.length_replicate]; omega
                    generalize hys : acc ++ List.replicate k (V.mk vk vi vt vx vs) = ys at ho2 hyl hrk
                    rcases ho2 with ⟨rfl, hz⟩ | ⟨t, G, rfl, htk, htn⟩
                    · simp only [aws, eq_self, implies_true, reduceIte, reduceCtorEq, Nat.reduceAdd, Nat.reduceLT, Nat.reduceLeDiff, Nat.reduceEqDiff, Nat.reduceMul, acmpnil, appBox, appendTo, teset, f0, f5, f6, f7, f8, f9, f10, cb2, c9, range1]
                      refine .inl ?_
                      exact ⟨m2 - 1, by omega, k + 1, _, rfl, by rw [wrap_succ (by omega)], by omega, by (repeat (first | assumption | exact ExtX.refl hlt | refine ExtX.own ?_ _ | refine ExtX.new ?_ _ | refine ExtX.newTok ?_ | refine ExtX.setTok ?_ (by omega) _ | refine ExtX.set ?_ (by first | omega | (simp only [new_nb, set_nb, kill_nb, newTok_nb, setTok_nb]; omega)) _)), .inr ⟨h2.nt, 0, by rw [hrk, hz, List.nil_append, List.map_cons, List.map_nil, inj_mk], (by show (AH.newTok _).tok _ = _; exact newTok_at rfl), cX2.nt⟩⟩
                    · have hb0 : (ys.length + 1) * 80 ≤ 140737488355328 := by omega
                      simp only [aws, eq_self, implies_true, reduceIte, reduceCtorEq, Nat.reduceAdd, Nat.reduceLT, Nat.reduceLeDiff, Nat.reduceEqDiff, Nat.reduceMul, acmpnil, appBox, appendTo, teset, f0, f5, f6, f7, f8, f9, f10, cb2, c9, List.length_map, range1, htk, hb0, List.length_map]
                      exact ⟨m2 - 1, by omega, k + 1, _, rfl, by rw [wrap_succ (by omega)], by omega, by (repeat (first | assumption | exact ExtX.refl hlt | refine ExtX.own ?_ _ | refine ExtX.new ?_ _ | refine ExtX.newTok ?_ | refine ExtX.setTok ?_ (by omega) _ | refine ExtX.set ?_ (by first | omega | (simp only [new_nb, set_nb, kill_nb, newTok_nb, setTok_nb]; omega)) _)), .inr ⟨t, G + 1, by rw [hrk, List.map_append, List.map_cons, List.map_nil, inj_mk], (by show (AH.setTok _ t (G + 1)).tok t = _; rw [setTok_tok, if_pos rfl]), htn⟩⟩
              · have e5' := e5
                rw [hax] at e5'
                simp only [aws, eq_self, implies_true, reduceIte, reduceCtorEq, Nat.reduceAdd, Nat.reduceLT, Nat.reduceLeDiff, Nat.reduceEqDiff, acmpnil, storeB, teset, e0, e5', rc, hn1, hn3, List.length_map, hc2, hc3]
                obtain ⟨H, hH⟩ : ∃ H, H = ((((h'.set b [.str (bS s), .int .i64 ((s.length - l4.length : Nat) : Int), .bool false]).new [.int .i64 0, .int .i64 0, .str ⟨#[]⟩, .sl .full 0 [], .sl .full 0 []]).set h'.nb [.int .i64 vk, .int .i64 vi, .str vt, .sl .ro 5 (vx.map inj), .sl .ro 1 (vs.map .str)]).set b [.str (bS s), .int .i64 ((s.length - l4.length : Nat) : Int), .bool false]) := ⟨_, rfl⟩
                have HX : ExtX h b H := by rw [hH]; (repeat (first | assumption | exact ExtX.refl hlt | refine ExtX.own ?_ _ | refine ExtX.new ?_ _ | refine ExtX.newTok ?_ | refine ExtX.setTok ?_ (by omega) _ | refine ExtX.set ?_ (by first | omega | (simp only [new_nb, set_nb, kill_nb, newTok_nb, setTok_nb]; omega)) _))
                have Hb : H.box b = some [.str (bS s), .int .i64 ((s.length - l4.length : Nat) : Int), .bool false] := by rw [hH, set_at]
                have H9 : H.box h'.nb = some [.int .i64 vk, .int .i64 vi, .str vt, .sl .ro 5 (vx.map inj), .sl .ro 1 (vs.map .str)] := by rw [hH, set_box, if_neg (by omega), set_at]
                have Ho : Own5 H h.nt aX acc := by rw [hH]; exact ho
                rw [← hH]
                clear hH
                refine ⟨fun m2 s2 h2 => ∃ (k : Nat) (aY : AV), s2 0 = .ptr b 0 ∧ s2 5 = aY ∧ s2 6 = .int .i64 n ∧ s2 7 = .int .i64 j ∧ s2 8 = .int .i64 m ∧ s2 9 = .ptr h'.nb 0 ∧ s2 10 = .int .i64 k ∧ m2 + k = m ∧ ExtX h b h2 ∧ h2.box b = some [.str (bS s), .int .i64 ((s.length - l4.length : Nat) : Int), .bool false] ∧ h2.box h'.nb = some [.int .i64 vk, .int .i64 vi, .str vt, .sl .ro 5 (vx.map inj), .sl .ro 1 (vs.map .str)] ∧ Own5 h2 h.nt aY (acc ++ List.replicate k (.mk vk vi vt vx vs)), ⟨m, 0, aX, ?_⟩, ?_⟩
                · simp only [aws, eq_self, reduceIte, reduceCtorEq, Nat.reduceEqDiff, e0, e5, e6, e7, Hb, H9, Int.natCast_zero, List.replicate_zero]
                  exact ⟨HX, Ho⟩
                · rintro m2 s2 h2 ⟨k, aY, f0, f5, f6, f7, f8, f9, f10, hm2, cX2, cb2, c9, ho2⟩
                  simp only [aws, eq_self, implies_true, imp_self, reduceIte, reduceCtorEq, Nat.reduceLT, Nat.reduceEqDiff, acmpnil, teset, f0, f8, f10]
                  cases hc4 : decide ((k : Int) < (m : Int)) with
                  | false =>
                    simp only [decide_eq_false_iff_not] at hc4
                    obtain rfl : k = m := by omega
                    simp only [aws, eq_self, reduceIte, reduceCtorEq, Nat.reduceLT, Nat.reduceEqDiff, acmpnil, ares1, teset, f0, f5, f6, f7]
                    exact ⟨n', by omega, j + 1, aY, acc ++ List.replicate k (.mk vk vi vt vx vs), (l4, false), rfl, by rw [wrap_succ (by omega)], by omega, cX2, hvs, cb2, ho2, by rw [List.length_append, List.length_replicate]; omega, hit⟩
                  | true =>
                    simp only [decide_eq_true_eq] at hc4
                    have hrk : acc ++ List.replicate (k + 1) (V.mk vk vi vt vx vs) = (acc ++ List.replicate k (V.mk vk vi vt vx vs)) ++ [V.mk vk vi vt vx vs] := by
                      rw [List.replicate_succ', List.append_assoc]
                    have hyl : (acc ++ List.replicate k (V.mk vk vi vt vx vs)).length ≤ 400 := by rw [List.length_append, List.length_replicate]; omega
                    generalize hys : acc ++ List.replicate k (V.mk vk vi vt vx vs) = ys at ho2 hyl hrk
                    rcases ho2 with ⟨rfl, hz⟩ | ⟨t, G, rfl, htk, htn⟩
                    · simp only [aws, eq_self, implies_true, reduceIte, reduceCtorEq, Nat.reduceAdd, Nat.reduceLT, Nat.reduceLeDiff, Nat.reduceEqDiff, Nat.reduceMul, acmpnil, appBox, appendTo, teset, f0, f5, f6, f7, f8, f9, f10, cb2, c9, range1]
                      refine .inl ?_
                      exact ⟨m2 - 1, by omega, k + 1, _, rfl, by rw [wrap_succ (by omega)], by omega, by (repeat (first | assumption | exact ExtX.refl hlt | refine ExtX.own ?_ _ | refine ExtX.new ?_ _ | refine ExtX.newTok ?_ | refine ExtX.setTok ?_ (by omega) _ | refine ExtX.set ?_ (by first | omega | (simp only [new_nb, set_nb, kill_nb, newTok_nb, setTok_nb]; omega)) _)), .inr ⟨h2.nt, 0, by rw [hrk, hz, List.nil_append, List.map_cons, List.map_nil, inj_mk], (by show (AH.newTok _).tok _ = _; exact newTok_at rfl), cX2.nt⟩⟩
                    · have hb0 : (ys.length + 1) * 80 ≤ 140737488355328 := by omega
                      simp only [aws, eq_self, implies_true, reduceIte, reduceCtorEq, Nat.reduceAdd, Nat.reduceLT, Nat.reduceLeDiff, Nat.reduceEqDiff, Nat.reduceMul, acmpnil, appBox, appendTo, teset, f0, f5, f6, f7, f8, f9, f10, cb2, c9, List.length_map, range1, htk, hb0, List.length_map]
                      exact ⟨m2 - 1, by omega, k + 1, _, rfl, by rw [wrap_succ (by omega)], by omega, by (repeat (first | assumption | exact ExtX.refl hlt | refine ExtX.own ?_ _ | refine ExtX.new ?_ _ | refine ExtX.newTok ?_ | refine ExtX.setTok ?_ (by omega) _ | refine ExtX.set ?_ (by first | omega | (simp only [new_nb, set_nb, kill_nb, newTok_nb, setTok_nb]; omega)) _)), .inr ⟨t, G + 1, by rw [hrk, List.map_append, List.map_cons, List.map_nil, inj_mk], (by show (AH.setTok _ t (G + 1)).tok t = _; rw [setTok_tok, if_pos rfl]), htn⟩⟩
end Go.Proofs.YtlbhgoffiigfbaaGreat.AW
end
section
set_option linter.unusedSimpArgs false
set_option linter.unusedVariables false
namespace Go.Proofs.YtlbhgoffiigfbaaGreat.AW
open Go Go.RowKit

theorem fValsN_suf : ∀ (n : Nat) (acc : List V) (o : RS), (fValsN n acc o).2.1 <:+ o.1
  | 0, _, _ => List.suffix_refl _
  | n + 1, _, (l, true) => List.suffix_refl _
  | n + 1, _, (l, false) => (fValsN_suf n _ _).trans (fVal_suf 6 (l, false))
theorem fPlain_suf (o : RS) : (fPlain o).2.1 <:+ o.1 := (fValsN_suf _ _ _).trans (fNum_suf o)
set_option maxHeartbeats 8000000 in
theorem refvalues3_rf (s : List UInt8) (hsl : s.length < 1000000000000) (o : RS) (hst : o.1 <:+ s) {h : AH} {b : Nat} (hb : h.box b = some (rc s o)) : ACalls Tryz.prog 43 [.ptr b 0, .int .i64 3] h (RfPost s h b (.sl .ro 5 ((fDict o).1.map inj)) (fDict o).2) := by
  refine Rf.of (injs_und _) fun hsc => ?_
  have hlt := hsc.box _ _ hb
  refine acalls_of te_ok [] Tryz.func43 (c := _) rfl (Nat.le_of_ble_eq_true rfl) ?_
  simp only [aws, eq_self, reduceIte, reduceCtorEq, Nat.reduceLT, Nat.reduceEqDiff, Int.reduceBEq, Int.reduceNeg, acmpnil, Tryz.ntmps43, Tryz.results43]
  refine rf_call ⟨Tryz.f54, Tryz.func54, rfl, by kernel_rfl⟩ (refplain_rf s hsl o hst hb) ?_
  unfold fDict
  have hst1 := (fPlain_suf o).trans hst
  generalize (fPlain o).1 = ds
  generalize (fPlain o).2 = o1 at hst1 ⊢
  have hcr := refcount_rf s hsl o1 hst1 (set_at h b (rc s o1))
  have hnlt := fNum_lt o1
  have hst2 := (fNum_suf o1).trans hst1
  generalize (fNum o1).1 = n at hnlt hcr ⊢
  generalize (fNum o1).2 = o2 at hst2 hcr ⊢
  simp only [aws, eq_self, reduceIte, reduceCtorEq, Nat.reduceLT, Nat.reduceEqDiff]
  refine rf_call ⟨Tryz.f55, Tryz.func55, rfl, by kernel_rfl⟩ hcr ?_
  rw [set_set]
  simp only [aws, eq_self, reduceIte, Nat.reduceLT, Nat.reduceEqDiff]
  refine ⟨fun nn s' h' => ∃ (j : Nat) (aX : AV) (acc : List V) (o' : RS), s' 0 = .ptr b 0 ∧ s' 5 = aX ∧ s' 11 = .sl .ro 5 (ds.map inj) ∧ s' 12 = .int .i64 n ∧ s' 13 = .int .i64 j ∧ nn + j = n ∧ ExtX h b h' ∧ o'.1 <:+ s ∧ h'.box b = some (rc s o') ∧ Own5 h' h.nt aX acc ∧ (∀ l', o' = (l', false) → acc.length + l'.length ≤ s.length) ∧ fDictN ds n [] o2 = fDictN ds nn acc o', ⟨n, 0, .sl .full 0 [], [], o2, ?_⟩, ?_⟩
  · simp only [aws, eq_self, reduceIte, reduceCtorEq, Nat.reduceEqDiff, Int.natCast_zero]
    exact ⟨by (repeat (first | assumption | exact ExtX.refl hlt | refine ExtX.own ?_ _ | refine ExtX.new ?_ _ | refine ExtX.newTok ?_ | refine ExtX.setTok ?_ (by omega) _ | refine ExtX.set ?_ (by first | omega | (simp only [new_nb, set_nb, kill_nb, newTok_nb, setTok_nb]; omega)) _)), hst2, .inl ⟨rfl, rfl⟩, fun l' e => by have := hst2.length_le; rw [e] at this; exact this⟩
  · rintro nn s' h' ⟨j, aX, acc, o', e0, e5, e11, e12, e13, hnn, cX, hst', cb, ho, hlen, hit⟩
    simp only [aws, eq_self, implies_true, imp_self, reduceIte, reduceCtorEq, Nat.reduceLT, Nat.reduceEqDiff, acmpnil, teset, e0, e12, e13]
    cases hc : decide ((j : Int) < (n : Int)) with
    | false =>
      simp only [decide_eq_false_iff_not] at hc
      obtain rfl : nn = 0 := by omega
      rw [hit, show fDictN ds 0 acc o' = (acc, o') from rfl]
      have how := ho.wk
      simp only [aws, eq_self, reduceIte, Nat.reduceLT, Nat.reduceEqDiff, ares1, teset, e5]
      exact ⟨cX, cb, _, rfl, how⟩
    | true =>
      simp only [decide_eq_true_eq] at hc
      obtain ⟨n', rfl⟩ : ∃ n', nn = n' + 1 := ⟨nn - 1, by omega⟩
      obtain ⟨l', bad⟩ := o'
      cases bad with
      | true =>
        have cb' : h'.box b = some [.str (bS s), .int .i64 ((s.length - l'.length : Nat) : Int), .bool true] := cb
        rw [hit, fDictN_bad]
        have how := ho.wk
        simp only [aws, eq_self, implies_true, reduceIte, reduceCtorEq, Nat.reduceLT, Nat.reduceEqDiff, ares1, teset, e0, e5, cb']
        exact ⟨cX, cb, _, rfl, how⟩
      | false =>
        have cb' : h'.box b = some [.str (bS s), .int .i64 ((s.length - l'.length : Nat) : Int), .bool false] := cb
        have hl' := hlen l' rfl
        rw [fDictN] at hit
        have hmr := refcount_rf s hsl (l', false) (h := h') (b := b) hst' cb
        have hms := (fNum_suf (l', false)).trans hst'
        have hmlt := fNum_lt (l', false)
        have hml := fun r (e : (fNum (l', false)).2 = (r, false)) => fNum_len e
        generalize hmm : (fNum (l', false)).1 = m at hmr hmlt
        generalize hoo : (fNum (l', false)).2 = o3 at hmr hms hml hit
        simp only [aws, eq_self, implies_true, reduceIte, reduceCtorEq, Nat.reduceLT, Nat.reduceEqDiff, teset, e0, cb']
        refine rf_call ⟨Tryz.f55, Tryz.func55, rfl, by kernel_rfl⟩ hmr ?_
        simp only [aws, eq_self, reduceIte, Nat.reduceLT, Nat.reduceEqDiff, acmpnil, teset, e11, List.length_map]
        cases hc2 : decide ((m : Int) ≥ (ds.length : Int)) with
        | true =>
          simp only [decide_eq_true_eq] at hc2
          rw [dif_neg (by rw [hmm]; omega)] at hit
          rw [hit]
          have how := ho.wk
          simp only [aws, eq_self, reduceIte, reduceCtorEq, Nat.reduceAdd, Nat.reduceLT, Nat.reduceLeDiff, Nat.reduceEqDiff, acmpnil, storeB, ares1, teset, e0, e5, e11, e12, e13, rc]
          exact ⟨by (repeat (first | assumption | exact ExtX.refl hlt | refine ExtX.own ?_ _ | refine ExtX.new ?_ _ | refine ExtX.newTok ?_ | refine ExtX.setTok ?_ (by omega) _ | refine ExtX.set ?_ (by first | omega | (simp only [new_nb, set_nb, kill_nb, newTok_nb, setTok_nb]; omega)) _)), set_at _ _ _, _, rfl, how⟩
        | false =>
          simp only [decide_eq_false_iff_not] at hc2
          have hm : m < ds.length := by omega
          have hget : (ds.map inj)[((m : Nat) : Int).toNat]? = some (inj ds[m]) := by simp [hm]
          rw [dif_pos (by rw [hmm]; exact hm)] at hit
          have hix : ds[(fNum (l', false)).1]'(by rw [hmm]; exact hm) = ds[m] := by congr 1
          rw [hix] at hit
          generalize ds[m] = x at hget hit
          have hlen3 : ∀ l3, o3 = (l3, false) → (acc ++ [x]).length + l3.length ≤ s.length := by
            intro l3 e
            have := hml l3 e
            rw [List.length_append, List.length_singleton]; omega
          rcases ho with ⟨rfl, rfl⟩ | ⟨t, G, rfl, htk, htn⟩
          · simp only [aws, eq_self, reduceIte, reduceCtorEq, Nat.reduceLT, Nat.reduceLeDiff, Nat.reduceEqDiff, Nat.reduceMul, acmpnil, appBox, appendTo, teset, e0, e5, e11, e12, e13, inj_take, inj_agg, inj_len, inj_one, range1, hget, Int.natCast_nonneg]
            refine .inl ?_
            exact ⟨n', by omega, j + 1, _, [] ++ [x], o3, rfl, by rw [wrap_succ (by omega)], by omega, by (repeat (first | assumption | exact ExtX.refl hlt | refine ExtX.own ?_ _ | refine ExtX.new ?_ _ | refine ExtX.newTok ?_ | refine ExtX.setTok ?_ (by omega) _ | refine ExtX.set ?_ (by first | omega | (simp only [new_nb, set_nb, kill_nb, newTok_nb, setTok_nb]; omega)) _)), hms, rfl, .inr ⟨h'.nt, 0, rfl, (by show (AH.newTok _).tok _ = _; exact newTok_at rfl), cX.nt⟩, hlen3, hit⟩
          · have hb0 : (acc.length + 1) * 80 ≤ 140737488355328 := by omega
            simp only [aws, eq_self, reduceIte, reduceCtorEq, Nat.reduceLT, Nat.reduceLeDiff, Nat.reduceEqDiff, Nat.reduceMul, acmpnil, appBox, appendTo, teset, e0, e5, e11, e12, e13, inj_take, inj_agg, inj_len, inj_one, List.length_map, range1, htk, hb0, List.length_map, hget, Int.natCast_nonneg]
            exact ⟨n', by omega, j + 1, _, acc ++ [x], o3, rfl, by rw [wrap_succ (by omega)], by omega, by (repeat (first | assumption | exact ExtX.refl hlt | refine ExtX.own ?_ _ | refine ExtX.new ?_ _ | refine ExtX.newTok ?_ | refine ExtX.setTok ?_ (by omega) _ | refine ExtX.set ?_ (by first | omega | (simp only [new_nb, set_nb, kill_nb, newTok_nb, setTok_nb]; omega)) _)), hms, rfl, .inr ⟨t, G + 1, by simp, (by show (AH.setTok _ t (G + 1)).tok t = _; rw [setTok_tok, if_pos rfl]), htn⟩, hlen3, hit⟩
theorem refInt_val (n : Int) : Pure Tryz.prog 17 [.int .i64 n] (inj (intV n)) := by
  refine Pure.ofW ⟨Tryz.f17, Tryz.func17, rfl, by kernel_rfl⟩ (inj_under _) (fun h hsc => ?_)
  refine acalls_of te_ok [] Tryz.func17 (c := _) rfl (Nat.le_of_ble_eq_true rfl) ?_
  simp only [aws, eq_self, reduceIte, Nat.reduceAdd, Nat.reduceLT, Nat.reduceLeDiff, storeB, ares1, afill, teset, Tryz.ntmps17, Tryz.results17]
  exact ⟨by (repeat (first | exact AH.Ext.refl _ | assumption | refine AH.Ext.set ?_ (by first | omega | (simp only [new_nb, set_nb, kill_nb, newTok_nb, setTok_nb]; omega)) _ | refine AH.Ext.new ?_ _)), _, rfl, wk_val wk_nil5 wk_nil1⟩
set_option maxHeartbeats 8000000 in
theorem refvalues4_rf (s : List UInt8) (hsl : s.length < 1000000000000) (o : RS) (hst : o.1 <:+ s) {h : AH} {b : Nat} (hb : h.box b = some (rc s o)) : ACalls Tryz.prog 43 [.ptr b 0, .int .i64 4] h (RfPost s h b (.sl .ro 5 ((fDelta o).1.map inj)) (fDelta o).2) := by
  refine Rf.of (injs_und _) fun hsc => ?_
  have hlt := hsc.box _ _ hb
  refine acalls_of te_ok [] Tryz.func43 (c := _) rfl (Nat.le_of_ble_eq_true rfl) ?_
  simp only [aws, eq_self, reduceIte, reduceCtorEq, Nat.reduceLT, Nat.reduceEqDiff, Int.reduceBEq, Int.reduceNeg, acmpnil, Tryz.ntmps43, Tryz.results43]
  refine rf_call ⟨Tryz.f55, Tryz.func55, rfl, by kernel_rfl⟩ (refcount_rf s hsl o hst hb) ?_
  unfold fDelta
  have hnlt := fNum_lt o
  have hst2 := (fNum_suf o).trans hst
  generalize (fNum o).1 = n at hnlt ⊢
  generalize (fNum o).2 = o2 at hst2 ⊢
  simp only [aws, eq_self, reduceIte, Nat.reduceLT, Nat.reduceEqDiff, Int.reduceNeg]
  refine ⟨fun nn s' h' => ∃ (j : Nat) (p : Int) (aX : AV) (acc : List V) (o' : RS), s' 0 = .ptr b 0 ∧ s' 5 = aX ∧ s' 15 = .int .i64 n ∧ s' 16 = .int .i64 p ∧ s' 17 = .int .i64 j ∧ nn + j = n ∧ ExtX h b h' ∧ o'.1 <:+ s ∧ h'.box b = some (rc s o') ∧ Own5 h' h.nt aX acc ∧ (∀ l', o' = (l', false) → acc.length + l'.length ≤ s.length ∧ -1000000000000 ≤ p ∧ p ≤ 1000000000000) ∧ fDeltaN n 0 [] o2 = fDeltaN nn p acc o', ⟨n, 0, 0, .sl .full 0 [], [], o2, ?_⟩, ?_⟩
  · simp only [aws, eq_self, reduceIte, reduceCtorEq, Nat.reduceEqDiff, Int.reduceLE, Int.reduceNeg, Int.natCast_zero]
    exact ⟨by (repeat (first | assumption | exact ExtX.refl hlt | refine ExtX.own ?_ _ | refine ExtX.new ?_ _ | refine ExtX.newTok ?_ | refine ExtX.setTok ?_ (by omega) _ | refine ExtX.set ?_ (by first | omega | (simp only [new_nb, set_nb, kill_nb, newTok_nb, setTok_nb]; omega)) _)), hst2, .inl ⟨rfl, rfl⟩, fun l' e => by have := hst2.length_le; rw [e] at this; exact this⟩
  · rintro nn s' h' ⟨j, p, aX, acc, o', e0, e5, e15, e16, e17, hnn, cX, hst', cb, ho, hlen, hit⟩
    simp only [aws, eq_self, implies_true, imp_self, reduceIte, reduceCtorEq, Nat.reduceLT, Int.reduceNeg, acmpnil, teset, e0, e15, e17]
    cases hc : decide ((j : Int) < (n : Int)) with
    | false =>
      simp only [decide_eq_false_iff_not] at hc
      obtain rfl : nn = 0 := by omega
      rw [hit, show fDeltaN 0 p acc o' = (acc, o') from rfl]
      have how := ho.wk
      simp only [aws, eq_self, reduceIte, Nat.reduceLT, Nat.reduceEqDiff, Int.reduceNeg, ares1, teset, e5]
      exact ⟨cX, cb, _, rfl, how⟩
    | true =>
      simp only [decide_eq_true_eq] at hc
      obtain ⟨n', rfl⟩ : ∃ n', nn = n' + 1 := ⟨nn - 1, by omega⟩
      obtain ⟨l', bad⟩ := o'
      cases bad with
      | true =>
        have cb' : h'.box b = some [.str (bS s), .int .i64 ((s.length - l'.length : Nat) : Int), .bool true] := cb
        rw [hit, fDeltaN_bad]
        have how := ho.wk
        simp only [aws, eq_self, implies_true, reduceIte, reduceCtorEq, Nat.reduceLT, Nat.reduceEqDiff, Int.reduceNeg, ares1, teset, e0, e5, cb']
        exact ⟨cX, cb, _, rfl, how⟩
      | false =>
        have cb' : h'.box b = some [.str (bS s), .int .i64 ((s.length - l'.length : Nat) : Int), .bool false] := cb
        obtain ⟨hl', hp1, hp2⟩ := hlen l' rfl
        rw [fDeltaN] at hit
        have hmr := refint_rf s hsl (l', false) (h := h') (b := b) hst' cb
        have hms : (fInt (l', false)).2.1 <:+ s := (fNum_suf (l', false)).trans hst'
        have hmb : -36028797018963968 ≤ (fInt (l', false)).1 ∧ (fInt (l', false)).1 ≤ 36028797018963968 := by
          have := fNum_lt (l', false)
          show -36028797018963968 ≤ unzig _ ∧ unzig _ ≤ 36028797018963968
          unfold unzig
          split <;> omega
        have hml : ∀ r, (fInt (l', false)).2 = (r, false) → r.length < l'.length := fun r e => fNum_len e
        generalize (fInt (l', false)).1 = d at hmr hmb hit
        generalize (fInt (l', false)).2 = o3 at hmr hms hml hit
        have hwq : IntKind.i64.wrap (p + d) = p + d := wrap_i64 (by omega) (by omega)
        simp only [aws, eq_self, implies_true, reduceIte, reduceCtorEq, Nat.reduceLT, Nat.reduceEqDiff, Int.reduceNeg, teset, e0, e16, cb']
        refine rf_call ⟨Tryz.f57, Tryz.func57, rfl, by kernel_rfl⟩ hmr ?_
        simp only [aws, eq_self, reduceIte, Nat.reduceLT, Nat.reduceEqDiff, Int.reduceNeg, acmpnil, e5, e16, hwq]
        generalize p + d = q at hit ⊢
        refine ACallV.pure (refInt_val q) ?_
        obtain ⟨l3, bad⟩ := o3
        cases bad with
        | true =>
          have hd1 : True := trivial
          have hd2 : True := trivial
          have hfi : fIn q (l3, true) = (l3, true) := by unfold fIn; split <;> rfl
          rw [hfi] at hit
          have hfs : (l3, true).1 <:+ s := hms
          have hlen3 : ∀ l', (l3, true) = (l', false) → (acc ++ [intV q]).length + l'.length ≤ s.length ∧ -1000000000000 ≤ q ∧ q ≤ 1000000000000 := fun l' e => by cases e
          rcases ho with ⟨rfl, rfl⟩ | ⟨t, G, rfl, htk, htn⟩
          · simp only [aws, eq_self, implies_true, imp_self, reduceIte, reduceCtorEq, Nat.reduceAdd, Nat.reduceLT, Nat.reduceLeDiff, Nat.reduceEqDiff, Nat.reduceMul, Int.reduceNeg, acmpnil, appBox, storeB, appendTo, teset, e0, e5, e15, e16, e17, rc, inj_len, inj_one, range1]
            refine .inl ?_
            exact ⟨n', by omega, j + 1, _, _, [] ++ [intV q], _, rfl, rfl, by rw [wrap_succ (by omega)], by omega, by (repeat (first | assumption | exact ExtX.refl hlt | refine ExtX.own ?_ _ | refine ExtX.new ?_ _ | refine ExtX.newTok ?_ | refine ExtX.setTok ?_ (by omega) _ | refine ExtX.set ?_ (by first | omega | (simp only [new_nb, set_nb, kill_nb, newTok_nb, setTok_nb]; omega)) _)), hfs, rfl, .inr ⟨h'.nt, 0, rfl, (by show (AH.newTok _).tok _ = _; exact newTok_at rfl), cX.nt⟩, hlen3, hit⟩
          · have hb0 : (acc.length + 1) * 80 ≤ 140737488355328 := by omega
            simp only [aws, eq_self, implies_true, imp_self, reduceIte, reduceCtorEq, Nat.reduceAdd, Nat.reduceLT, Nat.reduceLeDiff, Nat.reduceEqDiff, Nat.reduceMul, Int.reduceNeg, acmpnil, appBox, storeB, appendTo, teset, e0, e5, e15, e16, e17, rc, inj_len, inj_one, List.length_map, range1, htk, hb0, List.length_map]
            exact ⟨n', by omega, j + 1, _, _, acc ++ [intV q], _, rfl, rfl, by rw [wrap_succ (by omega)], by omega, by (repeat (first | assumption | exact ExtX.refl hlt | refine ExtX.own ?_ _ | refine ExtX.new ?_ _ | refine ExtX.newTok ?_ | refine ExtX.setTok ?_ (by omega) _ | refine ExtX.set ?_ (by first | omega | (simp only [new_nb, set_nb, kill_nb, newTok_nb, setTok_nb]; omega)) _)), hfs, rfl, .inr ⟨t, G + 1, by simp, (by show (AH.setTok _ t (G + 1)).tok t = _; rw [setTok_tok, if_pos rfl]), htn⟩, hlen3, hit⟩
        | false =>
          cases hd1 : decide (q > 1000000000000) with
          | true =>
            have hd2 : True := trivial
            have hfi : fIn q (l3, false) = (l3, true) := by simp only [decide_eq_true_eq] at hd1; unfold fIn; rw [if_neg (by omega)]
            rw [hfi] at hit
            have hfs : (l3, true).1 <:+ s := hms
            have hlen3 : ∀ l', (l3, true) = (l', false) → (acc ++ [intV q]).length + l'.length ≤ s.length ∧ -1000000000000 ≤ q ∧ q ≤ 1000000000000 := fun l' e => by cases e
            rcases ho with ⟨rfl, rfl⟩ | ⟨t, G, rfl, htk, htn⟩
            · simp only [aws, eq_self, implies_true, imp_self, reduceIte, reduceCtorEq, Nat.reduceAdd, Nat.reduceLT, Nat.reduceLeDiff, Nat.reduceEqDiff, Nat.reduceMul, Int.reduceNeg, acmpnil, appBox, storeB, appendTo, teset, e0, e5, e15, e16, e17, rc, inj_len, inj_one, range1, hd1]
              refine .inl ?_
              exact ⟨n', by omega, j + 1, _, _, [] ++ [intV q], _, rfl, rfl, by rw [wrap_succ (by omega)], by omega, by (repeat (first | assumption | exact ExtX.refl hlt | refine ExtX.own ?_ _ | refine ExtX.new ?_ _ | refine ExtX.newTok ?_ | refine ExtX.setTok ?_ (by omega) _ | refine ExtX.set ?_ (by first | omega | (simp only [new_nb, set_nb, kill_nb, newTok_nb, setTok_nb]; omega)) _)), hfs, rfl, .inr ⟨h'.nt, 0, rfl, (by show (AH.newTok _).tok _ = _; exact newTok_at rfl), cX.nt⟩, hlen3, hit⟩
            · have hb0 : (acc.length + 1) * 80 ≤ 140737488355328 := by omega
              simp only [aws, eq_self, implies_true, imp_self, reduceIte, reduceCtorEq, Nat.reduceAdd, Nat.reduceLT, Nat.reduceLeDiff, Nat.reduceEqDiff, Nat.reduceMul, Int.reduceNeg, acmpnil, appBox, storeB, appendTo, teset, e0, e5, e15, e16, e17, rc, inj_len, inj_one, List.length_map, range1, htk, hb0, List.length_map, hd1]
              exact ⟨n', by omega, j + 1, _, _, acc ++ [intV q], _, rfl, rfl, by rw [wrap_succ (by omega)], by omega, by (repeat (first | assumption | exact ExtX.refl hlt | refine ExtX.own ?_ _ | refine ExtX.new ?_ _ | refine ExtX.newTok ?_ | refine ExtX.setTok ?_ (by omega) _ | refine ExtX.set ?_ (by first | omega | (simp only [new_nb, set_nb, kill_nb, newTok_nb, setTok_nb]; omega)) _)), hfs, rfl, .inr ⟨t, G + 1, by simp, (by show (AH.setTok _ t (G + 1)).tok t = _; rw [setTok_tok, if_pos rfl]), htn⟩, hlen3, hit⟩
          | false =>
            cases hd2 : decide (q < -1000000000000) with
            | true =>
              have hfi : fIn q (l3, false) = (l3, true) := by simp only [decide_eq_true_eq] at hd2; unfold fIn; rw [if_neg (by omega)]
              rw [hfi] at hit
              have hfs : (l3, true).1 <:+ s := hms
              have hlen3 : ∀ l', (l3, true) = (l', false) → (acc ++ [intV q]).length + l'.length ≤ s.length ∧ -1000000000000 ≤ q ∧ q ≤ 1000000000000 := fun l' e => by cases e
              rcases ho with ⟨rfl, rfl⟩ | ⟨t, G, rfl, htk, htn⟩
              · simp only [aws, eq_self, implies_true, reduceIte, reduceCtorEq, Nat.reduceAdd, Nat.reduceLT, Nat.reduceLeDiff, Nat.reduceEqDiff, Nat.reduceMul, Int.reduceNeg, acmpnil, appBox, storeB, appendTo, teset, e0, e5, e15, e16, e17, rc, inj_len, inj_one, range1, hd1, hd2]
                refine .inl ?_
                exact ⟨n', by omega, j + 1, _, _, [] ++ [intV q], _, rfl, rfl, by rw [wrap_succ (by omega)], by omega, by (repeat (first | assumption | exact ExtX.refl hlt | refine ExtX.own ?_ _ | refine ExtX.new ?_ _ | refine ExtX.newTok ?_ | refine ExtX.setTok ?_ (by omega) _ | refine ExtX.set ?_ (by first | omega | (simp only [new_nb, set_nb, kill_nb, newTok_nb, setTok_nb]; omega)) _)), hfs, rfl, .inr ⟨h'.nt, 0, rfl, (by show (AH.newTok _).tok _ = _; exact newTok_at rfl), cX.nt⟩, hlen3, hit⟩
              · have hb0 : (acc.length + 1) * 80 ≤ 140737488355328 := by omega
                simp only [aws, eq_self, implies_true, reduceIte, reduceCtorEq, Nat.reduceAdd, Nat.reduceLT, Nat.reduceLeDiff, Nat.reduceEqDiff, Nat.reduceMul, Int.reduceNeg, acmpnil, appBox, storeB, appendTo, teset, e0, e5, e15, e16, e17, rc, inj_len, inj_one, List.length_map, range1, htk, hb0, List.length_map, hd1, hd2]
                exact ⟨n', by omega, j + 1, _, _, acc ++ [intV q], _, rfl, rfl, by rw [wrap_succ (by omega)], by omega, by (repeat (first | assumption | exact ExtX.refl hlt | refine ExtX.own ?_ _ | refine ExtX.new ?_ _ | refine ExtX.newTok ?_ | refine ExtX.setTok ?_ (by omega) _ | refine ExtX.set ?_ (by first | omega | (simp only [new_nb, set_nb, kill_nb, newTok_nb, setTok_nb]; omega)) _)), hfs, rfl, .inr ⟨t, G + 1, by simp, (by show (AH.setTok _ t (G + 1)).tok t = _; rw [setTok_tok, if_pos rfl]), htn⟩, hlen3, hit⟩
            | false =>
              have hr : -1000000000000 ≤ q ∧ q ≤ 1000000000000 := by simp only [decide_eq_false_iff_not] at hd1 hd2; omega
              have hfi : fIn q (l3, false) = (l3, false) := by unfold fIn; rw [if_pos hr]
              rw [hfi] at hit
              have hfs : (l3, false).1 <:+ s := hms
              have hlen3 : ∀ l', (l3, false) = (l', false) → (acc ++ [intV q]).length + l'.length ≤ s.length ∧ -1000000000000 ≤ q ∧ q ≤ 1000000000000 := fun l'' e => by
                cases e
                have := hml l3 rfl
                rw [List.length_append, List.length_singleton]
                exact ⟨by omega, hr⟩
              rcases ho with ⟨rfl, rfl⟩ | ⟨t, G, rfl, htk, htn⟩
              · simp only [aws, eq_self, implies_true, reduceIte, reduceCtorEq, Nat.reduceAdd, Nat.reduceLT, Nat.reduceLeDiff, Nat.reduceEqDiff, Nat.reduceMul, Int.reduceNeg, acmpnil, appBox, storeB, appendTo, teset, e0, e5, e15, e16, e17, rc, inj_len, inj_one, range1, hd1, hd2]
                refine .inl ?_
                exact ⟨n', by omega, j + 1, _, _, [] ++ [intV q], _, rfl, rfl, by rw [wrap_succ (by omega)], by omega, by (repeat (first | assumption | exact ExtX.refl hlt | refine ExtX.own ?_ _ | refine ExtX.new ?_ _ | refine ExtX.newTok ?_ | refine ExtX.setTok ?_ (by omega) _ | refine ExtX.set ?_ (by first | omega | (simp only [new_nb, set_nb, kill_nb, newTok_nb, setTok_nb]; omega)) _)), hfs, rfl, .inr ⟨h'.nt, 0, rfl, (by show (AH.newTok _).tok _ = _; exact newTok_at rfl), cX.nt⟩, hlen3, hit⟩
              · have hb0 : (acc.length + 1) * 80 ≤ 140737488355328 := by omega
                simp only [aws, eq_self, implies_true, reduceIte, reduceCtorEq, Nat.reduceAdd, Nat.reduceLT, Nat.reduceLeDiff, Nat.reduceEqDiff, Nat.reduceMul, Int.reduceNeg, acmpnil, appBox, storeB, appendTo, teset, e0, e5, e15, e16, e17, rc, inj_len, inj_one, List.length_map, range1, htk, hb0, List.length_map, hd1, hd2]
                exact ⟨n', by omega, j + 1, _, _, acc ++ [intV q], _, rfl, rfl, by rw [wrap_succ (by omega)], by omega, by (repeat (first | assumption | exact ExtX.refl hlt | refine ExtX.own ?_ _ | refine ExtX.new ?_ _ | refine ExtX.newTok ?_ | refine ExtX.setTok ?_ (by omega) _ | refine ExtX.set ?_ (by first | omega | (simp only [new_nb, set_nb, kill_nb, newTok_nb, setTok_nb]; omega)) _)), hfs, rfl, .inr ⟨t, G + 1, by simp, (by show (AH.setTok _ t (G + 1)).tok t = _; rw [setTok_tok, if_pos rfl]), htn⟩, hlen3, hit⟩
end Go.Proofs.YtlbhgoffiigfbaaGreat.AW
end
section
set_option linter.unusedSimpArgs false
set_option linter.unusedVariables false
namespace Go.Proofs.YtlbhgoffiigfbaaGreat.AW
open Go Go.RowKit

theorem refint_pure (i : Int) (h1 : -1000000000000000000 ≤ i) (h2 : i ≤ 1000000000000000000) : Pure Tryz.prog 51 [.int .i64 i] (.str (sB (numA (zig i)))) := by
  have hz := zig_lt h1 h2
  refine Pure.of ⟨Tryz.f51, Tryz.func51, rfl, by kernel_rfl⟩ rfl (fun h => ?_)
  refine acalls_of te_ok [] Tryz.func51 (c := _) rfl (Nat.le_of_ble_eq_true rfl) ?_
  simp only [aws, eq_self, reduceIte, Nat.reduceLT, Int.reduceNeg, acmpnil, Tryz.ntmps51, Tryz.results51]
  cases hc : decide (i < 0) with
  | true =>
    simp only [decide_eq_true_eq] at hc
    have e : IntKind.i64.wrap (IntKind.i64.wrap (-2 * i) - 1) = ((zig i : Nat) : Int) := by
      rw [wrapS (n := -2 * i) (by omega) (by omega), wrapS (by omega) (by omega)]
      unfold zig; rw [if_pos hc]; omega
    simp only [aws, eq_self, reduceIte, Nat.reduceLT, Int.reduceNeg, acmpnil, e]
    refine ACallV.pure (count_pure (zig i) hz) ?_
    simp only [aws, eq_self, reduceIte, Nat.reduceLT, Int.reduceNeg, ares1]
    exact ⟨.refl _, _, rfl, by rw [sB_num]; rfl⟩
  | false =>
    simp only [decide_eq_false_iff_not] at hc
    have e : IntKind.i64.wrap (2 * i) = ((zig i : Nat) : Int) := by
      rw [wrapS (by omega) (by omega)]
      unfold zig; rw [if_neg hc]; omega
    simp only [aws, eq_self, reduceIte, Nat.reduceLT, Int.reduceNeg, acmpnil, e]
    refine ACallV.pure (count_pure (zig i) hz) ?_
    simp only [aws, eq_self, reduceIte, Nat.reduceLT, Nat.reduceEqDiff, ares1]
    exact ⟨.refl _, _, rfl, by rw [sB_num]; rfl⟩
theorem refstr_pure (s : ByteArray) (hs : s.size < 1000000000) : Pure Tryz.prog 62 [.str s] (.str (sB (strA s))) := by
  have hsz : (numS s.size).size + s.size ≤ 9223372036854775807 := by
    rw [sB_num, sB_size (BY.num _)]
    have := numA_len s.size (by omega)
    omega
  refine Pure.of ⟨Tryz.f62, Tryz.func62, rfl, by kernel_rfl⟩ rfl (fun h => ?_)
  refine acalls_of te_ok [] Tryz.func62 (c := _) rfl (Nat.le_of_ble_eq_true rfl) ?_
  simp only [aws, eq_self, reduceIte, Nat.reduceLT, teset, Tryz.ntmps62, Tryz.results62]
  refine ACallV.pure (count_pure s.size (by omega)) ?_
  simp only [aws, eq_self, reduceIte, Nat.reduceLT, acmpnil, ares1, astr, hsz]
  exact ⟨.refl _, _, rfl, by rw [sB_str]; rfl⟩
end Go.Proofs.YtlbhgoffiigfbaaGreat.AW
end
section
set_option linter.unusedSimpArgs false
set_option linter.unusedVariables false
namespace Go.Proofs.YtlbhgoffiigfbaaGreat.AW
open Go Go.RowKit

theorem valA_head (k i : Int) (t : ByteArray) (xs : List V) (ks : List ByteArray) : valA (.mk k i t xs ks) = [.int .u8 (IntKind.u8.wrap k)] ++ (if k = 1 then [.int .u8 (IntKind.u8.wrap i)] else if k = 2 then numA (zig i) else if k = 3 then strA t else if k = 4 ∨ k = 5 then numA xs.length ++ valL (k == 5) xs ks else []) := by rw [valA]; rfl
theorem catB {a b : List AV} (ha : BY a) (hb : BY b) (hl : a.length + b.length ≤ 1000000) : (sB a).size + (sB b).size ≤ 9223372036854775807 := by
  rw [sB_size ha, sB_size hb]; omega
set_option maxHeartbeats 4000000 in
theorem refvalue_pure : ∀ (v : V), Vok v → Pure Tryz.prog 49 [inj v] (.str (sB (valA v))) := by
  intro v
  induction v using V.ind with
  | h k i t xs ks ih =>
    intro hv
    have hsh := (Vok.shape hv).1
    obtain ⟨hi, ht, hkz⟩ := shape_small hsh
    have htwo := shape_two hsh
    have hxl := (Vok.shape hv).2
    have hkl := (Vok.keys hv).1
    have hxi := Vok.items hv
    have hvl := hv.valA_len
    simp only [V.kind, V.keys, V.items] at hxl hkl hxi
    have hone := BY.one k
    have hav : avB [AV.int .u8 (IntKind.u8.wrap k)] = some (asB [AV.int .u8 (IntKind.u8.wrap k)]) := hone.avB
    have hci : ([AV.int .u8 (IntKind.u8.wrap k)] : List AV).flatMap AV.cells = [.int .u8 (IntKind.u8.wrap k)] := rfl
    have hs0 : (⟨⟨asB [AV.int .u8 (IntKind.u8.wrap k)]⟩⟩ : ByteArray) = sB [.int .u8 (IntKind.u8.wrap k)] := rfl
    rw [inj_mk]
    refine Pure.of ⟨Tryz.f49, Tryz.func49, rfl, by kernel_rfl⟩ rfl (fun h => ?_)
    refine acalls_of te_ok [] Tryz.func49 (c := _) rfl (Nat.le_of_ble_eq_true rfl) ?_
    simp only [aws, eq_self, reduceIte, reduceCtorEq, Nat.reduceLT, Nat.reduceLeDiff, Nat.reduceEqDiff, Nat.reduceMul, aconv, acvB, acmpnil, teset, Tryz.ntmps49, Tryz.results49, boxR, cellsOf, hci, hav, hs0, range1]
    have hvh := valA_head k i t xs ks
    cases h1 : (k == 1) with
    | true =>
      have hk : k = 1 := by simpa using h1
      have hone2 := BY.one i
      have hav2 : avB [AV.int .u8 (IntKind.u8.wrap i)] = some (asB [AV.int .u8 (IntKind.u8.wrap i)]) := hone2.avB
      have hci2 : ([AV.int .u8 (IntKind.u8.wrap i)] : List AV).flatMap AV.cells = [.int .u8 (IntKind.u8.wrap i)] := rfl
      have hs2 : (⟨⟨asB [AV.int .u8 (IntKind.u8.wrap i)]⟩⟩ : ByteArray) = sB [.int .u8 (IntKind.u8.wrap i)] := rfl
      have hcat := catB hone hone2 (by simp)
      simp only [aws, eq_self, reduceIte, reduceCtorEq, Nat.reduceLT, Nat.reduceLeDiff, Nat.reduceEqDiff, Nat.reduceMul, aconv, acvB, acmpnil, ares1, teset, cellsOf, hci2, hav2, hs2, range1, astr, hcat]
      refine ⟨by (repeat (first | exact AH.Ext.refl _ | assumption | refine AH.Ext.set ?_ (by first | omega | (simp only [new_nb, set_nb, kill_nb, newTok_nb, setTok_nb]; omega)) _ | refine AH.Ext.new ?_ _)), _, rfl, ?_⟩
      rw [sB_app hone hone2, hvh, if_pos hk]; rfl
    | false =>
      have hk1 : k ≠ 1 := by simpa using h1
      simp only [aws, eq_self, reduceIte, Nat.reduceLT, Nat.reduceEqDiff, acmpnil]
      cases h2 : (k == 2) with
      | true =>
        have hk : k = 2 := by simpa using h2
        have hcat := catB hone (BY.num (zig i)) (by have := numA_len (zig i) (zig_lt (by omega) (by omega)); simp; omega)
        simp only [aws, eq_self, reduceIte, Nat.reduceLT, Nat.reduceEqDiff, teset]
        refine ACallV.pure (refint_pure i (by omega) (by omega)) ?_
        simp only [aws, eq_self, reduceIte, Nat.reduceLT, Nat.reduceEqDiff, acmpnil, ares1, astr, hcat]
        refine ⟨by (repeat (first | exact AH.Ext.refl _ | assumption | refine AH.Ext.set ?_ (by first | omega | (simp only [new_nb, set_nb, kill_nb, newTok_nb, setTok_nb]; omega)) _ | refine AH.Ext.new ?_ _)), _, rfl, ?_⟩
        rw [sB_app hone (BY.num _), hvh, if_neg hk1, if_pos hk]; rfl
      | false =>
        have hk2 : k ≠ 2 := by simpa using h2
        simp only [aws, eq_self, reduceIte, Nat.reduceLT, Nat.reduceEqDiff, acmpnil]
        cases h3 : (k == 3) with
        | true =>
          have hk : k = 3 := by simpa using h3
          have hcat := catB hone (BY.str t) (by have := strA_len t ht; simp; omega)
          simp only [aws, eq_self, reduceIte, Nat.reduceLT, Nat.reduceEqDiff, teset]
          refine ACallV.pure (refstr_pure t (by omega)) ?_
          simp only [aws, eq_self, reduceIte, Nat.reduceLT, Nat.reduceEqDiff, acmpnil, ares1, astr, hcat]
          refine ⟨by (repeat (first | exact AH.Ext.refl _ | assumption | refine AH.Ext.set ?_ (by first | omega | (simp only [new_nb, set_nb, kill_nb, newTok_nb, setTok_nb]; omega)) _ | refine AH.Ext.new ?_ _)), _, rfl, ?_⟩
          rw [sB_app hone (BY.str _), hvh, if_neg hk1, if_neg hk2, if_pos hk]; rfl
        | false =>
          have hk3 : k ≠ 3 := by simpa using h3
          have hcat := catB hone (BY.num xs.length) (by have := numA_len xs.length (by omega); simp; omega)
          have hst4 : k = 4 ∨ k = 5 → ∃ ys0, sB ys0 = sB [AV.int .u8 (IntKind.u8.wrap k)] ++ sB (numA xs.length) ∧ BY ys0 ∧ ys0 ++ valL (k == 5) xs ks = valA (.mk k i t xs ks) := fun hk => ⟨_, (sB_app hone (BY.num _)).symm, BY.app hone (BY.num _), by rw [hvh, if_neg hk1, if_neg hk2, if_neg hk3, if_pos hk, List.append_assoc]⟩
          simp only [aws, eq_self, reduceIte, Nat.reduceLT, Nat.reduceEqDiff, acmpnil]
          cases h4 : (k == 4) with
          | true =>
            obtain ⟨ys0, q1, q2, q3⟩ := hst4 (.inl (by simpa using h4))
            simp only [aws, eq_self, reduceIte, Nat.reduceLT, Nat.reduceEqDiff, teset, List.length_map]
            refine ACallV.pure (count_pure xs.length (by omega)) ?_
            simp only [aws, eq_self, reduceIte, Nat.reduceLT, Nat.reduceEqDiff, acmpnil, sB_num, astr, hcat]
            refine ⟨fun n s' h' => ∃ (j : Nat) (ys : List AV), s' 1 = .ptr h.nb 0 ∧ s' 3 = .str (sB ys) ∧ s' 4 = .int .i64 j ∧ h' = h.new [.int .i64 k, .int .i64 i, .str t, .sl .ro 5 (List.map inj xs), .sl .ro 1 (List.map AV.str ks)] ∧ n + j = xs.length ∧ BY ys ∧ ys ++ valL (k == 5) (xs.drop j) (ks.drop j) = valA (.mk k i t xs ks), ⟨xs.length, 0, ys0, ?_⟩, ?_⟩
            · simp only [aws, eq_self, reduceIte, Nat.reduceEqDiff, Int.natCast_zero, q1, q2, q3]
              first | done | exact ⟨rfl, rfl⟩ | rfl
            · rintro n s' h' ⟨j, ys, e1, e3, e4, hh, hn, hys, hv⟩
              subst hh
              simp only [aws, eq_self, reduceIte, Nat.reduceLT, Nat.reduceEqDiff, acmpnil, teset, e1, e4, List.length_map]
              cases hc : decide ((j : Int) < (xs.length : Int)) with
              | false =>
                simp only [aws, eq_self, reduceIte, Nat.reduceLT, Nat.reduceEqDiff, ares1, e3]
                simp only [decide_eq_false_iff_not] at hc
                rw [List.drop_eq_nil_of_le (by omega)] at hv
                have hvn : ∀ (o : Bool) (l : List ByteArray), valL o [] l = [] := fun o l => by cases o <;> simp [valL]
                rw [hvn, List.append_nil] at hv
                exact ⟨by (repeat (first | exact AH.Ext.refl _ | assumption | refine AH.Ext.set ?_ (by first | omega | (simp only [new_nb, set_nb, kill_nb, newTok_nb, setTok_nb]; omega)) _ | refine AH.Ext.new ?_ _)), _, rfl, by rw [hv]; rfl⟩
              | true =>
                simp only [decide_eq_true_eq] at hc
                have hj : j < xs.length := by omega
                have hget : (xs.map inj)[((j : Nat) : Int).toNat]? = some (inj xs[j]) := by simp [hj]
                have hlv : (ys ++ valL (k == 5) (xs.drop j) (ks.drop j)).length = (valA (.mk k i t xs ks)).length := by rw [hv]
                have hihj := ih _ (List.getElem_mem hj) (hxi _ (List.getElem_mem hj))
                have hbx := BY.val xs[j]
                simp only [aws, eq_self, reduceIte, Nat.reduceLT, Nat.reduceEqDiff, acmpnil, teset, e1]
                cases h5 : (k == 5) with
                | false =>
                  rw [h5, valL_f hj _ (ks.drop (j + 1))] at hv hlv
                  simp only [List.length_append] at hlv
                  have hc1 := catB hys hbx (by omega)
                  simp only [aws, eq_self, reduceIte, Nat.reduceLT, Nat.reduceLeDiff, Nat.reduceEqDiff, teset, e1, e3, e4, inj_take, inj_agg, inj_len, hget, Int.natCast_nonneg]
                  refine ACallV.pure hihj ?_
                  simp only [aws, eq_self, reduceIte, Nat.reduceLT, Nat.reduceEqDiff, acmpnil, e1, e3, e4, astr, hc1]
                  refine ⟨n - 1, by omega, j + 1, ys ++ valA xs[j], ?_, by rw [wrap_succ (by omega)], by omega, BY.app hys hbx, ?_⟩
                  · rw [sB_app hys hbx]
                  · rw [List.append_assoc]; exact hv
                | true =>
                  have hk5 : k = 5 := by simpa using h5
                  have hjk : j < ks.length := by rw [hkl hk5]; exact hj
                  have hgk : (ks.map AV.str)[((j : Nat) : Int).toNat]? = some (.str ks[j]) := by rw [Int.toNat_natCast, List.getElem?_map, List.getElem?_eq_getElem hjk]; rfl
                  rw [h5, valL_t hj hjk] at hv hlv
                  simp only [List.length_append] at hlv
                  have hks := hkz _ (List.getElem_mem hjk)
                  have hbs := BY.str ks[j]
                  have hc1 := catB hys hbs (by omega)
                  have hc2 : (sB ys ++ sB (strA ks[j])).size + (sB (valA xs[j])).size ≤ 9223372036854775807 := by
                    rw [sB_app hys hbs]
                    exact catB (BY.app hys hbs) hbx (by rw [List.length_append]; omega)
                  simp only [aws, eq_self, reduceIte, Nat.reduceLT, Nat.reduceEqDiff, teset, e1, e3, e4, hgk, Int.natCast_nonneg]
                  refine ACallV.pure (refstr_pure ks[j] (by omega)) ?_
                  simp only [aws, eq_self, reduceIte, Nat.reduceLT, Nat.reduceLeDiff, Nat.reduceEqDiff, acmpnil, teset, e1, e3, e4, inj_take, inj_agg, inj_len, hget, Int.natCast_nonneg, astr, hc1]
                  refine ACallV.pure hihj ?_
                  simp only [aws, eq_self, reduceIte, Nat.reduceLT, Nat.reduceEqDiff, acmpnil, e1, e3, e4, astr, hc2]
                  refine ⟨n - 1, by omega, j + 1, ys ++ strA ks[j] ++ valA xs[j], ?_, by rw [wrap_succ (by omega)], by omega, BY.app (BY.app hys hbs) hbx, ?_⟩
                  · rw [sB_app hys hbs, sB_app (BY.app hys hbs) hbx]
                  · rw [List.append_assoc, List.append_assoc]; exact hv
          | false =>
            have hk4 : k ≠ 4 := by simpa using h4
            simp only [aws, eq_self, reduceIte, Nat.reduceLT, Nat.reduceEqDiff, acmpnil]
            cases h5 : (k == 5) with
            | true =>
              obtain ⟨ys0, q1, q2, q3⟩ := hst4 (.inr (by simpa using h5))
              simp only [aws, eq_self, reduceIte, Nat.reduceLT, Nat.reduceEqDiff, teset, List.length_map]
              refine ACallV.pure (count_pure xs.length (by omega)) ?_
              simp only [aws, eq_self, reduceIte, Nat.reduceLT, Nat.reduceEqDiff, acmpnil, sB_num, astr, hcat]
              refine ⟨fun n s' h' => ∃ (j : Nat) (ys : List AV), s' 1 = .ptr h.nb 0 ∧ s' 3 = .str (sB ys) ∧ s' 4 = .int .i64 j ∧ h' = h.new [.int .i64 k, .int .i64 i, .str t, .sl .ro 5 (List.map inj xs), .sl .ro 1 (List.map AV.str ks)] ∧ n + j = xs.length ∧ BY ys ∧ ys ++ valL (k == 5) (xs.drop j) (ks.drop j) = valA (.mk k i t xs ks), ⟨xs.length, 0, ys0, ?_⟩, ?_⟩
              · simp only [aws, eq_self, reduceIte, Nat.reduceEqDiff, Int.natCast_zero, q1, q2, q3]
                first | done | exact ⟨rfl, rfl⟩ | rfl
              · rintro n s' h' ⟨j, ys, e1, e3, e4, hh, hn, hys, hv⟩
                subst hh
                simp only [aws, eq_self, reduceIte, Nat.reduceLT, Nat.reduceEqDiff, acmpnil, teset, e1, e4, List.length_map]
                cases hc : decide ((j : Int) < (xs.length : Int)) with
                | false =>
                  simp only [aws, eq_self, reduceIte, Nat.reduceLT, Nat.reduceEqDiff, ares1, e3]
                  simp only [decide_eq_false_iff_not] at hc
                  rw [List.drop_eq_nil_of_le (by omega)] at hv
                  have hvn : ∀ (o : Bool) (l : List ByteArray), valL o [] l = [] := fun o l => by cases o <;> simp [valL]
                  rw [hvn, List.append_nil] at hv
                  exact ⟨by (repeat (first | exact AH.Ext.refl _ | assumption | refine AH.Ext.set ?_ (by first | omega | (simp only [new_nb, set_nb, kill_nb, newTok_nb, setTok_nb]; omega)) _ | refine AH.Ext.new ?_ _)), _, rfl, by rw [hv]; rfl⟩
                | true =>
                  simp only [decide_eq_true_eq] at hc
                  have hj : j < xs.length := by omega
                  have hget : (xs.map inj)[((j : Nat) : Int).toNat]? = some (inj xs[j]) := by simp [hj]
                  have hlv : (ys ++ valL (k == 5) (xs.drop j) (ks.drop j)).length = (valA (.mk k i t xs ks)).length := by rw [hv]
                  have hihj := ih _ (List.getElem_mem hj) (hxi _ (List.getElem_mem hj))
                  have hbx := BY.val xs[j]
                  simp only [aws, eq_self, reduceIte, Nat.reduceLT, Nat.reduceEqDiff, acmpnil, teset, e1]
                  cases h5 : (k == 5) with
                  | false =>
                    rw [h5, valL_f hj _ (ks.drop (j + 1))] at hv hlv
                    simp only [List.length_append] at hlv
                    have hc1 := catB hys hbx (by omega)
                    simp only [aws, eq_self, reduceIte, Nat.reduceLT, Nat.reduceLeDiff, Nat.reduceEqDiff, teset, e1, e3, e4, inj_take, inj_agg, inj_len, hget, Int.natCast_nonneg]
                    refine ACallV.pure hihj ?_
                    simp only [aws, eq_self, reduceIte, Nat.reduceLT, Nat.reduceEqDiff, acmpnil, e1, e3, e4, astr, hc1]
                    refine ⟨n - 1, by omega, j + 1, ys ++ valA xs[j], ?_, by rw [wrap_succ (by omega)], by omega, BY.app hys hbx, ?_⟩
                    · rw [sB_app hys hbx]
                    · rw [List.append_assoc]; exact hv
                  | true =>
                    have hk5 : k = 5 := by simpa using h5
                    have hjk : j < ks.length := by rw [hkl hk5]; exact hj
                    have hgk : (ks.map AV.str)[((j : Nat) : Int).toNat]? = some (.str ks[j]) := by rw [Int.toNat_natCast, List.getElem?_map, List.getElem?_eq_getElem hjk]; rfl
                    rw [h5, valL_t hj hjk] at hv hlv
                    simp only [List.length_append] at hlv
                    have hks := hkz _ (List.getElem_mem hjk)
                    have hbs := BY.str ks[j]
                    have hc1 := catB hys hbs (by omega)
                    have hc2 : (sB ys ++ sB (strA ks[j])).size + (sB (valA xs[j])).size ≤ 9223372036854775807 := by
                      rw [sB_app hys hbs]
                      exact catB (BY.app hys hbs) hbx (by rw [List.length_append]; omega)
                    simp only [aws, eq_self, reduceIte, Nat.reduceLT, Nat.reduceEqDiff, teset, e1, e3, e4, hgk, Int.natCast_nonneg]
                    refine ACallV.pure (refstr_pure ks[j] (by omega)) ?_
                    simp only [aws, eq_self, reduceIte, Nat.reduceLT, Nat.reduceLeDiff, Nat.reduceEqDiff, acmpnil, teset, e1, e3, e4, inj_take, inj_agg, inj_len, hget, Int.natCast_nonneg, astr, hc1]
                    refine ACallV.pure hihj ?_
                    simp only [aws, eq_self, reduceIte, Nat.reduceLT, Nat.reduceEqDiff, acmpnil, e1, e3, e4, astr, hc2]
                    refine ⟨n - 1, by omega, j + 1, ys ++ strA ks[j] ++ valA xs[j], ?_, by rw [wrap_succ (by omega)], by omega, BY.app (BY.app hys hbs) hbx, ?_⟩
                    · rw [sB_app hys hbs, sB_app (BY.app hys hbs) hbx]
                    · rw [List.append_assoc, List.append_assoc]; exact hv
            | false =>
              have hk5 : k ≠ 5 := by simpa using h5
              obtain ⟨ys0, q1, q2, q3⟩ : ∃ ys0, sB ys0 = sB [AV.int .u8 (IntKind.u8.wrap k)] ∧ BY ys0 ∧ ys0 ++ valL (k == 5) xs ks = valA (.mk k i t xs ks) := ⟨_, rfl, hone, by
                rcases htwo with ⟨_, _, rfl, rfl⟩ | ⟨h45, _⟩
                · rw [hvh, if_neg hk1, if_neg hk2, if_neg hk3, if_neg (by omega)]
                  have hvn : ∀ (o : Bool) (l : List ByteArray), valL o [] l = [] := fun o l => by cases o <;> simp [valL]
                  rw [hvn]
                · omega⟩
              simp only [aws, eq_self, Nat.reduceLT]
              refine ⟨fun n s' h' => ∃ (j : Nat) (ys : List AV), s' 1 = .ptr h.nb 0 ∧ s' 3 = .str (sB ys) ∧ s' 4 = .int .i64 j ∧ h' = h.new [.int .i64 k, .int .i64 i, .str t, .sl .ro 5 (List.map inj xs), .sl .ro 1 (List.map AV.str ks)] ∧ n + j = xs.length ∧ BY ys ∧ ys ++ valL (k == 5) (xs.drop j) (ks.drop j) = valA (.mk k i t xs ks), ⟨xs.length, 0, ys0, ?_⟩, ?_⟩
              · simp only [aws, eq_self, reduceIte, Nat.reduceEqDiff, Int.natCast_zero, q1, q2, q3]
                first | done | exact ⟨rfl, rfl⟩ | rfl
              · rintro n s' h' ⟨j, ys, e1, e3, e4, hh, hn, hys, hv⟩
                subst hh
                simp only [aws, eq_self, reduceIte, Nat.reduceLT, Nat.reduceEqDiff, acmpnil, teset, e1, e4, List.length_map]
                cases hc : decide ((j : Int) < (xs.length : Int)) with
                | false =>
                  simp only [aws, eq_self, reduceIte, Nat.reduceLT, Nat.reduceEqDiff, ares1, e3]
                  simp only [decide_eq_false_iff_not] at hc
                  rw [List.drop_eq_nil_of_le (by omega)] at hv
                  have hvn : ∀ (o : Bool) (l : List ByteArray), valL o [] l = [] := fun o l => by cases o <;> simp [valL]
                  rw [hvn, List.append_nil] at hv
                  exact ⟨by (repeat (first | exact AH.Ext.refl _ | assumption | refine AH.Ext.set ?_ (by first | omega | (simp only [new_nb, set_nb, kill_nb, newTok_nb, setTok_nb]; omega)) _ | refine AH.Ext.new ?_ _)), _, rfl, by rw [hv]; rfl⟩
                | true =>
                  simp only [decide_eq_true_eq] at hc
                  have hj : j < xs.length := by omega
                  have hget : (xs.map inj)[((j : Nat) : Int).toNat]? = some (inj xs[j]) := by simp [hj]
                  have hlv : (ys ++ valL (k == 5) (xs.drop j) (ks.drop j)).length = (valA (.mk k i t xs ks)).length := by rw [hv]
                  have hihj := ih _ (List.getElem_mem hj) (hxi _ (List.getElem_mem hj))
                  have hbx := BY.val xs[j]
                  simp only [aws, eq_self, reduceIte, Nat.reduceLT, Nat.reduceEqDiff, acmpnil, teset, e1]
                  cases h5 : (k == 5) with
                  | false =>
                    rw [h5, valL_f hj _ (ks.drop (j + 1))] at hv hlv
                    simp only [List.length_append] at hlv
                    have hc1 := catB hys hbx (by omega)
                    simp only [aws, eq_self, reduceIte, Nat.reduceLT, Nat.reduceLeDiff, Nat.reduceEqDiff, teset, e1, e3, e4, inj_take, inj_agg, inj_len, hget, Int.natCast_nonneg]
                    refine ACallV.pure hihj ?_
                    simp only [aws, eq_self, reduceIte, Nat.reduceLT, Nat.reduceEqDiff, acmpnil, e1, e3, e4, astr, hc1]
                    refine ⟨n - 1, by omega, j + 1, ys ++ valA xs[j], ?_, by rw [wrap_succ (by omega)], by omega, BY.app hys hbx, ?_⟩
                    · rw [sB_app hys hbx]
                    · rw [List.append_assoc]; exact hv
                  | true =>
                    have hk5 : k = 5 := by simpa using h5
                    have hjk : j < ks.length := by rw [hkl hk5]; exact hj
                    have hgk : (ks.map AV.str)[((j : Nat) : Int).toNat]? = some (.str ks[j]) := by rw [Int.toNat_natCast, List.getElem?_map, List.getElem?_eq_getElem hjk]; rfl
                    rw [h5, valL_t hj hjk] at hv hlv
                    simp only [List.length_append] at hlv
                    have hks := hkz _ (List.getElem_mem hjk)
                    have hbs := BY.str ks[j]
                    have hc1 := catB hys hbs (by omega)
                    have hc2 : (sB ys ++ sB (strA ks[j])).size + (sB (valA xs[j])).size ≤ 9223372036854775807 := by
                      rw [sB_app hys hbs]
                      exact catB (BY.app hys hbs) hbx (by rw [List.length_append]; omega)
                    simp only [aws, eq_self, reduceIte, Nat.reduceLT, Nat.reduceEqDiff, teset, e1, e3, e4, hgk, Int.natCast_nonneg]
                    refine ACallV.pure (refstr_pure ks[j] (by omega)) ?_
                    simp only [aws, eq_self, reduceIte, Nat.reduceLT, Nat.reduceLeDiff, Nat.reduceEqDiff, acmpnil, teset, e1, e3, e4, inj_take, inj_agg, inj_len, hget, Int.natCast_nonneg, astr, hc1]
                    refine ACallV.pure hihj ?_
                    simp only [aws, eq_self, reduceIte, Nat.reduceLT, Nat.reduceEqDiff, acmpnil, e1, e3, e4, astr, hc2]
                    refine ⟨n - 1, by omega, j + 1, ys ++ strA ks[j] ++ valA xs[j], ?_, by rw [wrap_succ (by omega)], by omega, BY.app (BY.app hys hbs) hbx, ?_⟩
                    · rw [sB_app hys hbs, sB_app (BY.app hys hbs) hbx]
                    · rw [List.append_assoc, List.append_assoc]; exact hv
end Go.Proofs.YtlbhgoffiigfbaaGreat.AW
end
