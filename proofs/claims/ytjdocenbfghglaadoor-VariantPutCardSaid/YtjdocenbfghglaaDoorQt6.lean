/- Texts of this claim, part 6: V21, V22, V23, V24, V245, V25, V26, P1, P2. -/
import Derived.Test.YtjdocenbfghglaaDoorQt1
import Derived.Test.YtjdocenbfghglaaDoorQt2
import Derived.Test.YtjdocenbfghglaaDoorQt3
import Derived.Test.YtjdocenbfghglaaDoorQt4
import Derived.Test.YtjdocenbfghglaaDoorQt5
import Derived.Test.YtjdocenbfghglaaDoorAw27
section
set_option linter.unusedSimpArgs false
set_option linter.unusedVariables false
namespace Go.Proofs.YtjdocenbfghglaaDoor.AW
open Go Go.RowKit

theorem ACalls.give {P : Program} {f : FuncId} {args : List AV} {h : AH} {b sz : Nat} {ys : List AV} (hsz : 0 < sz) (hys : ys ≠ []) (hl : ∀ x ∈ ys, x.cells.length = sz) (hu : AV.underL 0 0 ys = true)
    (hc : ACalls P f args h fun out h2 => ∃ b' rest v, out = .ret v ∧ v.low = .ms b' 0 ys.length sz ∧ h2.box b' = some (ys.flatMap AV.cells ++ rest) ∧ (b' = b ∨ h.nb ≤ b') ∧ (∀ b2, b2 < h.nb → b2 ≠ b → h2.box b2 = h.box b2) ∧ (∀ t, t < h.nt → h2.tok t = h.tok t)) :
    ACalls P f args h fun out h2 => out = .ret (.sl .ro sz ys) ∧ h2 = h.kill b := by
  intro w0 m w args' h1 h2 hW
  refine (hc w0 m w args' h1 h2 hW).mono ?_
  rintro e w' ⟨m', out, h2', q1, q2, q3, b', rest, v, rfl, g1, g2, g3, g4, g5⟩
  cases e with
  | returned c =>
    have q2' : VR m' v c := q2
    have q4 := q2'.low
    rw [g1] at q4
    obtain ⟨m3, l3, W3, hv⟩ := q3.freeze g2 (fun i x hi => hl x (List.mem_of_getElem? hi)) hsz hys
    have hs := hW.isScoped
    obtain ⟨l4, W4⟩ := hW.cut (q1.trans l3) W3 (h' := h.kill b) ⟨rfl, rfl, fun z cs hz => by
      rw [kill_box] at hz
      split at hz
      · cases hz
      · next hne =>
        have hzn := hs.box z cs hz
        refine ⟨?_, .inl hz⟩
        rw [kill_box, if_neg (by rcases g3 with e | e <;> omega), g4 z hzn hne]; exact hz, fun t g ht => by
      have ht' : h.tok t = some g := ht
      exact ⟨(g5 t (hs.tok t g ht')).trans ht', hs.tok t g ht'⟩⟩
    refine ⟨_, _, _, l4, ?_, W4, rfl, rfl⟩
    exact (hv c q4).cutTo (by show AV.underL h.nb h.nt ys = true; exact AV.underL_mono hu)
  | panicked c => exact q2.elim
  | outgrown => exact q2.elim

theorem flatCells_len {sz : Nat} : ∀ {xs : List AV}, (∀ x ∈ xs, x.cells.length = sz) → (xs.flatMap AV.cells).length = xs.length * sz := by
  intro xs
  induction xs with
  | nil => intro _; simp
  | cons x xs ih =>
    intro h
    rw [List.flatMap_cons, List.length_append, h x (by simp), ih (fun y hy => h y (by simp [hy])), List.length_cons, Nat.add_mul]; omega
theorem flatCells_split {sz : Nat} {xs : List AV} (h : ∀ x ∈ xs, x.cells.length = sz) (i : Nat) (hi : i ≤ xs.length) : xs.flatMap AV.cells = (xs.take i).flatMap AV.cells ++ (xs.drop i).flatMap AV.cells ∧ ((xs.take i).flatMap AV.cells).length = i * sz ∧ ((xs.drop i).flatMap AV.cells).length = (xs.length - i) * sz := by
  refine ⟨by rw [← List.flatMap_append, List.take_append_drop], ?_, ?_⟩
  · rw [flatCells_len (fun x hx => h x (List.mem_of_mem_take hx)), List.length_take, Nat.min_eq_left hi]
  · rw [flatCells_len (fun x hx => h x (List.mem_of_mem_drop hx)), List.length_drop]
theorem ovl_ext {t tR : Nat} {fi : FuncId} {fn : Func} {tag : Tag} {sz sz' b o n c e s1 b1 : Nat} {z1 : List ZC} {ei : TI} {xs cs : List AV} {h : AH} {R : AOut → AH → Prop} (hi : te t = some ⟨.slice e, s1, b1, z1⟩) (hei : te e = some ei)
    (hf : Tryd.prog.funcs[fi]? = some fn) (hname : (fn.name == "runtime.NumGoroutine") = false) (hbd : fn.body.isNone = true) (hn : Extern.findNext fn = none) (he : Extern.find fn = some (Extern.SlicesOverlaps.overlaps #[t, t] #[tR]))
    (hne : xs ≠ []) (hb : h.box b = some cs) (hR : R (.ret (.bool false)) h) : AExt Tryd.prog fi [.sl tag sz xs, .mc b o n c sz'] h R := by
  refine ⟨_, fun w0 m w args' h1 h2 hW => ?_, hR⟩
  have e0 := h2 0 _ rfl
  have e1 := h2 1 _ rfl
  have hargs : args' = #[args'.getD 0 undef, args'.getD 1 undef] := by
    apply Array.ext_getElem?
    intro i
    match i with
    | 0 => rw [Array.getElem?_eq_getElem (by simp at h1; omega)]; simp [Array.getD_eq_getD_getElem?, Array.getElem?_eq_getElem (show 0 < args'.size by simp at h1; omega)]
    | 1 => rw [Array.getElem?_eq_getElem (by simp at h1; omega)]; simp [Array.getD_eq_getD_getElem?, Array.getElem?_eq_getElem (show 1 < args'.size by simp at h1; omega)]
    | i + 2 => rw [Array.getElem?_eq_none (by simp at h1; omega), Array.getElem?_eq_none (by simp)]
  refine ⟨.bool false, ?_, .bool _⟩
  rw [run_callFunc_extern hf hname hbd hn he, hargs, overlaps_false rfl te_ok hW hi hei hne hb e0 e1]
  rfl
end Go.Proofs.YtjdocenbfghglaaDoor.AW
end
section
set_option linter.unusedSimpArgs false
set_option linter.unusedVariables false
namespace Go.Proofs.YtjdocenbfghglaaDoor.AW
open Go Go.RowKit

set_option maxHeartbeats 2000000 in
set_option maxRecDepth 20000 in
theorem insvals_calls (xs : List AV) (y : AV) (i : Nat) (hx : ∀ x ∈ xs, x.cells.length = 5) (hy : y.cells.length = 5) (hyo : y.cells.all AV.one = true) (hux : AV.underL 0 0 xs = true) (huy : y.under 0 0 = true) (hl : xs.length < 1000000) (hi : i ≤ xs.length) (h : AH) (b : Nat) (hb : h.box b = some (xs.flatMap AV.cells)) (hbn : b < h.nb) :
    ACalls Tryd.prog 44 [.ms b 0 xs.length 5, .int .i64 i, .sl .full 5 [y]] h fun out h' => out = .ret (.sl .ro 5 (xs.take i ++ y :: xs.drop i)) ∧ h' = h.kill b := by
  have hylen : (xs.take i ++ y :: xs.drop i).length = xs.length + 1 := by simp; omega
  obtain ⟨hS, hSl, hSr⟩ := flatCells_split hx i hi
  have hC := flatCells_len hx
  refine ACalls.give (by omega) (by simp) (fun x hm => ?_) ?_ ?_
  · rcases List.mem_append.1 hm with h1 | h1
    · exact hx x (List.mem_of_mem_take h1)
    · rcases List.mem_cons.1 h1 with rfl | h1
      · exact hy
      · exact hx x (List.mem_of_mem_drop h1)
  · refine underL_iff.2 fun j c hj => ?_
    rcases List.mem_append.1 (List.mem_of_getElem? hj) with h1 | h1
    · obtain ⟨k, hk⟩ := List.mem_iff_getElem?.1 (List.mem_of_mem_take h1); exact underL_iff.1 hux k c hk
    · rcases List.mem_cons.1 h1 with rfl | h1
      · exact huy
      · obtain ⟨k, hk⟩ := List.mem_iff_getElem?.1 (List.mem_of_mem_drop h1); exact underL_iff.1 hux k c hk
  refine ACalls.opn hb fun c d hc hcd => ?_
  rw [hC] at hcd
  have nat1 : ((1 : Nat) : Int) = 1 := rfl
  have hfit : c * 5 ≤ (xs.flatMap AV.cells ++ deads d).length := by rw [List.length_append, hC, deads_length]; omega
  have hb1 : (xs.length + 1) * 80 ≤ 140737488355328 := by omega
  have hbne : (b = h.nb) = False := by simp only [eq_iff_iff, iff_false]; omega
  have hys : (xs.take i ++ y :: xs.drop i).flatMap AV.cells = (xs.take i).flatMap AV.cells ++ (y.cells ++ (xs.drop i).flatMap AV.cells) := by rw [List.flatMap_append, List.flatMap_cons]
  have hY : List.flatMap AV.cells [y] = y.cells := by simp
  by_cases hin : i = xs.length
  · have hti : xs.take i = xs := by rw [hin, List.take_length]
    have hdi : (xs.drop i) = [] := by rw [hin, List.drop_length]
    have e1 : ((i : Int) == (xs.length : Int)) = true := by rw [hin]; exact beq_self_eq_true _
    by_cases hcap : xs.length + 1 ≤ c
    · refine acalls_of te_ok [] Tryd.func44 (c := _) rfl (Nat.le_of_ble_eq_true rfl) ?_
      simp only [aw0, aw1, aw2, aw3, aw4, aw5, aw6, aw7, ne_eq, eq_self, implies_true, imp_self, reduceIte, reduceCtorEq, Nat.reduceAdd, Nat.reduceLT, Nat.reduceLeDiff, Nat.reduceEqDiff, Nat.reduceSub, Nat.reduceMul, Nat.reduceBEq, Int.reduceBEq, Int.reduceBNe, Int.reduceLT, Int.reduceLE, Int.reduceGT, Int.reduceGE, Int.reduceNeg, Int.reduceEq, Int.reduceNe, Int.reduceToNat, Int.reduceAdd, aconv, acvB, capR, acmpnil, appBox, storeB, ares1, appendTo, afill, aeqL, teset, Tryd.ntmps44, Tryd.results44, Int.natCast_nonneg, Int.toNat_natCast, hi, hc, and_true, Nat.zero_add, Nat.zero_le, Nat.le_refl, Nat.sub_zero, Nat.zero_mul, nat1, e1, appMc, appCells, cellsOf, hcap, hb1, hfit, gt_iff_lt, Nat.zero_lt_succ]
      refine ⟨b, (deads d).drop 5, _, rfl, by rw [hylen]; rfl, ?_, .inl rfl, fun b2 h2 hne => by rw [if_neg hne, if_neg hne]⟩
      rw [if_pos rfl, hys, hY]
      congr 1
      rw [List.take_left' hC, ← List.drop_drop, List.drop_left' hC, hdi, hy]
      simp [hti]
    · refine acalls_of te_ok [] Tryd.func44 (c := _) rfl (Nat.le_of_ble_eq_true rfl) ?_
      simp only [aw0, aw1, aw2, aw3, aw4, aw5, aw6, aw7, ne_eq, eq_self, implies_true, imp_self, reduceIte, reduceCtorEq, Nat.reduceAdd, Nat.reduceLT, Nat.reduceLeDiff, Nat.reduceEqDiff, Nat.reduceSub, Nat.reduceMul, Nat.reduceBEq, Int.reduceBEq, Int.reduceBNe, Int.reduceLT, Int.reduceLE, Int.reduceGT, Int.reduceGE, Int.reduceNeg, Int.reduceEq, Int.reduceNe, Int.reduceToNat, Int.reduceAdd, aconv, acvB, capR, acmpnil, appBox, storeB, ares1, appendTo, afill, aeqL, teset, Tryd.ntmps44, Tryd.results44, Int.natCast_nonneg, Int.toNat_natCast, hi, hc, and_true, Nat.zero_add, Nat.zero_le, Nat.le_refl, Nat.sub_zero, Nat.zero_mul, nat1, e1, appMc, appCells, cellsOf, hcap, hb1, hfit, gt_iff_lt, Nat.zero_lt_succ]
      refine ⟨h.nb, [], _, rfl, by rw [hylen]; rfl, ?_, .inr (Nat.le_refl _), fun b2 h2 hne => by rw [if_neg (by omega), if_neg hne]⟩
      rw [if_pos rfl, hys, hY]
      congr 1
      rw [List.take_left' hC, hdi]
      simp [hti]
  · have hlt : i < xs.length := by omega
    have e1 : ((i : Int) == (xs.length : Int)) = false := by
      rw [beq_eq_false_iff_ne]; omega
    have hw1 : IntKind.i64.wrap ((xs.length : Int) + 1) = ((xs.length + 1 : Nat) : Int) := wrap_succ (by omega)
    by_cases hcap : (c : Int) < ((xs.length + 1 : Nat) : Int)
    · have hw2 : IntKind.i64.wrap (((xs.length + 1 : Nat) : Int) - (i : Int)) = ((xs.length + 1 - i : Nat) : Int) := by rw [IntKind.wrap_i64]; omega
      have hpos : (0 : Int) < ((xs.length + 1 - i : Nat) : Int) := by omega
      have e2 : i + (xs.length + 1 - i) = xs.length + 1 := by omega
      have hic : i ≤ c := by omega
      have hnc : ¬ (xs.length + 1 ≤ c) := by omega
      have hi1 : i ≤ xs.length + 1 := by omega
      have hmin : min 1 (xs.length + 1 - i) = 1 := by omega
      have hw3 : IntKind.i64.wrap ((i : Int) + 1) = ((i + 1 : Nat) : Int) := wrap_succ (by omega)
      have hi2 : i + 1 ≤ xs.length + 1 := by omega
      have e3 : xs.length + 1 - (i + 1) = xs.length - i := by omega
      have hni : (xs.length - i = 0) = False := by simp only [eq_iff_iff, iff_false]; omega
      obtain ⟨Suf, hSf⟩ : ∃ Suf, Suf = (xs.drop i).flatMap AV.cells := ⟨_, rfl⟩
      rw [← hSf] at hSr
      have hmulle : (xs.length - i) * 5 + i * 5 = xs.length * 5 := by rw [← Nat.add_mul]; congr 1 <;> omega
      have hi1s : (i + 1) * 5 = i * 5 + 5 := by rw [Nat.add_mul] <;> omega
      obtain ⟨Z, hZ⟩ : ∃ Z, Z = zeros [.int .i64 0, .int .i64 0, .str ⟨#[]⟩, .sl .full 0 [], .sl .full 0 []] (xs.length + 1 - i) := ⟨_, rfl⟩
      have hZl : Z.length = (xs.length + 1 - i) * 5 := by rw [hZ, zeros_length] <;> rfl
      obtain ⟨Pre, hP⟩ : ∃ Pre, Pre = (xs.take i).flatMap AV.cells := ⟨_, rfl⟩
      rw [← hP] at hSl
      have hB : List.take (i * 5) (xs.flatMap AV.cells ++ deads d) = Pre := by rw [hS, ← hP, List.append_assoc]; exact List.take_left' hSl
      have hBt : List.take (i * 5) (Pre ++ Z) = Pre := List.take_left' hSl
      have hBd : List.drop (i * 5 + 5) (Pre ++ Z) = List.drop 5 Z := by rw [← List.drop_drop, List.drop_left' hSl]
      have hyt : List.take 5 y.cells = y.cells := List.take_of_length_le (by omega)
      have hSuf : List.take ((xs.length - i) * 5) (List.drop (i * 5) (xs.flatMap AV.cells ++ deads d)) = Suf := by rw [hS, ← hP, ← hSf, List.append_assoc, List.drop_left' hSl, List.take_left' hSr]
      have hSt : List.take ((xs.length - i) * 5) Suf = Suf := List.take_of_length_le (by omega)
      have hmin2 : min (xs.length - i) (xs.length - i) = xs.length - i := Nat.min_self _
      have hB2 : List.take ((i + 1) * 5) (Pre ++ y.cells ++ List.drop 5 Z) = Pre ++ y.cells := List.take_left' (by rw [List.length_append, hSl, hy, hi1s])
      have hfz2 : (i + 1) * 5 + (xs.length - i) * 5 ≤ (Pre ++ y.cells ++ List.drop 5 Z).length := by
        have : (xs.length + 1 - i) * 5 = (xs.length - i) * 5 + 5 := by rw [show xs.length + 1 - i = xs.length - i + 1 by omega, Nat.add_mul] <;> omega
        rw [List.length_append, List.length_append, List.length_drop, hSl, hZl, hy]; omega
      have hfz3 : i * 5 + (xs.length - i) * 5 ≤ (xs.flatMap AV.cells ++ deads d).length := by
        have := @List.length_append _ (xs.flatMap AV.cells) (deads d)
        omega
      have hfz : i * 5 + (xs.length + 1 - i) * 5 ≤ (Pre ++ Z).length := by rw [List.length_append, hSl, hZl]; omega
      refine acalls_of te_ok [] Tryd.func44 (c := _) rfl (Nat.le_of_ble_eq_true rfl) ?_
      simp only [aw0, aw1, aw2, aw3, aw4, aw5, aw6, aw7, ne_eq, eq_self, implies_true, imp_self, reduceIte, reduceCtorEq, Nat.reduceAdd, Nat.reduceLT, Nat.reduceLeDiff, Nat.reduceEqDiff, Nat.reduceSub, Nat.reduceMul, Nat.reduceBEq, Int.reduceBEq, Int.reduceBNe, Int.reduceLT, Int.reduceLE, Int.reduceGT, Int.reduceGE, Int.reduceNeg, Int.reduceEq, Int.reduceNe, Int.reduceToNat, Int.reduceAdd, aconv, acvB, capR, acmpnil, appBox, storeB, ares1, appendTo, afill, aeqL, teset, Tryd.ntmps44, Tryd.results44, Int.natCast_nonneg, Int.toNat_natCast, hi, hc, and_true, Nat.zero_add, Nat.zero_le, Nat.le_refl, Nat.sub_zero, Nat.zero_mul, nat1, e1, appMc, appCells, cellsOf, hcap, hb1, hfit, gt_iff_lt, Nat.zero_lt_succ, hw1, hw2, hpos, e2, hic, hnc, hi1, hmin, acopy, decide_true, hB, ← hZ, hBt, hBd, hY, hy, hyt, hfz, Nat.one_mul]
      refine acode_draw_chain te_ok mixed [] (by kernel_rfl) ?_
      simp only [aw0, aw1, aw2, aw3, aw4, aw5, aw6, aw7, ne_eq, eq_self, implies_true, imp_self, reduceIte, reduceCtorEq, Nat.reduceAdd, Nat.reduceLT, Nat.reduceLeDiff, Nat.reduceEqDiff, Nat.reduceSub, Nat.reduceMul, Nat.reduceBEq, Int.reduceBEq, Int.reduceBNe, Int.reduceLT, Int.reduceLE, Int.reduceGT, Int.reduceGE, Int.reduceNeg, Int.reduceEq, Int.reduceNe, Int.reduceToNat, Int.reduceAdd, aconv, acvB, capR, acmpnil, appBox, storeB, ares1, appendTo, afill, aeqL, teset, Int.natCast_nonneg, Int.toNat_natCast, hi, hc, and_true, Nat.zero_add, Nat.zero_le, Nat.le_refl, Nat.sub_zero, Nat.zero_mul, nat1, acopy, cellsOf, hw3, hi2, e3, hni, hSuf, hSt, hmin2, hB2, hSr, hfz2, hfz3, ← hP, hbne]
      refine ⟨h.nb, List.drop ((i + 1) * 5 + (xs.length - i) * 5) (Pre ++ y.cells ++ List.drop 5 Z), _, rfl, by rw [hylen]; rfl, ?_, .inr (Nat.le_refl _), fun b2 h2 hne => by rw [if_neg (by omega), if_neg (by omega), if_neg (by omega), if_neg hne]⟩
      rw [if_pos rfl, hys, ← hP, ← hSf]
      simp only [List.append_assoc]
    · have hcap2 : xs.length + 1 ≤ c := by omega
      have hw3 : IntKind.i64.wrap ((i : Int) + 1) = ((i + 1 : Nat) : Int) := wrap_succ (by omega)
      have hi2 : i + 1 ≤ xs.length + 1 := by omega
      have e3 : xs.length + 1 - (i + 1) = xs.length - i := by omega
      have hni : (xs.length - i = 0) = False := by simp only [eq_iff_iff, iff_false]; omega
      obtain ⟨Suf, hSf⟩ : ∃ Suf, Suf = (xs.drop i).flatMap AV.cells := ⟨_, rfl⟩
      rw [← hSf] at hSr
      have hmulle : (xs.length - i) * 5 + i * 5 = xs.length * 5 := by rw [← Nat.add_mul]; congr 1 <;> omega
      have hi1s : (i + 1) * 5 = i * 5 + 5 := by rw [Nat.add_mul] <;> omega
      refine acalls_of te_ok [] Tryd.func44 (c := _) rfl (Nat.le_of_ble_eq_true rfl) ?_
      simp only [aw0, aw1, aw2, aw3, aw4, aw5, aw6, aw7, ne_eq, eq_self, implies_true, imp_self, reduceIte, reduceCtorEq, Nat.reduceAdd, Nat.reduceLT, Nat.reduceLeDiff, Nat.reduceEqDiff, Nat.reduceSub, Nat.reduceMul, Nat.reduceBEq, Int.reduceBEq, Int.reduceBNe, Int.reduceLT, Int.reduceLE, Int.reduceGT, Int.reduceGE, Int.reduceNeg, Int.reduceEq, Int.reduceNe, Int.reduceToNat, Int.reduceAdd, aconv, acvB, capR, acmpnil, appBox, storeB, ares1, appendTo, afill, aeqL, teset, Tryd.ntmps44, Tryd.results44, Int.natCast_nonneg, Int.toNat_natCast, hi, hc, and_true, Nat.zero_add, Nat.zero_le, Nat.le_refl, Nat.sub_zero, Nat.zero_mul, nat1, e1, appMc, appCells, cellsOf, hcap, hcap2, hb1, hfit, gt_iff_lt, Nat.zero_lt_succ, hw1, hw3, hi2, e3, acopy, decide_false]
      obtain ⟨Pre, hP⟩ : ∃ Pre, Pre = (xs.take i).flatMap AV.cells := ⟨_, rfl⟩
      rw [← hP] at hSl
      refine .inr ?_
      show AExt _ _ [_, _] _ _
      refine ovl_ext (t := 22) (tR := 4) (fn := Tryd.f59) (cs := xs.flatMap AV.cells ++ deads d) rfl rfl rfl (by kernel_rfl) (by kernel_rfl) (by kernel_rfl) (by kernel_rfl) (by simp) (by rw [set_box, if_pos rfl]) ?_
      simp only [aw0, aw1, aw2, aw3, aw4, aw5, aw6, aw7, ne_eq, eq_self, implies_true, imp_self, reduceIte, reduceCtorEq, Nat.reduceAdd, Nat.reduceLT, Nat.reduceLeDiff, Nat.reduceEqDiff, Nat.reduceSub, Nat.reduceMul, Nat.reduceBEq, Int.reduceBEq, Int.reduceBNe, Int.reduceLT, Int.reduceLE, Int.reduceGT, Int.reduceGE, Int.reduceNeg, Int.reduceEq, Int.reduceNe, Int.reduceToNat, Int.reduceAdd, aconv, acvB, capR, acmpnil, appBox, storeB, ares1, appendTo, afill, aeqL, teset, Int.natCast_nonneg, Int.toNat_natCast, hi, hc]
      have hD : i * 5 + (xs.length + 1 - i) * 5 = xs.length * 5 + 5 := by
        rw [← Nat.add_mul, show i + (xs.length + 1 - i) = xs.length + 1 by omega, Nat.add_mul, Nat.one_mul]
      have hd5 : 5 ≤ d := by
        have : (xs.length + 1) * 5 ≤ c * 5 := Nat.mul_le_mul_right _ hcap2
        rw [Nat.add_mul, Nat.one_mul] at this; omega
      have hCD : (xs.flatMap AV.cells ++ deads d).length = xs.length * 5 + d := by rw [List.length_append, hC, deads_length]
      have hf1 : i * 5 + (xs.length + 1 - i) * 5 ≤ (xs.flatMap AV.cells ++ deads d).length := by rw [hD, hCD]; omega
      have hf2 : (i + 1) * 5 + (xs.length - i) * 5 ≤ (xs.flatMap AV.cells ++ deads d).length := by rw [hi1s, hCD]; omega
      have hmin : min (xs.length + 1 - i) (xs.length - i) = xs.length - i := by omega
      have hmin1 : min 1 (xs.length + 1 - i) = 1 := by omega
      have hle5 : (xs.length - i) * 5 ≤ (xs.length + 1 - i) * 5 := Nat.mul_le_mul_right _ (by omega)
      have hT : List.take ((xs.length - i) * 5) (List.take ((xs.length + 1 - i) * 5) (List.drop (i * 5) (xs.flatMap AV.cells ++ deads d))) = Suf := by
        rw [List.take_take, Nat.min_eq_left hle5, hS, ← hP, ← hSf, List.append_assoc, List.drop_left' hSl, List.take_left' hSr]
      obtain ⟨W, hW⟩ : ∃ W, W = List.take ((i + 1) * 5) (xs.flatMap AV.cells ++ deads d) := ⟨_, rfl⟩
      have hWl : W.length = i * 5 + 5 := by rw [hW, List.length_take, hCD, hi1s]; omega
      obtain ⟨R, hR⟩ : ∃ R, R = List.drop ((i + 1) * 5 + (xs.length - i) * 5) (xs.flatMap AV.cells ++ deads d) := ⟨_, rfl⟩
      have hRl : R.length = d - 5 := by rw [hR, List.length_drop, hCD, hi1s]; omega
      have hW1 : List.take (i * 5) (W ++ Suf ++ R) = Pre := by
        rw [List.append_assoc, List.take_append_of_le_length (by omega), hW, List.take_take, Nat.min_eq_left (by omega), hS, ← hP, List.append_assoc, List.take_left' hSl]
      have hW2 : List.drop (i * 5 + 5) (W ++ Suf ++ R) = Suf ++ R := by rw [List.append_assoc, List.drop_left' hWl]
      have hf3 : i * 5 + (xs.length + 1 - i) * 5 ≤ (W ++ Suf ++ R).length := by
        rw [hD, List.length_append, List.length_append, hWl, hSr, hRl]; omega
      have hyt : List.take 5 y.cells = y.cells := List.take_of_length_le (by omega)
      have hi1 : i ≤ xs.length + 1 := by omega
      refine acode_draw_chain te_ok mixed [] (by kernel_rfl) ?_
      simp only [aw0, aw1, aw2, aw3, aw4, aw5, aw6, aw7, ne_eq, eq_self, implies_true, imp_self, reduceIte, reduceCtorEq, Nat.reduceAdd, Nat.reduceLT, Nat.reduceLeDiff, Nat.reduceEqDiff, Nat.reduceSub, Nat.reduceMul, Nat.reduceBEq, Int.reduceBEq, Int.reduceBNe, Int.reduceLT, Int.reduceLE, Int.reduceGT, Int.reduceGE, Int.reduceNeg, Int.reduceEq, Int.reduceNe, Int.reduceToNat, Int.reduceAdd, aconv, acvB, capR, acmpnil, appBox, storeB, ares1, appendTo, afill, aeqL, teset, Int.natCast_nonneg, Int.toNat_natCast, hi, hc, and_true, Nat.zero_add, Nat.zero_le, Nat.le_refl, Nat.sub_zero, Nat.zero_mul, nat1, acopy, cellsOf, hw3, hi2, hi1, e3, hni, hcap2, hf1, hf2, hmin, hmin1, hT, hSr, ← hW, ← hR, hW1, hW2, hf3, hyt, hY, hy, Nat.one_mul]
      refine ⟨b, R, _, rfl, by rw [hylen]; rfl, ?_, .inl rfl, fun b2 h2 hne => by rw [if_neg hne, if_neg hne, if_neg hne]⟩
      rw [if_pos rfl, hys, ← hP, ← hSf]
      simp only [List.append_assoc]

end Go.Proofs.YtjdocenbfghglaaDoor.AW
end
section
set_option linter.unusedSimpArgs false
set_option linter.unusedVariables false
namespace Go.Proofs.YtjdocenbfghglaaDoor.AW
open Go Go.RowKit

set_option maxHeartbeats 2000000 in
set_option maxRecDepth 20000 in
theorem insstrs_calls (xs : List AV) (y : AV) (i : Nat) (hx : ∀ x ∈ xs, x.cells.length = 1) (hy : y.cells.length = 1) (hyo : y.cells.all AV.one = true) (hux : AV.underL 0 0 xs = true) (huy : y.under 0 0 = true) (hl : xs.length < 1000000) (hi : i ≤ xs.length) (h : AH) (b : Nat) (hb : h.box b = some (xs.flatMap AV.cells)) (hbn : b < h.nb) :
    ACalls Tryd.prog 43 [.ms b 0 xs.length 1, .int .i64 i, .sl .full 1 [y]] h fun out h' => out = .ret (.sl .ro 1 (xs.take i ++ y :: xs.drop i)) ∧ h' = h.kill b := by
  have hylen : (xs.take i ++ y :: xs.drop i).length = xs.length + 1 := by simp; omega
  obtain ⟨hS, hSl, hSr⟩ := flatCells_split hx i hi
  have hC := flatCells_len hx
  refine ACalls.give (by omega) (by simp) (fun x hm => ?_) ?_ ?_
  · rcases List.mem_append.1 hm with h1 | h1
    · exact hx x (List.mem_of_mem_take h1)
    · rcases List.mem_cons.1 h1 with rfl | h1
      · exact hy
      · exact hx x (List.mem_of_mem_drop h1)
  · refine underL_iff.2 fun j c hj => ?_
    rcases List.mem_append.1 (List.mem_of_getElem? hj) with h1 | h1
    · obtain ⟨k, hk⟩ := List.mem_iff_getElem?.1 (List.mem_of_mem_take h1); exact underL_iff.1 hux k c hk
    · rcases List.mem_cons.1 h1 with rfl | h1
      · exact huy
      · obtain ⟨k, hk⟩ := List.mem_iff_getElem?.1 (List.mem_of_mem_drop h1); exact underL_iff.1 hux k c hk
  refine ACalls.opn hb fun c d hc hcd => ?_
  rw [hC] at hcd
  have nat1 : ((1 : Nat) : Int) = 1 := rfl
  have hfit : c * 1 ≤ (xs.flatMap AV.cells ++ deads d).length := by rw [List.length_append, hC, deads_length]; omega
  have hb1 : (xs.length + 1) * 16 ≤ 140737488355328 := by omega
  have hbne : (b = h.nb) = False := by simp only [eq_iff_iff, iff_false]; omega
  have hys : (xs.take i ++ y :: xs.drop i).flatMap AV.cells = (xs.take i).flatMap AV.cells ++ (y.cells ++ (xs.drop i).flatMap AV.cells) := by rw [List.flatMap_append, List.flatMap_cons]
  have hY : List.flatMap AV.cells [y] = y.cells := by simp
  by_cases hin : i = xs.length
  · have hti : xs.take i = xs := by rw [hin, List.take_length]
    have hdi : (xs.drop i) = [] := by rw [hin, List.drop_length]
    have e1 : ((i : Int) == (xs.length : Int)) = true := by rw [hin]; exact beq_self_eq_true _
    by_cases hcap : xs.length + 1 ≤ c
    · refine acalls_of te_ok [] Tryd.func43 (c := _) rfl (Nat.le_of_ble_eq_true rfl) ?_
      simp only [aw0, aw1, aw2, aw3, aw4, aw5, aw6, aw7, ne_eq, eq_self, implies_true, imp_self, reduceIte, reduceCtorEq, Nat.reduceAdd, Nat.reduceLT, Nat.reduceLeDiff, Nat.reduceEqDiff, Nat.reduceSub, Nat.reduceMul, Nat.reduceBEq, Int.reduceBEq, Int.reduceBNe, Int.reduceLT, Int.reduceLE, Int.reduceGT, Int.reduceGE, Int.reduceNeg, Int.reduceEq, Int.reduceNe, Int.reduceToNat, Int.reduceAdd, aconv, acvB, capR, acmpnil, appBox, storeB, ares1, appendTo, afill, aeqL, teset, Tryd.ntmps43, Tryd.results43, Int.natCast_nonneg, Int.toNat_natCast, hi, hc, and_true, Nat.zero_add, Nat.zero_le, Nat.le_refl, Nat.sub_zero, Nat.zero_mul, nat1, e1, appMc, appCells, cellsOf, hcap, hb1, hfit, gt_iff_lt, Nat.zero_lt_succ]
      refine ⟨b, (deads d).drop 1, _, rfl, by rw [hylen]; rfl, ?_, .inl rfl, fun b2 h2 hne => by rw [if_neg hne, if_neg hne]⟩
      rw [if_pos rfl, hys, hY]
      congr 1
      rw [List.take_left' hC, ← List.drop_drop, List.drop_left' hC, hdi, hy]
      simp [hti]
    · refine acalls_of te_ok [] Tryd.func43 (c := _) rfl (Nat.le_of_ble_eq_true rfl) ?_
      simp only [aw0, aw1, aw2, aw3, aw4, aw5, aw6, aw7, ne_eq, eq_self, implies_true, imp_self, reduceIte, reduceCtorEq, Nat.reduceAdd, Nat.reduceLT, Nat.reduceLeDiff, Nat.reduceEqDiff, Nat.reduceSub, Nat.reduceMul, Nat.reduceBEq, Int.reduceBEq, Int.reduceBNe, Int.reduceLT, Int.reduceLE, Int.reduceGT, Int.reduceGE, Int.reduceNeg, Int.reduceEq, Int.reduceNe, Int.reduceToNat, Int.reduceAdd, aconv, acvB, capR, acmpnil, appBox, storeB, ares1, appendTo, afill, aeqL, teset, Tryd.ntmps43, Tryd.results43, Int.natCast_nonneg, Int.toNat_natCast, hi, hc, and_true, Nat.zero_add, Nat.zero_le, Nat.le_refl, Nat.sub_zero, Nat.zero_mul, nat1, e1, appMc, appCells, cellsOf, hcap, hb1, hfit, gt_iff_lt, Nat.zero_lt_succ]
      refine ⟨h.nb, [], _, rfl, by rw [hylen]; rfl, ?_, .inr (Nat.le_refl _), fun b2 h2 hne => by rw [if_neg (by omega), if_neg hne]⟩
      rw [if_pos rfl, hys, hY]
      congr 1
      rw [List.take_left' hC, hdi]
      simp [hti]
  · have hlt : i < xs.length := by omega
    have e1 : ((i : Int) == (xs.length : Int)) = false := by
      rw [beq_eq_false_iff_ne]; omega
    have hw1 : IntKind.i64.wrap ((xs.length : Int) + 1) = ((xs.length + 1 : Nat) : Int) := wrap_succ (by omega)
    by_cases hcap : (c : Int) < ((xs.length + 1 : Nat) : Int)
    · have hw2 : IntKind.i64.wrap (((xs.length + 1 : Nat) : Int) - (i : Int)) = ((xs.length + 1 - i : Nat) : Int) := by rw [IntKind.wrap_i64]; omega
      have hpos : (0 : Int) < ((xs.length + 1 - i : Nat) : Int) := by omega
      have e2 : i + (xs.length + 1 - i) = xs.length + 1 := by omega
      have hic : i ≤ c := by omega
      have hnc : ¬ (xs.length + 1 ≤ c) := by omega
      have hi1 : i ≤ xs.length + 1 := by omega
      have hmin : min 1 (xs.length + 1 - i) = 1 := by omega
      have hw3 : IntKind.i64.wrap ((i : Int) + 1) = ((i + 1 : Nat) : Int) := wrap_succ (by omega)
      have hi2 : i + 1 ≤ xs.length + 1 := by omega
      have e3 : xs.length + 1 - (i + 1) = xs.length - i := by omega
      have hni : (xs.length - i = 0) = False := by simp only [eq_iff_iff, iff_false]; omega
      obtain ⟨Suf, hSf⟩ : ∃ Suf, Suf = (xs.drop i).flatMap AV.cells := ⟨_, rfl⟩
      rw [← hSf] at hSr
      have hmulle : (xs.length - i) * 1 + i * 1 = xs.length * 1 := by rw [← Nat.add_mul]; congr 1 <;> omega
      have hi1s : (i + 1) * 1 = i * 1 + 1 := by rw [Nat.add_mul] <;> omega
      obtain ⟨Z, hZ⟩ : ∃ Z, Z = zeros [.str ⟨#[]⟩] (xs.length + 1 - i) := ⟨_, rfl⟩
      have hZl : Z.length = (xs.length + 1 - i) * 1 := by rw [hZ, zeros_length] <;> rfl
      obtain ⟨Pre, hP⟩ : ∃ Pre, Pre = (xs.take i).flatMap AV.cells := ⟨_, rfl⟩
      rw [← hP] at hSl
      have hB : List.take (i * 1) (xs.flatMap AV.cells ++ deads d) = Pre := by rw [hS, ← hP, List.append_assoc]; exact List.take_left' hSl
      have hBt : List.take (i * 1) (Pre ++ Z) = Pre := List.take_left' hSl
      have hBd : List.drop (i * 1 + 1) (Pre ++ Z) = List.drop 1 Z := by rw [← List.drop_drop, List.drop_left' hSl]
      have hyt : List.take 1 y.cells = y.cells := List.take_of_length_le (by omega)
      have hSuf : List.take ((xs.length - i) * 1) (List.drop (i * 1) (xs.flatMap AV.cells ++ deads d)) = Suf := by rw [hS, ← hP, ← hSf, List.append_assoc, List.drop_left' hSl, List.take_left' hSr]
      have hSt : List.take ((xs.length - i) * 1) Suf = Suf := List.take_of_length_le (by omega)
      have hmin2 : min (xs.length - i) (xs.length - i) = xs.length - i := Nat.min_self _
      have hB2 : List.take ((i + 1) * 1) (Pre ++ y.cells ++ List.drop 1 Z) = Pre ++ y.cells := List.take_left' (by rw [List.length_append, hSl, hy, hi1s])
      have hfz2 : (i + 1) * 1 + (xs.length - i) * 1 ≤ (Pre ++ y.cells ++ List.drop 1 Z).length := by
        have : (xs.length + 1 - i) * 1 = (xs.length - i) * 1 + 1 := by rw [show xs.length + 1 - i = xs.length - i + 1 by omega, Nat.add_mul] <;> omega
        rw [List.length_append, List.length_append, List.length_drop, hSl, hZl, hy]; omega
      have hfz3 : i * 1 + (xs.length - i) * 1 ≤ (xs.flatMap AV.cells ++ deads d).length := by
        have := @List.length_append _ (xs.flatMap AV.cells) (deads d)
        omega
      have hfz : i * 1 + (xs.length + 1 - i) * 1 ≤ (Pre ++ Z).length := by rw [List.length_append, hSl, hZl]; omega
      refine acalls_of te_ok [] Tryd.func43 (c := _) rfl (Nat.le_of_ble_eq_true rfl) ?_
      simp only [aw0, aw1, aw2, aw3, aw4, aw5, aw6, aw7, ne_eq, eq_self, implies_true, imp_self, reduceIte, reduceCtorEq, Nat.reduceAdd, Nat.reduceLT, Nat.reduceLeDiff, Nat.reduceEqDiff, Nat.reduceSub, Nat.reduceMul, Nat.reduceBEq, Int.reduceBEq, Int.reduceBNe, Int.reduceLT, Int.reduceLE, Int.reduceGT, Int.reduceGE, Int.reduceNeg, Int.reduceEq, Int.reduceNe, Int.reduceToNat, Int.reduceAdd, aconv, acvB, capR, acmpnil, appBox, storeB, ares1, appendTo, afill, aeqL, teset, Tryd.ntmps43, Tryd.results43, Int.natCast_nonneg, Int.toNat_natCast, hi, hc, and_true, Nat.zero_add, Nat.zero_le, Nat.le_refl, Nat.sub_zero, Nat.zero_mul, nat1, e1, appMc, appCells, cellsOf, hcap, hb1, hfit, gt_iff_lt, Nat.zero_lt_succ, hw1, hw2, hpos, e2, hic, hnc, hi1, hmin, acopy, decide_true, hB, ← hZ, hBt, hBd, hY, hy, hyt, hfz, Nat.one_mul]
      refine acode_draw_chain te_ok mixed [] (by kernel_rfl) ?_
      simp only [aw0, aw1, aw2, aw3, aw4, aw5, aw6, aw7, ne_eq, eq_self, implies_true, imp_self, reduceIte, reduceCtorEq, Nat.reduceAdd, Nat.reduceLT, Nat.reduceLeDiff, Nat.reduceEqDiff, Nat.reduceSub, Nat.reduceMul, Nat.reduceBEq, Int.reduceBEq, Int.reduceBNe, Int.reduceLT, Int.reduceLE, Int.reduceGT, Int.reduceGE, Int.reduceNeg, Int.reduceEq, Int.reduceNe, Int.reduceToNat, Int.reduceAdd, aconv, acvB, capR, acmpnil, appBox, storeB, ares1, appendTo, afill, aeqL, teset, Int.natCast_nonneg, Int.toNat_natCast, hi, hc, and_true, Nat.zero_add, Nat.zero_le, Nat.le_refl, Nat.sub_zero, Nat.zero_mul, nat1, acopy, cellsOf, hw3, hi2, e3, hni, hSuf, hSt, hmin2, hB2, hSr, hfz2, hfz3, ← hP, hbne]
      refine ⟨h.nb, List.drop ((i + 1) * 1 + (xs.length - i) * 1) (Pre ++ y.cells ++ List.drop 1 Z), _, rfl, by rw [hylen]; rfl, ?_, .inr (Nat.le_refl _), fun b2 h2 hne => by rw [if_neg (by omega), if_neg (by omega), if_neg (by omega), if_neg hne]⟩
      rw [if_pos rfl, hys, ← hP, ← hSf]
      simp only [List.append_assoc]
    · have hcap2 : xs.length + 1 ≤ c := by omega
      have hw3 : IntKind.i64.wrap ((i : Int) + 1) = ((i + 1 : Nat) : Int) := wrap_succ (by omega)
      have hi2 : i + 1 ≤ xs.length + 1 := by omega
      have e3 : xs.length + 1 - (i + 1) = xs.length - i := by omega
      have hni : (xs.length - i = 0) = False := by simp only [eq_iff_iff, iff_false]; omega
      obtain ⟨Suf, hSf⟩ : ∃ Suf, Suf = (xs.drop i).flatMap AV.cells := ⟨_, rfl⟩
      rw [← hSf] at hSr
      have hmulle : (xs.length - i) * 1 + i * 1 = xs.length * 1 := by rw [← Nat.add_mul]; congr 1 <;> omega
      have hi1s : (i + 1) * 1 = i * 1 + 1 := by rw [Nat.add_mul] <;> omega
      refine acalls_of te_ok [] Tryd.func43 (c := _) rfl (Nat.le_of_ble_eq_true rfl) ?_
      simp only [aw0, aw1, aw2, aw3, aw4, aw5, aw6, aw7, ne_eq, eq_self, implies_true, imp_self, reduceIte, reduceCtorEq, Nat.reduceAdd, Nat.reduceLT, Nat.reduceLeDiff, Nat.reduceEqDiff, Nat.reduceSub, Nat.reduceMul, Nat.reduceBEq, Int.reduceBEq, Int.reduceBNe, Int.reduceLT, Int.reduceLE, Int.reduceGT, Int.reduceGE, Int.reduceNeg, Int.reduceEq, Int.reduceNe, Int.reduceToNat, Int.reduceAdd, aconv, acvB, capR, acmpnil, appBox, storeB, ares1, appendTo, afill, aeqL, teset, Tryd.ntmps43, Tryd.results43, Int.natCast_nonneg, Int.toNat_natCast, hi, hc, and_true, Nat.zero_add, Nat.zero_le, Nat.le_refl, Nat.sub_zero, Nat.zero_mul, nat1, e1, appMc, appCells, cellsOf, hcap, hcap2, hb1, hfit, gt_iff_lt, Nat.zero_lt_succ, hw1, hw3, hi2, e3, acopy, decide_false]
      obtain ⟨Pre, hP⟩ : ∃ Pre, Pre = (xs.take i).flatMap AV.cells := ⟨_, rfl⟩
      rw [← hP] at hSl
      refine .inr ?_
      show AExt _ _ [_, _] _ _
      refine ovl_ext (t := 23) (tR := 4) (fn := Tryd.f57) (cs := xs.flatMap AV.cells ++ deads d) rfl rfl rfl (by kernel_rfl) (by kernel_rfl) (by kernel_rfl) (by kernel_rfl) (by simp) (by rw [set_box, if_pos rfl]) ?_
      simp only [aw0, aw1, aw2, aw3, aw4, aw5, aw6, aw7, ne_eq, eq_self, implies_true, imp_self, reduceIte, reduceCtorEq, Nat.reduceAdd, Nat.reduceLT, Nat.reduceLeDiff, Nat.reduceEqDiff, Nat.reduceSub, Nat.reduceMul, Nat.reduceBEq, Int.reduceBEq, Int.reduceBNe, Int.reduceLT, Int.reduceLE, Int.reduceGT, Int.reduceGE, Int.reduceNeg, Int.reduceEq, Int.reduceNe, Int.reduceToNat, Int.reduceAdd, aconv, acvB, capR, acmpnil, appBox, storeB, ares1, appendTo, afill, aeqL, teset, Int.natCast_nonneg, Int.toNat_natCast, hi, hc]
      have hD : i * 1 + (xs.length + 1 - i) * 1 = xs.length * 1 + 1 := by
        rw [← Nat.add_mul, show i + (xs.length + 1 - i) = xs.length + 1 by omega, Nat.add_mul, Nat.one_mul]
      have hd5 : 1 ≤ d := by
        have : (xs.length + 1) * 1 ≤ c * 1 := Nat.mul_le_mul_right _ hcap2
        rw [Nat.add_mul, Nat.one_mul] at this; omega
      have hCD : (xs.flatMap AV.cells ++ deads d).length = xs.length * 1 + d := by rw [List.length_append, hC, deads_length]
      have hf1 : i * 1 + (xs.length + 1 - i) * 1 ≤ (xs.flatMap AV.cells ++ deads d).length := by rw [hD, hCD]; omega
      have hf2 : (i + 1) * 1 + (xs.length - i) * 1 ≤ (xs.flatMap AV.cells ++ deads d).length := by rw [hi1s, hCD]; omega
      have hmin : min (xs.length + 1 - i) (xs.length - i) = xs.length - i := by omega
      have hmin1 : min 1 (xs.length + 1 - i) = 1 := by omega
      have hle5 : (xs.length - i) * 1 ≤ (xs.length + 1 - i) * 1 := Nat.mul_le_mul_right _ (by omega)
      have hT : List.take ((xs.length - i) * 1) (List.take ((xs.length + 1 - i) * 1) (List.drop (i * 1) (xs.flatMap AV.cells ++ deads d))) = Suf := by
        rw [List.take_take, Nat.min_eq_left hle5, hS, ← hP, ← hSf, List.append_assoc, List.drop_left' hSl, List.take_left' hSr]
      obtain ⟨W, hW⟩ : ∃ W, W = List.take ((i + 1) * 1) (xs.flatMap AV.cells ++ deads d) := ⟨_, rfl⟩
      have hWl : W.length = i * 1 + 1 := by rw [hW, List.length_take, hCD, hi1s]; omega
      obtain ⟨R, hR⟩ : ∃ R, R = List.drop ((i + 1) * 1 + (xs.length - i) * 1) (xs.flatMap AV.cells ++ deads d) := ⟨_, rfl⟩
      have hRl : R.length = d - 1 := by rw [hR, List.length_drop, hCD, hi1s]; omega
      have hW1 : List.take (i * 1) (W ++ Suf ++ R) = Pre := by
        rw [List.append_assoc, List.take_append_of_le_length (by omega), hW, List.take_take, Nat.min_eq_left (by omega), hS, ← hP, List.append_assoc, List.take_left' hSl]
      have hW2 : List.drop (i * 1 + 1) (W ++ Suf ++ R) = Suf ++ R := by rw [List.append_assoc, List.drop_left' hWl]
      have hf3 : i * 1 + (xs.length + 1 - i) * 1 ≤ (W ++ Suf ++ R).length := by
        rw [hD, List.length_append, List.length_append, hWl, hSr, hRl]; omega
      have hyt : List.take 1 y.cells = y.cells := List.take_of_length_le (by omega)
      have hi1 : i ≤ xs.length + 1 := by omega
      refine acode_draw_chain te_ok mixed [] (by kernel_rfl) ?_
      simp only [aw0, aw1, aw2, aw3, aw4, aw5, aw6, aw7, ne_eq, eq_self, implies_true, imp_self, reduceIte, reduceCtorEq, Nat.reduceAdd, Nat.reduceLT, Nat.reduceLeDiff, Nat.reduceEqDiff, Nat.reduceSub, Nat.reduceMul, Nat.reduceBEq, Int.reduceBEq, Int.reduceBNe, Int.reduceLT, Int.reduceLE, Int.reduceGT, Int.reduceGE, Int.reduceNeg, Int.reduceEq, Int.reduceNe, Int.reduceToNat, Int.reduceAdd, aconv, acvB, capR, acmpnil, appBox, storeB, ares1, appendTo, afill, aeqL, teset, Int.natCast_nonneg, Int.toNat_natCast, hi, hc, and_true, Nat.zero_add, Nat.zero_le, Nat.le_refl, Nat.sub_zero, Nat.zero_mul, nat1, acopy, cellsOf, hw3, hi2, hi1, e3, hni, hcap2, hf1, hf2, hmin, hmin1, hT, hSr, ← hW, ← hR, hW1, hW2, hf3, hyt, hY, hy, Nat.one_mul]
      refine ⟨b, R, _, rfl, by rw [hylen]; rfl, ?_, .inl rfl, fun b2 h2 hne => by rw [if_neg hne, if_neg hne, if_neg hne]⟩
      rw [if_pos rfl, hys, ← hP, ← hSf]
      simp only [List.append_assoc]

end Go.Proofs.YtjdocenbfghglaaDoor.AW
end
section
set_option linter.unusedSimpArgs false
set_option linter.unusedVariables false
namespace Go.Proofs.YtjdocenbfghglaaDoor.AW
open Go Go.RowKit

theorem wk_nil5f : Wk (.sl .full 0 []) (.sl .full 5 []) := fun m c h => h.sz (by omega) (fun _ _ e => by cases e)
theorem wk_nil1f : Wk (.sl .full 0 []) (.sl .full 1 []) := fun m c h => h.sz (by omega) (fun _ _ e => by cases e)
/-- Clone of nothing is nothing. -/
theorem clone5_nil (h : AH) : ACalls Tryd.prog 39 [.sl .ro 5 []] h fun out h' => out = .ret (.sl .full 5 []) ∧ h' = h := by
  refine ACalls.wkOut (R' := fun out h' => (out = .ret (.sl .full 0 []) ∨ out = .ret (.sl .full 5 [])) ∧ h' = h) ?_ ?_
  · refine acalls_of te_ok [] Tryd.func39 (c := _) rfl (Nat.le_of_ble_eq_true rfl) ?_
    simp only [aw0, aw1, aw2, aw3, aw4, aw5, aw6, aw7, ne_eq, eq_self, implies_true, imp_self, reduceIte, reduceCtorEq, Nat.reduceAdd, Nat.reduceLT, Nat.reduceLeDiff, Nat.reduceEqDiff, Nat.reduceSub, Nat.reduceMul, Nat.reduceBEq, Int.reduceBEq, Int.reduceBNe, Int.reduceLT, Int.reduceLE, Int.reduceGT, Int.reduceGE, Int.reduceNeg, Int.reduceEq, Int.reduceNe, Int.reduceToNat, Int.reduceAdd, aconv, acvB, capR, acmpnil, appBox, storeB, ares1, appendTo, afill, aeqL, teset, Tryd.ntmps39, Tryd.results39, eqnil, List.isEmpty_nil, range0]
  · rintro out h' ⟨rfl | rfl, rfl⟩
    · exact ⟨_, _, rfl, wk_nil5f, rfl, rfl⟩
    · exact ⟨_, _, rfl, .refl _, rfl, rfl⟩
theorem clone1_nil (h : AH) : ACalls Tryd.prog 38 [.sl .ro 1 []] h fun out h' => out = .ret (.sl .full 1 []) ∧ h' = h := by
  refine ACalls.wkOut (R' := fun out h' => (out = .ret (.sl .full 0 []) ∨ out = .ret (.sl .full 1 [])) ∧ h' = h) ?_ ?_
  · refine acalls_of te_ok [] Tryd.func38 (c := _) rfl (Nat.le_of_ble_eq_true rfl) ?_
    simp only [aw0, aw1, aw2, aw3, aw4, aw5, aw6, aw7, ne_eq, eq_self, implies_true, imp_self, reduceIte, reduceCtorEq, Nat.reduceAdd, Nat.reduceLT, Nat.reduceLeDiff, Nat.reduceEqDiff, Nat.reduceSub, Nat.reduceMul, Nat.reduceBEq, Int.reduceBEq, Int.reduceBNe, Int.reduceLT, Int.reduceLE, Int.reduceGT, Int.reduceGE, Int.reduceNeg, Int.reduceEq, Int.reduceNe, Int.reduceToNat, Int.reduceAdd, aconv, acvB, capR, acmpnil, appBox, storeB, ares1, appendTo, afill, aeqL, teset, Tryd.ntmps38, Tryd.results38, eqnil, List.isEmpty_nil, range0]
  · rintro out h' ⟨rfl | rfl, rfl⟩
    · exact ⟨_, _, rfl, wk_nil1f, rfl, rfl⟩
    · exact ⟨_, _, rfl, .refl _, rfl, rfl⟩
/-- .. of something, as a row that may be appended to. -/
theorem clone5_tok (x : AV) (xs : List AV) (hl : xs.length < 1000000) (h : AH) : ACalls Tryd.prog 39 [.sl .ro 5 (x :: xs)] h fun out h' => out = .ret (.sl (.tok h.nt 0) 5 (x :: xs)) ∧ h' = h.newTok := by
  have hb : (xs.length + 1) * 80 ≤ 140737488355328 := by omega
  refine acalls_of te_ok [] Tryd.func39 (c := _) rfl (Nat.le_of_ble_eq_true rfl) ?_
  simp only [aw0, aw1, aw2, aw3, aw4, aw5, aw6, aw7, ne_eq, eq_self, implies_true, imp_self, reduceIte, reduceCtorEq, Nat.reduceAdd, Nat.reduceLT, Nat.reduceLeDiff, Nat.reduceEqDiff, Nat.reduceSub, Nat.reduceMul, Nat.reduceBEq, Int.reduceBEq, Int.reduceBNe, Int.reduceLT, Int.reduceLE, Int.reduceGT, Int.reduceGE, Int.reduceNeg, Int.reduceEq, Int.reduceNe, Int.reduceToNat, Int.reduceAdd, aconv, acvB, capR, acmpnil, appBox, storeB, ares1, appendTo, afill, aeqL, teset, Tryd.ntmps39, Tryd.results39, eqnil, List.isEmpty_cons, range0, List.length_cons, Nat.zero_add, hb]
/-- .. as a box. -/
theorem clone5_box (x : AV) (xs : List AV) (hl : xs.length < 1000000) (h : AH) : ACalls Tryd.prog 39 [.sl .ro 5 (x :: xs)] h fun out h' => out = .ret (.ms h.nb 0 (x :: xs).length 5) ∧ h' = h.new ((x :: xs).flatMap AV.cells) := by
  have hb : (xs.length + 1) * 80 ≤ 140737488355328 := by omega
  refine acalls_of te_ok [] Tryd.func39 (c := _) rfl (Nat.le_of_ble_eq_true rfl) ?_
  simp only [aw0, aw1, aw2, aw3, aw4, aw5, aw6, aw7, ne_eq, eq_self, implies_true, imp_self, reduceIte, reduceCtorEq, Nat.reduceAdd, Nat.reduceLT, Nat.reduceLeDiff, Nat.reduceEqDiff, Nat.reduceSub, Nat.reduceMul, Nat.reduceBEq, Int.reduceBEq, Int.reduceBNe, Int.reduceLT, Int.reduceLE, Int.reduceGT, Int.reduceGE, Int.reduceNeg, Int.reduceEq, Int.reduceNe, Int.reduceToNat, Int.reduceAdd, aconv, acvB, capR, acmpnil, appBox, storeB, ares1, appendTo, afill, aeqL, teset, Tryd.ntmps39, Tryd.results39, eqnil, List.isEmpty_cons, range0, List.length_cons, Nat.zero_add, hb]
theorem clone1_box (x : AV) (xs : List AV) (hl : xs.length < 1000000) (h : AH) : ACalls Tryd.prog 38 [.sl .ro 1 (x :: xs)] h fun out h' => out = .ret (.ms h.nb 0 (x :: xs).length 1) ∧ h' = h.new ((x :: xs).flatMap AV.cells) := by
  have hb : (xs.length + 1) * 16 ≤ 140737488355328 := by omega
  refine acalls_of te_ok [] Tryd.func38 (c := _) rfl (Nat.le_of_ble_eq_true rfl) ?_
  simp only [aw0, aw1, aw2, aw3, aw4, aw5, aw6, aw7, ne_eq, eq_self, implies_true, imp_self, reduceIte, reduceCtorEq, Nat.reduceAdd, Nat.reduceLT, Nat.reduceLeDiff, Nat.reduceEqDiff, Nat.reduceSub, Nat.reduceMul, Nat.reduceBEq, Int.reduceBEq, Int.reduceBNe, Int.reduceLT, Int.reduceLE, Int.reduceGT, Int.reduceGE, Int.reduceNeg, Int.reduceEq, Int.reduceNe, Int.reduceToNat, Int.reduceAdd, aconv, acvB, capR, acmpnil, appBox, storeB, ares1, appendTo, afill, aeqL, teset, Tryd.ntmps38, Tryd.results38, eqnil, List.isEmpty_cons, range0, List.length_cons, Nat.zero_add, hb]
theorem ins5_nil (y : AV) (hy : y.cells.length = 5) (huy : y.under 0 0 = true) : Pure Tryd.prog 44 [.sl .full 5 [], .int .i64 0, .sl .full 5 [y]] (.sl .ro 5 [y]) := by
  have nat1 : ((1 : Nat) : Int) = 1 := rfl
  have hY : List.flatMap AV.cells [y] = y.cells := by simp
  refine Pure.ofW ⟨Tryd.f44, Tryd.func44, rfl, by kernel_rfl⟩ (by simp [AV.under, AV.underL, huy]) (fun h hsc => ?_)
  refine acalls_of te_ok [] Tryd.func44 (c := _) rfl (Nat.le_of_ble_eq_true rfl) ?_
  simp only [aw0, aw1, aw2, aw3, aw4, aw5, aw6, aw7, ne_eq, eq_self, implies_true, imp_self, reduceIte, reduceCtorEq, Nat.reduceAdd, Nat.reduceLT, Nat.reduceLeDiff, Nat.reduceEqDiff, Nat.reduceSub, Nat.reduceMul, Nat.reduceBEq, Int.reduceBEq, Int.reduceBNe, Int.reduceLT, Int.reduceLE, Int.reduceGT, Int.reduceGE, Int.reduceNeg, Int.reduceEq, Int.reduceNe, Int.reduceToNat, Int.reduceAdd, aconv, acvB, capR, acmpnil, appBox, storeB, ares1, appendTo, afill, aeqL, teset, Tryd.ntmps44, Tryd.results44, Nat.zero_add, nat1, Int.natCast_zero, Nat.le_refl, hY, hy, Nat.sub_zero, Nat.zero_le]
  exact .inl ⟨.newTok' _, _, rfl, .ro⟩
theorem ins1_nil (y : AV) (hy : y.cells.length = 1) (huy : y.under 0 0 = true) : Pure Tryd.prog 43 [.sl .full 1 [], .int .i64 0, .sl .full 1 [y]] (.sl .ro 1 [y]) := by
  have nat1 : ((1 : Nat) : Int) = 1 := rfl
  have hY : List.flatMap AV.cells [y] = y.cells := by simp
  refine Pure.ofW ⟨Tryd.f43, Tryd.func43, rfl, by kernel_rfl⟩ (by simp [AV.under, AV.underL, huy]) (fun h hsc => ?_)
  refine acalls_of te_ok [] Tryd.func43 (c := _) rfl (Nat.le_of_ble_eq_true rfl) ?_
  simp only [aw0, aw1, aw2, aw3, aw4, aw5, aw6, aw7, ne_eq, eq_self, implies_true, imp_self, reduceIte, reduceCtorEq, Nat.reduceAdd, Nat.reduceLT, Nat.reduceLeDiff, Nat.reduceEqDiff, Nat.reduceSub, Nat.reduceMul, Nat.reduceBEq, Int.reduceBEq, Int.reduceBNe, Int.reduceLT, Int.reduceLE, Int.reduceGT, Int.reduceGE, Int.reduceNeg, Int.reduceEq, Int.reduceNe, Int.reduceToNat, Int.reduceAdd, aconv, acvB, capR, acmpnil, appBox, storeB, ares1, appendTo, afill, aeqL, teset, Tryd.ntmps43, Tryd.results43, Nat.zero_add, nat1, Int.natCast_zero, Nat.le_refl, hY, hy, Nat.sub_zero, Nat.zero_le]
  exact .inl ⟨.newTok' _, _, rfl, .ro⟩

theorem skR_act {P : Program} {L : Option Nat} {c : Nat} {h h' : AH} {f v : AV} {args : List AV} {k : AV → AH → Prop} (hc : c ≠ 0) (h1 : ACallV P f args h fun out h2 => out = .ret v ∧ h2 = h') (h2 : boxEq L h h') (h3 : k v h') : skR P L c h (.call f args) k := by
  unfold skR; simp only; rw [if_neg hc]; exact ⟨v, h', h1, h2, h3⟩
theorem skR_app1 (P : Program) (L : Option Nat) (h : AH) (v : AV) (h' h0 : AH) (n sz : Nat) (cells : List AV) (k : AV → AH → Prop) : skR P L 1 h (.app v h' h0 n sz cells) k = (boxEq L h h' ∧ k v h') := rfl
/-- A value with another item at a place, or with one more. -/
def withV (v : V) (i : Nat) (x : V) : V := .mk v.kind v.int v.text (v.items.take i ++ x :: v.items.drop (min (i + 1) v.items.length)) v.keys
theorem m80a {E : Nat} (h : E + 1 < 1000000) : (1 + (E + 1)) * 80 ≤ 140737488355328 := by omega
theorem m80b {E : Nat} (h : E + 1 < 1000000) : (0 + (E + 1 + 1)) * 80 ≤ 140737488355328 := by omega
theorem m80e {E : Nat} (h : E + 1 < 1000000) : (E + 1 + 1) * 80 ≤ 140737488355328 := by omega
theorem m80d {A : Nat} (h : A < 1000000) : (A + 1 + 1) * 80 ≤ 140737488355328 := by omega
theorem m80c {A E : Nat} (h : E + 1 < 1000000) (h2 : A < 1000000) : (A + 1 + (E + 1 + 1)) * 80 ≤ 140737488355328 := by omega
theorem minlt {a b c : Nat} (h : min a b = c + 1) (hb : b < 1000000) : c < 1000000 := by omega
set_option maxHeartbeats 1000000 in
theorem with_pure (v : V) (i : Nat) (x : V) (hi : i ≤ v.items.length) (hl : v.items.length < 1000000) : Pure Tryd.prog 42 [inj v, .int .i64 i, inj x] (inj (withV v i x)) := by
  have hu := inj_under (withV v i x)
  obtain ⟨k, n, t, xs, ks⟩ := v
  simp only [V.items] at hi hl
  have hu' := hu
  unfold withV at hu' ⊢
  simp only [V.kind, V.int, V.text, V.items, V.keys] at hu' ⊢
  refine Pure.of0 ⟨Tryd.f42, Tryd.func42, rfl, by kernel_rfl⟩ (by simp [AV.underL, inj_under, AV.under]) hu' ?_
  rw [inj_mk, inj_mk]
  have hw1 : IntKind.i64.wrap ((i : Int) + 1) = ((i + 1 : Nat) : Int) := wrap_succ (by omega)
  refine acalls_of te_ok [] Tryd.func42 (c := _) rfl (Nat.le_of_ble_eq_true rfl) ?_
  simp only [aw0, aw1, aw2, aw3, aw4, aw5, aw6, aw7, ne_eq, eq_self, implies_true, imp_self, reduceIte, reduceCtorEq, Nat.reduceAdd, Nat.reduceLT, Nat.reduceLeDiff, Nat.reduceEqDiff, Nat.reduceSub, Nat.reduceMul, Nat.reduceBEq, Int.reduceBEq, Int.reduceBNe, Int.reduceLT, Int.reduceLE, Int.reduceGT, Int.reduceGE, Int.reduceNeg, Int.reduceEq, Int.reduceNe, Int.reduceToNat, Int.reduceAdd, aconv, acvB, capR, acmpnil, appBox, storeB, ares1, appendTo, afill, aeqL, teset, Tryd.ntmps42, Tryd.results42, boxR, inj_take, inj_drop, inj_agg, inj_len, inj_one, List.length_map, none_nb, none_box, Int.natCast_nonneg, Int.toNat_natCast]
  refine acode_draw_chain te_ok mixed [4] (by kernel_rfl) ?_
  simp only [aw0, aw1, aw2, aw3, aw4, aw5, aw6, aw7, ne_eq, eq_self, implies_true, imp_self, reduceIte, reduceCtorEq, Nat.reduceAdd, Nat.reduceLT, Nat.reduceLeDiff, Nat.reduceEqDiff, Nat.reduceSub, Nat.reduceMul, Nat.reduceBEq, Int.reduceBEq, Int.reduceBNe, Int.reduceLT, Int.reduceLE, Int.reduceGT, Int.reduceGE, Int.reduceNeg, Int.reduceEq, Int.reduceNe, Int.reduceToNat, Int.reduceAdd, aconv, acvB, capR, acmpnil, appBox, storeB, ares1, appendTo, afill, aeqL, teset, inj_take, inj_drop, inj_agg, inj_len, inj_one, List.length_map, none_nb, none_box, Int.natCast_nonneg, Int.toNat_natCast, Nat.zero_le, hi, and_true, Nat.sub_zero, hw1, ite_self]
  have hmin : (if ((xs.length : Nat) : Int) < ((i + 1 : Nat) : Int) then ((xs.length : Nat) : Int) else ((i + 1 : Nat) : Int)) = ((min (i + 1) xs.length : Nat) : Int) := by
    split <;> omega
  have hml : min (i + 1) xs.length ≤ xs.length := Nat.min_le_right _ _
  have hyo : (inj x).cells.all AV.one = true := inj_one x
  have hxl : (inj x).cells.length = 5 := inj_len x
  obtain ⟨D, hD⟩ : ∃ D, D = (xs.map inj).drop (min (i + 1) xs.length) := ⟨_, rfl⟩
  have hDl : D.length < 1000000 := by rw [hD, List.length_drop, List.length_map]; omega
  have hDt : List.take (xs.length - min (i + 1) xs.length) D = D := List.take_of_length_le (by rw [hD, List.length_drop, List.length_map]; exact Nat.le_refl _)
  have hb1 : (D.length + 1) * 80 ≤ 140737488355328 := by omega
  have hfin : ∀ (u : AV) (h2 : AH), Wk u (.sl .ro 5 ((xs.map inj).take i ++ inj x :: D)) → ∃ u', AOut.ret (.agg [.int .i64 k, .int .i64 n, .str t, u, .sl .ro 1 (ks.map .str)]) = .ret u' ∧ To0 h2 u' (.agg [.int .i64 k, .int .i64 n, .str t, .sl .ro 5 ((xs.take i ++ x :: xs.drop (min (i + 1) xs.length)).map inj), .sl .ro 1 (ks.map .str)]) := by
    intro u h2 hw
    refine ⟨_, rfl, .wk ?_⟩
    rw [List.map_append, List.map_cons, List.map_take, List.map_drop, ← hD]
    exact (WkAll.cons (.refl _) (.cons (.refl _) (.cons (.refl _) (.cons hw (.cons (.refl _) .nil))))).agg
  cases hA : List.take i (xs.map inj) with
  | nil =>
    rw [hA] at hfin
    refine skR_act (by decide) (ACallV.of ⟨Tryd.f39, Tryd.func39, rfl, by kernel_rfl⟩ (clone5_nil _)) (by rfl) ?_
    cases hDc : D with
    | nil =>
      rw [hDc] at hD hDt hfin
      simp only [aw0, aw1, aw2, aw3, aw4, aw5, aw6, aw7, ne_eq, eq_self, implies_true, imp_self, reduceIte, reduceCtorEq, Nat.reduceAdd, Nat.reduceLT, Nat.reduceLeDiff, Nat.reduceEqDiff, Nat.reduceSub, Nat.reduceMul, Nat.reduceBEq, Int.reduceBEq, Int.reduceBNe, Int.reduceLT, Int.reduceLE, Int.reduceGT, Int.reduceGE, Int.reduceNeg, Int.reduceEq, Int.reduceNe, Int.reduceToNat, Int.reduceAdd, aconv, acvB, capR, acmpnil, appBox, storeB, ares1, appendTo, afill, aeqL, teset, inj_take, inj_drop, inj_agg, inj_len, inj_one, List.length_map, none_nb, none_box, Int.natCast_nonneg, Int.toNat_natCast, Nat.zero_le, hi, and_true, Nat.sub_zero, hw1, hmin, hml, hyo, hxl, range1, ← hD, hDt, Nat.le_refl, skR_app1, List.cons_append, List.nil_append]
      (repeat (first | exact hfin _ _ .ro | refine ⟨rfl, ?_⟩))
    | cons e E =>
      rw [hDc] at hD hDt hfin hb1 hDl
      simp only [List.length_cons] at hb1 hDl
      have hb2 := m80a hDl
      have hb3 := m80b hDl
      have hb4 := m80e hDl
      simp only [aw0, aw1, aw2, aw3, aw4, aw5, aw6, aw7, ne_eq, eq_self, implies_true, imp_self, reduceIte, reduceCtorEq, Nat.reduceAdd, Nat.reduceLT, Nat.reduceLeDiff, Nat.reduceEqDiff, Nat.reduceSub, Nat.reduceMul, Nat.reduceBEq, Int.reduceBEq, Int.reduceBNe, Int.reduceLT, Int.reduceLE, Int.reduceGT, Int.reduceGE, Int.reduceNeg, Int.reduceEq, Int.reduceNe, Int.reduceToNat, Int.reduceAdd, aconv, acvB, capR, acmpnil, appBox, storeB, ares1, appendTo, afill, aeqL, teset, inj_take, inj_drop, inj_agg, inj_len, inj_one, List.length_map, none_nb, none_box, Int.natCast_nonneg, Int.toNat_natCast, Nat.zero_le, hi, and_true, Nat.sub_zero, hw1, hmin, hml, hyo, hxl, range1, ← hD, hDt, Nat.le_refl, skR_app1, List.cons_append, List.nil_append, hb2, hb3, hb4]
      (repeat (first | exact hfin _ _ .ro | refine ⟨rfl, ?_⟩))
  | cons a A =>
    rw [hA] at hfin
    have hAl : A.length < 1000000 := by
      have := congrArg List.length hA
      rw [List.length_take, List.length_map, List.length_cons] at this
      exact minlt this hl
    refine skR_act (by decide) (ACallV.of ⟨Tryd.f39, Tryd.func39, rfl, by kernel_rfl⟩ (clone5_tok a A hAl _)) (by rfl) ?_
    cases hDc : D with
    | nil =>
      rw [hDc] at hD hDt hfin
      have hb2 := m80d hAl
      simp only [aw0, aw1, aw2, aw3, aw4, aw5, aw6, aw7, ne_eq, eq_self, implies_true, imp_self, reduceIte, reduceCtorEq, Nat.reduceAdd, Nat.reduceLT, Nat.reduceLeDiff, Nat.reduceEqDiff, Nat.reduceSub, Nat.reduceMul, Nat.reduceBEq, Int.reduceBEq, Int.reduceBNe, Int.reduceLT, Int.reduceLE, Int.reduceGT, Int.reduceGE, Int.reduceNeg, Int.reduceEq, Int.reduceNe, Int.reduceToNat, Int.reduceAdd, aconv, acvB, capR, acmpnil, appBox, storeB, ares1, appendTo, afill, aeqL, teset, inj_take, inj_drop, inj_agg, inj_len, inj_one, List.length_map, none_nb, none_box, Int.natCast_nonneg, Int.toNat_natCast, Nat.zero_le, hi, and_true, Nat.sub_zero, hw1, hmin, hml, hyo, hxl, range1, ← hD, hDt, Nat.le_refl, skR_app1, List.cons_append, List.nil_append, hb2]
      (repeat (first | exact hfin _ _ .ro | refine ⟨rfl, ?_⟩))
    | cons e E =>
      rw [hDc] at hD hDt hfin hb1 hDl
      simp only [List.length_cons] at hb1 hDl
      have hb2 := m80a hDl
      have hb3 := m80c hDl hAl
      simp only [aw0, aw1, aw2, aw3, aw4, aw5, aw6, aw7, ne_eq, eq_self, implies_true, imp_self, reduceIte, reduceCtorEq, Nat.reduceAdd, Nat.reduceLT, Nat.reduceLeDiff, Nat.reduceEqDiff, Nat.reduceSub, Nat.reduceMul, Nat.reduceBEq, Int.reduceBEq, Int.reduceBNe, Int.reduceLT, Int.reduceLE, Int.reduceGT, Int.reduceGE, Int.reduceNeg, Int.reduceEq, Int.reduceNe, Int.reduceToNat, Int.reduceAdd, aconv, acvB, capR, acmpnil, appBox, storeB, ares1, appendTo, afill, aeqL, teset, inj_take, inj_drop, inj_agg, inj_len, inj_one, List.length_map, none_nb, none_box, Int.natCast_nonneg, Int.toNat_natCast, Nat.zero_le, hi, and_true, Nat.sub_zero, hw1, hmin, hml, hyo, hxl, range1, ← hD, hDt, Nat.le_refl, skR_app1, List.cons_append, List.nil_append, hb2, hb3]
      (repeat (first | exact hfin _ _ .ro | refine ⟨rfl, ?_⟩))
end Go.Proofs.YtjdocenbfghglaaDoor.AW
end
section
set_option linter.unusedSimpArgs false
set_option linter.unusedVariables false
namespace Go.Proofs.YtjdocenbfghglaaDoor.AW
open Go Go.RowKit

theorem strs_cells (ks : List ByteArray) : (ks.map AV.str).flatMap AV.cells = ks.map AV.str := by
  induction ks with
  | nil => rfl
  | cons k ks ih => rw [List.map_cons, List.flatMap_cons, ih]; rfl
theorem strs_under (ks : List ByteArray) : AV.underL 0 0 (ks.map AV.str) = true := by
  induction ks with
  | nil => rfl
  | cons k ks ih => simp [AV.underL, AV.under, ih]
theorem injs_under (xs : List V) : AV.underL 0 0 (xs.map inj) = true := by
  induction xs with
  | nil => rfl
  | cons k ks ih => simp [AV.underL, inj_under, ih]
theorem clone1_box' (ks : List ByteArray) (hne : ks ≠ []) (hl : ks.length < 1000000) (h : AH) : ACalls Tryd.prog 38 [.sl .ro 1 (ks.map .str)] h fun out h' => out = .ret (.ms h.nb 0 ks.length 1) ∧ h' = h.new (ks.map .str) := by
  cases ks with
  | nil => exact absurd rfl hne
  | cons k ks =>
    have := clone1_box (.str k) (ks.map .str) (by simp only [List.length_cons] at hl; rw [List.length_map]; omega) h
    have e := strs_cells (k :: ks)
    rw [List.map_cons] at e
    rw [e, List.length_cons, List.length_map] at this
    exact this
theorem clone5_box' (xs : List V) (hne : xs ≠ []) (hl : xs.length < 1000000) (h : AH) : ACalls Tryd.prog 39 [.sl .ro 5 (xs.map inj)] h fun out h' => out = .ret (.ms h.nb 0 xs.length 5) ∧ h' = h.new ((xs.map inj).flatMap AV.cells) := by
  cases xs with
  | nil => exact absurd rfl hne
  | cons x xs =>
    have := clone5_box (inj x) (xs.map inj) (by simp only [List.length_cons] at hl; rw [List.length_map]; omega) h
    rw [List.length_cons, List.length_map] at this
    exact this
theorem ins1_box' (ks : List ByteArray) (key : ByteArray) (i : Nat) (hl : ks.length < 1000000) (hi : i ≤ ks.length) (h : AH) (b : Nat) (hb : h.box b = some (ks.map .str)) (hbn : b < h.nb) :
    ACalls Tryd.prog 43 [.ms b 0 ks.length 1, .int .i64 i, .sl .full 1 [.str key]] h fun out h' => out = .ret (.sl .ro 1 ((ks.take i ++ key :: ks.drop i).map .str)) ∧ h' = h.kill b := by
  have := insstrs_calls (ks.map .str) (.str key) i (fun x hx => by obtain ⟨k, _, rfl⟩ := List.mem_map.1 hx; rfl) rfl rfl (strs_under ks) rfl (by rw [List.length_map]; exact hl) (by rw [List.length_map]; exact hi) h b (by rw [strs_cells]; exact hb) hbn
  rw [List.length_map] at this
  rw [List.map_append, List.map_cons, List.map_take, List.map_drop]
  exact this
theorem ins5_box' (xs : List V) (y : V) (i : Nat) (hl : xs.length < 1000000) (hi : i ≤ xs.length) (h : AH) (b : Nat) (hb : h.box b = some ((xs.map inj).flatMap AV.cells)) (hbn : b < h.nb) :
    ACalls Tryd.prog 44 [.ms b 0 xs.length 5, .int .i64 i, .sl .full 5 [inj y]] h fun out h' => out = .ret (.sl .ro 5 ((xs.take i ++ y :: xs.drop i).map inj)) ∧ h' = h.kill b := by
  have := insvals_calls (xs.map inj) (inj y) i (fun x hx => by obtain ⟨k, _, rfl⟩ := List.mem_map.1 hx; exact inj_len k) (inj_len y) (inj_one y) (injs_under xs) (inj_under y) (by rw [List.length_map]; exact hl) (by rw [List.length_map]; exact hi) h b hb hbn
  rw [List.length_map] at this
  rw [List.map_append, List.map_cons, List.map_take, List.map_drop]
  exact this
theorem boxEq_new {l : Nat} {h : AH} {cs : List AV} (hn : l ≤ h.nb) : boxEq (some l) h (h.new cs) := fun b hb => by
  rw [new_box, if_neg (by omega)]
theorem boxEq_kill {l b : Nat} {h : AH} (hn : l ≤ b) : boxEq (some l) h (h.kill b) := fun c hc => by
  rw [kill_box, if_neg (by omega)]
end Go.Proofs.YtjdocenbfghglaaDoor.AW
end
section
set_option linter.unusedSimpArgs false
set_option linter.unusedVariables false
namespace Go.Proofs.YtjdocenbfghglaaDoor.AW
open Go Go.RowKit

def insV (v : V) (i : Nat) (k : ByteArray) (y : V) : V := .mk v.kind v.int v.text (v.items.take i ++ y :: v.items.drop i) (v.keys.take i ++ k :: v.keys.drop i)
def emptyV (k : Int) : V := .mk k 0 ⟨#[]⟩ [] []
def oldV (v : V) (s : Stp) : V := if (itemP v s).2 = true then v.items.getD (itemP v s).1.toNat zeroV else zeroV
def putIn (f : V → V × Int) (s : Stp) (v : V) : V × Int :=
  if (v.items.length : Int) < s.index then (zeroV, 3) else
  if (f (oldV v s)).2 ≠ 0 then (zeroV, (f (oldV v s)).2) else
  if (itemP v s).2 = true ∨ 0 ≤ s.index then (withV v (itemP v s).1.toNat (f (oldV v s)).1, 0) else (insV v (itemP v s).1.toNat s.key (f (oldV v s)).1, 0)
def kindOf (s : Stp) : Int := if s.index < 0 then 5 else 4
def putP : List Stp → V → V → V × Int
  | [], _, x => (x, 0)
  | s :: p, v, x => if v.kind = 0 then putIn (fun old => putP p old x) s (emptyV (kindOf s)) else if v.kind ≠ kindOf s then (zeroV, 8) else putIn (fun old => putP p old x) s v
theorem empty_ok {k : Int} (hk : k = 4 ∨ k = 5) : Vok (emptyV k) := by
  refine ⟨1, ?_⟩
  show (if (0 : Nat) > 60 then 61 else if shape (emptyV k) = true then 1 else 61) ≤ 60
  have : shape (emptyV k) = true := by
    unfold emptyV
    rcases hk with rfl | rfl
    · rw [shape_4]; simp [plainS, V.int, V.text, V.items, V.keys]
    · rw [shape_5]; simp [plainS, V.int, V.text, V.items, V.keys, keysOk]
  rw [this]; decide

theorem wk_empty5 : Wk (.agg [.int .i64 5, .int .i64 0, .str ⟨#[]⟩, .sl .full 0 [], .sl .full 0 []]) (inj (emptyV 5)) := by
  unfold emptyV; rw [inj_mk]
  exact (WkAll.cons (.refl _) (.cons (.refl _) (.cons (.refl _) (.cons wk_nil5 (.cons wk_nil1 .nil))))).agg
theorem wk_empty4 : Wk (.agg [.int .i64 4, .int .i64 0, .str ⟨#[]⟩, .sl .full 0 [], .sl .full 0 []]) (inj (emptyV 4)) := by
  unfold emptyV; rw [inj_mk]
  exact (WkAll.cons (.refl _) (.cons (.refl _) (.cons (.refl _) (.cons wk_nil5 (.cons wk_nil1 .nil))))).agg
set_option maxHeartbeats 4000000 in
theorem put_pure : ∀ (p : List Stp) (v x : V), Vok v → p.length < 1000000 → Pure Tryd.prog 27 [inj v, .sl .ro 2 (p.map injS), inj x] (.tup [inj (putP p v x).1, .int .i64 (putP p v x).2]) := by
  intro p
  induction p with
  | nil =>
    intro v x hv hl
    refine Pure.of0 ⟨Tryd.f27, Tryd.func27, rfl, by kernel_rfl⟩ (by simp [AV.underL, inj_under, AV.under]) (by simp [putP, AV.under, AV.underL, inj_under]) ?_
    refine acalls_of te_ok [] Tryd.func27 (c := _) rfl (Nat.le_of_ble_eq_true rfl) ?_
    simp only [aw0, aw1, aw2, aw3, aw4, aw5, aw6, aw7, ne_eq, eq_self, implies_true, imp_self, reduceIte, reduceCtorEq, Nat.reduceAdd, Nat.reduceLT, Nat.reduceLeDiff, Nat.reduceEqDiff, Nat.reduceSub, Nat.reduceMul, Nat.reduceBEq, Int.reduceBEq, Int.reduceBNe, Int.reduceLT, Int.reduceLE, Int.reduceGT, Int.reduceGE, Int.reduceNeg, Int.reduceEq, Int.reduceNe, Int.reduceToNat, Int.reduceAdd, aconv, acvB, capR, acmpnil, appBox, storeB, ares1, appendTo, afill, aeqL, teset, Tryd.ntmps27, Tryd.results27, inj_take, inj_drop, inj_agg, inj_len, inj_one, List.length_map, boxR, none_nb, none_box, Int.natCast_zero]
    exact ⟨_, rfl, .refl _ _⟩
  | cons s p ih =>
    intro v x hv hl
    simp only [List.length_cons] at hl
    refine Pure.of0 ⟨Tryd.f27, Tryd.func27, rfl, by kernel_rfl⟩ (by have := injS_under (s :: p); simp only [AV.underL, inj_under, AV.under, Bool.true_and, Bool.and_true]; exact this) (by simp [AV.under, AV.underL, inj_under]) ?_
    have hl1 : (((p.length + 1 : Nat) : Int) == 0) = false := by rw [beq_eq_false_iff_ne]; omega
    have hsh := hv.shape
    have takep : List.take p.length (p.map injS) = p.map injS := List.take_of_length_le (by simp)
    obtain ⟨ix, key⟩ := s
    obtain ⟨k, n, t, xs, ks⟩ := v
    rw [inj_mk]
    refine acalls_of te_ok [79, 80, 81] Tryd.func27 (c := _) rfl (Nat.le_of_ble_eq_true rfl) ?_
    simp only [aw0, aw1, aw2, aw3, aw4, aw5, aw6, aw7, ne_eq, eq_self, implies_true, imp_self, reduceIte, reduceCtorEq, Nat.reduceAdd, Nat.reduceLT, Nat.reduceLeDiff, Nat.reduceEqDiff, Nat.reduceSub, Nat.reduceMul, Nat.reduceBEq, Int.reduceBEq, Int.reduceBNe, Int.reduceLT, Int.reduceLE, Int.reduceGT, Int.reduceGE, Int.reduceNeg, Int.reduceEq, Int.reduceNe, Int.reduceToNat, Int.reduceAdd, aconv, acvB, capR, acmpnil, appBox, storeB, ares1, appendTo, afill, aeqL, teset, Tryd.ntmps27, Tryd.results27, inj_take, inj_drop, inj_agg, inj_len, inj_one, List.length_map, boxR, none_nb, none_box, List.map_cons, List.length_cons, hl1, injS]
    cases hneg : decide (ix < 0) with
    | true =>
      have hneg' : ix < 0 := by simpa using hneg
      have hk5 : kindOf ⟨ix, key⟩ = 5 := if_pos hneg'
      have hge : decide (ix ≥ 0) = false := by rw [decide_eq_false_iff_not]; omega
      have hg0 : decide (ix > 0) = false := by rw [decide_eq_false_iff_not]; omega
      cases h0 : (k == 0) with
      | true =>
        have hk0 : k = 0 := by simpa using h0
        simp only [aw0, aw1, aw2, aw3, aw4, aw5, aw6, aw7, ne_eq, eq_self, implies_true, imp_self, reduceIte, reduceCtorEq, Nat.reduceAdd, Nat.reduceLT, Nat.reduceLeDiff, Nat.reduceEqDiff, Nat.reduceSub, Nat.reduceMul, Nat.reduceBEq, Int.reduceBEq, Int.reduceBNe, Int.reduceLT, Int.reduceLE, Int.reduceGT, Int.reduceGE, Int.reduceNeg, Int.reduceEq, Int.reduceNe, Int.reduceToNat, Int.reduceAdd, aconv, acvB, capR, acmpnil, appBox, storeB, ares1, appendTo, afill, aeqL, teset, inj_take, inj_drop, inj_agg, inj_len, inj_one, List.length_map, none_nb, none_box, hneg, h0, hg0, Int.natCast_zero]
        refine ACallV.pureW (pitem_pure (empty_ok (.inr rfl)) ⟨ix, key⟩) (WkAll.cons wk_empty5 (.cons (.refl _) .nil)) ?_
        rw [itemP_5 hneg' rfl, show lb (emptyV 5).keys key = 0 from rfl, show foundS (emptyV 5).keys key = false from rfl]
        simp only [aw0, aw1, aw2, aw3, aw4, aw5, aw6, aw7, ne_eq, eq_self, implies_true, imp_self, reduceIte, reduceCtorEq, Nat.reduceAdd, Nat.reduceLT, Nat.reduceLeDiff, Nat.reduceEqDiff, Nat.reduceSub, Nat.reduceMul, Nat.reduceBEq, Int.reduceBEq, Int.reduceBNe, Int.reduceLT, Int.reduceLE, Int.reduceGT, Int.reduceGE, Int.reduceNeg, Int.reduceEq, Int.reduceNe, Int.reduceToNat, Int.reduceAdd, aconv, acvB, capR, acmpnil, appBox, storeB, ares1, appendTo, afill, aeqL, teset, inj_take, inj_drop, inj_agg, inj_len, inj_one, List.length_map, none_nb, none_box, hneg, h0, hg0, Int.natCast_zero]
        refine acode_draw_chain te_ok mixed [] (by kernel_rfl) ?_
        simp only [aw0, aw1, aw2, aw3, aw4, aw5, aw6, aw7, ne_eq, eq_self, implies_true, imp_self, reduceIte, reduceCtorEq, Nat.reduceAdd, Nat.reduceLT, Nat.reduceLeDiff, Nat.reduceEqDiff, Nat.reduceSub, Nat.reduceMul, Nat.reduceBEq, Int.reduceBEq, Int.reduceBNe, Int.reduceLT, Int.reduceLE, Int.reduceGT, Int.reduceGE, Int.reduceNeg, Int.reduceEq, Int.reduceNe, Int.reduceToNat, Int.reduceAdd, aconv, acvB, capR, acmpnil, appBox, storeB, ares1, appendTo, afill, aeqL, teset, inj_take, inj_drop, inj_agg, inj_len, inj_one, List.length_map, none_nb, none_box, hneg, h0, hg0, Int.natCast_zero, Nat.add_sub_cancel, takep, Nat.le_refl]
        refine skR_pureW (ih zeroV x zero_ok (by omega)) (WkAll.cons wk_zero (.cons (.refl _) (.cons (.refl _) .nil))) ?_
        have hspec : putP (⟨ix, key⟩ :: p) (.mk k n t xs ks) x = if (putP p zeroV x).2 ≠ 0 then (zeroV, (putP p zeroV x).2) else (insV (emptyV 5) 0 key (putP p zeroV x).1, 0) := by
          simp only [putP, V.kind, hk5]
          rw [if_pos hk0]
          unfold putIn oldV
          rw [itemP_5 hneg' rfl, show lb (emptyV 5).keys key = 0 from rfl, show foundS (emptyV 5).keys key = false from rfl]
          have : ¬ (((emptyV 5).items.length : Int) < ix) := by show ¬ ((0 : Int) < ix); omega
          rw [if_neg this]
          simp only [Bool.false_eq_true, if_false, false_or]
          have h2 : ¬ (0 ≤ ix) := by omega
          rw [if_neg h2]; rfl
        rw [hspec]
        generalize putP p zeroV x = q
        obtain ⟨y, e⟩ := q
        simp only [aw0, aw1, aw2, aw3, aw4, aw5, aw6, aw7, ne_eq, eq_self, implies_true, imp_self, reduceIte, reduceCtorEq, Nat.reduceAdd, Nat.reduceLT, Nat.reduceLeDiff, Nat.reduceEqDiff, Nat.reduceSub, Nat.reduceMul, Nat.reduceBEq, Int.reduceBEq, Int.reduceBNe, Int.reduceLT, Int.reduceLE, Int.reduceGT, Int.reduceGE, Int.reduceNeg, Int.reduceEq, Int.reduceNe, Int.reduceToNat, Int.reduceAdd, aconv, acvB, capR, acmpnil, appBox, storeB, ares1, appendTo, afill, aeqL, teset, inj_take, inj_drop, inj_agg, inj_len, inj_one, List.length_map, none_nb, none_box, hneg, h0, hg0, Int.natCast_zero]
        have hbn : (e != 0) = !decide (e = 0) := by by_cases h : e = 0 <;> simp [h]
        by_cases he : e = 0
        · subst he
          simp only [aw0, aw1, aw2, aw3, aw4, aw5, aw6, aw7, ne_eq, eq_self, implies_true, imp_self, reduceIte, reduceCtorEq, Nat.reduceAdd, Nat.reduceLT, Nat.reduceLeDiff, Nat.reduceEqDiff, Nat.reduceSub, Nat.reduceMul, Nat.reduceBEq, Int.reduceBEq, Int.reduceBNe, Int.reduceLT, Int.reduceLE, Int.reduceGT, Int.reduceGE, Int.reduceNeg, Int.reduceEq, Int.reduceNe, Int.reduceToNat, Int.reduceAdd, aconv, acvB, capR, acmpnil, appBox, storeB, ares1, appendTo, afill, aeqL, teset, inj_take, inj_drop, inj_agg, inj_len, inj_one, List.length_map, none_nb, none_box, hneg, h0, hg0, Int.natCast_zero, hge]
          refine acode_draw_chainL (some 6) te_ok mixed [2, 7, 10, 14] (by kernel_rfl) ?_
          simp only [aw0, aw1, aw2, aw3, aw4, aw5, aw6, aw7, ne_eq, eq_self, implies_true, imp_self, reduceIte, reduceCtorEq, Nat.reduceAdd, Nat.reduceLT, Nat.reduceLeDiff, Nat.reduceEqDiff, Nat.reduceSub, Nat.reduceMul, Nat.reduceBEq, Int.reduceBEq, Int.reduceBNe, Int.reduceLT, Int.reduceLE, Int.reduceGT, Int.reduceGE, Int.reduceNeg, Int.reduceEq, Int.reduceNe, Int.reduceToNat, Int.reduceAdd, aconv, acvB, capR, acmpnil, appBox, storeB, ares1, appendTo, afill, aeqL, teset, inj_take, inj_drop, inj_agg, inj_len, inj_one, List.length_map, none_nb, none_box, lowRd_some, Int.natCast_zero]
          refine skR_act (by decide) (ACallV.of ⟨Tryd.f38, Tryd.func38, rfl, by kernel_rfl⟩ (ACalls.wk (WkAll.cons wk_nil1 .nil) (clone1_nil _))) (boxEq.refl _ _) ?_
          simp only [aw0, aw1, aw2, aw3, aw4, aw5, aw6, aw7, ne_eq, eq_self, implies_true, imp_self, reduceIte, reduceCtorEq, Nat.reduceAdd, Nat.reduceLT, Nat.reduceLeDiff, Nat.reduceEqDiff, Nat.reduceSub, Nat.reduceMul, Nat.reduceBEq, Int.reduceBEq, Int.reduceBNe, Int.reduceLT, Int.reduceLE, Int.reduceGT, Int.reduceGE, Int.reduceNeg, Int.reduceEq, Int.reduceNe, Int.reduceToNat, Int.reduceAdd, aconv, acvB, capR, acmpnil, appBox, storeB, ares1, appendTo, afill, aeqL, teset, inj_take, inj_drop, inj_agg, inj_len, inj_one, List.length_map, none_nb, none_box, lowRd_some, Int.natCast_zero, range1, inj_len, inj_one]
          refine skR_act (by decide) (ACallV.of ⟨Tryd.f43, Tryd.func43, rfl, by kernel_rfl⟩ ((ins1_nil (.str key) rfl rfl).calls _)) (boxEq.refl _ _) ?_
          simp only [aw0, aw1, aw2, aw3, aw4, aw5, aw6, aw7, ne_eq, eq_self, implies_true, imp_self, reduceIte, reduceCtorEq, Nat.reduceAdd, Nat.reduceLT, Nat.reduceLeDiff, Nat.reduceEqDiff, Nat.reduceSub, Nat.reduceMul, Nat.reduceBEq, Int.reduceBEq, Int.reduceBNe, Int.reduceLT, Int.reduceLE, Int.reduceGT, Int.reduceGE, Int.reduceNeg, Int.reduceEq, Int.reduceNe, Int.reduceToNat, Int.reduceAdd, aconv, acvB, capR, acmpnil, appBox, storeB, ares1, appendTo, afill, aeqL, teset, inj_take, inj_drop, inj_agg, inj_len, inj_one, List.length_map, none_nb, none_box, lowRd_some, Int.natCast_zero, range1, inj_len, inj_one]
          refine skR_act (by decide) (ACallV.of ⟨Tryd.f39, Tryd.func39, rfl, by kernel_rfl⟩ (ACalls.wk (WkAll.cons wk_nil5 .nil) (clone5_nil _))) (boxEq.refl _ _) ?_
          simp only [aw0, aw1, aw2, aw3, aw4, aw5, aw6, aw7, ne_eq, eq_self, implies_true, imp_self, reduceIte, reduceCtorEq, Nat.reduceAdd, Nat.reduceLT, Nat.reduceLeDiff, Nat.reduceEqDiff, Nat.reduceSub, Nat.reduceMul, Nat.reduceBEq, Int.reduceBEq, Int.reduceBNe, Int.reduceLT, Int.reduceLE, Int.reduceGT, Int.reduceGE, Int.reduceNeg, Int.reduceEq, Int.reduceNe, Int.reduceToNat, Int.reduceAdd, aconv, acvB, capR, acmpnil, appBox, storeB, ares1, appendTo, afill, aeqL, teset, inj_take, inj_drop, inj_agg, inj_len, inj_one, List.length_map, none_nb, none_box, lowRd_some, Int.natCast_zero, range1, inj_len, inj_one]
          refine skR_act (by decide) (ACallV.of ⟨Tryd.f44, Tryd.func44, rfl, by kernel_rfl⟩ ((ins5_nil (inj y) (inj_len y) (inj_under y)).calls _)) (boxEq.refl _ _) ?_
          simp only [aw0, aw1, aw2, aw3, aw4, aw5, aw6, aw7, ne_eq, eq_self, implies_true, imp_self, reduceIte, reduceCtorEq, Nat.reduceAdd, Nat.reduceLT, Nat.reduceLeDiff, Nat.reduceEqDiff, Nat.reduceSub, Nat.reduceMul, Nat.reduceBEq, Int.reduceBEq, Int.reduceBNe, Int.reduceLT, Int.reduceLE, Int.reduceGT, Int.reduceGE, Int.reduceNeg, Int.reduceEq, Int.reduceNe, Int.reduceToNat, Int.reduceAdd, aconv, acvB, capR, acmpnil, appBox, storeB, ares1, appendTo, afill, aeqL, teset, inj_take, inj_drop, inj_agg, inj_len, inj_one, List.length_map, none_nb, none_box, lowRd_some, Int.natCast_zero, range1, inj_len, inj_one]
          refine ⟨_, rfl, ?_⟩
          unfold insV emptyV
          rw [inj_mk]
          exact .refl _ _
        · have he2 : (e != 0) = true := by simpa using he
          simp only [aw0, aw1, aw2, aw3, aw4, aw5, aw6, aw7, ne_eq, eq_self, implies_true, imp_self, reduceIte, reduceCtorEq, Nat.reduceAdd, Nat.reduceLT, Nat.reduceLeDiff, Nat.reduceEqDiff, Nat.reduceSub, Nat.reduceMul, Nat.reduceBEq, Int.reduceBEq, Int.reduceBNe, Int.reduceLT, Int.reduceLE, Int.reduceGT, Int.reduceGE, Int.reduceNeg, Int.reduceEq, Int.reduceNe, Int.reduceToNat, Int.reduceAdd, aconv, acvB, capR, acmpnil, appBox, storeB, ares1, appendTo, afill, aeqL, teset, inj_take, inj_drop, inj_agg, inj_len, inj_one, List.length_map, none_nb, none_box, he2]
          refine ⟨_, rfl, ?_⟩
          rw [if_pos he]
          exact .wk (WkAll.cons wk_zero (.cons (.refl _) .nil)).tup
      | false =>
        cases h5 : (k == 5) with
        | false =>
          have hk0 : ¬ k = 0 := by simpa using h0
          have hk5' : ¬ k = 5 := by simpa using h5
          have h5n : (k != 5) = true := by simpa using hk5'
          simp only [aw0, aw1, aw2, aw3, aw4, aw5, aw6, aw7, ne_eq, eq_self, implies_true, imp_self, reduceIte, reduceCtorEq, Nat.reduceAdd, Nat.reduceLT, Nat.reduceLeDiff, Nat.reduceEqDiff, Nat.reduceSub, Nat.reduceMul, Nat.reduceBEq, Int.reduceBEq, Int.reduceBNe, Int.reduceLT, Int.reduceLE, Int.reduceGT, Int.reduceGE, Int.reduceNeg, Int.reduceEq, Int.reduceNe, Int.reduceToNat, Int.reduceAdd, aconv, acvB, capR, acmpnil, appBox, storeB, ares1, appendTo, afill, aeqL, teset, inj_take, inj_drop, inj_agg, inj_len, inj_one, List.length_map, none_nb, none_box, hneg, h0, h5, h5n]
          refine ⟨_, rfl, ?_⟩
          have : putP (⟨ix, key⟩ :: p) (.mk k n t xs ks) x = (zeroV, 8) := by simp only [putP, V.kind, hk5]; rw [if_neg hk0, if_pos hk5']
          rw [this]
          exact .wk (WkAll.cons wk_zero (.cons (.refl _) .nil)).tup
        | true =>
          have hgx : decide (ix > (xs.length : Int)) = false := by rw [decide_eq_false_iff_not]; omega
          have hk0 : ¬ k = 0 := by simpa using h0
          have hk5' : k = 5 := by simpa using h5
          have h5n : (k != 5) = false := by rw [hk5']; rfl
          simp only [aw0, aw1, aw2, aw3, aw4, aw5, aw6, aw7, ne_eq, eq_self, implies_true, imp_self, reduceIte, reduceCtorEq, Nat.reduceAdd, Nat.reduceLT, Nat.reduceLeDiff, Nat.reduceEqDiff, Nat.reduceSub, Nat.reduceMul, Nat.reduceBEq, Int.reduceBEq, Int.reduceBNe, Int.reduceLT, Int.reduceLE, Int.reduceGT, Int.reduceGE, Int.reduceNeg, Int.reduceEq, Int.reduceNe, Int.reduceToNat, Int.reduceAdd, aconv, acvB, capR, acmpnil, appBox, storeB, ares1, appendTo, afill, aeqL, teset, inj_take, inj_drop, inj_agg, inj_len, inj_one, List.length_map, none_nb, none_box, hneg, h0, h5, h5n, hgx]
          subst hk5'
          have hlen : ks.length = xs.length := by
            have h1 := hsh.1
            rw [shape_5] at h1
            simp only [Bool.and_eq_true, beq_iff_eq] at h1
            exact h1.1.2
          have hitem := pitem_pure hv ⟨ix, key⟩
          have hin := itemP_in hv ⟨ix, key⟩
          have hi5 : itemP (.mk 5 n t xs ks) ⟨ix, key⟩ = ((lb ks key : Int), foundS ks key) := itemP_5 hneg' rfl
          have hlb := lb_le ks key
          rw [hi5] at hin
          rw [inj_mk, hi5] at hitem
          simp only [V.items] at hin
          have hspec : putP (⟨ix, key⟩ :: p) (.mk 5 n t xs ks) x = if (putP p (oldV (.mk 5 n t xs ks) ⟨ix, key⟩) x).2 ≠ 0 then (zeroV, (putP p (oldV (.mk 5 n t xs ks) ⟨ix, key⟩) x).2) else if foundS ks key = true then (withV (.mk 5 n t xs ks) (lb ks key) (putP p (oldV (.mk 5 n t xs ks) ⟨ix, key⟩) x).1, 0) else (insV (.mk 5 n t xs ks) (lb ks key) key (putP p (oldV (.mk 5 n t xs ks) ⟨ix, key⟩) x).1, 0) := by
            simp only [putP, V.kind, hk5]
            rw [if_neg (by decide), if_neg (by decide)]
            unfold putIn
            rw [hi5]
            simp only [V.items, Int.toNat_natCast]
            have h2 : ¬ ((xs.length : Int) < ix) := by omega
            have h3 : ¬ (0 ≤ ix) := by omega
            simp only [if_neg h2, h3, or_false]
          rw [hspec]
          refine ACallV.pure hitem ?_
          cases hf : foundS ks key with
          | true =>
            have hltx : lb ks key < xs.length := by have := (hin hf).2; rwa [Int.toNat_natCast] at this
            have hget2 : (xs.map inj)[lb ks key]? = some (inj xs[lb ks key]) := by rw [List.getElem?_map, List.getElem?_eq_getElem hltx]; rfl
            have hold : oldV (.mk 5 n t xs ks) ⟨ix, key⟩ = xs[lb ks key] := by
              unfold oldV; rw [hi5]; simp only [hf, if_true, V.items, Int.toNat_natCast]
              rw [List.getD_eq_getElem?_getD, List.getElem?_eq_getElem hltx]; rfl
            rw [hold]
            have hvo : Vok xs[lb ks key] := hv.items _ (List.getElem_mem _)
            have ih1 := ih xs[lb ks key] x hvo (by omega)
            simp only [aw0, aw1, aw2, aw3, aw4, aw5, aw6, aw7, ne_eq, eq_self, implies_true, imp_self, reduceIte, reduceCtorEq, Nat.reduceAdd, Nat.reduceLT, Nat.reduceLeDiff, Nat.reduceEqDiff, Nat.reduceSub, Nat.reduceMul, Nat.reduceBEq, Int.reduceBEq, Int.reduceBNe, Int.reduceLT, Int.reduceLE, Int.reduceGT, Int.reduceGE, Int.reduceNeg, Int.reduceEq, Int.reduceNe, Int.reduceToNat, Int.reduceAdd, aconv, acvB, capR, acmpnil, appBox, storeB, ares1, appendTo, afill, aeqL, teset, inj_take, inj_drop, inj_agg, inj_len, inj_one, List.length_map, none_nb, none_box, hget2, Int.natCast_nonneg, Int.toNat_natCast]
            refine acode_draw_chain te_ok mixed [] (by kernel_rfl) ?_
            simp only [aw0, aw1, aw2, aw3, aw4, aw5, aw6, aw7, ne_eq, eq_self, implies_true, imp_self, reduceIte, reduceCtorEq, Nat.reduceAdd, Nat.reduceLT, Nat.reduceLeDiff, Nat.reduceEqDiff, Nat.reduceSub, Nat.reduceMul, Nat.reduceBEq, Int.reduceBEq, Int.reduceBNe, Int.reduceLT, Int.reduceLE, Int.reduceGT, Int.reduceGE, Int.reduceNeg, Int.reduceEq, Int.reduceNe, Int.reduceToNat, Int.reduceAdd, aconv, acvB, capR, acmpnil, appBox, storeB, ares1, appendTo, afill, aeqL, teset, inj_take, inj_drop, inj_agg, inj_len, inj_one, List.length_map, none_nb, none_box, Nat.add_sub_cancel, takep, Nat.le_refl]
            refine skR_pure ih1 ?_
            have hwp := fun y => with_pure (.mk 5 n t xs ks) (lb ks key) y (Nat.le_of_lt hltx) (by show xs.length < 1000000; have := hsh.2; simp only [V.items] at this; omega)
            rw [inj_mk] at hwp
            generalize putP p xs[lb ks key] x = q
            obtain ⟨y, e⟩ := q
            simp only [aw0, aw1, aw2, aw3, aw4, aw5, aw6, aw7, ne_eq, eq_self, implies_true, imp_self, reduceIte, reduceCtorEq, Nat.reduceAdd, Nat.reduceLT, Nat.reduceLeDiff, Nat.reduceEqDiff, Nat.reduceSub, Nat.reduceMul, Nat.reduceBEq, Int.reduceBEq, Int.reduceBNe, Int.reduceLT, Int.reduceLE, Int.reduceGT, Int.reduceGE, Int.reduceNeg, Int.reduceEq, Int.reduceNe, Int.reduceToNat, Int.reduceAdd, aconv, acvB, capR, acmpnil, appBox, storeB, ares1, appendTo, afill, aeqL, teset, inj_take, inj_drop, inj_agg, inj_len, inj_one, List.length_map, none_nb, none_box]
            by_cases he : e = 0
            · subst he
              simp only [aw0, aw1, aw2, aw3, aw4, aw5, aw6, aw7, ne_eq, eq_self, implies_true, imp_self, reduceIte, reduceCtorEq, Nat.reduceAdd, Nat.reduceLT, Nat.reduceLeDiff, Nat.reduceEqDiff, Nat.reduceSub, Nat.reduceMul, Nat.reduceBEq, Int.reduceBEq, Int.reduceBNe, Int.reduceLT, Int.reduceLE, Int.reduceGT, Int.reduceGE, Int.reduceNeg, Int.reduceEq, Int.reduceNe, Int.reduceToNat, Int.reduceAdd, aconv, acvB, capR, acmpnil, appBox, storeB, ares1, appendTo, afill, aeqL, teset, inj_take, inj_drop, inj_agg, inj_len, inj_one, List.length_map, none_nb, none_box, bne_self_eq_false]
              refine ACallV.pure (hwp y) ?_
              simp only [aw0, aw1, aw2, aw3, aw4, aw5, aw6, aw7, ne_eq, eq_self, implies_true, imp_self, reduceIte, reduceCtorEq, Nat.reduceAdd, Nat.reduceLT, Nat.reduceLeDiff, Nat.reduceEqDiff, Nat.reduceSub, Nat.reduceMul, Nat.reduceBEq, Int.reduceBEq, Int.reduceBNe, Int.reduceLT, Int.reduceLE, Int.reduceGT, Int.reduceGE, Int.reduceNeg, Int.reduceEq, Int.reduceNe, Int.reduceToNat, Int.reduceAdd, aconv, acvB, capR, acmpnil, appBox, storeB, ares1, appendTo, afill, aeqL, teset, inj_take, inj_drop, inj_agg, inj_len, inj_one, List.length_map, none_nb, none_box]
              exact ⟨_, rfl, .refl _ _⟩
            · have he2 : (e != 0) = true := by simpa using he
              simp only [aw0, aw1, aw2, aw3, aw4, aw5, aw6, aw7, ne_eq, eq_self, implies_true, imp_self, reduceIte, reduceCtorEq, Nat.reduceAdd, Nat.reduceLT, Nat.reduceLeDiff, Nat.reduceEqDiff, Nat.reduceSub, Nat.reduceMul, Nat.reduceBEq, Int.reduceBEq, Int.reduceBNe, Int.reduceLT, Int.reduceLE, Int.reduceGT, Int.reduceGE, Int.reduceNeg, Int.reduceEq, Int.reduceNe, Int.reduceToNat, Int.reduceAdd, aconv, acvB, capR, acmpnil, appBox, storeB, ares1, appendTo, afill, aeqL, teset, inj_take, inj_drop, inj_agg, inj_len, inj_one, List.length_map, none_nb, none_box, he2]
              refine ⟨_, rfl, ?_⟩
              rw [if_pos he]
              exact .wk (WkAll.cons wk_zero (.cons (.refl _) .nil)).tup
          | false =>
            have hold : oldV (.mk 5 n t xs ks) ⟨ix, key⟩ = zeroV := by unfold oldV; rw [hi5]; simp [hf]
            rw [hold]
            simp only [aw0, aw1, aw2, aw3, aw4, aw5, aw6, aw7, ne_eq, eq_self, implies_true, imp_self, reduceIte, reduceCtorEq, Nat.reduceAdd, Nat.reduceLT, Nat.reduceLeDiff, Nat.reduceEqDiff, Nat.reduceSub, Nat.reduceMul, Nat.reduceBEq, Int.reduceBEq, Int.reduceBNe, Int.reduceLT, Int.reduceLE, Int.reduceGT, Int.reduceGE, Int.reduceNeg, Int.reduceEq, Int.reduceNe, Int.reduceToNat, Int.reduceAdd, aconv, acvB, capR, acmpnil, appBox, storeB, ares1, appendTo, afill, aeqL, teset, inj_take, inj_drop, inj_agg, inj_len, inj_one, List.length_map, none_nb, none_box]
            refine acode_draw_chain te_ok mixed [] (by kernel_rfl) ?_
            simp only [aw0, aw1, aw2, aw3, aw4, aw5, aw6, aw7, ne_eq, eq_self, implies_true, imp_self, reduceIte, reduceCtorEq, Nat.reduceAdd, Nat.reduceLT, Nat.reduceLeDiff, Nat.reduceEqDiff, Nat.reduceSub, Nat.reduceMul, Nat.reduceBEq, Int.reduceBEq, Int.reduceBNe, Int.reduceLT, Int.reduceLE, Int.reduceGT, Int.reduceGE, Int.reduceNeg, Int.reduceEq, Int.reduceNe, Int.reduceToNat, Int.reduceAdd, aconv, acvB, capR, acmpnil, appBox, storeB, ares1, appendTo, afill, aeqL, teset, inj_take, inj_drop, inj_agg, inj_len, inj_one, List.length_map, none_nb, none_box, Nat.add_sub_cancel, takep, Nat.le_refl]
            refine skR_pureW (ih zeroV x zero_ok (by omega)) (WkAll.cons wk_zero (.cons (.refl _) (.cons (.refl _) .nil))) ?_
            generalize putP p zeroV x = q
            obtain ⟨y, e⟩ := q
            simp only [aw0, aw1, aw2, aw3, aw4, aw5, aw6, aw7, ne_eq, eq_self, implies_true, imp_self, reduceIte, reduceCtorEq, Nat.reduceAdd, Nat.reduceLT, Nat.reduceLeDiff, Nat.reduceEqDiff, Nat.reduceSub, Nat.reduceMul, Nat.reduceBEq, Int.reduceBEq, Int.reduceBNe, Int.reduceLT, Int.reduceLE, Int.reduceGT, Int.reduceGE, Int.reduceNeg, Int.reduceEq, Int.reduceNe, Int.reduceToNat, Int.reduceAdd, aconv, acvB, capR, acmpnil, appBox, storeB, ares1, appendTo, afill, aeqL, teset, inj_take, inj_drop, inj_agg, inj_len, inj_one, List.length_map, none_nb, none_box]
            by_cases he : e = 0
            · subst he
              simp only [aw0, aw1, aw2, aw3, aw4, aw5, aw6, aw7, ne_eq, eq_self, implies_true, imp_self, reduceIte, reduceCtorEq, Nat.reduceAdd, Nat.reduceLT, Nat.reduceLeDiff, Nat.reduceEqDiff, Nat.reduceSub, Nat.reduceMul, Nat.reduceBEq, Int.reduceBEq, Int.reduceBNe, Int.reduceLT, Int.reduceLE, Int.reduceGT, Int.reduceGE, Int.reduceNeg, Int.reduceEq, Int.reduceNe, Int.reduceToNat, Int.reduceAdd, aconv, acvB, capR, acmpnil, appBox, storeB, ares1, appendTo, afill, aeqL, teset, inj_take, inj_drop, inj_agg, inj_len, inj_one, List.length_map, none_nb, none_box, hge, bne_self_eq_false]
              refine acode_draw_chainL (some 6) te_ok mixed [2, 7, 10, 14] (by kernel_rfl) ?_
              simp only [aw0, aw1, aw2, aw3, aw4, aw5, aw6, aw7, ne_eq, eq_self, implies_true, imp_self, reduceIte, reduceCtorEq, Nat.reduceAdd, Nat.reduceLT, Nat.reduceLeDiff, Nat.reduceEqDiff, Nat.reduceSub, Nat.reduceMul, Nat.reduceBEq, Int.reduceBEq, Int.reduceBNe, Int.reduceLT, Int.reduceLE, Int.reduceGT, Int.reduceGE, Int.reduceNeg, Int.reduceEq, Int.reduceNe, Int.reduceToNat, Int.reduceAdd, aconv, acvB, capR, acmpnil, appBox, storeB, ares1, appendTo, afill, aeqL, teset, inj_take, inj_drop, inj_agg, inj_len, inj_one, List.length_map, none_nb, none_box, lowRd_some]
              have hx6 : xs.length < 1000000 := by have := hsh.2; simp only [V.items] at this; omega
              by_cases hne : ks = []
              · subst hne
                have hxe : xs = [] := List.eq_nil_of_length_eq_zero hlen.symm
                subst hxe
                rw [show lb [] key = 0 from rfl]
                refine skR_act (by decide) (ACallV.of ⟨Tryd.f38, Tryd.func38, rfl, by kernel_rfl⟩ (clone1_nil _)) (boxEq.refl _ _) ?_
                simp only [aw0, aw1, aw2, aw3, aw4, aw5, aw6, aw7, ne_eq, eq_self, implies_true, imp_self, reduceIte, reduceCtorEq, Nat.reduceAdd, Nat.reduceLT, Nat.reduceLeDiff, Nat.reduceEqDiff, Nat.reduceSub, Nat.reduceMul, Nat.reduceBEq, Int.reduceBEq, Int.reduceBNe, Int.reduceLT, Int.reduceLE, Int.reduceGT, Int.reduceGE, Int.reduceNeg, Int.reduceEq, Int.reduceNe, Int.reduceToNat, Int.reduceAdd, aconv, acvB, capR, acmpnil, appBox, storeB, ares1, appendTo, afill, aeqL, teset, inj_take, inj_drop, inj_agg, inj_len, inj_one, List.length_map, none_nb, none_box, lowRd_some, range1, inj_len, inj_one]
                refine skR_act (by decide) (ACallV.of ⟨Tryd.f43, Tryd.func43, rfl, by kernel_rfl⟩ ((ins1_nil (.str key) rfl rfl).calls _)) (boxEq.refl _ _) ?_
                simp only [aw0, aw1, aw2, aw3, aw4, aw5, aw6, aw7, ne_eq, eq_self, implies_true, imp_self, reduceIte, reduceCtorEq, Nat.reduceAdd, Nat.reduceLT, Nat.reduceLeDiff, Nat.reduceEqDiff, Nat.reduceSub, Nat.reduceMul, Nat.reduceBEq, Int.reduceBEq, Int.reduceBNe, Int.reduceLT, Int.reduceLE, Int.reduceGT, Int.reduceGE, Int.reduceNeg, Int.reduceEq, Int.reduceNe, Int.reduceToNat, Int.reduceAdd, aconv, acvB, capR, acmpnil, appBox, storeB, ares1, appendTo, afill, aeqL, teset, inj_take, inj_drop, inj_agg, inj_len, inj_one, List.length_map, none_nb, none_box, lowRd_some, range1, inj_len, inj_one]
                refine skR_act (by decide) (ACallV.of ⟨Tryd.f39, Tryd.func39, rfl, by kernel_rfl⟩ (clone5_nil _)) (boxEq.refl _ _) ?_
                simp only [aw0, aw1, aw2, aw3, aw4, aw5, aw6, aw7, ne_eq, eq_self, implies_true, imp_self, reduceIte, reduceCtorEq, Nat.reduceAdd, Nat.reduceLT, Nat.reduceLeDiff, Nat.reduceEqDiff, Nat.reduceSub, Nat.reduceMul, Nat.reduceBEq, Int.reduceBEq, Int.reduceBNe, Int.reduceLT, Int.reduceLE, Int.reduceGT, Int.reduceGE, Int.reduceNeg, Int.reduceEq, Int.reduceNe, Int.reduceToNat, Int.reduceAdd, aconv, acvB, capR, acmpnil, appBox, storeB, ares1, appendTo, afill, aeqL, teset, inj_take, inj_drop, inj_agg, inj_len, inj_one, List.length_map, none_nb, none_box, lowRd_some, range1, inj_len, inj_one]
                refine skR_act (by decide) (ACallV.of ⟨Tryd.f44, Tryd.func44, rfl, by kernel_rfl⟩ ((ins5_nil (inj y) (inj_len y) (inj_under y)).calls _)) (boxEq.refl _ _) ?_
                simp only [aw0, aw1, aw2, aw3, aw4, aw5, aw6, aw7, ne_eq, eq_self, implies_true, imp_self, reduceIte, reduceCtorEq, Nat.reduceAdd, Nat.reduceLT, Nat.reduceLeDiff, Nat.reduceEqDiff, Nat.reduceSub, Nat.reduceMul, Nat.reduceBEq, Int.reduceBEq, Int.reduceBNe, Int.reduceLT, Int.reduceLE, Int.reduceGT, Int.reduceGE, Int.reduceNeg, Int.reduceEq, Int.reduceNe, Int.reduceToNat, Int.reduceAdd, aconv, acvB, capR, acmpnil, appBox, storeB, ares1, appendTo, afill, aeqL, teset, inj_take, inj_drop, inj_agg, inj_len, inj_one, List.length_map, none_nb, none_box, lowRd_some, range1, inj_len, inj_one]
                refine ⟨_, rfl, ?_⟩
                unfold insV
                rw [inj_mk]
                exact .refl _ _
              · have hxe : xs ≠ [] := fun h => hne (List.eq_nil_of_length_eq_zero (by rw [hlen, h]; rfl))
                refine skR_act (by decide) (ACallV.of ⟨Tryd.f38, Tryd.func38, rfl, by kernel_rfl⟩ (clone1_box' ks hne (by omega) _)) (boxEq_new (Nat.le_refl 6)) ?_
                simp only [aw0, aw1, aw2, aw3, aw4, aw5, aw6, aw7, ne_eq, eq_self, implies_true, imp_self, reduceIte, reduceCtorEq, Nat.reduceAdd, Nat.reduceLT, Nat.reduceLeDiff, Nat.reduceEqDiff, Nat.reduceSub, Nat.reduceMul, Nat.reduceBEq, Int.reduceBEq, Int.reduceBNe, Int.reduceLT, Int.reduceLE, Int.reduceGT, Int.reduceGE, Int.reduceNeg, Int.reduceEq, Int.reduceNe, Int.reduceToNat, Int.reduceAdd, aconv, acvB, capR, acmpnil, appBox, storeB, ares1, appendTo, afill, aeqL, teset, inj_take, inj_drop, inj_agg, inj_len, inj_one, List.length_map, none_nb, none_box, lowRd_some, range1, inj_len, inj_one]
                refine skR_act (by decide) (ACallV.of ⟨Tryd.f43, Tryd.func43, rfl, by kernel_rfl⟩ (ins1_box' ks key (lb ks key) (by omega) hlb _ 6 (by simp only [aw0, aw1, aw2, aw3, aw4, aw5, aw6, aw7, ne_eq, eq_self, implies_true, imp_self, reduceIte, reduceCtorEq, Nat.reduceAdd, Nat.reduceLT, Nat.reduceLeDiff, Nat.reduceEqDiff, Nat.reduceSub, Nat.reduceMul, Nat.reduceBEq, Int.reduceBEq, Int.reduceBNe, Int.reduceLT, Int.reduceLE, Int.reduceGT, Int.reduceGE, Int.reduceNeg, Int.reduceEq, Int.reduceNe, Int.reduceToNat, Int.reduceAdd, aconv, acvB, capR, acmpnil, appBox, storeB, ares1, appendTo, afill, aeqL, teset, none_nb, none_box]) (by simp only [aw0, aw1, aw2, aw3, aw4, aw5, aw6, aw7, ne_eq, eq_self, implies_true, imp_self, reduceIte, reduceCtorEq, Nat.reduceAdd, Nat.reduceLT, Nat.reduceLeDiff, Nat.reduceEqDiff, Nat.reduceSub, Nat.reduceMul, Nat.reduceBEq, Int.reduceBEq, Int.reduceBNe, Int.reduceLT, Int.reduceLE, Int.reduceGT, Int.reduceGE, Int.reduceNeg, Int.reduceEq, Int.reduceNe, Int.reduceToNat, Int.reduceAdd, aconv, acvB, capR, acmpnil, appBox, storeB, ares1, appendTo, afill, aeqL, teset, none_nb, none_box]))) (boxEq_kill (Nat.le_refl 6)) ?_
                simp only [aw0, aw1, aw2, aw3, aw4, aw5, aw6, aw7, ne_eq, eq_self, implies_true, imp_self, reduceIte, reduceCtorEq, Nat.reduceAdd, Nat.reduceLT, Nat.reduceLeDiff, Nat.reduceEqDiff, Nat.reduceSub, Nat.reduceMul, Nat.reduceBEq, Int.reduceBEq, Int.reduceBNe, Int.reduceLT, Int.reduceLE, Int.reduceGT, Int.reduceGE, Int.reduceNeg, Int.reduceEq, Int.reduceNe, Int.reduceToNat, Int.reduceAdd, aconv, acvB, capR, acmpnil, appBox, storeB, ares1, appendTo, afill, aeqL, teset, inj_take, inj_drop, inj_agg, inj_len, inj_one, List.length_map, none_nb, none_box, lowRd_some, range1, inj_len, inj_one]
                refine skR_act (by decide) (ACallV.of ⟨Tryd.f39, Tryd.func39, rfl, by kernel_rfl⟩ (clone5_box' xs hxe hx6 _)) (boxEq_new (Nat.le_succ 6)) ?_
                simp only [aw0, aw1, aw2, aw3, aw4, aw5, aw6, aw7, ne_eq, eq_self, implies_true, imp_self, reduceIte, reduceCtorEq, Nat.reduceAdd, Nat.reduceLT, Nat.reduceLeDiff, Nat.reduceEqDiff, Nat.reduceSub, Nat.reduceMul, Nat.reduceBEq, Int.reduceBEq, Int.reduceBNe, Int.reduceLT, Int.reduceLE, Int.reduceGT, Int.reduceGE, Int.reduceNeg, Int.reduceEq, Int.reduceNe, Int.reduceToNat, Int.reduceAdd, aconv, acvB, capR, acmpnil, appBox, storeB, ares1, appendTo, afill, aeqL, teset, inj_take, inj_drop, inj_agg, inj_len, inj_one, List.length_map, none_nb, none_box, lowRd_some, range1, inj_len, inj_one]
                refine skR_act (by decide) (ACallV.of ⟨Tryd.f44, Tryd.func44, rfl, by kernel_rfl⟩ (ins5_box' xs y (lb ks key) hx6 (by omega) _ 7 (by simp only [aw0, aw1, aw2, aw3, aw4, aw5, aw6, aw7, ne_eq, eq_self, implies_true, imp_self, reduceIte, reduceCtorEq, Nat.reduceAdd, Nat.reduceLT, Nat.reduceLeDiff, Nat.reduceEqDiff, Nat.reduceSub, Nat.reduceMul, Nat.reduceBEq, Int.reduceBEq, Int.reduceBNe, Int.reduceLT, Int.reduceLE, Int.reduceGT, Int.reduceGE, Int.reduceNeg, Int.reduceEq, Int.reduceNe, Int.reduceToNat, Int.reduceAdd, aconv, acvB, capR, acmpnil, appBox, storeB, ares1, appendTo, afill, aeqL, teset, none_nb, none_box]) (by simp only [aw0, aw1, aw2, aw3, aw4, aw5, aw6, aw7, ne_eq, eq_self, implies_true, imp_self, reduceIte, reduceCtorEq, Nat.reduceAdd, Nat.reduceLT, Nat.reduceLeDiff, Nat.reduceEqDiff, Nat.reduceSub, Nat.reduceMul, Nat.reduceBEq, Int.reduceBEq, Int.reduceBNe, Int.reduceLT, Int.reduceLE, Int.reduceGT, Int.reduceGE, Int.reduceNeg, Int.reduceEq, Int.reduceNe, Int.reduceToNat, Int.reduceAdd, aconv, acvB, capR, acmpnil, appBox, storeB, ares1, appendTo, afill, aeqL, teset, none_nb, none_box]))) (boxEq_kill (Nat.le_succ 6)) ?_
                simp only [aw0, aw1, aw2, aw3, aw4, aw5, aw6, aw7, ne_eq, eq_self, implies_true, imp_self, reduceIte, reduceCtorEq, Nat.reduceAdd, Nat.reduceLT, Nat.reduceLeDiff, Nat.reduceEqDiff, Nat.reduceSub, Nat.reduceMul, Nat.reduceBEq, Int.reduceBEq, Int.reduceBNe, Int.reduceLT, Int.reduceLE, Int.reduceGT, Int.reduceGE, Int.reduceNeg, Int.reduceEq, Int.reduceNe, Int.reduceToNat, Int.reduceAdd, aconv, acvB, capR, acmpnil, appBox, storeB, ares1, appendTo, afill, aeqL, teset, inj_take, inj_drop, inj_agg, inj_len, inj_one, List.length_map, none_nb, none_box, lowRd_some, range1, inj_len, inj_one]
                refine ⟨_, rfl, ?_⟩
                unfold insV
                rw [inj_mk]
                exact .refl _ _
            · have he2 : (e != 0) = true := by simpa using he
              simp only [aw0, aw1, aw2, aw3, aw4, aw5, aw6, aw7, ne_eq, eq_self, implies_true, imp_self, reduceIte, reduceCtorEq, Nat.reduceAdd, Nat.reduceLT, Nat.reduceLeDiff, Nat.reduceEqDiff, Nat.reduceSub, Nat.reduceMul, Nat.reduceBEq, Int.reduceBEq, Int.reduceBNe, Int.reduceLT, Int.reduceLE, Int.reduceGT, Int.reduceGE, Int.reduceNeg, Int.reduceEq, Int.reduceNe, Int.reduceToNat, Int.reduceAdd, aconv, acvB, capR, acmpnil, appBox, storeB, ares1, appendTo, afill, aeqL, teset, inj_take, inj_drop, inj_agg, inj_len, inj_one, List.length_map, none_nb, none_box, he2]
              refine ⟨_, rfl, ?_⟩
              rw [if_pos he]
              exact .wk (WkAll.cons wk_zero (.cons (.refl _) .nil)).tup
    | false =>
      have hneg' : ¬ ix < 0 := by simpa using hneg
      obtain ⟨m, rfl⟩ : ∃ m : Nat, ix = m := ⟨ix.toNat, by omega⟩
      have hk4 : kindOf ⟨(m : Int), key⟩ = 4 := if_neg hneg'
      have hge : decide ((m : Int) ≥ 0) = true := by simp
      cases h0 : (k == 0) with
      | true =>
        have hk0 : k = 0 := by simpa using h0
        have hsp0 : putP (⟨(m : Int), key⟩ :: p) (.mk k n t xs ks) x = putIn (fun old => putP p old x) ⟨(m : Int), key⟩ (emptyV 4) := by
          simp only [putP, V.kind, hk4]
          rw [if_pos hk0]
        by_cases hm : m = 0
        · subst hm
          have hi4 : itemP (emptyV 4) ⟨((0 : Nat) : Int), key⟩ = (0, false) := by rw [itemP_4 (by simp) rfl]; rfl
          have hspec : putP (⟨((0 : Nat) : Int), key⟩ :: p) (.mk k n t xs ks) x = if (putP p zeroV x).2 ≠ 0 then (zeroV, (putP p zeroV x).2) else (withV (emptyV 4) 0 (putP p zeroV x).1, 0) := by
            rw [hsp0]
            unfold putIn oldV
            rw [hi4]
            have : ¬ (((emptyV 4).items.length : Int) < ((0 : Nat) : Int)) := by show ¬ ((0 : Int) < 0); omega
            rw [if_neg this]
            simp
          rw [hspec]
          have hwp := fun y => with_pure (emptyV 4) 0 y (Nat.zero_le _) (by show 0 < 1000000; omega)
          have hg0 : decide ((0 : Int) > 0) = false := rfl
          have hl0 : decide ((0 : Int) < 0) = false := rfl
          have hge0 : decide ((0 : Int) ≥ 0) = true := rfl
          simp only [aw0, aw1, aw2, aw3, aw4, aw5, aw6, aw7, ne_eq, eq_self, implies_true, imp_self, reduceIte, reduceCtorEq, Nat.reduceAdd, Nat.reduceLT, Nat.reduceLeDiff, Nat.reduceEqDiff, Nat.reduceSub, Nat.reduceMul, Nat.reduceBEq, Int.reduceBEq, Int.reduceBNe, Int.reduceLT, Int.reduceLE, Int.reduceGT, Int.reduceGE, Int.reduceNeg, Int.reduceEq, Int.reduceNe, Int.reduceToNat, Int.reduceAdd, aconv, acvB, capR, acmpnil, appBox, storeB, ares1, appendTo, afill, aeqL, teset, inj_take, inj_drop, inj_agg, inj_len, inj_one, List.length_map, none_nb, none_box, h0, hg0, hl0, Int.natCast_zero]
          refine ACallV.pureW (pitem_pure (empty_ok (.inl rfl)) ⟨((0 : Nat) : Int), key⟩) (WkAll.cons wk_empty4 (.cons (.refl _) .nil)) ?_
          rw [hi4]
          simp only [aw0, aw1, aw2, aw3, aw4, aw5, aw6, aw7, ne_eq, eq_self, implies_true, imp_self, reduceIte, reduceCtorEq, Nat.reduceAdd, Nat.reduceLT, Nat.reduceLeDiff, Nat.reduceEqDiff, Nat.reduceSub, Nat.reduceMul, Nat.reduceBEq, Int.reduceBEq, Int.reduceBNe, Int.reduceLT, Int.reduceLE, Int.reduceGT, Int.reduceGE, Int.reduceNeg, Int.reduceEq, Int.reduceNe, Int.reduceToNat, Int.reduceAdd, aconv, acvB, capR, acmpnil, appBox, storeB, ares1, appendTo, afill, aeqL, teset, inj_take, inj_drop, inj_agg, inj_len, inj_one, List.length_map, none_nb, none_box, h0, hg0, hl0, Int.natCast_zero]
          refine acode_draw_chain te_ok mixed [] (by kernel_rfl) ?_
          simp only [aw0, aw1, aw2, aw3, aw4, aw5, aw6, aw7, ne_eq, eq_self, implies_true, imp_self, reduceIte, reduceCtorEq, Nat.reduceAdd, Nat.reduceLT, Nat.reduceLeDiff, Nat.reduceEqDiff, Nat.reduceSub, Nat.reduceMul, Nat.reduceBEq, Int.reduceBEq, Int.reduceBNe, Int.reduceLT, Int.reduceLE, Int.reduceGT, Int.reduceGE, Int.reduceNeg, Int.reduceEq, Int.reduceNe, Int.reduceToNat, Int.reduceAdd, aconv, acvB, capR, acmpnil, appBox, storeB, ares1, appendTo, afill, aeqL, teset, inj_take, inj_drop, inj_agg, inj_len, inj_one, List.length_map, none_nb, none_box, Int.natCast_zero, Nat.add_sub_cancel, takep, Nat.le_refl]
          refine skR_pureW (ih zeroV x zero_ok (by omega)) (WkAll.cons wk_zero (.cons (.refl _) (.cons (.refl _) .nil))) ?_
          generalize putP p zeroV x = q
          obtain ⟨y, e⟩ := q
          simp only [aw0, aw1, aw2, aw3, aw4, aw5, aw6, aw7, ne_eq, eq_self, implies_true, imp_self, reduceIte, reduceCtorEq, Nat.reduceAdd, Nat.reduceLT, Nat.reduceLeDiff, Nat.reduceEqDiff, Nat.reduceSub, Nat.reduceMul, Nat.reduceBEq, Int.reduceBEq, Int.reduceBNe, Int.reduceLT, Int.reduceLE, Int.reduceGT, Int.reduceGE, Int.reduceNeg, Int.reduceEq, Int.reduceNe, Int.reduceToNat, Int.reduceAdd, aconv, acvB, capR, acmpnil, appBox, storeB, ares1, appendTo, afill, aeqL, teset, inj_take, inj_drop, inj_agg, inj_len, inj_one, List.length_map, none_nb, none_box, Int.natCast_zero]
          by_cases he : e = 0
          · subst he
            simp only [aw0, aw1, aw2, aw3, aw4, aw5, aw6, aw7, ne_eq, eq_self, implies_true, imp_self, reduceIte, reduceCtorEq, Nat.reduceAdd, Nat.reduceLT, Nat.reduceLeDiff, Nat.reduceEqDiff, Nat.reduceSub, Nat.reduceMul, Nat.reduceBEq, Int.reduceBEq, Int.reduceBNe, Int.reduceLT, Int.reduceLE, Int.reduceGT, Int.reduceGE, Int.reduceNeg, Int.reduceEq, Int.reduceNe, Int.reduceToNat, Int.reduceAdd, aconv, acvB, capR, acmpnil, appBox, storeB, ares1, appendTo, afill, aeqL, teset, inj_take, inj_drop, inj_agg, inj_len, inj_one, List.length_map, none_nb, none_box, hge0, Int.natCast_zero, bne_self_eq_false]
            refine ACallV.pureW (hwp y) (WkAll.cons wk_empty4 (.cons (.refl _) (.cons (.refl _) .nil))) ?_
            simp only [aw0, aw1, aw2, aw3, aw4, aw5, aw6, aw7, ne_eq, eq_self, implies_true, imp_self, reduceIte, reduceCtorEq, Nat.reduceAdd, Nat.reduceLT, Nat.reduceLeDiff, Nat.reduceEqDiff, Nat.reduceSub, Nat.reduceMul, Nat.reduceBEq, Int.reduceBEq, Int.reduceBNe, Int.reduceLT, Int.reduceLE, Int.reduceGT, Int.reduceGE, Int.reduceNeg, Int.reduceEq, Int.reduceNe, Int.reduceToNat, Int.reduceAdd, aconv, acvB, capR, acmpnil, appBox, storeB, ares1, appendTo, afill, aeqL, teset, inj_take, inj_drop, inj_agg, inj_len, inj_one, List.length_map, none_nb, none_box]
            exact ⟨_, rfl, .refl _ _⟩
          · have he2 : (e != 0) = true := by simpa using he
            simp only [aw0, aw1, aw2, aw3, aw4, aw5, aw6, aw7, ne_eq, eq_self, implies_true, imp_self, reduceIte, reduceCtorEq, Nat.reduceAdd, Nat.reduceLT, Nat.reduceLeDiff, Nat.reduceEqDiff, Nat.reduceSub, Nat.reduceMul, Nat.reduceBEq, Int.reduceBEq, Int.reduceBNe, Int.reduceLT, Int.reduceLE, Int.reduceGT, Int.reduceGE, Int.reduceNeg, Int.reduceEq, Int.reduceNe, Int.reduceToNat, Int.reduceAdd, aconv, acvB, capR, acmpnil, appBox, storeB, ares1, appendTo, afill, aeqL, teset, inj_take, inj_drop, inj_agg, inj_len, inj_one, List.length_map, none_nb, none_box, he2]
            refine ⟨_, rfl, ?_⟩
            rw [if_pos he]
            exact .wk (WkAll.cons wk_zero (.cons (.refl _) .nil)).tup
        · have hg0 : decide ((m : Int) > 0) = true := by rw [decide_eq_true_eq]; omega
          simp only [aw0, aw1, aw2, aw3, aw4, aw5, aw6, aw7, ne_eq, eq_self, implies_true, imp_self, reduceIte, reduceCtorEq, Nat.reduceAdd, Nat.reduceLT, Nat.reduceLeDiff, Nat.reduceEqDiff, Nat.reduceSub, Nat.reduceMul, Nat.reduceBEq, Int.reduceBEq, Int.reduceBNe, Int.reduceLT, Int.reduceLE, Int.reduceGT, Int.reduceGE, Int.reduceNeg, Int.reduceEq, Int.reduceNe, Int.reduceToNat, Int.reduceAdd, aconv, acvB, capR, acmpnil, appBox, storeB, ares1, appendTo, afill, aeqL, teset, inj_take, inj_drop, inj_agg, inj_len, inj_one, List.length_map, none_nb, none_box, hneg, h0, hg0, Int.natCast_zero]
          refine ⟨_, rfl, ?_⟩
          rw [hsp0]
          unfold putIn
          have : (((emptyV 4).items.length : Int) < (m : Int)) := by show ((0 : Int) < m); omega
          rw [if_pos this]
          exact .wk (WkAll.cons wk_zero (.cons (.refl _) .nil)).tup
      | false =>
        have hk0 : ¬ k = 0 := by simpa using h0
        cases h4 : (k == 4) with
        | false =>
          have hk4' : ¬ k = 4 := by simpa using h4
          have h4n : (k != 4) = true := by simpa using hk4'
          simp only [aw0, aw1, aw2, aw3, aw4, aw5, aw6, aw7, ne_eq, eq_self, implies_true, imp_self, reduceIte, reduceCtorEq, Nat.reduceAdd, Nat.reduceLT, Nat.reduceLeDiff, Nat.reduceEqDiff, Nat.reduceSub, Nat.reduceMul, Nat.reduceBEq, Int.reduceBEq, Int.reduceBNe, Int.reduceLT, Int.reduceLE, Int.reduceGT, Int.reduceGE, Int.reduceNeg, Int.reduceEq, Int.reduceNe, Int.reduceToNat, Int.reduceAdd, aconv, acvB, capR, acmpnil, appBox, storeB, ares1, appendTo, afill, aeqL, teset, inj_take, inj_drop, inj_agg, inj_len, inj_one, List.length_map, none_nb, none_box, hneg, h0, h4, h4n]
          refine ⟨_, rfl, ?_⟩
          have : putP (⟨(m : Int), key⟩ :: p) (.mk k n t xs ks) x = (zeroV, 8) := by simp only [putP, V.kind, hk4]; rw [if_neg hk0, if_pos hk4']
          rw [this]
          exact .wk (WkAll.cons wk_zero (.cons (.refl _) .nil)).tup
        | true =>
          have hk4' : k = 4 := by simpa using h4
          have h4n : (k != 4) = false := by rw [hk4']; rfl
          subst hk4'
          have hsp0 : putP (⟨(m : Int), key⟩ :: p) (.mk 4 n t xs ks) x = putIn (fun old => putP p old x) ⟨(m : Int), key⟩ (.mk 4 n t xs ks) := by
            simp only [putP, V.kind, hk4]
            rw [if_neg (by decide), if_neg (by decide)]
          rw [hsp0]
          unfold putIn
          simp only [V.items]
          by_cases hmx : xs.length < m
          · have hg0 : decide ((m : Int) > (xs.length : Int)) = true := by rw [decide_eq_true_eq]; omega
            simp only [aw0, aw1, aw2, aw3, aw4, aw5, aw6, aw7, ne_eq, eq_self, implies_true, imp_self, reduceIte, reduceCtorEq, Nat.reduceAdd, Nat.reduceLT, Nat.reduceLeDiff, Nat.reduceEqDiff, Nat.reduceSub, Nat.reduceMul, Nat.reduceBEq, Int.reduceBEq, Int.reduceBNe, Int.reduceLT, Int.reduceLE, Int.reduceGT, Int.reduceGE, Int.reduceNeg, Int.reduceEq, Int.reduceNe, Int.reduceToNat, Int.reduceAdd, aconv, acvB, capR, acmpnil, appBox, storeB, ares1, appendTo, afill, aeqL, teset, inj_take, inj_drop, inj_agg, inj_len, inj_one, List.length_map, none_nb, none_box, hneg, h0, h4, h4n, hg0]
            refine ⟨_, rfl, ?_⟩
            rw [if_pos (by omega)]
            exact .wk (WkAll.cons wk_zero (.cons (.refl _) .nil)).tup
          · have hg0 : decide ((m : Int) > (xs.length : Int)) = false := by rw [decide_eq_false_iff_not]; omega
            rw [if_neg (show ¬ ((xs.length : Int) < (m : Int)) by omega)]
            have hx6 : xs.length < 1000000 := by have := hsh.2; simp only [V.items] at this; omega
            have hitem := pitem_pure hv ⟨(m : Int), key⟩
            have hi4 : itemP (.mk 4 n t xs ks) ⟨(m : Int), key⟩ = ((m : Int), decide ((m : Int) < (xs.length : Int))) := itemP_4 (by simp) rfl
            rw [inj_mk, hi4] at hitem
            rw [hi4]
            have hwp := fun y => with_pure (.mk 4 n t xs ks) m y (by show m ≤ xs.length; omega) hx6
            rw [inj_mk] at hwp
            have hor : ∀ b : Prop, (b ∨ 0 ≤ (m : Int)) = True := fun b => by simp
            simp only [Int.toNat_natCast, hor, if_true]
            simp only [aw0, aw1, aw2, aw3, aw4, aw5, aw6, aw7, ne_eq, eq_self, implies_true, imp_self, reduceIte, reduceCtorEq, Nat.reduceAdd, Nat.reduceLT, Nat.reduceLeDiff, Nat.reduceEqDiff, Nat.reduceSub, Nat.reduceMul, Nat.reduceBEq, Int.reduceBEq, Int.reduceBNe, Int.reduceLT, Int.reduceLE, Int.reduceGT, Int.reduceGE, Int.reduceNeg, Int.reduceEq, Int.reduceNe, Int.reduceToNat, Int.reduceAdd, aconv, acvB, capR, acmpnil, appBox, storeB, ares1, appendTo, afill, aeqL, teset, inj_take, inj_drop, inj_agg, inj_len, inj_one, List.length_map, none_nb, none_box, hneg, h0, h4, h4n, hg0]
            refine ACallV.pure hitem ?_
            by_cases hlt : m < xs.length
            · have hd : decide ((m : Int) < (xs.length : Int)) = true := by rw [decide_eq_true_eq]; omega
              have hget2 : (xs.map inj)[m]? = some (inj xs[m]) := by rw [List.getElem?_map, List.getElem?_eq_getElem hlt]; rfl
              have hold : oldV (.mk 4 n t xs ks) ⟨(m : Int), key⟩ = xs[m] := by
                unfold oldV; rw [hi4]; simp only [hd, if_true, V.items, Int.toNat_natCast]
                rw [List.getD_eq_getElem?_getD, List.getElem?_eq_getElem hlt]; rfl
              rw [hold]
              have ih1 := ih xs[m] x (hv.items _ (List.getElem_mem _)) (by omega)
              simp only [aw0, aw1, aw2, aw3, aw4, aw5, aw6, aw7, ne_eq, eq_self, implies_true, imp_self, reduceIte, reduceCtorEq, Nat.reduceAdd, Nat.reduceLT, Nat.reduceLeDiff, Nat.reduceEqDiff, Nat.reduceSub, Nat.reduceMul, Nat.reduceBEq, Int.reduceBEq, Int.reduceBNe, Int.reduceLT, Int.reduceLE, Int.reduceGT, Int.reduceGE, Int.reduceNeg, Int.reduceEq, Int.reduceNe, Int.reduceToNat, Int.reduceAdd, aconv, acvB, capR, acmpnil, appBox, storeB, ares1, appendTo, afill, aeqL, teset, inj_take, inj_drop, inj_agg, inj_len, inj_one, List.length_map, none_nb, none_box, hd, hget2, Int.natCast_nonneg, Int.toNat_natCast]
              refine acode_draw_chain te_ok mixed [] (by kernel_rfl) ?_
              simp only [aw0, aw1, aw2, aw3, aw4, aw5, aw6, aw7, ne_eq, eq_self, implies_true, imp_self, reduceIte, reduceCtorEq, Nat.reduceAdd, Nat.reduceLT, Nat.reduceLeDiff, Nat.reduceEqDiff, Nat.reduceSub, Nat.reduceMul, Nat.reduceBEq, Int.reduceBEq, Int.reduceBNe, Int.reduceLT, Int.reduceLE, Int.reduceGT, Int.reduceGE, Int.reduceNeg, Int.reduceEq, Int.reduceNe, Int.reduceToNat, Int.reduceAdd, aconv, acvB, capR, acmpnil, appBox, storeB, ares1, appendTo, afill, aeqL, teset, inj_take, inj_drop, inj_agg, inj_len, inj_one, List.length_map, none_nb, none_box, Nat.add_sub_cancel, takep, Nat.le_refl]
              refine skR_pure ih1 ?_
              generalize putP p xs[m] x = q
              obtain ⟨y, e⟩ := q
              simp only [aw0, aw1, aw2, aw3, aw4, aw5, aw6, aw7, ne_eq, eq_self, implies_true, imp_self, reduceIte, reduceCtorEq, Nat.reduceAdd, Nat.reduceLT, Nat.reduceLeDiff, Nat.reduceEqDiff, Nat.reduceSub, Nat.reduceMul, Nat.reduceBEq, Int.reduceBEq, Int.reduceBNe, Int.reduceLT, Int.reduceLE, Int.reduceGT, Int.reduceGE, Int.reduceNeg, Int.reduceEq, Int.reduceNe, Int.reduceToNat, Int.reduceAdd, aconv, acvB, capR, acmpnil, appBox, storeB, ares1, appendTo, afill, aeqL, teset, inj_take, inj_drop, inj_agg, inj_len, inj_one, List.length_map, none_nb, none_box]
              by_cases he : e = 0
              · subst he
                simp only [aw0, aw1, aw2, aw3, aw4, aw5, aw6, aw7, ne_eq, eq_self, implies_true, imp_self, reduceIte, reduceCtorEq, Nat.reduceAdd, Nat.reduceLT, Nat.reduceLeDiff, Nat.reduceEqDiff, Nat.reduceSub, Nat.reduceMul, Nat.reduceBEq, Int.reduceBEq, Int.reduceBNe, Int.reduceLT, Int.reduceLE, Int.reduceGT, Int.reduceGE, Int.reduceNeg, Int.reduceEq, Int.reduceNe, Int.reduceToNat, Int.reduceAdd, aconv, acvB, capR, acmpnil, appBox, storeB, ares1, appendTo, afill, aeqL, teset, inj_take, inj_drop, inj_agg, inj_len, inj_one, List.length_map, none_nb, none_box, bne_self_eq_false]
                refine ACallV.pure (hwp y) ?_
                simp only [aw0, aw1, aw2, aw3, aw4, aw5, aw6, aw7, ne_eq, eq_self, implies_true, imp_self, reduceIte, reduceCtorEq, Nat.reduceAdd, Nat.reduceLT, Nat.reduceLeDiff, Nat.reduceEqDiff, Nat.reduceSub, Nat.reduceMul, Nat.reduceBEq, Int.reduceBEq, Int.reduceBNe, Int.reduceLT, Int.reduceLE, Int.reduceGT, Int.reduceGE, Int.reduceNeg, Int.reduceEq, Int.reduceNe, Int.reduceToNat, Int.reduceAdd, aconv, acvB, capR, acmpnil, appBox, storeB, ares1, appendTo, afill, aeqL, teset, inj_take, inj_drop, inj_agg, inj_len, inj_one, List.length_map, none_nb, none_box]
                exact ⟨_, rfl, .refl _ _⟩
              · have he2 : (e != 0) = true := by simpa using he
                simp only [aw0, aw1, aw2, aw3, aw4, aw5, aw6, aw7, ne_eq, eq_self, implies_true, imp_self, reduceIte, reduceCtorEq, Nat.reduceAdd, Nat.reduceLT, Nat.reduceLeDiff, Nat.reduceEqDiff, Nat.reduceSub, Nat.reduceMul, Nat.reduceBEq, Int.reduceBEq, Int.reduceBNe, Int.reduceLT, Int.reduceLE, Int.reduceGT, Int.reduceGE, Int.reduceNeg, Int.reduceEq, Int.reduceNe, Int.reduceToNat, Int.reduceAdd, aconv, acvB, capR, acmpnil, appBox, storeB, ares1, appendTo, afill, aeqL, teset, inj_take, inj_drop, inj_agg, inj_len, inj_one, List.length_map, none_nb, none_box, he2]
                refine ⟨_, rfl, ?_⟩
                rw [if_pos he]
                exact .wk (WkAll.cons wk_zero (.cons (.refl _) .nil)).tup
            · have hd : decide ((m : Int) < (xs.length : Int)) = false := by rw [decide_eq_false_iff_not]; omega
              have hold : oldV (.mk 4 n t xs ks) ⟨(m : Int), key⟩ = zeroV := by unfold oldV; rw [hi4]; simp only [hd, Bool.false_eq_true, if_false]
              rw [hold]
              simp only [aw0, aw1, aw2, aw3, aw4, aw5, aw6, aw7, ne_eq, eq_self, implies_true, imp_self, reduceIte, reduceCtorEq, Nat.reduceAdd, Nat.reduceLT, Nat.reduceLeDiff, Nat.reduceEqDiff, Nat.reduceSub, Nat.reduceMul, Nat.reduceBEq, Int.reduceBEq, Int.reduceBNe, Int.reduceLT, Int.reduceLE, Int.reduceGT, Int.reduceGE, Int.reduceNeg, Int.reduceEq, Int.reduceNe, Int.reduceToNat, Int.reduceAdd, aconv, acvB, capR, acmpnil, appBox, storeB, ares1, appendTo, afill, aeqL, teset, inj_take, inj_drop, inj_agg, inj_len, inj_one, List.length_map, none_nb, none_box, hd]
              refine acode_draw_chain te_ok mixed [] (by kernel_rfl) ?_
              simp only [aw0, aw1, aw2, aw3, aw4, aw5, aw6, aw7, ne_eq, eq_self, implies_true, imp_self, reduceIte, reduceCtorEq, Nat.reduceAdd, Nat.reduceLT, Nat.reduceLeDiff, Nat.reduceEqDiff, Nat.reduceSub, Nat.reduceMul, Nat.reduceBEq, Int.reduceBEq, Int.reduceBNe, Int.reduceLT, Int.reduceLE, Int.reduceGT, Int.reduceGE, Int.reduceNeg, Int.reduceEq, Int.reduceNe, Int.reduceToNat, Int.reduceAdd, aconv, acvB, capR, acmpnil, appBox, storeB, ares1, appendTo, afill, aeqL, teset, inj_take, inj_drop, inj_agg, inj_len, inj_one, List.length_map, none_nb, none_box, Nat.add_sub_cancel, takep, Nat.le_refl]
              refine skR_pureW (ih zeroV x zero_ok (by omega)) (WkAll.cons wk_zero (.cons (.refl _) (.cons (.refl _) .nil))) ?_
              generalize putP p zeroV x = q
              obtain ⟨y, e⟩ := q
              simp only [aw0, aw1, aw2, aw3, aw4, aw5, aw6, aw7, ne_eq, eq_self, implies_true, imp_self, reduceIte, reduceCtorEq, Nat.reduceAdd, Nat.reduceLT, Nat.reduceLeDiff, Nat.reduceEqDiff, Nat.reduceSub, Nat.reduceMul, Nat.reduceBEq, Int.reduceBEq, Int.reduceBNe, Int.reduceLT, Int.reduceLE, Int.reduceGT, Int.reduceGE, Int.reduceNeg, Int.reduceEq, Int.reduceNe, Int.reduceToNat, Int.reduceAdd, aconv, acvB, capR, acmpnil, appBox, storeB, ares1, appendTo, afill, aeqL, teset, inj_take, inj_drop, inj_agg, inj_len, inj_one, List.length_map, none_nb, none_box]
              by_cases he : e = 0
              · subst he
                simp only [aw0, aw1, aw2, aw3, aw4, aw5, aw6, aw7, ne_eq, eq_self, implies_true, imp_self, reduceIte, reduceCtorEq, Nat.reduceAdd, Nat.reduceLT, Nat.reduceLeDiff, Nat.reduceEqDiff, Nat.reduceSub, Nat.reduceMul, Nat.reduceBEq, Int.reduceBEq, Int.reduceBNe, Int.reduceLT, Int.reduceLE, Int.reduceGT, Int.reduceGE, Int.reduceNeg, Int.reduceEq, Int.reduceNe, Int.reduceToNat, Int.reduceAdd, aconv, acvB, capR, acmpnil, appBox, storeB, ares1, appendTo, afill, aeqL, teset, inj_take, inj_drop, inj_agg, inj_len, inj_one, List.length_map, none_nb, none_box, hge, bne_self_eq_false]
                refine ACallV.pure (hwp y) ?_
                simp only [aw0, aw1, aw2, aw3, aw4, aw5, aw6, aw7, ne_eq, eq_self, implies_true, imp_self, reduceIte, reduceCtorEq, Nat.reduceAdd, Nat.reduceLT, Nat.reduceLeDiff, Nat.reduceEqDiff, Nat.reduceSub, Nat.reduceMul, Nat.reduceBEq, Int.reduceBEq, Int.reduceBNe, Int.reduceLT, Int.reduceLE, Int.reduceGT, Int.reduceGE, Int.reduceNeg, Int.reduceEq, Int.reduceNe, Int.reduceToNat, Int.reduceAdd, aconv, acvB, capR, acmpnil, appBox, storeB, ares1, appendTo, afill, aeqL, teset, inj_take, inj_drop, inj_agg, inj_len, inj_one, List.length_map, none_nb, none_box]
                exact ⟨_, rfl, .refl _ _⟩
              · have he2 : (e != 0) = true := by simpa using he
                simp only [aw0, aw1, aw2, aw3, aw4, aw5, aw6, aw7, ne_eq, eq_self, implies_true, imp_self, reduceIte, reduceCtorEq, Nat.reduceAdd, Nat.reduceLT, Nat.reduceLeDiff, Nat.reduceEqDiff, Nat.reduceSub, Nat.reduceMul, Nat.reduceBEq, Int.reduceBEq, Int.reduceBNe, Int.reduceLT, Int.reduceLE, Int.reduceGT, Int.reduceGE, Int.reduceNeg, Int.reduceEq, Int.reduceNe, Int.reduceToNat, Int.reduceAdd, aconv, acvB, capR, acmpnil, appBox, storeB, ares1, appendTo, afill, aeqL, teset, inj_take, inj_drop, inj_agg, inj_len, inj_one, List.length_map, none_nb, none_box, he2]
                refine ⟨_, rfl, ?_⟩
                rw [if_pos he]
                exact .wk (WkAll.cons wk_zero (.cons (.refl _) .nil)).tup
end Go.Proofs.YtjdocenbfghglaaDoor.AW
end
section
set_option linter.unusedSimpArgs false
set_option linter.unusedVariables false
namespace Go.Proofs.YtjdocenbfghglaaDoor.AW
open Go Go.RowKit

def wholeV (v : V) : V × Int := if valid v = true then (v, 0) else (zeroV, 2)
def putV (v : V) (p : List Stp) (x : V) : V × Int :=
  if valid v = true ∧ pathOk p = true ∧ valid x = true then (if (putP p v x).2 ≠ 0 then (zeroV, (putP p v x).2) else wholeV (putP p v x).1) else (zeroV, 1)
theorem tup2_under (v : V) (n : Int) : (AV.tup [inj v, .int .i64 n]).under 0 0 = true := by simp [AV.under, AV.underL, inj_under]
theorem whole_pure (v : V) (hv : v.sm) : Pure Tryd.prog 28 [inj v] (.tup [inj (wholeV v).1, .int .i64 (wholeV v).2]) := by
  refine Pure.of0 ⟨Tryd.f28, Tryd.func28, rfl, by kernel_rfl⟩ (by simp [AV.underL, inj_under]) (tup2_under _ _) ?_
  refine acalls_of te_ok [] Tryd.func28 (c := _) rfl (Nat.le_of_ble_eq_true rfl) ?_
  simp only [aw0, aw1, aw2, aw3, aw4, aw5, aw6, aw7, ne_eq, eq_self, implies_true, imp_self, reduceIte, reduceCtorEq, Nat.reduceAdd, Nat.reduceLT, Nat.reduceLeDiff, Nat.reduceEqDiff, Nat.reduceSub, Nat.reduceMul, Nat.reduceBEq, Int.reduceBEq, Int.reduceBNe, Int.reduceLT, Int.reduceLE, Int.reduceGT, Int.reduceGE, Int.reduceNeg, Int.reduceEq, Int.reduceNe, Int.reduceToNat, Int.reduceAdd, aconv, acvB, capR, acmpnil, appBox, storeB, ares1, appendTo, afill, aeqL, teset, Tryd.ntmps28, Tryd.results28, inj_take, inj_drop, inj_agg, inj_len, inj_one, List.length_map, boxR, none_nb, none_box]
  refine ACallV.pure (pvalid_pure v hv) ?_
  cases hval : valid v with
  | false =>
    simp only [aw0, aw1, aw2, aw3, aw4, aw5, aw6, aw7, ne_eq, eq_self, implies_true, imp_self, reduceIte, reduceCtorEq, Nat.reduceAdd, Nat.reduceLT, Nat.reduceLeDiff, Nat.reduceEqDiff, Nat.reduceSub, Nat.reduceMul, Nat.reduceBEq, Int.reduceBEq, Int.reduceBNe, Int.reduceLT, Int.reduceLE, Int.reduceGT, Int.reduceGE, Int.reduceNeg, Int.reduceEq, Int.reduceNe, Int.reduceToNat, Int.reduceAdd, aconv, acvB, capR, acmpnil, appBox, storeB, ares1, appendTo, afill, aeqL, teset, inj_take, inj_drop, inj_agg, inj_len, inj_one, List.length_map, none_nb, none_box]
    refine ⟨_, rfl, ?_⟩
    have : wholeV v = (zeroV, 2) := by unfold wholeV; rw [hval]; rfl
    rw [this]
    exact .wk (WkAll.cons wk_zero (.cons (.refl _) .nil)).tup
  | true =>
    simp only [aw0, aw1, aw2, aw3, aw4, aw5, aw6, aw7, ne_eq, eq_self, implies_true, imp_self, reduceIte, reduceCtorEq, Nat.reduceAdd, Nat.reduceLT, Nat.reduceLeDiff, Nat.reduceEqDiff, Nat.reduceSub, Nat.reduceMul, Nat.reduceBEq, Int.reduceBEq, Int.reduceBNe, Int.reduceLT, Int.reduceLE, Int.reduceGT, Int.reduceGE, Int.reduceNeg, Int.reduceEq, Int.reduceNe, Int.reduceToNat, Int.reduceAdd, aconv, acvB, capR, acmpnil, appBox, storeB, ares1, appendTo, afill, aeqL, teset, inj_take, inj_drop, inj_agg, inj_len, inj_one, List.length_map, none_nb, none_box]
    refine ACallV.pure (clone_pure v (valid_ok hval)) ?_
    simp only [aw0, aw1, aw2, aw3, aw4, aw5, aw6, aw7, ne_eq, eq_self, implies_true, imp_self, reduceIte, reduceCtorEq, Nat.reduceAdd, Nat.reduceLT, Nat.reduceLeDiff, Nat.reduceEqDiff, Nat.reduceSub, Nat.reduceMul, Nat.reduceBEq, Int.reduceBEq, Int.reduceBNe, Int.reduceLT, Int.reduceLE, Int.reduceGT, Int.reduceGE, Int.reduceNeg, Int.reduceEq, Int.reduceNe, Int.reduceToNat, Int.reduceAdd, aconv, acvB, capR, acmpnil, appBox, storeB, ares1, appendTo, afill, aeqL, teset, inj_take, inj_drop, inj_agg, inj_len, inj_one, List.length_map, none_nb, none_box]
    refine ⟨_, rfl, ?_⟩
    have : wholeV v = (v, 0) := by unfold wholeV; rw [hval]; rfl
    rw [this]
    exact .refl _ _
theorem withV_sm {v y : V} {i : Nat} (hv : v.sm) (hy : y.sm) (hl : v.items.length < 1000000) : (withV v i y).sm := by
  obtain ⟨k, n, t, xs, ks⟩ := v
  simp only [V.items] at hl
  simp only [withV, V.kind, V.int, V.text, V.items, V.keys, V.sm] at hv ⊢
  refine ⟨by simp; omega, hv.2.1, ?_⟩
  rw [V.smL_iff]
  intro z hz
  rcases List.mem_append.1 hz with h1 | h1
  · exact V.smL_iff.1 hv.2.2 z (List.mem_of_mem_take h1)
  · rcases List.mem_cons.1 h1 with rfl | h1
    · exact hy
    · exact V.smL_iff.1 hv.2.2 z (List.mem_of_mem_drop h1)
theorem insV_sm {v y : V} {i : Nat} {k : ByteArray} (hv : v.sm) (hy : y.sm) (hl : v.items.length < 1000000) (hk : v.keys.length < 1000000) : (insV v i k y).sm := by
  obtain ⟨kk, n, t, xs, ks⟩ := v
  simp only [V.items, V.keys] at hl hk
  simp only [insV, V.kind, V.int, V.text, V.items, V.keys, V.sm] at hv ⊢
  refine ⟨by simp; omega, by simp; omega, ?_⟩
  rw [V.smL_iff]
  intro z hz
  rcases List.mem_append.1 hz with h1 | h1
  · exact V.smL_iff.1 hv.2.2 z (List.mem_of_mem_take h1)
  · rcases List.mem_cons.1 h1 with rfl | h1
    · exact hy
    · exact V.smL_iff.1 hv.2.2 z (List.mem_of_mem_drop h1)
theorem old_ok {v : V} (hv : Vok v) (s : Stp) : Vok (oldV v s) := by
  unfold oldV
  split
  · rw [List.getD_eq_getElem?_getD]
    cases h : v.items[(itemP v s).1.toNat]? with
    | none => exact zero_ok
    | some x => exact hv.items x (List.mem_of_getElem? h)
  · exact zero_ok
theorem putIn_sm {f : V → V × Int} {s : Stp} {v : V} (hv : Vok v) (hf : ∀ o, Vok o → (f o).1.sm) : (putIn f s v).1.sm := by
  have h1 := hv.shape.2
  have h2 := hv.keys.2
  have hy := hf _ (old_ok hv s)
  unfold putIn
  split
  · exact zero_sm
  · split
    · exact zero_sm
    · split
      · exact withV_sm hv.sm hy (by omega)
      · exact insV_sm hv.sm hy (by omega) (by omega)
theorem kindOf_or (s : Stp) : kindOf s = 4 ∨ kindOf s = 5 := by
  unfold kindOf
  split
  · exact .inr rfl
  · exact .inl rfl
theorem putP_sm : ∀ (p : List Stp) (v x : V), Vok v → x.sm → (putP p v x).1.sm := by
  intro p
  induction p with
  | nil => intro v x _ hx; exact hx
  | cons s p ih =>
    intro v x hv hx
    simp only [putP]
    split
    · exact putIn_sm (empty_ok (kindOf_or s)) (fun o ho => ih o x ho hx)
    · split
      · exact zero_sm
      · exact putIn_sm hv (fun o ho => ih o x ho hx)

theorem pathOk_len {p : List Stp} (h : pathOk p = true) : p.length ≤ 6 := by
  unfold pathOk at h; simp only [Bool.and_eq_true, decide_eq_true_eq] at h; exact h.1
theorem pput_pure (v : V) (p : List Stp) (x : V) (hv : v.sm) (hp : p.length < 4611686018427387904) (hx : x.sm) : Pure Tryd.prog 10 [inj v, .sl .ro 2 (p.map injS), inj x] (.tup [inj (putV v p x).1, .int .i64 (putV v p x).2]) := by
  refine Pure.of0 ⟨Tryd.f10, Tryd.func10, rfl, by kernel_rfl⟩ (by simp [AV.underL, inj_under, AV.under, injS_under]) (tup2_under _ _) ?_
  have bad : ∀ (h : AH), ¬ (valid v = true ∧ pathOk p = true ∧ valid x = true) → ∃ u, AOut.ret (.tup [.agg [.int .i64 0, .int .i64 0, .str ⟨#[]⟩, .sl .full 0 [], .sl .full 0 []], .int .i64 1]) = .ret u ∧ To0 h u (.tup [inj (putV v p x).1, .int .i64 (putV v p x).2]) := by
    intro h hn
    refine ⟨_, rfl, ?_⟩
    have : putV v p x = (zeroV, 1) := by unfold putV; rw [if_neg hn]
    rw [this]
    exact .wk (WkAll.cons wk_zero (.cons (.refl _) .nil)).tup
  refine acalls_of te_ok [] Tryd.func10 (c := _) rfl (Nat.le_of_ble_eq_true rfl) ?_
  simp only [aw0, aw1, aw2, aw3, aw4, aw5, aw6, aw7, ne_eq, eq_self, implies_true, imp_self, reduceIte, reduceCtorEq, Nat.reduceAdd, Nat.reduceLT, Nat.reduceLeDiff, Nat.reduceEqDiff, Nat.reduceSub, Nat.reduceMul, Nat.reduceBEq, Int.reduceBEq, Int.reduceBNe, Int.reduceLT, Int.reduceLE, Int.reduceGT, Int.reduceGE, Int.reduceNeg, Int.reduceEq, Int.reduceNe, Int.reduceToNat, Int.reduceAdd, aconv, acvB, capR, acmpnil, appBox, storeB, ares1, appendTo, afill, aeqL, teset, Tryd.ntmps10, Tryd.results10, inj_take, inj_drop, inj_agg, inj_len, inj_one, List.length_map, boxR, none_nb, none_box]
  refine ACallV.pure (pvalid_pure v hv) ?_
  cases h1 : valid v with
  | false =>
    simp only [aw0, aw1, aw2, aw3, aw4, aw5, aw6, aw7, ne_eq, eq_self, implies_true, imp_self, reduceIte, reduceCtorEq, Nat.reduceAdd, Nat.reduceLT, Nat.reduceLeDiff, Nat.reduceEqDiff, Nat.reduceSub, Nat.reduceMul, Nat.reduceBEq, Int.reduceBEq, Int.reduceBNe, Int.reduceLT, Int.reduceLE, Int.reduceGT, Int.reduceGE, Int.reduceNeg, Int.reduceEq, Int.reduceNe, Int.reduceToNat, Int.reduceAdd, aconv, acvB, capR, acmpnil, appBox, storeB, ares1, appendTo, afill, aeqL, teset, inj_take, inj_drop, inj_agg, inj_len, inj_one, List.length_map, none_nb, none_box]
    exact bad _ (by rw [h1]; rintro ⟨h, _⟩; cases h)
  | true =>
    simp only [aw0, aw1, aw2, aw3, aw4, aw5, aw6, aw7, ne_eq, eq_self, implies_true, imp_self, reduceIte, reduceCtorEq, Nat.reduceAdd, Nat.reduceLT, Nat.reduceLeDiff, Nat.reduceEqDiff, Nat.reduceSub, Nat.reduceMul, Nat.reduceBEq, Int.reduceBEq, Int.reduceBNe, Int.reduceLT, Int.reduceLE, Int.reduceGT, Int.reduceGE, Int.reduceNeg, Int.reduceEq, Int.reduceNe, Int.reduceToNat, Int.reduceAdd, aconv, acvB, capR, acmpnil, appBox, storeB, ares1, appendTo, afill, aeqL, teset, inj_take, inj_drop, inj_agg, inj_len, inj_one, List.length_map, none_nb, none_box]
    refine ACallV.pure (ppath_pure p (by omega)) ?_
    cases h2 : pathOk p with
    | false =>
      simp only [aw0, aw1, aw2, aw3, aw4, aw5, aw6, aw7, ne_eq, eq_self, implies_true, imp_self, reduceIte, reduceCtorEq, Nat.reduceAdd, Nat.reduceLT, Nat.reduceLeDiff, Nat.reduceEqDiff, Nat.reduceSub, Nat.reduceMul, Nat.reduceBEq, Int.reduceBEq, Int.reduceBNe, Int.reduceLT, Int.reduceLE, Int.reduceGT, Int.reduceGE, Int.reduceNeg, Int.reduceEq, Int.reduceNe, Int.reduceToNat, Int.reduceAdd, aconv, acvB, capR, acmpnil, appBox, storeB, ares1, appendTo, afill, aeqL, teset, inj_take, inj_drop, inj_agg, inj_len, inj_one, List.length_map, none_nb, none_box]
      exact bad _ (by rw [h2]; rintro ⟨_, h, _⟩; cases h)
    | true =>
      simp only [aw0, aw1, aw2, aw3, aw4, aw5, aw6, aw7, ne_eq, eq_self, implies_true, imp_self, reduceIte, reduceCtorEq, Nat.reduceAdd, Nat.reduceLT, Nat.reduceLeDiff, Nat.reduceEqDiff, Nat.reduceSub, Nat.reduceMul, Nat.reduceBEq, Int.reduceBEq, Int.reduceBNe, Int.reduceLT, Int.reduceLE, Int.reduceGT, Int.reduceGE, Int.reduceNeg, Int.reduceEq, Int.reduceNe, Int.reduceToNat, Int.reduceAdd, aconv, acvB, capR, acmpnil, appBox, storeB, ares1, appendTo, afill, aeqL, teset, inj_take, inj_drop, inj_agg, inj_len, inj_one, List.length_map, none_nb, none_box]
      refine ACallV.pure (pvalid_pure x hx) ?_
      cases h3 : valid x with
      | false =>
        simp only [aw0, aw1, aw2, aw3, aw4, aw5, aw6, aw7, ne_eq, eq_self, implies_true, imp_self, reduceIte, reduceCtorEq, Nat.reduceAdd, Nat.reduceLT, Nat.reduceLeDiff, Nat.reduceEqDiff, Nat.reduceSub, Nat.reduceMul, Nat.reduceBEq, Int.reduceBEq, Int.reduceBNe, Int.reduceLT, Int.reduceLE, Int.reduceGT, Int.reduceGE, Int.reduceNeg, Int.reduceEq, Int.reduceNe, Int.reduceToNat, Int.reduceAdd, aconv, acvB, capR, acmpnil, appBox, storeB, ares1, appendTo, afill, aeqL, teset, inj_take, inj_drop, inj_agg, inj_len, inj_one, List.length_map, none_nb, none_box]
        exact bad _ (by rw [h3]; rintro ⟨_, _, h⟩; cases h)
      | true =>
        simp only [aw0, aw1, aw2, aw3, aw4, aw5, aw6, aw7, ne_eq, eq_self, implies_true, imp_self, reduceIte, reduceCtorEq, Nat.reduceAdd, Nat.reduceLT, Nat.reduceLeDiff, Nat.reduceEqDiff, Nat.reduceSub, Nat.reduceMul, Nat.reduceBEq, Int.reduceBEq, Int.reduceBNe, Int.reduceLT, Int.reduceLE, Int.reduceGT, Int.reduceGE, Int.reduceNeg, Int.reduceEq, Int.reduceNe, Int.reduceToNat, Int.reduceAdd, aconv, acvB, capR, acmpnil, appBox, storeB, ares1, appendTo, afill, aeqL, teset, inj_take, inj_drop, inj_agg, inj_len, inj_one, List.length_map, none_nb, none_box]
        have hvk := valid_ok h1
        refine ACallV.pure (put_pure p v x hvk (by have := pathOk_len h2; omega)) ?_
        have hspec : putV v p x = (if (putP p v x).2 ≠ 0 then (zeroV, (putP p v x).2) else wholeV (putP p v x).1) := by unfold putV; rw [if_pos ⟨h1, h2, h3⟩]
        have hw := whole_pure (putP p v x).1 (putP_sm p v x hvk hx)
        rw [hspec]
        generalize putP p v x = q at hw ⊢
        obtain ⟨y, e⟩ := q
        simp only [aw0, aw1, aw2, aw3, aw4, aw5, aw6, aw7, ne_eq, eq_self, implies_true, imp_self, reduceIte, reduceCtorEq, Nat.reduceAdd, Nat.reduceLT, Nat.reduceLeDiff, Nat.reduceEqDiff, Nat.reduceSub, Nat.reduceMul, Nat.reduceBEq, Int.reduceBEq, Int.reduceBNe, Int.reduceLT, Int.reduceLE, Int.reduceGT, Int.reduceGE, Int.reduceNeg, Int.reduceEq, Int.reduceNe, Int.reduceToNat, Int.reduceAdd, aconv, acvB, capR, acmpnil, appBox, storeB, ares1, appendTo, afill, aeqL, teset, inj_take, inj_drop, inj_agg, inj_len, inj_one, List.length_map, none_nb, none_box]
        by_cases he : e = 0
        · subst he
          simp only [aw0, aw1, aw2, aw3, aw4, aw5, aw6, aw7, ne_eq, eq_self, implies_true, imp_self, reduceIte, reduceCtorEq, Nat.reduceAdd, Nat.reduceLT, Nat.reduceLeDiff, Nat.reduceEqDiff, Nat.reduceSub, Nat.reduceMul, Nat.reduceBEq, Int.reduceBEq, Int.reduceBNe, Int.reduceLT, Int.reduceLE, Int.reduceGT, Int.reduceGE, Int.reduceNeg, Int.reduceEq, Int.reduceNe, Int.reduceToNat, Int.reduceAdd, aconv, acvB, capR, acmpnil, appBox, storeB, ares1, appendTo, afill, aeqL, teset, inj_take, inj_drop, inj_agg, inj_len, inj_one, List.length_map, none_nb, none_box, bne_self_eq_false]
          refine ACallV.pure hw ?_
          simp only [aw0, aw1, aw2, aw3, aw4, aw5, aw6, aw7, ne_eq, eq_self, implies_true, imp_self, reduceIte, reduceCtorEq, Nat.reduceAdd, Nat.reduceLT, Nat.reduceLeDiff, Nat.reduceEqDiff, Nat.reduceSub, Nat.reduceMul, Nat.reduceBEq, Int.reduceBEq, Int.reduceBNe, Int.reduceLT, Int.reduceLE, Int.reduceGT, Int.reduceGE, Int.reduceNeg, Int.reduceEq, Int.reduceNe, Int.reduceToNat, Int.reduceAdd, aconv, acvB, capR, acmpnil, appBox, storeB, ares1, appendTo, afill, aeqL, teset, inj_take, inj_drop, inj_agg, inj_len, inj_one, List.length_map, none_nb, none_box]
          exact ⟨_, rfl, .refl _ _⟩
        · have he2 : (e != 0) = true := by simpa using he
          simp only [aw0, aw1, aw2, aw3, aw4, aw5, aw6, aw7, ne_eq, eq_self, implies_true, imp_self, reduceIte, reduceCtorEq, Nat.reduceAdd, Nat.reduceLT, Nat.reduceLeDiff, Nat.reduceEqDiff, Nat.reduceSub, Nat.reduceMul, Nat.reduceBEq, Int.reduceBEq, Int.reduceBNe, Int.reduceLT, Int.reduceLE, Int.reduceGT, Int.reduceGE, Int.reduceNeg, Int.reduceEq, Int.reduceNe, Int.reduceToNat, Int.reduceAdd, aconv, acvB, capR, acmpnil, appBox, storeB, ares1, appendTo, afill, aeqL, teset, inj_take, inj_drop, inj_agg, inj_len, inj_one, List.length_map, none_nb, none_box, he2]
          refine ⟨_, rfl, ?_⟩
          rw [if_pos he]
          exact .wk (WkAll.cons wk_zero (.cons (.refl _) .nil)).tup
end Go.Proofs.YtjdocenbfghglaaDoor.AW
end
section
set_option linter.unusedSimpArgs false
set_option linter.unusedVariables false
namespace Go.Proofs.YtjdocenbfghglaaDoor.AW
open Go Go.RowKit

theorem ba_ext {x y : ByteArray} (h : x.toList = y.toList) : x = y := by
  rw [ByteArray.toList_eq, ByteArray.toList_eq] at h
  obtain ⟨a⟩ := x
  obtain ⟨b⟩ := y
  congr
  exact Array.toList_inj.1 h
theorem ba_ne {x y : ByteArray} (h : x ≠ y) : (x.toList == y.toList) = false := by
  rw [beq_eq_false_iff_ne]; exact fun e => h (ba_ext e)
theorem ba_beq {x y : ByteArray} : (x.toList == y.toList) = decide (x = y) := by
  by_cases h : x = y
  · subst h; simp
  · rw [ba_ne h]; simp [h]
instance : DecidableEq Stp := fun a b => by
  obtain ⟨i, k⟩ := a
  obtain ⟨j, l⟩ := b
  by_cases h1 : i = j
  · by_cases h2 : k = l
    · exact isTrue (by rw [h1, h2])
    · exact isFalse (fun e => h2 (by injection e))
  · exact isFalse (fun e => h1 (by injection e))

/-- What an object has at a key. -/
def lkp (ks : List ByteArray) (xs : List V) (k : ByteArray) : Option V := (keyIdx ks k).bind fun i => xs[i]?
theorem lkp_nil (xs : List V) (k : ByteArray) : lkp [] xs k = none := rfl
theorem lkp_cons (a : ByteArray) (ks : List ByteArray) (x : V) (xs : List V) (k : ByteArray) : lkp (a :: ks) (x :: xs) k = if a = k then some x else lkp ks xs k := by
  unfold lkp keyIdx
  rw [List.findIdx?_cons, ba_beq]
  by_cases h : a = k
  · simp [h]
  · simp only [h, decide_false, Bool.false_eq_true, if_false]
    cases List.findIdx? (fun x => x.toList == k.toList) ks <;> rfl
theorem lkp_ins_other {a k : ByteArray} (hne : a ≠ k) (y : V) : ∀ (i : Nat) (ks : List ByteArray) (xs : List V), ks.length = xs.length → lkp (ks.take i ++ a :: ks.drop i) (xs.take i ++ y :: xs.drop i) k = lkp ks xs k := by
  intro i
  induction i with
  | zero => intro ks xs _; simp only [List.take_zero, List.drop_zero, List.nil_append]; rw [lkp_cons, if_neg hne]
  | succ i ih =>
    intro ks xs hl
    cases ks with
    | nil =>
      cases xs with
      | nil => simp only [List.take_nil, List.drop_nil, List.nil_append]; rw [lkp_cons, if_neg hne]
      | cons x xs => simp at hl
    | cons b ks =>
      cases xs with
      | nil => simp at hl
      | cons x xs =>
        simp only [List.take_succ_cons, List.drop_succ_cons, List.cons_append]
        rw [lkp_cons, lkp_cons, ih ks xs (by simpa using hl)]
theorem lkp_ins_self {a : ByteArray} (y : V) : ∀ (i : Nat) (ks : List ByteArray) (xs : List V), ks.length = xs.length → (∀ x ∈ ks.take i, x ≠ a) → lkp (ks.take i ++ a :: ks.drop i) (xs.take i ++ y :: xs.drop i) a = some y := by
  intro i
  induction i with
  | zero => intro ks xs _ _; simp only [List.take_zero, List.drop_zero, List.nil_append]; rw [lkp_cons, if_pos rfl]
  | succ i ih =>
    intro ks xs hl hn
    cases ks with
    | nil =>
      cases xs with
      | nil => simp only [List.take_nil, List.drop_nil, List.nil_append]; rw [lkp_cons, if_pos rfl]
      | cons x xs => simp at hl
    | cons b ks =>
      cases xs with
      | nil => simp at hl
      | cons x xs =>
        simp only [List.take_succ_cons, List.drop_succ_cons, List.cons_append]
        simp only [List.take_succ_cons] at hn
        rw [lkp_cons, if_neg (hn b List.mem_cons_self), ih ks xs (by simpa using hl) (fun z hz => hn z (List.mem_cons_of_mem _ hz))]
theorem get_with {α : Type} (xs : List α) (i : Nat) (y : α) (hi : i ≤ xs.length) (j : Nat) : (xs.take i ++ y :: xs.drop (min (i + 1) xs.length))[j]? = if j = i then some y else xs[j]? := by
  have hlt : (xs.take i).length = i := by simp [hi]
  by_cases h1 : j < i
  · rw [List.getElem?_append_left (by omega), List.getElem?_take, if_pos h1, if_neg (by omega)]
  · rw [List.getElem?_append_right (by omega), hlt]
    by_cases h2 : j = i
    · subst h2; simp
    · rw [if_neg h2, show j - i = (j - i - 1) + 1 by omega, List.getElem?_cons_succ, List.getElem?_drop]
      by_cases h3 : i + 1 ≤ xs.length
      · rw [Nat.min_eq_left h3, show i + 1 + (j - i - 1) = j by omega]
      · rw [Nat.min_eq_right (by omega), List.getElem?_eq_none (by omega), List.getElem?_eq_none (by omega)]
theorem lb_before {ks : List ByteArray} {k x : ByteArray} (h : x ∈ ks.take (lb ks k)) : x ≠ k := by
  obtain ⟨j, hj⟩ := List.mem_iff_getElem?.1 h
  rw [List.getElem?_take] at hj
  split at hj
  · next hlt =>
    have h1 := List.not_of_lt_findIdx (p := fun x => !sless x k) (xs := ks) (i := j) hlt
    have hx := (List.getElem?_eq_some_iff.1 hj).2
    rw [hx] at h1
    rintro rfl
    unfold sless at h1
    rw [bl_irrefl] at h1; cases h1
  · cases hj

def resV (v : V) (s : Stp) (y : V) : V := if (itemP v s).2 = true ∨ 0 ≤ s.index then withV v (itemP v s).1.toNat y else insV v (itemP v s).1.toNat s.key y
theorem found_at {ks : List ByteArray} {k : ByteArray} (h : foundS ks k = true) : ks[lb ks k]? = some k := by
  unfold foundS at h
  cases hx : ks[lb ks k]? with
  | none => rw [hx] at h; cases h
  | some x => rw [hx] at h; simp only [beq_iff_eq] at h; rw [ba_ext h]
theorem keyIdx_get {ks : List ByteArray} {k : ByteArray} {i : Nat} (h : keyIdx ks k = some i) : ks[i]? = some k := by
  unfold keyIdx at h
  obtain ⟨hlt, h1, _⟩ := List.findIdx?_eq_some_iff_getElem.1 h
  rw [List.getElem?_eq_getElem hlt]
  simp only [beq_iff_eq] at h1
  rw [ba_ext h1]
theorem res_kind (v : V) (s : Stp) (y : V) : (resV v s y).kind = v.kind := by
  unfold resV; split <;> rfl
theorem neg_res {v : V} {s : Stp} {y : V} (h0 : s.index < 0) (h5 : v.kind = 5) : resV v s y = if foundS v.keys s.key = true then withV v (lb v.keys s.key) y else insV v (lb v.keys s.key) s.key y := by
  unfold resV
  rw [itemP_5 h0 h5]
  simp only [Int.toNat_natCast]
  have : ¬ 0 ≤ s.index := by omega
  simp only [this, or_false]
theorem pos_res {v : V} {s : Stp} {y : V} (h0 : 0 ≤ s.index) (h4 : v.kind = 4) : resV v s y = withV v s.index.toNat y := by
  unfold resV
  rw [itemP_4 h0 h4, if_pos (.inr h0)]
theorem itemS_lkp {v : V} {s : Stp} (h0 : s.index < 0) (h5 : v.kind = 5) : itemS v s = lkp v.keys v.items s.key := by
  unfold itemS
  rw [if_neg (by omega), if_pos h5]; rfl
theorem itemS_pos {v : V} {s : Stp} (h0 : 0 ≤ s.index) (h4 : v.kind = 4) : itemS v s = v.items[s.index.toNat]? := by
  unfold itemS
  rw [if_pos h0, if_pos h4]
theorem itemS_no {v : V} {s : Stp} (h5 : ¬ (s.index < 0 ∧ v.kind = 5)) (h4 : ¬ (0 ≤ s.index ∧ v.kind = 4)) : itemS v s = none := by
  unfold itemS
  split
  · rw [if_neg (fun h => h4 ⟨by assumption, h⟩)]
  · rw [if_neg (fun h => h5 ⟨by omega, h⟩)]
theorem res_self {v : V} {s : Stp} {y : V} (hv : Vok v) (hk : v.kind = kindOf s) (hl : s.index ≤ (v.items.length : Int)) : itemS (resV v s y) s = some y := by
  unfold kindOf at hk
  by_cases h0 : s.index < 0
  · rw [if_pos h0] at hk
    have hlen := hv.keys.1 hk
    rw [itemS_lkp h0 ((res_kind v s y).trans hk), neg_res h0 hk]
    split
    · next hf =>
      show lkp v.keys (v.items.take (lb v.keys s.key) ++ y :: v.items.drop (min (lb v.keys s.key + 1) v.items.length)) s.key = some y
      unfold lkp
      rw [found_iff (shape_asc hv.shape.1 hk), if_pos hf]
      show (_ : List V)[lb v.keys s.key]? = some y
      rw [get_with _ _ _ (by have := lb_le v.keys s.key; omega), if_pos rfl]
    · exact lkp_ins_self y _ _ _ hlen (fun x hx => lb_before hx)
  · rw [if_neg h0] at hk
    rw [itemS_pos (by omega) ((res_kind v s y).trans hk), pos_res (by omega) hk]
    show (v.items.take s.index.toNat ++ y :: v.items.drop (min (s.index.toNat + 1) v.items.length))[s.index.toNat]? = some y
    rw [get_with _ _ _ (by omega), if_pos rfl]
theorem stepOk_neg {s : Stp} (h : stepOk s = true) (h0 : s.index < 0) : s.index = -1 := by
  unfold stepOk at h
  simp only [Bool.and_eq_true, Bool.not_eq_true', Bool.or_eq_false_iff, decide_eq_false_iff_not] at h
  omega
theorem stepOk_pos {s : Stp} (h : stepOk s = true) (h0 : 0 ≤ s.index) : s.key = ⟨#[]⟩ := by
  unfold stepOk at h
  simp only [Bool.and_eq_true, Bool.not_eq_true', Bool.or_eq_false_iff, decide_eq_false_iff_not, Bool.and_eq_false_iff] at h
  rcases h.1.2 with h1 | h1
  · omega
  · simp only [Bool.not_eq_false', beq_iff_eq] at h1
    exact ba_ext h1
theorem res_other {v : V} {s t : Stp} {y : V} (hv : Vok v) (hk : v.kind = kindOf s) (hl : s.index ≤ (v.items.length : Int)) (hs : stepOk s = true) (ht : stepOk t = true) (hne : s ≠ t) : itemS (resV v s y) t = itemS v t := by
  unfold kindOf at hk
  by_cases h0 : s.index < 0
  · rw [if_pos h0] at hk
    have hlen := hv.keys.1 hk
    by_cases ht0 : t.index < 0
    · rw [itemS_lkp ht0 ((res_kind v s y).trans hk), itemS_lkp ht0 hk, neg_res h0 hk]
      have hkey : s.key ≠ t.key := by
        intro e
        apply hne
        have h1 := stepOk_neg hs h0
        have h2 := stepOk_neg ht ht0
        obtain ⟨a, b⟩ := s
        obtain ⟨c, d⟩ := t
        simp only at h1 h2 e
        rw [h1, h2, e]
      split
      · next hf =>
        show lkp v.keys (v.items.take (lb v.keys s.key) ++ y :: v.items.drop (min (lb v.keys s.key + 1) v.items.length)) t.key = lkp v.keys v.items t.key
        unfold lkp
        cases hj : keyIdx v.keys t.key with
        | none => rfl
        | some j =>
          show (_ : List V)[j]? = v.items[j]?
          rw [get_with _ _ _ (by have := lb_le v.keys s.key; omega), if_neg]
          rintro rfl
          have h1 := keyIdx_get hj
          rw [found_at hf] at h1
          injection h1 with h1
          exact hkey h1
      · exact lkp_ins_other hkey y _ _ _ hlen
    · rw [itemS_no (fun h => ht0 h.1) (fun h => by rw [res_kind, hk] at h; exact absurd h.2 (by decide)), itemS_no (fun h => ht0 h.1) (fun h => by rw [hk] at h; exact absurd h.2 (by decide))]
  · rw [if_neg h0] at hk
    by_cases ht0 : t.index < 0
    · rw [itemS_no (fun h => by rw [res_kind, hk] at h; exact absurd h.2 (by decide)) (fun h => by omega), itemS_no (fun h => by rw [hk] at h; exact absurd h.2 (by decide)) (fun h => by omega)]
    · rw [itemS_pos (by omega) ((res_kind v s y).trans hk), itemS_pos (by omega) hk, pos_res (by omega) hk]
      show (v.items.take s.index.toNat ++ y :: v.items.drop (min (s.index.toNat + 1) v.items.length))[t.index.toNat]? = _
      rw [get_with _ _ _ (by omega), if_neg]
      intro e
      apply hne
      have h1 := stepOk_pos hs (by omega)
      have h2 := stepOk_pos ht (by omega)
      obtain ⟨a, b⟩ := s
      obtain ⟨c, d⟩ := t
      simp only at h0 ht0 h1 h2 e
      have : a = c := by omega
      rw [h1, h2, this]
theorem empty_item (k : Int) (t : Stp) : itemS (emptyV k) t = none := by
  unfold itemS emptyV
  simp [V.kind, V.items, V.keys, keyIdx]
theorem null_item {v : V} (h : v.kind = 0) (t : Stp) : itemS v t = none := itemS_no (fun x => by rw [h] at x; exact absurd x.2 (by decide)) (fun x => by rw [h] at x; exact absurd x.2 (by decide))
theorem old_item {v : V} (hv : Vok v) (s : Stp) : oldV v s = (itemS v s).getD zeroV := by
  rw [itemP_spec hv]
  unfold oldV
  split
  · rw [List.getD_eq_getElem?_getD]
  · rfl
theorem empty_kind (k : Int) : (emptyV k).kind = k := rfl
theorem putIn_ok {f : V → V × Int} {s : Stp} {v : V} (h : (putIn f s v).2 = 0) : s.index ≤ (v.items.length : Int) ∧ (f (oldV v s)).2 = 0 ∧ (putIn f s v).1 = resV v s (f (oldV v s)).1 := by
  unfold putIn at h ⊢
  split at h
  · cases h
  · next h1 =>
    split at h
    · next h2 => exact absurd h h2
    · next h2 =>
      rw [if_neg h1, if_neg h2]
      refine ⟨by omega, by simpa using h2, ?_⟩
      unfold resV
      split <;> rfl
/-- What putP made when it did well. -/
theorem putP_cons_ok {s : Stp} {p : List Stp} {v x : V} (hv : Vok v) (h : (putP (s :: p) v x).2 = 0) : ∃ v', Vok v' ∧ v'.kind = kindOf s ∧ s.index ≤ (v'.items.length : Int) ∧ (∀ t, itemS v' t = itemS v t) ∧ (v.kind = 0 ∧ v' = emptyV (kindOf s) ∨ v' = v) ∧
    (putP p ((itemS v s).getD zeroV) x).2 = 0 ∧ (putP (s :: p) v x).1 = resV v' s (putP p ((itemS v s).getD zeroV) x).1 := by
  have hvo : ∀ v', Vok v' → (∀ t, itemS v' t = itemS v t) → oldV v' s = (itemS v s).getD zeroV := fun v' h1 h2 => by rw [old_item h1, h2]
  simp only [putP] at h ⊢
  split at h
  · next h0 =>
    rw [if_pos h0]
    have hi : ∀ t, itemS (emptyV (kindOf s)) t = itemS v t := fun t => by rw [empty_item, null_item h0]
    have he := empty_ok (kindOf_or s)
    obtain ⟨g1, g2, g3⟩ := putIn_ok h
    rw [hvo _ he hi] at g2 g3
    exact ⟨_, he, empty_kind _, g1, hi, .inl ⟨h0, rfl⟩, g2, g3⟩
  · next h0 =>
    rw [if_neg h0]
    split at h
    · cases h
    · next hk =>
      rw [if_neg hk]
      obtain ⟨g1, g2, g3⟩ := putIn_ok h
      rw [hvo _ hv (fun _ => rfl)] at g2 g3
      exact ⟨v, hv, by simpa using hk, g1, fun _ => rfl, .inr rfl, g2, g3⟩
theorem getD_ok {v : V} (hv : Vok v) (s : Stp) : Vok ((itemS v s).getD zeroV) := by
  cases h : itemS v s with
  | none => exact zero_ok
  | some x => exact hv.items x (itemS_mem h)
theorem put_at : ∀ (p : List Stp) (v x : V), Vok v → (putP p v x).2 = 0 → atS (putP p v x).1 p = some x := by
  intro p
  induction p with
  | nil => intro v x _ _; rfl
  | cons s p ih =>
    intro v x hv h
    obtain ⟨v', h1, h2, h3, h4, _, h5, h6⟩ := putP_cons_ok hv h
    rw [h6]
    simp only [atS]
    rw [res_self h1 h2 h3]
    exact ih _ x (getD_ok hv s) h5
theorem zero_at {q : List Stp} (h : q ≠ []) : atS zeroV q = none := by
  cases q with
  | nil => exact absurd rfl h
  | cons t q => simp only [atS]; rw [null_item rfl]; rfl
theorem put_other : ∀ (p q : List Stp) (v x : V), Vok v → p.all stepOk = true → q.all stepOk = true → (putP p v x).2 = 0 → ¬ p <+: q → ¬ q <+: p → atS (putP p v x).1 q = atS v q := by
  intro p
  induction p with
  | nil => intro q v x _ _ _ _ h _; exact absurd List.nil_prefix h
  | cons s p ih =>
    intro q v x hv hp hq h hpq hqp
    cases q with
    | nil => exact absurd List.nil_prefix hqp
    | cons t q =>
      simp only [List.all_cons, Bool.and_eq_true] at hp hq
      obtain ⟨v', h1, h2, h3, h4, _, h5, h6⟩ := putP_cons_ok hv h
      rw [h6]
      simp only [atS]
      by_cases e : s = t
      · subst e
        rw [res_self h1 h2 h3]
        have hq0 : q ≠ [] := by
          rintro rfl
          exact hqp (List.prefix_cons_inj s |>.2 List.nil_prefix)
        show atS _ q = _
        rw [ih q _ x (getD_ok hv s) hp.2 hq.2 h5 (fun hh => hpq ((List.prefix_cons_inj s).2 hh)) (fun hh => hqp ((List.prefix_cons_inj s).2 hh))]
        cases itemS v s with
        | none => exact zero_at hq0
        | some o => rfl
      · rw [res_other h1 h2 h3 hp.1 hq.1 e, h4]
end Go.Proofs.YtjdocenbfghglaaDoor.AW
end
section
set_option linter.unusedSimpArgs false
set_option linter.unusedVariables false
namespace Go.Proofs.YtjdocenbfghglaaDoor.AW
open Go Go.RowKit

def delV (v : V) (i : Nat) : V := .mk v.kind v.int v.text (v.items.eraseIdx i) (if v.kind = 5 then v.keys.eraseIdx i else v.keys)
def withoutP : List Stp → V → V
  | [], v => v
  | [s], v => delV v (itemP v s).1.toNat
  | s :: t :: p, v => withV v (itemP v s).1.toNat (withoutP (t :: p) (v.items.getD (itemP v s).1.toNat zeroV))
theorem erase_ins {α : Type} (xs : List α) (i : Nat) (y : α) (hi : i ≤ xs.length) : (xs.take i ++ y :: xs.drop i).eraseIdx i = xs := by
  have hlt : (xs.take i).length = i := by simp [hi]
  rw [List.eraseIdx_append_of_length_le (by omega), hlt, Nat.sub_self, List.eraseIdx_cons_zero, List.take_append_drop]
theorem with_with {α : Type} (xs : List α) (i : Nat) (y o : α) (ho : xs[i]? = some o) : (xs.take i ++ y :: xs.drop (min (i + 1) xs.length)).take i ++ o :: (xs.take i ++ y :: xs.drop (min (i + 1) xs.length)).drop (min (i + 1) (xs.take i ++ y :: xs.drop (min (i + 1) xs.length)).length) = xs := by
  obtain ⟨hlt, he⟩ := List.getElem?_eq_some_iff.1 ho
  have h1 : (xs.take i).length = i := by simp; omega
  have h2 : min (i + 1) xs.length = i + 1 := by omega
  rw [h2]
  have h3 : (xs.take i ++ y :: xs.drop (i + 1)).length = xs.length := by simp; omega
  rw [h3, h2, List.take_left' h1, show xs.take i ++ y :: xs.drop (i + 1) = (xs.take i ++ [y]) ++ xs.drop (i + 1) by simp, List.drop_left' (by simp; omega), ← he]
  simp
theorem lb_ins (ks : List ByteArray) (k : ByteArray) : lb (ks.take (lb ks k) ++ k :: ks.drop (lb ks k)) k = lb ks k := by
  have h1 := lb_le ks k
  have hlt : (ks.take (lb ks k)).length = lb ks k := by simp [h1]
  have hself : sless k k = false := by unfold sless; exact bl_irrefl _
  have hb : ∀ j, j < lb ks k → ∀ x, (ks.take (lb ks k))[j]? = some x → sless x k = true := by
    intro j hj x hx
    rw [List.getElem?_take, if_pos hj] at hx
    have h1 := List.not_of_lt_findIdx (p := fun x => !sless x k) (xs := ks) (i := j) hj
    have he := (List.getElem?_eq_some_iff.1 hx).2
    rw [he] at h1; simpa using h1
  generalize hn : lb ks k = n at *
  unfold lb
  rw [List.findIdx_append]
  have : List.findIdx (fun x => !sless x k) (ks.take n) = (ks.take n).length := by
    rw [List.findIdx_eq_length]
    intro x hx
    obtain ⟨j, hj⟩ := List.mem_iff_getElem?.1 hx
    have hlj := (List.getElem?_eq_some_iff.1 hj).1
    rw [hb j (by omega) x hj]; rfl
  rw [this, if_neg (by omega), List.findIdx_cons, hself, hlt]
  simp
theorem withV_kind (v : V) (i : Nat) (y : V) : (withV v i y).kind = v.kind := rfl
theorem withV_keys (v : V) (i : Nat) (y : V) : (withV v i y).keys = v.keys := rfl
theorem kinds {k : Int} {s : Stp} (hk : k = kindOf s) : (s.index < 0 ∧ k = 5) ∨ (0 ≤ s.index ∧ k = 4) := by
  unfold kindOf at hk
  by_cases h : s.index < 0
  · rw [if_pos h] at hk; exact .inl ⟨h, hk⟩
  · rw [if_neg h] at hk; exact .inr ⟨by omega, hk⟩
/-- What was put where nothing was is removed again. -/
theorem del_put {v y : V} {s : Stp} (hv : Vok v) (hk : v.kind = kindOf s) (hl : s.index ≤ (v.items.length : Int)) (hn : itemS v s = none) : delV (resV v s y) (itemP (resV v s y) s).1.toNat = v := by
  rcases kinds hk with ⟨h0, h5⟩ | ⟨h0, h4⟩
  · have hlen := hv.keys.1 h5
    have hf : foundS v.keys s.key = false := by
      rw [Bool.eq_false_iff]
      intro hf
      have h1 := lb_le v.keys s.key
      have h2 := (List.getElem?_eq_some_iff.1 (found_at hf)).1
      rw [itemS_lkp h0 h5] at hn
      unfold lkp at hn
      rw [found_iff (shape_asc hv.shape.1 h5), if_pos hf] at hn
      have : v.items[lb v.keys s.key]? = none := hn
      rw [List.getElem?_eq_none_iff] at this
      omega
    have hr : resV v s y = insV v (lb v.keys s.key) s.key y := by rw [neg_res h0 h5, hf]; rfl
    rw [hr, itemP_5 h0 (by exact h5)]
    simp only [Int.toNat_natCast]
    have hlb : lb (insV v (lb v.keys s.key) s.key y).keys s.key = lb v.keys s.key := lb_ins _ _
    rw [hlb]
    have h1 := lb_le v.keys s.key
    obtain ⟨k, n, t, xs, ks⟩ := v
    simp only [V.kind] at h5
    subst h5
    simp only [V.keys, V.items] at h1 hlen ⊢
    simp only [delV, insV, V.kind, V.int, V.text, V.items, V.keys, if_true]
    rw [erase_ins xs _ _ (by omega), erase_ins ks _ _ h1]
  · have hi : s.index.toNat = v.items.length := by
      rw [itemS_pos h0 h4, List.getElem?_eq_none_iff] at hn
      omega
    have hr : resV v s y = withV v v.items.length y := by rw [pos_res h0 h4, hi]
    rw [hr, itemP_4 h0 (by exact h4)]
    simp only []
    rw [hi]
    obtain ⟨k, n, t, xs, ks⟩ := v
    simp only [V.kind] at h4
    subst h4
    simp only [delV, withV, V.kind, V.int, V.text, V.items, V.keys]
    rw [show min (xs.length + 1) xs.length = xs.length by omega, erase_ins xs _ _ (Nat.le_refl _)]
    rfl
theorem item_found {v o : V} {s : Stp} (hv : Vok v) (h : itemS v s = some o) : (itemP v s).2 = true ∧ v.items[(itemP v s).1.toNat]? = some o := by
  rw [itemP_spec hv] at h
  split at h
  · next hf => exact ⟨hf, h⟩
  · cases h
theorem remove_put : ∀ (p : List Stp) (v x c : V), Vok v → p ≠ [] → (putP p v x).2 = 0 → atS v p.dropLast = some c → c.kind ≠ 0 → atS v p = none → withoutP p (putP p v x).1 = v := by
  intro p
  induction p with
  | nil => intro v x c _ h; exact absurd rfl h
  | cons s p ih =>
    intro v x c hv _ hok hc hck hnone
    obtain ⟨v', h1, h2, h3, h4, h5, h6, h7⟩ := putP_cons_ok hv hok
    have hk0 : v.kind ≠ 0 := by
      intro h0
      cases p with
      | nil => simp [atS] at hc; subst hc; exact hck h0
      | cons t p =>
        simp only [List.dropLast_cons_cons, atS] at hc
        rw [null_item h0] at hc; cases hc
    obtain rfl : v' = v := h5.elim (fun h => absurd h.1 hk0) id
    rw [h7]
    cases p with
    | nil =>
      have hn : itemS v' s = none := by
        simp only [atS] at hnone
        cases h : itemS v' s with
        | none => rfl
        | some o => rw [h] at hnone; cases hnone
      exact del_put hv h2 h3 hn
    | cons t p =>
      simp only [List.dropLast_cons_cons, atS] at hc
      cases ho : itemS v' s with
      | none => rw [ho] at hc; cases hc
      | some o =>
        rw [ho] at hc h6
        have hn : atS o (t :: p) = none := by
          have : atS v' (s :: t :: p) = (itemS v' s).bind fun x => atS x (t :: p) := rfl
          rw [this, ho] at hnone; exact hnone
        obtain ⟨f1, f2⟩ := item_found hv ho
        have hok' := hv.items o (itemS_mem ho)
        have hio := ih o x c hok' (by simp) h6 hc hck hn
        have hr : resV v' s (putP (t :: p) o x).1 = withV v' (itemP v' s).1.toNat (putP (t :: p) o x).1 := by unfold resV; rw [if_pos (.inl f1)]
        show withoutP (s :: t :: p) (resV v' s (putP (t :: p) o x).1) = v'
        rw [hr]
        generalize hy : (putP (t :: p) o x).1 = y at hio ⊢
        have hlt := (List.getElem?_eq_some_iff.1 f2).1
        have hi : (itemP (withV v' (itemP v' s).1.toNat y) s).1 = (itemP v' s).1 := by
          rcases kinds h2 with ⟨g0, g5⟩ | ⟨g0, g4⟩
          · rw [itemP_5 g0 (by exact g5), itemP_5 g0 g5]; rfl
          · rw [itemP_4 g0 (by exact g4), itemP_4 g0 g4]
        simp only [withoutP]
        rw [hi]
        have hg : (withV v' (itemP v' s).1.toNat y).items.getD (itemP v' s).1.toNat zeroV = y := by
          rw [List.getD_eq_getElem?_getD]
          show ((v'.items.take (itemP v' s).1.toNat ++ y :: v'.items.drop (min ((itemP v' s).1.toNat + 1) v'.items.length))[(itemP v' s).1.toNat]?).getD zeroV = y
          rw [get_with _ _ _ (by omega), if_pos rfl]; rfl
        rw [hg, hio]
        have hw := with_with v'.items _ y o f2
        obtain ⟨k, n, t', xs, ks⟩ := v'
        simp only [V.items] at hw
        simp only [withV, V.kind, V.int, V.text, V.items, V.keys]
        rw [hw]
theorem putV_ok {v : V} {p : List Stp} {x : V} (h : (putV v p x).2 = 0) : valid v = true ∧ pathOk p = true ∧ valid x = true ∧ (putP p v x).2 = 0 ∧ valid (putV v p x).1 = true ∧ (putV v p x).1 = (putP p v x).1 := by
  unfold putV at h ⊢
  split at h
  · next hc =>
    rw [if_pos hc]
    split at h
    · next he => exact absurd h he
    · next he =>
      rw [if_neg he]
      unfold wholeV at h ⊢
      split at h
      · next hw =>
        rw [if_pos hw]
        exact ⟨hc.1, hc.2.1, hc.2.2, by simpa using he, hw, rfl⟩
      · cases h
  · cases h
theorem getV_at {w : V} {q : List Stp} (hw : valid w = true) (hq : pathOk q = true) : getV w q = (match atS w q with | some x => .tup [inj x, .bool true, .int .i64 0] | none => .tup [inj zeroV, .bool false, .int .i64 0]) := by
  unfold getV; rw [hw, hq]; rfl
end Go.Proofs.YtjdocenbfghglaaDoor.AW
end
