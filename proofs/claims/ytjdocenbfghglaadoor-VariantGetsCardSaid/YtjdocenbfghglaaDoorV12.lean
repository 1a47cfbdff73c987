/- V, part 12: the program's right: the closure and the library's loop. -/
import Derived.Test.YtjdocenbfghglaaDoorV11
set_option linter.unusedSimpArgs false
set_option linter.unusedVariables false
namespace Go.Proofs.YtjdocenbfghglaaDoor.AW
open Go Go.RowKit

theorem ACallV.det {P : Program} {f : FuncId} {first args cap al : List AV} {v : AV} {h h2 : AH} {dst : Option Nat} {s : AS} {k : AK} {Q : AQ} (hf : FOk P f) (he : first ++ args ++ cap = al) (hc : ACalls P f al h fun out h' => out = .ret v ∧ h' = h2) (hk : k (putD s dst v) h2 Q) :
    ACallV P (.fn (.func f) first cap) args h (callK dst s k Q) := by
  refine .inl ⟨hf, ?_⟩
  rw [he]
  refine hc.mono ?_
  rintro out h' ⟨rfl, rfl⟩
  exact hk
theorem AH.set_set (h : AH) (b : Nat) (x y : List AV) : (h.set b x).set b y = h.set b y := by
  unfold AH.set
  congr 1
  funext z
  simp only [upd]
  split <;> rfl
theorem AH.set_self (h : AH) {b : Nat} {x : List AV} (hb : h.box b = some x) : h.set b x = h := by
  unfold AH.set
  have : upd h.box b (some x) = h.box := by
    funext z
    simp only [upd]
    split
    · next e => rw [e, hb]
    · rfl
  rw [this]

/-- Counting through a list: where it fails, and the count. -/
def rightL (f : Nat → V → Bool × Nat) : Nat → List V → Nat → Int × Nat
  | n, [], _ => (-1, n)
  | n, x :: xs, i => if (f n x).1 = true then rightL f (f n x).2 xs (i + 1) else (i, (f n x).2)
def rightS : Nat → Nat → V → Bool × Nat
  | 0, n, _ => (false, n + 1)
  | L + 1, n, v => if n + 1 > 60 then (false, n + 1) else if shape v = true then (decide ((rightL (rightS L) (n + 1) v.items 0).1 < 0), (rightL (rightS L) (n + 1) v.items 0).2) else (false, n + 1)
def RightAt (L : Nat) (x : V) : Prop := ∀ (n b : Nat) (h : AH), n ≤ 60 → h.box b = some [.int .i64 n] → ACalls Tryd.prog 33 [inj x, .int .i64 L, .ptr b 0] h fun out h' => out = .ret (.bool (rightS L n x).1) ∧ h' = h.set b [.int .i64 (rightS L n x).2]

theorem CutOk.self {h h2 : AH} (e : h.Ext h2) (s : Scoped h) : CutOk h h2 h := e.cutOk s
/-- A function that changes one old box, and else only makes new ones. -/
theorem ACalls.cutSet {P : Program} {f : FuncId} {args : List AV} {h : AH} {v : AV} {b : Nat} {c : List AV} (hv : v.under 0 0 = true) (hc : AV.underL 0 0 c = true)
    (hk : Scoped h → ∀ hb : b < h.nb, ACalls P f args h fun out h2 => out = .ret v ∧ ∃ h1, h.Ext h1 ∧ h2 = h1.set b c) (hb : ∃ x, h.box b = some x) : ACalls P f args h fun out h' => out = .ret v ∧ h' = h.set b c := by
  intro w0 m w args' h1 h2 hW
  have hs := hW.scoped
  obtain ⟨x, hx⟩ := hb
  have hbn := hs.box b x hx
  refine (ACalls.cut (hk hs hbn) (fun hs out h2 ⟨e, h3, e3, e4⟩ => ?_)) w0 m w args' h1 h2 hW
  refine ⟨out, h.set b c, .inl rfl, ?_, ⟨rfl, rfl, fun z cs hz => ?_, fun t g ht => ?_⟩, e, rfl⟩
  · rw [e]; exact AV.under_mono hv
  · rw [e4]
    rw [set_box] at hz ⊢
    split at hz
    · next e5 =>
      injection hz with hz; subst hz
      rw [if_pos e5]
      exact ⟨rfl, .inr ⟨by rw [e5]; exact hbn, AV.underL_mono hc⟩⟩
    · next e5 =>
      rw [if_neg e5]
      exact ⟨(e3.box z (hs.box z cs hz)).trans hz, .inl hz⟩
  · rw [e4]
    exact ⟨(e3.tok t (hs.tok t g ht)).trans ht, hs.tok t g ht⟩

theorem closure_calls (L : Nat) (x : V) (ih : RightAt L x) (hL : L < 1000) (n b tl tn : Nat) (h : AH) (hn : n ≤ 60) (hb : h.box b = some [.int .i64 n]) (hl : h.box tl = some [.int .i64 ((L + 1 : Nat) : Int)]) (htn : h.box tn = some [.ptr b 0]) :
    ACalls Tryd.prog 50 [inj x, .ptr tl 0, .ptr tn 0] h fun out h' => out = .ret (.bool (!(rightS L n x).1)) ∧ h' = h.set b [.int .i64 (rightS L n x).2] := by
  refine ACalls.cutSet rfl rfl (fun hs hbn => ?_) ⟨_, hb⟩
  have h1 := hs.box _ _ hl
  have h2 := hs.box _ _ htn
  have ne1 : (b = h.nb) = False := by simp only [eq_iff_iff, iff_false]; omega
  have ne2 : (tl = h.nb) = False := by simp only [eq_iff_iff, iff_false]; omega
  have ne3 : (tn = h.nb) = False := by simp only [eq_iff_iff, iff_false]; omega
  have hw : IntKind.i64.wrap (((L + 1 : Nat) : Int) - 1) = (L : Int) := by rw [wrap_i64 (by omega) (by omega)]; omega
  refine acalls_of te_ok [] Tryd.func50 (c := _) rfl (Nat.le_of_ble_eq_true rfl) ?_
  simp only [awset0, awset1, awset2, awset3, awset4, awset5, ne_eq, eq_self, implies_true, imp_self, retR, atup, aresL, ares1, gval, inLz, boxR, buildR, noDead, AV.isDead, acmpnil, appR, appBox, storeB, abin, aint, astr, aun, abuild, afill, fieldPlaces, alit, aindexAddr, aindex, aslice, bnd, cutTag, amin, amax, aappend, appendTo, aelems, aconv, aiface, agetField, reduceIte, reduceCtorEq, Nat.reduceAdd, Nat.reduceLT, Nat.reduceLeDiff, Nat.reduceEqDiff, Nat.reduceSub, Nat.reduceMul, Nat.reduceBEq, Int.reduceBEq, Int.reduceBNe, Int.reduceLT, Int.reduceLE, Int.reduceGT, Int.reduceGE, Int.reduceNeg, Int.reduceEq, Int.reduceNe, Int.reduceToNat, Int.reduceAdd, cls, fl, teset, Tryd.ntmps50, Tryd.results50, boxR, inj_take, inj_drop, inj_agg, inj_len, inj_one, List.length_map, hb, hl, htn, ne1, ne2, ne3, hw]
  refine ACallV.det ⟨Tryd.f33, Tryd.func33, rfl, by kernel_rfl⟩ rfl (ih n b (h.new (inj x).cells) hn (by rw [new_box, if_neg (by omega)]; exact hb)) ?_
  simp only [awset0, awset1, awset2, awset3, awset4, awset5, ne_eq, eq_self, implies_true, imp_self, retR, atup, aresL, ares1, gval, inLz, boxR, buildR, noDead, AV.isDead, acmpnil, appR, appBox, storeB, abin, aint, astr, aun, abuild, afill, fieldPlaces, alit, aindexAddr, aindex, aslice, bnd, cutTag, amin, amax, aappend, appendTo, aelems, aconv, aiface, agetField, reduceIte, reduceCtorEq, Nat.reduceAdd, Nat.reduceLT, Nat.reduceLeDiff, Nat.reduceEqDiff, Nat.reduceSub, Nat.reduceMul, Nat.reduceBEq, Int.reduceBEq, Int.reduceBNe, Int.reduceLT, Int.reduceLE, Int.reduceGT, Int.reduceGE, Int.reduceNeg, Int.reduceEq, Int.reduceNe, Int.reduceToNat, Int.reduceAdd, cls, fl, teset, boxR, inj_take, inj_drop, inj_agg, inj_len, inj_one, List.length_map, hb, hl, htn, ne1, ne2, ne3]
  exact ⟨h.new (inj x).cells, by (repeat (first | exact AH.Ext.refl _ | assumption | refine AH.Ext.set ?_ (by first | omega | (simp only [new_nb, set_nb, kill_nb, newTok_nb, setTok_nb]; omega)) _ | refine AH.Ext.new ?_ _)), rfl⟩

theorem rightL_le (f : Nat → V → Bool × Nat) (hf : ∀ n x, n ≤ 60 → (f n x).1 = true → (f n x).2 ≤ 60) : ∀ (xs : List V) (n i : Nat), n ≤ 60 → (rightL f n xs i).1 < 0 → (rightL f n xs i).2 ≤ 60 := by
  intro xs
  induction xs with
  | nil => intro n i hn _; exact hn
  | cons x xs ih =>
    intro n i hn h
    simp only [rightL] at h ⊢
    split
    · next h1 => rw [if_pos h1] at h; exact ih _ _ (hf n x hn h1) h
    · next h1 => rw [if_neg h1] at h; simp only at h; omega
theorem rightS_le : ∀ (L n : Nat) (v : V), (rightS L n v).1 = true → (rightS L n v).2 ≤ 60 := by
  intro L
  induction L with
  | zero => intro n v h; simp [rightS] at h
  | succ L ih =>
    intro n v h
    simp only [rightS] at h ⊢
    split
    · next h1 => rw [if_pos h1] at h; cases h
    · next h1 =>
      rw [if_neg h1] at h
      split
      · next h2 =>
        rw [if_pos h2] at h
        exact rightL_le _ (fun n x _ hx => ih n x hx) _ _ _ (by omega) (by simpa using h)
      · next h2 => rw [if_neg h2] at h; cases h

theorem indexfn_calls (L : Nat) (hL : L < 1000) (xs : List V) (ih : ∀ x ∈ xs, RightAt L x) (hlen : xs.length < 4611686018427387904) (n b tl tn : Nat) (h : AH) (hn : n ≤ 60) (hb : h.box b = some [.int .i64 n]) (hl : h.box tl = some [.int .i64 ((L + 1 : Nat) : Int)]) (htn : h.box tn = some [.ptr b 0]) (hne1 : tl ≠ b) (hne2 : tn ≠ b) :
    ACalls Tryd.prog 63 [.sl .ro 5 (xs.map inj), .fn (.func 50) [] [.ptr tl 0, .ptr tn 0]] h fun out h' => out = .ret (.int .i64 (rightL (rightS L) n xs 0).1) ∧ h' = h.set b [.int .i64 (rightL (rightS L) n xs 0).2] := by
  have eb : (tl = b) = False := by simp [hne1]
  have eb2 : (tn = b) = False := by simp [hne2]
  refine acalls_of te_ok [] Tryd.func63 (c := _) rfl (Nat.le_of_ble_eq_true rfl) ?_
  simp only [awset0, awset1, awset2, awset3, awset4, awset5, ne_eq, eq_self, implies_true, imp_self, retR, atup, aresL, ares1, gval, inLz, boxR, buildR, noDead, AV.isDead, acmpnil, appR, appBox, storeB, abin, aint, astr, aun, abuild, afill, fieldPlaces, alit, aindexAddr, aindex, aslice, bnd, cutTag, amin, amax, aappend, appendTo, aelems, aconv, aiface, agetField, reduceIte, reduceCtorEq, Nat.reduceAdd, Nat.reduceLT, Nat.reduceLeDiff, Nat.reduceEqDiff, Nat.reduceSub, Nat.reduceMul, Nat.reduceBEq, Int.reduceBEq, Int.reduceBNe, Int.reduceLT, Int.reduceLE, Int.reduceGT, Int.reduceGE, Int.reduceNeg, Int.reduceEq, Int.reduceNe, Int.reduceToNat, Int.reduceAdd, cls, fl, teset, Tryd.ntmps63, Tryd.results63, inj_take, inj_drop, inj_agg, inj_len, inj_one, List.length_map]
  refine ⟨fun m s' h' => ∃ (j c : Nat), s' 0 = .sl .ro 5 (xs.map inj) ∧ s' 1 = .fn (.func 50) [] [.ptr tl 0, .ptr tn 0] ∧ s' 7 = .int .i64 xs.length ∧ s' 8 = .int .i64 j ∧ h' = h.set b [.int .i64 c] ∧ m + j = xs.length ∧ c ≤ 60 ∧ rightL (rightS L) c (xs.drop j) j = rightL (rightS L) n xs 0, ⟨xs.length, 0, n, ?_⟩, ?_⟩
  · simp only [awset0, awset1, awset2, awset3, awset4, awset5, ne_eq, eq_self, implies_true, imp_self, retR, atup, aresL, ares1, gval, inLz, boxR, buildR, noDead, AV.isDead, acmpnil, appR, appBox, storeB, abin, aint, astr, aun, abuild, afill, fieldPlaces, alit, aindexAddr, aindex, aslice, bnd, cutTag, amin, amax, aappend, appendTo, aelems, aconv, aiface, agetField, reduceIte, reduceCtorEq, Nat.reduceAdd, Nat.reduceLT, Nat.reduceLeDiff, Nat.reduceEqDiff, Nat.reduceSub, Nat.reduceMul, Nat.reduceBEq, Int.reduceBEq, Int.reduceBNe, Int.reduceLT, Int.reduceLE, Int.reduceGT, Int.reduceGE, Int.reduceNeg, Int.reduceEq, Int.reduceNe, Int.reduceToNat, Int.reduceAdd, cls, fl, teset, Int.natCast_zero]
    exact ⟨(AH.set_self h hb).symm, hn⟩
  · rintro m s' h' ⟨j, c, e0, e1, e7, e8, hh, hm, hc60, hr⟩
    subst hh
    simp only [awset0, awset1, awset2, awset3, awset4, awset5, ne_eq, eq_self, implies_true, imp_self, retR, atup, aresL, ares1, gval, inLz, boxR, buildR, noDead, AV.isDead, acmpnil, appR, appBox, storeB, abin, aint, astr, aun, abuild, afill, fieldPlaces, alit, aindexAddr, aindex, aslice, bnd, cutTag, amin, amax, aappend, appendTo, aelems, aconv, aiface, agetField, reduceIte, reduceCtorEq, Nat.reduceAdd, Nat.reduceLT, Nat.reduceLeDiff, Nat.reduceEqDiff, Nat.reduceSub, Nat.reduceMul, Nat.reduceBEq, Int.reduceBEq, Int.reduceBNe, Int.reduceLT, Int.reduceLE, Int.reduceGT, Int.reduceGE, Int.reduceNeg, Int.reduceEq, Int.reduceNe, Int.reduceToNat, Int.reduceAdd, cls, fl, teset, e0, e1, e7, e8, inj_take, inj_drop, inj_agg, inj_len, inj_one, List.length_map]
    cases hc : decide ((j : Int) < (xs.length : Int)) with
    | false =>
      simp only [awset0, awset1, awset2, awset3, awset4, awset5, ne_eq, eq_self, implies_true, imp_self, retR, atup, aresL, ares1, gval, inLz, boxR, buildR, noDead, AV.isDead, acmpnil, appR, appBox, storeB, abin, aint, astr, aun, abuild, afill, fieldPlaces, alit, aindexAddr, aindex, aslice, bnd, cutTag, amin, amax, aappend, appendTo, aelems, aconv, aiface, agetField, reduceIte, reduceCtorEq, Nat.reduceAdd, Nat.reduceLT, Nat.reduceLeDiff, Nat.reduceEqDiff, Nat.reduceSub, Nat.reduceMul, Nat.reduceBEq, Int.reduceBEq, Int.reduceBNe, Int.reduceLT, Int.reduceLE, Int.reduceGT, Int.reduceGE, Int.reduceNeg, Int.reduceEq, Int.reduceNe, Int.reduceToNat, Int.reduceAdd, cls, fl, teset, e0, e1, e7, e8, inj_take, inj_drop, inj_agg, inj_len, inj_one, List.length_map]
      simp only [decide_eq_false_iff_not] at hc
      rw [← hr, List.drop_eq_nil_of_le (by omega)]
      exact ⟨rfl, rfl⟩
    | true =>
      simp only [decide_eq_true_eq] at hc
      have hj : j < xs.length := by omega
      have hget : (xs.map inj)[((j : Nat) : Int).toNat]? = some (inj xs[j]) := by simp [hj]
      simp only [awset0, awset1, awset2, awset3, awset4, awset5, ne_eq, eq_self, implies_true, imp_self, retR, atup, aresL, ares1, gval, inLz, boxR, buildR, noDead, AV.isDead, acmpnil, appR, appBox, storeB, abin, aint, astr, aun, abuild, afill, fieldPlaces, alit, aindexAddr, aindex, aslice, bnd, cutTag, amin, amax, aappend, appendTo, aelems, aconv, aiface, agetField, reduceIte, reduceCtorEq, Nat.reduceAdd, Nat.reduceLT, Nat.reduceLeDiff, Nat.reduceEqDiff, Nat.reduceSub, Nat.reduceMul, Nat.reduceBEq, Int.reduceBEq, Int.reduceBNe, Int.reduceLT, Int.reduceLE, Int.reduceGT, Int.reduceGE, Int.reduceNeg, Int.reduceEq, Int.reduceNe, Int.reduceToNat, Int.reduceAdd, cls, fl, teset, e0, e1, e7, e8, inj_take, inj_drop, inj_agg, inj_len, inj_one, List.length_map, hget, Int.natCast_nonneg]
      refine ACallV.det ⟨Tryd.f50, Tryd.func50, rfl, by kernel_rfl⟩ rfl (closure_calls L xs[j] (ih _ (List.getElem_mem _)) hL c b tl tn (h.set b [.int .i64 c]) hc60 (by rw [set_box, if_pos rfl]) (by rw [set_box, if_neg hne1]; exact hl) (by rw [set_box, if_neg hne2]; exact htn)) ?_
      rw [AH.set_set]
      rw [List.drop_eq_getElem_cons hj, rightL] at hr
      have hle := rightS_le L c xs[j]
      cases hok : (rightS L c xs[j]).1 with
      | false =>
        simp only [awset0, awset1, awset2, awset3, awset4, awset5, ne_eq, eq_self, implies_true, imp_self, retR, atup, aresL, ares1, gval, inLz, boxR, buildR, noDead, AV.isDead, acmpnil, appR, appBox, storeB, abin, aint, astr, aun, abuild, afill, fieldPlaces, alit, aindexAddr, aindex, aslice, bnd, cutTag, amin, amax, aappend, appendTo, aelems, aconv, aiface, agetField, reduceIte, reduceCtorEq, Nat.reduceAdd, Nat.reduceLT, Nat.reduceLeDiff, Nat.reduceEqDiff, Nat.reduceSub, Nat.reduceMul, Nat.reduceBEq, Int.reduceBEq, Int.reduceBNe, Int.reduceLT, Int.reduceLE, Int.reduceGT, Int.reduceGE, Int.reduceNeg, Int.reduceEq, Int.reduceNe, Int.reduceToNat, Int.reduceAdd, cls, fl, teset, e0, e1, e7, e8, inj_take, inj_drop, inj_agg, inj_len, inj_one, List.length_map]
        rw [hok] at hr
        rw [← hr]
        exact ⟨rfl, rfl⟩
      | true =>
        simp only [awset0, awset1, awset2, awset3, awset4, awset5, ne_eq, eq_self, implies_true, imp_self, retR, atup, aresL, ares1, gval, inLz, boxR, buildR, noDead, AV.isDead, acmpnil, appR, appBox, storeB, abin, aint, astr, aun, abuild, afill, fieldPlaces, alit, aindexAddr, aindex, aslice, bnd, cutTag, amin, amax, aappend, appendTo, aelems, aconv, aiface, agetField, reduceIte, reduceCtorEq, Nat.reduceAdd, Nat.reduceLT, Nat.reduceLeDiff, Nat.reduceEqDiff, Nat.reduceSub, Nat.reduceMul, Nat.reduceBEq, Int.reduceBEq, Int.reduceBNe, Int.reduceLT, Int.reduceLE, Int.reduceGT, Int.reduceGE, Int.reduceNeg, Int.reduceEq, Int.reduceNe, Int.reduceToNat, Int.reduceAdd, cls, fl, teset, e0, e1, e7, e8, inj_take, inj_drop, inj_agg, inj_len, inj_one, List.length_map]
        rw [hok, if_pos rfl] at hr
        exact ⟨m - 1, by omega, j + 1, _, by rw [wrap_succ (by omega)], rfl, by omega, hle hok, hr⟩
theorem containsfn_calls (L : Nat) (hL : L < 1000) (xs : List V) (ih : ∀ x ∈ xs, RightAt L x) (hlen : xs.length < 4611686018427387904) (n b tl tn : Nat) (h : AH) (hn : n ≤ 60) (hb : h.box b = some [.int .i64 n]) (hl : h.box tl = some [.int .i64 ((L + 1 : Nat) : Int)]) (htn : h.box tn = some [.ptr b 0]) (hne1 : tl ≠ b) (hne2 : tn ≠ b) :
    ACalls Tryd.prog 49 [.sl .ro 5 (xs.map inj), .fn (.func 50) [] [.ptr tl 0, .ptr tn 0]] h fun out h' => out = .ret (.bool (decide ((rightL (rightS L) n xs 0).1 ≥ 0))) ∧ h' = h.set b [.int .i64 (rightL (rightS L) n xs 0).2] := by
  refine acalls_of te_ok [] Tryd.func49 (c := _) rfl (Nat.le_of_ble_eq_true rfl) ?_
  simp only [awset0, awset1, awset2, awset3, awset4, awset5, ne_eq, eq_self, implies_true, imp_self, retR, atup, aresL, ares1, gval, inLz, boxR, buildR, noDead, AV.isDead, acmpnil, appR, appBox, storeB, abin, aint, astr, aun, abuild, afill, fieldPlaces, alit, aindexAddr, aindex, aslice, bnd, cutTag, amin, amax, aappend, appendTo, aelems, aconv, aiface, agetField, reduceIte, reduceCtorEq, Nat.reduceAdd, Nat.reduceLT, Nat.reduceLeDiff, Nat.reduceEqDiff, Nat.reduceSub, Nat.reduceMul, Nat.reduceBEq, Int.reduceBEq, Int.reduceBNe, Int.reduceLT, Int.reduceLE, Int.reduceGT, Int.reduceGE, Int.reduceNeg, Int.reduceEq, Int.reduceNe, Int.reduceToNat, Int.reduceAdd, cls, fl, teset, Tryd.ntmps49, Tryd.results49, inj_take, inj_drop, inj_agg, inj_len, inj_one, List.length_map]
  refine ACallV.det ⟨Tryd.f63, Tryd.func63, rfl, by kernel_rfl⟩ rfl (indexfn_calls L hL xs ih hlen n b tl tn h hn hb hl htn hne1 hne2) ?_
  simp only [awset0, awset1, awset2, awset3, awset4, awset5, ne_eq, eq_self, implies_true, imp_self, retR, atup, aresL, ares1, gval, inLz, boxR, buildR, noDead, AV.isDead, acmpnil, appR, appBox, storeB, abin, aint, astr, aun, abuild, afill, fieldPlaces, alit, aindexAddr, aindex, aslice, bnd, cutTag, amin, amax, aappend, appendTo, aelems, aconv, aiface, agetField, reduceIte, reduceCtorEq, Nat.reduceAdd, Nat.reduceLT, Nat.reduceLeDiff, Nat.reduceEqDiff, Nat.reduceSub, Nat.reduceMul, Nat.reduceBEq, Int.reduceBEq, Int.reduceBNe, Int.reduceLT, Int.reduceLE, Int.reduceGT, Int.reduceGE, Int.reduceNeg, Int.reduceEq, Int.reduceNe, Int.reduceToNat, Int.reduceAdd, cls, fl, teset]
end Go.Proofs.YtjdocenbfghglaaDoor.AW
