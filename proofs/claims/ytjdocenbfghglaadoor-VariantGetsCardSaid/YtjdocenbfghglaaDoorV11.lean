/- V, part 11: the program's text. -/
import Derived.Test.YtjdocenbfghglaaDoorV10
import Derived.Test.YtjdocenbfghglaaDoorLay
import Derived.Shelf.Strings.FuncGrows
set_option linter.unusedSimpArgs false
set_option linter.unusedVariables false
namespace Go.Proofs.YtjdocenbfghglaaDoor.AW
open Go Go.RowKit

def badRune (x : Nat) : Bool := decide ((x : Int) < 32) || decide ((x : Int) > 126)
theorem textfn_pure (x : Nat) : Pure Tryd.prog 62 [.int .i32 x] (.bool (badRune x)) := by
  refine Pure.of ⟨Tryd.f62, Tryd.func62, rfl, by kernel_rfl⟩ rfl (fun h => ?_)
  refine acalls_of te_ok [6, 7] Tryd.func62 (c := _) rfl (Nat.le_of_ble_eq_true rfl) ?_
  simp only [awset0, awset1, awset2, awset3, awset4, awset5, ne_eq, eq_self, implies_true, imp_self, retR, atup, aresL, ares1, gval, inLz, boxR, buildR, noDead, AV.isDead, acmpnil, appR, appBox, storeB, abin, aint, astr, aun, abuild, afill, fieldPlaces, alit, aindexAddr, aindex, aslice, bnd, cutTag, amin, amax, aappend, appendTo, aelems, aconv, aiface, agetField, reduceIte, reduceCtorEq, Nat.reduceAdd, Nat.reduceLT, Nat.reduceLeDiff, Nat.reduceEqDiff, Nat.reduceSub, Nat.reduceMul, Nat.reduceBEq, Int.reduceBEq, Int.reduceBNe, Int.reduceLT, Int.reduceLE, Int.reduceGT, Int.reduceGE, Int.reduceNeg, Int.reduceEq, Int.reduceNe, Int.reduceToNat, Int.reduceAdd, cls, fl, teset, Tryd.ntmps62, Tryd.results62]
  exact ⟨.refl _, _, rfl, rfl⟩
theorem textfn_grows (w : World) : PredGrows Tryd.prog 62 #[] badRune w := by
  intro W x hx hb
  have h1 := (textfn_pure x).calls_below #[.int .i32 x] W rfl (fun i c hi => by
    cases i with
    | zero => simp at hi; subst hi; exact .int _ _
    | succ i => simp at hi)
  refine Calls.mono h1 ?_
  rintro e w' ⟨⟨c, m, rfl, hc⟩, h2⟩
  exact ⟨by rw [hc.bool_inv], h2⟩
theorem index_pure (s : ByteArray) : Pure Tryd.prog 76 [.str s, .fn (.func 62) [] [], .bool true] (.int .i64 (Lib.idxFunc badRune true s)) := by
  refine Pure.of_calls ⟨Tryd.f76, Tryd.func76, rfl, by kernel_rfl⟩ (fun m w args' hn hr => ?_)
  obtain ⟨l⟩ := args'
  simp only [List.size_toArray, List.length_cons, List.length_nil] at hn
  match l, hn with
  | [a, b, c], _ =>
    have ha := hr 0 _ rfl
    have hb := hr 1 _ rfl
    have hc := hr 2 _ rfl
    obtain rfl := hc.bool_inv
    obtain ⟨first', cap', hb', h1, h2, _, _⟩ := hb.fn_inv
    have ha' : a = .string s := ha.str_inv
    have e1 : first' = #[] := Array.eq_empty_of_size_eq_zero (by simpa using h1)
    have e2 : cap' = #[] := Array.eq_empty_of_size_eq_zero (by simpa using h2)
    have hb2 : b = .func (.func 62) #[] #[] := by rw [e1, e2] at hb'; exact hb'
    subst ha' hb2
    refine (Any.strings_indexFunc_grows Tryd.layIndexFunc 62 #[] (Go.Proofs.enters_of Tryd.func62 (by kernel_rfl) rfl) badRune true s w (textfn_grows w)).mono ?_
    rintro e w' ⟨rfl, h3⟩
    exact ⟨⟨_, rfl, .int _ _⟩, h3⟩

theorem get_at {s : ByteArray} {i : Nat} {b : UInt8} (h : s.data.toList[i]? = some b) : s.get! i = b ∧ i < s.size := by
  have hl := (List.getElem?_eq_some_iff.1 h).1
  have hi : i < s.data.size := by simpa using hl
  refine ⟨?_, hi⟩
  have h2 : s.data[i]? = some b := by rw [← Array.getElem?_toList]; exact h
  show s.data[i]! = b
  rw [Array.getElem!_eq_getD, Array.getD_eq_getD_getElem?, h2]; rfl
theorem decode_small {s : ByteArray} {i : Nat} {b : UInt8} (h : s.data.toList[i]? = some b) (hb : b.toNat < 128) : Utf8.decode s i = (b.toNat, 1) := by
  unfold Utf8.decode
  simp only [Nat.add_zero, (get_at h).1]
  rw [if_pos hb]
theorem decode_great {s : ByteArray} {i : Nat} {b : UInt8} (h : s.data.toList[i]? = some b) (hb : 128 ≤ b.toNat) : 128 ≤ (Utf8.decode s i).1 := by
  unfold Utf8.decode
  simp only [Nat.add_zero, (get_at h).1]
  rw [if_neg (by omega)]
  repeat' split
  all_goals simp_all [Utf8.runeError]
  all_goals omega
def textS (s : ByteArray) : Bool := decide ((s.size : Int) ≤ 100) && !decide (Lib.idxFunc badRune true s ≥ 0)
theorem idx_all (s : ByteArray) : ∀ (f pos : Nat), s.size ≤ pos + f → ((s.data.toList.drop pos).all okByte = true ↔ Lib.idxFuncFrom badRune true s f pos < 0) := by
  have hlen : s.data.toList.length = s.size := by simp
  intro f
  induction f with
  | zero =>
    intro pos h
    rw [List.drop_eq_nil_of_le (by omega)]
    simp [Lib.idxFuncFrom]
  | succ f ih =>
    intro pos h
    simp only [Lib.idxFuncFrom]
    by_cases hp : pos < s.size
    · rw [if_pos hp]
      have hpl : pos < s.data.toList.length := by omega
      rw [List.drop_eq_getElem_cons hpl, List.all_cons]
      have hb : s.data.toList[pos]? = some (s.data.toList[pos]) := List.getElem?_eq_getElem hpl
      generalize s.data.toList[pos] = b at *
      by_cases h1 : b.toNat < 128
      · rw [decode_small hb h1]
        simp only
        cases hk : badRune b.toNat with
        | true =>
          simp only [if_true]
          have : okByte b = false := by
            simp only [badRune, Bool.or_eq_true, decide_eq_true_eq] at hk
            rw [Bool.eq_false_iff]
            intro h2
            simp only [okByte, Bool.and_eq_true, decide_eq_true_eq] at h2
            omega
          rw [this]
          simp
        | false =>
          have : okByte b = true := by
            simp only [badRune, Bool.or_eq_false_iff, decide_eq_false_iff_not] at hk
            simp only [okByte, Bool.and_eq_true, decide_eq_true_eq]
            omega
          rw [this]
          simpa using ih (pos + 1) (by omega)
      · have h2 := decode_great hb (by omega)
        have hk : badRune (Utf8.decode s pos).1 = true := by simp only [badRune, Bool.or_eq_true, decide_eq_true_eq]; omega
        rw [hk]
        simp only [if_true]
        have : okByte b = false := by
          rw [Bool.eq_false_iff]
          intro h2
          simp only [okByte, Bool.and_eq_true, decide_eq_true_eq] at h2
          omega
        rw [this]
        simp
    · rw [if_neg hp, List.drop_eq_nil_of_le (by omega)]
      simp
theorem textS_eq (s : ByteArray) : textS s = isText s := by
  have h := idx_all s s.size 0 (by omega)
  rw [List.drop_zero] at h
  unfold textS isText Lib.idxFunc
  rw [Bool.eq_iff_iff]
  simp only [Bool.and_eq_true, decide_eq_true_eq, Bool.not_eq_true', decide_eq_false_iff_not]
  constructor
  · rintro ⟨h1, h2⟩; exact ⟨by omega, h.2 (by omega)⟩
  · rintro ⟨h1, h2⟩; have := h.1 h2; exact ⟨by omega, by omega⟩

theorem indexf_pure (s : ByteArray) : Pure Tryd.prog 70 [.str s, .fn (.func 62) [] []] (.int .i64 (Lib.idxFunc badRune true s)) := by
  refine Pure.of ⟨Tryd.f70, Tryd.func70, rfl, by kernel_rfl⟩ rfl (fun h => ?_)
  refine acalls_of te_ok [] Tryd.func70 (c := _) rfl (Nat.le_of_ble_eq_true rfl) ?_
  simp only [awset0, awset1, awset2, awset3, awset4, awset5, ne_eq, eq_self, implies_true, imp_self, retR, atup, aresL, ares1, gval, inLz, boxR, buildR, noDead, AV.isDead, acmpnil, appR, appBox, storeB, abin, aint, astr, aun, abuild, afill, fieldPlaces, alit, aindexAddr, aindex, aslice, bnd, cutTag, amin, amax, aappend, appendTo, aelems, aconv, aiface, agetField, reduceIte, reduceCtorEq, Nat.reduceAdd, Nat.reduceLT, Nat.reduceLeDiff, Nat.reduceEqDiff, Nat.reduceSub, Nat.reduceMul, Nat.reduceBEq, Int.reduceBEq, Int.reduceBNe, Int.reduceLT, Int.reduceLE, Int.reduceGT, Int.reduceGE, Int.reduceNeg, Int.reduceEq, Int.reduceNe, Int.reduceToNat, Int.reduceAdd, cls, fl, teset, Tryd.ntmps70, Tryd.results70]
  refine ACallV.pure (index_pure s) ?_
  simp only [awset0, awset1, awset2, awset3, awset4, awset5, ne_eq, eq_self, implies_true, imp_self, retR, atup, aresL, ares1, gval, inLz, boxR, buildR, noDead, AV.isDead, acmpnil, appR, appBox, storeB, abin, aint, astr, aun, abuild, afill, fieldPlaces, alit, aindexAddr, aindex, aslice, bnd, cutTag, amin, amax, aappend, appendTo, aelems, aconv, aiface, agetField, reduceIte, reduceCtorEq, Nat.reduceAdd, Nat.reduceLT, Nat.reduceLeDiff, Nat.reduceEqDiff, Nat.reduceSub, Nat.reduceMul, Nat.reduceBEq, Int.reduceBEq, Int.reduceBNe, Int.reduceLT, Int.reduceLE, Int.reduceGT, Int.reduceGE, Int.reduceNeg, Int.reduceEq, Int.reduceNe, Int.reduceToNat, Int.reduceAdd, cls, fl, teset]
  exact ⟨.refl _, _, rfl, rfl⟩
theorem contains_pure (s : ByteArray) : Pure Tryd.prog 61 [.str s, .fn (.func 62) [] []] (.bool (decide (Lib.idxFunc badRune true s ≥ 0))) := by
  refine Pure.of ⟨Tryd.f61, Tryd.func61, rfl, by kernel_rfl⟩ rfl (fun h => ?_)
  refine acalls_of te_ok [] Tryd.func61 (c := _) rfl (Nat.le_of_ble_eq_true rfl) ?_
  simp only [awset0, awset1, awset2, awset3, awset4, awset5, ne_eq, eq_self, implies_true, imp_self, retR, atup, aresL, ares1, gval, inLz, boxR, buildR, noDead, AV.isDead, acmpnil, appR, appBox, storeB, abin, aint, astr, aun, abuild, afill, fieldPlaces, alit, aindexAddr, aindex, aslice, bnd, cutTag, amin, amax, aappend, appendTo, aelems, aconv, aiface, agetField, reduceIte, reduceCtorEq, Nat.reduceAdd, Nat.reduceLT, Nat.reduceLeDiff, Nat.reduceEqDiff, Nat.reduceSub, Nat.reduceMul, Nat.reduceBEq, Int.reduceBEq, Int.reduceBNe, Int.reduceLT, Int.reduceLE, Int.reduceGT, Int.reduceGE, Int.reduceNeg, Int.reduceEq, Int.reduceNe, Int.reduceToNat, Int.reduceAdd, cls, fl, teset, Tryd.ntmps61, Tryd.results61]
  refine ACallV.pure (indexf_pure s) ?_
  simp only [awset0, awset1, awset2, awset3, awset4, awset5, ne_eq, eq_self, implies_true, imp_self, retR, atup, aresL, ares1, gval, inLz, boxR, buildR, noDead, AV.isDead, acmpnil, appR, appBox, storeB, abin, aint, astr, aun, abuild, afill, fieldPlaces, alit, aindexAddr, aindex, aslice, bnd, cutTag, amin, amax, aappend, appendTo, aelems, aconv, aiface, agetField, reduceIte, reduceCtorEq, Nat.reduceAdd, Nat.reduceLT, Nat.reduceLeDiff, Nat.reduceEqDiff, Nat.reduceSub, Nat.reduceMul, Nat.reduceBEq, Int.reduceBEq, Int.reduceBNe, Int.reduceLT, Int.reduceLE, Int.reduceGT, Int.reduceGE, Int.reduceNeg, Int.reduceEq, Int.reduceNe, Int.reduceToNat, Int.reduceAdd, cls, fl, teset]
  exact ⟨.refl _, _, rfl, rfl⟩
theorem text_pure (s : ByteArray) : Pure Tryd.prog 48 [.str s] (.bool (isText s)) := by
  rw [← textS_eq]
  refine Pure.of ⟨Tryd.f48, Tryd.func48, rfl, by kernel_rfl⟩ rfl (fun h => ?_)
  refine acalls_of te_ok [] Tryd.func48 (c := _) rfl (Nat.le_of_ble_eq_true rfl) ?_
  simp only [awset0, awset1, awset2, awset3, awset4, awset5, ne_eq, eq_self, implies_true, imp_self, retR, atup, aresL, ares1, gval, inLz, boxR, buildR, noDead, AV.isDead, acmpnil, appR, appBox, storeB, abin, aint, astr, aun, abuild, afill, fieldPlaces, alit, aindexAddr, aindex, aslice, bnd, cutTag, amin, amax, aappend, appendTo, aelems, aconv, aiface, agetField, reduceIte, reduceCtorEq, Nat.reduceAdd, Nat.reduceLT, Nat.reduceLeDiff, Nat.reduceEqDiff, Nat.reduceSub, Nat.reduceMul, Nat.reduceBEq, Int.reduceBEq, Int.reduceBNe, Int.reduceLT, Int.reduceLE, Int.reduceGT, Int.reduceGE, Int.reduceNeg, Int.reduceEq, Int.reduceNe, Int.reduceToNat, Int.reduceAdd, cls, fl, teset, Tryd.ntmps48, Tryd.results48]
  cases hc : decide ((s.size : Int) ≤ 100) with
  | false => simp only [awset0, awset1, awset2, awset3, awset4, awset5, ne_eq, eq_self, implies_true, imp_self, retR, atup, aresL, ares1, gval, inLz, boxR, buildR, noDead, AV.isDead, acmpnil, appR, appBox, storeB, abin, aint, astr, aun, abuild, afill, fieldPlaces, alit, aindexAddr, aindex, aslice, bnd, cutTag, amin, amax, aappend, appendTo, aelems, aconv, aiface, agetField, reduceIte, reduceCtorEq, Nat.reduceAdd, Nat.reduceLT, Nat.reduceLeDiff, Nat.reduceEqDiff, Nat.reduceSub, Nat.reduceMul, Nat.reduceBEq, Int.reduceBEq, Int.reduceBNe, Int.reduceLT, Int.reduceLE, Int.reduceGT, Int.reduceGE, Int.reduceNeg, Int.reduceEq, Int.reduceNe, Int.reduceToNat, Int.reduceAdd, cls, fl, teset]; exact ⟨.refl _, _, rfl, by unfold textS; rw [hc]; rfl⟩
  | true =>
    simp only [awset0, awset1, awset2, awset3, awset4, awset5, ne_eq, eq_self, implies_true, imp_self, retR, atup, aresL, ares1, gval, inLz, boxR, buildR, noDead, AV.isDead, acmpnil, appR, appBox, storeB, abin, aint, astr, aun, abuild, afill, fieldPlaces, alit, aindexAddr, aindex, aslice, bnd, cutTag, amin, amax, aappend, appendTo, aelems, aconv, aiface, agetField, reduceIte, reduceCtorEq, Nat.reduceAdd, Nat.reduceLT, Nat.reduceLeDiff, Nat.reduceEqDiff, Nat.reduceSub, Nat.reduceMul, Nat.reduceBEq, Int.reduceBEq, Int.reduceBNe, Int.reduceLT, Int.reduceLE, Int.reduceGT, Int.reduceGE, Int.reduceNeg, Int.reduceEq, Int.reduceNe, Int.reduceToNat, Int.reduceAdd, cls, fl, teset]
    refine ACallV.pure (contains_pure s) ?_
    simp only [awset0, awset1, awset2, awset3, awset4, awset5, ne_eq, eq_self, implies_true, imp_self, retR, atup, aresL, ares1, gval, inLz, boxR, buildR, noDead, AV.isDead, acmpnil, appR, appBox, storeB, abin, aint, astr, aun, abuild, afill, fieldPlaces, alit, aindexAddr, aindex, aslice, bnd, cutTag, amin, amax, aappend, appendTo, aelems, aconv, aiface, agetField, reduceIte, reduceCtorEq, Nat.reduceAdd, Nat.reduceLT, Nat.reduceLeDiff, Nat.reduceEqDiff, Nat.reduceSub, Nat.reduceMul, Nat.reduceBEq, Int.reduceBEq, Int.reduceBNe, Int.reduceLT, Int.reduceLE, Int.reduceGT, Int.reduceGE, Int.reduceNeg, Int.reduceEq, Int.reduceNe, Int.reduceToNat, Int.reduceAdd, cls, fl, teset]
    exact ⟨.refl _, _, rfl, by unfold textS; rw [hc]; rfl⟩
end Go.Proofs.YtjdocenbfghglaaDoor.AW
