/- Texts of this claim, part 7: V70, P70, V92. -/
import Derived.Test.YtjdocenbfghglaaGreatDoorMg1
import Derived.Lib.Bytealg
import Derived.Shelf.Strings.Count
section
set_option linter.unusedSimpArgs false
set_option linter.unusedVariables false
namespace Go.Proofs.YtjdocenbfghglaaGreatDoor.AW
open Go Go.RowKit

def icmp (a b : Int) : Int := if a < b then -1 else if b < a then 1 else 0
def tcmp (a b : ByteArray) : Int := if sless a b = true then -1 else if sless b a = true then 1 else 0
theorem compareBytes_eq : ∀ x y : List UInt8, Lib.compareBytes x y = if Op.bytesLess x y = true then -1 else if Op.bytesLess y x = true then 1 else 0
  | [], [] => by simp [Lib.compareBytes, Op.bytesLess]
  | [], _ :: _ => by simp [Lib.compareBytes, Op.bytesLess]
  | _ :: _, [] => by simp [Lib.compareBytes, Op.bytesLess]
  | a :: x, b :: y => by
    simp only [Lib.compareBytes, Op.bytesLess, compareBytes_eq x y]
    by_cases h1 : a < b
    · simp [h1]
    · by_cases h2 : b < a
      · have h3 : ¬ a = b := by rintro rfl; exact h1 h2
        simp [h1, h2, h3]
      · have h3 : a = b := UInt8.le_antisymm (UInt8.not_lt.1 h2) (UInt8.not_lt.1 h1)
        subst h3
        simp [h1]
theorem tcmp_ext (a b : ByteArray) (h : AH) (R : AOut → AH → Prop) (hR : R (.ret (.int .i64 (tcmp a b))) h) : AExt Tryz.prog 181 [.str a, .str b] h R := by
  refine ⟨_, fun w0 m w args' h1 h2 hW => ?_, hR⟩
  have e0 := h2 0 _ rfl
  have e1 := h2 1 _ rfl
  have hargs : args' = #[.string a, .string b] := by
    apply Array.ext_getElem?
    intro i
    match i with
    | 0 =>
      have := e0.str_inv
      rw [Array.getD_eq_getD_getElem?, Array.getElem?_eq_getElem (by simp at h1; omega)] at this
      rw [Array.getElem?_eq_getElem (by simp at h1; omega)]; simpa using this
    | 1 =>
      have := e1.str_inv
      rw [Array.getD_eq_getD_getElem?, Array.getElem?_eq_getElem (by simp at h1; omega)] at this
      rw [Array.getElem?_eq_getElem (by simp at h1; omega)]; simpa using this
    | i + 2 => rw [Array.getElem?_eq_none (by simp at h1; omega), Array.getElem?_eq_none (by simp)]
  subst hargs
  refine ⟨_, ?_, .int _ _⟩
  rw [run_callFunc_extern (fn := Tryz.f181) (by kernel_rfl) (by kernel_rfl) (by kernel_rfl) (by kernel_rfl) (e := Extern.BytealgCompare.compare) (by kernel_rfl), Lib.run_compareString, compareBytes_eq]
  unfold tcmp sless
  rw [ByteArray.toList_eq, ByteArray.toList_eq]
  rfl
theorem tcmp_call {a b : ByteArray} {h : AH} {dst : Option Nat} {s : AS} {k : AK} {Q : AQ} (hk : k (putD s dst (.int .i64 (tcmp a b))) h Q) : ACallV Tryz.prog (.fn (.func 181) [] []) [.str a, .str b] h (callK dst s k Q) := by
  refine .inr (tcmp_ext a b h _ ?_)
  exact hk
theorem bcmp_pure (a b : ByteArray) : Pure Tryz.prog 140 [.str a, .str b] (.int .i64 (tcmp a b)) := by
  refine Pure.of ⟨Tryz.f140, Tryz.func140, rfl, by kernel_rfl⟩ rfl (fun h => ?_)
  refine acalls_of te_ok [] Tryz.func140 (c := _) rfl (Nat.le_of_ble_eq_true rfl) ?_
  simp only [aws, eq_self, reduceIte, Nat.reduceLT, Tryz.ntmps140, Tryz.results140]
  refine tcmp_call ?_
  simp only [aws, eq_self, reduceIte, Nat.reduceLT, ares1]
  exact ⟨.refl _, _, rfl, rfl⟩
theorem scmp_pure (a b : ByteArray) : Pure Tryz.prog 111 [.str a, .str b] (.int .i64 (tcmp a b)) := by
  refine Pure.of ⟨Tryz.f111, Tryz.func111, rfl, by kernel_rfl⟩ rfl (fun h => ?_)
  refine acalls_of te_ok [] Tryz.func111 (c := _) rfl (Nat.le_of_ble_eq_true rfl) ?_
  simp only [aws, eq_self, reduceIte, Nat.reduceLT, Tryz.ntmps111, Tryz.results111]
  refine ACallV.pure (bcmp_pure a b) ?_
  simp only [aws, eq_self, reduceIte, Nat.reduceLT, ares1]
  exact ⟨.refl _, _, rfl, rfl⟩
theorem inan_pure (a : Int) : Pure Tryz.prog 139 [.int .i64 a] (.bool false) := by
  refine Pure.of ⟨Tryz.f139, Tryz.func139, rfl, by kernel_rfl⟩ rfl (fun h => ?_)
  refine acalls_of te_ok [] Tryz.func139 (c := _) rfl (Nat.le_of_ble_eq_true rfl) ?_
  simp only [aws, eq_self, reduceIte, Nat.reduceLT, acmpnil, ares1, Tryz.ntmps139, Tryz.results139]
  exact ⟨.refl _, _, rfl, by simp [AV.erase]⟩
theorem icmp_pure (a b : Int) : Pure Tryz.prog 109 [.int .i64 a, .int .i64 b] (.int .i64 (icmp a b)) := by
  refine Pure.of ⟨Tryz.f109, Tryz.func109, rfl, by kernel_rfl⟩ rfl (fun h => ?_)
  refine acalls_of te_ok [] Tryz.func109 (c := _) rfl (Nat.le_of_ble_eq_true rfl) ?_
  simp only [aws, eq_self, reduceIte, Nat.reduceLT, Int.reduceNeg, Tryz.ntmps109, Tryz.results109]
  refine ACallV.pure (inan_pure a) ?_
  simp only [aws, eq_self, reduceIte, Nat.reduceLT, Int.reduceNeg]
  refine ACallV.pure (inan_pure b) ?_
  simp only [aws, eq_self, reduceIte, reduceCtorEq, Nat.reduceLT, Nat.reduceEqDiff, Int.reduceNeg, acmpnil]
  cases hc : decide (a < b) with
  | true =>
    simp only [aws, eq_self, reduceIte, Nat.reduceLT, Nat.reduceEqDiff, Int.reduceNeg, ares1]
    simp only [decide_eq_true_eq] at hc
    exact ⟨.refl _, _, rfl, by unfold icmp; rw [if_pos hc]; rfl⟩
  | false =>
    simp only [aws, eq_self, reduceIte, reduceCtorEq, Nat.reduceLT, Nat.reduceEqDiff, Int.reduceNeg, acmpnil]
    simp only [decide_eq_false_iff_not] at hc
    cases hd : decide (a > b) with
    | true =>
      simp only [aws, eq_self, reduceIte, Nat.reduceLT, Nat.reduceEqDiff, ares1]
      simp only [decide_eq_true_eq] at hd
      exact ⟨.refl _, _, rfl, by unfold icmp; rw [if_neg hc, if_pos hd]; rfl⟩
    | false =>
      simp only [aws, eq_self, reduceIte, Nat.reduceLT, Nat.reduceEqDiff, ares1]
      simp only [decide_eq_false_iff_not] at hd
      exact ⟨.refl _, _, rfl, by unfold icmp; rw [if_neg hc, if_neg hd]; rfl⟩
def orL : List Int → Int
  | [] => 0
  | a :: l => if a = 0 then orL l else a
theorem or_pure (a b c : Int) : Pure Tryz.prog 110 [.sl .ro 1 [.int .i64 a, .int .i64 b, .int .i64 c]] (.int .i64 (orL [a, b, c])) := by
  refine Pure.of ⟨Tryz.f110, Tryz.func110, rfl, by kernel_rfl⟩ rfl (fun h => ?_)
  refine acalls_of te_ok [] Tryz.func110 (c := _) rfl (Nat.le_of_ble_eq_true rfl) ?_
  simp only [aws, eq_self, reduceIte, Nat.reduceAdd, Nat.reduceLT, teset, Tryz.ntmps110, Tryz.results110]
  refine ⟨fun n s' h' => ∃ j : Nat, s' 2 = .int .i64 0 ∧ s' 3 = .int .i64 0 ∧ s' 6 = .sl .ro 1 [.int .i64 a, .int .i64 b, .int .i64 c] ∧ s' 7 = .int .i64 3 ∧ s' 8 = .int .i64 j ∧ h' = h ∧ n + j = 3 ∧ orL ([a, b, c].drop j) = orL [a, b, c], ⟨3, 0, ?_⟩, ?_⟩
  · simp only [aws, eq_self, reduceIte, Int.natCast_zero]
    first | done | exact ⟨rfl, rfl⟩ | rfl
  · rintro n s' h' ⟨j, e2, e3, e6, e7, e8, hh, hn, ho⟩
    subst hh
    simp only [aws, eq_self, reduceIte, Nat.reduceLT, acmpnil, e7, e8]
    cases hc : decide ((j : Int) < 3) with
    | false =>
      simp only [aws, eq_self, reduceIte, Nat.reduceLT, Nat.reduceEqDiff, ares1, e2, e3]
      simp only [decide_eq_false_iff_not] at hc
      have : j = 3 := by omega
      subst this
      exact ⟨.refl _, _, rfl, by rw [← ho]; rfl⟩
    | true =>
      simp only [decide_eq_true_eq] at hc
      have hj : j < 3 := by omega
      obtain ⟨d, hd, hdrop⟩ : ∃ d, [AV.int .i64 a, .int .i64 b, .int .i64 c][((j : Nat) : Int).toNat]? = some (.int .i64 d) ∧ [a, b, c].drop j = d :: [a, b, c].drop (j + 1) := by
        rcases (show j = 0 ∨ j = 1 ∨ j = 2 by omega) with rfl | rfl | rfl
        · exact ⟨a, rfl, rfl⟩
        · exact ⟨b, rfl, rfl⟩
        · exact ⟨c, rfl, rfl⟩
      simp only [aws, eq_self, reduceIte, Nat.reduceLT, Nat.reduceEqDiff, acmpnil, teset, e3, e6, e8, hd, Int.natCast_nonneg]
      rw [hdrop, show orL (d :: [a, b, c].drop (j + 1)) = if d = 0 then orL ([a, b, c].drop (j + 1)) else d from rfl] at ho
      cases h0 : (d != 0) with
      | true =>
        simp only [aws, eq_self, reduceIte, Nat.reduceLT, Nat.reduceEqDiff, ares1, e2]
        have hd0 : d ≠ 0 := by simpa using h0
        exact ⟨.refl _, _, rfl, by rw [← ho, if_neg hd0]; rfl⟩
      | false =>
        simp only [aws, eq_self, reduceIte, Nat.reduceLT, Nat.reduceEqDiff, acmpnil, e2, e3, e6, e7, e8]
        have hd0 : d = 0 := by simpa using h0
        refine ⟨n - 1, by omega, j + 1, by rw [wrap_succ (by omega)], by omega, ?_⟩
        rw [← ho, if_pos hd0]

mutual
def ord : V → V → Int
  | .mk k i t xs ks, .mk k' i' t' xs' ks' => if k = k' then orL [ordL (k == 5) xs xs' ks ks', icmp i i', tcmp t t', icmp (xs.length : Int) (xs'.length : Int)] else icmp k k'
def ordL : Bool → List V → List V → List ByteArray → List ByteArray → Int
  | obj, x :: xs, y :: ys, ks, ls => if (obj && !((ks.headD default).toList == (ls.headD default).toList)) = true then tcmp (ks.headD default) (ls.headD default) else if ord x y = 0 then ordL obj xs ys ks.tail ls.tail else ord x y
  | _, _, _, _, _ => 0
end
theorem headD_drop {α : Type} (ks : List α) (j : Nat) (d : α) : (ks.drop j).headD d = ks.getD j d := by
  rw [List.headD_eq_head?_getD, List.head?_drop, List.getD_eq_getElem?_getD]
theorem ordL_step {obj : Bool} {xs ys : List V} {ks ls : List ByteArray} {j : Nat} (h1 : j < xs.length) (h2 : j < ys.length) :
    ordL obj (xs.drop j) (ys.drop j) (ks.drop j) (ls.drop j) = if (obj && !((ks.getD j default).toList == (ls.getD j default).toList)) = true then tcmp (ks.getD j default) (ls.getD j default) else if ord xs[j] ys[j] = 0 then ordL obj (xs.drop (j + 1)) (ys.drop (j + 1)) (ks.drop (j + 1)) (ls.drop (j + 1)) else ord xs[j] ys[j] := by
  rw [List.drop_eq_getElem_cons h1, List.drop_eq_getElem_cons h2, ordL, headD_drop, headD_drop, List.tail_drop, List.tail_drop]
theorem ordL_end {obj : Bool} {xs ys : List V} {ks ls : List ByteArray} {j : Nat} (h : min xs.length ys.length ≤ j) : ordL obj (xs.drop j) (ys.drop j) (ks.drop j) (ls.drop j) = 0 := by
  by_cases h1 : xs.length ≤ j
  · rw [List.drop_eq_nil_of_le h1]; simp [ordL]
  · rw [List.drop_eq_nil_of_le (show ys.length ≤ j by omega)]
    cases xs.drop j <;> simp [ordL]
theorem tcmp_ne {a b : ByteArray} (h : (!(a.toList == b.toList)) = true) : tcmp a b ≠ 0 := by
  intro h0
  unfold tcmp sless at h0
  split at h0
  · cases h0
  · split at h0
    · cases h0
    · next h1 h2 =>
      have := bl_total (by simpa using h1) (by simpa using h2)
      rw [this] at h; simp at h
theorem range3 : ([0, 1, 2] = List.range 3) = True := by simp; decide
theorem orderW_pure : ∀ (a b : V), Wok a → Wok b → Pure Tryz.prog 105 [inj a, inj b] (.int .i64 (ord a b)) := by
  intro a
  induction a using V.ind with
  | h k i t xs ks ih =>
    intro b hva hvb
    obtain ⟨k', i', t', ys, ls⟩ := b
    have hxl := (Wok.shape hva).2
    have hyl := (Wok.shape hvb).2
    have hka := (Wok.keys hva).1
    have hkb := (Wok.keys hvb).1
    have hxi := Wok.items hva
    have hyi := Wok.items hvb
    simp only [V.kind, V.keys, V.items] at hxl hyl hka hkb hxi hyi
    rw [inj_mk, inj_mk]
    refine Pure.of ⟨Tryz.f105, Tryz.func105, rfl, by kernel_rfl⟩ rfl (fun h => ?_)
    refine acalls_of te_ok [] Tryz.func105 (c := _) rfl (Nat.le_of_ble_eq_true rfl) ?_
    simp only [aws, eq_self, reduceIte, Nat.reduceLT, Nat.reduceEqDiff, acmpnil, teset, Tryz.ntmps105, Tryz.results105]
    cases hk : (k != k') with
    | true =>
      simp only [aws, eq_self, reduceIte, Nat.reduceLT, Nat.reduceEqDiff, teset]
      refine ACallV.pure (icmp_pure k k') ?_
      simp only [aws, eq_self, reduceIte, Nat.reduceLT, Nat.reduceEqDiff, ares1]
      refine ⟨by (repeat (first | exact AH.Ext.refl _ | assumption | refine AH.Ext.set ?_ (by first | omega | (simp only [new_nb, set_nb, kill_nb, newTok_nb, setTok_nb]; omega)) _ | refine AH.Ext.new ?_ _)), _, rfl, ?_⟩
      have : ¬ k = k' := by simpa using hk
      simp only [ord, if_neg this]; rfl
    | false =>
      have hkk : k = k' := by simpa using hk
      subst hkk
      simp only [aws, eq_self, reduceIte, Nat.reduceLT, Nat.reduceEqDiff, teset]
      have hmin : (if ((ys.length : Nat) : Int) < ((xs.length : Nat) : Int) then ((ys.length : Nat) : Int) else ((xs.length : Nat) : Int)) = ((min xs.length ys.length : Nat) : Int) := by
        split <;> omega
      refine ⟨fun n s' h' => ∃ (j : Nat), s' 2 = .ptr h.nb 0 ∧ s' 3 = .ptr (h.nb + 1) 0 ∧ s' 23 = .int .i64 ((min xs.length ys.length : Nat) : Int) ∧ s' 24 = .int .i64 j ∧ h' = (h.new [.int .i64 k, .int .i64 i, .str t, .sl .ro 5 (List.map inj xs), .sl .ro 1 (List.map AV.str ks)]).new [.int .i64 k, .int .i64 i', .str t', .sl .ro 5 (List.map inj ys), .sl .ro 1 (List.map AV.str ls)] ∧ n + j = min xs.length ys.length ∧ ordL (k == 5) (xs.drop j) (ys.drop j) (ks.drop j) (ls.drop j) = ordL (k == 5) xs ys ks ls, ⟨min xs.length ys.length, 0, ?_⟩, ?_⟩
      · simp only [aws, eq_self, reduceIte, Nat.reduceEqDiff, Int.natCast_zero, List.length_map, hmin]
        first | done | exact ⟨rfl, rfl⟩ | rfl
      · rintro n s' h' ⟨j, e2, e3, e23, e24, hh, hn, ho⟩
        subst hh
        simp only [aws, eq_self, reduceIte, Nat.reduceLT, acmpnil, e23, e24]
        cases hc : decide ((j : Int) < ((min xs.length ys.length : Nat) : Int)) with
        | false =>
          simp only [decide_eq_false_iff_not] at hc
          simp only [aws, eq_self, reduceIte]
          refine acode_draw_chain te_ok mixed [] (by kernel_rfl) ?_
          simp only [aws, eq_self, reduceIte, Nat.reduceAdd, Nat.reduceLT, Nat.reduceLeDiff, Nat.reduceEqDiff, Nat.reduceMul, ares1, teset, e2, e3]
          refine skR_pure (icmp_pure i i') ?_
          simp only [aws, eq_self, reduceIte]
          refine skR_pure (scmp_pure t t') ?_
          simp only [aws, eq_self, reduceIte, List.length_map]
          refine skR_pure (icmp_pure _ _) ?_
          simp only [aws, eq_self]
          simp only [aws, eq_self, range3, if_true]
          refine skR_pureW (or_pure (icmp i i') (tcmp t t') (icmp (xs.length : Int) (ys.length : Int))) (WkAll.cons (Wk.of_erase rfl) .nil) ?_
          refine ⟨by (repeat (first | exact AH.Ext.refl _ | assumption | refine AH.Ext.set ?_ (by first | omega | (simp only [new_nb, set_nb, kill_nb, newTok_nb, setTok_nb]; omega)) _ | refine AH.Ext.new ?_ _)), _, rfl, ?_⟩
          have hL : ordL (k == 5) xs ys ks ls = 0 := by rw [← ho]; exact ordL_end (by omega)
          rw [show ord (.mk k i t xs ks) (.mk k i' t' ys ls) = orL [icmp i i', tcmp t t', icmp (xs.length : Int) (ys.length : Int)] from by
            simp only [ord, if_true, hL]
            rfl]
          rfl
        | true =>
          simp only [decide_eq_true_eq] at hc
          have hj1 : j < xs.length := by omega
          have hj2 : j < ys.length := by omega
          have hget1 : (xs.map inj)[((j : Nat) : Int).toNat]? = some (inj xs[j]) := by simp [hj1]
          have hget2 : (ys.map inj)[((j : Nat) : Int).toNat]? = some (inj ys[j]) := by simp [hj2]
          rw [ordL_step hj1 hj2] at ho
          simp only [aws, eq_self, reduceIte, Nat.reduceLT, e24]
          refine acode_draw_chain te_ok mixed [] (by kernel_rfl) ?_
          simp only [aws, eq_self, reduceIte, Nat.reduceAdd, Nat.reduceLT, Nat.reduceEqDiff, acmpnil, teset, e2]
          have hnz : ∀ d : Int, d ≠ 0 → ordL (k == 5) xs ys ks ls = d → AOut.ret (.int .i64 d) = AOut.ret (.int .i64 (ord (.mk k i t xs ks) (.mk k i' t' ys ls))) := by
            intro d hd he
            have : ord (.mk k i t xs ks) (.mk k i' t' ys ls) = d := by
              simp only [ord, if_true, he]
              show (if d = 0 then _ else d) = d
              rw [if_neg hd]
            rw [this]
          have hrest : ∀ (s' : AS), True := fun _ => trivial
          cases h5 : (k == 5) with
          | true =>
            have hk5 : k = 5 := by simpa using h5
            have hkl := hka hk5
            have hll := hkb hk5
            have g1 : (ks.map AV.str)[((j : Nat) : Int).toNat]? = some (.str (ks.getD j default)) := by
              rw [Int.toNat_natCast, List.getElem?_map, List.getD_eq_getElem?_getD, List.getElem?_eq_getElem (by omega)]; rfl
            have g2 : (ls.map AV.str)[((j : Nat) : Int).toNat]? = some (.str (ls.getD j default)) := by
              rw [Int.toNat_natCast, List.getElem?_map, List.getD_eq_getElem?_getD, List.getElem?_eq_getElem (by omega)]; rfl
            rw [h5] at ho
            rw [Bool.true_and] at ho
            simp only [aws, eq_self, reduceIte, Nat.reduceEqDiff, acmpnil, teset, e2, e3, g1, g2, Int.natCast_nonneg]
            cases hq : (!((ks.getD j default).toList == (ls.getD j default).toList)) with
            | true =>
              simp only [aws]
              refine acode_draw_chain te_ok mixed [] (by kernel_rfl) ?_
              simp only [aws, eq_self, reduceIte, Nat.reduceAdd, Nat.reduceLT, Nat.reduceEqDiff, ares1, teset, e2, e3, g1, g2, Int.natCast_nonneg]
              refine skR_pure (scmp_pure _ _) ?_
              rw [hq, if_pos rfl] at ho
              refine ⟨by (repeat (first | exact AH.Ext.refl _ | assumption | refine AH.Ext.set ?_ (by first | omega | (simp only [new_nb, set_nb, kill_nb, newTok_nb, setTok_nb]; omega)) _ | refine AH.Ext.new ?_ _)), _, rfl, ?_⟩
              rw [h5] at hnz
              exact congrArg (fun o : AOut => match o with | .ret v => v | _ => .dead) (hnz _ (tcmp_ne hq) ho.symm)
            | false =>
              rw [hq, if_neg (by decide)] at ho
              simp only [aws]
              refine acode_draw_chain te_ok mixed [] (by kernel_rfl) ?_
              simp only [aws, eq_self, implies_true, imp_self, reduceIte, reduceCtorEq, Nat.reduceAdd, Nat.reduceLT, Nat.reduceLeDiff, Nat.reduceEqDiff, acmpnil, teset, e2, e3, inj_take, inj_agg, inj_len, hget1, hget2, Int.natCast_nonneg]
              refine skR_pure (ih _ (List.getElem_mem _) _ (hxi _ (List.getElem_mem _)) (hyi _ (List.getElem_mem _))) ?_
              simp only [aws, eq_self, reduceIte, Nat.reduceEqDiff]
              cases hz : (ord xs[j] ys[j] != 0) with
              | true =>
                simp only [aws, eq_self, reduceIte, Nat.reduceLT, Nat.reduceEqDiff, ares1]
                have hz2 : ord xs[j] ys[j] ≠ 0 := by simpa using hz
                rw [if_neg hz2] at ho
                refine ⟨by (repeat (first | exact AH.Ext.refl _ | assumption | refine AH.Ext.set ?_ (by first | omega | (simp only [new_nb, set_nb, kill_nb, newTok_nb, setTok_nb]; omega)) _ | refine AH.Ext.new ?_ _)), _, rfl, ?_⟩
                rw [h5] at hnz
                exact congrArg (fun o : AOut => match o with | .ret v => v | _ => .dead) (hnz _ hz2 ho.symm)
              | false =>
                simp only [aws, eq_self, reduceIte, Nat.reduceLT, Nat.reduceEqDiff, acmpnil, e2, e3, e23, e24]
                have hz2 : ord xs[j] ys[j] = 0 := by simpa using hz
                rw [if_pos hz2] at ho
                refine ⟨n - 1, by omega, j + 1, by rw [wrap_succ (by omega)], by omega, ?_⟩
                exact ho
          | false =>
            rw [h5] at ho
            rw [Bool.false_and, if_neg (by decide)] at ho
            simp only [aws]
            refine acode_draw_chain te_ok mixed [] (by kernel_rfl) ?_
            simp only [aws, eq_self, implies_true, imp_self, reduceIte, reduceCtorEq, Nat.reduceAdd, Nat.reduceLT, Nat.reduceLeDiff, Nat.reduceEqDiff, acmpnil, teset, e2, e3, inj_take, inj_agg, inj_len, hget1, hget2, Int.natCast_nonneg]
            refine skR_pure (ih _ (List.getElem_mem _) _ (hxi _ (List.getElem_mem _)) (hyi _ (List.getElem_mem _))) ?_
            simp only [aws, eq_self, reduceIte, Nat.reduceEqDiff]
            cases hz : (ord xs[j] ys[j] != 0) with
            | true =>
              simp only [aws, eq_self, reduceIte, Nat.reduceLT, Nat.reduceEqDiff, ares1]
              have hz2 : ord xs[j] ys[j] ≠ 0 := by simpa using hz
              rw [if_neg hz2] at ho
              refine ⟨by (repeat (first | exact AH.Ext.refl _ | assumption | refine AH.Ext.set ?_ (by first | omega | (simp only [new_nb, set_nb, kill_nb, newTok_nb, setTok_nb]; omega)) _ | refine AH.Ext.new ?_ _)), _, rfl, ?_⟩
              rw [h5] at hnz
              exact congrArg (fun o : AOut => match o with | .ret v => v | _ => .dead) (hnz _ hz2 ho.symm)
            | false =>
              simp only [aws, eq_self, reduceIte, Nat.reduceLT, Nat.reduceEqDiff, acmpnil, e2, e3, e23, e24]
              have hz2 : ord xs[j] ys[j] = 0 := by simpa using hz
              rw [if_pos hz2] at ho
              refine ⟨n - 1, by omega, j + 1, by rw [wrap_succ (by omega)], by omega, ?_⟩
              exact ho
theorem equalW_pure (a b : V) (ha : Wok a) (hb : Wok b) : Pure Tryz.prog 68 [inj a, inj b] (.bool (ord a b == 0)) := by
  have hp := orderW_pure a b ha hb
  obtain ⟨k, i, t, xs, ks⟩ := a
  obtain ⟨k', i', t', xs', ks'⟩ := b
  rw [inj_mk, inj_mk] at *
  refine Pure.of ⟨Tryz.f68, Tryz.func68, rfl, by kernel_rfl⟩ rfl (fun h => ?_)
  refine acalls_of te_ok [] Tryz.func68 (c := _) rfl (Nat.le_of_ble_eq_true rfl) ?_
  simp only [aws, eq_self, reduceIte, Nat.reduceAdd, Nat.reduceLT, Nat.reduceLeDiff, teset, Tryz.ntmps68, Tryz.results68]
  refine ACallV.pure hp ?_
  simp only [aws, eq_self, reduceIte, Nat.reduceLT, acmpnil, ares1]
  exact ⟨by (repeat (first | exact AH.Ext.refl _ | assumption | refine AH.Ext.set ?_ (by first | omega | (simp only [new_nb, set_nb, kill_nb, newTok_nb, setTok_nb]; omega)) _ | refine AH.Ext.new ?_ _)), _, rfl, rfl⟩
theorem equal_pure (a b : V) (ha : Vok a) (hb : Vok b) : Pure Tryz.prog 68 [inj a, inj b] (.bool (ord a b == 0)) := equalW_pure a b ha.w hb.w
end Go.Proofs.YtjdocenbfghglaaGreatDoor.AW
end
section

set_option linter.unusedSimpArgs false
set_option linter.unusedVariables false
namespace Go.Proofs.YtjdocenbfghglaaGreatDoor.AW
open Go Go.RowKit

theorem ba_ext2 {x y : ByteArray} (h : x.toList = y.toList) : x = y := by
  rw [ByteArray.toList_eq, ByteArray.toList_eq] at h
  obtain ⟨a⟩ := x
  obtain ⟨b⟩ := y
  congr
  exact Array.toList_inj.1 h
/-- What three comparisons must be to one another. -/
def T3 (p q r : Int) : Prop := (0 < p ∨ 0 < q ∨ (r ≤ 0 ∧ ((0 ≤ p ∧ 0 ≤ q) ∨ r < 0))) ∧ (p < 0 ∨ q < 0 ∨ (0 ≤ r ∧ ((p ≤ 0 ∧ q ≤ 0) ∨ 0 < r)))
def R1 (p : Int) : Prop := -1 ≤ p ∧ p ≤ 1
theorem icmp_R1 (a b : Int) : R1 (icmp a b) := by unfold icmp R1; split <;> (try split) <;> omega
theorem icmp_anti (a b : Int) : icmp b a = -icmp a b := by unfold icmp; split <;> split <;> (try split) <;> omega
theorem icmp_T3 (a b c : Int) : T3 (icmp a b) (icmp b c) (icmp a c) := by
  unfold icmp T3
  by_cases h1 : a < b <;> by_cases h2 : b < a <;> by_cases h3 : b < c <;> by_cases h4 : c < b <;> by_cases h5 : a < c <;> by_cases h6 : c < a <;> simp only [h1, h2, h3, h4, h5, h6, if_true, if_false] <;> omega
theorem icmp_zero {a b : Int} : icmp a b = 0 ↔ a = b := by
  unfold icmp
  by_cases h1 : a < b
  · simp [h1]; omega
  · by_cases h2 : b < a
    · simp [h1, h2]; omega
    · simp [h1, h2]; omega
theorem tcmp_R1 (a b : ByteArray) : R1 (tcmp a b) := by unfold tcmp R1; split <;> (try split) <;> omega
theorem tcmp_anti (a b : ByteArray) : tcmp b a = -tcmp a b := by
  unfold tcmp sless
  by_cases h1 : Op.bytesLess a.toList b.toList = true
  · simp [h1, bl_asymm h1]
  · by_cases h2 : Op.bytesLess b.toList a.toList = true
    · simp [h1, h2]
    · simp [h1, h2]
theorem tcmp_zero {a b : ByteArray} : tcmp a b = 0 ↔ a = b := by
  constructor
  · intro h
    apply ba_ext2
    cases hb : (a.toList == b.toList) with
    | true => simpa using hb
    | false => exact absurd h (tcmp_ne (by rw [hb]; rfl))
  · rintro rfl
    unfold tcmp sless
    rw [bl_irrefl]; rfl
theorem tcmp_neg {a b : ByteArray} : tcmp a b < 0 ↔ sless a b = true := by
  unfold tcmp
  by_cases h1 : sless a b = true
  · simp [h1]
  · by_cases h2 : sless b a = true <;> simp [h1, h2]
theorem tcmp_pos {a b : ByteArray} : 0 < tcmp a b ↔ sless b a = true := by
  rw [← tcmp_neg (a := b) (b := a), tcmp_anti a b]; omega
theorem tcmp_T3 (a b c : ByteArray) : T3 (tcmp a b) (tcmp b c) (tcmp a c) := by
  unfold T3
  rcases Int.lt_trichotomy (tcmp a b) 0 with p | p | p
  · rcases Int.lt_trichotomy (tcmp b c) 0 with q | q | q
    · have := tcmp_neg.2 (bl_trans (tcmp_neg.1 p) (tcmp_neg.1 q) : sless a c = true)
      omega
    · obtain rfl := tcmp_zero.1 q
      omega
    · omega
  · obtain rfl := tcmp_zero.1 p
    omega
  · rcases Int.lt_trichotomy (tcmp b c) 0 with q | q | q
    · omega
    · obtain rfl := tcmp_zero.1 q
      omega
    · have := tcmp_pos.2 (bl_trans (tcmp_pos.1 q) (tcmp_pos.1 p) : sless c a = true)
      omega
def or2 (p q : Int) : Int := if p = 0 then q else p
theorem or2_R1 {p q : Int} (h1 : R1 p) (h2 : R1 q) : R1 (or2 p q) := by unfold or2; split <;> assumption
theorem or2_anti {p q p' q' : Int} (h1 : p' = -p) (h2 : q' = -q) : or2 p' q' = -or2 p q := by
  unfold or2
  by_cases h : p = 0
  · rw [if_pos h, if_pos (by omega)]; exact h2
  · rw [if_neg h, if_neg (by omega)]; exact h1
theorem or2_T3 {p q r p' q' r' : Int} (h : T3 p q r) (h' : T3 p' q' r') : T3 (or2 p p') (or2 q q') (or2 r r') := by
  unfold T3 or2 at *
  split <;> split <;> split <;> omega
theorem or2_T3x {p q r a b c : Int} (h : T3 p q r) (hn : ¬(p = 0 ∧ q = 0)) : T3 (or2 p a) (or2 q b) (or2 r c) := by
  unfold T3 or2 at *
  split <;> split <;> split <;> omega
theorem or2_zero {p q : Int} : or2 p q = 0 ↔ p = 0 ∧ q = 0 := by
  unfold or2
  by_cases h : p = 0 <;> simp [h]
theorem orL_cons (a : Int) (l : List Int) : orL (a :: l) = or2 a (orL l) := rfl

mutual
/-- The order, in its plain form. -/
def ordN : V → V → Int
  | .mk k i t xs ks, .mk k' i' t' xs' ks' => or2 (icmp k k') (or2 (icmp i i') (or2 (tcmp t t') (lexL (k == 5) xs xs' ks ks')))
def lexL : Bool → List V → List V → List ByteArray → List ByteArray → Int
  | _, [], [], _, _ => 0
  | _, [], _ :: _, _, _ => -1
  | _, _ :: _, [], _, _ => 1
  | obj, x :: xs, y :: ys, ks, ls => or2 (if obj = true then tcmp (ks.headD default) (ls.headD default) else 0) (or2 (ordN x y) (lexL obj xs ys ks.tail ls.tail))
end
mutual
theorem ordN_R1 : ∀ a b : V, R1 (ordN a b)
  | .mk k i t xs ks, .mk k' i' t' xs' ks' => by
    simp only [ordN]
    exact or2_R1 (icmp_R1 _ _) (or2_R1 (icmp_R1 _ _) (or2_R1 (tcmp_R1 _ _) (lexL_R1 _ xs xs' ks ks')))
theorem lexL_R1 : ∀ (obj : Bool) (xs ys : List V) (ks ls : List ByteArray), R1 (lexL obj xs ys ks ls)
  | _, [], [], _, _ => by simp [lexL, R1]
  | _, [], _ :: _, _, _ => by simp [lexL, R1]
  | _, _ :: _, [], _, _ => by simp [lexL, R1]
  | obj, x :: xs, y :: ys, ks, ls => by
    simp only [lexL]
    refine or2_R1 ?_ (or2_R1 (ordN_R1 x y) (lexL_R1 obj xs ys ks.tail ls.tail))
    split
    · exact tcmp_R1 _ _
    · simp [R1]
end
mutual
theorem ordN_anti : ∀ a b : V, ordN b a = -ordN a b
  | .mk k i t xs ks, .mk k' i' t' xs' ks' => by
    simp only [ordN]
    by_cases h : k = k'
    · subst h
      exact or2_anti (icmp_anti _ _) (or2_anti (icmp_anti _ _) (or2_anti (tcmp_anti _ _) (lexL_anti _ xs xs' ks ks')))
    · have h1 : icmp k k' ≠ 0 := fun e => h (icmp_zero.1 e)
      have h2 : icmp k' k ≠ 0 := fun e => h (icmp_zero.1 e).symm
      unfold or2
      rw [if_neg h1, if_neg h2]
      exact icmp_anti _ _
theorem lexL_anti : ∀ (obj : Bool) (xs ys : List V) (ks ls : List ByteArray), lexL obj ys xs ls ks = -lexL obj xs ys ks ls
  | _, [], [], _, _ => by simp [lexL]
  | _, [], _ :: _, _, _ => by simp [lexL]
  | _, _ :: _, [], _, _ => by simp [lexL]
  | obj, x :: xs, y :: ys, ks, ls => by
    simp only [lexL]
    refine or2_anti ?_ (or2_anti (ordN_anti x y) (lexL_anti obj xs ys ks.tail ls.tail))
    split
    · exact tcmp_anti _ _
    · rfl
end
mutual
theorem ordN_T3 : ∀ a b c : V, T3 (ordN a b) (ordN b c) (ordN a c)
  | .mk k i t xs ks, .mk k' i' t' xs' ks', .mk k'' i'' t'' xs'' ks'' => by
    simp only [ordN]
    by_cases h : k = k' ∧ k' = k''
    · obtain ⟨rfl, rfl⟩ := h
      exact or2_T3 (icmp_T3 _ _ _) (or2_T3 (icmp_T3 _ _ _) (or2_T3 (tcmp_T3 _ _ _) (lexL_T3 _ xs xs' xs'' ks ks' ks'')))
    · exact or2_T3x (icmp_T3 _ _ _) (fun e => h ⟨icmp_zero.1 e.1, icmp_zero.1 e.2⟩)
theorem lexL_T3 : ∀ (obj : Bool) (xs ys zs : List V) (ks ls ms : List ByteArray), T3 (lexL obj xs ys ks ls) (lexL obj ys zs ls ms) (lexL obj xs zs ks ms)
  | _, [], [], [], _, _, _ => by simp [lexL, T3]
  | _, [], [], _ :: _, _, _, _ => by simp [lexL, T3]
  | _, [], _ :: _, [], _, _, _ => by simp [lexL, T3]
  | _, [], y :: ys, z :: zs, _, _, _ => by simp only [lexL, T3]; omega
  | _, _ :: _, [], [], _, _, _ => by simp [lexL, T3]
  | _, _ :: _, [], _ :: _, _, _, _ => by simp only [lexL, T3]; omega
  | _, _ :: _, _ :: _, [], _, _, _ => by simp only [lexL, T3]; omega
  | obj, x :: xs, y :: ys, z :: zs, ks, ls, ms => by
    simp only [lexL]
    refine or2_T3 ?_ (or2_T3 (ordN_T3 x y z) (lexL_T3 obj xs ys zs ks.tail ls.tail ms.tail))
    split
    · exact tcmp_T3 _ _ _
    · simp [T3]
end
theorem ordN_self (a : V) : ordN a a = 0 := by have := ordN_anti a a; omega
theorem shape_two {k i : Int} {t : ByteArray} {xs : List V} {ks : List ByteArray} (h : shape (.mk k i t xs ks) = true) : (k ≠ 4 ∧ k ≠ 5 ∧ xs = [] ∧ ks = []) ∨ ((k = 4 ∨ k = 5) ∧ i = 0 ∧ t = ⟨#[]⟩) := by
  have pl : ∀ {n t' i' k' : Bool}, plainS (.mk k i t xs ks) n t' i' k' = true → (n = true ∨ i = 0) ∧ (t' = true ∨ t = ⟨#[]⟩) ∧ (i' = true ∨ xs = []) ∧ (k' = true ∨ ks = []) := by
    intro n t' i' k' hp
    simp only [plainS, V.int, V.text, V.items, V.keys, Bool.and_eq_true, Bool.or_eq_true, beq_iff_eq] at hp
    obtain ⟨⟨⟨h1, h2⟩, h3⟩, h4⟩ := hp
    refine ⟨h1, h2.imp id (fun e => ba_ext2 e), h3.imp id (fun e => List.eq_nil_of_length_eq_zero (by omega)), h4.imp id (fun e => List.eq_nil_of_length_eq_zero (by omega))⟩
  by_cases h0 : k = 0
  · subst h0; rw [shape_0] at h
    have := pl h; left; simp at this; exact ⟨by omega, by omega, this.2.2.1, this.2.2.2⟩
  by_cases h1 : k = 1
  · subst h1; rw [shape_1, Bool.and_eq_true] at h
    have := pl h.1; left; simp at this; exact ⟨by omega, by omega, this.2.1, this.2.2⟩
  by_cases h2 : k = 2
  · subst h2; rw [shape_2, Bool.and_eq_true] at h
    have := pl h.1; left; simp at this; exact ⟨by omega, by omega, this.2.1, this.2.2⟩
  by_cases h3 : k = 3
  · subst h3; rw [shape_3, Bool.and_eq_true] at h
    have := pl h.1; left; simp at this; exact ⟨by omega, by omega, this.2.1, this.2.2⟩
  by_cases h4 : k = 4
  · subst h4; rw [shape_4] at h
    have := pl h; right; simp at this; exact ⟨.inl rfl, this.1, this.2.1⟩
  by_cases h5 : k = 5
  · subst h5; rw [shape_5, Bool.and_eq_true, Bool.and_eq_true] at h
    have := pl h.1.1; right; simp at this; exact ⟨.inr rfl, this.1, this.2⟩
  rw [shape_x _ _ _ _ h0 h1 h2 h3 h4 h5] at h; cases h
theorem or2_zl (q : Int) : or2 0 q = q := rfl
theorem or2_zr (p : Int) : or2 p 0 = p := by unfold or2; split <;> simp_all
theorem icmp_self (a : Int) : icmp a a = 0 := icmp_zero.2 rfl
theorem tcmp_self (a : ByteArray) : tcmp a a = 0 := tcmp_zero.2 rfl
theorem icmp_succ (a b : Nat) : icmp ((a + 1 : Nat) : Int) ((b + 1 : Nat) : Int) = icmp (a : Int) (b : Int) := by
  unfold icmp
  by_cases h1 : (a : Int) < b
  · rw [if_pos h1, if_pos (by omega)]
  · rw [if_neg h1, if_neg (by omega)]
    by_cases h2 : (b : Int) < a
    · rw [if_pos h2, if_pos (by omega)]
    · rw [if_neg h2, if_neg (by omega)]
theorem ordL_lex (obj : Bool) : ∀ (xs ys : List V) (ks ls : List ByteArray), (∀ x ∈ xs, ∀ y ∈ ys, ord x y = ordN x y) → or2 (ordL obj xs ys ks ls) (icmp (xs.length : Int) (ys.length : Int)) = lexL obj xs ys ks ls
  | [], [], _, _, _ => by simp [ordL, lexL, or2, icmp]
  | [], y :: ys, _, _, _ => by simp only [ordL, lexL, or2_zl, icmp, List.length_nil, List.length_cons]; rw [if_pos (by omega)]
  | x :: xs, [], _, _, _ => by simp only [ordL, lexL, or2_zl, icmp, List.length_nil, List.length_cons]; rw [if_neg (by omega), if_pos (by omega)]
  | x :: xs, y :: ys, ks, ls, h => by
    have ih := ordL_lex obj xs ys ks.tail ls.tail (fun a ha b hb => h a (List.mem_cons_of_mem _ ha) b (List.mem_cons_of_mem _ hb))
    simp only [ordL, lexL, List.length_cons]
    rw [icmp_succ, h x List.mem_cons_self y List.mem_cons_self, ← ih]
    cases obj with
    | false =>
      simp only [Bool.false_and, Bool.false_eq_true, if_false, or2_zl]
      unfold or2
      by_cases e : ordN x y = 0
      · rw [if_pos e, if_pos e]
      · rw [if_neg e, if_neg e, if_neg e]
    | true =>
      simp only [Bool.true_and, if_true]
      by_cases e : (!((ks.headD default).toList == (ls.headD default).toList)) = true
      · rw [if_pos e]
        have := tcmp_ne e
        unfold or2
        rw [if_neg this, if_neg this]
      · rw [if_neg e]
        have e2 : tcmp (ks.headD default) (ls.headD default) = 0 := tcmp_zero.2 (ba_ext2 (by simpa using e))
        rw [e2, or2_zl]
        unfold or2
        by_cases e : ordN x y = 0
        · rw [if_pos e, if_pos e]
        · rw [if_neg e, if_neg e, if_neg e]
theorem ordW_eq : ∀ a b : V, Wok a → Wok b → ord a b = ordN a b := by
  intro a
  induction a using V.ind with
  | h k i t xs ks ih =>
    intro b ha hb
    obtain ⟨k', i', t', ys, ls⟩ := b
    simp only [ord, ordN]
    by_cases hk : k = k'
    · subst hk
      rw [if_pos rfl, icmp_self, or2_zl]
      simp only [orL_cons, show orL [] = 0 from rfl, or2_zr]
      have hL := ordL_lex (k == 5) xs ys ks ls (fun x hx y hy => ih x hx y (Wok.items ha x hx) (Wok.items hb y hy))
      rcases shape_two (Wok.shape ha).1 with ⟨h4, h5, rfl, rfl⟩ | ⟨h4, rfl, rfl⟩
      · rcases shape_two (Wok.shape hb).1 with ⟨_, _, rfl, rfl⟩ | ⟨h4', _⟩
        · simp [ordL, lexL, icmp_self, or2_zl, or2_zr]
        · rcases h4' with h | h <;> simp_all
      · rcases shape_two (Wok.shape hb).1 with ⟨h4', h5', _⟩ | ⟨_, rfl, rfl⟩
        · rcases h4 with h | h <;> simp_all
        · rw [icmp_self, tcmp_self, or2_zl, or2_zl, or2_zl, or2_zl, hL]
    · rw [if_neg hk]
      have : icmp k k' ≠ 0 := fun e => hk (icmp_zero.1 e)
      unfold or2
      rw [if_neg this]
theorem ord_eq (a b : V) (ha : Vok a) (hb : Vok b) : ord a b = ordN a b := ordW_eq a b ha.w hb.w
theorem lexL_zero (obj : Bool) : ∀ (xs ys : List V) (ks ls : List ByteArray), (∀ x ∈ xs, ∀ y ∈ ys, ordN x y = 0 → x = y) → lexL obj xs ys ks ls = 0 → (obj = true → ks.length = xs.length ∧ ls.length = ys.length) → xs = ys ∧ (obj = true → ks = ls)
  | [], [], ks, ls, _, _, hl => ⟨rfl, fun e => by
      obtain ⟨h1, h2⟩ := hl e
      rw [List.eq_nil_of_length_eq_zero h1, List.eq_nil_of_length_eq_zero h2]⟩
  | [], y :: ys, _, _, _, h, _ => by simp [lexL] at h
  | x :: xs, [], _, _, _, h, _ => by simp [lexL] at h
  | x :: xs, y :: ys, ks, ls, ih, h, hl => by
    simp only [lexL] at h
    rw [or2_zero, or2_zero] at h
    obtain ⟨h1, h2, h3⟩ := h
    have hxy := ih x List.mem_cons_self y List.mem_cons_self h2
    have hr := lexL_zero obj xs ys ks.tail ls.tail (fun a ha b hb => ih a (List.mem_cons_of_mem _ ha) b (List.mem_cons_of_mem _ hb)) h3 (fun e => by
      obtain ⟨q1, q2⟩ := hl e
      simp only [List.length_cons] at q1 q2
      simp only [List.length_tail]
      omega)
    refine ⟨by rw [hxy, hr.1], fun e => ?_⟩
    obtain ⟨q1, q2⟩ := hl e
    rw [if_pos e] at h1
    have hk := tcmp_zero.1 h1
    have ht := hr.2 e
    cases ks with
    | nil => simp at q1
    | cons a ks =>
      cases ls with
      | nil => simp at q2
      | cons b ls =>
        simp only [List.headD_cons, List.tail_cons] at hk ht
        rw [hk, ht]
theorem ordNW_zero : ∀ a b : V, Wok a → Wok b → ordN a b = 0 → a = b := by
  intro a
  induction a using V.ind with
  | h k i t xs ks ih =>
    intro b ha hb h
    obtain ⟨k', i', t', ys, ls⟩ := b
    simp only [ordN] at h
    rw [or2_zero, or2_zero, or2_zero] at h
    obtain ⟨h1, h2, h3, h4⟩ := h
    obtain rfl := icmp_zero.1 h1
    obtain rfl := icmp_zero.1 h2
    obtain rfl := tcmp_zero.1 h3
    have hka := shape_keys (Wok.shape ha).1
    have hkb := shape_keys (Wok.shape hb).1
    simp only [V.kind, V.keys, V.items] at hka hkb
    have hz := lexL_zero _ xs ys ks ls (fun x hx y hy => ih x hx y (Wok.items ha x hx) (Wok.items hb y hy)) h4 (fun e => ⟨hka.1 (by simpa using e), hkb.1 (by simpa using e)⟩)
    obtain ⟨rfl, hks⟩ := hz
    by_cases h5 : k = 5
    · rw [hks (by simpa using h5)]
    · rw [List.eq_nil_of_length_eq_zero (hka.2 h5), List.eq_nil_of_length_eq_zero (hkb.2 h5)]
end Go.Proofs.YtjdocenbfghglaaGreatDoor.AW
end
section
set_option linter.unusedSimpArgs false
set_option linter.unusedVariables false
namespace Go.Proofs.YtjdocenbfghglaaGreatDoor.AW
open Go Go.RowKit

def signS (less same : Bool) : Int := if same = true then 0 else if less = true then -1 else 1
theorem sign_pure (less same : Bool) : Pure Tryz.prog 180 [.bool less, .bool same] (.int .i64 (signS less same)) := by
  refine Pure.of ⟨Tryz.f180, Tryz.func180, rfl, by kernel_rfl⟩ rfl (fun h => ?_)
  refine acalls_of te_ok [] Tryz.func180 (c := _) rfl (Nat.le_of_ble_eq_true rfl) ?_
  simp only [aws, eq_self, reduceIte, Nat.reduceLT, Int.reduceNeg, Tryz.ntmps180, Tryz.results180]
  cases same with
  | true =>
    simp only [aws, eq_self, reduceIte, Nat.reduceLT, Int.reduceNeg, ares1]
    exact ⟨.refl _, _, rfl, rfl⟩
  | false =>
    simp only [aws, eq_self, reduceIte, Nat.reduceLT, Int.reduceNeg]
    cases less with
    | true =>
      simp only [aws, eq_self, reduceIte, Nat.reduceLT, Int.reduceNeg, ares1]
      exact ⟨.refl _, _, rfl, rfl⟩
    | false =>
      simp only [aws, eq_self, reduceIte, Nat.reduceLT, Int.reduceNeg, ares1]
      exact ⟨.refl _, _, rfl, rfl⟩
theorem sign_icmp (a b : Int) : signS (decide (a < b)) (a == b) = icmp a b := by
  unfold signS icmp
  by_cases h1 : a = b
  · subst h1; simp
  · have : (a == b) = false := by simpa using h1
    rw [this, if_neg (by decide)]
    by_cases h2 : a < b
    · simp [h2]
    · have h3 : b < a := by omega
      simp [h2, h3]
theorem sign_tcmp (a b : ByteArray) : signS (Op.bytesLess a.toList b.toList) (a.toList == b.toList) = tcmp a b := by
  unfold signS tcmp sless
  by_cases h1 : a.toList = b.toList
  · simp [h1, bl_irrefl]
  · have : (a.toList == b.toList) = false := by simpa using h1
    rw [this, if_neg (by decide)]
    by_cases h2 : Op.bytesLess a.toList b.toList = true
    · simp [h2]
    · by_cases h3 : Op.bytesLess b.toList a.toList = true
      · simp [h2, h3]
      · exact absurd (bl_total (by simpa using h2) (by simpa using h3)) h1
theorem sign_less {a b : Int} (h : a ≠ b) : signS (decide (a < b)) false = icmp a b := by
  rw [← sign_icmp a b, show (a == b) = false by simpa using h]
theorem sign_sless {a b : ByteArray} (h : (!(a.toList == b.toList)) = true) : signS (Op.bytesLess a.toList b.toList) false = tcmp a b := by
  rw [← sign_tcmp a b, show (a.toList == b.toList) = false by simpa using h]
theorem shape_leaf {k i : Int} {t : ByteArray} {xs : List V} {ks : List ByteArray} (h : shape (.mk k i t xs ks) = true) : (k = 1 ∨ k = 2 → t = ⟨#[]⟩ ∧ xs = [] ∧ ks = []) ∧ (k = 3 → i = 0 ∧ xs = [] ∧ ks = []) ∧ (k ≠ 1 → k ≠ 2 → k ≠ 3 → i = 0 ∧ t = ⟨#[]⟩) := by
  have pl : ∀ {n t' i' k' : Bool}, plainS (.mk k i t xs ks) n t' i' k' = true → (n = true ∨ i = 0) ∧ (t' = true ∨ t = ⟨#[]⟩) ∧ (i' = true ∨ xs = []) ∧ (k' = true ∨ ks = []) := by
    intro n t' i' k' hp
    simp only [plainS, V.int, V.text, V.items, V.keys, Bool.and_eq_true, Bool.or_eq_true, beq_iff_eq] at hp
    obtain ⟨⟨⟨h1, h2⟩, h3⟩, h4⟩ := hp
    refine ⟨h1, h2.imp id (fun e => ba_ext2 e), h3.imp id (fun e => List.eq_nil_of_length_eq_zero (by omega)), h4.imp id (fun e => List.eq_nil_of_length_eq_zero (by omega))⟩
  by_cases h0 : k = 0
  · subst h0; rw [shape_0] at h
    have := pl h; simp at this
    exact ⟨fun e => by omega, fun e => by omega, fun _ _ _ => ⟨this.1, this.2.1⟩⟩
  by_cases h1 : k = 1
  · subst h1; rw [shape_1, Bool.and_eq_true] at h
    have := pl h.1; simp at this
    exact ⟨fun _ => this, fun e => by omega, fun e => absurd rfl e⟩
  by_cases h2 : k = 2
  · subst h2; rw [shape_2, Bool.and_eq_true] at h
    have := pl h.1; simp at this
    exact ⟨fun _ => this, fun e => by omega, fun _ e => absurd rfl e⟩
  by_cases h3 : k = 3
  · subst h3; rw [shape_3, Bool.and_eq_true] at h
    have := pl h.1; simp at this
    exact ⟨fun e => by omega, fun _ => this, fun _ _ e => absurd rfl e⟩
  by_cases h4 : k = 4
  · subst h4; rw [shape_4] at h
    have := pl h; simp at this
    exact ⟨fun e => by omega, fun e => by omega, fun _ _ _ => ⟨this.1, this.2.1⟩⟩
  by_cases h5 : k = 5
  · subst h5; rw [shape_5, Bool.and_eq_true, Bool.and_eq_true] at h
    have := pl h.1.1; simp at this
    exact ⟨fun e => by omega, fun e => by omega, fun _ _ _ => ⟨this.1, this.2⟩⟩
  rw [shape_x _ _ _ _ h0 h1 h2 h3 h4 h5] at h; cases h
theorem ord_mk (k i i' : Int) (t t' : ByteArray) (xs ys : List V) (ks ls : List ByteArray) : ord (.mk k i t xs ks) (.mk k i' t' ys ls) = or2 (ordL (k == 5) xs ys ks ls) (or2 (icmp i i') (or2 (tcmp t t') (icmp (xs.length : Int) (ys.length : Int)))) := by
  simp only [ord, if_true]
  simp only [orL_cons, show orL [] = 0 from rfl, or2_zr]
set_option maxHeartbeats 4000000 in
theorem reforder_pure : ∀ (a b : V), Vok a → Vok b → Pure Tryz.prog 138 [inj a, inj b] (.int .i64 (ord a b)) := by
  intro a
  induction a using V.ind with
  | h k i t xs ks ih =>
    intro b hva hvb
    obtain ⟨k', i', t', ys, ls⟩ := b
    have hxl := (Vok.shape hva).2
    have hyl := (Vok.shape hvb).2
    have hka := (Vok.keys hva).1
    have hkb := (Vok.keys hvb).1
    have hxi := Vok.items hva
    have hyi := Vok.items hvb
    have hla := shape_leaf (Vok.shape hva).1
    have hlb := shape_leaf (Vok.shape hvb).1
    simp only [V.kind, V.keys, V.items] at hxl hyl hka hkb hxi hyi
    rw [inj_mk, inj_mk]
    refine Pure.of ⟨Tryz.f138, Tryz.func138, rfl, by kernel_rfl⟩ rfl (fun h => ?_)
    refine acalls_of te_ok [22, 23, 24, 57, 58, 59, 60, 61] Tryz.func138 (c := _) rfl (Nat.le_of_ble_eq_true rfl) ?_
    simp only [aws, eq_self, reduceIte, Nat.reduceLT, Nat.reduceEqDiff, acmpnil, teset, Tryz.ntmps138, Tryz.results138]
    cases hk : (k != k') with
    | true =>
      have hkn : ¬ k = k' := by simpa using hk
      simp only [aws, eq_self, reduceIte, Nat.reduceLT, Nat.reduceEqDiff, acmpnil, teset]
      refine ACallV.pure (sign_pure _ _) ?_
      simp only [aws, eq_self, reduceIte, Nat.reduceLT, Nat.reduceEqDiff, ares1]
      refine ⟨by (repeat (first | exact AH.Ext.refl _ | assumption | refine AH.Ext.set ?_ (by first | omega | (simp only [new_nb, set_nb, kill_nb, newTok_nb, setTok_nb]; omega)) _ | refine AH.Ext.new ?_ _)), _, rfl, ?_⟩
      rw [sign_less hkn]
      simp only [ord, if_neg hkn]; rfl
    | false =>
      have hkk : k = k' := by simpa using hk
      subst hkk
      simp only [aws, eq_self, implies_true, imp_self, reduceIte, Nat.reduceLT, Nat.reduceEqDiff, Nat.reduceBEq, acmpnil, teset]
      have q12 : ∀ b : Bool, ((k == 1) || (k == 2)) = b → True := fun _ _ => trivial
      cases h12 : ((k == 1) || (k == 2)) with
      | true =>
        simp only [aws, eq_self, reduceIte, Nat.reduceLT, Nat.reduceEqDiff, acmpnil, teset]
        refine ACallV.pure (sign_pure _ _) ?_
        simp only [aws, eq_self, reduceIte, Nat.reduceLT, Nat.reduceEqDiff, ares1]
        have hk12 : k = 1 ∨ k = 2 := by simpa using h12
        obtain ⟨rfl, rfl, rfl⟩ := hla.1 hk12
        obtain ⟨rfl, rfl, rfl⟩ := hlb.1 hk12
        refine ⟨by (repeat (first | exact AH.Ext.refl _ | assumption | refine AH.Ext.set ?_ (by first | omega | (simp only [new_nb, set_nb, kill_nb, newTok_nb, setTok_nb]; omega)) _ | refine AH.Ext.new ?_ _)), _, rfl, ?_⟩
        rw [sign_icmp, ord_mk]
        have e1 : ordL (k == 5) [] [] ([] : List ByteArray) [] = 0 := by simp [ordL]
        rw [e1, or2_zl, tcmp_self, or2_zl, icmp_self, or2_zr]; rfl
      | false =>
        simp only [Bool.or_eq_false_iff, beq_eq_false_iff_ne] at h12
        simp only [aws, eq_self, reduceIte, Nat.reduceLT, Nat.reduceEqDiff, acmpnil, teset]
        cases h3 : (k == 3) with
        | true =>
          simp only [aws, eq_self, reduceIte, Nat.reduceLT, Nat.reduceEqDiff, acmpnil, teset]
          refine ACallV.pure (sign_pure _ _) ?_
          simp only [aws, eq_self, reduceIte, Nat.reduceLT, Nat.reduceEqDiff, ares1]
          have hk3 : k = 3 := by simpa using h3
          obtain ⟨rfl, rfl, rfl⟩ := hla.2.1 hk3
          obtain ⟨rfl, rfl, rfl⟩ := hlb.2.1 hk3
          refine ⟨by (repeat (first | exact AH.Ext.refl _ | assumption | refine AH.Ext.set ?_ (by first | omega | (simp only [new_nb, set_nb, kill_nb, newTok_nb, setTok_nb]; omega)) _ | refine AH.Ext.new ?_ _)), _, rfl, ?_⟩
          rw [sign_tcmp, ord_mk]
          have e1 : ordL (k == 5) [] [] ([] : List ByteArray) [] = 0 := by simp [ordL]
          rw [e1, or2_zl, icmp_self, or2_zl, icmp_self, or2_zr]; rfl
        | false =>
          have hk3 : k ≠ 3 := by simpa using h3
          obtain ⟨rfl, rfl⟩ := hla.2.2 h12.1 h12.2 hk3
          obtain ⟨rfl, rfl⟩ := hlb.2.2 h12.1 h12.2 hk3
          simp only [aws, eq_self, Nat.reduceLT]
          refine ⟨fun n s' h' => ∃ (j : Nat), s' 2 = .ptr h.nb 0 ∧ s' 3 = .ptr (h.nb + 1) 0 ∧ s' 5 = .int .i64 j ∧ h' = (h.new [.int .i64 k, .int .i64 0, .str ⟨#[]⟩, .sl .ro 5 (List.map inj xs), .sl .ro 1 (List.map AV.str ks)]).new [.int .i64 k, .int .i64 0, .str ⟨#[]⟩, .sl .ro 5 (List.map inj ys), .sl .ro 1 (List.map AV.str ls)] ∧ n + j = min xs.length ys.length ∧ ordL (k == 5) (xs.drop j) (ys.drop j) (ks.drop j) (ls.drop j) = ordL (k == 5) xs ys ks ls, ⟨min xs.length ys.length, 0, ?_⟩, ?_⟩
          · simp only [aws, eq_self, reduceIte, Nat.reduceEqDiff, Int.natCast_zero]
            first | done | exact ⟨rfl, rfl⟩ | rfl
          · rintro n s' h' ⟨j, e2, e3, e5, hh, hn, ho⟩
            subst hh
            simp only [aws, eq_self, implies_true, imp_self, reduceIte, Nat.reduceLT, Nat.reduceEqDiff, Nat.reduceBEq, acmpnil, teset, e2, e3, e5, List.length_map]
            cases hc : (decide ((j : Int) < (xs.length : Int)) && decide ((j : Int) < (ys.length : Int))) with
            | false =>
              have hc2 : min xs.length ys.length ≤ j := by
                rcases Bool.and_eq_false_iff.1 hc with hc | hc
                · simp only [decide_eq_false_iff_not] at hc; omega
                · simp only [decide_eq_false_iff_not] at hc; omega
              simp only [aws, eq_self, reduceIte, Nat.reduceLT, Nat.reduceEqDiff, acmpnil, teset, e2, e3, List.length_map]
              refine ACallV.pure (sign_pure _ _) ?_
              simp only [aws, eq_self, reduceIte, Nat.reduceLT, Nat.reduceEqDiff, ares1]
              refine ⟨by (repeat (first | exact AH.Ext.refl _ | assumption | refine AH.Ext.set ?_ (by first | omega | (simp only [new_nb, set_nb, kill_nb, newTok_nb, setTok_nb]; omega)) _ | refine AH.Ext.new ?_ _)), _, rfl, ?_⟩
              rw [sign_icmp, ord_mk, ← ho, ordL_end hc2, or2_zl, icmp_self, tcmp_self, or2_zl, or2_zl]; rfl
            | true =>
              have hj1 : j < xs.length := by
                have := (Bool.and_eq_true_iff.1 hc).1
                simp only [decide_eq_true_eq] at this; omega
              have hj2 : j < ys.length := by
                have := (Bool.and_eq_true_iff.1 hc).2
                simp only [decide_eq_true_eq] at this; omega
              have hget1 : (xs.map inj)[((j : Nat) : Int).toNat]? = some (inj xs[j]) := by simp [hj1]
              have hget2 : (ys.map inj)[((j : Nat) : Int).toNat]? = some (inj ys[j]) := by simp [hj2]
              rw [ordL_step hj1 hj2] at ho
              have hnz : ∀ d : Int, d ≠ 0 → ordL (k == 5) xs ys ks ls = d → AOut.ret (.int .i64 d) = AOut.ret (.int .i64 (ord (.mk k 0 ⟨#[]⟩ xs ks) (.mk k 0 ⟨#[]⟩ ys ls))) := by
                intro d hd he
                rw [ord_mk, he]
                unfold or2; rw [if_neg hd]
              simp only [aws]
              refine acode_draw_chain te_ok mixed [] (by kernel_rfl) ?_
              simp only [aws, eq_self, reduceIte, Nat.reduceAdd, Nat.reduceLT, Nat.reduceEqDiff, acmpnil, teset, e2]
              cases h5 : (k == 5) with
              | true =>
                have hk5 : k = 5 := by simpa using h5
                have hkl := hka hk5
                have hll := hkb hk5
                have g1 : (ks.map AV.str)[((j : Nat) : Int).toNat]? = some (.str (ks.getD j default)) := by
                  rw [Int.toNat_natCast, List.getElem?_map, List.getD_eq_getElem?_getD, List.getElem?_eq_getElem (by omega)]; rfl
                have g2 : (ls.map AV.str)[((j : Nat) : Int).toNat]? = some (.str (ls.getD j default)) := by
                  rw [Int.toNat_natCast, List.getElem?_map, List.getD_eq_getElem?_getD, List.getElem?_eq_getElem (by omega)]; rfl
                rw [h5] at ho
                rw [Bool.true_and] at ho
                simp only [aws, eq_self, reduceIte, Nat.reduceEqDiff, acmpnil, teset, e2, e3, e5, g1, g2, Int.natCast_nonneg]
                cases hq : (!((ks.getD j default).toList == (ls.getD j default).toList)) with
                | true =>
                  simp only [aws]
                  refine acode_draw_chain te_ok mixed [] (by kernel_rfl) ?_
                  simp only [aws, eq_self, reduceIte, Nat.reduceAdd, Nat.reduceLT, Nat.reduceEqDiff, acmpnil, ares1, teset, e2, e3, e5, g1, g2, Int.natCast_nonneg]
                  refine skR_pure (sign_pure _ _) ?_
                  rw [hq, if_pos rfl] at ho
                  refine ⟨by (repeat (first | exact AH.Ext.refl _ | assumption | refine AH.Ext.set ?_ (by first | omega | (simp only [new_nb, set_nb, kill_nb, newTok_nb, setTok_nb]; omega)) _ | refine AH.Ext.new ?_ _)), _, rfl, ?_⟩
                  rw [h5] at hnz
                  rw [sign_sless hq]
                  exact congrArg (fun o : AOut => match o with | .ret v => v | _ => .dead) (hnz _ (tcmp_ne hq) ho.symm)
                | false =>
                  rw [hq, if_neg (by decide)] at ho
                  simp only [aws]
                  refine acode_draw_chain te_ok mixed [] (by kernel_rfl) ?_
                  simp only [aws, eq_self, implies_true, imp_self, reduceIte, reduceCtorEq, Nat.reduceAdd, Nat.reduceLT, Nat.reduceLeDiff, Nat.reduceEqDiff, acmpnil, teset, e2, e3, e5, inj_take, inj_agg, inj_len, hget1, hget2, Int.natCast_nonneg]
                  refine skR_pure (ih _ (List.getElem_mem _) _ (hxi _ (List.getElem_mem _)) (hyi _ (List.getElem_mem _))) ?_
                  simp only [aws, eq_self, reduceIte, Nat.reduceEqDiff]
                  cases hz : (ord xs[j] ys[j] != 0) with
                  | true =>
                    simp only [aws, eq_self, reduceIte, Nat.reduceLT, Nat.reduceEqDiff, ares1]
                    have hz2 : ord xs[j] ys[j] ≠ 0 := by simpa using hz
                    rw [if_neg hz2] at ho
                    refine ⟨by (repeat (first | exact AH.Ext.refl _ | assumption | refine AH.Ext.set ?_ (by first | omega | (simp only [new_nb, set_nb, kill_nb, newTok_nb, setTok_nb]; omega)) _ | refine AH.Ext.new ?_ _)), _, rfl, ?_⟩
                    rw [h5] at hnz
                    exact congrArg (fun o : AOut => match o with | .ret v => v | _ => .dead) (hnz _ hz2 ho.symm)
                  | false =>
                    simp only [aws, eq_self, reduceIte, Nat.reduceLT, Nat.reduceEqDiff, acmpnil, e2, e3, e5]
                    have hz2 : ord xs[j] ys[j] = 0 := by simpa using hz
                    rw [if_pos hz2] at ho
                    refine ⟨n - 1, by omega, j + 1, by rw [wrap_succ (by omega)], by omega, ?_⟩
                    exact ho
              | false =>
                rw [h5] at ho
                rw [Bool.false_and, if_neg (by decide)] at ho
                simp only [aws]
                refine acode_draw_chain te_ok mixed [] (by kernel_rfl) ?_
                simp only [aws, eq_self, implies_true, imp_self, reduceIte, reduceCtorEq, Nat.reduceAdd, Nat.reduceLT, Nat.reduceLeDiff, Nat.reduceEqDiff, acmpnil, teset, e2, e3, e5, inj_take, inj_agg, inj_len, hget1, hget2, Int.natCast_nonneg]
                refine skR_pure (ih _ (List.getElem_mem _) _ (hxi _ (List.getElem_mem _)) (hyi _ (List.getElem_mem _))) ?_
                simp only [aws, eq_self, reduceIte, Nat.reduceEqDiff]
                cases hz : (ord xs[j] ys[j] != 0) with
                | true =>
                  simp only [aws, eq_self, reduceIte, Nat.reduceLT, Nat.reduceEqDiff, ares1]
                  have hz2 : ord xs[j] ys[j] ≠ 0 := by simpa using hz
                  rw [if_neg hz2] at ho
                  refine ⟨by (repeat (first | exact AH.Ext.refl _ | assumption | refine AH.Ext.set ?_ (by first | omega | (simp only [new_nb, set_nb, kill_nb, newTok_nb, setTok_nb]; omega)) _ | refine AH.Ext.new ?_ _)), _, rfl, ?_⟩
                  rw [h5] at hnz
                  exact congrArg (fun o : AOut => match o with | .ret v => v | _ => .dead) (hnz _ hz2 ho.symm)
                | false =>
                  simp only [aws, eq_self, reduceIte, Nat.reduceLT, Nat.reduceEqDiff, acmpnil, e2, e3, e5]
                  have hz2 : ord xs[j] ys[j] = 0 := by simpa using hz
                  rw [if_pos hz2] at ho
                  refine ⟨n - 1, by omega, j + 1, by rw [wrap_succ (by omega)], by omega, ?_⟩
                  exact ho
theorem refequal_pure (a b : V) (ha : Vok a) (hb : Vok b) : Pure Tryz.prog 106 [inj a, inj b] (.bool (ord a b == 0)) := by
  have hp := reforder_pure a b ha hb
  obtain ⟨k, i, t, xs, ks⟩ := a
  obtain ⟨k', i', t', xs', ks'⟩ := b
  rw [inj_mk, inj_mk] at *
  refine Pure.of ⟨Tryz.f106, Tryz.func106, rfl, by kernel_rfl⟩ rfl (fun h => ?_)
  refine acalls_of te_ok [] Tryz.func106 (c := _) rfl (Nat.le_of_ble_eq_true rfl) ?_
  simp only [aws, eq_self, reduceIte, Nat.reduceAdd, Nat.reduceLT, Nat.reduceLeDiff, teset, Tryz.ntmps106, Tryz.results106]
  refine ACallV.pure hp ?_
  simp only [aws, eq_self, reduceIte, Nat.reduceLT, acmpnil, ares1]
  exact ⟨by (repeat (first | exact AH.Ext.refl _ | assumption | refine AH.Ext.set ?_ (by first | omega | (simp only [new_nb, set_nb, kill_nb, newTok_nb, setTok_nb]; omega)) _ | refine AH.Ext.new ?_ _)), _, rfl, rfl⟩
end Go.Proofs.YtjdocenbfghglaaGreatDoor.AW
end
