/- L, part 61: what ChunkNumbers and ChunkDamaged compute, once the chapter's examples hold. -/
import Derived.Test.YtlbhgoffiigfbaaV63
set_option linter.unusedSimpArgs false
set_option linter.unusedVariables false
namespace Go.Proofs.Ytlbhgoffiigfbaa.AW
open Go Go.RowKit

theorem numbers_law (haw : Pure Try.prog 9 [] (.bool true)) (n : Int) (s : ByteArray) (hn : n ≤ 9223372036854775807) (hs : s.size ≤ 140737488351232) : Pure Try.prog 3 [.int .i64 n, .str s] (.bool true) := by
  refine Pure.of0 ⟨Try.f3, Try.func3, rfl, by kernel_rfl⟩ rfl rfl ?_
  refine acalls_of te_ok [] Try.func3 (c := _) rfl (Nat.le_of_ble_eq_true rfl) ?_
  simp only [aw0, aw1, aw2, aw3, aw4, aw5, aw6, aw7, ne_eq, eq_self, implies_true, imp_self, reduceIte, reduceCtorEq, Nat.reduceAdd, Nat.reduceLT, Nat.reduceLeDiff, Nat.reduceEqDiff, Nat.reduceSub, Nat.reduceMul, Nat.reduceBEq, Int.reduceBEq, Int.reduceBNe, Int.reduceLT, Int.reduceLE, Int.reduceGT, Int.reduceGE, Int.reduceNeg, Int.reduceEq, Int.reduceNe, Int.reduceToNat, Int.reduceAdd, aconv, acvB, capR, acmpnil, appBox, storeB, ares1, appendTo, afill, aeqL, teset, Try.ntmps3, Try.results3, none_nb, none_box]
  cases hc : decide ((s.size : Int) > 100000) with
  | true =>
    simp only [aw0, aw1, aw2, aw3, aw4, aw5, aw6, aw7, ne_eq, eq_self, implies_true, imp_self, reduceIte, reduceCtorEq, Nat.reduceAdd, Nat.reduceLT, Nat.reduceLeDiff, Nat.reduceEqDiff, Nat.reduceSub, Nat.reduceMul, Nat.reduceBEq, Int.reduceBEq, Int.reduceBNe, Int.reduceLT, Int.reduceLE, Int.reduceGT, Int.reduceGE, Int.reduceNeg, Int.reduceEq, Int.reduceNe, Int.reduceToNat, Int.reduceAdd, aconv, acvB, capR, acmpnil, appBox, storeB, ares1, appendTo, afill, aeqL, teset]
    refine ACallV.pure haw ?_
    simp only [aw0, aw1, aw2, aw3, aw4, aw5, aw6, aw7, ne_eq, eq_self, implies_true, imp_self, reduceIte, reduceCtorEq, Nat.reduceAdd, Nat.reduceLT, Nat.reduceLeDiff, Nat.reduceEqDiff, Nat.reduceSub, Nat.reduceMul, Nat.reduceBEq, Int.reduceBEq, Int.reduceBNe, Int.reduceLT, Int.reduceLE, Int.reduceGT, Int.reduceGE, Int.reduceNeg, Int.reduceEq, Int.reduceNe, Int.reduceToNat, Int.reduceAdd, aconv, acvB, capR, acmpnil, appBox, storeB, ares1, appendTo, afill, aeqL, teset]
    exact ⟨_, rfl, .refl _ _⟩
  | false =>
    simp only [aw0, aw1, aw2, aw3, aw4, aw5, aw6, aw7, ne_eq, eq_self, implies_true, imp_self, reduceIte, reduceCtorEq, Nat.reduceAdd, Nat.reduceLT, Nat.reduceLeDiff, Nat.reduceEqDiff, Nat.reduceSub, Nat.reduceMul, Nat.reduceBEq, Int.reduceBEq, Int.reduceBNe, Int.reduceLT, Int.reduceLE, Int.reduceGT, Int.reduceGE, Int.reduceNeg, Int.reduceEq, Int.reduceNe, Int.reduceToNat, Int.reduceAdd, aconv, acvB, capR, acmpnil, appBox, storeB, ares1, appendTo, afill, aeqL, teset]
    have h1 := number_pure n hn
    have h2 := refnumber_pure n hn
    have h3 := sum_pure s (by omega)
    have h4 := refsum_pure s (by omega)
    obtain ⟨a, e, hx⟩ : ∃ a e, numberV n = .tup [.str a, .int .i64 e] := by unfold numberV; split <;> exact ⟨_, _, rfl⟩
    rw [hx] at h1 h2
    refine ACallV.pure h1 ?_
    simp only [aw0, aw1, aw2, aw3, aw4, aw5, aw6, aw7, ne_eq, eq_self, implies_true, imp_self, reduceIte, reduceCtorEq, Nat.reduceAdd, Nat.reduceLT, Nat.reduceLeDiff, Nat.reduceEqDiff, Nat.reduceSub, Nat.reduceMul, Nat.reduceBEq, Int.reduceBEq, Int.reduceBNe, Int.reduceLT, Int.reduceLE, Int.reduceGT, Int.reduceGE, Int.reduceNeg, Int.reduceEq, Int.reduceNe, Int.reduceToNat, Int.reduceAdd, aconv, acvB, capR, acmpnil, appBox, storeB, ares1, appendTo, afill, aeqL, teset]
    refine ACallV.pure h2 ?_
    simp only [aw0, aw1, aw2, aw3, aw4, aw5, aw6, aw7, ne_eq, eq_self, implies_true, imp_self, reduceIte, reduceCtorEq, Nat.reduceAdd, Nat.reduceLT, Nat.reduceLeDiff, Nat.reduceEqDiff, Nat.reduceSub, Nat.reduceMul, Nat.reduceBEq, Int.reduceBEq, Int.reduceBNe, Int.reduceLT, Int.reduceLE, Int.reduceGT, Int.reduceGE, Int.reduceNeg, Int.reduceEq, Int.reduceNe, Int.reduceToNat, Int.reduceAdd, aconv, acvB, capR, acmpnil, appBox, storeB, ares1, appendTo, afill, aeqL, teset, beq_self_eq_true]
    refine ACallV.pure h3 ?_
    simp only [aw0, aw1, aw2, aw3, aw4, aw5, aw6, aw7, ne_eq, eq_self, implies_true, imp_self, reduceIte, reduceCtorEq, Nat.reduceAdd, Nat.reduceLT, Nat.reduceLeDiff, Nat.reduceEqDiff, Nat.reduceSub, Nat.reduceMul, Nat.reduceBEq, Int.reduceBEq, Int.reduceBNe, Int.reduceLT, Int.reduceLE, Int.reduceGT, Int.reduceGE, Int.reduceNeg, Int.reduceEq, Int.reduceNe, Int.reduceToNat, Int.reduceAdd, aconv, acvB, capR, acmpnil, appBox, storeB, ares1, appendTo, afill, aeqL, teset]
    refine ACallV.pure h4 ?_
    simp only [aw0, aw1, aw2, aw3, aw4, aw5, aw6, aw7, ne_eq, eq_self, implies_true, imp_self, reduceIte, reduceCtorEq, Nat.reduceAdd, Nat.reduceLT, Nat.reduceLeDiff, Nat.reduceEqDiff, Nat.reduceSub, Nat.reduceMul, Nat.reduceBEq, Int.reduceBEq, Int.reduceBNe, Int.reduceLT, Int.reduceLE, Int.reduceGT, Int.reduceGE, Int.reduceNeg, Int.reduceEq, Int.reduceNe, Int.reduceToNat, Int.reduceAdd, aconv, acvB, capR, acmpnil, appBox, storeB, ares1, appendTo, afill, aeqL, teset, beq_self_eq_true]
    refine ACallV.pure haw ?_
    simp only [aw0, aw1, aw2, aw3, aw4, aw5, aw6, aw7, ne_eq, eq_self, implies_true, imp_self, reduceIte, reduceCtorEq, Nat.reduceAdd, Nat.reduceLT, Nat.reduceLeDiff, Nat.reduceEqDiff, Nat.reduceSub, Nat.reduceMul, Nat.reduceBEq, Int.reduceBEq, Int.reduceBNe, Int.reduceLT, Int.reduceLE, Int.reduceGT, Int.reduceGE, Int.reduceNeg, Int.reduceEq, Int.reduceNe, Int.reduceToNat, Int.reduceAdd, aconv, acvB, capR, acmpnil, appBox, storeB, ares1, appendTo, afill, aeqL, teset]
    exact ⟨_, rfl, .refl _ _⟩
def bAV (b : UInt8) : AV := .int .u8 (b.toNat : Int)
theorem avB_bytes : ∀ l : List UInt8, avB (l.map bAV) = some l
  | [] => rfl
  | x :: l => by
    have hx := x.toNat_lt
    simp only [List.map_cons, bAV, avB, Int.toNat_natCast]
    rw [if_pos ⟨Int.natCast_nonneg _, by omega⟩]
    have ih := avB_bytes l
    simp only [show (fun b : UInt8 => AV.int IntKind.u8 (b.toNat : Int)) = bAV from rfl, ih]
    simp
theorem bAV_drop {l : List UInt8} {k : Nat} {x : UInt8} (h : l[k]? = some x) : List.drop (k * 1) (l.map bAV) = .int .u8 (x.toNat : Int) :: (l.drop (k + 1)).map bAV := by
  rw [Nat.mul_one, ← List.map_drop, dropS h]; rfl
theorem bAV_store {l : List UInt8} {k : Nat} {y : UInt8} (h : k < l.length) : List.take (k * 1) (l.map bAV) ++ [.int .u8 (y.toNat : Int)] ++ List.drop (k * 1 + 1) (l.map bAV) = (l.set k y).map bAV := by
  rw [Nat.mul_one, ← List.map_take, ← List.map_drop, List.set_eq_take_append_cons_drop, if_pos h]
  simp [bAV]
theorem u8add {x : UInt8} {b : Int} (hb : 0 ≤ b) (hb2 : b ≤ 255) : IntKind.u8.wrap ((x.toNat : Int) + b) = ((x + UInt8.ofNat b.toNat).toNat : Int) := by
  simp only [IntKind.wrap, IntKind.bits, IntKind.signed, Bool.false_and, Bool.false_eq_true, if_false]
  rw [UInt8.toNat_add, UInt8.toNat_ofNat']
  omega
theorem u8ne {x : UInt8} {b : Int} (hb : 0 ≤ b) (hb2 : b ≤ 255) (h0 : ¬ b = 0) : x ≠ x + UInt8.ofNat b.toNat := by
  intro e
  have h1 := congrArg UInt8.toNat e
  rw [UInt8.toNat_add, UInt8.toNat_ofNat'] at h1
  have hx := x.toNat_lt
  omega
theorem damaged_law (haw : Pure Try.prog 9 [] (.bool true)) (s : ByteArray) (at_ b : Int) (hs : s.size ≤ 140737488351232) (ha : 0 ≤ at_) (ha2 : at_ ≤ 65535) (hb : 0 ≤ b) (hb2 : b ≤ 255) : Pure Try.prog 8 [.str s, .int .u16 at_, .int .u8 b] (.bool true) := by
  refine Pure.of0 ⟨Try.f8, Try.func8, rfl, by kernel_rfl⟩ rfl rfl ?_
  refine acalls_of te_ok [] Try.func8 (c := _) rfl (Nat.le_of_ble_eq_true rfl) ?_
  simp only [aw0, aw1, aw2, aw3, aw4, aw5, aw6, aw7, ne_eq, eq_self, implies_true, imp_self, reduceIte, reduceCtorEq, Nat.reduceAdd, Nat.reduceLT, Nat.reduceLeDiff, Nat.reduceEqDiff, Nat.reduceSub, Nat.reduceMul, Nat.reduceBEq, Int.reduceBEq, Int.reduceBNe, Int.reduceLT, Int.reduceLE, Int.reduceGT, Int.reduceGE, Int.reduceNeg, Int.reduceEq, Int.reduceNe, Int.reduceToNat, Int.reduceAdd, aconv, acvB, capR, acmpnil, appBox, storeB, ares1, appendTo, afill, aeqL, teset, Try.ntmps8, Try.results8, none_nb, none_box]
  cases h0 : ((s.size : Int) == 0) with
  | true =>
    simp only [aw0, aw1, aw2, aw3, aw4, aw5, aw6, aw7, ne_eq, eq_self, implies_true, imp_self, reduceIte, reduceCtorEq, Nat.reduceAdd, Nat.reduceLT, Nat.reduceLeDiff, Nat.reduceEqDiff, Nat.reduceSub, Nat.reduceMul, Nat.reduceBEq, Int.reduceBEq, Int.reduceBNe, Int.reduceLT, Int.reduceLE, Int.reduceGT, Int.reduceGE, Int.reduceNeg, Int.reduceEq, Int.reduceNe, Int.reduceToNat, Int.reduceAdd, aconv, acvB, capR, acmpnil, appBox, storeB, ares1, appendTo, afill, aeqL, teset]
    refine ACallV.pure haw ?_
    simp only [aw0, aw1, aw2, aw3, aw4, aw5, aw6, aw7, ne_eq, eq_self, implies_true, imp_self, reduceIte, reduceCtorEq, Nat.reduceAdd, Nat.reduceLT, Nat.reduceLeDiff, Nat.reduceEqDiff, Nat.reduceSub, Nat.reduceMul, Nat.reduceBEq, Int.reduceBEq, Int.reduceBNe, Int.reduceLT, Int.reduceLE, Int.reduceGT, Int.reduceGE, Int.reduceNeg, Int.reduceEq, Int.reduceNe, Int.reduceToNat, Int.reduceAdd, aconv, acvB, capR, acmpnil, appBox, storeB, ares1, appendTo, afill, aeqL, teset]
    exact ⟨_, rfl, .refl _ _⟩
  | false =>
    simp only [aw0, aw1, aw2, aw3, aw4, aw5, aw6, aw7, ne_eq, eq_self, implies_true, imp_self, reduceIte, reduceCtorEq, Nat.reduceAdd, Nat.reduceLT, Nat.reduceLeDiff, Nat.reduceEqDiff, Nat.reduceSub, Nat.reduceMul, Nat.reduceBEq, Int.reduceBEq, Int.reduceBNe, Int.reduceLT, Int.reduceLE, Int.reduceGT, Int.reduceGE, Int.reduceNeg, Int.reduceEq, Int.reduceNe, Int.reduceToNat, Int.reduceAdd, aconv, acvB, capR, acmpnil, appBox, storeB, ares1, appendTo, afill, aeqL, teset]
    cases h1 : decide ((s.size : Int) > 10000) with
    | true =>
      simp only [aw0, aw1, aw2, aw3, aw4, aw5, aw6, aw7, ne_eq, eq_self, implies_true, imp_self, reduceIte, reduceCtorEq, Nat.reduceAdd, Nat.reduceLT, Nat.reduceLeDiff, Nat.reduceEqDiff, Nat.reduceSub, Nat.reduceMul, Nat.reduceBEq, Int.reduceBEq, Int.reduceBNe, Int.reduceLT, Int.reduceLE, Int.reduceGT, Int.reduceGE, Int.reduceNeg, Int.reduceEq, Int.reduceNe, Int.reduceToNat, Int.reduceAdd, aconv, acvB, capR, acmpnil, appBox, storeB, ares1, appendTo, afill, aeqL, teset]
      refine ACallV.pure haw ?_
      simp only [aw0, aw1, aw2, aw3, aw4, aw5, aw6, aw7, ne_eq, eq_self, implies_true, imp_self, reduceIte, reduceCtorEq, Nat.reduceAdd, Nat.reduceLT, Nat.reduceLeDiff, Nat.reduceEqDiff, Nat.reduceSub, Nat.reduceMul, Nat.reduceBEq, Int.reduceBEq, Int.reduceBNe, Int.reduceLT, Int.reduceLE, Int.reduceGT, Int.reduceGE, Int.reduceNeg, Int.reduceEq, Int.reduceNe, Int.reduceToNat, Int.reduceAdd, aconv, acvB, capR, acmpnil, appBox, storeB, ares1, appendTo, afill, aeqL, teset]
      exact ⟨_, rfl, .refl _ _⟩
    | false =>
      simp only [aw0, aw1, aw2, aw3, aw4, aw5, aw6, aw7, ne_eq, eq_self, implies_true, imp_self, reduceIte, reduceCtorEq, Nat.reduceAdd, Nat.reduceLT, Nat.reduceLeDiff, Nat.reduceEqDiff, Nat.reduceSub, Nat.reduceMul, Nat.reduceBEq, Int.reduceBEq, Int.reduceBNe, Int.reduceLT, Int.reduceLE, Int.reduceGT, Int.reduceGE, Int.reduceNeg, Int.reduceEq, Int.reduceNe, Int.reduceToNat, Int.reduceAdd, aconv, acvB, capR, acmpnil, appBox, storeB, ares1, appendTo, afill, aeqL, teset]
      cases h2 : (b == 0) with
      | true =>
        simp only [aw0, aw1, aw2, aw3, aw4, aw5, aw6, aw7, ne_eq, eq_self, implies_true, imp_self, reduceIte, reduceCtorEq, Nat.reduceAdd, Nat.reduceLT, Nat.reduceLeDiff, Nat.reduceEqDiff, Nat.reduceSub, Nat.reduceMul, Nat.reduceBEq, Int.reduceBEq, Int.reduceBNe, Int.reduceLT, Int.reduceLE, Int.reduceGT, Int.reduceGE, Int.reduceNeg, Int.reduceEq, Int.reduceNe, Int.reduceToNat, Int.reduceAdd, aconv, acvB, capR, acmpnil, appBox, storeB, ares1, appendTo, afill, aeqL, teset]
        refine ACallV.pure haw ?_
        simp only [aw0, aw1, aw2, aw3, aw4, aw5, aw6, aw7, ne_eq, eq_self, implies_true, imp_self, reduceIte, reduceCtorEq, Nat.reduceAdd, Nat.reduceLT, Nat.reduceLeDiff, Nat.reduceEqDiff, Nat.reduceSub, Nat.reduceMul, Nat.reduceBEq, Int.reduceBEq, Int.reduceBNe, Int.reduceLT, Int.reduceLE, Int.reduceGT, Int.reduceGE, Int.reduceNeg, Int.reduceEq, Int.reduceNe, Int.reduceToNat, Int.reduceAdd, aconv, acvB, capR, acmpnil, appBox, storeB, ares1, appendTo, afill, aeqL, teset]
        exact ⟨_, rfl, .refl _ _⟩
      | false =>
        simp only [beq_eq_false_iff_ne, ne_eq, decide_eq_false_iff_not] at h0 h1 h2
        have hmk : allowMark = true := rfl
        obtain ⟨q, rfl⟩ : ∃ q : Nat, at_ = q := ⟨at_.toNat, by omega⟩
        have hsz : 0 < s.size := by omega
        have hk : q % s.size < s.size := Nat.mod_lt _ hsz
        have hrem : (IntKind.i64.wrap (q : Int)).tmod (s.size : Int) = ((q % s.size : Nat) : Int) := by
          rw [wrapS (by omega) (by omega), Int.tmod_eq_emod_of_nonneg (by omega), Int.natCast_emod]
        have hne : ((s.size : Int) = 0) = False := by simp only [eq_iff_iff, iff_false]; omega
        have hne2 : ((s.size : Int) == 0) = false := by rw [beq_eq_false_iff_ne]; omega
        have hklt : ((q % s.size : Nat) : Int) < (s.size : Int) := Int.ofNat_lt.2 hk
        obtain ⟨x, hx1, hx2⟩ := byteS hk
        have hfun : (fun b : UInt8 => AV.int IntKind.u8 (b.toNat : Int)) = bAV := rfl
        have hlen : s.data.toList.length = s.size := by simp
        have hdrop := bAV_drop hx2
        have hstore := bAV_store (l := s.data.toList) (k := q % s.size) (y := x + UInt8.ofNat b.toNat) (by omega)
        have hadd := u8add (x := x) hb hb2
        have hfit : q % s.size * 1 + 1 ≤ s.size := by omega
        obtain ⟨L', hL'⟩ : ∃ L', L' = s.data.toList.set (q % s.size) (x + UInt8.ofNat b.toNat) := ⟨_, rfl⟩
        have hLl : L'.length = s.size := by rw [hL', List.length_set, hlen]
        rw [← hL'] at hstore
        simp only [aw0, aw1, aw2, aw3, aw4, aw5, aw6, aw7, ne_eq, eq_self, implies_true, imp_self, reduceIte, reduceCtorEq, Nat.reduceAdd, Nat.reduceLT, Nat.reduceLeDiff, Nat.reduceEqDiff, Nat.reduceSub, Nat.reduceMul, Nat.reduceBEq, Int.reduceBEq, Int.reduceBNe, Int.reduceLT, Int.reduceLE, Int.reduceGT, Int.reduceGE, Int.reduceNeg, Int.reduceEq, Int.reduceNe, Int.reduceToNat, Int.reduceAdd, aconv, acvB, capR, acmpnil, appBox, storeB, ares1, appendTo, afill, aeqL, teset, none_nb, none_box, hmk, hrem, hne, hne2, Int.natCast_nonneg, Int.toNat_natCast, hklt, hfun, hdrop, hadd, hstore, hlen, List.length_map, hfit]
        have mixed5 : Try.prog.follows .mixedOrders = true := by kernel_rfl
        have s1 := sum_pure s (by omega)
        have hsz2 : (⟨⟨L'⟩⟩ : ByteArray).size = s.size := hLl
        have s2 := sum_pure ⟨⟨L'⟩⟩ (by rw [hsz2]; omega)
        have hbytes := avB_bytes L'
        have htake : List.take (s.size * 1) (L'.map bAV) = L'.map bAV := List.take_of_length_le (by rw [List.length_map]; omega)
        have hfit2 : s.size * 1 ≤ L'.length := by omega
        have hneq : ((sumS s.data.toList : Int) != (sumS L' : Int)) = true := by
          have := sum_damaged s.data.toList (q % s.size) x _ hx2 (u8ne (x := x) hb hb2 h2)
          rw [← hL'] at this
          simp only [bne_iff_ne, ne_eq]
          omega
        refine acode_draw_chain te_ok mixed5 [] (by kernel_rfl) ?_
        simp only [aw0, aw1, aw2, aw3, aw4, aw5, aw6, aw7, ne_eq, eq_self, implies_true, imp_self, reduceIte, reduceCtorEq, Nat.reduceAdd, Nat.reduceLT, Nat.reduceLeDiff, Nat.reduceEqDiff, Nat.reduceSub, Nat.reduceMul, Nat.reduceBEq, Int.reduceBEq, Int.reduceBNe, Int.reduceLT, Int.reduceLE, Int.reduceGT, Int.reduceGE, Int.reduceNeg, Int.reduceEq, Int.reduceNe, Int.reduceToNat, Int.reduceAdd, aconv, acvB, capR, acmpnil, appBox, storeB, ares1, appendTo, afill, aeqL, teset, none_nb, none_box]
        refine skR_pure s1 ?_
        simp only [aw0, aw1, aw2, aw3, aw4, aw5, aw6, aw7, ne_eq, eq_self, implies_true, imp_self, reduceIte, reduceCtorEq, Nat.reduceAdd, Nat.reduceLT, Nat.reduceLeDiff, Nat.reduceEqDiff, Nat.reduceSub, Nat.reduceMul, Nat.reduceBEq, Int.reduceBEq, Int.reduceBNe, Int.reduceLT, Int.reduceLE, Int.reduceGT, Int.reduceGE, Int.reduceNeg, Int.reduceEq, Int.reduceNe, Int.reduceToNat, Int.reduceAdd, aconv, acvB, capR, acmpnil, appBox, storeB, ares1, appendTo, afill, aeqL, teset, none_nb, none_box, cellsOf, hfit2, List.length_map, List.drop_zero, htake, hbytes, Nat.zero_add, acvS]
        refine skR_pure s2 ?_
        simp only [aw0, aw1, aw2, aw3, aw4, aw5, aw6, aw7, ne_eq, eq_self, implies_true, imp_self, reduceIte, reduceCtorEq, Nat.reduceAdd, Nat.reduceLT, Nat.reduceLeDiff, Nat.reduceEqDiff, Nat.reduceSub, Nat.reduceMul, Nat.reduceBEq, Int.reduceBEq, Int.reduceBNe, Int.reduceLT, Int.reduceLE, Int.reduceGT, Int.reduceGE, Int.reduceNeg, Int.reduceEq, Int.reduceNe, Int.reduceToNat, Int.reduceAdd, aconv, acvB, capR, acmpnil, appBox, storeB, ares1, appendTo, afill, aeqL, teset, hneq]
        refine skR_pure haw ?_
        simp only [aw0, aw1, aw2, aw3, aw4, aw5, aw6, aw7, ne_eq, eq_self, implies_true, imp_self, reduceIte, reduceCtorEq, Nat.reduceAdd, Nat.reduceLT, Nat.reduceLeDiff, Nat.reduceEqDiff, Nat.reduceSub, Nat.reduceMul, Nat.reduceBEq, Int.reduceBEq, Int.reduceBNe, Int.reduceLT, Int.reduceLE, Int.reduceGT, Int.reduceGE, Int.reduceNeg, Int.reduceEq, Int.reduceNe, Int.reduceToNat, Int.reduceAdd, aconv, acvB, capR, acmpnil, appBox, storeB, ares1, appendTo, afill, aeqL, teset]
        exact ⟨_, rfl, .refl _ _⟩
end Go.Proofs.Ytlbhgoffiigfbaa.AW
