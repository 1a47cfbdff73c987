/- Texts of this claim, part 9: V52, V53. -/
import Derived.Test.YtjdocenbfghglaaGreatDoorMg1
import Derived.Test.YtjdocenbfghglaaGreatDoorMg2
import Derived.Test.YtjdocenbfghglaaGreatDoorMg3
import Derived.Test.YtjdocenbfghglaaGreatDoorMg4
import Derived.Test.YtjdocenbfghglaaGreatDoorMg5
import Derived.Test.YtjdocenbfghglaaGreatDoorMg6
import Derived.Test.YtjdocenbfghglaaGreatDoorMg7
import Derived.Test.YtjdocenbfghglaaGreatDoorMg8
import Derived.Shelf.Sort.Plain
import Derived.Test.YtjdocenbfghglaaGreatDoorAw27
section
set_option linter.unusedSimpArgs false
set_option linter.unusedVariables false
namespace Go.Proofs.YtjdocenbfghglaaGreatDoor.AW
open Go Go.RowKit Go.Sort Go.Lib

def bl (s : ByteArray) : List UInt8 := s.data.toList
theorem encStr_bl (s : ByteArray) : encStr (bl s) = .string s := by
  unfold encStr bl
  rw [Array.toArray_toList]
theorem leS_bl (a b : ByteArray) : leS a b = decide (bl a ≤ bl b) := by
  unfold leS sless
  rw [bytesLess_eq, ByteArray.toList_eq, ByteArray.toList_eq]
  by_cases h : b.data.toList < a.data.toList
  · rw [decide_eq_true h, decide_eq_false (fun h2 : bl a ≤ bl b => h2 h)]; rfl
  · rw [decide_eq_false h, decide_eq_true (show bl a ≤ bl b from h)]; rfl
theorem sortS_bl (xs : List ByteArray) : (xs.map bl).mergeSort (fun x y => decide (x ≤ y)) = (sortS xs).map bl := by
  unfold sortS
  exact (List.map_mergeSort (fun a _ b _ => leS_bl a b)).symm
theorem sortS_len (xs : List ByteArray) : (sortS xs).length = xs.length := (List.mergeSort_perm _ _).length_eq
theorem mapBlock_put2 {w : World} {blk : Nat} {arr : Array Value} {ty : TypeId} {fr : Nat × Nat} (hh : w.heap[blk]? = some (.cells arr ty fr)) (f : Array Value → Array Value) : Sort.mapBlock w blk f = World.putBlk w blk (.cells (f arr) ty fr) := by
  unfold Sort.mapBlock World.putBlk
  congr 1
  apply Array.ext_getElem?
  intro i
  rw [Array.getElem?_modify]
  by_cases e : blk = i
  · subst e
    rw [if_pos rfl, hh, Array.getElem?_setIfInBounds_self_of_lt (Array.getElem?_eq_some_iff.1 hh).1]; rfl
  · rw [if_neg e, Array.getElem?_setIfInBounds_ne e]
theorem bel_ahead2 (w : World) (B n : Nat) : Bel B w (Go.Sort.ahead w n) := ⟨⟨rfl, rfl, rfl, Nat.le_refl _, fun _ _ => rfl⟩, Nat.le_add_right _ _⟩
theorem bel_grown2 (w : World) (os : Array Obj) : Bel w.heap.size w (grow w os) := ⟨⟨rfl, rfl, rfl, by simp [grow], fun k hk => by simp only [grow]; rw [Array.getElem?_append_left hk]⟩, Nat.le_refl _⟩
theorem put_get2 (D : List (List UInt8)) {arr : Array Value} {j : Nat} (hj : j < arr.size) : (putCells encStr 0 D.toArray arr).getD j undef = if h : j < D.length then encStr D[j] else arr.getD j undef := by
  unfold putCells
  rw [Array.getD_eq_getD_getElem?, Array.getD_eq_getD_getElem?, Array.getElem?_mapIdx, Array.getElem?_eq_getElem hj]
  simp only [Option.map_some, Option.getD_some, Nat.zero_le, Nat.zero_add, true_and, Nat.sub_zero, List.size_toArray]
  by_cases h : j < D.length
  · rw [if_pos h, dif_pos h, getElem!_pos _ _ (by simpa using h), List.getElem_toArray]
  · rw [if_neg h, dif_neg h]
set_option maxHeartbeats 1000000 in
theorem sortS_calls {xs : List ByteArray} {rest : List AV} (hne : xs ≠ []) (hl : xs.length < 1000000) {b c : Nat} {h : AH} (hb : h.box b = some (strs xs ++ rest)) :
    ACalls Tryz.prog 103 [.mc b 0 xs.length c 1] h fun out h' => out = .ret (.tup []) ∧ h' = h.set b (strs (sortS xs) ++ rest) := by
  intro w0 m w args' hn hr hW
  obtain ⟨l⟩ := args'
  simp only [List.size_toArray, List.length_cons, List.length_nil] at hn
  match l, hn with
  | [a0], _ =>
    have e0 := hr 0 _ rfl
    obtain ⟨blk, arr, ty, fr, hM, hlo, hB⟩ := hW.box b _ hb
    obtain ⟨blk', a, ha0, hM', ha, hnc, hroom⟩ := e0.mc_inv
    rw [hM] at hM'; injection hM' with hM'; subst hM'
    have hpos : 0 < xs.length := List.length_pos_iff.2 hne
    have ha' := ha (by omega)
    have ha2 : a0 = .slice (some ⟨blk, 0, none⟩) xs.length c := by rw [← ha']; exact ha0
    subst ha2
    have hsz : xs.length ≤ arr.size := by have := hB.size; rw [List.length_append, strs_len] at this; omega
    have hblk : blk < w.heap.size := (Array.getElem?_eq_some_iff.1 hB.here).1
    have hxa : ∀ (j : Nat) (hj : j < xs.length), arr.getD j undef = .string xs[j] := by
      intro j hj
      have h1 := hB.rel j (.str xs[j]) (by
        rw [List.getElem?_append_left (by rw [strs_len]; exact hj)]
        simp [strs, hj])
      generalize arr.getD j undef = v at h1
      cases h1; rfl
    have hH : Holds encStr w blk 0 (xs.map bl).toArray := by
      intro j hj
      have hj' : j < xs.length := by simpa using hj
      have hja : j < arr.size := by omega
      rw [Nat.zero_add]
      refine ⟨?_, frozen_of_blk hB.here hB.free _ hja⟩
      rw [cell_of_blk hB.here, getElem!_pos _ j hj, List.getElem_toArray, List.getElem_map, encStr_bl, ← hxa j hj', Array.getD_eq_getD_getElem?, Array.getElem?_eq_getElem hja]
      rfl
    have hrun := Any.slices_Sort_string Tryz.laySortS blk 0 c (xs.map bl) w hH hblk (by rw [List.length_map]; omega)
    rw [List.length_map] at hrun
    refine Calls.mono hrun ?_
    rintro e w' ⟨rfl, nn, os, rfl⟩
    rw [sortS_bl]
    have hlen := sortS_len xs
    obtain ⟨A, hA⟩ : ∃ A, A = putCells encStr 0 ((sortS xs).map bl).toArray arr := ⟨_, rfl⟩
    have hAs : A.size = arr.size := by rw [hA]; simp [putCells]
    have hAg : ∀ (j : Nat), j < arr.size → A.getD j undef = if h : j < (sortS xs).length then .string (sortS xs)[j] else arr.getD j undef := by
      intro j hj
      rw [hA, put_get2 _ hj]
      by_cases h : j < (sortS xs).length
      · rw [dif_pos h, dif_pos (by rw [List.length_map]; exact h), List.getElem_map, encStr_bl]
      · rw [dif_neg h, dif_neg (by rw [List.length_map]; exact h)]
    have hbs := hB.size
    have hW1 := (hW.later (bel_ahead2 w w.heap.size nn)).setBox (cs' := strs (sortS xs) ++ rest) (arr' := A) hb hM (show (Go.Sort.ahead w nn).heap[blk]? = _ from hB.here) hAs
      (by rw [List.length_append, List.length_append, strs_len, strs_len, hlen]) (fun j c hj => by
        have hjl := (List.getElem?_eq_some_iff.1 hj).1
        rw [List.length_append, strs_len] at hjl hbs
        rw [hAg j (by omega)]
        by_cases h1 : j < (sortS xs).length
        · rw [dif_pos h1]
          rw [List.getElem?_append_left (by rw [strs_len]; exact h1)] at hj
          have : c = .str (sortS xs)[j] := by
            simp [strs, h1] at hj
            exact hj.symm
          rw [this]; exact .str _
        · rw [dif_neg h1]
          refine hB.rel j c ?_
          rw [List.getElem?_append_right (by rw [strs_len]; omega), strs_len] at hj ⊢
          rw [← hlen]; exact hj)
      (fun j hj => by
        rw [hAg j (by omega)]
        split
        · rfl
        · exact hB.one j (by omega))
    have hworld : grow (putRow encStr (Go.Sort.ahead w nn) blk 0 ((sortS xs).map bl).toArray) os = grow (World.putBlk (Go.Sort.ahead w nn) blk (.cells A ty fr)) os := by
      unfold putRow
      rw [mapBlock_put2 (show (Go.Sort.ahead w nn).heap[blk]? = _ from hB.here), hA]
    rw [hworld]
    exact ⟨m, .ret (.tup []), _, Mem.le.refl m, .tup [] #[] rfl (fun i c hi => by simp at hi), hW1.later (bel_grown2 _ os), rfl, rfl⟩
end Go.Proofs.YtjdocenbfghglaaGreatDoor.AW
end
section
set_option linter.unusedSimpArgs false
set_option linter.unusedVariables false
namespace Go.Proofs.YtjdocenbfghglaaGreatDoor.AW
open Go Go.RowKit

def sR (zs : List ByteArray) (rest : List AV) : List AV := strs zs ++ rest
theorem sR_len (zs : List ByteArray) (rest : List AV) : (sR zs rest).length = zs.length + rest.length := by rw [sR, List.length_append, strs_len]
theorem sR_at {zs : List ByteArray} (rest : List AV) {j : Nat} (hj : j < zs.length) : ∃ post, List.drop (j * 1) (sR zs rest) = .str zs[j] :: post := by
  refine ⟨(strs (zs.drop (j + 1))) ++ rest, ?_⟩
  rw [Nat.mul_one, sR, List.drop_append_of_le_length (by rw [strs_len]; omega)]
  unfold strs
  rw [← List.map_drop, List.drop_eq_getElem_cons hj]; rfl
theorem sR_take {zs : List ByteArray} (rest : List AV) {j : Nat} (hj : j ≤ zs.length) : List.take (j * 1) (sR zs rest) = strs (zs.take j) := by
  rw [Nat.mul_one, sR, List.take_append_of_le_length (by rw [strs_len]; omega)]
  unfold strs
  rw [← List.map_take]
theorem sR_set {zs : List ByteArray} (rest : List AV) {j : Nat} (hj : j < zs.length) (y : ByteArray) : List.take (j * 1) (sR zs rest) ++ [.str y] ++ List.drop (j * 1 + 1) (sR zs rest) = sR (zs.set j y) rest := by
  rw [sR_take rest (by omega), Nat.mul_one, List.set_eq_take_append_cons_drop, if_pos hj]
  unfold sR
  rw [List.drop_append_of_le_length (by rw [strs_len]; omega)]
  unfold strs
  rw [← List.map_drop]
  simp
theorem strs_under2 (l : List ByteArray) : AV.underL 0 0 (strs l) = true := by
  induction l with
  | nil => rfl
  | cons a l ih => exact ih
theorem beq_str (a b : ByteArray) : (a.toList == b.toList) = decide (a = b) := by
  rw [Bool.eq_iff_iff, beq_iff_eq, decide_eq_true_iff]
  exact ⟨ba_ext2, fun h => by rw [h]⟩
set_option maxHeartbeats 4000000 in
theorem compactS_calls {xs : List ByteArray} {rest : List AV} (hne : xs ≠ []) (hl : xs.length < 1000000) {b : Nat} {h : AH} (hb : h.box b = some (sR xs rest)) :
    ACalls Tryz.prog 104 [.ms b 0 xs.length 1] h fun out h' => out = .ret (.sl .ro 1 (strs (ddS xs))) ∧ h' = h.kill b := by
  have hpos : 0 < xs.length := List.length_pos_iff.2 hne
  have hdne : strs (ddS xs) ≠ [] := by
    intro e
    exact ddS_ne hne (List.map_eq_nil_iff.1 e)
  refine ACalls.give (by decide) hdne (fun x hx => by
    obtain ⟨v, _, rfl⟩ := List.mem_map.1 hx; rfl) (strs_under2 _) ?_
  rw [strs_flat, strs_len]
  refine acalls_of te_ok [] Tryz.func104 (c := _) rfl (Nat.le_of_ble_eq_true rfl) ?_
  simp only [aws, ne_eq, eq_self, reduceIte, Nat.reduceLT, acmpnil, teset, Tryz.ntmps104, Tryz.results104]
  cases hc : decide ((xs.length : Int) < 2) with
  | true =>
    simp only [aws, eq_self, implies_true, reduceIte, Nat.reduceLT, ares1]
    simp only [decide_eq_true_eq] at hc
    have e : ddS xs = xs := by
      cases xs with
      | nil => rfl
      | cons x r =>
        have : r = [] := List.eq_nil_of_length_eq_zero (by simp only [List.length_cons] at hc; omega)
        subst this; rfl
    rw [e]
    exact ⟨b, rest, _, rfl, rfl, hb, .inl rfl⟩
  | false =>
    simp only [decide_eq_false_iff_not] at hc
    simp only [aws, eq_self, Nat.reduceLT]
    refine ⟨fun n s' h' => ∃ k : Nat, s' 0 = .ms b 0 xs.length 1 ∧ s' 3 = .int .i64 ((k + 1 : Nat) : Int) ∧ h' = h ∧ n + (k + 1) = xs.length ∧ ddS xs = xs.take (k + 1) ++ gS (xs.getD k ⟨#[]⟩) (xs.drop (k + 1)), ⟨xs.length - 1, 0, ?_⟩, ?_⟩
    · simp only [aws, eq_self, reduceIte, Int.natCast_one]

      refine ⟨by omega, ?_⟩
      rw [ddS_start hpos, List.getD_eq_getElem?_getD, List.getElem?_eq_getElem hpos]; rfl
    · rintro n s' h' ⟨k, e0, e5, rfl, hn, hd⟩
      simp only [aws, eq_self, reduceIte, reduceCtorEq, Nat.reduceLT, acmpnil, teset, e0, e5]
      cases hc2 : decide (((k + 1 : Nat) : Int) < (xs.length : Int)) with
      | false =>
        simp only [decide_eq_false_iff_not] at hc2
        simp only [aws, eq_self, implies_true, reduceIte, reduceCtorEq, Nat.reduceLT, Nat.reduceEqDiff, ares1, e0]
        have e : ddS xs = xs := by
          rw [hd, List.drop_eq_nil_of_le (by omega), gS, List.append_nil, List.take_of_length_le (by omega)]
        rw [e]
        exact ⟨b, rest, _, rfl, rfl, hb, .inl rfl⟩
      | true =>
        simp only [decide_eq_true_eq] at hc2
        have hk : k + 1 < xs.length := by omega
        have hw : IntKind.i64.wrap (((k + 1 : Nat) : Int) - 1) = (k : Int) := by rw [wrap_i64 (by omega) (by omega)]; omega
        obtain ⟨p1, hp1⟩ := sR_at rest hk
        obtain ⟨p0, hp0⟩ := sR_at rest (show k < xs.length by omega)
        have t1 : List.take 1 (AV.str xs[k + 1] :: p1) = [AV.str xs[k + 1]] := rfl
        have t0 : List.take 1 (AV.str xs[k] :: p0) = [AV.str xs[k]] := rfl
        have l1 : 1 ≤ (AV.str xs[k + 1] :: p1).length := by rw [List.length_cons]; omega
        have l0 : 1 ≤ (AV.str xs[k] :: p0).length := by rw [List.length_cons]; omega
        have hk0 : ((k : Nat) : Int) < (xs.length : Int) := by omega
        have hgd : xs.getD k ⟨#[]⟩ = xs[k] := by rw [List.getD_eq_getElem?_getD, List.getElem?_eq_getElem (by omega)]; rfl
        have hgd1 : xs.getD (k + 1) ⟨#[]⟩ = xs[k + 1] := by rw [List.getD_eq_getElem?_getD, List.getElem?_eq_getElem hk]; rfl
        rw [hgd, gS_step _ hk] at hd
        simp only [aws]
        refine acode_draw_chain te_ok mixed [] (by kernel_rfl) ?_
        simp only [aws, eq_self, reduceIte, reduceCtorEq, Nat.reduceAdd, Nat.reduceLT, Nat.reduceEqDiff, acmpnil, teset, e0, e5, hb, hw, Int.natCast_nonneg, Int.toNat_natCast, hc2, hk0, hp1, hp0, beq_str]
        cases hq : decide (xs[k + 1] = xs[k]) with
        | false =>
          simp only [aws, eq_self, reduceIte, reduceCtorEq, Nat.reduceLT, Nat.reduceEqDiff, acmpnil, e0, e5]
          rw [if_neg (by simpa using hq)] at hd
          refine ⟨n - 1, by omega, k + 1, ?_, by omega, ?_⟩
          · rw [wrap_succ (by omega)]
          · rw [hd, hgd1, List.take_succ_eq_append_getElem hk, List.append_assoc]; rfl
        | true =>
          rw [if_pos (by simpa using hq)] at hd
          have hk1 : k + 1 ≤ xs.length := by omega
          simp only [aws, eq_self, reduceIte, reduceCtorEq, Nat.reduceLT, Nat.reduceEqDiff, teset, e0, e5, Int.natCast_nonneg, Int.toNat_natCast, hk1, Nat.le_refl]
          refine ⟨fun m s2 h2 => ∃ (j kk : Nat) (zs : List ByteArray), s2 0 = .ms b 0 xs.length 1 ∧ s2 3 = .int .i64 kk ∧ s2 4 = .ms b ((k + 1) * 1) (xs.length - (k + 1)) 1 ∧ s2 5 = .int .i64 ((j + 1 : Nat) : Int) ∧ h2 = h'.set b (sR zs rest) ∧ zs.length = xs.length ∧ m + (j + 1) = xs.length - (k + 1) ∧ k + 1 ≤ kk ∧ kk ≤ k + 1 + j ∧ zs.drop (k + 1 + j) = xs.drop (k + 1 + j) ∧ ddS xs = zs.take kk ++ gS (xs.getD (k + 1 + j) ⟨#[]⟩) (xs.drop (k + 1 + j + 1)), ⟨xs.length - (k + 1) - 1, 0, k + 1, xs, ?_⟩, ?_⟩
          · simp only [aws, eq_self, reduceIte, reduceCtorEq, Nat.reduceLeDiff, Nat.reduceEqDiff, e0, e5, Int.natCast_one]
            rw [hgd1]
            refine ⟨(AH.set_self _ hb).symm, by omega, ?_⟩
            first | exact hd | exact ⟨Nat.le_refl _, Nat.le_refl _, hd⟩
          · rintro m s2 h2 ⟨j, kk, zs, r0, r5, r6, r7, rfl, hzl, hm, hkk1, hkk2, hzd, hdz⟩
            have hbz : (h'.set b (sR zs rest)).box b = some (sR zs rest) := by rw [set_box, if_pos rfl]
            simp only [aws, eq_self, reduceIte, Nat.reduceLT, Nat.reduceEqDiff, acmpnil, teset, r6, r7]
            cases hc3 : decide (((j + 1 : Nat) : Int) < ((xs.length - (k + 1) : Nat) : Int)) with
            | false =>
              simp only [decide_eq_false_iff_not] at hc3
              have hkn : kk ≤ xs.length := by omega
              have hnz : (xs.length - kk = 0) = False := by simp only [eq_iff_iff, iff_false]; omega
              have hfit : kk * 1 + (xs.length - kk) * 1 ≤ (sR zs rest).length := by rw [sR_len]; omega
              have htk := sR_take (zs := zs) rest (j := kk) (by omega)
              simp only [aws, eq_self, implies_true, reduceIte, reduceCtorEq, Nat.reduceLT, Nat.reduceEqDiff, Nat.reduceMul, acmpnil, ares1, teset, r0, r5, Int.natCast_nonneg, Int.toNat_natCast, hkn, Nat.le_refl, aclear, hnz, hfit, htk, Nat.zero_le, Nat.sub_zero, if_true]
              have hdd : ddS xs = zs.take kk := by
                rw [hdz, List.drop_eq_nil_of_le (by omega), gS, List.append_nil]
              have hddl : (ddS xs).length = kk := by rw [hdd, List.length_take]; omega
              rw [hddl]
              refine ⟨b, zeros [AV.str { data := #[] }] (xs.length - kk) ++ List.drop (kk * 1 + (zeros [AV.str { data := #[] }] (xs.length - kk)).length) (sR zs rest), _, rfl, rfl, ?_, .inl rfl, ?_⟩
              · rw [hdd, if_pos rfl, List.append_assoc]
              · intro b2 hb2 hne2
                rw [if_neg hne2, if_neg hne2]
            | true =>
              simp only [decide_eq_true_eq] at hc3
              simp only [aws]
              refine acode_draw_chain te_ok mixed [] (by kernel_rfl) ?_
              have hA : k + 1 + (j + 1) < xs.length := by omega
              have hB : k + 1 + j < xs.length := by omega
              have hwj : IntKind.i64.wrap (((j + 1 : Nat) : Int) - 1) = (j : Int) := by rw [wrap_i64 (by omega) (by omega)]; omega
              have hj0 : ((j : Nat) : Int) < ((xs.length - (k + 1) : Nat) : Int) := by omega
              have hgB : xs.getD (k + 1 + j) ⟨#[]⟩ = xs[k + 1 + j] := by rw [List.getD_eq_getElem?_getD, List.getElem?_eq_getElem hB]; rfl
              have hgA : xs.getD (k + 1 + (j + 1)) ⟨#[]⟩ = xs[k + 1 + (j + 1)] := by rw [List.getD_eq_getElem?_getD, List.getElem?_eq_getElem hA]; rfl
              have hzB : zs[k + 1 + j]'(by omega) = xs[k + 1 + j] := by
                have := congrArg (fun l : List ByteArray => l[0]?) hzd
                simp only [List.getElem?_drop, Nat.add_zero] at this
                rw [List.getElem?_eq_getElem (by omega), List.getElem?_eq_getElem hB] at this
                injection this
              have hzA : zs[k + 1 + (j + 1)]'(by omega) = xs[k + 1 + (j + 1)] := by
                have := congrArg (fun l : List ByteArray => l[1]?) hzd
                simp only [List.getElem?_drop] at this
                rw [show k + 1 + j + 1 = k + 1 + (j + 1) by omega, List.getElem?_eq_getElem (by omega), List.getElem?_eq_getElem hA] at this
                injection this
              obtain ⟨pA, hpA⟩ := sR_at (zs := zs) rest (j := k + 1 + (j + 1)) (by omega)
              obtain ⟨pB, hpB⟩ := sR_at (zs := zs) rest (j := k + 1 + j) (by omega)
              rw [hzA, Nat.add_mul (k + 1) (j + 1) 1] at hpA
              rw [hzB, Nat.add_mul (k + 1) j 1] at hpB
              have tA : List.take 1 (AV.str xs[k + 1 + (j + 1)] :: pA) = [AV.str xs[k + 1 + (j + 1)]] := rfl
              have tB : List.take 1 (AV.str xs[k + 1 + j] :: pB) = [AV.str xs[k + 1 + j]] := rfl
              have lA : 1 ≤ (AV.str xs[k + 1 + (j + 1)] :: pA).length := by rw [List.length_cons]; omega
              have lB : 1 ≤ (AV.str xs[k + 1 + j] :: pB).length := by rw [List.length_cons]; omega
              rw [hgB, show k + 1 + j + 1 = k + 1 + (j + 1) by omega, gS_step _ hA] at hdz
              simp only [aws, eq_self, reduceIte, Nat.reduceAdd, Nat.reduceLT, Nat.reduceEqDiff, acmpnil, teset, r6, r7, Int.natCast_nonneg, Int.toNat_natCast, hc3, hwj, hj0, hpA, hpB, beq_str]
              cases hq2 : decide (xs[k + 1 + (j + 1)] = xs[k + 1 + j]) with
              | true =>
                rw [if_pos (by simpa using hq2)] at hdz
                simp only [aws, eq_self, reduceIte, reduceCtorEq, Nat.reduceLT, Nat.reduceEqDiff, acmpnil, r0, r5, r6, r7]
                refine ⟨m - 1, by omega, j + 1, kk, zs, rfl, by rw [wrap_succ (by omega)], rfl, hzl, by omega, hkk1, by omega, ?_, ?_⟩
                · have := congrArg (List.drop 1) hzd
                  rwa [List.drop_drop, List.drop_drop, show k + 1 + j + 1 = k + 1 + (j + 1) by omega] at this
                · rw [hgA]; exact hdz
              | false =>
                rw [if_neg (by simpa using hq2)] at hdz
                have hkx : ((kk : Nat) : Int) < (xs.length : Int) := by omega
                have hset := sR_set (zs := zs) rest (j := kk) (by omega) xs[k + 1 + (j + 1)]
                have hfit : kk * 1 + 1 ≤ (sR zs rest).length := by rw [sR_len]; omega
                simp only [aws, eq_self, reduceIte, reduceCtorEq, Nat.reduceLT, Nat.reduceEqDiff, acmpnil, storeB, teset, r0, r5, r6, r7, Int.natCast_nonneg, Int.toNat_natCast, hc3, hpA, hkx, hfit, hset]
                refine ⟨m - 1, by omega, j + 1, kk + 1, zs.set kk xs[k + 1 + (j + 1)], by rw [wrap_succ (by omega)], by rw [wrap_succ (by omega)], by rw [AH.set_set], by rw [List.length_set]; exact hzl, by omega, by omega, by omega, ?_, ?_⟩
                · have := congrArg (List.drop 1) hzd
                  rw [List.drop_drop, List.drop_drop, show k + 1 + j + 1 = k + 1 + (j + 1) by omega] at this
                  rw [List.drop_set_of_lt (by omega)]; exact this
                · rw [hgA, hdz, List.take_succ_eq_append_getElem (by rw [List.length_set]; omega), List.getElem_set_self, List.take_set_of_le (Nat.le_refl _), List.append_assoc]
                  rfl
end Go.Proofs.YtjdocenbfghglaaGreatDoor.AW
end
