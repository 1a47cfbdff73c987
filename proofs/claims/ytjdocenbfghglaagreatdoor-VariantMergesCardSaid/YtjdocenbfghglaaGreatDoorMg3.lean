/- Texts of this claim, part 3: P3, V40, P11, P12, P13, V28, V29, V30, V44, V41, V31. -/
import Derived.Test.YtjdocenbfghglaaGreatDoorMg1
import Derived.Test.YtjdocenbfghglaaGreatDoorMg2
section
set_option linter.unusedSimpArgs false
set_option linter.unusedVariables false
namespace Go.Proofs.YtjdocenbfghglaaGreatDoor.AW
open Go Go.RowKit

/-- The reference's loop over the entries. -/
def wiK (key : ByteArray) : List ByteArray → Bool → List ByteArray
  | [], d => if d = true then [] else [key]
  | k :: ks, d => (if (!d && !sless k key) = true then [key] else []) ++ ((if (!(k.toList == key.toList)) = true then [k] else []) ++ wiK key ks (d || !sless k key))
def wiX (key : ByteArray) (x : V) : List ByteArray → List V → Bool → List V
  | [], _, d => if d = true then [] else [x]
  | _ :: _, [], _ => []
  | k :: ks, y :: ys, d => (if (!d && !sless k key) = true then [x] else []) ++ ((if (!(k.toList == key.toList)) = true then [y] else []) ++ wiX key x ks ys (d || !sless k key))
def refWith (v : V) (key : ByteArray) (x : V) : V := .mk 5 0 ⟨#[]⟩ (wiX key x v.keys v.items false) (wiK key v.keys false)
/-- An object's entry is set. -/
def setK (v : V) (key : ByteArray) (x : V) : V := if foundS v.keys key = true then withV v (lb v.keys key) x else insV v (lb v.keys key) key x
theorem wiK_done (key : ByteArray) : ∀ ks : List ByteArray, (∀ k ∈ ks, k ≠ key) → wiK key ks true = ks
  | [], _ => rfl
  | k :: ks, h => by
    have h1 : (k.toList == key.toList) = false := ba_ne (h k List.mem_cons_self)
    simp only [wiK, h1, Bool.true_or, Bool.not_true, Bool.false_and]
    rw [wiK_done key ks (fun z hz => h z (List.mem_cons_of_mem _ hz))]
    rfl
theorem wiX_done (key : ByteArray) (x : V) : ∀ (ks : List ByteArray) (xs : List V), ks.length = xs.length → (∀ k ∈ ks, k ≠ key) → wiX key x ks xs true = xs
  | [], [], _, _ => rfl
  | [], _ :: _, hl, _ => by simp at hl
  | _ :: _, [], hl, _ => by simp at hl
  | k :: ks, y :: ys, hl, h => by
    have h1 : (k.toList == key.toList) = false := ba_ne (h k List.mem_cons_self)
    simp only [wiX, h1, Bool.true_or, Bool.not_true, Bool.false_and]
    rw [wiX_done key x ks ys (by simpa using hl) (fun z hz => h z (List.mem_cons_of_mem _ hz))]
    rfl
theorem lb_cons_lt {k key : ByteArray} {ks : List ByteArray} (h : sless k key = true) : lb (k :: ks) key = lb ks key + 1 := by
  unfold lb; rw [List.findIdx_cons, h]; rfl
theorem lb_cons_ge {k key : ByteArray} {ks : List ByteArray} (h : sless k key = false) : lb (k :: ks) key = 0 := by
  unfold lb; rw [List.findIdx_cons, h]; rfl
theorem found_cons_lt {k key : ByteArray} {ks : List ByteArray} (h : sless k key = true) : foundS (k :: ks) key = foundS ks key := by
  unfold foundS; rw [lb_cons_lt h, List.getElem?_cons_succ]
theorem found_cons_ge {k key : ByteArray} {ks : List ByteArray} (h : sless k key = false) : foundS (k :: ks) key = (k.toList == key.toList) := by
  unfold foundS; rw [lb_cons_ge h]; rfl
theorem Asc.tail {k : ByteArray} {ks : List ByteArray} (h : Asc (k :: ks)) : Asc ks := fun i x y hx hy => h (i + 1) x y (by simpa using hx) (by simpa using hy)
theorem Asc.head {k : ByteArray} {ks : List ByteArray} (h : Asc (k :: ks)) : ∀ x ∈ ks, sless k x = true := by
  intro x hx
  obtain ⟨j, hj⟩ := List.mem_iff_getElem?.1 hx
  exact Asc.lt h j 0 k x rfl (by rw [show 0 + j + 1 = j + 1 by omega]; simpa using hj)
theorem sless_ne {a b : ByteArray} (h : sless a b = true) : a ≠ b := by
  rintro rfl; unfold sless at h; rw [bl_irrefl] at h; cases h
theorem sless_gt {k key x : ByteArray} (h1 : sless k key = false) (h2 : sless k x = true) : x ≠ key := by
  rintro rfl; rw [h1] at h2; cases h2
theorem wi_spec (key : ByteArray) (x : V) : ∀ (ks : List ByteArray) (xs : List V), ks.length = xs.length → Asc ks →
    wiK key ks false = (if foundS ks key = true then ks else ks.take (lb ks key) ++ key :: ks.drop (lb ks key)) ∧
    wiX key x ks xs false = (if foundS ks key = true then xs.take (lb ks key) ++ x :: xs.drop (lb ks key + 1) else xs.take (lb ks key) ++ x :: xs.drop (lb ks key))
  | [], [], _, _ => ⟨rfl, rfl⟩
  | [], _ :: _, hl, _ => by simp at hl
  | _ :: _, [], hl, _ => by simp at hl
  | k :: ks, y :: ys, hl, ha => by
    cases h : sless k key with
    | true =>
      have h1 : (k.toList == key.toList) = false := ba_ne (sless_ne h)
      obtain ⟨i1, i2⟩ := wi_spec key x ks ys (by simpa using hl) ha.tail
      simp only [wiK, wiX, h, h1, Bool.not_true, Bool.not_false, Bool.and_false, Bool.or_false, if_true]
      rw [i1, i2, found_cons_lt h, lb_cons_lt h]
      simp only [List.take_succ_cons, List.drop_succ_cons, Bool.false_eq_true, if_false, List.nil_append, List.singleton_append]
      constructor
      · split <;> rfl
      · split <;> rfl
    | false =>
      have hgt : ∀ z ∈ ks, z ≠ key := fun z hz => sless_gt h (ha.head z hz)
      simp only [wiK, wiX, h, Bool.not_false, Bool.and_true, Bool.or_true, if_true]
      rw [wiK_done key ks hgt, wiX_done key x ks ys (by simpa using hl) hgt, found_cons_ge h, lb_cons_ge h]
      by_cases e : k = key
      · subst e; simp
      · rw [ba_ne e]; simp
theorem refWith_set {v : V} {key : ByteArray} {x : V} (ha : Asc v.keys) (hl : v.keys.length = v.items.length) (h5 : v.kind = 5) (hi : v.int = 0) (ht : v.text = ⟨#[]⟩) : refWith v key x = setK v key x := by
  obtain ⟨i1, i2⟩ := wi_spec key x v.keys v.items hl ha
  unfold refWith setK
  rw [i1, i2]
  cases hf : foundS v.keys key with
  | true =>
    have hlt := (List.getElem?_eq_some_iff.1 (found_at hf)).1
    simp only [if_true]
    obtain ⟨k, n, t, xs, ks⟩ := v
    simp only [V.kind, V.int, V.text, V.keys, V.items] at *
    subst h5 hi ht
    simp only [withV, V.kind, V.int, V.text, V.keys, V.items]
    rw [show min (lb ks key + 1) xs.length = lb ks key + 1 by omega]
  | false =>
    simp only [Bool.false_eq_true, if_false]
    obtain ⟨k, n, t, xs, ks⟩ := v
    simp only [V.kind, V.int, V.text, V.keys, V.items] at *
    subst h5 hi ht
    rfl
end Go.Proofs.YtjdocenbfghglaaGreatDoor.AW
end
section
set_option linter.unusedSimpArgs false
set_option linter.unusedVariables false
namespace Go.Proofs.YtjdocenbfghglaaGreatDoor.AW
open Go Go.RowKit

theorem new_set (h : AH) (a b : List AV) : (h.new a).set h.nb b = h.new b := by
  unfold AH.new AH.set
  simp only [AH.mk.injEq, and_self, and_true]
  funext q
  unfold upd
  by_cases e : q = h.nb <;> simp [e]
theorem objnil_calls (h : AH) : ACalls Tryz.prog 30 [.sl .full 0 [], .sl .full 0 []] h fun out h' => out = .ret (.agg [.int .i64 5, .int .i64 0, .str ⟨#[]⟩, .sl .full 0 [], .sl .full 0 []]) ∧ h' = h.new [.int .i64 5, .int .i64 0, .str ⟨#[]⟩, .sl .full 0 [], .sl .full 0 []] := by
  refine acalls_of te_ok [] Tryz.func30 (c := _) rfl (Nat.le_of_ble_eq_true rfl) ?_
  simp only [aws, eq_self, reduceIte, Nat.reduceAdd, Nat.reduceLT, Nat.reduceLeDiff, storeB, ares1, afill, teset, Tryz.ntmps30, Tryz.results30]
  exact new_set _ _ _
theorem jlt {n j m : Nat} (h : n + j = m) (hm : m < 1000000) : j < 1000000 := by omega
theorem b16 {a j : Nat} (h : a ≤ j + 1) (hj : j < 1000000) : (a + 1) * 16 ≤ 140737488355328 := by omega
theorem b16b {a j : Nat} (h : a ≤ j + 1) (hj : j < 1000000) : (a + 1 + 1) * 16 ≤ 140737488355328 := by omega
theorem b80 {a j : Nat} (h : a ≤ j + 1) (hj : j < 1000000) : (a + 1) * 80 ≤ 140737488355328 := by omega
theorem b80b {a j : Nat} (h : a ≤ j + 1) (hj : j < 1000000) : (a + 1 + 1) * 80 ≤ 140737488355328 := by omega
theorem newTok_boxf (h : AH) : h.newTok.box = h.box := rfl
theorem setTok_boxf (h : AH) (t g : Nat) : (h.setTok t g).box = h.box := rfl
theorem nlt {j m : Nat} (h : ¬ (j : Int) < (m : Int)) : m ≤ j := by omega
theorem nlt1 {n j m : Nat} (h : n + j = m) (hj : j < m) : n - 1 < n := by omega
theorem nadd {n j m : Nat} (h : n + j = m) (hj : j < m) : n - 1 + (j + 1) = m := by omega
theorem jwrap {j : Nat} (h : j < 1000000) : j + 1 < 4611686018427387904 := by omega
theorem dor1 {d b : Bool} (h : (!d && !b) = true) : (d || !b) = true := by cases d <;> cases b <;> simp_all
theorem dor0 {d b : Bool} (h : (!d && !b) = false) : (d || !b) = d := by cases d <;> cases b <;> simp_all
theorem dfalse {d b : Bool} (h : (!d && !b) = true) : d = false := by cases d <;> simp_all
theorem l0 {a j : Nat} {d : Bool} (h : a ≤ j + d.toNat) : a ≤ j + 1 + d.toNat := by omega
theorem l1 {a j : Nat} {d : Bool} (h : a ≤ j + d.toNat) (hd : d = false) : a + 1 ≤ j + 1 + true.toNat := by subst hd; simp at h ⊢; omega
theorem l2 {a j : Nat} {d : Bool} (h : a ≤ j + d.toNat) (hd : d = false) : a + 2 ≤ j + 1 + true.toNat := by subst hd; simp at h ⊢; omega
theorem l3 {a j : Nat} {d : Bool} (h : a ≤ j + d.toNat) : a + 1 ≤ j + 1 + d.toNat := by omega
theorem ld {a j : Nat} {d : Bool} (h : a ≤ j + d.toNat) : a ≤ j + 1 := by have := d.toNat_le; omega
set_option maxHeartbeats 20000000 in
theorem with_pure0 (v : V) (key : ByteArray) (x : V) (hl : v.keys.length = v.items.length) (hn : v.keys.length < 1000000) : Pure Tryz.prog 100 [inj v, .str key, inj x] (inj (refWith v key x)) := by
  refine Pure.of0 ⟨Tryz.f100, Tryz.func100, rfl, by kernel_rfl⟩ (by simp [AV.underL, inj_under, AV.under]) (inj_under _) ?_
  obtain ⟨k, n, t, xs, ks⟩ := v
  simp only [V.keys, V.items] at hl hn
  rw [inj_mk]
  refine acalls_of te_ok [21, 22, 23, 24, 25, 26, 27] Tryz.func100 (c := _) rfl (Nat.le_of_ble_eq_true rfl) ?_
  simp only [aws, eq_self, reduceIte, Nat.reduceAdd, Nat.reduceLT, teset, Tryz.ntmps100, Tryz.results100, inj_one, boxR]
  refine ACallV.det ⟨Tryz.f30, Tryz.func30, rfl, by kernel_rfl⟩ rfl (objnil_calls _) ?_
  simp only [aws, eq_self, reduceIte, Nat.reduceAdd, Nat.reduceLT, Nat.reduceLeDiff, storeB, teset]
  refine ⟨fun n' s' h' => ∃ (j : Nat) (d : Bool) (ok : List ByteArray) (ox : List V) (aK aX : AV), s' 1 = .str key ∧ s' 3 = .ptr 0 0 ∧ s' 5 = .ptr 1 0 ∧ s' 6 = .ptr 2 0 ∧ s' 7 = .ptr 4 0 ∧ s' 8 = .bool d ∧ s' 9 = .int .i64 j ∧ n' + j = ks.length ∧
    h'.box 0 = some [.int .i64 k, .int .i64 n, .str t, .sl .ro 5 (xs.map inj), .sl .ro 1 (ks.map .str)] ∧ h'.box 1 = some (inj x).cells ∧ h'.box 2 = some [.int .i64 0, .int .i64 0, .str ⟨#[]⟩, .sl .full 0 [], .sl .full 0 []] ∧ h'.box 4 = some [.int .i64 5, .int .i64 0, .str ⟨#[]⟩, aX, aK] ∧
    ((ok = [] ∧ ox = [] ∧ aK = .sl .full 0 [] ∧ aX = .sl .full 0 [] ∧ h'.nt = 0) ∨ ∃ g g', aK = .sl (.tok 0 g) 1 (ok.map .str) ∧ aX = .sl (.tok 1 g') 5 (ox.map inj) ∧ h'.nt = 2 ∧ h'.tok 0 = some g ∧ h'.tok 1 = some g') ∧
    ok.length ≤ j + d.toNat ∧ ox.length ≤ j + d.toNat ∧ ok ++ wiK key (ks.drop j) d = wiK key ks false ∧ ox ++ wiX key x (ks.drop j) (xs.drop j) d = wiX key x ks xs false, ⟨ks.length, 0, false, [], [], .sl .full 0 [], .sl .full 0 [], ?_⟩, ?_⟩
  · simp only [aws, eq_self, reduceIte, reduceCtorEq, Nat.reduceAdd, Nat.reduceEqDiff, Int.natCast_zero]
    exact Nat.zero_le _
  · rintro n' s' h' ⟨j, d, ok, ox, aK, aX, e1, e3, e5, e6, e7, e8, e9, hn', b0, b1, b2, b4, hown, hlk, hlx, hK, hX⟩
    have hjm : j < 1000000 := jlt hn' hn
    have hbK := b16 (ld hlk) hjm
    have hbK2 := b16b (ld hlk) hjm
    have hbX := b80 (ld hlx) hjm
    have hbX2 := b80b (ld hlx) hjm
    have hb1 : (0 + 1) * 16 ≤ 140737488355328 := by decide
    have hb2 : (0 + 1 + 1) * 16 ≤ 140737488355328 := by decide
    have hb3 : (0 + 1) * 80 ≤ 140737488355328 := by decide
    have hb4 : (0 + 1 + 1) * 80 ≤ 140737488355328 := by decide
    rcases hown with ⟨hok, hox, rfl, rfl, hnt⟩ | ⟨g, g', rfl, rfl, hnt, hk0, hk1⟩
    · have hk0 : True := trivial
      have hk1 : True := trivial
      simp only [aws, eq_self, reduceIte, Nat.reduceLT, acmpnil, teset, e3, e9, b0, List.length_map]
      cases hc : decide ((j : Int) < (ks.length : Int)) with
      | false =>
        have hjl : ks.length ≤ j := by simp only [decide_eq_false_iff_not] at hc; exact nlt hc
        have hjx : xs.length ≤ j := hl ▸ hjl
        rw [List.drop_eq_nil_of_le hjl] at hK hX
        simp only [aws, eq_self, reduceIte, Nat.reduceLT, Nat.reduceEqDiff, e8]
        cases d with
        | true =>
          have hfin : refWith (.mk k n t xs ks) key x = .mk 5 0 ⟨#[]⟩ ox ok := by
            unfold refWith
            simp only [V.keys, V.items]
            rw [← hK, ← hX]
            simp [wiK, wiX]
          rw [hfin, inj_mk]
          simp only [aws, eq_self, reduceIte, Nat.reduceAdd, Nat.reduceLT, Nat.reduceLeDiff, Nat.reduceEqDiff, storeB, ares1, teset, e6, e7, b2, b4]
          refine ⟨_, rfl, To0.wk (WkAll.cons (.refl _) (.cons (.refl _) (.cons (.refl _) (.cons ?_ (.cons ?_ .nil))))).agg⟩
          · rw [hox]; exact wk_nil5
          · rw [hok]; exact wk_nil1
        | false =>
          have hfin : refWith (.mk k n t xs ks) key x = .mk 5 0 ⟨#[]⟩ (ox ++ [x]) (ok ++ [key]) := by
            unfold refWith
            simp only [V.keys, V.items]
            rw [← hK, ← hX]
            simp [wiK, wiX]
          rw [hfin, inj_mk]
          simp only [aws, eq_self, reduceIte, reduceCtorEq, Nat.reduceAdd, Nat.reduceLT, Nat.reduceLeDiff, Nat.reduceEqDiff, Nat.reduceMul, appBox, storeB, ares1, appendTo, teset, e1, e5, e6, e7, b1, b2, b4, inj_take, inj_agg, inj_len, inj_one, range1, inj_len, inj_one, hnt, hb1, hb3]
          refine .inl (.inl ?_)
          refine ⟨_, rfl, To0.wk (WkAll.cons (.refl _) (.cons (.refl _) (.cons (.refl _) (.cons ?_ (.cons ?_ .nil))))).agg⟩
          · rw [hox]; exact .ro
          · rw [hok]; exact .ro
      | true =>
        simp only [decide_eq_true_eq] at hc
        have hj : j < ks.length := Int.ofNat_lt.1 hc
        have hjx : j < xs.length := hl ▸ hj
        have hgk : (ks.map AV.str)[((j : Nat) : Int).toNat]? = some (.str ks[j]) := by rw [Int.toNat_natCast, List.getElem?_map, List.getElem?_eq_getElem hj]; rfl
        have hgx : (xs.map inj)[((j : Nat) : Int).toNat]? = some (inj xs[j]) := by rw [Int.toNat_natCast, List.getElem?_map, List.getElem?_eq_getElem hjx]; rfl
        rw [List.drop_eq_getElem_cons hj] at hK
        rw [List.drop_eq_getElem_cons hj, List.drop_eq_getElem_cons hjx] at hX
        simp only [wiK] at hK
        simp only [wiX] at hX
        simp only [aws, eq_self, implies_true, imp_self, reduceIte, Nat.reduceLT, Nat.reduceEqDiff, Nat.reduceBEq, teset, e1, e3, e8, e9, b0, hgk, Int.natCast_nonneg]
        have hAe : (!d && !sless ks[j] key) = (!d && !Op.bytesLess ks[j].toList key.toList) := rfl
        have hDe : (d || !sless ks[j] key) = (d || !Op.bytesLess ks[j].toList key.toList) := rfl
        rw [hAe, hDe] at hK hX
        cases hA : (!d && !Op.bytesLess ks[j].toList key.toList) with
        | true =>
          rw [hA, dor1 hA] at hK hX
          have hd := dfalse hA
          simp only [aws, eq_self, reduceIte, reduceCtorEq, Nat.reduceAdd, Nat.reduceLT, Nat.reduceLeDiff, Nat.reduceEqDiff, Nat.reduceMul, acmpnil, appBox, storeB, appendTo, teset, e1, e3, e5, e7, e9, b0, b1, b4, inj_take, inj_agg, inj_len, inj_one, range1, inj_len, inj_one, hgk, Int.natCast_nonneg, hnt, hb1, hb3]
          refine .inl (.inl ?_)
          cases hB : (ks[j].toList == key.toList) with
          | true =>
            rw [hB] at hK hX
            simp only [aws, eq_self, reduceIte, Nat.reduceAdd, Nat.reduceLT, Nat.reduceEqDiff, acmpnil, e1, e3, e5, e6, e7, e8, e9, b0, b1, b2, b4, hnt]
            refine ⟨n' - 1, nlt1 hn' hj, j + 1, true, ok ++ [key], ox ++ [x], _, _, rfl, by rw [wrap_succ (jwrap hjm)], nadd hn' hj, rfl, .inr ⟨0, 0, by simp [hok], by simp [hox], rfl, rfl⟩, by rw [List.length_append]; exact l1 hlk hd, by rw [List.length_append]; exact l1 hlx hd, ?_, ?_⟩
            · rw [← hK]; simp
            · rw [← hX]; simp
          | false =>
            rw [hB] at hK hX
            simp only [aws]
            refine acode_draw_chain te_ok mixed [] (by kernel_rfl) ?_
            simp only [aws, eq_self, reduceIte, reduceCtorEq, Nat.reduceAdd, Nat.reduceLT, Nat.reduceLeDiff, Nat.reduceEqDiff, Nat.reduceMul, appBox, storeB, appendTo, teset, e3, e7, e9, b0, b4, range1, hgk, Int.natCast_nonneg, hnt, hb2, setTok_boxf]
            refine acode_draw_chain te_ok mixed [] (by kernel_rfl) ?_
            simp only [aws, eq_self, implies_true, imp_self, reduceIte, reduceCtorEq, Nat.reduceAdd, Nat.reduceLT, Nat.reduceLeDiff, Nat.reduceEqDiff, Nat.reduceMul, acmpnil, appBox, storeB, appendTo, teset, e1, e3, e5, e6, e7, e8, e9, b0, b1, b2, b4, inj_take, inj_agg, inj_len, inj_one, range1, inj_len, inj_one, hgx, Int.natCast_nonneg, hnt, hb4, setTok_boxf]
            refine ⟨n' - 1, nlt1 hn' hj, j + 1, true, ok ++ [key, ks[j]], ox ++ [x, xs[j]], _, _, rfl, by rw [wrap_succ (jwrap hjm)], nadd hn' hj, rfl, .inr ⟨0 + 1, 0 + 1, by simp [hok], by simp [hox], rfl, rfl⟩, by rw [List.length_append]; exact l2 hlk hd, by rw [List.length_append]; exact l2 hlx hd, ?_, ?_⟩
            · rw [← hK]; simp
            · rw [← hX]; simp
        | false =>
          rw [hA, dor0 hA] at hK hX
          simp only [aws, eq_self, reduceIte, Nat.reduceLT, Nat.reduceEqDiff, acmpnil, teset, e1, e3, e9, b0, hgk, Int.natCast_nonneg]
          cases hB : (ks[j].toList == key.toList) with
          | true =>
            rw [hB] at hK hX
            simp only [aws, eq_self, reduceIte, Nat.reduceLT, Nat.reduceEqDiff, acmpnil, e1, e3, e5, e6, e7, e8, e9, b0, b1, b2, b4, hnt]
            refine ⟨n' - 1, nlt1 hn' hj, j + 1, d, ok, ox, _, _, rfl, by rw [wrap_succ (jwrap hjm)], nadd hn' hj, rfl, .inl ⟨hok, hox, rfl, rfl⟩, l0 hlk, l0 hlx, ?_, ?_⟩
            · rw [← hK]; simp
            · rw [← hX]; simp
          | false =>
            rw [hB] at hK hX
            simp only [aws]
            refine acode_draw_chain te_ok mixed [] (by kernel_rfl) ?_
            simp only [aws, eq_self, reduceIte, reduceCtorEq, Nat.reduceAdd, Nat.reduceLT, Nat.reduceLeDiff, Nat.reduceEqDiff, Nat.reduceMul, appBox, storeB, appendTo, teset, e3, e7, e9, b0, b4, range1, hgk, Int.natCast_nonneg, hnt, hb1, skR_app1, newTok_boxf]
            refine acode_draw_chain te_ok mixed [] (by kernel_rfl) ?_
            simp only [aws, eq_self, implies_true, imp_self, reduceIte, reduceCtorEq, Nat.reduceAdd, Nat.reduceLT, Nat.reduceLeDiff, Nat.reduceEqDiff, Nat.reduceMul, acmpnil, appBox, storeB, appendTo, teset, e1, e3, e5, e6, e7, e8, e9, b0, b1, b2, b4, inj_take, inj_agg, inj_len, inj_one, range1, inj_len, inj_one, hgx, Int.natCast_nonneg, hnt, hb3, skR_app1, newTok_boxf]
            refine ⟨n' - 1, nlt1 hn' hj, j + 1, d, ok ++ [ks[j]], ox ++ [xs[j]], _, _, rfl, by rw [wrap_succ (jwrap hjm)], nadd hn' hj, rfl, .inr ⟨0, 0, by simp [hok], by simp [hox], rfl, rfl⟩, by rw [List.length_append]; exact l3 hlk, by rw [List.length_append]; exact l3 hlx, ?_, ?_⟩
            · rw [← hK]; simp
            · rw [← hX]; simp
    · have hok : True := trivial
      have hox : True := trivial
      simp only [aws, eq_self, reduceIte, Nat.reduceLT, acmpnil, teset, e3, e9, b0, List.length_map]
      cases hc : decide ((j : Int) < (ks.length : Int)) with
      | false =>
        have hjl : ks.length ≤ j := by simp only [decide_eq_false_iff_not] at hc; exact nlt hc
        have hjx : xs.length ≤ j := hl ▸ hjl
        rw [List.drop_eq_nil_of_le hjl] at hK hX
        simp only [aws, eq_self, reduceIte, Nat.reduceLT, Nat.reduceEqDiff, e8]
        cases d with
        | true =>
          have hfin : refWith (.mk k n t xs ks) key x = .mk 5 0 ⟨#[]⟩ ox ok := by
            unfold refWith
            simp only [V.keys, V.items]
            rw [← hK, ← hX]
            simp [wiK, wiX]
          rw [hfin, inj_mk]
          simp only [aws, eq_self, reduceIte, Nat.reduceAdd, Nat.reduceLT, Nat.reduceLeDiff, Nat.reduceEqDiff, storeB, ares1, teset, e6, e7, b2, b4]
          refine ⟨_, rfl, To0.wk (WkAll.cons (.refl _) (.cons (.refl _) (.cons (.refl _) (.cons ?_ (.cons ?_ .nil))))).agg⟩
          · exact .ro
          · exact .ro
        | false =>
          have hfin : refWith (.mk k n t xs ks) key x = .mk 5 0 ⟨#[]⟩ (ox ++ [x]) (ok ++ [key]) := by
            unfold refWith
            simp only [V.keys, V.items]
            rw [← hK, ← hX]
            simp [wiK, wiX]
          rw [hfin, inj_mk]
          simp only [aws, eq_self, reduceIte, reduceCtorEq, Nat.reduceAdd, Nat.reduceLT, Nat.reduceLeDiff, Nat.reduceEqDiff, Nat.reduceMul, appBox, storeB, ares1, appendTo, teset, e1, e5, e6, e7, b1, b2, b4, inj_take, inj_agg, inj_len, inj_one, List.length_map, range1, inj_len, inj_one, hk0, hk1, hbK, hbX]
          refine ⟨_, rfl, To0.wk (WkAll.cons (.refl _) (.cons (.refl _) (.cons (.refl _) (.cons ?_ (.cons ?_ .nil))))).agg⟩
          · rw [List.map_append]; exact .ro
          · rw [List.map_append]; exact .ro
      | true =>
        simp only [decide_eq_true_eq] at hc
        have hj : j < ks.length := Int.ofNat_lt.1 hc
        have hjx : j < xs.length := hl ▸ hj
        have hgk : (ks.map AV.str)[((j : Nat) : Int).toNat]? = some (.str ks[j]) := by rw [Int.toNat_natCast, List.getElem?_map, List.getElem?_eq_getElem hj]; rfl
        have hgx : (xs.map inj)[((j : Nat) : Int).toNat]? = some (inj xs[j]) := by rw [Int.toNat_natCast, List.getElem?_map, List.getElem?_eq_getElem hjx]; rfl
        rw [List.drop_eq_getElem_cons hj] at hK
        rw [List.drop_eq_getElem_cons hj, List.drop_eq_getElem_cons hjx] at hX
        simp only [wiK] at hK
        simp only [wiX] at hX
        simp only [aws, eq_self, implies_true, imp_self, reduceIte, Nat.reduceLT, Nat.reduceEqDiff, Nat.reduceBEq, teset, e1, e3, e8, e9, b0, hgk, Int.natCast_nonneg]
        have hAe : (!d && !sless ks[j] key) = (!d && !Op.bytesLess ks[j].toList key.toList) := rfl
        have hDe : (d || !sless ks[j] key) = (d || !Op.bytesLess ks[j].toList key.toList) := rfl
        rw [hAe, hDe] at hK hX
        cases hA : (!d && !Op.bytesLess ks[j].toList key.toList) with
        | true =>
          rw [hA, dor1 hA] at hK hX
          have hd := dfalse hA
          simp only [aws, eq_self, reduceIte, reduceCtorEq, Nat.reduceAdd, Nat.reduceLT, Nat.reduceLeDiff, Nat.reduceEqDiff, Nat.reduceMul, acmpnil, appBox, storeB, appendTo, teset, e1, e3, e5, e7, e9, b0, b1, b4, inj_take, inj_agg, inj_len, inj_one, List.length_map, range1, inj_len, inj_one, hgk, Int.natCast_nonneg, hk0, hk1, hbK, hbX]
          cases hB : (ks[j].toList == key.toList) with
          | true =>
            rw [hB] at hK hX
            simp only [aws, eq_self, reduceIte, Nat.reduceLT, Nat.reduceEqDiff, acmpnil, e1, e3, e5, e6, e7, e8, e9, b0, b1, b2, b4, hnt, hk0, hk1]
            refine ⟨n' - 1, nlt1 hn' hj, j + 1, true, ok ++ [key], ox ++ [x], _, _, rfl, by rw [wrap_succ (jwrap hjm)], nadd hn' hj, rfl, .inr ⟨g + 1, g' + 1, by simp [hok], by simp [hok], rfl, rfl⟩, by rw [List.length_append]; exact l1 hlk hd, by rw [List.length_append]; exact l1 hlx hd, ?_, ?_⟩
            · rw [← hK]; simp
            · rw [← hX]; simp
          | false =>
            rw [hB] at hK hX
            simp only [aws]
            refine acode_draw_chain te_ok mixed [] (by kernel_rfl) ?_
            simp only [aws, eq_self, reduceIte, reduceCtorEq, Nat.reduceAdd, Nat.reduceLT, Nat.reduceLeDiff, Nat.reduceEqDiff, Nat.reduceMul, appBox, storeB, appendTo, teset, e3, e7, e9, b0, b4, List.length_map, range1, hgk, Int.natCast_nonneg, hk0, hbK2, setTok_boxf, List.length_append]
            refine acode_draw_chain te_ok mixed [] (by kernel_rfl) ?_
            simp only [aws, eq_self, implies_true, imp_self, reduceIte, reduceCtorEq, Nat.reduceAdd, Nat.reduceLT, Nat.reduceLeDiff, Nat.reduceEqDiff, Nat.reduceMul, acmpnil, appBox, storeB, appendTo, teset, e1, e3, e5, e6, e7, e8, e9, b0, b1, b2, b4, inj_take, inj_agg, inj_len, inj_one, List.length_map, range1, inj_len, inj_one, hgx, Int.natCast_nonneg, hnt, hk0, hk1, hbX2, setTok_boxf, List.length_append]
            refine ⟨n' - 1, nlt1 hn' hj, j + 1, true, ok ++ [key, ks[j]], ox ++ [x, xs[j]], _, _, rfl, by rw [wrap_succ (jwrap hjm)], nadd hn' hj, rfl, .inr ⟨g + 1 + 1, g' + 1 + 1, by simp [hok], by simp [hok], rfl, rfl⟩, by rw [List.length_append]; exact l2 hlk hd, by rw [List.length_append]; exact l2 hlx hd, ?_, ?_⟩
            · rw [← hK]; simp
            · rw [← hX]; simp
        | false =>
          rw [hA, dor0 hA] at hK hX
          simp only [aws, eq_self, reduceIte, Nat.reduceLT, Nat.reduceEqDiff, acmpnil, teset, e1, e3, e9, b0, hgk, Int.natCast_nonneg]
          cases hB : (ks[j].toList == key.toList) with
          | true =>
            rw [hB] at hK hX
            simp only [aws, eq_self, reduceIte, Nat.reduceLT, Nat.reduceEqDiff, acmpnil, e1, e3, e5, e6, e7, e8, e9, b0, b1, b2, b4, hnt, hk0, hk1]
            refine ⟨n' - 1, nlt1 hn' hj, j + 1, d, ok, ox, _, _, rfl, by rw [wrap_succ (jwrap hjm)], nadd hn' hj, rfl, .inr ⟨g, g', rfl, rfl, rfl, rfl⟩, l0 hlk, l0 hlx, ?_, ?_⟩
            · rw [← hK]; simp
            · rw [← hX]; simp
          | false =>
            rw [hB] at hK hX
            simp only [aws]
            refine acode_draw_chain te_ok mixed [] (by kernel_rfl) ?_
            simp only [aws, eq_self, reduceIte, reduceCtorEq, Nat.reduceAdd, Nat.reduceLT, Nat.reduceLeDiff, Nat.reduceEqDiff, Nat.reduceMul, appBox, storeB, appendTo, teset, e3, e7, e9, b0, b4, List.length_map, range1, hgk, Int.natCast_nonneg, hk0, hbK, setTok_boxf]
            refine acode_draw_chain te_ok mixed [] (by kernel_rfl) ?_
            simp only [aws, eq_self, implies_true, imp_self, reduceIte, reduceCtorEq, Nat.reduceAdd, Nat.reduceLT, Nat.reduceLeDiff, Nat.reduceEqDiff, Nat.reduceMul, acmpnil, appBox, storeB, appendTo, teset, e1, e3, e5, e6, e7, e8, e9, b0, b1, b2, b4, inj_take, inj_agg, inj_len, inj_one, List.length_map, range1, inj_len, inj_one, hgx, Int.natCast_nonneg, hnt, hk0, hk1, hbX, setTok_boxf]
            refine ⟨n' - 1, nlt1 hn' hj, j + 1, d, ok ++ [ks[j]], ox ++ [xs[j]], _, _, rfl, by rw [wrap_succ (jwrap hjm)], nadd hn' hj, rfl, .inr ⟨g + 1, g' + 1, by simp [hok], by simp [hok], rfl, rfl⟩, by rw [List.length_append]; exact l3 hlk, by rw [List.length_append]; exact l3 hlx, ?_, ?_⟩
            · rw [← hK]; simp
            · rw [← hX]; simp
end Go.Proofs.YtjdocenbfghglaaGreatDoor.AW
end
section
set_option linter.unusedSimpArgs false
set_option linter.unusedVariables false
namespace Go.Proofs.YtjdocenbfghglaaGreatDoor.AW
open Go Go.RowKit

theorem asc_pw {ks : List ByteArray} (h : Asc ks) : ks.Pairwise fun a b => sless a b = true := by
  rw [List.pairwise_iff_getElem]
  intro i j hi hj hij
  exact h.lt (j - i - 1) i _ _ (List.getElem?_eq_getElem hi) (by rw [show i + (j - i - 1) + 1 = j by omega]; exact List.getElem?_eq_getElem hj)
theorem pw_asc {ks : List ByteArray} (h : ks.Pairwise fun a b => sless a b = true) : Asc ks := by
  intro i x y hx hy
  obtain ⟨hi, rfl⟩ := List.getElem?_eq_some_iff.1 hx
  obtain ⟨hj, rfl⟩ := List.getElem?_eq_some_iff.1 hy
  exact List.pairwise_iff_getElem.1 h i (i + 1) hi hj (by omega)
theorem keysOk_text {ks : List ByteArray} (h : keysOk ks = true) : ∀ k ∈ ks, isText k = true := by
  intro k hk
  obtain ⟨i, hi, rfl⟩ := List.getElem_of_mem hk
  unfold keysOk at h
  rw [List.all_eq_true] at h
  have := h i (List.mem_range.2 hi)
  unfold keyOk at this
  rw [Bool.and_eq_true, List.getD_eq_getElem?_getD, List.getElem?_eq_getElem hi] at this
  exact this.1
theorem keysOk_of {ks : List ByteArray} (h1 : ∀ k ∈ ks, isText k = true) (h2 : Asc ks) : keysOk ks = true := by
  unfold keysOk
  rw [List.all_eq_true]
  intro i hi
  have hi := List.mem_range.1 hi
  unfold keyOk
  rw [Bool.and_eq_true, List.getD_eq_getElem?_getD, List.getElem?_eq_getElem hi]
  refine ⟨h1 _ (List.getElem_mem hi), ?_⟩
  cases i with
  | zero => rfl
  | succ i =>
    rw [Bool.or_eq_true]
    right
    rw [Nat.add_sub_cancel, List.getD_eq_getElem?_getD, List.getElem?_eq_getElem (show i < ks.length by omega)]
    exact h2 i _ _ (List.getElem?_eq_getElem (by omega)) (List.getElem?_eq_getElem hi)
/-- An object's fields. -/
def OK5 (v : V) : Prop := v.kind = 5 ∧ v.int = 0 ∧ v.text = ⟨#[]⟩ ∧ v.keys.length = v.items.length ∧ Asc v.keys ∧ ∀ k ∈ v.keys, isText k = true
theorem Wok.ok5 {v : V} (hv : Wok v) (h5 : v.kind = 5) : OK5 v := by
  obtain ⟨h1, h2, h3, h4⟩ := shape5 hv h5
  refine ⟨h5, h1, h2, h3, h4, ?_⟩
  have hs := hv.shape.1
  obtain ⟨k, i, t, xs, ks⟩ := v
  simp only [V.kind] at h5
  subst h5
  rw [shape_5, Bool.and_eq_true] at hs
  exact keysOk_text hs.2
theorem OK5.wok {v : V} (h : OK5 v) (hl : v.items.length ≤ 1000) (hi : ∀ x ∈ v.items, Wok x) : Wok v := by
  obtain ⟨k, i, t, xs, ks⟩ := v
  obtain ⟨h1, h2, h3, h4, h5, h6⟩ := h
  simp only [V.kind, V.int, V.text, V.items, V.keys] at h1 h2 h3 h4 h5 h6 hl hi
  subst h1 h2 h3
  rw [Wok]
  refine ⟨?_, hl, WokL_iff.2 hi⟩
  rw [shape_5, keysOk_of h6 h5]
  simp [plainS, V.int, V.text, h4]
theorem lb_before2 {ks : List ByteArray} {k : ByteArray} : ∀ x ∈ ks.take (lb ks k), sless x k = true := by
  intro x hx
  obtain ⟨j, hj⟩ := List.mem_iff_getElem?.1 hx
  rw [List.getElem?_take] at hj
  split at hj
  · next hlt =>
    have h1 := List.not_of_lt_findIdx (p := fun x => !sless x k) (xs := ks) (i := j) hlt
    have he := (List.getElem?_eq_some_iff.1 hj).2
    rw [he] at h1; simpa using h1
  · cases hj
theorem lb_behind {ks : List ByteArray} {k : ByteArray} (ha : Asc ks) : ∀ x ∈ ks.drop (lb ks k), sless x k = false := by
  intro x hx
  obtain ⟨j, hj⟩ := List.mem_iff_getElem?.1 hx
  rw [List.getElem?_drop] at hj
  obtain ⟨hlt, he⟩ := List.getElem?_eq_some_iff.1 hj
  rw [Bool.eq_false_iff]
  intro hq
  have := lb_lt ha hlt (by rw [he]; exact hq)
  omega
theorem sless_tri {a b : ByteArray} (h1 : sless a b = false) (h2 : a ≠ b) : sless b a = true := by
  cases h : sless b a with
  | true => rfl
  | false => exact absurd (ba_ext (bl_total (x := a.toList) (y := b.toList) h1 h)) h2
theorem found_not {ks : List ByteArray} {k : ByteArray} (ha : Asc ks) (hf : foundS ks k = false) : k ∉ ks := by
  intro hk
  obtain ⟨i, hi, he⟩ := List.getElem_of_mem hk
  have hself : sless k k = false := by unfold sless; exact bl_irrefl _
  have h1 : lb ks k ≤ i := lb_ge hi (by rw [he]; exact hself)
  have hl : lb ks k < ks.length := by omega
  have hb := lb_behind (k := k) ha ks[lb ks k] (by
    rw [List.mem_iff_getElem?]
    exact ⟨0, by rw [List.getElem?_drop, Nat.add_zero]; exact List.getElem?_eq_getElem hl⟩)
  unfold foundS at hf
  rw [List.getElem?_eq_getElem hl] at hf
  have hne : ks[lb ks k] ≠ k := fun e => by rw [e] at hf; simp at hf
  have h2 := sless_tri hb hne
  rcases Nat.eq_or_lt_of_le h1 with e | e
  · subst e; exact hne he
  · have h3 := List.pairwise_iff_getElem.1 (asc_pw ha) (lb ks k) i hl hi e
    rw [he] at h3
    rw [hb] at h3; cases h3
theorem ins_asc {ks : List ByteArray} {k : ByteArray} (ha : Asc ks) (hf : foundS ks k = false) : Asc (ks.take (lb ks k) ++ k :: ks.drop (lb ks k)) := by
  have hp := asc_pw ha
  have hn := found_not ha hf
  apply pw_asc
  rw [List.pairwise_append]
  refine ⟨hp.sublist (List.take_sublist _ _), ?_, ?_⟩
  · rw [List.pairwise_cons]
    refine ⟨fun x hx => sless_tri (lb_behind ha x hx) (fun e => hn (by rw [← e]; exact List.mem_of_mem_drop hx)), hp.sublist (List.drop_sublist _ _)⟩
  · intro x hx y hy
    rcases List.mem_cons.1 hy with rfl | hy
    · exact lb_before2 x hx
    · have h1 := lb_before2 x hx
      have h2 : sless k y = true := sless_tri (lb_behind ha y hy) (fun e => hn (by rw [← e]; exact List.mem_of_mem_drop hy))
      exact bl_trans h1 h2
theorem found_lt {ks : List ByteArray} {k : ByteArray} (hf : foundS ks k = true) : lb ks k < ks.length := by
  unfold foundS at hf
  split at hf
  · next h => exact (List.getElem?_eq_some_iff.1 h).1
  · cases hf
theorem set_ok5 {v : V} {k : ByteArray} {y : V} (h : OK5 v) (hk : isText k = true) : OK5 (setK v k y) := by
  obtain ⟨h1, h2, h3, h4, h5, h6⟩ := h
  unfold setK
  split
  · next hf =>
    have hlt := found_lt hf
    refine ⟨h1, h2, h3, ?_, h5, h6⟩
    show v.keys.length = (v.items.take (lb v.keys k) ++ y :: v.items.drop (min (lb v.keys k + 1) v.items.length)).length
    rw [List.length_append, List.length_cons, List.length_take, List.length_drop]; omega
  · next hf =>
    have hf : foundS v.keys k = false := by simpa using hf
    have hle := lb_le v.keys k
    refine ⟨h1, h2, h3, ?_, ins_asc h5 hf, ?_⟩
    · show (v.keys.take (lb v.keys k) ++ k :: v.keys.drop (lb v.keys k)).length = (v.items.take (lb v.keys k) ++ y :: v.items.drop (lb v.keys k)).length
      rw [List.length_append, List.length_cons, List.length_take, List.length_drop, List.length_append, List.length_cons, List.length_take, List.length_drop]; omega
    · intro x hx
      rcases List.mem_append.1 hx with hx | hx
      · exact h6 x (List.mem_of_mem_take hx)
      · rcases List.mem_cons.1 hx with rfl | hx
        · exact hk
        · exact h6 x (List.mem_of_mem_drop hx)
theorem set_items {v : V} {k : ByteArray} {y : V} : ∀ x ∈ (setK v k y).items, x = y ∨ x ∈ v.items := by
  intro x hx
  unfold setK at hx
  split at hx
  · have hx : x ∈ v.items.take (lb v.keys k) ++ y :: v.items.drop (min (lb v.keys k + 1) v.items.length) := hx
    rcases List.mem_append.1 hx with hx | hx
    · exact .inr (List.mem_of_mem_take hx)
    · rcases List.mem_cons.1 hx with rfl | hx
      · exact .inl rfl
      · exact .inr (List.mem_of_mem_drop hx)
  · have hx : x ∈ v.items.take (lb v.keys k) ++ y :: v.items.drop (lb v.keys k) := hx
    rcases List.mem_append.1 hx with hx | hx
    · exact .inr (List.mem_of_mem_take hx)
    · rcases List.mem_cons.1 hx with rfl | hx
      · exact .inl rfl
      · exact .inr (List.mem_of_mem_drop hx)
theorem setK_len {v : V} {k : ByteArray} {y : V} (h : v.keys.length = v.items.length) : (setK v k y).items.length ≤ v.items.length + 1 := by
  unfold setK
  have hle := lb_le v.keys k
  split
  · next hf =>
    have hlt := found_lt hf
    show (v.items.take (lb v.keys k) ++ y :: v.items.drop (min (lb v.keys k + 1) v.items.length)).length ≤ _
    rw [List.length_append, List.length_cons, List.length_take, List.length_drop]; omega
  · show (v.items.take (lb v.keys k) ++ y :: v.items.drop (lb v.keys k)).length ≤ _
    rw [List.length_append, List.length_cons, List.length_take, List.length_drop]; omega
theorem del_ok5 {v : V} (h : OK5 v) (i : Nat) : OK5 (delV v i) := by
  obtain ⟨h1, h2, h3, h4, h5, h6⟩ := h
  have hk : (delV v i).keys = v.keys.eraseIdx i := by unfold delV; rw [if_pos h1]; rfl
  refine ⟨h1, h2, h3, ?_, ?_, ?_⟩
  · rw [hk]
    show _ = (v.items.eraseIdx i).length
    rw [List.length_eraseIdx, List.length_eraseIdx, h4]
  · rw [hk]; exact pw_asc ((asc_pw h5).sublist (List.eraseIdx_sublist _ _))
  · rw [hk]; exact fun x hx => h6 x (List.mem_of_mem_eraseIdx hx)
theorem del_items {v : V} {i : Nat} : ∀ x ∈ (delV v i).items, x ∈ v.items := fun x hx => List.mem_of_mem_eraseIdx hx
theorem del_len {v : V} {i : Nat} : (delV v i).items.length ≤ v.items.length := by
  show (v.items.eraseIdx i).length ≤ _
  rw [List.length_eraseIdx]; split <;> omega
def keyS (k : ByteArray) : Stp := ⟨-1, k⟩
theorem key_neg (k : ByteArray) : (keyS k).index < 0 := by show (-1 : Int) < 0; decide
theorem key_not (k : ByteArray) : ¬ 0 ≤ (keyS k).index := by show ¬ (0 : Int) ≤ -1; decide
theorem kindOf_key (k : ByteArray) : kindOf (keyS k) = 5 := if_pos (key_neg k)
theorem empty5 : OK5 (emptyV 5) := ⟨rfl, rfl, rfl, rfl, fun i x y hx _ => (by cases hx), fun k hk => (by cases hk)⟩
/-- What stands at a key. -/
def lk : List ByteArray → List V → ByteArray → Option V
  | k :: ks, x :: xs, q => if k = q then some x else lk ks xs q
  | _, _, _ => none
theorem lk_mem : ∀ {ks : List ByteArray} {xs : List V} {q : ByteArray} {x : V}, lk ks xs q = some x → x ∈ xs ∧ q ∈ ks
  | [], _, _, _, h => by cases h
  | _ :: _, [], _, _, h => by cases h
  | k :: ks, y :: xs, q, x, h => by
    rw [lk] at h
    split at h
    · next e => injection h with h; subst h e; exact ⟨List.mem_cons_self, List.mem_cons_self⟩
    · have := lk_mem h
      exact ⟨List.mem_cons_of_mem _ this.1, List.mem_cons_of_mem _ this.2⟩
theorem lk_erase : ∀ (ks : List ByteArray) (xs : List V) (i : Nat) (k0 q : ByteArray), ks[i]? = some k0 → k0 ≠ q → ks.length = xs.length → lk (ks.eraseIdx i) (xs.eraseIdx i) q = lk ks xs q
  | [], _, _, _, _, h, _, _ => by simp at h
  | _ :: _, [], _, _, _, _, _, h => by simp at h
  | k :: ks, x :: xs, 0, k0, q, h, hn, _ => by
    simp at h
    subst h
    rw [List.eraseIdx_cons_zero, List.eraseIdx_cons_zero, lk, if_neg hn]
  | k :: ks, x :: xs, i + 1, k0, q, h, hn, hl => by
    rw [List.eraseIdx_cons_succ, List.eraseIdx_cons_succ, lk, lk]
    rw [lk_erase ks xs i k0 q (by simpa using h) hn (by simpa using hl)]
theorem lk_ins : ∀ (ks : List ByteArray) (xs : List V) (n : Nat) (k0 q : ByteArray) (y : V), k0 ≠ q → ks.length = xs.length → lk (ks.take n ++ k0 :: ks.drop n) (xs.take n ++ y :: xs.drop n) q = lk ks xs q
  | ks, xs, 0, k0, q, y, hn, _ => by
    show lk (k0 :: ks) (y :: xs) q = _
    rw [lk, if_neg hn]
  | [], [], n + 1, k0, q, y, hn, _ => by
    show lk [k0] [y] q = _
    rw [lk, if_neg hn]
  | [], _ :: _, n + 1, _, _, _, _, h => by simp at h
  | _ :: _, [], n + 1, _, _, _, _, h => by simp at h
  | k :: ks, x :: xs, n + 1, k0, q, y, hn, hl => by
    show lk (k :: (ks.take n ++ k0 :: ks.drop n)) (x :: (xs.take n ++ y :: xs.drop n)) q = _
    rw [lk, lk, lk_ins ks xs n k0 q y hn (by simpa using hl)]
theorem lk_with : ∀ (ks : List ByteArray) (xs : List V) (n : Nat) (k0 q : ByteArray) (y : V), ks[n]? = some k0 → k0 ≠ q → ks.length = xs.length → lk ks (xs.take n ++ y :: xs.drop (n + 1)) q = lk ks xs q
  | [], _, _, _, _, _, h, _, _ => by simp at h
  | _ :: _, [], _, _, _, _, _, _, h => by simp at h
  | k :: ks, x :: xs, 0, k0, q, y, h, hn, _ => by
    simp at h
    subst h
    show lk (k :: ks) (y :: xs) q = _
    rw [lk, lk, if_neg hn, if_neg hn]
  | k :: ks, x :: xs, n + 1, k0, q, y, h, hn, hl => by
    show lk (k :: ks) (x :: (xs.take n ++ y :: xs.drop (n + 1))) q = _
    rw [lk, lk, lk_with ks xs n k0 q y (by simpa using h) hn (by simpa using hl)]
theorem itemS_lk {v : V} (h5 : v.kind = 5) (k : ByteArray) : itemS v (keyS k) = lk v.keys v.items k := by
  have key : ∀ (ks : List ByteArray) (xs : List V), ((ks.findIdx? fun x => x.toList == k.toList).bind fun i => xs[i]?) = lk ks xs k := by
    intro ks
    induction ks with
    | nil => intro xs; cases xs <;> rfl
    | cons q ks ih =>
      intro xs
      rw [List.findIdx?_cons]
      cases xs with
      | nil =>
        show _ = none
        split <;> simp
      | cons x xs =>
        rw [lk]
        by_cases e : q = k
        · rw [if_pos (by rw [e]; simp), if_pos e]; rfl
        · have hne : ¬ ((q.toList == k.toList) = true) := fun h => e (ba_ext (by simpa using h))
          rw [if_neg hne, if_neg e, ← ih xs]
          cases List.findIdx? (fun x => x.toList == k.toList) ks <;> simp
  unfold itemS
  rw [if_neg (show ¬ (0 : Int) ≤ (keyS k).index from key_not k), if_pos h5]
  exact key v.keys v.items
theorem lk_set {v : V} {k q : ByteArray} {y : V} (h : OK5 v) (hne : k ≠ q) : lk (setK v k y).keys (setK v k y).items q = lk v.keys v.items q := by
  obtain ⟨h1, h2, h3, h4, h5, h6⟩ := h
  unfold setK
  split
  · next hf =>
    have hlt := found_lt hf
    show lk v.keys (v.items.take (lb v.keys k) ++ y :: v.items.drop (min (lb v.keys k + 1) v.items.length)) q = _
    rw [show min (lb v.keys k + 1) v.items.length = lb v.keys k + 1 by omega]
    exact lk_with v.keys v.items _ k q y (found_at hf) hne h4
  · exact lk_ins v.keys v.items _ k q y hne h4
theorem lk_del {v : V} {k q : ByteArray} (h : OK5 v) (hf : foundS v.keys k = true) (hne : k ≠ q) : lk (delV v (lb v.keys k)).keys (delV v (lb v.keys k)).items q = lk v.keys v.items q := by
  obtain ⟨h1, h2, h3, h4, h5, h6⟩ := h
  have hk : (delV v (lb v.keys k)).keys = v.keys.eraseIdx (lb v.keys k) := by unfold delV; rw [if_pos h1]; rfl
  rw [hk]
  exact lk_erase v.keys v.items _ k q (found_at hf) hne h4
theorem without_one {v : V} (h5 : v.kind = 5) (k : ByteArray) : withoutP [keyS k] v = delV v (lb v.keys k) := by
  show delV v (itemP v (keyS k)).1.toNat = _
  rw [itemP_5 (key_neg k) h5]
  rfl
theorem put_one {v : V} (h5 : v.kind = 5) (k : ByteArray) (y : V) : putP [keyS k] v y = (setK v k y, 0) := by
  rw [putP, if_neg (by omega), if_neg (by rw [h5, kindOf_key]; decide)]
  unfold putIn
  rw [if_neg (by show ¬ (v.items.length : Int) < -1; omega), if_neg (fun (h : ((fun old => putP [] old y) (oldV v (keyS k))).2 ≠ 0) => h rfl), itemP_5 (key_neg k) h5]
  unfold setK
  by_cases hf : foundS v.keys k = true
  · rw [if_pos (.inl hf), if_pos hf]; rfl
  · rw [if_neg (by rintro (h | h); exact hf h; exact absurd h (key_not k)), if_neg hf]; rfl
theorem item_found5 {v : V} (h : OK5 v) (k : ByteArray) : (itemS v (keyS k)).isSome = foundS v.keys k := by
  rw [itemS_lk h.1]
  cases hf : foundS v.keys k with
  | true =>
    have h1 := found_at hf
    have key : ∀ (ks : List ByteArray) (xs : List V) (i : Nat), ks[i]? = some k → ks.length = xs.length → (lk ks xs k).isSome = true := by
      intro ks
      induction ks with
      | nil => intro xs i h; simp at h
      | cons q ks ih =>
        intro xs i hi hl
        cases xs with
        | nil => simp at hl
        | cons x xs =>
          rw [lk]
          by_cases e : q = k
          · rw [if_pos e]; rfl
          · rw [if_neg e]
            cases i with
            | zero => simp at hi; exact absurd hi e
            | succ i => exact ih xs i (by simpa using hi) (by simpa using hl)
    exact key _ _ _ h1 h.2.2.2.1
  | false =>
    have hn := found_not h.2.2.2.2.1 hf
    cases hq : lk v.keys v.items k with
    | none => rfl
    | some x => exact absurd (lk_mem hq).2 hn
end Go.Proofs.YtjdocenbfghglaaGreatDoor.AW
end
section
set_option linter.unusedSimpArgs false
set_option linter.unusedVariables false
namespace Go.Proofs.YtjdocenbfghglaaGreatDoor.AW
open Go Go.RowKit

mutual
def mergeV : V → V → V
  | a, .mk k i t xs ks => if k = 5 then mergeL (if a.kind = 5 then a else emptyV 5) xs ks else .mk k i t xs ks
def mergeL : V → List V → List ByteArray → V
  | a, [], _ => a
  | a, _ :: _, [] => a
  | a, x :: xs, k :: ks => mergeL (if x.kind = 0 then (if foundS a.keys k = true then delV a (lb a.keys k) else a) else setK a k (mergeV ((lk a.keys a.items k).getD zeroV) x)) xs ks
end
/-- One key of a merging. -/
def stepV (a : V) (k : ByteArray) (x : V) : V := if x.kind = 0 then (if foundS a.keys k = true then delV a (lb a.keys k) else a) else setK a k (mergeV ((lk a.keys a.items k).getD zeroV) x)
theorem mergeL_cons (a x : V) (xs : List V) (k : ByteArray) (ks : List ByteArray) : mergeL a (x :: xs) (k :: ks) = mergeL (stepV a k x) xs ks := by rw [mergeL]; rfl
/-- What holds while one merges: the items that will be asked for are as they were. -/
def MI (a : V) (n : Nat) (ks : List ByteArray) : Prop := OK5 a ∧ (∀ x ∈ a.items, Wok x) ∧ a.items.length + n ≤ 120 ∧ ∀ k ∈ ks, ∀ o, lk a.keys a.items k = some o → Vok o
theorem MI.wok {a : V} {n : Nat} {ks : List ByteArray} (h : MI a n ks) : Wok a := h.1.wok (by have := h.2.2.1; omega) h.2.1
theorem MI.old {a : V} {n : Nat} {k : ByteArray} {ks : List ByteArray} (h : MI a n (k :: ks)) : Vok ((lk a.keys a.items k).getD zeroV) := by
  cases hq : lk a.keys a.items k with
  | none => exact zero_ok
  | some o => exact h.2.2.2 k List.mem_cons_self o hq
theorem MI.step {a x : V} {n : Nat} {k : ByteArray} {ks : List ByteArray} (h : MI a (n + 1) (k :: ks)) (hk : isText k = true) (hd : ∀ q ∈ ks, k ≠ q) (hm : Wok (mergeV ((lk a.keys a.items k).getD zeroV) x)) : MI (stepV a k x) n ks := by
  obtain ⟨h1, h2, h3, h4⟩ := h
  unfold stepV
  split
  · split
    · next hf =>
      refine ⟨del_ok5 h1 _, fun y hy => h2 y (del_items y hy), ?_, fun q hq o ho => ?_⟩
      · have := del_len (v := a) (i := lb a.keys k); omega
      · rw [lk_del h1 hf (hd q hq)] at ho
        exact h4 q (List.mem_cons_of_mem _ hq) o ho
    · exact ⟨h1, h2, by omega, fun q hq => h4 q (List.mem_cons_of_mem _ hq)⟩
  · refine ⟨set_ok5 h1 hk, fun y hy => ?_, ?_, fun q hq o ho => ?_⟩
    · rcases set_items y hy with rfl | hy
      · exact hm
      · exact h2 y hy
    · have := setK_len (v := a) (k := k) (y := mergeV ((lk a.keys a.items k).getD zeroV) x) h1.2.2.2.1; omega
    · rw [lk_set h1 (hd q hq)] at ho
      exact h4 q (List.mem_cons_of_mem _ hq) o ho
theorem MI.start {a : V} {n : Nat} (ha : Vok a) (hn : n ≤ 60) (ks : List ByteArray) : MI (if a.kind = 5 then a else emptyV 5) n ks := by
  split
  · next h5 =>
    have hw := ha.w
    refine ⟨hw.ok5 h5, fun x hx => (ha.items x hx).w, by have := ha.shape.2; omega, fun q _ o ho => ha.items o (lk_mem ho).1⟩
  · exact ⟨empty5, fun x hx => (by cases hx), (by show 0 + n ≤ 120; omega), fun q _ o ho => (by have := (lk_mem ho).1; cases this)⟩
theorem mergeL_MI : ∀ (xs : List V) (ks : List ByteArray) (a : V), MI a xs.length ks → ks.length = xs.length → (∀ k ∈ ks, isText k = true) → (ks.Pairwise fun p q => sless p q = true) → (∀ x ∈ xs, ∀ o, Vok o → Wok (mergeV o x)) → Wok (mergeL a xs ks)
  | [], ks, a, h, _, _, _, _ => by rw [mergeL]; exact h.wok
  | x :: xs, [], a, h, hl, _, _, _ => by simp at hl
  | x :: xs, k :: ks, a, h, hl, ht, hp, ih => by
    rw [mergeL_cons]
    rw [List.pairwise_cons] at hp
    refine mergeL_MI xs ks _ (MI.step h (ht k List.mem_cons_self) (fun q hq e => ?_) (ih x List.mem_cons_self _ h.old)) (by simpa using hl) (fun q hq => ht q (List.mem_cons_of_mem _ hq)) hp.2 (fun y hy => ih y (List.mem_cons_of_mem _ hy))
    have := hp.1 q hq
    subst e
    unfold sless at this
    rw [bl_irrefl] at this; cases this
theorem merge_wok : ∀ (b a : V), Vok a → Vok b → Wok (mergeV a b) := by
  intro b
  induction b using V.ind with
  | h k i t xs ks ih =>
    intro a ha hb
    rw [mergeV]
    split
    · next h5 =>
      have hw := hb.w.ok5 h5
      obtain ⟨_, _, _, h4, h5', h6⟩ := hw
      have hlen : xs.length ≤ 60 := hb.shape.2
      exact mergeL_MI xs ks _ (MI.start ha hlen ks) h4 h6 (asc_pw h5') (fun x hx o ho => ih x hx o ho (hb.items x hx))
    · exact hb.w
end Go.Proofs.YtjdocenbfghglaaGreatDoor.AW
end
section
set_option linter.unusedSimpArgs false
set_option linter.unusedVariables false
namespace Go.Proofs.YtjdocenbfghglaaGreatDoor.AW
open Go Go.RowKit

theorem pw_not {k : ByteArray} {ks : List ByteArray} (h : (k :: ks).Pairwise fun a b => sless a b = true) : k ∉ ks := by
  intro hk
  rw [List.pairwise_cons] at h
  have := h.1 k hk
  unfold sless at this
  rw [bl_irrefl] at this; cases this
theorem asc_ext : ∀ (ks ls : List ByteArray), (ks.Pairwise fun a b => sless a b = true) → (ls.Pairwise fun a b => sless a b = true) → (∀ q, q ∈ ks ↔ q ∈ ls) → ks = ls
  | [], [], _, _, _ => rfl
  | [], l :: ls, _, _, h => by have := (h l).2 List.mem_cons_self; cases this
  | k :: ks, [], _, _, h => by have := (h k).1 List.mem_cons_self; cases this
  | k :: ks, l :: ls, h1, h2, h => by
    have hkl : k = l := by
      rcases List.mem_cons.1 ((h k).1 List.mem_cons_self) with e | e
      · exact e
      · rcases List.mem_cons.1 ((h l).2 List.mem_cons_self) with e2 | e2
        · exact e2.symm
        · have g1 := (List.pairwise_cons.1 h2).1 k e
          have g2 := (List.pairwise_cons.1 h1).1 l e2
          have := bl_asymm (x := l.toList) (y := k.toList) g1
          rw [show Op.bytesLess k.toList l.toList = true from g2] at this; cases this
    subst hkl
    have n1 := pw_not h1
    have n2 := pw_not h2
    rw [asc_ext ks ls (List.pairwise_cons.1 h1).2 (List.pairwise_cons.1 h2).2 (fun q => ?_)]
    constructor
    · intro hq
      rcases List.mem_cons.1 ((h q).1 (List.mem_cons_of_mem _ hq)) with e | e
      · subst e; exact absurd hq n1
      · exact e
    · intro hq
      rcases List.mem_cons.1 ((h q).2 (List.mem_cons_of_mem _ hq)) with e | e
      · subst e; exact absurd hq n2
      · exact e
theorem lk_none {ks : List ByteArray} {xs : List V} {q : ByteArray} (h : q ∉ ks) : lk ks xs q = none := by
  cases hq : lk ks xs q with
  | none => rfl
  | some x => exact absurd (lk_mem hq).2 h
theorem lk_some : ∀ {ks : List ByteArray} {xs : List V} {q : ByteArray}, q ∈ ks → ks.length = xs.length → ∃ x, lk ks xs q = some x
  | [], _, _, h, _ => by cases h
  | _ :: _, [], _, _, h => by simp at h
  | k :: ks, x :: xs, q, h, hl => by
    rw [lk]
    by_cases e : k = q
    · exact ⟨x, if_pos e⟩
    · rw [if_neg e]
      rcases List.mem_cons.1 h with e2 | h
      · exact absurd e2.symm e
      · exact lk_some h (by simpa using hl)
theorem items_ext : ∀ (ks : List ByteArray) (xs ys : List V), (ks.Pairwise fun a b => sless a b = true) → ks.length = xs.length → ks.length = ys.length → (∀ q, lk ks xs q = lk ks ys q) → xs = ys
  | [], [], [], _, _, _, _ => rfl
  | [], _ :: _, _, _, h, _, _ => by simp at h
  | [], [], _ :: _, _, _, h, _ => by simp at h
  | _ :: _, [], _, _, h, _, _ => by simp at h
  | _ :: _, _ :: _, [], _, _, h, _ => by simp at h
  | k :: ks, x :: xs, y :: ys, hp, h1, h2, h => by
    have hk := h k
    rw [lk, lk, if_pos rfl, if_pos rfl] at hk
    injection hk with hk
    have hn := pw_not hp
    rw [hk, items_ext ks xs ys (List.pairwise_cons.1 hp).2 (by simpa using h1) (by simpa using h2) (fun q => ?_)]
    by_cases e : k = q
    · subst e
      rw [lk_none hn, lk_none hn]
    · have := h q
      rw [lk, lk, if_neg e, if_neg e] at this
      exact this
/-- What is the same at every key is the same. -/
theorem ext5 {v w : V} (hv : OK5 v) (hw : OK5 w) (h : ∀ q, lk v.keys v.items q = lk w.keys w.items q) : v = w := by
  obtain ⟨a1, a2, a3, a4, a5, a6⟩ := hv
  obtain ⟨b1, b2, b3, b4, b5, b6⟩ := hw
  obtain ⟨k, i, t, xs, ks⟩ := v
  obtain ⟨k', i', t', ys, ls⟩ := w
  simp only [V.kind, V.int, V.text, V.items, V.keys] at a1 a2 a3 a4 a5 a6 b1 b2 b3 b4 b5 b6 h
  subst a1 a2 a3 b1 b2 b3
  have hk : ks = ls := asc_ext ks ls (asc_pw a5) (asc_pw b5) (fun q => by
    constructor
    · intro hq
      obtain ⟨x, hx⟩ := lk_some hq a4
      rw [h q] at hx
      exact (lk_mem hx).2
    · intro hq
      obtain ⟨x, hx⟩ := lk_some hq b4
      rw [← h q] at hx
      exact (lk_mem hx).2)
  subst hk
  rw [items_ext ks xs ys (asc_pw a5) a4 b4 h]
theorem lk_ins_same : ∀ (ks : List ByteArray) (xs : List V) (n : Nat) (k : ByteArray) (y : V), n ≤ ks.length → ks.length = xs.length → k ∉ ks.take n → lk (ks.take n ++ k :: ks.drop n) (xs.take n ++ y :: xs.drop n) k = some y
  | ks, xs, 0, k, y, _, _, _ => by
    show lk (k :: ks) (y :: xs) k = _
    rw [lk, if_pos rfl]
  | [], _, n + 1, _, _, h, _, _ => by simp at h
  | _ :: _, [], n + 1, _, _, _, h, _ => by simp at h
  | q :: ks, x :: xs, n + 1, k, y, h, hl, hn => by
    show lk (q :: (ks.take n ++ k :: ks.drop n)) (x :: (xs.take n ++ y :: xs.drop n)) k = _
    rw [List.take_succ_cons] at hn
    rw [lk, if_neg (fun e => hn (by rw [e]; exact List.mem_cons_self))]
    exact lk_ins_same ks xs n k y (by simpa using h) (by simpa using hl) (fun hm => hn (List.mem_cons_of_mem _ hm))
theorem lk_with_same : ∀ (ks : List ByteArray) (xs : List V) (n : Nat) (k : ByteArray) (y : V), ks[n]? = some k → (ks.Pairwise fun a b => sless a b = true) → ks.length = xs.length → lk ks (xs.take n ++ y :: xs.drop (n + 1)) k = some y
  | [], _, _, _, _, h, _, _ => by simp at h
  | _ :: _, [], _, _, _, _, _, h => by simp at h
  | q :: ks, x :: xs, 0, k, y, h, _, _ => by
    simp at h
    subst h
    show lk (q :: ks) (y :: xs) q = _
    rw [lk, if_pos rfl]
  | q :: ks, x :: xs, n + 1, k, y, h, hp, hl => by
    have hm : k ∈ ks := List.mem_of_getElem? (by simpa using h)
    show lk (q :: ks) (x :: (xs.take n ++ y :: xs.drop (n + 1))) k = _
    rw [lk, if_neg (fun e => by subst e; exact pw_not hp hm)]
    exact lk_with_same ks xs n k y (by simpa using h) (List.pairwise_cons.1 hp).2 (by simpa using hl)
theorem lk_set_same {v : V} {k : ByteArray} {y : V} (h : OK5 v) : lk (setK v k y).keys (setK v k y).items k = some y := by
  obtain ⟨h1, h2, h3, h4, h5, h6⟩ := h
  have hle := lb_le v.keys k
  unfold setK
  split
  · next hf =>
    have hlt := found_lt hf
    show lk v.keys (v.items.take (lb v.keys k) ++ y :: v.items.drop (min (lb v.keys k + 1) v.items.length)) k = _
    rw [show min (lb v.keys k + 1) v.items.length = lb v.keys k + 1 by omega]
    exact lk_with_same v.keys v.items _ k y (found_at hf) (asc_pw h5) h4
  · next hf =>
    have hf : foundS v.keys k = false := by simpa using hf
    exact lk_ins_same v.keys v.items _ k y hle h4 (fun hm => found_not h5 hf (List.mem_of_mem_take hm))
end Go.Proofs.YtjdocenbfghglaaGreatDoor.AW
end
section
set_option linter.unusedSimpArgs false
set_option linter.unusedVariables false
namespace Go.Proofs.YtjdocenbfghglaaGreatDoor.AW
open Go Go.RowKit

set_option maxHeartbeats 2000000 in
set_option maxRecDepth 20000 in
theorem delvals_calls (xs : List AV) (i : Nat) (hx : ∀ x ∈ xs, x.cells.length = 5) (hux : AV.underL 0 0 xs = true) (hl : xs.length < 1000000) (hi : i < xs.length) (h : AH) (b : Nat) (hb : h.box b = some (xs.flatMap AV.cells)) (hbn : b < h.nb) :
    ACalls Tryz.prog 89 [.ms b 0 xs.length 5, .int .i64 i, .int .i64 ((i + 1 : Nat) : Int)] h fun out h' => out = .ret (.sl .ro 5 (xs.eraseIdx i)) ∧ h' = h.kill b := by
  obtain ⟨hS, hSl, hSr⟩ := flatCells_split hx i (by omega)
  obtain ⟨hS2, hSl2, hSr2⟩ := flatCells_split hx (i + 1) (by omega)
  have hC := flatCells_len hx
  have hel : (xs.eraseIdx i).length = xs.length - 1 := List.length_eraseIdx_of_lt hi
  have hee : xs.eraseIdx i = xs.take i ++ xs.drop (i + 1) := List.eraseIdx_eq_take_drop_succ xs i
  refine ACalls.giveE (by omega) (fun x hm => ?_) ?_ ?_
  · exact hx x (List.mem_of_mem_eraseIdx hm)
  · refine underL_iff.2 fun j c hj => ?_
    obtain ⟨k, hk⟩ := List.mem_iff_getElem?.1 (List.mem_of_mem_eraseIdx (List.mem_of_getElem? hj)); exact underL_iff.1 hux k c hk
  refine ACalls.opn hb fun c d hc hcd => ?_
  rw [hC] at hcd
  have hfit : c * 5 ≤ (xs.flatMap AV.cells ++ deads d).length := by rw [List.length_append, hC, deads_length]; omega
  have hCD : (xs.flatMap AV.cells ++ deads d).length = xs.length * 5 + d := by rw [List.length_append, hC, deads_length]
  have e1 : ((i : Int) == ((i + 1 : Nat) : Int)) = false := by rw [beq_eq_false_iff_ne]; omega
  have hi0 : i ≤ xs.length := by omega
  have hi1 : i + 1 ≤ xs.length := by omega
  have hii : i ≤ i + 1 := by omega
  have hic : i ≤ c := by omega
  have hic1 : i + 1 ≤ c := by omega
  have e3 : i + (xs.length - (i + 1)) = xs.length - 1 := by omega
  have hn1 : xs.length - 1 ≤ c := by omega
  have hn2 : xs.length - 1 ≤ xs.length := by omega
  have hn3 : xs.length - (xs.length - 1) = 1 := by omega
  have hb1 : (xs.length - 1) * 80 ≤ 140737488355328 := by omega
  obtain ⟨Suf, hSf⟩ : ∃ Suf, Suf = (xs.drop (i + 1)).flatMap AV.cells := ⟨_, rfl⟩
  obtain ⟨Pre, hP⟩ : ∃ Pre, Pre = (xs.take i).flatMap AV.cells := ⟨_, rfl⟩
  rw [← hP] at hSl
  rw [← hSf] at hSr2
  have hi1s : (i + 1) * 5 = i * 5 + 5 := by rw [Nat.add_mul] <;> omega
  have hrest : (xs.length - (i + 1)) * 5 + (i + 1) * 5 = xs.length * 5 := by rw [← Nat.add_mul]; congr 1 <;> omega
  have hB1 : List.take (i * 5) (xs.flatMap AV.cells ++ deads d) = Pre := by rw [hS, ← hP, List.append_assoc]; exact List.take_left' hSl
  have hB2 : List.take ((xs.length - (i + 1)) * 5) (List.drop ((i + 1) * 5) (xs.flatMap AV.cells ++ deads d)) = Suf := by rw [hS2, ← hSf, List.append_assoc, List.drop_left' hSl2, List.take_left' hSr2]
  have hfz : (i + 1) * 5 + (xs.length - (i + 1)) * 5 ≤ (xs.flatMap AV.cells ++ deads d).length := by rw [hCD]; omega
  have hPS : (Pre ++ Suf).length = (xs.length - 1) * 5 := by rw [List.length_append, hSl, hSr2, ← Nat.add_mul]; congr 1 <;> omega
  have hnn : (xs.length - 1) * 5 + 5 = xs.length * 5 := by rw [← Nat.succ_mul]; congr 1 <;> omega
  obtain ⟨R, hR⟩ : ∃ R, R = List.drop (i * 5 + (xs.length - (i + 1)) * 5) (xs.flatMap AV.cells ++ deads d) := ⟨_, rfl⟩
  have hRl : R.length = 5 + d := by
    rw [hR, List.length_drop, hCD]
    have : i * 5 + (xs.length - (i + 1)) * 5 = (xs.length - 1) * 5 := by rw [← Nat.add_mul]; congr 1 <;> omega
    omega
  have hT : List.take ((xs.length - 1) * 5) (Pre ++ Suf ++ R) = Pre ++ Suf := List.take_left' hPS
  have hfc : (xs.length - 1) * 5 + 5 ≤ (Pre ++ Suf ++ R).length := by rw [List.length_append, hPS, hRl]; omega
  refine acalls_of te_ok [] Tryz.func89 (c := _) rfl (Nat.le_of_ble_eq_true rfl) ?_
  simp only [aws, ne_eq, eq_self, reduceIte, reduceCtorEq, Nat.reduceLT, Nat.reduceEqDiff, acmpnil, teset, Tryz.ntmps89, Tryz.results89, Int.natCast_nonneg, Int.toNat_natCast, hi1, hii, hc, e1]
  refine acode_draw_chainL (some (.below 0)) te_ok mixed [] (by kernel_rfl) ?_
  simp only [aws, eq_self, implies_true, reduceIte, reduceCtorEq, Nat.reduceAdd, Nat.reduceLT, Nat.reduceEqDiff, appBox, ares1, appendTo, teset, Int.natCast_nonneg, Int.toNat_natCast, hi1, hic, hc, Nat.zero_le, Nat.le_refl, Nat.sub_zero, Nat.zero_mul, appMc, appCells, cellsOf, hb1, hfit, e3, hn1, hn2, hn3, hB1, hB2, hfz, hSr2, ← hR, hT, hfc, aclear, Nat.one_mul, lowRd_some, boxEq_some, Nat.not_lt_zero, false_implies, implies_true]
  refine ⟨b, zeros [AV.int IntKind.i64 0, AV.int IntKind.i64 0, AV.str ⟨#[]⟩, AV.sl Tag.full 0 [], AV.sl Tag.full 0 []] 1 ++ List.drop ((xs.length - 1) * 5 + (zeros [AV.int IntKind.i64 0, AV.int IntKind.i64 0, AV.str ⟨#[]⟩, AV.sl Tag.full 0 [], AV.sl Tag.full 0 []] 1).length) (Pre ++ Suf ++ R), _, rfl, by rw [hel]; rfl, ?_, .inl rfl, fun b2 h2 hne => by rw [if_neg hne, if_neg hne, if_neg hne]⟩
  rw [if_pos rfl, hee, List.flatMap_append, ← hP, ← hSf]
  simp only [List.append_assoc]
end Go.Proofs.YtjdocenbfghglaaGreatDoor.AW
end
section
set_option linter.unusedSimpArgs false
set_option linter.unusedVariables false
namespace Go.Proofs.YtjdocenbfghglaaGreatDoor.AW
open Go Go.RowKit

set_option maxHeartbeats 2000000 in
set_option maxRecDepth 20000 in
theorem delstrs_calls (xs : List AV) (i : Nat) (hx : ∀ x ∈ xs, x.cells.length = 1) (hux : AV.underL 0 0 xs = true) (hl : xs.length < 1000000) (hi : i < xs.length) (h : AH) (b : Nat) (hb : h.box b = some (xs.flatMap AV.cells)) (hbn : b < h.nb) :
    ACalls Tryz.prog 90 [.ms b 0 xs.length 1, .int .i64 i, .int .i64 ((i + 1 : Nat) : Int)] h fun out h' => out = .ret (.sl .ro 1 (xs.eraseIdx i)) ∧ h' = h.kill b := by
  obtain ⟨hS, hSl, hSr⟩ := flatCells_split hx i (by omega)
  obtain ⟨hS2, hSl2, hSr2⟩ := flatCells_split hx (i + 1) (by omega)
  have hC := flatCells_len hx
  have hel : (xs.eraseIdx i).length = xs.length - 1 := List.length_eraseIdx_of_lt hi
  have hee : xs.eraseIdx i = xs.take i ++ xs.drop (i + 1) := List.eraseIdx_eq_take_drop_succ xs i
  refine ACalls.giveE (by omega) (fun x hm => ?_) ?_ ?_
  · exact hx x (List.mem_of_mem_eraseIdx hm)
  · refine underL_iff.2 fun j c hj => ?_
    obtain ⟨k, hk⟩ := List.mem_iff_getElem?.1 (List.mem_of_mem_eraseIdx (List.mem_of_getElem? hj)); exact underL_iff.1 hux k c hk
  refine ACalls.opn hb fun c d hc hcd => ?_
  rw [hC] at hcd
  have hfit : c * 1 ≤ (xs.flatMap AV.cells ++ deads d).length := by rw [List.length_append, hC, deads_length]; omega
  have hCD : (xs.flatMap AV.cells ++ deads d).length = xs.length * 1 + d := by rw [List.length_append, hC, deads_length]
  have e1 : ((i : Int) == ((i + 1 : Nat) : Int)) = false := by rw [beq_eq_false_iff_ne]; omega
  have hi0 : i ≤ xs.length := by omega
  have hi1 : i + 1 ≤ xs.length := by omega
  have hii : i ≤ i + 1 := by omega
  have hic : i ≤ c := by omega
  have hic1 : i + 1 ≤ c := by omega
  have e3 : i + (xs.length - (i + 1)) = xs.length - 1 := by omega
  have hn1 : xs.length - 1 ≤ c := by omega
  have hn2 : xs.length - 1 ≤ xs.length := by omega
  have hn3 : xs.length - (xs.length - 1) = 1 := by omega
  have hb1 : (xs.length - 1) * 16 ≤ 140737488355328 := by omega
  obtain ⟨Suf, hSf⟩ : ∃ Suf, Suf = (xs.drop (i + 1)).flatMap AV.cells := ⟨_, rfl⟩
  obtain ⟨Pre, hP⟩ : ∃ Pre, Pre = (xs.take i).flatMap AV.cells := ⟨_, rfl⟩
  rw [← hP] at hSl
  rw [← hSf] at hSr2
  have hi1s : (i + 1) * 1 = i * 1 + 1 := by rw [Nat.add_mul] <;> omega
  have hrest : (xs.length - (i + 1)) * 1 + (i + 1) * 1 = xs.length * 1 := by rw [← Nat.add_mul]; congr 1 <;> omega
  have hB1 : List.take (i * 1) (xs.flatMap AV.cells ++ deads d) = Pre := by rw [hS, ← hP, List.append_assoc]; exact List.take_left' hSl
  have hB2 : List.take ((xs.length - (i + 1)) * 1) (List.drop ((i + 1) * 1) (xs.flatMap AV.cells ++ deads d)) = Suf := by rw [hS2, ← hSf, List.append_assoc, List.drop_left' hSl2, List.take_left' hSr2]
  have hfz : (i + 1) * 1 + (xs.length - (i + 1)) * 1 ≤ (xs.flatMap AV.cells ++ deads d).length := by rw [hCD]; omega
  have hPS : (Pre ++ Suf).length = (xs.length - 1) * 1 := by rw [List.length_append, hSl, hSr2, ← Nat.add_mul]; congr 1 <;> omega
  have hnn : (xs.length - 1) * 1 + 1 = xs.length * 1 := by rw [← Nat.succ_mul]; congr 1 <;> omega
  obtain ⟨R, hR⟩ : ∃ R, R = List.drop (i * 1 + (xs.length - (i + 1)) * 1) (xs.flatMap AV.cells ++ deads d) := ⟨_, rfl⟩
  have hRl : R.length = 1 + d := by
    rw [hR, List.length_drop, hCD]
    have : i * 1 + (xs.length - (i + 1)) * 1 = (xs.length - 1) * 1 := by rw [← Nat.add_mul]; congr 1 <;> omega
    omega
  have hT : List.take ((xs.length - 1) * 1) (Pre ++ Suf ++ R) = Pre ++ Suf := List.take_left' hPS
  have hfc : (xs.length - 1) * 1 + 1 ≤ (Pre ++ Suf ++ R).length := by rw [List.length_append, hPS, hRl]; omega
  refine acalls_of te_ok [] Tryz.func90 (c := _) rfl (Nat.le_of_ble_eq_true rfl) ?_
  simp only [aws, ne_eq, eq_self, reduceIte, reduceCtorEq, Nat.reduceLT, Nat.reduceEqDiff, acmpnil, teset, Tryz.ntmps90, Tryz.results90, Int.natCast_nonneg, Int.toNat_natCast, hi1, hii, hc, e1]
  refine acode_draw_chainL (some (.below 0)) te_ok mixed [] (by kernel_rfl) ?_
  simp only [aws, eq_self, implies_true, reduceIte, reduceCtorEq, Nat.reduceAdd, Nat.reduceLT, Nat.reduceEqDiff, appBox, ares1, appendTo, teset, Int.natCast_nonneg, Int.toNat_natCast, hi1, hic, hc, Nat.zero_le, Nat.le_refl, Nat.sub_zero, Nat.zero_mul, appMc, appCells, cellsOf, hb1, hfit, e3, hn1, hn2, hn3, hB1, hB2, hfz, hSr2, ← hR, hT, hfc, aclear, Nat.one_mul, lowRd_some, boxEq_some, Nat.not_lt_zero, false_implies, implies_true]
  refine ⟨b, zeros [AV.str ⟨#[]⟩] 1 ++ List.drop ((xs.length - 1) * 1 + (zeros [AV.str ⟨#[]⟩] 1).length) (Pre ++ Suf ++ R), _, rfl, by rw [hel]; rfl, ?_, .inl rfl, fun b2 h2 hne => by rw [if_neg hne, if_neg hne, if_neg hne]⟩
  rw [if_pos rfl, hee, List.flatMap_append, ← hP, ← hSf]
  simp only [List.append_assoc, Nat.mul_one]
end Go.Proofs.YtjdocenbfghglaaGreatDoor.AW
end
section
set_option linter.unusedSimpArgs false
set_option linter.unusedVariables false
namespace Go.Proofs.YtjdocenbfghglaaGreatDoor.AW
open Go Go.RowKit

theorem map_erase {α β : Type} (f : α → β) : ∀ (l : List α) (i : Nat), (l.map f).eraseIdx i = (l.eraseIdx i).map f
  | [], _ => by simp
  | a :: l, 0 => by simp
  | a :: l, i + 1 => by simp [map_erase f l i]
theorem del5 (xs : List V) (i : Nat) (hl : xs.length < 1000000) (hi : i < xs.length) (h : AH) (b : Nat) (hb : h.box b = some ((xs.map inj).flatMap AV.cells)) (hbn : b < h.nb) :
    ACalls Tryz.prog 89 [.ms b 0 xs.length 5, .int .i64 i, .int .i64 ((i + 1 : Nat) : Int)] h fun out h' => out = .ret (.sl .ro 5 ((xs.eraseIdx i).map inj)) ∧ h' = h.kill b := by
  have := delvals_calls (xs.map inj) i (fun x hx => by obtain ⟨k, _, rfl⟩ := List.mem_map.1 hx; exact inj_len k) (injs_under xs) (by rw [List.length_map]; exact hl) (by rw [List.length_map]; exact hi) h b hb hbn
  rw [List.length_map, map_erase] at this
  exact this
theorem del1 (ks : List ByteArray) (i : Nat) (hl : ks.length < 1000000) (hi : i < ks.length) (h : AH) (b : Nat) (hb : h.box b = some (ks.map .str)) (hbn : b < h.nb) :
    ACalls Tryz.prog 90 [.ms b 0 ks.length 1, .int .i64 i, .int .i64 ((i + 1 : Nat) : Int)] h fun out h' => out = .ret (.sl .ro 1 ((ks.eraseIdx i).map .str)) ∧ h' = h.kill b := by
  have := delstrs_calls (ks.map .str) i (fun x hx => by obtain ⟨k, _, rfl⟩ := List.mem_map.1 hx; rfl) (strs_under ks) (by rw [List.length_map]; exact hl) (by rw [List.length_map]; exact hi) h b (by rw [strs_cells]; exact hb) hbn
  rw [List.length_map, map_erase] at this
  exact this
theorem itemP_nat {v : V} {s : Stp} {o : V} (hv : Wok v) (h : itemS v s = some o) : ∃ i : Nat, itemP v s = ((i : Int), true) ∧ v.items[i]? = some o ∧ (v.kind = 5 → i < v.keys.length) := by
  obtain ⟨h1, h2⟩ := item_found hv h
  have h3 : 0 ≤ (itemP v s).1 := by
    unfold itemP
    split
    · show (0 : Int) ≤ (lb v.keys s.key : Nat); omega
    · split
      · next hh => exact hh.1
      · exact Int.le_refl _
  refine ⟨(itemP v s).1.toNat, ?_, h2, fun h5 => ?_⟩
  · rw [Int.toNat_of_nonneg h3, ← h1]
  · rw [hv.keys.1 h5]; exact (List.getElem?_eq_some_iff.1 h2).1
set_option maxHeartbeats 2000000 in
theorem without_pure : ∀ (p : List Stp) (v o : V), Wok v → p ≠ [] → atS v p = some o → p.length < 1000000 → Pure Tryz.prog 46 [inj v, .sl .ro 2 (p.map injS)] (inj (withoutP p v)) := by
  intro p
  induction p with
  | nil => intro v o _ h; exact absurd rfl h
  | cons s p ih =>
    intro v o hv _ ho hl
    simp only [List.length_cons] at hl
    refine Pure.of0 ⟨Tryz.f46, Tryz.func46, rfl, by kernel_rfl⟩ (by have := injS_under (s :: p); simp only [AV.underL, inj_under, AV.under, Bool.true_and, Bool.and_true]; exact this) (inj_under _) ?_
    simp only [atS] at ho
    cases ht : itemS v s with
    | none => rw [ht] at ho; cases ho
    | some o1 =>
    rw [ht] at ho
    obtain ⟨i, hi1, hi2, hi3⟩ := itemP_nat hv ht
    have hitem := pitem_pure hv s
    have hlt := (List.getElem?_eq_some_iff.1 hi2).1
    have hx6 : v.items.length < 1000000 := by have := hv.shape.2; omega
    have hk6 : v.keys.length < 1000000 := by have := hv.keys.2; omega
    rw [hi1] at hitem
    have takep : List.take p.length (p.map injS) = p.map injS := List.take_of_length_le (by simp)
    have hw : IntKind.i64.wrap ((i : Int) + 1) = ((i + 1 : Nat) : Int) := wrap_succ (by omega)
    obtain ⟨ix, key⟩ := s
    have hspec1 : p = [] → withoutP (⟨ix, key⟩ :: p) v = delV v i := by rintro rfl; simp only [withoutP, hi1, Int.toNat_natCast]
    have hspec2 : p ≠ [] → withoutP (⟨ix, key⟩ :: p) v = withV v i (withoutP p o1) := by
      intro hp
      obtain ⟨t, p', rfl⟩ := List.exists_cons_of_ne_nil hp
      simp only [withoutP, hi1, Int.toNat_natCast]
      rw [List.getD_eq_getElem?_getD, hi2]; rfl
    have hwp := fun y => with_pure v i y (by omega) hx6
    have hvo : Wok o1 := hv.items o1 (itemS_mem ht)
    obtain ⟨k, n, t, xs, ks⟩ := v
    simp only [V.items, V.keys, V.kind] at hi2 hi3 hlt hx6 hk6
    rw [inj_mk] at hitem ⊢
    simp only [inj_mk k] at hwp
    refine acalls_of te_ok [] Tryz.func46 (c := _) rfl (Nat.le_of_ble_eq_true rfl) ?_
    simp only [aws, eq_self, reduceIte, Nat.reduceLT, teset, Tryz.ntmps46, Tryz.results46, boxR, injS]
    refine acode_draw_chain te_ok mixed [] (by kernel_rfl) ?_
    simp only [aws, eq_self, reduceIte, Nat.reduceAdd, Nat.reduceLT, Nat.reduceLeDiff, Nat.reduceEqDiff, Int.reduceLE, Int.reduceToNat, acmpnil, teset, List.length_map]
    refine skR_pure hitem ?_
    simp only [aws, eq_self]
    cases hc : decide (((p.length + 1 : Nat) : Int) > 1) with
    | true =>
      simp only [decide_eq_true_eq] at hc
      have hp : p ≠ [] := by rintro rfl; simp at hc
      have hget2 : (xs.map inj)[i]? = some (inj o1) := by rw [List.getElem?_map, hi2]; rfl
      simp only [aws]
      refine acode_draw_chain te_ok mixed [] (by kernel_rfl) ?_
      simp only [aws, eq_self, reduceIte, reduceCtorEq, Nat.reduceAdd, Nat.reduceLT, Nat.reduceLeDiff, Nat.reduceEqDiff, Int.reduceLE, Int.reduceToNat, storeB, ares1, teset, inj_take, inj_agg, inj_len, List.length_map, hget2, Int.natCast_nonneg, Int.toNat_natCast, Nat.add_sub_cancel, takep, Nat.le_refl, List.length_map]
      refine skR_pure (ih o1 o hvo hp ho (by omega)) ?_
      refine skR_pure (hwp _) ?_
      simp only [aws, eq_self, reduceIte, Nat.reduceAdd, Nat.reduceLeDiff, inj_take, inj_agg, inj_len, inj_one]
      refine ⟨_, rfl, ?_⟩
      rw [hspec2 hp]
      exact .refl _ _
    | false =>
      simp only [decide_eq_false_iff_not] at hc
      have hp : p = [] := List.eq_nil_of_length_eq_zero (by omega)
      have hne : xs ≠ [] := by rintro rfl; simp at hlt
      simp only [aws, eq_self, reduceIte, Nat.reduceLT, Nat.reduceEqDiff, teset]
      refine ACallV.det ⟨Tryz.f88, Tryz.func88, rfl, by kernel_rfl⟩ rfl (clone5_box' xs hne hx6 _) ?_
      simp only [aws, eq_self, reduceIte, Nat.reduceAdd, Nat.reduceLT, Nat.reduceEqDiff, acmpnil, hw]
      refine ACallV.det ⟨Tryz.f89, Tryz.func89, rfl, by kernel_rfl⟩ rfl (del5 xs i hx6 hlt _ 2 (by simp only [aws, eq_self, reduceIte, Nat.reduceAdd]) (by simp only [aws, Nat.reduceAdd, Nat.reduceLT])) ?_
      simp only [aws, eq_self, reduceIte, Nat.reduceAdd, Nat.reduceLT, Nat.reduceLeDiff, Nat.reduceEqDiff, acmpnil, storeB, teset]
      cases hk5 : (k == 5) with
      | false =>
        simp only [aws, eq_self, reduceIte, Nat.reduceAdd, Nat.reduceLT, Nat.reduceLeDiff, Nat.reduceEqDiff, storeB, ares1, teset]
        refine ⟨_, rfl, ?_⟩
        have : withoutP (⟨ix, key⟩ :: p) (.mk k n t xs ks) = .mk k n t (xs.eraseIdx i) ks := by
          rw [hspec1 hp]
          unfold delV
          rw [if_neg (show ¬ (V.mk k n t xs ks).kind = 5 by simpa [V.kind] using hk5)]
          rfl
        rw [this, inj_mk]
        exact .refl _ _
      | true =>
        have hk : k = 5 := by simpa using hk5
        have hik := hi3 hk
        have hkne : ks ≠ [] := by rintro rfl; simp at hik
        simp only [aws, eq_self, reduceIte, Nat.reduceAdd, Nat.reduceLT, Nat.reduceEqDiff, teset]
        refine ACallV.det ⟨Tryz.f86, Tryz.func86, rfl, by kernel_rfl⟩ rfl (clone1_box' ks hkne hk6 _) ?_
        simp only [aws, eq_self, reduceIte, Nat.reduceAdd, Nat.reduceLT, Nat.reduceEqDiff, acmpnil, hw]
        refine ACallV.det ⟨Tryz.f90, Tryz.func90, rfl, by kernel_rfl⟩ rfl (del1 ks i hk6 hik _ 3 (by simp only [aws, eq_self, reduceIte, Nat.reduceAdd]) (by simp only [aws, Nat.reduceAdd, Nat.reduceLT])) ?_
        simp only [aws, eq_self, reduceIte, Nat.reduceAdd, Nat.reduceLT, Nat.reduceLeDiff, Nat.reduceEqDiff, storeB, ares1, teset]
        refine ⟨_, rfl, ?_⟩
        have : withoutP (⟨ix, key⟩ :: p) (.mk k n t xs ks) = .mk k n t (xs.eraseIdx i) (ks.eraseIdx i) := by
          rw [hspec1 hp]
          unfold delV
          rw [if_pos (show (V.mk k n t xs ks).kind = 5 from hk)]
          rfl
        rw [this, inj_mk]
        exact .refl _ _
end Go.Proofs.YtjdocenbfghglaaGreatDoor.AW
end
section
set_option linter.unusedSimpArgs false
set_option linter.unusedVariables false
namespace Go.Proofs.YtjdocenbfghglaaGreatDoor.AW
open Go Go.RowKit

theorem wk_agg5 {k i : Int} {t : ByteArray} {aX aK : AV} {xs : List V} {ks : List ByteArray} (h1 : Wk aX (.sl .ro 5 (xs.map inj))) (h2 : Wk aK (.sl .ro 1 (ks.map .str))) : Wk (.agg [.int .i64 k, .int .i64 i, .str t, aX, aK]) (inj (.mk k i t xs ks)) := by
  rw [inj_mk]
  exact (WkAll.cons (.refl _) (.cons (.refl _) (.cons (.refl _) (.cons h1 (.cons h2 .nil))))).agg
theorem OK5.form {v : V} (h : OK5 v) : v = .mk 5 0 ⟨#[]⟩ v.items v.keys := by
  obtain ⟨k, i, t, xs, ks⟩ := v
  obtain ⟨h1, h2, h3, _⟩ := h
  simp only [V.kind, V.int, V.text] at h1 h2 h3
  subst h1 h2 h3; rfl
theorem outV_getD (o : Option V) : outV o = .tup [inj (o.getD zeroV), .bool o.isSome] := by cases o <;> rfl
theorem at_one {v : V} (h : OK5 v) (k : ByteArray) : atS v [keyS k] = lk v.keys v.items k := by
  rw [← itemS_lk h.1]
  show (itemS v (keyS k)).bind (fun x => some x) = _
  cases itemS v (keyS k) <;> rfl
/-- The program's At, put and without at one key. -/
theorem at1_pure {v : V} (h : OK5 v) (hw : Wok v) (k : ByteArray) : Pure Tryz.prog 44 [inj v, .sl .ro 2 [.agg [.int .i64 (-1), .str k]]] (.tup [inj ((lk v.keys v.items k).getD zeroV), .bool (foundS v.keys k)]) := by
  have := pat_pure v [keyS k] hw (by simp)
  rw [at_one h, outV_getD, ← itemS_lk h.1, item_found5 h, itemS_lk h.1] at this
  exact this
theorem put1_pure {v : V} (h : OK5 v) (hw : Wok v) (k : ByteArray) (y : V) : Pure Tryz.prog 41 [inj v, .sl .ro 2 [.agg [.int .i64 (-1), .str k]], inj y] (.tup [inj (setK v k y), .int .i64 0]) := by
  have := put_pure [keyS k] v y hw (by simp)
  rw [put_one h.1] at this
  exact this
theorem without1_pure {v : V} (h : OK5 v) (hw : Wok v) (k : ByteArray) (hf : foundS v.keys k = true) : Pure Tryz.prog 46 [inj v, .sl .ro 2 [.agg [.int .i64 (-1), .str k]]] (inj (delV v (lb v.keys k))) := by
  have hs := item_found5 h k
  rw [hf] at hs
  obtain ⟨o, ho⟩ := Option.isSome_iff_exists.1 hs
  have := without_pure [keyS k] v o hw (by simp) (by rw [at_one h, ← itemS_lk h.1, ho]) (by simp)
  rw [without_one h.1] at this
  exact this
set_option maxHeartbeats 8000000 in
theorem merge_pure : ∀ (b a : V), Vok a → Vok b → Pure Tryz.prog 65 [inj a, inj b] (inj (mergeV a b)) := by
  intro b
  induction b using V.ind with
  | h k i t xs ks ih =>
    intro a ha hb
    have hmw := merge_wok (.mk k i t xs ks) a ha hb
    have hst := MI.start (n := xs.length) ha (show xs.length ≤ 60 from hb.shape.2) ks
    have hbw := hb.w
    obtain ⟨ak, ai, at_, ax, as_⟩ := a
    rw [inj_mk, inj_mk]
    refine Pure.ofW ⟨Tryz.f65, Tryz.func65, rfl, by kernel_rfl⟩ (inj_under _) (fun h hsc => ?_)
    refine acalls_of te_ok [] Tryz.func65 (c := _) rfl (Nat.le_of_ble_eq_true rfl) ?_
    simp only [aws, eq_self, reduceIte, Nat.reduceLT, Nat.reduceEqDiff, Int.reduceNeg, acmpnil, teset, Tryz.ntmps65, Tryz.results65, boxR]
    cases hk : (k != 5) with
    | true =>
      have hk5 : k ≠ 5 := by simpa using hk
      simp only [aws, eq_self, reduceIte, Nat.reduceAdd, Nat.reduceLT, Nat.reduceLeDiff, Nat.reduceEqDiff, Int.reduceNeg, storeB, ares1, teset]
      refine ⟨by (repeat (first | exact AH.Ext.refl _ | assumption | refine AH.Ext.set ?_ (by first | omega | (simp only [new_nb, set_nb, kill_nb, newTok_nb, setTok_nb]; omega)) _ | refine AH.Ext.new ?_ _)), _, rfl, ?_⟩
      rw [mergeV, if_neg hk5, inj_mk]
      exact .refl _
    | false =>
      have hk5 : k = 5 := by simpa using hk
      subst hk5
      obtain ⟨_, b2, b3, b4, b5, b6⟩ := hbw.ok5 rfl
      simp only [V.int, V.text, V.items, V.keys] at b2 b3 b4 b5 b6
      rw [mergeV, if_pos rfl] at hmw ⊢
      have hxl : xs.length ≤ 60 := hb.shape.2
      cases hak : (ak != 5) with
      | true =>
        have hak5 : ak ≠ 5 := by simpa using hak
        rw [if_neg (show ¬ (V.mk ak ai at_ ax as_).kind = 5 from hak5)] at hmw hst ⊢
        simp only [aws, eq_self, reduceIte, Nat.reduceAdd, Nat.reduceLT, Nat.reduceLeDiff, Nat.reduceEqDiff, Int.reduceNeg, acmpnil, storeB, afill, teset, List.length_map, hak]
        refine ⟨fun n s' h' => ∃ (j : Nat) (cx : List V) (ck : List ByteArray) (aX aK : AV), s' 2 = .ptr h.nb 0 ∧ s' 3 = .ptr (h.nb + 1) 0 ∧ s' 4 = .ptr (h.nb + 1 + 1) 0 ∧ s' 20 = .sl .ro 1 (ks.map .str) ∧ s' 21 = .int .i64 ks.length ∧ s' 22 = .int .i64 j ∧ n + j = ks.length ∧ h.Ext h' ∧ h.nb + 1 + 1 < h'.nb ∧ h'.box h.nb = some [.int .i64 5, .int .i64 0, .str ⟨#[]⟩, aX, aK] ∧ h'.box (h.nb + 1) = some [.int .i64 5, .int .i64 i, .str t, .sl .ro 5 (xs.map inj), .sl .ro 1 (ks.map .str)] ∧ h'.box (h.nb + 1 + 1) = some [.int .i64 0, .int .i64 0, .str ⟨#[]⟩, .sl .full 0 [], .sl .full 0 []] ∧ MI (.mk 5 0 ⟨#[]⟩ cx ck) (ks.drop j).length (ks.drop j) ∧ aX.one = true ∧ aK.one = true ∧ Wk aX (.sl .ro 5 (cx.map inj)) ∧ Wk aK (.sl .ro 1 (ck.map .str)) ∧ mergeL (.mk 5 0 ⟨#[]⟩ cx ck) (xs.drop j) (ks.drop j) = mergeL (emptyV 5) xs ks, ⟨ks.length, 0, [], [], .sl .full 0 [], .sl .full 0 [], ?_⟩, ?_⟩
        · simp only [aws, eq_self, reduceIte, Nat.reduceEqDiff, Int.natCast_zero]
          exact ⟨by (repeat (first | exact AH.Ext.refl _ | assumption | refine AH.Ext.set ?_ (by first | omega | (simp only [new_nb, set_nb, kill_nb, newTok_nb, setTok_nb]; omega)) _ | refine AH.Ext.new ?_ _)), by omega, by rw [b4]; exact hst, wk_nil5, wk_nil1, rfl⟩
        · rintro n s' h' ⟨j, cx, ck, aX, aK, e2, e3, e4, e20, e21, e22, hn, hE, hnb, g1, g2, g3, hMI, o1, o2, wX, wK, hrest⟩
          simp only [aws, eq_self, reduceIte, Nat.reduceLT, Int.reduceNeg, acmpnil, e21, e22]
          cases hc : decide ((j : Int) < (ks.length : Int)) with
          | false =>
            simp only [decide_eq_false_iff_not] at hc
            simp only [aws, eq_self, reduceIte, Nat.reduceAdd, Nat.reduceLT, Nat.reduceLeDiff, Nat.reduceEqDiff, Int.reduceNeg, storeB, ares1, teset, e2, e4, g1, g3, o1, o2]
            refine ⟨by (repeat (first | exact AH.Ext.refl _ | assumption | refine AH.Ext.set ?_ (by first | omega | (simp only [new_nb, set_nb, kill_nb, newTok_nb, setTok_nb]; omega)) _ | refine AH.Ext.new ?_ _)), _, rfl, ?_⟩
            rw [List.drop_eq_nil_of_le (by omega), List.drop_eq_nil_of_le (by omega), mergeL] at hrest
            rw [← hrest]
            exact wk_agg5 wX wK
          | true =>
            simp only [decide_eq_true_eq] at hc
            have hj : j < ks.length := by omega
            have hjx : j < xs.length := by omega
            have hgetk : (ks.map AV.str)[((j : Nat) : Int).toNat]? = some (.str ks[j]) := by simp [hj]
            have hgetx : (xs.map inj)[((j : Nat) : Int).toNat]? = some (inj xs[j]) := by simp [hjx]
            rw [List.drop_eq_getElem_cons hj] at hMI hrest
            rw [List.drop_eq_getElem_cons hjx, mergeL_cons] at hrest
            have hMI2 : MI (V.mk 5 0 ⟨#[]⟩ cx ck) ((ks.drop (j + 1)).length + 1) (ks[j] :: ks.drop (j + 1)) := by rw [List.length_cons] at hMI; exact hMI
            have hko := b6 _ (List.getElem_mem hj)
            have hxo : Vok xs[j] := hb.items _ (List.getElem_mem hjx)
            have hpk := List.pairwise_iff_getElem.1 (asc_pw b5)
            have hold := hMI2.old
            have hmo := merge_wok xs[j] _ hold hxo
            have hstep := hMI2.step hko (fun q hq e => by
              obtain ⟨d, hd, hde⟩ := List.getElem_of_mem hq
              rw [List.getElem_drop] at hde
              have := hpk j (j + 1 + d) hj (by rw [List.length_drop] at hd; omega) (by omega)
              rw [hde, ← e] at this
              unfold sless at this
              rw [bl_irrefl] at this; cases this) hmo
            have hok := hMI2.1
            have hcw := hMI2.wok
            have hat := at1_pure hok hcw ks[j]
            have hm := ih xs[j] (List.getElem_mem hjx) ((lk ck cx ks[j]).getD zeroV) hold hxo
            unfold stepV at hstep hrest
            simp only [V.keys, V.items] at hat hm hstep hrest hold hmo
            have hput := fun y => put1_pure hok hcw ks[j] y
            have hwo := without1_pure hok hcw ks[j]
            simp only [V.keys] at hwo
            have hwa := wk_agg5 (k := 5) (i := 0) (t := ⟨#[]⟩) wX wK
            generalize ks[j] = key at *
            generalize (lk ck cx key).getD zeroV = old at *
            generalize xs[j] = x at *
            have hnb1 := hE.nb
            obtain ⟨ok, oi, ot, ox, os⟩ := old
            obtain ⟨xk, xi, xt, xx, xs'⟩ := x
            rw [inj_mk] at hgetx
            rw [inj_mk ok] at hat
            rw [inj_mk, inj_mk] at hm
            have zz : ∀ a b : Nat, a < b → ((a = b) = False) ∧ ((b = a) = False) := fun a b hab => ⟨by rw [eq_iff_iff]; exact ⟨fun e => by omega, False.elim⟩, by rw [eq_iff_iff]; exact ⟨fun e => by omega, False.elim⟩⟩
            have y1 := zz h.nb h'.nb (by omega)
            have y2 := zz (h.nb + 1) h'.nb (by omega)
            have y3 := zz (h.nb + 1 + 1) h'.nb (by omega)
            have y4 := zz h.nb (h'.nb + 1) (by omega)
            have y5 := zz (h.nb + 1) (h'.nb + 1) (by omega)
            have y6 := zz (h.nb + 1 + 1) (h'.nb + 1) (by omega)
            have y7 := zz h'.nb (h'.nb + 1) (by omega)
            simp only [aws, eq_self, reduceIte, Nat.reduceAdd, Nat.reduceLT, Nat.reduceLeDiff, Nat.reduceEqDiff, Nat.reduceMul, Int.reduceNeg, afill, teset, e2, e20, e22, g1, hgetk, Int.natCast_nonneg, range1]
            refine ACallV.pureW hat (.cons hwa (.cons .ro .nil)) ?_
            simp only [aws, eq_self, reduceIte, Nat.reduceAdd, Nat.reduceLT, Nat.reduceLeDiff, Nat.reduceEqDiff, Int.reduceNeg, acmpnil, storeB, teset, e3, g2, hgetx, Int.natCast_nonneg, y2.1, y7.2]
            cases hxk : (xk != 0) with
            | true =>
              have hxk0 : xk ≠ 0 := by simpa using hxk
              rw [if_neg (show ¬ (V.mk xk xi xt xx xs').kind = 0 from hxk0)] at hstep hrest
              have hpy := hput (mergeV (.mk ok oi ot ox os) (.mk xk xi xt xx xs'))
              obtain ⟨cx', ck', hset⟩ : ∃ cx' ck', setK (.mk 5 0 ⟨#[]⟩ cx ck) key (mergeV (.mk ok oi ot ox os) (.mk xk xi xt xx xs')) = .mk 5 0 ⟨#[]⟩ cx' ck' := ⟨_, _, (set_ok5 hok hko).form⟩
              rw [hset] at hpy hstep hrest
              rw [inj_mk 5 0 ⟨#[]⟩ cx' ck'] at hpy
              simp only [aws, Int.reduceNeg]
              refine acode_draw_chain te_ok mixed [] (by kernel_rfl) ?_
              simp only [aws, eq_self, implies_true, imp_self, reduceIte, reduceCtorEq, Nat.reduceAdd, Nat.reduceLT, Nat.reduceLeDiff, Nat.reduceEqDiff, Int.reduceNeg, acmpnil, storeB, teset, e2, e3, e4, e20, e21, e22, g1, y1.1, y4.1, y7.1, y7.2]
              refine skR_pure hm ?_
              refine skR_pure (Pure.wk hpy (.cons hwa (.cons .ro (.cons (.refl _) .nil))) (.refl _)) ?_
              simp only [aws, eq_self, reduceIte, Nat.reduceAdd, Nat.reduceLeDiff, g1, g2, g3, y1.1, y2.1, y3.1, y4.1, y5.1, y6.1]
              exact ⟨n - 1, by omega, j + 1, cx', ck', _, _, by rw [wrap_succ (by omega)], by omega, by (repeat (first | exact AH.Ext.refl _ | assumption | refine AH.Ext.set ?_ (by first | omega | (simp only [new_nb, set_nb, kill_nb, newTok_nb, setTok_nb]; omega)) _ | refine AH.Ext.new ?_ _)), by omega, rfl, hstep, rfl, rfl, .refl _, .refl _, hrest⟩
            | false =>
              have hxk0 : xk = 0 := by simpa using hxk
              rw [if_pos (show (V.mk xk xi xt xx xs').kind = 0 from hxk0)] at hstep hrest
              cases hf : foundS ck key with
              | true =>
                have hwy := hwo hf
                simp only [hf, if_true] at hstep hrest
                obtain ⟨cx', ck', hset⟩ : ∃ cx' ck', delV (.mk 5 0 ⟨#[]⟩ cx ck) (lb ck key) = .mk 5 0 ⟨#[]⟩ cx' ck' := ⟨_, _, (del_ok5 hok _).form⟩
                rw [hset] at hwy hstep hrest
                rw [inj_mk 5 0 ⟨#[]⟩ cx' ck'] at hwy
                simp only [aws, eq_self, reduceIte, Nat.reduceAdd, Nat.reduceLT, Nat.reduceLeDiff, Nat.reduceEqDiff, Int.reduceNeg, teset, e2, g1, y1.1, y4.1]
                refine ACallV.pureW hwy (.cons hwa (.cons .ro .nil)) ?_
                simp only [aws, eq_self, reduceIte, Nat.reduceAdd, Nat.reduceLT, Nat.reduceLeDiff, Nat.reduceEqDiff, Int.reduceNeg, acmpnil, storeB, teset, e2, e3, e4, e20, e21, e22, g1, g2, g3, y1.1, y2.1, y3.1, y4.1, y5.1, y6.1]
                exact ⟨n - 1, by omega, j + 1, cx', ck', _, _, by rw [wrap_succ (by omega)], by omega, by (repeat (first | exact AH.Ext.refl _ | assumption | refine AH.Ext.set ?_ (by first | omega | (simp only [new_nb, set_nb, kill_nb, newTok_nb, setTok_nb]; omega)) _ | refine AH.Ext.new ?_ _)), by omega, rfl, hstep, rfl, rfl, .refl _, .refl _, hrest⟩
              | false =>
                simp only [hf, Bool.false_eq_true, if_false] at hstep hrest
                simp only [aws, eq_self, reduceIte, Nat.reduceLT, Nat.reduceEqDiff, Int.reduceNeg, acmpnil, e2, e3, e4, e20, e21, e22, g1, g2, g3, y1.1, y2.1, y3.1, y4.1, y5.1, y6.1]
                exact ⟨n - 1, by omega, j + 1, cx, ck, aX, aK, by rw [wrap_succ (by omega)], by omega, by (repeat (first | exact AH.Ext.refl _ | assumption | refine AH.Ext.set ?_ (by first | omega | (simp only [new_nb, set_nb, kill_nb, newTok_nb, setTok_nb]; omega)) _ | refine AH.Ext.new ?_ _)), by omega, rfl, hstep, o1, o2, wX, wK, hrest⟩
      | false =>
        have hak5 : ak = 5 := by simpa using hak
        subst hak5
        rw [if_pos (show (V.mk 5 ai at_ ax as_).kind = 5 from rfl)] at hmw hst ⊢
        obtain ⟨_, a2, a3, a4, a5, a6⟩ := ha.w.ok5 rfl
        simp only [V.int, V.text, V.items, V.keys] at a2 a3 a4 a5 a6
        subst a2 a3
        simp only [aws, eq_self, reduceIte, Nat.reduceLT, Nat.reduceEqDiff, Int.reduceNeg, acmpnil, teset, List.length_map, hak]
        refine ⟨fun n s' h' => ∃ (j : Nat) (cx : List V) (ck : List ByteArray) (aX aK : AV), s' 2 = .ptr h.nb 0 ∧ s' 3 = .ptr (h.nb + 1) 0 ∧ s' 4 = .ptr (h.nb + 1 + 1) 0 ∧ s' 20 = .sl .ro 1 (ks.map .str) ∧ s' 21 = .int .i64 ks.length ∧ s' 22 = .int .i64 j ∧ n + j = ks.length ∧ h.Ext h' ∧ h.nb + 1 + 1 < h'.nb ∧ h'.box h.nb = some [.int .i64 5, .int .i64 0, .str ⟨#[]⟩, aX, aK] ∧ h'.box (h.nb + 1) = some [.int .i64 5, .int .i64 i, .str t, .sl .ro 5 (xs.map inj), .sl .ro 1 (ks.map .str)] ∧ h'.box (h.nb + 1 + 1) = some [.int .i64 0, .int .i64 0, .str ⟨#[]⟩, .sl .full 0 [], .sl .full 0 []] ∧ MI (.mk 5 0 ⟨#[]⟩ cx ck) (ks.drop j).length (ks.drop j) ∧ aX.one = true ∧ aK.one = true ∧ Wk aX (.sl .ro 5 (cx.map inj)) ∧ Wk aK (.sl .ro 1 (ck.map .str)) ∧ mergeL (.mk 5 0 ⟨#[]⟩ cx ck) (xs.drop j) (ks.drop j) = mergeL (.mk 5 0 ⟨#[]⟩ ax as_) xs ks, ⟨ks.length, 0, ax, as_, .sl .ro 5 (ax.map inj), .sl .ro 1 (as_.map .str), ?_⟩, ?_⟩
        · simp only [aws, eq_self, reduceIte, Nat.reduceEqDiff, Int.natCast_zero]
          exact ⟨by (repeat (first | exact AH.Ext.refl _ | assumption | refine AH.Ext.set ?_ (by first | omega | (simp only [new_nb, set_nb, kill_nb, newTok_nb, setTok_nb]; omega)) _ | refine AH.Ext.new ?_ _)), by omega, by rw [b4]; exact hst, .refl _, .refl _⟩
        · rintro n s' h' ⟨j, cx, ck, aX, aK, e2, e3, e4, e20, e21, e22, hn, hE, hnb, g1, g2, g3, hMI, o1, o2, wX, wK, hrest⟩
          simp only [aws, eq_self, reduceIte, Nat.reduceLT, Int.reduceNeg, acmpnil, e21, e22]
          cases hc : decide ((j : Int) < (ks.length : Int)) with
          | false =>
            simp only [decide_eq_false_iff_not] at hc
            simp only [aws, eq_self, reduceIte, Nat.reduceAdd, Nat.reduceLT, Nat.reduceLeDiff, Nat.reduceEqDiff, Int.reduceNeg, storeB, ares1, teset, e2, e4, g1, g3, o1, o2]
            refine ⟨by (repeat (first | exact AH.Ext.refl _ | assumption | refine AH.Ext.set ?_ (by first | omega | (simp only [new_nb, set_nb, kill_nb, newTok_nb, setTok_nb]; omega)) _ | refine AH.Ext.new ?_ _)), _, rfl, ?_⟩
            rw [List.drop_eq_nil_of_le (by omega), List.drop_eq_nil_of_le (by omega), mergeL] at hrest
            rw [← hrest]
            exact wk_agg5 wX wK
          | true =>
            simp only [decide_eq_true_eq] at hc
            have hj : j < ks.length := by omega
            have hjx : j < xs.length := by omega
            have hgetk : (ks.map AV.str)[((j : Nat) : Int).toNat]? = some (.str ks[j]) := by simp [hj]
            have hgetx : (xs.map inj)[((j : Nat) : Int).toNat]? = some (inj xs[j]) := by simp [hjx]
            rw [List.drop_eq_getElem_cons hj] at hMI hrest
            rw [List.drop_eq_getElem_cons hjx, mergeL_cons] at hrest
            have hMI2 : MI (V.mk 5 0 ⟨#[]⟩ cx ck) ((ks.drop (j + 1)).length + 1) (ks[j] :: ks.drop (j + 1)) := by rw [List.length_cons] at hMI; exact hMI
            have hko := b6 _ (List.getElem_mem hj)
            have hxo : Vok xs[j] := hb.items _ (List.getElem_mem hjx)
            have hpk := List.pairwise_iff_getElem.1 (asc_pw b5)
            have hold := hMI2.old
            have hmo := merge_wok xs[j] _ hold hxo
            have hstep := hMI2.step hko (fun q hq e => by
              obtain ⟨d, hd, hde⟩ := List.getElem_of_mem hq
              rw [List.getElem_drop] at hde
              have := hpk j (j + 1 + d) hj (by rw [List.length_drop] at hd; omega) (by omega)
              rw [hde, ← e] at this
              unfold sless at this
              rw [bl_irrefl] at this; cases this) hmo
            have hok := hMI2.1
            have hcw := hMI2.wok
            have hat := at1_pure hok hcw ks[j]
            have hm := ih xs[j] (List.getElem_mem hjx) ((lk ck cx ks[j]).getD zeroV) hold hxo
            unfold stepV at hstep hrest
            simp only [V.keys, V.items] at hat hm hstep hrest hold hmo
            have hput := fun y => put1_pure hok hcw ks[j] y
            have hwo := without1_pure hok hcw ks[j]
            simp only [V.keys] at hwo
            have hwa := wk_agg5 (k := 5) (i := 0) (t := ⟨#[]⟩) wX wK
            generalize ks[j] = key at *
            generalize (lk ck cx key).getD zeroV = old at *
            generalize xs[j] = x at *
            have hnb1 := hE.nb
            obtain ⟨ok, oi, ot, ox, os⟩ := old
            obtain ⟨xk, xi, xt, xx, xs'⟩ := x
            rw [inj_mk] at hgetx
            rw [inj_mk ok] at hat
            rw [inj_mk, inj_mk] at hm
            have zz : ∀ a b : Nat, a < b → ((a = b) = False) ∧ ((b = a) = False) := fun a b hab => ⟨by rw [eq_iff_iff]; exact ⟨fun e => by omega, False.elim⟩, by rw [eq_iff_iff]; exact ⟨fun e => by omega, False.elim⟩⟩
            have y1 := zz h.nb h'.nb (by omega)
            have y2 := zz (h.nb + 1) h'.nb (by omega)
            have y3 := zz (h.nb + 1 + 1) h'.nb (by omega)
            have y4 := zz h.nb (h'.nb + 1) (by omega)
            have y5 := zz (h.nb + 1) (h'.nb + 1) (by omega)
            have y6 := zz (h.nb + 1 + 1) (h'.nb + 1) (by omega)
            have y7 := zz h'.nb (h'.nb + 1) (by omega)
            simp only [aws, eq_self, reduceIte, Nat.reduceAdd, Nat.reduceLT, Nat.reduceLeDiff, Nat.reduceEqDiff, Nat.reduceMul, Int.reduceNeg, afill, teset, e2, e20, e22, g1, hgetk, Int.natCast_nonneg, range1]
            refine ACallV.pureW hat (.cons hwa (.cons .ro .nil)) ?_
            simp only [aws, eq_self, reduceIte, Nat.reduceAdd, Nat.reduceLT, Nat.reduceLeDiff, Nat.reduceEqDiff, Int.reduceNeg, acmpnil, storeB, teset, e3, g2, hgetx, Int.natCast_nonneg, y2.1, y7.2]
            cases hxk : (xk != 0) with
            | true =>
              have hxk0 : xk ≠ 0 := by simpa using hxk
              rw [if_neg (show ¬ (V.mk xk xi xt xx xs').kind = 0 from hxk0)] at hstep hrest
              have hpy := hput (mergeV (.mk ok oi ot ox os) (.mk xk xi xt xx xs'))
              obtain ⟨cx', ck', hset⟩ : ∃ cx' ck', setK (.mk 5 0 ⟨#[]⟩ cx ck) key (mergeV (.mk ok oi ot ox os) (.mk xk xi xt xx xs')) = .mk 5 0 ⟨#[]⟩ cx' ck' := ⟨_, _, (set_ok5 hok hko).form⟩
              rw [hset] at hpy hstep hrest
              rw [inj_mk 5 0 ⟨#[]⟩ cx' ck'] at hpy
              simp only [aws, Int.reduceNeg]
              refine acode_draw_chain te_ok mixed [] (by kernel_rfl) ?_
              simp only [aws, eq_self, implies_true, imp_self, reduceIte, reduceCtorEq, Nat.reduceAdd, Nat.reduceLT, Nat.reduceLeDiff, Nat.reduceEqDiff, Int.reduceNeg, acmpnil, storeB, teset, e2, e3, e4, e20, e21, e22, g1, y1.1, y4.1, y7.1, y7.2]
              refine skR_pure hm ?_
              refine skR_pure (Pure.wk hpy (.cons hwa (.cons .ro (.cons (.refl _) .nil))) (.refl _)) ?_
              simp only [aws, eq_self, reduceIte, Nat.reduceAdd, Nat.reduceLeDiff, g1, g2, g3, y1.1, y2.1, y3.1, y4.1, y5.1, y6.1]
              exact ⟨n - 1, by omega, j + 1, cx', ck', _, _, by rw [wrap_succ (by omega)], by omega, by (repeat (first | exact AH.Ext.refl _ | assumption | refine AH.Ext.set ?_ (by first | omega | (simp only [new_nb, set_nb, kill_nb, newTok_nb, setTok_nb]; omega)) _ | refine AH.Ext.new ?_ _)), by omega, rfl, hstep, rfl, rfl, .refl _, .refl _, hrest⟩
            | false =>
              have hxk0 : xk = 0 := by simpa using hxk
              rw [if_pos (show (V.mk xk xi xt xx xs').kind = 0 from hxk0)] at hstep hrest
              cases hf : foundS ck key with
              | true =>
                have hwy := hwo hf
                simp only [hf, if_true] at hstep hrest
                obtain ⟨cx', ck', hset⟩ : ∃ cx' ck', delV (.mk 5 0 ⟨#[]⟩ cx ck) (lb ck key) = .mk 5 0 ⟨#[]⟩ cx' ck' := ⟨_, _, (del_ok5 hok _).form⟩
                rw [hset] at hwy hstep hrest
                rw [inj_mk 5 0 ⟨#[]⟩ cx' ck'] at hwy
                simp only [aws, eq_self, reduceIte, Nat.reduceAdd, Nat.reduceLT, Nat.reduceLeDiff, Nat.reduceEqDiff, Int.reduceNeg, teset, e2, g1, y1.1, y4.1]
                refine ACallV.pureW hwy (.cons hwa (.cons .ro .nil)) ?_
                simp only [aws, eq_self, reduceIte, Nat.reduceAdd, Nat.reduceLT, Nat.reduceLeDiff, Nat.reduceEqDiff, Int.reduceNeg, acmpnil, storeB, teset, e2, e3, e4, e20, e21, e22, g1, g2, g3, y1.1, y2.1, y3.1, y4.1, y5.1, y6.1]
                exact ⟨n - 1, by omega, j + 1, cx', ck', _, _, by rw [wrap_succ (by omega)], by omega, by (repeat (first | exact AH.Ext.refl _ | assumption | refine AH.Ext.set ?_ (by first | omega | (simp only [new_nb, set_nb, kill_nb, newTok_nb, setTok_nb]; omega)) _ | refine AH.Ext.new ?_ _)), by omega, rfl, hstep, rfl, rfl, .refl _, .refl _, hrest⟩
              | false =>
                simp only [hf, Bool.false_eq_true, if_false] at hstep hrest
                simp only [aws, eq_self, reduceIte, Nat.reduceLT, Nat.reduceEqDiff, Int.reduceNeg, acmpnil, e2, e3, e4, e20, e21, e22, g1, g2, g3, y1.1, y2.1, y3.1, y4.1, y5.1, y6.1]
                exact ⟨n - 1, by omega, j + 1, cx, ck, aX, aK, by rw [wrap_succ (by omega)], by omega, by (repeat (first | exact AH.Ext.refl _ | assumption | refine AH.Ext.set ?_ (by first | omega | (simp only [new_nb, set_nb, kill_nb, newTok_nb, setTok_nb]; omega)) _ | refine AH.Ext.new ?_ _)), by omega, rfl, hstep, o1, o2, wX, wK, hrest⟩
end Go.Proofs.YtjdocenbfghglaaGreatDoor.AW
end
section
set_option linter.unusedSimpArgs false
set_option linter.unusedVariables false
namespace Go.Proofs.YtjdocenbfghglaaGreatDoor.AW
open Go Go.RowKit

theorem refWith_ok {v : V} {key : ByteArray} {x : V} (hv : Wok v) (h5 : v.kind = 5) : refWith v key x = setK v key x :=
  refWith_set (shape5 hv h5).2.2.2 (shape5 hv h5).2.2.1 h5 (shape5 hv h5).1 (shape5 hv h5).2.1
theorem b3 {a b n : Nat} (h : a + b ≤ n) (hn : n < 1000000) : a * 80 ≤ 140737488355328 ∧ (a + 1) * 80 ≤ 140737488355328 ∧ (a + 1 + b) * 80 ≤ 140737488355328 := by omega
end Go.Proofs.YtjdocenbfghglaaGreatDoor.AW
end
section
set_option linter.unusedSimpArgs false
set_option linter.unusedVariables false
namespace Go.Proofs.YtjdocenbfghglaaGreatDoor.AW
open Go Go.RowKit

end Go.Proofs.YtjdocenbfghglaaGreatDoor.AW
end
