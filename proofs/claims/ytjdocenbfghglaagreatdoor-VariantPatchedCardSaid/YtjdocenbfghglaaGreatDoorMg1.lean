/- Texts of this claim, part 1: V1, V2, V3, V4, V5, V6, V7, V8, V9, V10. -/
import Derived.Test.YtjdocenbfghglaaGreatDoorTab
import Derived.Test.YtjdocenbfghglaaGreatDoorAw26
import Derived.Test.YtjdocenbfghglaaGreatDoorAw21
section
set_option linter.unusedSimpArgs false
set_option linter.unusedVariables false
namespace Go.Proofs.YtjdocenbfghglaaGreatDoor.AW
open Go Go.RowKit

def okByte (b : UInt8) : Bool := decide (32 ≤ b.toNat) && decide (b.toNat ≤ 126)
def isText (s : ByteArray) : Bool := decide (s.size ≤ 100) && s.data.toList.all okByte
theorem byte_at {s : ByteArray} {i : Nat} (h : i < s.size) : ∃ b, s[i]? = some b ∧ s.data.toList[i]? = some b := by
  refine ⟨s[i], ?_, ?_⟩
  · simp [h]
  · have : i < s.data.size := h
    rw [Array.getElem?_toList, Array.getElem?_eq_getElem this]; rfl
theorem wrap_i64 {n : Int} (h : -4611686018427387904 ≤ n) (h2 : n < 4611686018427387904) : IntKind.i64.wrap n = n := by
  simp only [IntKind.wrap, IntKind.bits, IntKind.signed, Bool.true_and, Int.reducePow, Nat.reduceSub]
  split <;> (rename_i hx; simp only [ge_iff_le, decide_eq_true_eq] at hx; omega)
theorem wrap_succ {i : Nat} (h : i + 1 < 4611686018427387904) : IntKind.i64.wrap ((i : Int) + 1) = ((i + 1 : Nat) : Int) := by
  rw [wrap_i64 (by omega) (by omega)]; omega

theorem isText_pure (s : ByteArray) : Pure Tryz.prog 81 [.str s] (.bool (isText s)) := by
  refine Pure.of ⟨Tryz.f81, Tryz.func81, rfl, by kernel_rfl⟩ rfl (fun h => ?_)
  refine acalls_of te_ok [] Tryz.func81 (c := _) rfl (Nat.le_of_ble_eq_true rfl) ?_
  simp only [aws, eq_self, reduceIte, Nat.reduceLT, acmpnil, teset, Tryz.ntmps81, Tryz.results81]
  refine ck_of (fun hc => ?_) (fun hc => ?_)
  · simp only [aws, eq_self, reduceIte, Nat.reduceLT, ares1]
    refine ⟨.refl h, _, rfl, ?_⟩
    simp only [decide_eq_true_eq] at hc
    have : ¬ s.size ≤ 100 := by omega
    simp [AV.erase, isText, this]
  · simp only [aws, eq_self, Nat.reduceLT]
    simp only [decide_eq_false_iff_not] at hc
    refine ⟨fun n s' h' => ∃ i : Nat, s' 0 = .str s ∧ s' 3 = .int .i64 i ∧ h' = h ∧ n + i = s.size ∧ (∀ (j : Nat) b, j < i → s.data.toList[j]? = some b → okByte b = true), ⟨s.size, 0, ?_⟩, ?_⟩
    · simp only [aws, eq_self, reduceIte]
      exact ⟨rfl, fun j b hj => by omega⟩
    · rintro n s' h' ⟨i, e0, e3, hh, hn, hg⟩
      subst hh
      simp only [aws, eq_self, reduceIte, Nat.reduceLT, acmpnil, teset, e0, e3]
      refine ck_of (fun hi => ?_) (fun hi => ?_)
      · simp only [decide_eq_true_eq] at hi
        obtain ⟨b, hb1, hb2⟩ := byte_at (s := s) (i := i) (by omega)
        simp only [aws, eq_self, implies_true, imp_self, reduceIte, reduceCtorEq, Nat.reduceLT, Nat.reduceEqDiff, Nat.reduceBEq, acmpnil, teset, e0, e3, Int.toNat_natCast, hb1, Int.natCast_nonneg]
        have hnot : okByte b = false → h'.Ext h' ∧ ∃ u, AOut.ret (AV.bool false) = AOut.ret u ∧ u.erase = AV.bool (isText s) := by
          intro hb
          refine ⟨.refl _, _, rfl, ?_⟩
          have : s.data.toList.all okByte = false := by
            rw [Bool.eq_false_iff]
            intro h1
            rw [List.all_eq_true] at h1
            rw [h1 b (List.mem_of_getElem? hb2)] at hb; cases hb
          simp [AV.erase, isText, this]
        cases hlo : decide ((b.toNat : Int) < 32) with
        | true =>
          simp only [aws, eq_self, implies_true, reduceIte, Nat.reduceLT, Nat.reduceEqDiff, Nat.reduceBEq, ares1, teset, e3]
          refine hnot ?_
          simp only [decide_eq_true_eq] at hlo
          have : ¬ 32 ≤ b.toNat := by omega
          simp [okByte, this]
        | false =>
          simp only [aws, eq_self, implies_true, reduceIte, reduceCtorEq, Nat.reduceLT, Nat.reduceEqDiff, Nat.reduceBEq, acmpnil, teset, e0, e3, Int.toNat_natCast, hb1, Int.natCast_nonneg]
          cases hup : decide ((b.toNat : Int) > 126) with
          | true =>
            simp only [aws, eq_self, reduceIte, Nat.reduceLT, Nat.reduceEqDiff, ares1]
            refine hnot ?_
            simp only [decide_eq_true_eq] at hup
            have : ¬ b.toNat ≤ 126 := by omega
            simp [okByte, this]
          | false =>
            simp only [aws, eq_self, reduceIte, reduceCtorEq, Nat.reduceLT, Nat.reduceEqDiff, acmpnil, e0, e3]
            simp only [decide_eq_false_iff_not] at hlo hup
            refine ⟨n - 1, by omega, i + 1, ?_, ?_, ?_⟩
            · rw [wrap_succ (by omega)]
            · omega
            · intro j c hj hjc
              by_cases e : j = i
              · subst e
                rw [hb2] at hjc; injection hjc with hjc; subst hjc
                have h1 : 32 ≤ b.toNat := by omega
                have h2 : b.toNat ≤ 126 := by omega
                simp [okByte, h1, h2]
              · exact hg j c (by omega) hjc
      · simp only [aws, eq_self, reduceIte, Nat.reduceLT, ares1]
        simp only [decide_eq_false_iff_not] at hi
        refine ⟨.refl _, _, rfl, ?_⟩
        have h1 : s.data.toList.all okByte = true := by
          rw [List.all_eq_true]
          intro b hb
          obtain ⟨j, hj⟩ := List.mem_iff_getElem?.1 hb
          have hlt := (List.getElem?_eq_some_iff.1 hj).1
          have : s.data.toList.length = s.size := by simp
          exact hg j b (by omega) hj
        have : s.size ≤ 100 := by omega
        simp [AV.erase, isText, this, h1]
end Go.Proofs.YtjdocenbfghglaaGreatDoor.AW
end
section
set_option linter.unusedSimpArgs false
set_option linter.unusedVariables false
namespace Go.Proofs.YtjdocenbfghglaaGreatDoor.AW
open Go Go.RowKit

/-- A value of the program. -/
inductive V where
  | mk (kind int : Int) (text : ByteArray) (items : List V) (keys : List ByteArray)
  deriving Inhabited
def V.kind : V → Int | .mk k _ _ _ _ => k
def V.int : V → Int | .mk _ i _ _ _ => i
def V.text : V → ByteArray | .mk _ _ t _ _ => t
def V.items : V → List V | .mk _ _ _ xs _ => xs
def V.keys : V → List ByteArray | .mk _ _ _ _ ks => ks

mutual
def inj : V → AV
  | .mk k i t xs ks => .agg [.int .i64 k, .int .i64 i, .str t, .sl .ro 5 (injL xs), .sl .ro 1 (ks.map .str)]
def injL : List V → List AV
  | [] => []
  | x :: xs => inj x :: injL xs
end
theorem injL_eq (xs : List V) : injL xs = xs.map inj := by
  induction xs with
  | nil => rfl
  | cons x xs ih => simp [injL, ih]
theorem inj_eq (v : V) : inj v = .agg [.int .i64 v.kind, .int .i64 v.int, .str v.text, .sl .ro 5 (v.items.map inj), .sl .ro 1 (v.keys.map .str)] := by
  cases v; simp [inj, injL_eq, V.kind, V.int, V.text, V.items, V.keys]
theorem inj_mk (k i : Int) (t : ByteArray) (xs : List V) (ks : List ByteArray) : inj (.mk k i t xs ks) = .agg [.int .i64 k, .int .i64 i, .str t, .sl .ro 5 (xs.map inj), .sl .ro 1 (ks.map .str)] := by
  simp [inj, injL_eq]
mutual
def V.ok : V → Prop
  | .mk _ _ t xs ks => t.size < 4611686018427387904 ∧ xs.length < 4611686018427387904 ∧ ks.length < 4611686018427387904 ∧ (∀ k ∈ ks, k.size < 4611686018427387904) ∧ V.okL xs
def V.okL : List V → Prop
  | [] => True
  | x :: xs => x.ok ∧ V.okL xs
end
mutual
theorem inj_under (v : V) : (inj v).under 0 0 = true := by
  cases v with
  | mk k i t xs ks =>
    simp only [inj, AV.under, AV.underL, Bool.and_true, Bool.true_and]
    rw [injL_under xs]
    simp only [Bool.true_and]
    induction ks with
    | nil => rfl
    | cons k ks ih => simp [AV.underL, AV.under, ih]
theorem injL_under (xs : List V) : AV.underL 0 0 (injL xs) = true := by
  cases xs with
  | nil => rfl
  | cons x xs => simp [injL, AV.underL, inj_under x, injL_under xs]
end
mutual
theorem inj_erase (v : V) : (inj v).erase = inj v := by
  cases v with
  | mk k i t xs ks =>
    simp only [inj, AV.erase, AV.eraseL, injL_erase xs]
    have : AV.eraseL (ks.map AV.str) = ks.map AV.str := by
      induction ks with
      | nil => rfl
      | cons k ks ih => simp [AV.eraseL, AV.erase, ih]
    rw [this]
theorem injL_erase (xs : List V) : AV.eraseL (injL xs) = injL xs := by
  cases xs with
  | nil => rfl
  | cons x xs => simp [injL, AV.eraseL, inj_erase x, injL_erase xs]
end

theorem load_inj (v : V) : (if 5 ≤ (inj v).cells.length then some (AV.agg (List.take 5 (inj v).cells)) else none) = some (inj v) := by
  cases v; simp [inj_mk, AV.cells]
theorem inj_len (v : V) : (inj v).cells.length = 5 := by
  cases v; simp [inj_mk, AV.cells]
theorem inj_one (v : V) : (inj v).cells.all AV.one = true := by
  cases v; simp [inj_mk, AV.cells, AV.one]
theorem inj_take (v : V) : List.take 5 (inj v).cells = (inj v).cells := by
  cases v; simp [inj_mk, AV.cells]
theorem inj_drop (v : V) : List.drop 5 (inj v).cells = [] := by
  cases v; simp [inj_mk, AV.cells]
theorem inj_agg (v : V) : AV.agg (inj v).cells = inj v := by
  cases v; simp [inj_mk, AV.cells]

def plainS (v : V) (n t i k : Bool) : Bool := (n || v.int == 0) && (t || v.text.toList == (⟨#[]⟩ : ByteArray).toList) && (i || (v.items.length : Int) == 0) && (k || (v.keys.length : Int) == 0)
theorem plain_pure (v : V) (n t i k : Bool) : Pure Tryz.prog 101 [inj v, .bool n, .bool t, .bool i, .bool k] (.bool (plainS v n t i k)) := by
  rw [inj_eq]
  refine Pure.of ⟨Tryz.f101, Tryz.func101, rfl, by kernel_rfl⟩ rfl (fun h => ?_)
  refine acalls_of te_ok [13, 14, 15, 18, 19, 20, 21, 22, 23, 26, 27, 28, 29, 30, 31, 32, 35, 36, 37, 38, 39, 40, 41] Tryz.func101 (c := _) rfl (Nat.le_of_ble_eq_true rfl) ?_
  simp only [aws, eq_self, implies_true, imp_self, reduceIte, Nat.reduceLT, Nat.reduceEqDiff, Nat.reduceBEq, ares1, teset, Tryz.ntmps101, Tryz.results101]
  refine ⟨(AH.Ext.refl h).new _, _, rfl, ?_⟩
  simp [AV.erase, plainS]
end Go.Proofs.YtjdocenbfghglaaGreatDoor.AW
end
section
set_option linter.unusedSimpArgs false
set_option linter.unusedVariables false
namespace Go.Proofs.YtjdocenbfghglaaGreatDoor.AW
open Go Go.RowKit

theorem mixed : Tryz.prog.follows .mixedOrders = true := by kernel_rfl
def sless (x y : ByteArray) : Bool := Op.bytesLess x.toList y.toList
def keyOk (ks : List ByteArray) (i : Nat) : Bool := isText (ks.getD i default) && (i == 0 || sless (ks.getD (i - 1) default) (ks.getD i default))
def keysOk (ks : List ByteArray) : Bool := (List.range ks.length).all (keyOk ks)
def shape (v : V) : Bool :=
  if v.kind = 0 then plainS v false false false false
  else if v.kind = 1 then plainS v true false false false && (v.int == 0 || v.int == 1)
  else if v.kind = 2 then plainS v true false false false && (decide (v.int ≤ 1000000000000) && decide (-1000000000000 ≤ v.int))
  else if v.kind = 3 then plainS v false true false false && isText v.text
  else if v.kind = 4 then plainS v false false true false
  else if v.kind = 5 then plainS v false false true true && v.keys.length == v.items.length && keysOk v.keys
  else false
theorem shape_0 (i : Int) (t : ByteArray) (xs : List V) (ks : List ByteArray) : shape (.mk 0 i t xs ks) = plainS (.mk 0 i t xs ks) false false false false := by simp [shape, V.kind]
theorem shape_1 (i : Int) (t : ByteArray) (xs : List V) (ks : List ByteArray) : shape (.mk 1 i t xs ks) = (plainS (.mk 1 i t xs ks) true false false false && (i == 0 || i == 1)) := by simp [shape, V.kind, V.int]
theorem shape_2 (i : Int) (t : ByteArray) (xs : List V) (ks : List ByteArray) : shape (.mk 2 i t xs ks) = (plainS (.mk 2 i t xs ks) true false false false && (decide (i ≤ 1000000000000) && decide (-1000000000000 ≤ i))) := by simp [shape, V.kind, V.int]; rfl
theorem shape_3 (i : Int) (t : ByteArray) (xs : List V) (ks : List ByteArray) : shape (.mk 3 i t xs ks) = (plainS (.mk 3 i t xs ks) false true false false && isText t) := by simp [shape, V.kind, V.text]
theorem shape_4 (i : Int) (t : ByteArray) (xs : List V) (ks : List ByteArray) : shape (.mk 4 i t xs ks) = plainS (.mk 4 i t xs ks) false false true false := by simp [shape, V.kind]
theorem shape_5 (i : Int) (t : ByteArray) (xs : List V) (ks : List ByteArray) : shape (.mk 5 i t xs ks) = (plainS (.mk 5 i t xs ks) false false true true && ks.length == xs.length && keysOk ks) := by simp [shape, V.kind, V.keys, V.items]
theorem shape_x {k : Int} (i : Int) (t : ByteArray) (xs : List V) (ks : List ByteArray) (h0 : k ≠ 0) (h1 : k ≠ 1) (h2 : k ≠ 2) (h3 : k ≠ 3) (h4 : k ≠ 4) (h5 : k ≠ 5) : shape (.mk k i t xs ks) = false := by simp [shape, V.kind, h0, h1, h2, h3, h4, h5]
def nodesF (f : V → Nat) : Nat → List V → Nat
  | n, [] => n
  | n, x :: xs => if n + f x > 60 then 61 else nodesF f (n + f x) xs
def nodesS : Nat → V → Nat
  | 0, _ => 61
  | L + 1, v => if v.items.length > 60 then 61 else if shape v then nodesF (nodesS L) 1 v.items else 61

theorem plain_pure' (k i : Int) (t : ByteArray) (xs : List V) (ks : List ByteArray) (a b c d : Bool) : Pure Tryz.prog 101 [.agg [.int .i64 k, .int .i64 i, .str t, .sl .ro 5 (xs.map inj), .sl .ro 1 (ks.map .str)], .bool a, .bool b, .bool c, .bool d] (.bool (plainS (.mk k i t xs ks) a b c d)) := by
  have := plain_pure (.mk k i t xs ks) a b c d
  rwa [inj_mk] at this

theorem nodesF_le (f : V → Nat) : ∀ (xs : List V) (n : Nat), n ≤ 60 → nodesF f n xs ≤ 61 := by
  intro xs
  induction xs with
  | nil => intro n h; simp only [nodesF]; omega
  | cons x xs ih =>
    intro n h
    simp only [nodesF]
    split
    · omega
    · exact ih _ (by omega)
theorem nodesS_le (L : Nat) (v : V) : nodesS L v ≤ 61 := by
  cases L with
  | zero => simp [nodesS]
  | succ L =>
    simp only [nodesS]
    split
    · omega
    · split
      · exact nodesF_le _ _ _ (by omega)
      · omega

set_option maxHeartbeats 4000000 in
theorem nodes_pure : ∀ (L : Nat) (v : V), L < 1000 → Pure Tryz.prog 64 [inj v, .int .i64 L] (.int .i64 (nodesS L v)) := by
  intro L
  induction L with
  | zero =>
    intro v _
    rw [inj_eq]
    refine Pure.of ⟨Tryz.f64, Tryz.func64, rfl, by kernel_rfl⟩ rfl (fun h => ?_)
    refine acalls_of te_ok [12, 13, 14, 15] Tryz.func64 (c := _) rfl (Nat.le_of_ble_eq_true rfl) ?_
    simp only [aws, eq_self, implies_true, imp_self, reduceIte, Nat.reduceLT, Nat.reduceEqDiff, Nat.reduceBEq, Int.reduceLT, Int.reduceNeg, acmpnil, ares1, teset, Tryz.ntmps64, Tryz.results64, Int.natCast_zero]
    exact ⟨(AH.Ext.refl h).new _, _, rfl, rfl⟩
  | succ L ih =>
    intro v hL
    obtain ⟨k, i, t, xs, ks⟩ := v
    rw [inj_mk]
    refine Pure.of ⟨Tryz.f64, Tryz.func64, rfl, by kernel_rfl⟩ rfl (fun h => ?_)
    have hlev : decide (((L + 1 : Nat) : Int) < 1) = false := by simp; omega
    have bad61 : ∀ h', h.Ext h' → nodesS (L + 1) (.mk k i t xs ks) = 61 → h.Ext h' ∧ ∃ u, AOut.ret (.int .i64 61) = .ret u ∧ u.erase = .int .i64 (nodesS (L + 1) (.mk k i t xs ks)) := fun h' he hn => ⟨he, _, rfl, by rw [hn]; rfl⟩
    have hext := (AH.Ext.refl h).new [AV.int IntKind.i64 k, AV.int IntKind.i64 i, AV.str t, AV.sl Tag.ro 5 (List.map inj xs), AV.sl Tag.ro 1 (List.map AV.str ks)]
    refine acalls_of te_ok [12, 13, 14, 15, 33, 34, 35, 36, 37, 38, 39, 40, 49, 50, 51, 54, 55, 56, 83, 84, 85, 86, 87, 88, 89] Tryz.func64 (c := _) rfl (Nat.le_of_ble_eq_true rfl) ?_
    simp only [aws, eq_self, implies_true, reduceIte, Nat.reduceLT, Nat.reduceEqDiff, Nat.reduceBEq, Int.reduceNeg, acmpnil, teset, Tryz.ntmps64, Tryz.results64, hlev, List.length_map]
    by_cases hlen : xs.length > 60
    · have hlen' : decide ((xs.length : Int) > 60) = true := by simp; omega
      simp only [aws, eq_self, reduceIte, Nat.reduceLT, Nat.reduceEqDiff, Int.reduceNeg, ares1, hlen']
      exact bad61 _ hext (by simp [nodesS, V.items, hlen])
    have hlen' : decide ((xs.length : Int) > 60) = false := by simp; omega
    have hbad : shape (.mk k i t xs ks) = false → nodesS (L + 1) (.mk k i t xs ks) = 61 := fun hs => by simp [nodesS, hs]
    simp only [aws, eq_self, reduceIte, Nat.reduceLT, Nat.reduceEqDiff, Int.reduceNeg, acmpnil, teset, hlen']
    have hshape : shape (.mk k i t xs ks) = true → nodesS (L + 1) (.mk k i t xs ks) = nodesF (nodesS L) 1 xs := fun hs => by simp [nodesS, hs, V.items, hlen]
    by_cases h0 : k = 0
    · have q0 : (k == 0) = true := by simp [h0]
      simp only [aws, eq_self, reduceIte, Nat.reduceAdd, Nat.reduceLT, Nat.reduceLeDiff, Nat.reduceEqDiff, Int.reduceNeg, teset, q0]
      refine ACallV.pure (plain_pure' _ _ _ _ _ _ _ _ _) ?_
      cases hp : plainS (.mk k i t xs ks) false false false false with
      | false => simp only [aws, eq_self, reduceIte, Nat.reduceLT, Nat.reduceEqDiff, ares1]; exact bad61 _ hext (hbad (by subst h0; rw [shape_0]; exact hp))
      | true =>
        simp only [aws, eq_self, reduceIte, Nat.reduceLT, Nat.reduceEqDiff]
        have hs : shape (.mk k i t xs ks) = true := by subst h0; rw [shape_0]; exact hp
        rw [hshape hs]
        refine ⟨fun n s' h' => ∃ (j acc : Nat), s' 1 = .int .i64 ((L + 1 : Nat) : Int) ∧ s' 2 = .ptr h.nb 0 ∧ s' 5 = .int .i64 61 ∧ s' 7 = .int .i64 acc ∧ s' 8 = .int .i64 j ∧ h' = h.new [.int .i64 k, .int .i64 i, .str t, .sl .ro 5 (List.map inj xs), .sl .ro 1 (List.map AV.str ks)] ∧ n + j = xs.length ∧ acc ≤ 60 ∧ nodesF (nodesS L) acc (xs.drop j) = nodesF (nodesS L) 1 xs, ⟨xs.length, 0, 1, ?_⟩, ?_⟩
        · first
            | (simp only [aws, eq_self, reduceIte, Nat.reduceLeDiff, Nat.reduceEqDiff, Int.natCast_zero, Int.natCast_one]; done)
            | (simp only [aws, ne_eq, eq_self, implies_true, imp_self, reduceIte, reduceCtorEq, Nat.reduceAdd, Nat.reduceLT, Nat.reduceLeDiff, Nat.reduceEqDiff, Nat.reduceSub, Nat.reduceMul, Nat.reduceBEq, Int.reduceBEq, Int.reduceBNe, Int.reduceLT, Int.reduceLE, Int.reduceGT, Int.reduceGE, Int.reduceNeg, Int.reduceEq, Int.reduceNe, Int.reduceToNat, Int.reduceAdd, aconv, acvB, capR, acmpnil, appBox, storeB, ares1, appendTo, afill, aeqL, teset, Int.natCast_zero, Int.natCast_one]; exact ⟨by assumption, by assumption, by assumption⟩)
        · rintro n s' h' ⟨j, acc, e1, e2, e5, e7, e8, hh, hn, hacc, hf⟩
          subst hh
          simp only [aws, eq_self, reduceIte, Nat.reduceLT, Nat.reduceEqDiff, acmpnil, teset, e2, e8, List.length_map]
          cases hc : decide ((j : Int) < (xs.length : Int)) with
          | false =>
            simp only [aws, eq_self, reduceIte, Nat.reduceLT, Nat.reduceEqDiff, ares1, e7]
            simp only [decide_eq_false_iff_not] at hc
            refine ⟨hext, _, rfl, ?_⟩
            rw [← hf, List.drop_eq_nil_of_le (by omega)]
            rfl
          | true =>
            simp only [decide_eq_true_eq] at hc
            have hj : j < xs.length := by omega
            have hget : (xs.map inj)[((j : Nat) : Int).toNat]? = some (inj xs[j]) := by simp [hj]
            have hw : IntKind.i64.wrap (((L + 1 : Nat) : Int) - 1) = (L : Int) := by rw [wrap_i64 (by omega) (by omega)]; omega
            have hle := nodesS_le L xs[j]
            have hw2 : IntKind.i64.wrap ((acc : Int) + (nodesS L xs[j] : Int)) = ((acc + nodesS L xs[j] : Nat) : Int) := by rw [wrap_i64 (by omega) (by omega)]; omega
            simp only [aws, eq_self, reduceIte, Nat.reduceLT, Nat.reduceEqDiff, acmpnil, teset, e1, e2, e7, e8, hget, Int.natCast_nonneg, load_inj, hw]
            refine ACallV.pure (ih xs[j] (by omega)) ?_
            simp only [aws, eq_self, reduceIte, Nat.reduceLT, Nat.reduceEqDiff, acmpnil, e7, hw2]
            rw [List.drop_eq_getElem_cons hj, nodesF] at hf
            cases hg : decide (((acc + nodesS L xs[j] : Nat) : Int) > 60) with
            | true =>
              simp only [aws, eq_self, reduceIte, Nat.reduceLT, Nat.reduceEqDiff, ares1, e5]
              simp only [decide_eq_true_eq] at hg
              refine ⟨hext, _, rfl, ?_⟩
              rw [← hf, if_pos (by omega)]
              rfl
            | false =>
              simp only [aws, eq_self, reduceIte, Nat.reduceLT, Nat.reduceEqDiff, acmpnil, e1, e2, e5, e7, e8]
              simp only [decide_eq_false_iff_not] at hg
              rw [if_neg (by omega)] at hf
              refine ⟨n - 1, by omega, j + 1, _, rfl, ?_, ?_, ?_, hf⟩
              · rw [wrap_succ (by omega)]
              · omega
              · omega
    have q0 : (k == 0) = false := by simp [h0]
    by_cases h1 : k = 1
    · have q1 : (k == 1) = true := by simp [h1]
      simp only [aws, eq_self, reduceIte, Nat.reduceAdd, Nat.reduceLT, Nat.reduceLeDiff, Nat.reduceEqDiff, Int.reduceNeg, acmpnil, teset, q0, q1]
      refine ACallV.pure (plain_pure' _ _ _ _ _ _ _ _ _) ?_
      simp only [aws, eq_self, implies_true, imp_self, reduceIte, Nat.reduceLT, Nat.reduceEqDiff, Nat.reduceBEq, teset]
      have hs' : shape (.mk k i t xs ks) = (plainS (.mk k i t xs ks) true false false false && (i == 0 || i == 1)) := by subst h1; exact shape_1 _ _ _ _
      refine ck_of (fun hc => ?_) (fun hc => ?_)
      · simp only [aws, eq_self, reduceIte, Nat.reduceLT, Nat.reduceEqDiff, ares1]
        refine bad61 _ hext (hbad ?_)
        rw [hs']; revert hc
        cases plainS (.mk k i t xs ks) true false false false <;> simp
      · simp only [aws, eq_self, Nat.reduceLT]
        have hs : shape (.mk k i t xs ks) = true := by
          rw [hs']; revert hc
          cases plainS (.mk k i t xs ks) true false false false <;> simp
          omega
        rw [hshape hs]
        refine ⟨fun n s' h' => ∃ (j acc : Nat), s' 1 = .int .i64 ((L + 1 : Nat) : Int) ∧ s' 2 = .ptr h.nb 0 ∧ s' 5 = .int .i64 61 ∧ s' 7 = .int .i64 acc ∧ s' 8 = .int .i64 j ∧ h' = h.new [.int .i64 k, .int .i64 i, .str t, .sl .ro 5 (List.map inj xs), .sl .ro 1 (List.map AV.str ks)] ∧ n + j = xs.length ∧ acc ≤ 60 ∧ nodesF (nodesS L) acc (xs.drop j) = nodesF (nodesS L) 1 xs, ⟨xs.length, 0, 1, ?_⟩, ?_⟩
        · first
            | (simp only [aws, eq_self, reduceIte, Nat.reduceLeDiff, Nat.reduceEqDiff, Int.natCast_zero, Int.natCast_one]; done)
            | (simp only [aws, ne_eq, eq_self, implies_true, imp_self, reduceIte, reduceCtorEq, Nat.reduceAdd, Nat.reduceLT, Nat.reduceLeDiff, Nat.reduceEqDiff, Nat.reduceSub, Nat.reduceMul, Nat.reduceBEq, Int.reduceBEq, Int.reduceBNe, Int.reduceLT, Int.reduceLE, Int.reduceGT, Int.reduceGE, Int.reduceNeg, Int.reduceEq, Int.reduceNe, Int.reduceToNat, Int.reduceAdd, aconv, acvB, capR, acmpnil, appBox, storeB, ares1, appendTo, afill, aeqL, teset, Int.natCast_zero, Int.natCast_one]; exact ⟨by assumption, by assumption, by assumption⟩)
        · rintro n s' h' ⟨j, acc, e1, e2, e5, e7, e8, hh, hn, hacc, hf⟩
          subst hh
          simp only [aws, eq_self, reduceIte, Nat.reduceLT, Nat.reduceEqDiff, acmpnil, teset, e2, e8, List.length_map]
          cases hc : decide ((j : Int) < (xs.length : Int)) with
          | false =>
            simp only [aws, eq_self, reduceIte, Nat.reduceLT, Nat.reduceEqDiff, ares1, e7]
            simp only [decide_eq_false_iff_not] at hc
            refine ⟨hext, _, rfl, ?_⟩
            rw [← hf, List.drop_eq_nil_of_le (by omega)]
            rfl
          | true =>
            simp only [decide_eq_true_eq] at hc
            have hj : j < xs.length := by omega
            have hget : (xs.map inj)[((j : Nat) : Int).toNat]? = some (inj xs[j]) := by simp [hj]
            have hw : IntKind.i64.wrap (((L + 1 : Nat) : Int) - 1) = (L : Int) := by rw [wrap_i64 (by omega) (by omega)]; omega
            have hle := nodesS_le L xs[j]
            have hw2 : IntKind.i64.wrap ((acc : Int) + (nodesS L xs[j] : Int)) = ((acc + nodesS L xs[j] : Nat) : Int) := by rw [wrap_i64 (by omega) (by omega)]; omega
            simp only [aws, eq_self, reduceIte, Nat.reduceLT, Nat.reduceEqDiff, acmpnil, teset, e1, e2, e7, e8, hget, Int.natCast_nonneg, load_inj, hw]
            refine ACallV.pure (ih xs[j] (by omega)) ?_
            simp only [aws, eq_self, reduceIte, Nat.reduceLT, Nat.reduceEqDiff, acmpnil, e7, hw2]
            rw [List.drop_eq_getElem_cons hj, nodesF] at hf
            cases hg : decide (((acc + nodesS L xs[j] : Nat) : Int) > 60) with
            | true =>
              simp only [aws, eq_self, reduceIte, Nat.reduceLT, Nat.reduceEqDiff, ares1, e5]
              simp only [decide_eq_true_eq] at hg
              refine ⟨hext, _, rfl, ?_⟩
              rw [← hf, if_pos (by omega)]
              rfl
            | false =>
              simp only [aws, eq_self, reduceIte, Nat.reduceLT, Nat.reduceEqDiff, acmpnil, e1, e2, e5, e7, e8]
              simp only [decide_eq_false_iff_not] at hg
              rw [if_neg (by omega)] at hf
              refine ⟨n - 1, by omega, j + 1, _, rfl, ?_, ?_, ?_, hf⟩
              · rw [wrap_succ (by omega)]
              · omega
              · omega
    have q1 : (k == 1) = false := by simp [h1]
    by_cases h2 : k = 2
    · have q2 : (k == 2) = true := by simp [h2]
      simp only [aws, eq_self, reduceIte, Nat.reduceAdd, Nat.reduceLT, Nat.reduceLeDiff, Nat.reduceEqDiff, Int.reduceNeg, acmpnil, teset, q0, q1, q2]
      refine ACallV.pure (plain_pure' _ _ _ _ _ _ _ _ _) ?_
      simp only [aws, eq_self, implies_true, imp_self, reduceIte, Nat.reduceLT, Nat.reduceEqDiff, Nat.reduceBEq, Int.reduceNeg, teset]
      have hs' : shape (.mk k i t xs ks) = (plainS (.mk k i t xs ks) true false false false && (decide (i ≤ 1000000000000) && decide (-1000000000000 ≤ i))) := by subst h2; exact shape_2 _ _ _ _
      refine ck_of (fun hc => ?_) (fun hc => ?_)
      · simp only [aws, eq_self, reduceIte, Nat.reduceLT, Nat.reduceEqDiff, Int.reduceNeg, ares1]
        refine bad61 _ hext (hbad ?_)
        rw [hs']; revert hc
        cases plainS (.mk k i t xs ks) true false false false <;> simp
        omega
      · simp only [aws, eq_self, Nat.reduceLT, Int.reduceNeg]
        have hs : shape (.mk k i t xs ks) = true := by
          rw [hs']; revert hc
          cases plainS (.mk k i t xs ks) true false false false <;> simp
        rw [hshape hs]
        refine ⟨fun n s' h' => ∃ (j acc : Nat), s' 1 = .int .i64 ((L + 1 : Nat) : Int) ∧ s' 2 = .ptr h.nb 0 ∧ s' 5 = .int .i64 61 ∧ s' 7 = .int .i64 acc ∧ s' 8 = .int .i64 j ∧ h' = h.new [.int .i64 k, .int .i64 i, .str t, .sl .ro 5 (List.map inj xs), .sl .ro 1 (List.map AV.str ks)] ∧ n + j = xs.length ∧ acc ≤ 60 ∧ nodesF (nodesS L) acc (xs.drop j) = nodesF (nodesS L) 1 xs, ⟨xs.length, 0, 1, ?_⟩, ?_⟩
        · first
            | (simp only [aws, eq_self, reduceIte, Nat.reduceLeDiff, Nat.reduceEqDiff, Int.reduceNeg, Int.natCast_zero, Int.natCast_one]; done)
            | (simp only [aws, ne_eq, eq_self, implies_true, imp_self, reduceIte, reduceCtorEq, Nat.reduceAdd, Nat.reduceLT, Nat.reduceLeDiff, Nat.reduceEqDiff, Nat.reduceSub, Nat.reduceMul, Nat.reduceBEq, Int.reduceBEq, Int.reduceBNe, Int.reduceLT, Int.reduceLE, Int.reduceGT, Int.reduceGE, Int.reduceNeg, Int.reduceEq, Int.reduceNe, Int.reduceToNat, Int.reduceAdd, aconv, acvB, capR, acmpnil, appBox, storeB, ares1, appendTo, afill, aeqL, teset, Int.natCast_zero, Int.natCast_one]; exact ⟨by assumption, by assumption, by assumption⟩)
        · rintro n s' h' ⟨j, acc, e1, e2, e5, e7, e8, hh, hn, hacc, hf⟩
          subst hh
          simp only [aws, eq_self, reduceIte, Nat.reduceLT, Nat.reduceEqDiff, acmpnil, teset, e2, e8, List.length_map]
          cases hc : decide ((j : Int) < (xs.length : Int)) with
          | false =>
            simp only [aws, eq_self, reduceIte, Nat.reduceLT, Nat.reduceEqDiff, ares1, e7]
            simp only [decide_eq_false_iff_not] at hc
            refine ⟨hext, _, rfl, ?_⟩
            rw [← hf, List.drop_eq_nil_of_le (by omega)]
            rfl
          | true =>
            simp only [decide_eq_true_eq] at hc
            have hj : j < xs.length := by omega
            have hget : (xs.map inj)[((j : Nat) : Int).toNat]? = some (inj xs[j]) := by simp [hj]
            have hw : IntKind.i64.wrap (((L + 1 : Nat) : Int) - 1) = (L : Int) := by rw [wrap_i64 (by omega) (by omega)]; omega
            have hle := nodesS_le L xs[j]
            have hw2 : IntKind.i64.wrap ((acc : Int) + (nodesS L xs[j] : Int)) = ((acc + nodesS L xs[j] : Nat) : Int) := by rw [wrap_i64 (by omega) (by omega)]; omega
            simp only [aws, eq_self, reduceIte, Nat.reduceLT, Nat.reduceEqDiff, acmpnil, teset, e1, e2, e7, e8, hget, Int.natCast_nonneg, load_inj, hw]
            refine ACallV.pure (ih xs[j] (by omega)) ?_
            simp only [aws, eq_self, reduceIte, Nat.reduceLT, Nat.reduceEqDiff, acmpnil, e7, hw2]
            rw [List.drop_eq_getElem_cons hj, nodesF] at hf
            cases hg : decide (((acc + nodesS L xs[j] : Nat) : Int) > 60) with
            | true =>
              simp only [aws, eq_self, reduceIte, Nat.reduceLT, Nat.reduceEqDiff, ares1, e5]
              simp only [decide_eq_true_eq] at hg
              refine ⟨hext, _, rfl, ?_⟩
              rw [← hf, if_pos (by omega)]
              rfl
            | false =>
              simp only [aws, eq_self, reduceIte, Nat.reduceLT, Nat.reduceEqDiff, acmpnil, e1, e2, e5, e7, e8]
              simp only [decide_eq_false_iff_not] at hg
              rw [if_neg (by omega)] at hf
              refine ⟨n - 1, by omega, j + 1, _, rfl, ?_, ?_, ?_, hf⟩
              · rw [wrap_succ (by omega)]
              · omega
              · omega
    have q2 : (k == 2) = false := by simp [h2]
    by_cases h3 : k = 3
    · have q3 : (k == 3) = true := by simp [h3]
      simp only [aws, eq_self, reduceIte, Nat.reduceAdd, Nat.reduceLT, Nat.reduceLeDiff, Nat.reduceEqDiff, Int.reduceNeg, acmpnil, teset, q0, q1, q2, q3]
      refine ACallV.pure (plain_pure' _ _ _ _ _ _ _ _ _) ?_
      have hs' : shape (.mk k i t xs ks) = (plainS (.mk k i t xs ks) false true false false && isText t) := by subst h3; exact shape_3 _ _ _ _
      cases hp : plainS (.mk k i t xs ks) false true false false with
      | false =>
        simp only [aws, eq_self, implies_true, imp_self, reduceIte, Nat.reduceLT, Nat.reduceEqDiff, Nat.reduceBEq, ares1, teset]
        refine bad61 _ hext (hbad ?_)
        rw [hs', hp]; rfl
      | true =>
        simp only [aws, eq_self, implies_true, reduceIte, Nat.reduceLT, Nat.reduceEqDiff, Nat.reduceBEq, teset]
        refine ACallV.pure (isText_pure _) ?_
        cases ht : isText t with
        | false =>
          simp only [aws, eq_self, implies_true, reduceIte, Nat.reduceLT, Nat.reduceEqDiff, Nat.reduceBEq, ares1]
          refine bad61 _ hext (hbad ?_)
          rw [hs', hp, ht]; rfl
        | true =>
          simp only [aws, eq_self, implies_true, reduceIte, Nat.reduceLT, Nat.reduceEqDiff, Nat.reduceBEq]
          have hs : shape (.mk k i t xs ks) = true := by rw [hs', hp, ht]; rfl
          rw [hshape hs]
          refine ⟨fun n s' h' => ∃ (j acc : Nat), s' 1 = .int .i64 ((L + 1 : Nat) : Int) ∧ s' 2 = .ptr h.nb 0 ∧ s' 5 = .int .i64 61 ∧ s' 7 = .int .i64 acc ∧ s' 8 = .int .i64 j ∧ h' = h.new [.int .i64 k, .int .i64 i, .str t, .sl .ro 5 (List.map inj xs), .sl .ro 1 (List.map AV.str ks)] ∧ n + j = xs.length ∧ acc ≤ 60 ∧ nodesF (nodesS L) acc (xs.drop j) = nodesF (nodesS L) 1 xs, ⟨xs.length, 0, 1, ?_⟩, ?_⟩
          · first
              | (simp only [aws, eq_self, reduceIte, Nat.reduceLeDiff, Nat.reduceEqDiff, Int.natCast_zero, Int.natCast_one]; done)
              | (simp only [aws, ne_eq, eq_self, implies_true, imp_self, reduceIte, reduceCtorEq, Nat.reduceAdd, Nat.reduceLT, Nat.reduceLeDiff, Nat.reduceEqDiff, Nat.reduceSub, Nat.reduceMul, Nat.reduceBEq, Int.reduceBEq, Int.reduceBNe, Int.reduceLT, Int.reduceLE, Int.reduceGT, Int.reduceGE, Int.reduceNeg, Int.reduceEq, Int.reduceNe, Int.reduceToNat, Int.reduceAdd, aconv, acvB, capR, acmpnil, appBox, storeB, ares1, appendTo, afill, aeqL, teset, Int.natCast_zero, Int.natCast_one]; exact ⟨by assumption, by assumption, by assumption⟩)
          · rintro n s' h' ⟨j, acc, e1, e2, e5, e7, e8, hh, hn, hacc, hf⟩
            subst hh
            simp only [aws, eq_self, reduceIte, Nat.reduceLT, Nat.reduceEqDiff, acmpnil, teset, e2, e8, List.length_map]
            cases hc : decide ((j : Int) < (xs.length : Int)) with
            | false =>
              simp only [aws, eq_self, reduceIte, Nat.reduceLT, Nat.reduceEqDiff, ares1, e7]
              simp only [decide_eq_false_iff_not] at hc
              refine ⟨hext, _, rfl, ?_⟩
              rw [← hf, List.drop_eq_nil_of_le (by omega)]
              rfl
            | true =>
              simp only [decide_eq_true_eq] at hc
              have hj : j < xs.length := by omega
              have hget : (xs.map inj)[((j : Nat) : Int).toNat]? = some (inj xs[j]) := by simp [hj]
              have hw : IntKind.i64.wrap (((L + 1 : Nat) : Int) - 1) = (L : Int) := by rw [wrap_i64 (by omega) (by omega)]; omega
              have hle := nodesS_le L xs[j]
              have hw2 : IntKind.i64.wrap ((acc : Int) + (nodesS L xs[j] : Int)) = ((acc + nodesS L xs[j] : Nat) : Int) := by rw [wrap_i64 (by omega) (by omega)]; omega
              simp only [aws, eq_self, reduceIte, Nat.reduceLT, Nat.reduceEqDiff, acmpnil, teset, e1, e2, e7, e8, hget, Int.natCast_nonneg, load_inj, hw]
              refine ACallV.pure (ih xs[j] (by omega)) ?_
              simp only [aws, eq_self, reduceIte, Nat.reduceLT, Nat.reduceEqDiff, acmpnil, e7, hw2]
              rw [List.drop_eq_getElem_cons hj, nodesF] at hf
              cases hg : decide (((acc + nodesS L xs[j] : Nat) : Int) > 60) with
              | true =>
                simp only [aws, eq_self, reduceIte, Nat.reduceLT, Nat.reduceEqDiff, ares1, e5]
                simp only [decide_eq_true_eq] at hg
                refine ⟨hext, _, rfl, ?_⟩
                rw [← hf, if_pos (by omega)]
                rfl
              | false =>
                simp only [aws, eq_self, reduceIte, Nat.reduceLT, Nat.reduceEqDiff, acmpnil, e1, e2, e5, e7, e8]
                simp only [decide_eq_false_iff_not] at hg
                rw [if_neg (by omega)] at hf
                refine ⟨n - 1, by omega, j + 1, _, rfl, ?_, ?_, ?_, hf⟩
                · rw [wrap_succ (by omega)]
                · omega
                · omega
    have q3 : (k == 3) = false := by simp [h3]
    by_cases h4 : k = 4
    · have q4 : (k == 4) = true := by simp [h4]
      simp only [aws, eq_self, reduceIte, Nat.reduceAdd, Nat.reduceLT, Nat.reduceLeDiff, Nat.reduceEqDiff, Int.reduceNeg, acmpnil, teset, q0, q1, q2, q3, q4]
      refine ACallV.pure (plain_pure' _ _ _ _ _ _ _ _ _) ?_
      cases hp : plainS (.mk k i t xs ks) false false true false with
      | false => simp only [aws, eq_self, reduceIte, Nat.reduceLT, Nat.reduceEqDiff, ares1]; exact bad61 _ hext (hbad (by subst h4; rw [shape_4]; exact hp))
      | true =>
        simp only [aws, eq_self, reduceIte, Nat.reduceLT, Nat.reduceEqDiff]
        have hs : shape (.mk k i t xs ks) = true := by subst h4; rw [shape_4]; exact hp
        rw [hshape hs]
        refine ⟨fun n s' h' => ∃ (j acc : Nat), s' 1 = .int .i64 ((L + 1 : Nat) : Int) ∧ s' 2 = .ptr h.nb 0 ∧ s' 5 = .int .i64 61 ∧ s' 7 = .int .i64 acc ∧ s' 8 = .int .i64 j ∧ h' = h.new [.int .i64 k, .int .i64 i, .str t, .sl .ro 5 (List.map inj xs), .sl .ro 1 (List.map AV.str ks)] ∧ n + j = xs.length ∧ acc ≤ 60 ∧ nodesF (nodesS L) acc (xs.drop j) = nodesF (nodesS L) 1 xs, ⟨xs.length, 0, 1, ?_⟩, ?_⟩
        · first
            | (simp only [aws, eq_self, reduceIte, Nat.reduceLeDiff, Nat.reduceEqDiff, Int.natCast_zero, Int.natCast_one]; done)
            | (simp only [aws, ne_eq, eq_self, implies_true, imp_self, reduceIte, reduceCtorEq, Nat.reduceAdd, Nat.reduceLT, Nat.reduceLeDiff, Nat.reduceEqDiff, Nat.reduceSub, Nat.reduceMul, Nat.reduceBEq, Int.reduceBEq, Int.reduceBNe, Int.reduceLT, Int.reduceLE, Int.reduceGT, Int.reduceGE, Int.reduceNeg, Int.reduceEq, Int.reduceNe, Int.reduceToNat, Int.reduceAdd, aconv, acvB, capR, acmpnil, appBox, storeB, ares1, appendTo, afill, aeqL, teset, Int.natCast_zero, Int.natCast_one]; exact ⟨by assumption, by assumption, by assumption⟩)
        · rintro n s' h' ⟨j, acc, e1, e2, e5, e7, e8, hh, hn, hacc, hf⟩
          subst hh
          simp only [aws, eq_self, reduceIte, Nat.reduceLT, Nat.reduceEqDiff, acmpnil, teset, e2, e8, List.length_map]
          cases hc : decide ((j : Int) < (xs.length : Int)) with
          | false =>
            simp only [aws, eq_self, reduceIte, Nat.reduceLT, Nat.reduceEqDiff, ares1, e7]
            simp only [decide_eq_false_iff_not] at hc
            refine ⟨hext, _, rfl, ?_⟩
            rw [← hf, List.drop_eq_nil_of_le (by omega)]
            rfl
          | true =>
            simp only [decide_eq_true_eq] at hc
            have hj : j < xs.length := by omega
            have hget : (xs.map inj)[((j : Nat) : Int).toNat]? = some (inj xs[j]) := by simp [hj]
            have hw : IntKind.i64.wrap (((L + 1 : Nat) : Int) - 1) = (L : Int) := by rw [wrap_i64 (by omega) (by omega)]; omega
            have hle := nodesS_le L xs[j]
            have hw2 : IntKind.i64.wrap ((acc : Int) + (nodesS L xs[j] : Int)) = ((acc + nodesS L xs[j] : Nat) : Int) := by rw [wrap_i64 (by omega) (by omega)]; omega
            simp only [aws, eq_self, reduceIte, Nat.reduceLT, Nat.reduceEqDiff, acmpnil, teset, e1, e2, e7, e8, hget, Int.natCast_nonneg, load_inj, hw]
            refine ACallV.pure (ih xs[j] (by omega)) ?_
            simp only [aws, eq_self, reduceIte, Nat.reduceLT, Nat.reduceEqDiff, acmpnil, e7, hw2]
            rw [List.drop_eq_getElem_cons hj, nodesF] at hf
            cases hg : decide (((acc + nodesS L xs[j] : Nat) : Int) > 60) with
            | true =>
              simp only [aws, eq_self, reduceIte, Nat.reduceLT, Nat.reduceEqDiff, ares1, e5]
              simp only [decide_eq_true_eq] at hg
              refine ⟨hext, _, rfl, ?_⟩
              rw [← hf, if_pos (by omega)]
              rfl
            | false =>
              simp only [aws, eq_self, reduceIte, Nat.reduceLT, Nat.reduceEqDiff, acmpnil, e1, e2, e5, e7, e8]
              simp only [decide_eq_false_iff_not] at hg
              rw [if_neg (by omega)] at hf
              refine ⟨n - 1, by omega, j + 1, _, rfl, ?_, ?_, ?_, hf⟩
              · rw [wrap_succ (by omega)]
              · omega
              · omega
    have q4 : (k == 4) = false := by simp [h4]
    by_cases h5 : k = 5
    · have q5 : (k == 5) = true := by simp [h5]
      simp only [aws, eq_self, reduceIte, Nat.reduceAdd, Nat.reduceLT, Nat.reduceLeDiff, Nat.reduceEqDiff, Int.reduceNeg, acmpnil, teset, q0, q1, q2, q3, q4, q5]
      refine ACallV.pure (plain_pure' _ _ _ _ _ _ _ _ _) ?_
      have hs' : shape (.mk k i t xs ks) = (plainS (.mk k i t xs ks) false false true true && ks.length == xs.length && keysOk ks) := by subst h5; exact shape_5 _ _ _ _
      simp only [aws, eq_self, implies_true, imp_self, reduceIte, Nat.reduceLT, Nat.reduceEqDiff, Nat.reduceBEq, teset, List.length_map]
      refine ck_of (fun hc => ?_) (fun hc => ?_)
      · simp only [aws, eq_self, reduceIte, Nat.reduceLT, Nat.reduceEqDiff, ares1]
        refine bad61 _ hext (hbad ?_)
        rw [hs']; revert hc
        cases plainS (.mk k i t xs ks) false false true true <;> simp
        intro hne hc; exact absurd hc (by omega)
      · have hp : plainS (.mk k i t xs ks) false false true true = true := by revert hc; cases plainS (.mk k i t xs ks) false false true true <;> simp
        have hkl : ks.length = xs.length := by revert hc; rw [hp]; simp; omega
        simp only [aws, eq_self, Nat.reduceLT]
        refine ⟨fun n s' h' => ∃ (j : Nat), s' 1 = .int .i64 ((L + 1 : Nat) : Int) ∧ s' 2 = .ptr h.nb 0 ∧ s' 5 = .int .i64 61 ∧ s' 6 = .int .i64 j ∧ h' = h.new [.int .i64 k, .int .i64 i, .str t, .sl .ro 5 (List.map inj xs), .sl .ro 1 (List.map AV.str ks)] ∧ n + j = ks.length ∧ (∀ j', j' < j → keyOk ks j' = true), ⟨ks.length, 0, ?_⟩, ?_⟩
        · simp only [aws, eq_self, reduceIte, Nat.reduceEqDiff, Int.natCast_zero]
          exact fun j' hj' => absurd hj' (Nat.not_lt_zero _)
        · rintro n s' h' ⟨j, e1, e2, e5, e6, hh, hn, hall⟩
          subst hh
          simp only [aws, eq_self, reduceIte, Nat.reduceLT, Nat.reduceEqDiff, acmpnil, teset, e2, e6, List.length_map]
          cases hc : decide ((j : Int) < (ks.length : Int)) with
          | false =>
            simp only [aws, eq_self, reduceIte, Nat.reduceLT]
            simp only [decide_eq_false_iff_not] at hc
            have hko : keysOk ks = true := by
              unfold keysOk
              rw [List.all_eq_true]
              intro j' hj'
              exact hall j' (by have := List.mem_range.1 hj'; omega)
            have hs : shape (.mk k i t xs ks) = true := by rw [hs', hp, hko, hkl]; simp
            rw [hshape hs]
            refine ⟨fun n s' h' => ∃ (j acc : Nat), s' 1 = .int .i64 ((L + 1 : Nat) : Int) ∧ s' 2 = .ptr h.nb 0 ∧ s' 5 = .int .i64 61 ∧ s' 7 = .int .i64 acc ∧ s' 8 = .int .i64 j ∧ h' = h.new [.int .i64 k, .int .i64 i, .str t, .sl .ro 5 (List.map inj xs), .sl .ro 1 (List.map AV.str ks)] ∧ n + j = xs.length ∧ acc ≤ 60 ∧ nodesF (nodesS L) acc (xs.drop j) = nodesF (nodesS L) 1 xs, ⟨xs.length, 0, 1, ?_⟩, ?_⟩
            · first
                | (simp only [aws, eq_self, reduceIte, Nat.reduceLeDiff, Nat.reduceEqDiff, Int.natCast_zero, Int.natCast_one]; done)
                | (simp only [aws, eq_self, reduceIte, Nat.reduceLeDiff, Nat.reduceEqDiff, Int.natCast_zero, Int.natCast_one]; exact ⟨by assumption, by assumption, by assumption⟩)
            · rintro n s' h' ⟨j, acc, e1, e2, e5, e7, e8, hh, hn, hacc, hf⟩
              subst hh
              simp only [aws, eq_self, reduceIte, Nat.reduceLT, Nat.reduceEqDiff, acmpnil, teset, e2, e8, List.length_map]
              cases hc : decide ((j : Int) < (xs.length : Int)) with
              | false =>
                simp only [aws, eq_self, reduceIte, Nat.reduceLT, Nat.reduceEqDiff, ares1, e7]
                simp only [decide_eq_false_iff_not] at hc
                refine ⟨hext, _, rfl, ?_⟩
                rw [← hf, List.drop_eq_nil_of_le (by omega)]
                rfl
              | true =>
                simp only [decide_eq_true_eq] at hc
                have hj : j < xs.length := by omega
                have hget : (xs.map inj)[((j : Nat) : Int).toNat]? = some (inj xs[j]) := by simp [hj]
                have hw : IntKind.i64.wrap (((L + 1 : Nat) : Int) - 1) = (L : Int) := by rw [wrap_i64 (by omega) (by omega)]; omega
                have hle := nodesS_le L xs[j]
                have hw2 : IntKind.i64.wrap ((acc : Int) + (nodesS L xs[j] : Int)) = ((acc + nodesS L xs[j] : Nat) : Int) := by rw [wrap_i64 (by omega) (by omega)]; omega
                simp only [aws, eq_self, reduceIte, Nat.reduceLT, Nat.reduceEqDiff, acmpnil, teset, e1, e2, e7, e8, hget, Int.natCast_nonneg, load_inj, hw]
                refine ACallV.pure (ih xs[j] (by omega)) ?_
                simp only [aws, eq_self, reduceIte, Nat.reduceLT, Nat.reduceEqDiff, acmpnil, e7, hw2]
                rw [List.drop_eq_getElem_cons hj, nodesF] at hf
                cases hg : decide (((acc + nodesS L xs[j] : Nat) : Int) > 60) with
                | true =>
                  simp only [aws, eq_self, reduceIte, Nat.reduceLT, Nat.reduceEqDiff, ares1, e5]
                  simp only [decide_eq_true_eq] at hg
                  refine ⟨hext, _, rfl, ?_⟩
                  rw [← hf, if_pos (by omega)]
                  rfl
                | false =>
                  simp only [aws, eq_self, reduceIte, Nat.reduceLT, Nat.reduceEqDiff, acmpnil, e1, e2, e5, e7, e8]
                  simp only [decide_eq_false_iff_not] at hg
                  rw [if_neg (by omega)] at hf
                  refine ⟨n - 1, by omega, j + 1, _, rfl, ?_, ?_, ?_, hf⟩
                  · rw [wrap_succ (by omega)]
                  · omega
                  · omega
          | true =>
            simp only [decide_eq_true_eq] at hc
            have hj : j < ks.length := by omega
            have hget : (ks.map AV.str)[((j : Nat) : Int).toNat]? = some (.str ks[j]) := by simp [hj]
            have hgd : ks.getD j default = ks[j] := by simp [hj]
            simp only [aws]
            refine acode_draw_chain te_ok mixed [] (by kernel_rfl) ?_
            simp only [aws, eq_self, reduceIte, Nat.reduceAdd, Nat.reduceLT, Nat.reduceEqDiff, teset, e2, e6, hget, Int.natCast_nonneg]
            refine skR_pure (isText_pure _) ?_
            have badkey : keyOk ks j = false → shape (.mk k i t xs ks) = false := by
              intro hk
              rw [hs']
              have : keysOk ks = false := by
                rw [Bool.eq_false_iff]
                intro hq
                unfold keysOk at hq
                rw [List.all_eq_true] at hq
                have := hq j (List.mem_range.2 hj)
                rw [hk] at this; cases this
              rw [this]; simp
            cases hit : isText ks[j] with
            | false =>
              simp only [aws, eq_self, reduceIte, Nat.reduceLT, Nat.reduceEqDiff, ares1, e5]
              exact bad61 _ hext (hbad (badkey (by unfold keyOk; rw [hgd, hit]; rfl)))
            | true =>
              simp only [aws, eq_self, reduceIte, Nat.reduceEqDiff, acmpnil, e6]
              cases j with
              | zero =>
                simp only [aws, eq_self, reduceIte, Nat.reduceLT, Nat.reduceEqDiff, Int.reduceGT, Int.reduceAdd, acmpnil, e1, e2, e5, e6, Int.natCast_zero]
                have hok : keyOk ks 0 = true := by unfold keyOk; rw [hgd, hit]; rfl
                refine ⟨n - 1, by omega, 1, rfl, by omega, fun j' hj' => ?_⟩
                have : j' = 0 := by omega
                subst this; exact hok
              | succ j =>
                have hpos : decide ((((j + 1 : Nat) : Int)) > 0) = true := by simp
                have hw : IntKind.i64.wrap (((j + 1 : Nat) : Int) - 1) = (j : Int) := by rw [wrap_i64 (by omega) (by omega)]; omega
                have hget2 : (ks.map AV.str)[((j : Nat) : Int).toNat]? = some (.str ks[j]) := by simp
                simp only [aws, eq_self, reduceIte, Nat.reduceEqDiff, acmpnil, teset, e2, e6, hget, hget2, hpos, hw, Int.natCast_nonneg]
                have hgd2 : ks.getD j default = ks[j] := by simp [show j < ks.length by omega]
                have hko : keyOk ks (j + 1) = sless ks[j] ks[j + 1] := by
                  unfold keyOk
                  rw [hgd, hit, Nat.add_sub_cancel, hgd2]
                  simp
                cases hsl : Op.bytesLess ks[j].toList ks[j + 1].toList with
                | false =>
                  simp only [aws, eq_self, reduceIte, Nat.reduceLT, Nat.reduceEqDiff, ares1, e5]
                  exact bad61 _ hext (hbad (badkey (by rw [hko]; exact hsl)))
                | true =>
                  simp only [aws, eq_self, reduceIte, Nat.reduceLT, Nat.reduceEqDiff, acmpnil, e1, e2, e5, e6]
                  refine ⟨n - 1, by omega, j + 1 + 1, ?_, by omega, fun j' hj' => ?_⟩
                  · rw [wrap_succ (by omega)]
                  · by_cases e : j' = j + 1
                    · subst e; rw [hko]; exact hsl
                    · exact hall j' (by omega)
    · have q5 : (k == 5) = false := by simp [h5]
      simp only [aws, eq_self, reduceIte, Nat.reduceLT, Nat.reduceEqDiff, Int.reduceNeg, acmpnil, ares1, q0, q1, q2, q3, q4, q5]
      exact bad61 _ hext (hbad (shape_x _ _ _ _ h0 h1 h2 h3 h4 h5))
end Go.Proofs.YtjdocenbfghglaaGreatDoor.AW
end
section
set_option linter.unusedSimpArgs false
set_option linter.unusedVariables false
namespace Go.Proofs.YtjdocenbfghglaaGreatDoor.AW
open Go Go.RowKit

def valid (v : V) : Bool := decide (nodesS 6 v ≤ 60)
theorem nodes6_pure (k i : Int) (t : ByteArray) (xs : List V) (ks : List ByteArray) : Pure Tryz.prog 64 [.agg [.int .i64 k, .int .i64 i, .str t, .sl .ro 5 (xs.map inj), .sl .ro 1 (ks.map .str)], .int .i64 6] (.int .i64 (nodesS 6 (.mk k i t xs ks))) := by
  have := nodes_pure 6 (.mk k i t xs ks) (by omega)
  rwa [inj_mk] at this
theorem refvalid_pure (v : V) : Pure Tryz.prog 24 [inj v] (.bool (valid v)) := by
  obtain ⟨k, i, t, xs, ks⟩ := v
  rw [inj_mk]
  refine Pure.of ⟨Tryz.f24, Tryz.func24, rfl, by kernel_rfl⟩ rfl (fun h => ?_)
  refine acalls_of te_ok [] Tryz.func24 (c := _) rfl (Nat.le_of_ble_eq_true rfl) ?_
  simp only [aws, eq_self, reduceIte, Nat.reduceAdd, Nat.reduceLT, Nat.reduceLeDiff, teset, Tryz.ntmps24, Tryz.results24]
  refine ACallV.pure (nodes6_pure _ _ _ _ _) ?_
  simp only [aws, eq_self, reduceIte, Nat.reduceLT, acmpnil, ares1]
  refine ⟨(AH.Ext.refl h).new _, _, rfl, ?_⟩
  have : decide ((nodesS 6 (.mk k i t xs ks) : Int) ≤ 60) = valid (.mk k i t xs ks) := by
    unfold valid; simp only [decide_eq_decide]; omega
  rw [this]; rfl

/-- A step of a path. -/
structure Stp where
  index : Int
  key : ByteArray
def injS (s : Stp) : AV := .agg [.int .i64 s.index, .str s.key]
end Go.Proofs.YtjdocenbfghglaaGreatDoor.AW
end
section
set_option linter.unusedSimpArgs false
set_option linter.unusedVariables false
namespace Go.Proofs.YtjdocenbfghglaaGreatDoor.AW
open Go Go.RowKit

def zeroV : V := .mk 0 0 ⟨#[]⟩ [] []
theorem wk_zero : Wk (.agg [.int .i64 0, .int .i64 0, .str ⟨#[]⟩, .sl .full 0 [], .sl .full 0 []]) (inj zeroV) :=
  (WkAll.cons (.refl _) (.cons (.refl _) (.cons (.refl _) (.cons (.nil (by intro a b e; cases e)) (.cons (.nil (by intro a b e; cases e)) .nil))))).agg
def keyIdx (ks : List ByteArray) (k : ByteArray) : Option Nat := ks.findIdx? fun x => x.toList == k.toList
def itemS (v : V) (s : Stp) : Option V :=
  if 0 ≤ s.index then (if v.kind = 4 then v.items[s.index.toNat]? else none)
  else if v.kind = 5 then (keyIdx v.keys s.key).bind fun i => v.items[i]?
  else none
def outV : Option V → AV
  | some x => .tup [inj x, .bool true]
  | none => .tup [inj zeroV, .bool false]
theorem outV_under (o : Option V) : (outV o).under 0 0 = true := by
  cases o <;> simp [outV, AV.under, AV.underL, inj_under]
theorem wk_none : Wk (.tup [.agg [.int .i64 0, .int .i64 0, .str ⟨#[]⟩, .sl .full 0 [], .sl .full 0 []], .bool false]) (outV none) :=
  (WkAll.cons wk_zero (.cons (.refl _) .nil)).tup

theorem item_pure (v : V) (s : Stp) (hk : v.kind = 5 → v.keys.length = v.items.length) (hl : v.keys.length < 4611686018427387904) : Pure Tryz.prog 91 [inj v, injS s] (outV (itemS v s)) := by
  obtain ⟨k, i, t, xs, ks⟩ := v
  simp only [V.kind, V.keys, V.items] at hk hl
  rw [inj_mk]
  refine Pure.ofW ⟨Tryz.f91, Tryz.func91, rfl, by kernel_rfl⟩ (outV_under _) (fun h hsc => ?_)
  refine acalls_of te_ok [14, 15, 16, 17, 18, 19] Tryz.func91 (c := _) rfl (Nat.le_of_ble_eq_true rfl) ?_
  simp only [aws, eq_self, reduceIte, Nat.reduceLT, acmpnil, teset, Tryz.ntmps91, Tryz.results91, injS]
  cases hx : decide (s.index ≥ 0) with
  | true =>
    simp only [decide_eq_true_eq] at hx
    simp only [aws, eq_self, implies_true, imp_self, reduceIte, Nat.reduceLT, Nat.reduceEqDiff, Nat.reduceBEq, acmpnil, teset, List.length_map]

    cases hb : (k != 4 || decide (s.index ≥ (xs.length : Int))) with
    | true =>
      simp only [aws, eq_self, reduceIte, Nat.reduceAdd, Nat.reduceLT, Nat.reduceLeDiff, Nat.reduceEqDiff, storeB, ares1, afill, teset]
      refine ⟨by (repeat (first | exact AH.Ext.refl _ | assumption | refine AH.Ext.set ?_ (by first | omega | (simp only [new_nb, set_nb, kill_nb, newTok_nb, setTok_nb]; omega)) _ | refine AH.Ext.new ?_ _)), _, rfl, ?_⟩
      have : itemS (.mk k i t xs ks) s = none := by
        simp only [itemS, V.kind, V.items, if_pos hx]
        by_cases h4 : k = 4
        · subst h4
          simp at hb ⊢
          omega
        · simp [h4]
      rw [this]; exact wk_none
    | false =>
      simp only [Bool.or_eq_false_iff, decide_eq_false_iff_not, bne_eq_false_iff_eq] at hb
      obtain ⟨x, hxs⟩ : ∃ x, xs[s.index.toNat]? = some x := ⟨xs[s.index.toNat]'(by omega), List.getElem?_eq_getElem (by omega)⟩
      have hget : (xs.map inj)[s.index.toNat]? = some (inj x) := by rw [List.getElem?_map, hxs]; rfl
      simp only [aws, eq_self, reduceIte, Nat.reduceAdd, Nat.reduceLT, Nat.reduceLeDiff, Nat.reduceEqDiff, storeB, ares1, teset, hget, hx, inj_take, inj_agg, inj_len, inj_one]
      refine ⟨by (repeat (first | exact AH.Ext.refl _ | assumption | refine AH.Ext.set ?_ (by first | omega | (simp only [new_nb, set_nb, kill_nb, newTok_nb, setTok_nb]; omega)) _ | refine AH.Ext.new ?_ _)), _, rfl, ?_⟩
      have : itemS (.mk k i t xs ks) s = some x := by simp [itemS, V.kind, V.items, hx, hb.1, hxs]
      rw [this]; exact .refl _
  | false =>
    simp only [decide_eq_false_iff_not] at hx
    simp only [aws, eq_self, reduceIte, Nat.reduceLT, Nat.reduceEqDiff, acmpnil, teset]

    cases hb : (k != 5) with
    | true =>
      simp only [aws, eq_self, reduceIte, Nat.reduceAdd, Nat.reduceLT, Nat.reduceLeDiff, Nat.reduceEqDiff, storeB, ares1, afill, teset]
      refine ⟨by (repeat (first | exact AH.Ext.refl _ | assumption | refine AH.Ext.set ?_ (by first | omega | (simp only [new_nb, set_nb, kill_nb, newTok_nb, setTok_nb]; omega)) _ | refine AH.Ext.new ?_ _)), _, rfl, ?_⟩
      have : itemS (.mk k i t xs ks) s = none := by
        simp at hb
        simp [itemS, V.kind, hx, hb]
      rw [this]; exact wk_none
    | false =>
      simp only [bne_eq_false_iff_eq] at hb
      have hkl := hk hb
      have hspec : itemS (.mk k i t xs ks) s = (keyIdx ks s.key).bind fun i => xs[i]? := by simp [itemS, V.kind, V.items, V.keys, hx, hb]
      simp only [aws, eq_self, Nat.reduceLT]
      refine ⟨fun n s' h' => ∃ (j : Nat), s' 2 = .ptr h.nb 0 ∧ s' 3 = .ptr (h.nb + 1) 0 ∧ s' 4 = .ptr (h.nb + 1 + 1) 0 ∧ s' 6 = .int .i64 j ∧ h' = ((h.new [.int .i64 k, .int .i64 i, .str t, .sl .ro 5 (List.map inj xs), .sl .ro 1 (List.map AV.str ks)]).new [AV.int IntKind.i64 s.index, AV.str s.key]).new [AV.int IntKind.i64 0, AV.int IntKind.i64 0, AV.str { data := #[] }, AV.sl Tag.full 0 [], AV.sl Tag.full 0 []] ∧ n + j = ks.length ∧ (∀ (j' : Nat) x, j' < j → ks[j']? = some x → (x.toList == s.key.toList) = false), ⟨ks.length, 0, ?_⟩, ?_⟩
      · simp only [aws, eq_self, reduceIte, Nat.reduceEqDiff, Int.natCast_zero]
        exact fun j' s hj => absurd hj (Nat.not_lt_zero _)
      · rintro n s' h' ⟨j, e2, e3, e4, e6, hh, hn, hall⟩
        subst hh
        simp only [aws, eq_self, reduceIte, Nat.reduceLT, Nat.reduceEqDiff, acmpnil, teset, e2, e6, List.length_map]
        cases hc : decide ((j : Int) < (ks.length : Int)) with
        | false =>
          simp only [aws, eq_self, reduceIte, Nat.reduceAdd, Nat.reduceLT, Nat.reduceLeDiff, Nat.reduceEqDiff, storeB, ares1, afill, teset, e4]
          simp only [decide_eq_false_iff_not] at hc
          refine ⟨by (repeat (first | exact AH.Ext.refl _ | assumption | refine AH.Ext.set ?_ (by first | omega | (simp only [new_nb, set_nb, kill_nb, newTok_nb, setTok_nb]; omega)) _ | refine AH.Ext.new ?_ _)), _, rfl, ?_⟩
          have : keyIdx ks s.key = none := by
            unfold keyIdx
            rw [List.findIdx?_eq_none_iff]
            intro x hx'
            obtain ⟨j', hj'⟩ := List.mem_iff_getElem?.1 hx'
            exact hall j' x (by have := (List.getElem?_eq_some_iff.1 hj').1; omega) hj'
          rw [hspec, this]; exact wk_none
        | true =>
          simp only [decide_eq_true_eq] at hc
          have hj : j < ks.length := by omega
          have hget : (ks.map AV.str)[((j : Nat) : Int).toNat]? = some (.str ks[j]) := by simp [hj]
          simp only [aws]
          refine acode_draw_chain te_ok mixed [] (by kernel_rfl) ?_
          simp only [aws, eq_self, reduceIte, Nat.reduceAdd, Nat.reduceLT, Nat.reduceEqDiff, acmpnil, teset, e2, e3, e6, hget, Int.natCast_nonneg]
          cases hm : (ks[j].toList == s.key.toList) with
          | true =>
            have hget2 : (xs.map inj)[((j : Nat) : Int).toNat]? = some (inj (xs[j]'(by omega))) := by simp [show j < xs.length by omega]
            simp only [aws, eq_self, reduceIte, Nat.reduceAdd, Nat.reduceLT, Nat.reduceLeDiff, Nat.reduceEqDiff, storeB, ares1, teset, e2, e4, e6, inj_take, inj_agg, inj_len, inj_one, hget2, Int.natCast_nonneg]
            refine ⟨by (repeat (first | exact AH.Ext.refl _ | assumption | refine AH.Ext.set ?_ (by first | omega | (simp only [new_nb, set_nb, kill_nb, newTok_nb, setTok_nb]; omega)) _ | refine AH.Ext.new ?_ _)), _, rfl, ?_⟩
            have : keyIdx ks s.key = some j := by
              unfold keyIdx
              rw [List.findIdx?_eq_some_iff_getElem]
              refine ⟨hj, hm, fun j' hj' => ?_⟩
              have := hall j' (ks[j']'(by omega)) hj' (List.getElem?_eq_getElem (by omega))
              simp [this]
            rw [hspec, this]
            simp only [Option.bind_some, List.getElem?_eq_getElem (show j < xs.length by omega)]
            exact .refl _
          | false =>
            simp only [aws, eq_self, reduceIte, Nat.reduceLT, Nat.reduceEqDiff, acmpnil, e2, e3, e4, e6]
            refine ⟨n - 1, by omega, j + 1, ?_, by omega, fun j' x hj' hx' => ?_⟩
            · rw [wrap_succ (by omega)]
            · by_cases e : j' = j
              · subst e; rw [List.getElem?_eq_getElem hj] at hx'; injection hx' with hx'; subst hx'; exact hm
              · exact hall j' x (by omega) hx'
end Go.Proofs.YtjdocenbfghglaaGreatDoor.AW
end
section
set_option linter.unusedSimpArgs false
set_option linter.unusedVariables false
namespace Go.Proofs.YtjdocenbfghglaaGreatDoor.AW
open Go Go.RowKit

def Vok (v : V) : Prop := ∃ L, nodesS L v ≤ 60
theorem nodesF_all (f : V → Nat) : ∀ (xs : List V) (n : Nat), nodesF f n xs ≤ 60 → ∀ x ∈ xs, f x ≤ 60 := by
  intro xs
  induction xs with
  | nil => intro n _ x hx; cases hx
  | cons y xs ih =>
    intro n h x hx
    simp only [nodesF] at h
    split at h
    · omega
    · rcases List.mem_cons.1 hx with rfl | hx
      · omega
      · exact ih _ h x hx
theorem Vok.items {v : V} (h : Vok v) : ∀ x ∈ v.items, Vok x := by
  obtain ⟨L, h⟩ := h
  cases L with
  | zero => simp [nodesS] at h
  | succ L =>
    simp only [nodesS] at h
    split at h
    · omega
    · split at h
      · exact fun x hx => ⟨L, nodesF_all _ _ _ h x hx⟩
      · omega
theorem Vok.shape {v : V} (h : Vok v) : shape v = true ∧ v.items.length ≤ 60 := by
  obtain ⟨L, h⟩ := h
  cases L with
  | zero => simp [nodesS] at h
  | succ L =>
    simp only [nodesS] at h
    split at h
    · omega
    · next hl =>
      split at h
      · next hs => exact ⟨hs, by omega⟩
      · omega
theorem shape_keys {v : V} (h : shape v = true) : (v.kind = 5 → v.keys.length = v.items.length) ∧ (v.kind ≠ 5 → v.keys.length = 0) := by
  obtain ⟨k, i, t, xs, ks⟩ := v
  simp only [V.kind, V.keys, V.items]
  refine ⟨fun hk => ?_, fun hk => ?_⟩
  · subst hk; rw [shape_5] at h; simp at h; exact h.1.2
  · by_cases h0 : k = 0
    · subst h0; rw [shape_0] at h; simp [plainS, V.keys] at h; simp [h.2]
    by_cases h1 : k = 1
    · subst h1; rw [shape_1] at h; simp [plainS, V.keys] at h; simp [h.1.2]
    by_cases h2 : k = 2
    · subst h2; rw [shape_2] at h; simp [plainS, V.keys] at h; simp [h.1.2]
    by_cases h3 : k = 3
    · subst h3; rw [shape_3] at h; simp [plainS, V.keys] at h; simp [h.1.2]
    by_cases h4 : k = 4
    · subst h4; rw [shape_4] at h; simp [plainS, V.keys] at h; simp [h.2]
    · rw [shape_x _ _ _ _ h0 h1 h2 h3 h4 hk] at h; cases h
theorem Vok.keys {v : V} (h : Vok v) : (v.kind = 5 → v.keys.length = v.items.length) ∧ v.keys.length ≤ 60 := by
  obtain ⟨h1, h2⟩ := h.shape
  obtain ⟨h3, h4⟩ := shape_keys h1
  refine ⟨h3, ?_⟩
  by_cases h5 : v.kind = 5
  · rw [h3 h5]; exact h2
  · rw [h4 h5]; omega
mutual
/-- The same, for as many items as there may be while a value is made. -/
def Wok : V → Prop
  | .mk k i t xs ks => AW.shape (.mk k i t xs ks) = true ∧ xs.length ≤ 1000 ∧ WokL xs
def WokL : List V → Prop
  | [] => True
  | x :: xs => Wok x ∧ WokL xs
end
theorem WokL_iff {xs : List V} : WokL xs ↔ ∀ x ∈ xs, Wok x := by
  induction xs with
  | nil => simp [WokL]
  | cons x xs ih => simp [WokL, ih]
theorem Wok.items {v : V} (h : Wok v) : ∀ x ∈ v.items, Wok x := by
  obtain ⟨k, i, t, xs, ks⟩ := v
  rw [Wok] at h
  exact WokL_iff.1 h.2.2
theorem Wok.shape {v : V} (h : Wok v) : AW.shape v = true ∧ v.items.length ≤ 1000 := by
  obtain ⟨k, i, t, xs, ks⟩ := v
  rw [Wok] at h
  exact ⟨h.1, h.2.1⟩
theorem Wok.keys {v : V} (h : Wok v) : (v.kind = 5 → v.keys.length = v.items.length) ∧ v.keys.length ≤ 1000 := by
  obtain ⟨h1, h2⟩ := h.shape
  obtain ⟨h3, h4⟩ := shape_keys h1
  refine ⟨h3, ?_⟩
  by_cases h5 : v.kind = 5
  · rw [h3 h5]; exact h2
  · rw [h4 h5]; omega
mutual
theorem Vok.w : ∀ {v : V}, Vok v → Wok v
  | .mk k i t xs ks, h => by
    rw [Wok]
    have h1 := h.shape
    have h2 : ∀ x ∈ xs, Vok x := h.items
    refine ⟨h1.1, ?_, VokL.w h2⟩
    have h3 : xs.length ≤ 60 := h1.2
    omega
theorem VokL.w : ∀ {xs : List V}, (∀ x ∈ xs, Vok x) → WokL xs
  | [], _ => by simp [WokL]
  | x :: xs, h => by
    rw [WokL]
    exact ⟨Vok.w (h x List.mem_cons_self), VokL.w (fun y hy => h y (List.mem_cons_of_mem _ hy))⟩
end
instance {v : V} : Coe (Vok v) (Wok v) := ⟨Vok.w⟩
theorem itemS_mem {v : V} {s : Stp} {x : V} (h : itemS v s = some x) : x ∈ v.items := by
  unfold itemS at h
  split at h
  · split at h
    · exact List.mem_of_getElem? h
    · cases h
  · split at h
    · obtain ⟨i, _, hi⟩ := Option.bind_eq_some_iff.1 h
      exact List.mem_of_getElem? hi
    · cases h
def atS : V → List Stp → Option V
  | v, [] => some v
  | v, s :: p => (itemS v s).bind fun x => atS x p
theorem refitem_pure {v : V} (hv : Wok v) (s : Stp) : Pure Tryz.prog 91 [inj v, .agg [.int .i64 s.index, .str s.key]] (outV (itemS v s)) :=
  item_pure v s hv.keys.1 (by have := hv.keys.2; omega)

end Go.Proofs.YtjdocenbfghglaaGreatDoor.AW
end
section
set_option linter.unusedSimpArgs false
set_option linter.unusedVariables false
namespace Go.Proofs.YtjdocenbfghglaaGreatDoor.AW
open Go Go.RowKit

mutual
theorem V.ind {p : V → Prop} (h : ∀ k i t xs ks, (∀ x ∈ xs, p x) → p (.mk k i t xs ks)) : ∀ v, p v
  | .mk k i t xs ks => h k i t xs ks (V.indL h xs)
theorem V.indL {p : V → Prop} (h : ∀ k i t xs ks, (∀ x ∈ xs, p x) → p (.mk k i t xs ks)) : ∀ xs : List V, ∀ x ∈ xs, p x
  | [] => fun x hx => by cases hx
  | y :: ys => by
    have h1 := V.ind h y
    have h2 := V.indL h ys
    intro x hx
    rcases List.mem_cons.1 hx with rfl | hx
    · exact h1
    · exact h2 x hx
end
mutual
def sameS : V → V → Bool
  | .mk k i t xs ks, .mk k' i' t' xs' ks' => !(k != k' || i != i' || !(t.toList == t'.toList) || (ks.length : Int) != (ks'.length : Int)) && (ks.zip ks').all (fun p => p.1.toList == p.2.toList) && sameL xs xs'
def sameL : List V → List V → Bool
  | [], [] => true
  | x :: xs, y :: ys => sameS x y && sameL xs ys
  | _, _ => false
end
mutual
def V.sm : V → Prop
  | .mk _ _ _ xs ks => xs.length < 4611686018427387904 ∧ ks.length < 4611686018427387904 ∧ V.smL xs
def V.smL : List V → Prop
  | [] => True
  | x :: xs => x.sm ∧ V.smL xs
end
theorem V.smL_iff {xs : List V} : V.smL xs ↔ ∀ x ∈ xs, x.sm := by
  induction xs with
  | nil => simp [V.smL]
  | cons x xs ih => simp [V.smL, ih]
theorem sameL_len : ∀ {xs ys : List V}, xs.length ≠ ys.length → sameL xs ys = false
  | [], [], h => absurd rfl h
  | [], y :: ys, _ => by simp [sameL]
  | x :: xs, [], _ => by simp [sameL]
  | x :: xs, y :: ys, h => by simp only [sameL]; rw [sameL_len (by simpa using h)]; simp
theorem sameL_eq : ∀ {xs ys : List V}, xs.length = ys.length → (sameL xs ys = true ↔ ∀ (j : Nat) x y, xs[j]? = some x → ys[j]? = some y → sameS x y = true)
  | [], [], _ => by simp [sameL]
  | [], y :: ys, h => by simp at h
  | x :: xs, [], h => by simp at h
  | x :: xs, y :: ys, h => by
    simp only [sameL, Bool.and_eq_true]
    rw [sameL_eq (by simpa using h)]
    constructor
    · rintro ⟨h1, h2⟩ j a b ha hb
      cases j with
      | zero => simp at ha hb; subst ha hb; exact h1
      | succ j => exact h2 j a b (by simpa using ha) (by simpa using hb)
    · intro h
      exact ⟨h 0 x y rfl rfl, fun j a b ha hb => h (j + 1) a b (by simpa using ha) (by simpa using hb)⟩

theorem samelist_pure (xs ys : List V) (hl : xs.length < 4611686018427387904) (ih : ∀ x ∈ xs, ∀ y, Pure Tryz.prog 15 [inj x, inj y] (.bool (sameS x y))) :
    Pure Tryz.prog 49 [.sl .ro 5 (xs.map inj), .sl .ro 5 (ys.map inj)] (.bool (sameL xs ys)) := by
  refine Pure.of ⟨Tryz.f49, Tryz.func49, rfl, by kernel_rfl⟩ rfl (fun h => ?_)
  refine acalls_of te_ok [] Tryz.func49 (c := _) rfl (Nat.le_of_ble_eq_true rfl) ?_
  simp only [aws, eq_self, reduceIte, Nat.reduceLT, acmpnil, teset, Tryz.ntmps49, Tryz.results49, List.length_map]
  cases hc : ((xs.length : Int) != (ys.length : Int)) with
  | true =>
    simp only [aws, eq_self, reduceIte, Nat.reduceLT, ares1]
    exact ⟨.refl _, _, rfl, by rw [sameL_len (by simp at hc; omega)]; rfl⟩
  | false =>
    simp only [aws, eq_self, Nat.reduceLT]
    have hlen : xs.length = ys.length := by
      simp only [bne_eq_false_iff_eq] at hc; omega
    refine ⟨fun n s' h' => ∃ (j : Nat), s' 0 = .sl .ro 5 (xs.map inj) ∧ s' 1 = .sl .ro 5 (ys.map inj) ∧ s' 5 = .int .i64 j ∧ h' = h ∧ n + j = xs.length ∧ (∀ (j' : Nat) x y, j' < j → xs[j']? = some x → ys[j']? = some y → sameS x y = true), ⟨xs.length, 0, ?_⟩, ?_⟩
    · simp only [aws, eq_self, reduceIte, reduceCtorEq, Nat.reduceEqDiff, Int.natCast_zero]
      exact fun j' x y hj => absurd hj (Nat.not_lt_zero _)
    · rintro n s' h' ⟨j, e0, e1, e5, hh, hn, hall⟩
      subst hh
      simp only [aws, eq_self, reduceIte, reduceCtorEq, Nat.reduceLT, acmpnil, teset, e0, e5, List.length_map]
      cases hc : decide ((j : Int) < (xs.length : Int)) with
      | false =>
        simp only [aws, eq_self, reduceIte, Nat.reduceLT, Nat.reduceEqDiff, ares1]
        simp only [decide_eq_false_iff_not] at hc
        have : sameL xs ys = true := (sameL_eq hlen).2 (fun j' x y hx hy => hall j' x y (by have := (List.getElem?_eq_some_iff.1 hx).1; omega) hx hy)
        exact ⟨.refl _, _, rfl, by rw [this]; rfl⟩
      | true =>
        simp only [decide_eq_true_eq] at hc
        have hj : j < xs.length := by omega
        have hj2 : j < ys.length := by omega
        have hget : (xs.map inj)[((j : Nat) : Int).toNat]? = some (inj xs[j]) := by simp [hj]
        have hget2 : (ys.map inj)[((j : Nat) : Int).toNat]? = some (inj ys[j]) := by simp [hj2]
        simp only [aws]
        refine acode_draw_chain te_ok mixed [] (by kernel_rfl) ?_
        simp only [aws, eq_self, reduceIte, reduceCtorEq, Nat.reduceAdd, Nat.reduceLT, Nat.reduceLeDiff, Nat.reduceEqDiff, teset, e0, e1, e5, inj_take, inj_agg, inj_len, hget, hget2, Int.natCast_nonneg]
        refine skR_pure (ih xs[j] (List.getElem_mem _) ys[j]) ?_
        cases hs : sameS xs[j] ys[j] with
        | false =>
          simp only [aws, eq_self, reduceIte, Nat.reduceLT, Nat.reduceEqDiff, ares1]
          have : sameL xs ys = false := by
            rw [Bool.eq_false_iff]
            intro hq
            have := (sameL_eq hlen).1 hq j _ _ (List.getElem?_eq_getElem hj) (List.getElem?_eq_getElem hj2)
            rw [hs] at this; cases this
          exact ⟨.refl _, _, rfl, by rw [this]; rfl⟩
        | true =>
          simp only [aws, eq_self, reduceIte, reduceCtorEq, Nat.reduceLT, Nat.reduceEqDiff, acmpnil, e0, e1, e5]
          refine ⟨n - 1, by omega, j + 1, by rw [wrap_succ (by omega)], by omega, fun j' x y hj' hx hy => ?_⟩
          by_cases e : j' = j
          · subst e
            rw [List.getElem?_eq_getElem hj] at hx
            rw [List.getElem?_eq_getElem hj2] at hy
            injection hx with hx; injection hy with hy
            subst hx hy; exact hs
          · exact hall j' x y (by omega) hx hy

theorem same_pure : ∀ (a b : V), a.sm → Pure Tryz.prog 15 [inj a, inj b] (.bool (sameS a b)) := by
  intro a
  induction a using V.ind with
  | h k i t xs ks ih =>
    intro b hsm
    obtain ⟨k', i', t', xs', ks'⟩ := b
    simp only [V.sm, V.smL_iff] at hsm
    have hlist := samelist_pure xs xs' hsm.1 (fun x hx y => ih x hx y (hsm.2.2 x hx))
    rw [inj_mk, inj_mk]
    refine Pure.ofW ⟨Tryz.f15, Tryz.func15, rfl, by kernel_rfl⟩ rfl (fun h hsc => ?_)
    refine acalls_of te_ok [12, 13, 14, 15, 16, 19, 20, 21, 22, 23, 26, 27, 28, 29, 30, 31, 32] Tryz.func15 (c := _) rfl (Nat.le_of_ble_eq_true rfl) ?_
    simp only [aws, eq_self, implies_true, imp_self, reduceIte, Nat.reduceLT, Nat.reduceEqDiff, Nat.reduceBEq, acmpnil, teset, Tryz.ntmps15, Tryz.results15, List.length_map]
    cases hc : (k != k' || i != i' || !(t.toList == t'.toList) || (ks.length : Int) != (ks'.length : Int)) with
    | true =>
      simp only [aws, eq_self, reduceIte, Nat.reduceLT, Nat.reduceEqDiff, ares1]
      exact ⟨by (repeat (first | exact AH.Ext.refl _ | assumption | refine AH.Ext.set ?_ (by first | omega | (simp only [new_nb, set_nb, kill_nb, newTok_nb, setTok_nb]; omega)) _ | refine AH.Ext.new ?_ _)), _, rfl, by simp only [sameS]; rw [hc]; exact .refl _⟩
    | false =>
      simp only [aws, eq_self, Nat.reduceLT]
      have hlen : ks.length = ks'.length := by simp at hc; omega
      refine ⟨fun n s' h' => ∃ (j : Nat), s' 2 = .ptr h.nb 0 ∧ s' 3 = .ptr (h.nb + 1) 0 ∧ s' 5 = .int .i64 j ∧ h' = (h.new [.int .i64 k, .int .i64 i, .str t, .sl .ro 5 (xs.map inj), .sl .ro 1 (ks.map .str)]).new [.int .i64 k', .int .i64 i', .str t', .sl .ro 5 (xs'.map inj), .sl .ro 1 (ks'.map .str)] ∧ n + j = ks.length ∧ (∀ (j' : Nat) x y, j' < j → ks[j']? = some x → ks'[j']? = some y → (x.toList == y.toList) = true), ⟨ks.length, 0, ?_⟩, ?_⟩
      · simp only [aws, eq_self, reduceIte, Nat.reduceEqDiff, Int.natCast_zero]
        exact fun j' x y hj => absurd hj (Nat.not_lt_zero _)
      · rintro n s' h' ⟨j, e2, e3, e5, hh, hn, hall⟩
        subst hh
        simp only [aws, eq_self, reduceIte, Nat.reduceLT, Nat.reduceEqDiff, acmpnil, teset, e2, e5, List.length_map]
        cases hd : decide ((j : Int) < (ks.length : Int)) with
        | false =>
          simp only [aws, eq_self, reduceIte, Nat.reduceLT, Nat.reduceEqDiff, teset, e2, e3]
          simp only [decide_eq_false_iff_not] at hd
          refine ACallV.pure hlist ?_
          simp only [aws, eq_self, reduceIte, Nat.reduceLT, Nat.reduceEqDiff, ares1]
          refine ⟨by (repeat (first | exact AH.Ext.refl _ | assumption | refine AH.Ext.set ?_ (by first | omega | (simp only [new_nb, set_nb, kill_nb, newTok_nb, setTok_nb]; omega)) _ | refine AH.Ext.new ?_ _)), _, rfl, ?_⟩
          have hz : (ks.zip ks').all (fun p => p.1.toList == p.2.toList) = true := by
            rw [List.all_eq_true]
            intro q hq
            obtain ⟨j', hj'⟩ := List.mem_iff_getElem?.1 hq
            obtain ⟨h1, h2⟩ := List.getElem?_zip_eq_some.1 hj'
            exact hall j' _ _ (by have := (List.getElem?_eq_some_iff.1 h1).1; omega) h1 h2
          simp only [sameS]; rw [hc, hz]
          exact .refl _
        | true =>
          simp only [decide_eq_true_eq] at hd
          have hj : j < ks.length := by omega
          have hj2 : j < ks'.length := by omega
          have hget : (ks.map AV.str)[((j : Nat) : Int).toNat]? = some (.str ks[j]) := by simp [hj]
          have hget2 : (ks'.map AV.str)[((j : Nat) : Int).toNat]? = some (.str ks'[j]) := by simp [hj2]
          simp only [aws]
          refine acode_draw_chain te_ok mixed [] (by kernel_rfl) ?_
          simp only [aws, eq_self, reduceIte, Nat.reduceAdd, Nat.reduceLT, Nat.reduceEqDiff, acmpnil, teset, e2, e3, e5, hget, hget2, Int.natCast_nonneg]
          cases hs : (ks[j].toList == ks'[j].toList) with
          | false =>
            simp only [aws, eq_self, reduceIte, Nat.reduceLT, Nat.reduceEqDiff, ares1]
            refine ⟨by (repeat (first | exact AH.Ext.refl _ | assumption | refine AH.Ext.set ?_ (by first | omega | (simp only [new_nb, set_nb, kill_nb, newTok_nb, setTok_nb]; omega)) _ | refine AH.Ext.new ?_ _)), _, rfl, ?_⟩
            have hz : (ks.zip ks').all (fun p => p.1.toList == p.2.toList) = false := by
              rw [Bool.eq_false_iff]
              intro hq
              rw [List.all_eq_true] at hq
              have := hq (ks[j], ks'[j]) (List.mem_of_getElem? (i := j) (List.getElem?_zip_eq_some.2 ⟨List.getElem?_eq_getElem hj, List.getElem?_eq_getElem hj2⟩))
              rw [hs] at this; cases this
            simp only [sameS]; rw [hc, hz]
            exact .refl _
          | true =>
            simp only [aws, eq_self, reduceIte, Nat.reduceLT, Nat.reduceEqDiff, acmpnil, e2, e3, e5]
            refine ⟨n - 1, by omega, j + 1, by rw [wrap_succ (by omega)], by omega, fun j' x y hj' hx hy => ?_⟩
            by_cases e : j' = j
            · subst e
              rw [List.getElem?_eq_getElem hj] at hx
              rw [List.getElem?_eq_getElem hj2] at hy
              injection hx with hx; injection hy with hy
              subst hx hy; exact hs
            · exact hall j' x y (by omega) hx hy

mutual
theorem sameS_self : ∀ v : V, sameS v v = true
  | .mk k i t xs ks => by
    simp only [sameS, sameL_self xs]
    simp
    intro a b hab
    have : ∀ (l : List ByteArray) (p : ByteArray × ByteArray), p ∈ l.zip l → p.1 = p.2 := by
      intro l
      induction l with
      | nil => intro p hp; simp at hp
      | cons c l ih =>
        intro p hp
        simp only [List.zip_cons_cons, List.mem_cons] at hp
        rcases hp with rfl | hp
        · rfl
        · exact ih p hp
    exact congrArg ByteArray.toList (this ks (a, b) hab)
theorem sameL_self : ∀ xs : List V, sameL xs xs = true
  | [] => rfl
  | x :: xs => by simp [sameL, sameS_self x, sameL_self xs]
end
theorem Vok.sm {v : V} (h : Vok v) : v.sm := by
  induction v using V.ind with
  | h k i t xs ks ih =>
    have h1 := h.shape.2
    have h2 := h.keys.2
    simp only [V.items, V.keys] at h1 h2
    simp only [V.sm, V.smL_iff]
    exact ⟨by omega, by omega, fun x hx => ih x hx (h.items x hx)⟩
theorem zero_sm : zeroV.sm := by simp [zeroV, V.sm, V.smL]
end Go.Proofs.YtjdocenbfghglaaGreatDoor.AW
end
section
set_option linter.unusedSimpArgs false
set_option linter.unusedVariables false
namespace Go.Proofs.YtjdocenbfghglaaGreatDoor.AW
open Go Go.RowKit

theorem bl_irrefl : ∀ x : List UInt8, Op.bytesLess x x = false
  | [] => rfl
  | a :: x => by simp [Op.bytesLess, bl_irrefl x]
theorem bl_trans : ∀ {x y z : List UInt8}, Op.bytesLess x y = true → Op.bytesLess y z = true → Op.bytesLess x z = true
  | _, [], _, h, _ => by simp [Op.bytesLess] at h
  | _, _ :: _, [], _, h => by simp [Op.bytesLess] at h
  | [], _ :: _, _ :: _, _, _ => rfl
  | a :: x, b :: y, c :: z, h, k => by
    simp only [Op.bytesLess, Bool.or_eq_true, Bool.and_eq_true, decide_eq_true_eq, beq_iff_eq] at h k ⊢
    rcases h with h | ⟨rfl, h⟩
    · rcases k with k | ⟨rfl, k⟩
      · exact .inl (UInt8.lt_trans h k)
      · exact .inl h
    · rcases k with k | ⟨rfl, k⟩
      · exact .inl k
      · exact .inr ⟨rfl, bl_trans h k⟩
theorem bl_asymm {x y : List UInt8} (h : Op.bytesLess x y = true) : Op.bytesLess y x = false := by
  cases hk : Op.bytesLess y x with
  | false => rfl
  | true => have := bl_trans h hk; rw [bl_irrefl] at this; cases this
theorem bl_total : ∀ {x y : List UInt8}, Op.bytesLess x y = false → Op.bytesLess y x = false → x = y
  | [], [], _, _ => rfl
  | [], _ :: _, h, _ => by simp [Op.bytesLess] at h
  | _ :: _, [], _, h => by simp [Op.bytesLess] at h
  | a :: x, b :: y, h, k => by
    simp only [Op.bytesLess, Bool.or_eq_false_iff, decide_eq_false_iff_not] at h k
    have hab : a = b := UInt8.le_antisymm (UInt8.not_lt.1 k.1) (UInt8.not_lt.1 h.1)
    subst hab
    simp at h k
    rw [bl_total h k]

theorem isnan1_pure (x : ByteArray) : Pure Tryz.prog 167 [.str x] (.bool false) := by
  refine Pure.of ⟨Tryz.f167, Tryz.func167, rfl, by kernel_rfl⟩ rfl (fun h => ?_)
  refine acalls_of te_ok [] Tryz.func167 (c := _) rfl (Nat.le_of_ble_eq_true rfl) ?_
  simp only [aws, eq_self, reduceIte, Nat.reduceLT, acmpnil, ares1, Tryz.ntmps167, Tryz.results167]
  exact ⟨.refl _, _, rfl, by simp [AV.erase]⟩
theorem isnan2_pure (x : ByteArray) : Pure Tryz.prog 192 [.str x] (.bool false) := by
  refine Pure.of ⟨Tryz.f192, Tryz.func192, rfl, by kernel_rfl⟩ rfl (fun h => ?_)
  refine acalls_of te_ok [] Tryz.func192 (c := _) rfl (Nat.le_of_ble_eq_true rfl) ?_
  simp only [aws, eq_self, reduceIte, Nat.reduceLT, acmpnil, ares1, Tryz.ntmps192, Tryz.results192]
  exact ⟨.refl _, _, rfl, by simp [AV.erase]⟩
theorem less_pure (x y : ByteArray) : Pure Tryz.prog 166 [.str x, .str y] (.bool (sless x y)) := by
  refine Pure.of ⟨Tryz.f166, Tryz.func166, rfl, by kernel_rfl⟩ rfl (fun h => ?_)
  refine acalls_of te_ok [] Tryz.func166 (c := _) rfl (Nat.le_of_ble_eq_true rfl) ?_
  simp only [aws, eq_self, reduceIte, Nat.reduceLT, Tryz.ntmps166, Tryz.results166]
  refine ACallV.pure (isnan2_pure _) ?_
  simp only [aws, eq_self, implies_true, reduceIte, reduceCtorEq, Nat.reduceLT, Nat.reduceEqDiff, Nat.reduceBEq, acmpnil, ares1]
  exact ⟨.refl _, _, rfl, rfl⟩

/-- Where a text stands, or would, among ascending ones. -/
def lb (ks : List ByteArray) (k : ByteArray) : Nat := ks.findIdx fun x => !sless x k
def Asc (ks : List ByteArray) : Prop := ∀ (i : Nat) x y, ks[i]? = some x → ks[i + 1]? = some y → sless x y = true
theorem Asc.lt {ks : List ByteArray} (h : Asc ks) : ∀ (d i : Nat) x y, ks[i]? = some x → ks[i + d + 1]? = some y → sless x y = true := by
  intro d
  induction d with
  | zero => exact h
  | succ d ih =>
    intro i x y hx hy
    have hlt := (List.getElem?_eq_some_iff.1 hy).1
    obtain ⟨z, hz⟩ : ∃ z, ks[i + d + 1]? = some z := ⟨ks[i + d + 1]'(by omega), List.getElem?_eq_getElem (by omega)⟩
    exact bl_trans (ih i x z hx hz) (h (i + d + 1) z y hz hy)
theorem keysOk_asc {ks : List ByteArray} (h : keysOk ks = true) : Asc ks := by
  intro i x y hx hy
  unfold keysOk at h
  rw [List.all_eq_true] at h
  have hlt := (List.getElem?_eq_some_iff.1 hy).1
  have := h (i + 1) (List.mem_range.2 hlt)
  unfold keyOk at this
  simp only [Bool.and_eq_true, Bool.or_eq_true, Nat.add_sub_cancel] at this
  rcases this.2 with h1 | h1
  · simp at h1
  · rw [List.getD_eq_getElem?_getD, List.getD_eq_getElem?_getD, hx, hy] at h1
    exact h1

theorem wrap_u64 {n : Int} (h : 0 ≤ n) (h2 : n < 4611686018427387904) : IntKind.u64.wrap n = n := by
  simp only [IntKind.wrap, IntKind.bits, IntKind.signed, Bool.false_and, Int.reducePow]
  simp
  omega
theorem half (i j : Nat) (h : i + j < 4611686018427387904) : IntKind.i64.wrap ((IntKind.u64.wrap (IntKind.i64.wrap ((i : Int) + (j : Int)))).fdiv (2 ^ min 1 IntKind.u64.bits)) = (((i + j) / 2 : Nat) : Int) := by
  rw [wrap_i64 (n := (i : Int) + (j : Int)) (by omega) (by omega), wrap_u64 (n := (i : Int) + (j : Int)) (by omega) (by omega)]
  have e : ((2 : Int) ^ min 1 IntKind.u64.bits) = 2 := rfl
  rw [e, Int.fdiv_eq_ediv_of_nonneg _ (by omega), wrap_i64 (by omega) (by omega)]
  omega
theorem lb_le (ks : List ByteArray) (k : ByteArray) : lb ks k ≤ ks.length := List.findIdx_le_length
theorem lb_lt {ks : List ByteArray} (ha : Asc ks) {k : ByteArray} {m : Nat} (hm : m < ks.length) (h : sless ks[m] k = true) : m < lb ks k := by
  rcases Nat.lt_or_ge m (lb ks k) with h1 | h1
  · exact h1
  · exfalso
    have hl : lb ks k < ks.length := by omega
    have := List.findIdx_getElem (p := fun x => !sless x k) (xs := ks) (w := hl)
    have hq : sless ks[lb ks k] k = false := by
      have h3 : (!sless ks[lb ks k] k) = true := this
      simpa using h3
    rcases Nat.eq_or_lt_of_le h1 with e | e
    · subst e; rw [h] at hq; cases hq
    · have h2 := ha.lt (m - lb ks k - 1) (lb ks k) _ ks[m] (List.getElem?_eq_getElem hl) (by rw [show lb ks k + (m - lb ks k - 1) + 1 = m by omega]; exact List.getElem?_eq_getElem hm)
      have := bl_trans h2 h
      rw [show Op.bytesLess ks[lb ks k].toList k.toList = sless ks[lb ks k] k from rfl, hq] at this; cases this
theorem lb_ge {ks : List ByteArray} {k : ByteArray} {m : Nat} (hm : m < ks.length) (h : sless ks[m] k = false) : lb ks k ≤ m := by
  rcases Nat.lt_or_ge m (lb ks k) with h1 | h1
  · have := List.not_of_lt_findIdx (p := fun x => !sless x k) (xs := ks) (i := m) h1
    simp [h] at this
  · exact h1

def foundS (ks : List ByteArray) (k : ByteArray) : Bool := match ks[lb ks k]? with | some x => x.toList == k.toList | none => false
theorem search_pure (ks : List ByteArray) (k : ByteArray) (hl : ks.length < 2305843009213693952) (ha : Asc ks) : Pure Tryz.prog 130 [.sl .ro 1 (ks.map .str), .str k] (.tup [.int .i64 (lb ks k), .bool (foundS ks k)]) := by
  refine Pure.of ⟨Tryz.f130, Tryz.func130, rfl, by kernel_rfl⟩ rfl (fun h => ?_)
  refine acalls_of te_ok [] Tryz.func130 (c := _) rfl (Nat.le_of_ble_eq_true rfl) ?_
  simp only [aws, eq_self, reduceIte, Nat.reduceLT, teset, Tryz.ntmps130, Tryz.results130, List.length_map]
  refine ⟨fun n s' h' => ∃ (i j : Nat), s' 0 = .sl .ro 1 (ks.map .str) ∧ s' 1 = .str k ∧ s' 6 = .int .i64 ks.length ∧ s' 7 = .int .i64 i ∧ s' 8 = .int .i64 j ∧ h' = h ∧ n = j - i ∧ i ≤ lb ks k ∧ lb ks k ≤ j ∧ j ≤ ks.length, ⟨ks.length, 0, ks.length, ?_⟩, ?_⟩
  · simp only [aws, eq_self, reduceIte, reduceCtorEq, Nat.reduceEqDiff, Int.natCast_zero]
    exact ⟨by omega, Nat.zero_le _, lb_le _ _, Nat.le_refl _⟩
  · rintro n s' h' ⟨i, j, e0, e1, e6, e7, e8, hh, hn, hi, hj, hjl⟩
    subst hh
    simp only [aws, eq_self, reduceIte, Nat.reduceLT, acmpnil, e7, e8]
    cases hc : decide ((i : Int) < (j : Int)) with
    | false =>
      simp only [aws, eq_self, implies_true, reduceIte, reduceCtorEq, Nat.reduceLT, Nat.reduceEqDiff, Nat.reduceBEq, acmpnil, teset, e0, e6, e7]
      simp only [decide_eq_false_iff_not] at hc
      have hil : i = lb ks k := by omega
      cases hd : decide ((i : Int) < (ks.length : Int)) with
      | false =>
        simp only [aws, eq_self, implies_true, imp_self, reduceIte, Nat.reduceLT, Nat.reduceEqDiff, Nat.reduceBEq, ares1, teset, e1, e7]
        simp only [decide_eq_false_iff_not] at hd
        refine ⟨.refl _, _, rfl, ?_⟩
        have : foundS ks k = false := by unfold foundS; rw [List.getElem?_eq_none (by omega)]
        rw [this, ← hil]; rfl
      | true =>
        simp only [decide_eq_true_eq] at hd
        have hlt : i < ks.length := by omega
        have hget : (ks.map AV.str)[((i : Nat) : Int).toNat]? = some (.str ks[i]) := by simp [hlt]
        simp only [aws, eq_self, implies_true, imp_self, reduceIte, reduceCtorEq, Nat.reduceLT, Nat.reduceEqDiff, Nat.reduceBEq, acmpnil, teset, e0, e1, e7, hget, Int.natCast_nonneg]
        have hf : foundS ks k = (ks[i].toList == k.toList) := by unfold foundS; rw [← hil, List.getElem?_eq_getElem hlt]
        cases hm : (ks[i].toList == k.toList) with
        | true =>
          simp only [aws, eq_self, implies_true, imp_self, reduceIte, Nat.reduceLT, Nat.reduceEqDiff, Nat.reduceBEq, ares1, teset, e7]
          exact ⟨.refl _, _, rfl, by rw [hf, hm, ← hil]; rfl⟩
        | false =>
          simp only [aws, eq_self, implies_true, reduceIte, reduceCtorEq, Nat.reduceLT, Nat.reduceEqDiff, Nat.reduceBEq, teset, e0, e7, hget, Int.natCast_nonneg]
          refine ACallV.pure (isnan1_pure _) ?_
          simp only [aws, eq_self, implies_true, reduceIte, Nat.reduceLT, Nat.reduceEqDiff, ares1, e1]
          exact ⟨.refl _, _, rfl, by rw [hf, hm, ← hil]; rfl⟩
    | true =>
      simp only [decide_eq_true_eq] at hc
      have hm : (i + j) / 2 < ks.length := by omega
      have hget : (ks.map AV.str)[(((i + j) / 2 : Nat) : Int).toNat]? = some (.str (ks[(i + j) / 2])) := by
        rw [Int.toNat_natCast, List.getElem?_map, List.getElem?_eq_getElem hm]; rfl
      have hh2 := half i j (by omega)
      simp only [aws, eq_self, reduceIte, reduceCtorEq, Nat.reduceLT, Nat.reduceEqDiff, Int.reduceLE, Int.reduceToNat, aconv, acvB, acmpnil, teset, e0, e1, e7, e8, hh2, hget, Int.natCast_nonneg]
      refine ACallV.pure (less_pure _ _) ?_
      cases hs : sless ks[(i + j) / 2] k with
      | true =>
        simp only [aws, eq_self, reduceIte, reduceCtorEq, Nat.reduceLT, Nat.reduceEqDiff, acmpnil, e0, e1, e6, e7, e8]
        have := lb_lt ha hm hs
        exact ⟨j - ((i + j) / 2 + 1), by omega, (i + j) / 2 + 1, j, by rw [wrap_succ (by omega)], rfl, rfl, by omega, hj, hjl⟩
      | false =>
        simp only [aws, eq_self, reduceIte, reduceCtorEq, Nat.reduceLT, Nat.reduceEqDiff, e0, e1, e6, e7, e8]
        have := lb_ge hm hs
        exact ⟨(i + j) / 2 - i, by omega, i, (i + j) / 2, rfl, rfl, rfl, hi, this, by omega⟩
end Go.Proofs.YtjdocenbfghglaaGreatDoor.AW
end
section
set_option linter.unusedSimpArgs false
set_option linter.unusedVariables false
namespace Go.Proofs.YtjdocenbfghglaaGreatDoor.AW
open Go Go.RowKit

theorem found_iff {ks : List ByteArray} (ha : Asc ks) (k : ByteArray) : keyIdx ks k = if foundS ks k = true then some (lb ks k) else none := by
  have none_of : foundS ks k = false → keyIdx ks k = none := by
    intro hf
    unfold keyIdx
    rw [List.findIdx?_eq_none_iff]
    intro x hx
    obtain ⟨j, hj⟩ := List.mem_iff_getElem?.1 hx
    have hlt := (List.getElem?_eq_some_iff.1 hj).1
    have hxe : ks[j] = x := (List.getElem?_eq_some_iff.1 hj).2
    cases hm : (x.toList == k.toList) with
    | false => rfl
    | true =>
      exfalso
      have hm' : x.toList = k.toList := by simpa using hm
      have h1 : sless ks[j] k = false := by rw [hxe]; show Op.bytesLess x.toList k.toList = false; rw [hm']; exact bl_irrefl _
      have h2 := lb_ge hlt h1
      have hl : lb ks k < ks.length := by omega
      have hq : sless ks[lb ks k] k = false := by
        have h3 : (!sless ks[lb ks k] k) = true := List.findIdx_getElem (p := fun x => !sless x k) (xs := ks) (w := hl)
        simpa using h3
      have h5 : lb ks k = j := by
        rcases Nat.eq_or_lt_of_le h2 with e | e
        · exact e
        · exfalso
          have h4 := ha.lt (j - lb ks k - 1) (lb ks k) _ x (List.getElem?_eq_getElem hl) (by rw [show lb ks k + (j - lb ks k - 1) + 1 = j by omega]; exact hj)
          have h6 : sless ks[lb ks k] k = true := by
            show Op.bytesLess _ k.toList = true
            rw [← hm']; exact h4
          rw [hq] at h6; cases h6
      unfold foundS at hf
      rw [h5, hj] at hf
      simp only [hm] at hf; cases hf
  cases hf : foundS ks k with
  | false => rw [none_of hf]; rfl
  | true =>
    simp only [if_true]
    unfold foundS at hf
    split at hf
    · next x hx =>
      have hlt := (List.getElem?_eq_some_iff.1 hx).1
      have hxe : ks[lb ks k] = x := (List.getElem?_eq_some_iff.1 hx).2
      unfold keyIdx
      rw [List.findIdx?_eq_some_iff_getElem]
      refine ⟨hlt, by rw [hxe]; exact hf, fun j hj => ?_⟩
      have h1 := List.not_of_lt_findIdx (p := fun x => !sless x k) (xs := ks) (i := j) hj
      intro hq
      have h2 : sless (ks[j]'(by omega)) k = true := by simpa using h1
      have h3 : (ks[j]'(by omega)).toList = k.toList := by simpa using hq
      unfold sless at h2
      rw [h3, bl_irrefl] at h2; cases h2
    · cases hf

def itemP (v : V) (s : Stp) : Int × Bool :=
  if s.index < 0 ∧ v.kind = 5 then (lb v.keys s.key, foundS v.keys s.key)
  else if 0 ≤ s.index ∧ v.kind = 4 then (s.index, decide (s.index < (v.items.length : Int)))
  else (0, false)
theorem shape_asc {v : V} (h : shape v = true) (hk : v.kind = 5) : Asc v.keys := by
  obtain ⟨k, i, t, xs, ks⟩ := v
  simp only [V.kind] at hk
  subst hk
  rw [shape_5] at h
  simp only [Bool.and_eq_true] at h
  exact keysOk_asc h.2
theorem itemP_4 {v : V} {s : Stp} (h0 : 0 ≤ s.index) (h4 : v.kind = 4) : itemP v s = (s.index, decide (s.index < (v.items.length : Int))) := by
  unfold itemP; rw [if_neg (fun h => absurd h.1 (by omega)), if_pos ⟨h0, h4⟩]
theorem itemP_5 {v : V} {s : Stp} (h0 : s.index < 0) (h5 : v.kind = 5) : itemP v s = ((lb v.keys s.key : Int), foundS v.keys s.key) := by
  unfold itemP; rw [if_pos ⟨h0, h5⟩]
theorem itemP_x {v : V} {s : Stp} (h5 : ¬ (s.index < 0 ∧ v.kind = 5)) (h4 : ¬ (0 ≤ s.index ∧ v.kind = 4)) : itemP v s = (0, false) := by
  unfold itemP; rw [if_neg h5, if_neg h4]
theorem itemP_spec {v : V} (hv : Wok v) (s : Stp) : itemS v s = if (itemP v s).2 = true then v.items[(itemP v s).1.toNat]? else none := by
  by_cases h0 : 0 ≤ s.index
  · by_cases h4 : v.kind = 4
    · rw [itemP_4 h0 h4]
      unfold itemS
      rw [if_pos h0, if_pos h4]
      simp only [decide_eq_true_eq]
      split
      · rfl
      · exact List.getElem?_eq_none (by omega)
    · rw [itemP_x (fun h => absurd h.1 (by omega)) (fun h => h4 h.2)]
      unfold itemS
      rw [if_pos h0, if_neg h4]; rfl
  · by_cases h5 : v.kind = 5
    · rw [itemP_5 (by omega) h5]
      unfold itemS
      rw [if_neg h0, if_pos h5, found_iff (shape_asc hv.shape.1 h5)]
      simp only [Int.toNat_natCast]
      split <;> rfl
    · rw [itemP_x (fun h => h5 h.2) (fun h => h0 h.1)]
      unfold itemS
      rw [if_neg h0, if_neg h5]; rfl

theorem pitem_pure {v : V} (hv : Wok v) (s : Stp) : Pure Tryz.prog 83 [inj v, .agg [.int .i64 s.index, .str s.key]] (.tup [.int .i64 (itemP v s).1, .bool (itemP v s).2]) := by
  have hsh := hv.shape
  have hks := hv.keys.2
  obtain ⟨k, i, t, xs, ks⟩ := v
  simp only [V.keys, V.items] at hks hsh
  rw [inj_mk]
  refine Pure.ofW ⟨Tryz.f83, Tryz.func83, rfl, by kernel_rfl⟩ rfl (fun h hsc => ?_)
  refine acalls_of te_ok [11, 12, 13, 27, 28, 29] Tryz.func83 (c := _) rfl (Nat.le_of_ble_eq_true rfl) ?_
  simp only [aws, eq_self, implies_true, imp_self, reduceIte, Nat.reduceLT, Nat.reduceEqDiff, Nat.reduceBEq, acmpnil, teset, Tryz.ntmps83, Tryz.results83]
  cases hx : decide (s.index < 0) with
  | true =>
    simp only [decide_eq_true_eq] at hx
    have hx2 : decide (s.index ≥ 0) = false := by simp; omega
    cases h5 : (k == 5) with
    | true =>
      simp only [aws, eq_self, reduceIte, Nat.reduceLT, Nat.reduceEqDiff, teset]
      have h5' : k = 5 := by simpa using h5
      have hasc : Asc ks := shape_asc hsh.1 h5'
      refine ACallV.pure (search_pure ks s.key (by omega) hasc) ?_
      simp only [aws, eq_self, reduceIte, Nat.reduceLT, Nat.reduceEqDiff, ares1]
      refine ⟨by (repeat (first | exact AH.Ext.refl _ | assumption | refine AH.Ext.set ?_ (by first | omega | (simp only [new_nb, set_nb, kill_nb, newTok_nb, setTok_nb]; omega)) _ | refine AH.Ext.new ?_ _)), _, rfl, ?_⟩
      have : itemP (.mk k i t xs ks) s = ((lb ks s.key : Int), foundS ks s.key) := itemP_5 hx h5'
      rw [this]; exact .refl _
    | false =>
      simp only [aws, eq_self, implies_true, imp_self, reduceIte, Nat.reduceLT, Nat.reduceEqDiff, Nat.reduceBEq, acmpnil, ares1, teset, hx2]
      refine ⟨by (repeat (first | exact AH.Ext.refl _ | assumption | refine AH.Ext.set ?_ (by first | omega | (simp only [new_nb, set_nb, kill_nb, newTok_nb, setTok_nb]; omega)) _ | refine AH.Ext.new ?_ _)), _, rfl, ?_⟩
      have h5' : ¬ k = 5 := by simpa using h5
      have : itemP (.mk k i t xs ks) s = (0, false) := itemP_x (fun h => h5' h.2) (fun h => absurd h.1 (by omega))
      rw [this]; exact .refl _
  | false =>
    simp only [decide_eq_false_iff_not] at hx
    have hx2 : decide (s.index ≥ 0) = true := by simp; omega
    cases h4 : (k == 4) with
    | true =>
      simp only [aws, eq_self, implies_true, reduceIte, Nat.reduceLT, Nat.reduceEqDiff, Nat.reduceBEq, acmpnil, teset, hx2, h4]
      refine acode_draw_chain te_ok mixed [] (by kernel_rfl) ?_
      simp only [aws, eq_self, reduceIte, Nat.reduceAdd, Nat.reduceLT, Nat.reduceEqDiff, acmpnil, ares1, teset, List.length_map]
      refine ⟨by (repeat (first | exact AH.Ext.refl _ | assumption | refine AH.Ext.set ?_ (by first | omega | (simp only [new_nb, set_nb, kill_nb, newTok_nb, setTok_nb]; omega)) _ | refine AH.Ext.new ?_ _)), _, rfl, ?_⟩
      have h4' : k = 4 := by simpa using h4
      have : itemP (.mk k i t xs ks) s = (s.index, decide (s.index < (xs.length : Int))) := itemP_4 (by omega) h4'
      rw [this]; exact .refl _
    | false =>
      simp only [aws, eq_self, implies_true, reduceIte, Nat.reduceLT, Nat.reduceEqDiff, Nat.reduceBEq, acmpnil, ares1, teset, hx2, h4]
      refine ⟨by (repeat (first | exact AH.Ext.refl _ | assumption | refine AH.Ext.set ?_ (by first | omega | (simp only [new_nb, set_nb, kill_nb, newTok_nb, setTok_nb]; omega)) _ | refine AH.Ext.new ?_ _)), _, rfl, ?_⟩
      have h4' : ¬ k = 4 := by simpa using h4
      have : itemP (.mk k i t xs ks) s = (0, false) := itemP_x (fun h => hx h.1) (fun h => h4' h.2)
      rw [this]; exact .refl _
end Go.Proofs.YtjdocenbfghglaaGreatDoor.AW
end
section
set_option linter.unusedSimpArgs false
set_option linter.unusedVariables false
namespace Go.Proofs.YtjdocenbfghglaaGreatDoor.AW
open Go Go.RowKit

theorem itemP_in {v : V} (hv : Wok v) (s : Stp) (h : (itemP v s).2 = true) : 0 ≤ (itemP v s).1 ∧ (itemP v s).1.toNat < v.items.length := by
  by_cases h5 : s.index < 0 ∧ v.kind = 5
  · rw [itemP_5 h5.1 h5.2] at h ⊢
    simp only at h ⊢
    refine ⟨Int.natCast_nonneg _, ?_⟩
    rw [Int.toNat_natCast, ← hv.keys.1 h5.2]
    unfold foundS at h
    split at h
    · next x hx => exact (List.getElem?_eq_some_iff.1 hx).1
    · cases h
  · by_cases h4 : 0 ≤ s.index ∧ v.kind = 4
    · rw [itemP_4 h4.1 h4.2] at h ⊢
      simp only [decide_eq_true_eq] at h ⊢
      omega
    · rw [itemP_x h5 h4] at h; cases h
theorem pat_pure (v : V) (p : List Stp) (hv : Wok v) (hp : p.length < 4611686018427387904) : Pure Tryz.prog 44 [inj v, .sl .ro 2 (p.map injS)] (outV (atS v p)) := by
  refine Pure.ofW ⟨Tryz.f44, Tryz.func44, rfl, by kernel_rfl⟩ (outV_under _) (fun h hsc => ?_)
  refine acalls_of te_ok [] Tryz.func44 (c := _) rfl (Nat.le_of_ble_eq_true rfl) ?_
  simp only [aws, eq_self, reduceIte, Nat.reduceLT, teset, Tryz.ntmps44, Tryz.results44, boxR, inj_one, List.length_map]
  refine ⟨fun n s' h' => ∃ (j : Nat) (cur : V), s' 2 = .ptr h.nb 0 ∧ s' 4 = .ptr (h.nb + 1) 0 ∧ s' 10 = .sl .ro 2 (p.map injS) ∧ s' 11 = .int .i64 p.length ∧ s' 12 = .int .i64 j ∧ n + j = p.length ∧ h.Ext h' ∧ Scoped h' ∧ h.nb + 2 ≤ h'.nb ∧ h'.box h.nb = some (inj cur).cells ∧ h'.box (h.nb + 1) = some [.int .i64 0, .int .i64 0, .str ⟨#[]⟩, .sl .full 0 [], .sl .full 0 []] ∧ Wok cur ∧ atS cur (p.drop j) = atS v p, ⟨p.length, 0, v, ?_⟩, ?_⟩
  · simp only [aws, eq_self, reduceIte, Nat.reduceLeDiff, Nat.reduceEqDiff, Int.natCast_zero]
    exact ⟨by (repeat (first | exact AH.Ext.refl _ | assumption | refine AH.Ext.set ?_ (by first | omega | (simp only [new_nb, set_nb, kill_nb, newTok_nb, setTok_nb]; omega)) _ | refine AH.Ext.new ?_ _)), (hsc.new _).new _, Nat.le_refl _, hv⟩
  · rintro n s' h' ⟨j, cur, e2, e4, e10, e11, e12, hn, hext, hsc', hnb, eb, ez, hcur, hat⟩
    have ne1 : (h.nb = h'.nb) = False := by simp only [eq_iff_iff, iff_false]; omega
    have ne2 : (h.nb + 1 = h'.nb) = False := by simp only [eq_iff_iff, iff_false]; omega
    have ne3 : (h'.nb = h.nb) = False := by simp only [eq_iff_iff, iff_false]; omega
    have ne4 : (h'.nb = h.nb + 1) = False := by simp only [eq_iff_iff, iff_false]; omega
    simp only [aws, eq_self, reduceIte, Nat.reduceLT, acmpnil, e11, e12]
    cases hc : decide ((j : Int) < (p.length : Int)) with
    | false =>
      simp only [aws, eq_self, reduceIte, Nat.reduceAdd, Nat.reduceLT, Nat.reduceLeDiff, Nat.reduceEqDiff, storeB, ares1, teset, e2, e4, eb, ez, inj_take, inj_agg, inj_len, inj_one]
      simp only [decide_eq_false_iff_not] at hc
      refine ⟨by (repeat (first | exact AH.Ext.refl _ | assumption | refine AH.Ext.set ?_ (by first | omega | (simp only [new_nb, set_nb, kill_nb, newTok_nb, setTok_nb]; omega)) _ | refine AH.Ext.new ?_ _)), _, rfl, ?_⟩
      rw [← hat, List.drop_eq_nil_of_le (by omega)]
      exact .refl _
    | true =>
      simp only [decide_eq_true_eq] at hc
      have hj : j < p.length := by omega
      obtain ⟨s, hs⟩ : ∃ s, p[j]? = some s := ⟨p[j], by simp [hj]⟩
      have hget : (p.map injS)[((j : Nat) : Int).toNat]? = some (.agg [.int .i64 s.index, .str s.key]) := by rw [Int.toNat_natCast, List.getElem?_map, hs]; rfl
      rw [List.drop_eq_getElem_cons hj, atS] at hat
      have hpj : p[j] = s := by rw [List.getElem?_eq_getElem hj] at hs; injection hs
      rw [hpj, itemP_spec hcur s] at hat
      have hitem := pitem_pure hcur s
      have hmem := fun x (hx : itemS cur s = some x) => itemS_mem hx
      rw [itemP_spec hcur s] at hmem
      have hin := itemP_in hcur s
      generalize itemP cur s = r at *
      obtain ⟨pos, ok⟩ := r
      obtain ⟨k, i, t, xs, ks⟩ := cur
      rw [inj_mk] at eb hitem
      simp only [AV.cells] at eb
      simp only [V.items] at hat hmem hin
      simp only [aws, eq_self, reduceIte, Nat.reduceAdd, Nat.reduceLT, Nat.reduceLeDiff, Nat.reduceEqDiff, storeB, teset, e2, e10, e12, eb, hget, Int.natCast_nonneg, ne1]
      refine ACallV.pure hitem ?_
      cases ok with
      | false =>
        simp only [aws, eq_self, reduceIte, Nat.reduceAdd, Nat.reduceLT, Nat.reduceLeDiff, Nat.reduceEqDiff, storeB, ares1, afill, teset, e4, ez, ne2]
        refine ⟨by (repeat (first | exact AH.Ext.refl _ | assumption | refine AH.Ext.set ?_ (by first | omega | (simp only [new_nb, set_nb, kill_nb, newTok_nb, setTok_nb]; omega)) _ | refine AH.Ext.new ?_ _)), _, rfl, ?_⟩
        simp at hat
        rw [← hat]
        exact wk_none
      | true =>
        simp only [if_true] at hat hmem
        obtain ⟨hp0, hpl⟩ := hin rfl
        have hxs : xs[pos.toNat]? = some xs[pos.toNat] := List.getElem?_eq_getElem hpl
        have hget2 : (xs.map inj)[pos.toNat]? = some (inj xs[pos.toNat]) := by rw [List.getElem?_map, hxs]; rfl
        simp only [aws, eq_self, reduceIte, Nat.reduceAdd, Nat.reduceLT, Nat.reduceLeDiff, Nat.reduceEqDiff, acmpnil, storeB, teset, e2, e4, e10, e11, e12, eb, ez, inj_take, inj_agg, inj_len, inj_one, hget2, hp0, ne1, ne2]
        rw [hxs, Option.bind_some] at hat
        exact ⟨n - 1, by omega, j + 1, xs[pos.toNat], by rw [wrap_succ (by omega)], by omega, by (repeat (first | exact AH.Ext.refl _ | assumption | refine AH.Ext.set ?_ (by first | omega | (simp only [new_nb, set_nb, kill_nb, newTok_nb, setTok_nb]; omega)) _ | refine AH.Ext.new ?_ _)), by (repeat (first | assumption | refine Scoped.set ?_ (by first | omega | (simp only [new_nb, set_nb]; omega)) _ | refine Scoped.new ?_ _)), by omega, rfl, hcur.items _ (hmem _ hxs), hat⟩
end Go.Proofs.YtjdocenbfghglaaGreatDoor.AW
end
