/- Texts of this claim, part 1: V1, V2, V3, V4, V5, V6, V7, P5, V61, V62, V63, V64, V65, V66, V67, V8, V9, V10. -/
import Derived.Test.YtlbhgoffiigfbaaGreatTab
import Derived.Test.YtlbhgoffiigfbaaGreatAw26
import Derived.Test.YtlbhgoffiigfbaaGreatAw21
import Derived.Test.YtlbhgoffiigfbaaGreatAw28
import Derived.Test.YtlbhgoffiigfbaaGreatAw25
section
set_option linter.unusedSimpArgs false
set_option linter.unusedVariables false
namespace Go.Proofs.YtlbhgoffiigfbaaGreat.AW
open Go Go.RowKit

def okByte (b : UInt8) : Bool := decide (32 ≤ b.toNat) && decide (b.toNat ≤ 126)
def isText (s : ByteArray) : Bool := decide (s.size ≤ 100) && s.data.toList.all okByte
theorem byte_at {s : ByteArray} {i : Nat} (h : i < s.size) : ∃ b, s[i]? = some b ∧ s.data.toList[i]? = some b := by
  refine ⟨s[i], ?_, ?_⟩
  · simp [h]
  · have : i < s.data.size := h
    rw [Array.getElem?_toList, Array.getElem?_eq_getElem this]; rfl
theorem wrap_i64 {n : Int} (h : -4611686018427387904 ≤ n) (h2 : n < 4611686018427387904) : IntKind.i64.wrap n = n := by
  simp only [IntKind.wrap, IntKind.bits, IntKind.signed, Bool.true_and, Int.reducePow, Nat.reduceSub]
  split <;> (rename_i hx; simp only [ge_iff_le, decide_eq_true_eq] at hx; omega)
theorem wrap_succ {i : Nat} (h : i + 1 < 4611686018427387904) : IntKind.i64.wrap ((i : Int) + 1) = ((i + 1 : Nat) : Int) := by
  rw [wrap_i64 (by omega) (by omega)]; omega

theorem isText_pure (s : ByteArray) : Pure Tryz.prog 69 [.str s] (.bool (isText s)) := by
  refine Pure.of ⟨Tryz.f69, Tryz.func69, rfl, by kernel_rfl⟩ rfl (fun h => ?_)
  refine acalls_of te_ok [] Tryz.func69 (c := _) rfl (Nat.le_of_ble_eq_true rfl) ?_
  simp only [aws, eq_self, reduceIte, Nat.reduceLT, acmpnil, teset, Tryz.ntmps69, Tryz.results69]
  refine ck_of (fun hc => ?_) (fun hc => ?_)
  · simp only [aws, eq_self, reduceIte, Nat.reduceLT, ares1]
    refine ⟨.refl h, _, rfl, ?_⟩
    simp only [decide_eq_true_eq] at hc
    have : ¬ s.size ≤ 100 := by omega
    simp [AV.erase, isText, this]
  · simp only [aws, eq_self, Nat.reduceLT]
    simp only [decide_eq_false_iff_not] at hc
    refine ⟨fun n s' h' => ∃ i : Nat, s' 0 = .str s ∧ s' 3 = .int .i64 i ∧ h' = h ∧ n + i = s.size ∧ (∀ (j : Nat) b, j < i → s.data.toList[j]? = some b → okByte b = true), ⟨s.size, 0, ?_⟩, ?_⟩
    · simp only [aws, eq_self, reduceIte]
      exact ⟨rfl, fun j b hj => by omega⟩
    · rintro n s' h' ⟨i, e0, e3, hh, hn, hg⟩
      subst hh
      simp only [aws, eq_self, reduceIte, Nat.reduceLT, acmpnil, teset, e0, e3]
      refine ck_of (fun hi => ?_) (fun hi => ?_)
      · simp only [decide_eq_true_eq] at hi
        obtain ⟨b, hb1, hb2⟩ := byte_at (s := s) (i := i) (by omega)
        simp only [aws, eq_self, implies_true, imp_self, reduceIte, reduceCtorEq, Nat.reduceLT, Nat.reduceEqDiff, Nat.reduceBEq, acmpnil, teset, e0, e3, Int.toNat_natCast, hb1, Int.natCast_nonneg]
        have hnot : okByte b = false → h'.Ext h' ∧ ∃ u, AOut.ret (AV.bool false) = AOut.ret u ∧ u.erase = AV.bool (isText s) := by
          intro hb
          refine ⟨.refl _, _, rfl, ?_⟩
          have : s.data.toList.all okByte = false := by
            rw [Bool.eq_false_iff]
            intro h1
            rw [List.all_eq_true] at h1
            rw [h1 b (List.mem_of_getElem? hb2)] at hb; cases hb
          simp [AV.erase, isText, this]
        cases hlo : decide ((b.toNat : Int) < 32) with
        | true =>
          simp only [aws, eq_self, implies_true, reduceIte, Nat.reduceLT, Nat.reduceEqDiff, Nat.reduceBEq, ares1, teset, e3]
          refine hnot ?_
          simp only [decide_eq_true_eq] at hlo
          have : ¬ 32 ≤ b.toNat := by omega
          simp [okByte, this]
        | false =>
          simp only [aws, eq_self, implies_true, reduceIte, reduceCtorEq, Nat.reduceLT, Nat.reduceEqDiff, Nat.reduceBEq, acmpnil, teset, e0, e3, Int.toNat_natCast, hb1, Int.natCast_nonneg]
          cases hup : decide ((b.toNat : Int) > 126) with
          | true =>
            simp only [aws, eq_self, reduceIte, Nat.reduceLT, Nat.reduceEqDiff, ares1]
            refine hnot ?_
            simp only [decide_eq_true_eq] at hup
            have : ¬ b.toNat ≤ 126 := by omega
            simp [okByte, this]
          | false =>
            simp only [aws, eq_self, reduceIte, reduceCtorEq, Nat.reduceLT, Nat.reduceEqDiff, acmpnil, e0, e3]
            simp only [decide_eq_false_iff_not] at hlo hup
            refine ⟨n - 1, by omega, i + 1, ?_, ?_, ?_⟩
            · rw [wrap_succ (by omega)]
            · omega
            · intro j c hj hjc
              by_cases e : j = i
              · subst e
                rw [hb2] at hjc; injection hjc with hjc; subst hjc
                have h1 : 32 ≤ b.toNat := by omega
                have h2 : b.toNat ≤ 126 := by omega
                simp [okByte, h1, h2]
              · exact hg j c (by omega) hjc
      · simp only [aws, eq_self, reduceIte, Nat.reduceLT, ares1]
        simp only [decide_eq_false_iff_not] at hi
        refine ⟨.refl _, _, rfl, ?_⟩
        have h1 : s.data.toList.all okByte = true := by
          rw [List.all_eq_true]
          intro b hb
          obtain ⟨j, hj⟩ := List.mem_iff_getElem?.1 hb
          have hlt := (List.getElem?_eq_some_iff.1 hj).1
          have : s.data.toList.length = s.size := by simp
          exact hg j b (by omega) hj
        have : s.size ≤ 100 := by omega
        simp [AV.erase, isText, this, h1]
end Go.Proofs.YtlbhgoffiigfbaaGreat.AW
end
section
set_option linter.unusedSimpArgs false
set_option linter.unusedVariables false
namespace Go.Proofs.YtlbhgoffiigfbaaGreat.AW
open Go Go.RowKit

/-- A value of the program. -/
inductive V where
  | mk (kind int : Int) (text : ByteArray) (items : List V) (keys : List ByteArray)
  deriving Inhabited
def V.kind : V → Int | .mk k _ _ _ _ => k
def V.int : V → Int | .mk _ i _ _ _ => i
def V.text : V → ByteArray | .mk _ _ t _ _ => t
def V.items : V → List V | .mk _ _ _ xs _ => xs
def V.keys : V → List ByteArray | .mk _ _ _ _ ks => ks

mutual
def inj : V → AV
  | .mk k i t xs ks => .agg [.int .i64 k, .int .i64 i, .str t, .sl .ro 5 (injL xs), .sl .ro 1 (ks.map .str)]
def injL : List V → List AV
  | [] => []
  | x :: xs => inj x :: injL xs
end
theorem injL_eq (xs : List V) : injL xs = xs.map inj := by
  induction xs with
  | nil => rfl
  | cons x xs ih => simp [injL, ih]
theorem inj_eq (v : V) : inj v = .agg [.int .i64 v.kind, .int .i64 v.int, .str v.text, .sl .ro 5 (v.items.map inj), .sl .ro 1 (v.keys.map .str)] := by
  cases v; simp [inj, injL_eq, V.kind, V.int, V.text, V.items, V.keys]
theorem inj_mk (k i : Int) (t : ByteArray) (xs : List V) (ks : List ByteArray) : inj (.mk k i t xs ks) = .agg [.int .i64 k, .int .i64 i, .str t, .sl .ro 5 (xs.map inj), .sl .ro 1 (ks.map .str)] := by
  simp [inj, injL_eq]
mutual
def V.ok : V → Prop
  | .mk _ _ t xs ks => t.size < 4611686018427387904 ∧ xs.length < 4611686018427387904 ∧ ks.length < 4611686018427387904 ∧ (∀ k ∈ ks, k.size < 4611686018427387904) ∧ V.okL xs
def V.okL : List V → Prop
  | [] => True
  | x :: xs => x.ok ∧ V.okL xs
end
mutual
theorem inj_under (v : V) : (inj v).under 0 0 = true := by
  cases v with
  | mk k i t xs ks =>
    simp only [inj, AV.under, AV.underL, Bool.and_true, Bool.true_and]
    rw [injL_under xs]
    simp only [Bool.true_and]
    induction ks with
    | nil => rfl
    | cons k ks ih => simp [AV.underL, AV.under, ih]
theorem injL_under (xs : List V) : AV.underL 0 0 (injL xs) = true := by
  cases xs with
  | nil => rfl
  | cons x xs => simp [injL, AV.underL, inj_under x, injL_under xs]
end
mutual
theorem inj_erase (v : V) : (inj v).erase = inj v := by
  cases v with
  | mk k i t xs ks =>
    simp only [inj, AV.erase, AV.eraseL, injL_erase xs]
    have : AV.eraseL (ks.map AV.str) = ks.map AV.str := by
      induction ks with
      | nil => rfl
      | cons k ks ih => simp [AV.eraseL, AV.erase, ih]
    rw [this]
theorem injL_erase (xs : List V) : AV.eraseL (injL xs) = injL xs := by
  cases xs with
  | nil => rfl
  | cons x xs => simp [injL, AV.eraseL, inj_erase x, injL_erase xs]
end

theorem load_inj (v : V) : (if 5 ≤ (inj v).cells.length then some (AV.agg (List.take 5 (inj v).cells)) else none) = some (inj v) := by
  cases v; simp [inj_mk, AV.cells]
theorem inj_len (v : V) : (inj v).cells.length = 5 := by
  cases v; simp [inj_mk, AV.cells]
theorem inj_one (v : V) : (inj v).cells.all AV.one = true := by
  cases v; simp [inj_mk, AV.cells, AV.one]
theorem inj_take (v : V) : List.take 5 (inj v).cells = (inj v).cells := by
  cases v; simp [inj_mk, AV.cells]
theorem inj_drop (v : V) : List.drop 5 (inj v).cells = [] := by
  cases v; simp [inj_mk, AV.cells]
theorem inj_agg (v : V) : AV.agg (inj v).cells = inj v := by
  cases v; simp [inj_mk, AV.cells]

def plainS (v : V) (n t i k : Bool) : Bool := (n || v.int == 0) && (t || v.text.toList == (⟨#[]⟩ : ByteArray).toList) && (i || (v.items.length : Int) == 0) && (k || (v.keys.length : Int) == 0)
theorem plain_pure (v : V) (n t i k : Bool) : Pure Tryz.prog 68 [inj v, .bool n, .bool t, .bool i, .bool k] (.bool (plainS v n t i k)) := by
  rw [inj_eq]
  refine Pure.of ⟨Tryz.f68, Tryz.func68, rfl, by kernel_rfl⟩ rfl (fun h => ?_)
  refine acalls_of te_ok [13, 14, 15, 18, 19, 20, 21, 22, 23, 26, 27, 28, 29, 30, 31, 32, 35, 36, 37, 38, 39, 40, 41] Tryz.func68 (c := _) rfl (Nat.le_of_ble_eq_true rfl) ?_
  simp only [aws, eq_self, implies_true, imp_self, reduceIte, Nat.reduceLT, Nat.reduceEqDiff, Nat.reduceBEq, ares1, teset, Tryz.ntmps68, Tryz.results68]
  refine ⟨(AH.Ext.refl h).new _, _, rfl, ?_⟩
  simp [AV.erase, plainS]
end Go.Proofs.YtlbhgoffiigfbaaGreat.AW
end
section
set_option linter.unusedSimpArgs false
set_option linter.unusedVariables false
namespace Go.Proofs.YtlbhgoffiigfbaaGreat.AW
open Go Go.RowKit

theorem mixed : Tryz.prog.follows .mixedOrders = true := by kernel_rfl
def sless (x y : ByteArray) : Bool := Op.bytesLess x.toList y.toList
def keyOk (ks : List ByteArray) (i : Nat) : Bool := isText (ks.getD i default) && (i == 0 || sless (ks.getD (i - 1) default) (ks.getD i default))
def keysOk (ks : List ByteArray) : Bool := (List.range ks.length).all (keyOk ks)
def shape (v : V) : Bool :=
  if v.kind = 0 then plainS v false false false false
  else if v.kind = 1 then plainS v true false false false && (v.int == 0 || v.int == 1)
  else if v.kind = 2 then plainS v true false false false && (decide (v.int ≤ 1000000000000) && decide (-1000000000000 ≤ v.int))
  else if v.kind = 3 then plainS v false true false false && isText v.text
  else if v.kind = 4 then plainS v false false true false
  else if v.kind = 5 then plainS v false false true true && v.keys.length == v.items.length && keysOk v.keys
  else false
theorem shape_0 (i : Int) (t : ByteArray) (xs : List V) (ks : List ByteArray) : shape (.mk 0 i t xs ks) = plainS (.mk 0 i t xs ks) false false false false := by simp [shape, V.kind]
theorem shape_1 (i : Int) (t : ByteArray) (xs : List V) (ks : List ByteArray) : shape (.mk 1 i t xs ks) = (plainS (.mk 1 i t xs ks) true false false false && (i == 0 || i == 1)) := by simp [shape, V.kind, V.int]
theorem shape_2 (i : Int) (t : ByteArray) (xs : List V) (ks : List ByteArray) : shape (.mk 2 i t xs ks) = (plainS (.mk 2 i t xs ks) true false false false && (decide (i ≤ 1000000000000) && decide (-1000000000000 ≤ i))) := by simp [shape, V.kind, V.int]; rfl
theorem shape_3 (i : Int) (t : ByteArray) (xs : List V) (ks : List ByteArray) : shape (.mk 3 i t xs ks) = (plainS (.mk 3 i t xs ks) false true false false && isText t) := by simp [shape, V.kind, V.text]
theorem shape_4 (i : Int) (t : ByteArray) (xs : List V) (ks : List ByteArray) : shape (.mk 4 i t xs ks) = plainS (.mk 4 i t xs ks) false false true false := by simp [shape, V.kind]
theorem shape_5 (i : Int) (t : ByteArray) (xs : List V) (ks : List ByteArray) : shape (.mk 5 i t xs ks) = (plainS (.mk 5 i t xs ks) false false true true && ks.length == xs.length && keysOk ks) := by simp [shape, V.kind, V.keys, V.items]
theorem shape_x {k : Int} (i : Int) (t : ByteArray) (xs : List V) (ks : List ByteArray) (h0 : k ≠ 0) (h1 : k ≠ 1) (h2 : k ≠ 2) (h3 : k ≠ 3) (h4 : k ≠ 4) (h5 : k ≠ 5) : shape (.mk k i t xs ks) = false := by simp [shape, V.kind, h0, h1, h2, h3, h4, h5]
def nodesF (f : V → Nat) : Nat → List V → Nat
  | n, [] => n
  | n, x :: xs => if n + f x > 60 then 61 else nodesF f (n + f x) xs
def nodesS : Nat → V → Nat
  | 0, _ => 61
  | L + 1, v => if v.items.length > 60 then 61 else if shape v then nodesF (nodesS L) 1 v.items else 61

theorem plain_pure' (k i : Int) (t : ByteArray) (xs : List V) (ks : List ByteArray) (a b c d : Bool) : Pure Tryz.prog 68 [.agg [.int .i64 k, .int .i64 i, .str t, .sl .ro 5 (xs.map inj), .sl .ro 1 (ks.map .str)], .bool a, .bool b, .bool c, .bool d] (.bool (plainS (.mk k i t xs ks) a b c d)) := by
  have := plain_pure (.mk k i t xs ks) a b c d
  rwa [inj_mk] at this

theorem nodesF_le (f : V → Nat) : ∀ (xs : List V) (n : Nat), n ≤ 60 → nodesF f n xs ≤ 61 := by
  intro xs
  induction xs with
  | nil => intro n h; simp only [nodesF]; omega
  | cons x xs ih =>
    intro n h
    simp only [nodesF]
    split
    · omega
    · exact ih _ (by omega)
theorem nodesS_le (L : Nat) (v : V) : nodesS L v ≤ 61 := by
  cases L with
  | zero => simp [nodesS]
  | succ L =>
    simp only [nodesS]
    split
    · omega
    · split
      · exact nodesF_le _ _ _ (by omega)
      · omega

set_option maxHeartbeats 4000000 in
theorem nodes_pure : ∀ (L : Nat) (v : V), L < 1000 → Pure Tryz.prog 60 [inj v, .int .i64 L] (.int .i64 (nodesS L v)) := by
  intro L
  induction L with
  | zero =>
    intro v _
    rw [inj_eq]
    refine Pure.of ⟨Tryz.f60, Tryz.func60, rfl, by kernel_rfl⟩ rfl (fun h => ?_)
    refine acalls_of te_ok [12, 13, 14, 15] Tryz.func60 (c := _) rfl (Nat.le_of_ble_eq_true rfl) ?_
    simp only [aws, eq_self, implies_true, imp_self, reduceIte, Nat.reduceLT, Nat.reduceEqDiff, Nat.reduceBEq, Int.reduceLT, Int.reduceNeg, acmpnil, ares1, teset, Tryz.ntmps60, Tryz.results60, Int.natCast_zero]
    exact ⟨(AH.Ext.refl h).new _, _, rfl, rfl⟩
  | succ L ih =>
    intro v hL
    obtain ⟨k, i, t, xs, ks⟩ := v
    rw [inj_mk]
    refine Pure.of ⟨Tryz.f60, Tryz.func60, rfl, by kernel_rfl⟩ rfl (fun h => ?_)
    have hlev : decide (((L + 1 : Nat) : Int) < 1) = false := by simp; omega
    have bad61 : ∀ h', h.Ext h' → nodesS (L + 1) (.mk k i t xs ks) = 61 → h.Ext h' ∧ ∃ u, AOut.ret (.int .i64 61) = .ret u ∧ u.erase = .int .i64 (nodesS (L + 1) (.mk k i t xs ks)) := fun h' he hn => ⟨he, _, rfl, by rw [hn]; rfl⟩
    have hext := (AH.Ext.refl h).new [AV.int IntKind.i64 k, AV.int IntKind.i64 i, AV.str t, AV.sl Tag.ro 5 (List.map inj xs), AV.sl Tag.ro 1 (List.map AV.str ks)]
    refine acalls_of te_ok [12, 13, 14, 15, 33, 34, 35, 36, 37, 38, 39, 40, 49, 50, 51, 54, 55, 56, 83, 84, 85, 86, 87, 88, 89] Tryz.func60 (c := _) rfl (Nat.le_of_ble_eq_true rfl) ?_
    simp only [aws, eq_self, implies_true, reduceIte, Nat.reduceLT, Nat.reduceEqDiff, Nat.reduceBEq, Int.reduceNeg, acmpnil, teset, Tryz.ntmps60, Tryz.results60, hlev, List.length_map]
    by_cases hlen : xs.length > 60
    · have hlen' : decide ((xs.length : Int) > 60) = true := by simp; omega
      simp only [aws, eq_self, reduceIte, Nat.reduceLT, Nat.reduceEqDiff, Int.reduceNeg, ares1, hlen']
      exact bad61 _ hext (by simp [nodesS, V.items, hlen])
    have hlen' : decide ((xs.length : Int) > 60) = false := by simp; omega
    have hbad : shape (.mk k i t xs ks) = false → nodesS (L + 1) (.mk k i t xs ks) = 61 := fun hs => by simp [nodesS, hs]
    simp only [aws, eq_self, reduceIte, Nat.reduceLT, Nat.reduceEqDiff, Int.reduceNeg, acmpnil, teset, hlen']
    have hshape : shape (.mk k i t xs ks) = true → nodesS (L + 1) (.mk k i t xs ks) = nodesF (nodesS L) 1 xs := fun hs => by simp [nodesS, hs, V.items, hlen]
    by_cases h0 : k = 0
    · have q0 : (k == 0) = true := by simp [h0]
      simp only [aws, eq_self, reduceIte, Nat.reduceAdd, Nat.reduceLT, Nat.reduceLeDiff, Nat.reduceEqDiff, Int.reduceNeg, teset, q0]
      refine ACallV.pure (plain_pure' _ _ _ _ _ _ _ _ _) ?_
      cases hp : plainS (.mk k i t xs ks) false false false false with
      | false => simp only [aws, eq_self, reduceIte, Nat.reduceLT, Nat.reduceEqDiff, ares1]; exact bad61 _ hext (hbad (by subst h0; rw [shape_0]; exact hp))
      | true =>
        simp only [aws, eq_self, reduceIte, Nat.reduceLT, Nat.reduceEqDiff]
        have hs : shape (.mk k i t xs ks) = true := by subst h0; rw [shape_0]; exact hp
        rw [hshape hs]
        refine ⟨fun n s' h' => ∃ (j acc : Nat), s' 1 = .int .i64 ((L + 1 : Nat) : Int) ∧ s' 2 = .ptr h.nb 0 ∧ s' 5 = .int .i64 61 ∧ s' 7 = .int .i64 acc ∧ s' 8 = .int .i64 j ∧ h' = h.new [.int .i64 k, .int .i64 i, .str t, .sl .ro 5 (List.map inj xs), .sl .ro 1 (List.map AV.str ks)] ∧ n + j = xs.length ∧ acc ≤ 60 ∧ nodesF (nodesS L) acc (xs.drop j) = nodesF (nodesS L) 1 xs, ⟨xs.length, 0, 1, ?_⟩, ?_⟩
        · first
            | (simp only [aws, eq_self, reduceIte, Nat.reduceLeDiff, Nat.reduceEqDiff, Int.natCast_zero, Int.natCast_one]; done)
            | (simp only [aws, ne_eq, eq_self, implies_true, imp_self, reduceIte, reduceCtorEq, Nat.reduceAdd, Nat.reduceLT, Nat.reduceLeDiff, Nat.reduceEqDiff, Nat.reduceSub, Nat.reduceMul, Nat.reduceBEq, Int.reduceBEq, Int.reduceBNe, Int.reduceLT, Int.reduceLE, Int.reduceGT, Int.reduceGE, Int.reduceNeg, Int.reduceEq, Int.reduceNe, Int.reduceToNat, Int.reduceAdd, aconv, acvB, capR, acmpnil, appBox, storeB, ares1, appendTo, afill, aeqL, teset, Int.natCast_zero, Int.natCast_one]; exact ⟨by assumption, by assumption, by assumption⟩)
        · rintro n s' h' ⟨j, acc, e1, e2, e5, e7, e8, hh, hn, hacc, hf⟩
          subst hh
          simp only [aws, eq_self, reduceIte, Nat.reduceLT, Nat.reduceEqDiff, acmpnil, teset, e2, e8, List.length_map]
          cases hc : decide ((j : Int) < (xs.length : Int)) with
          | false =>
            simp only [aws, eq_self, reduceIte, Nat.reduceLT, Nat.reduceEqDiff, ares1, e7]
            simp only [decide_eq_false_iff_not] at hc
            refine ⟨hext, _, rfl, ?_⟩
            rw [← hf, List.drop_eq_nil_of_le (by omega)]
            rfl
          | true =>
            simp only [decide_eq_true_eq] at hc
            have hj : j < xs.length := by omega
            have hget : (xs.map inj)[((j : Nat) : Int).toNat]? = some (inj xs[j]) := by simp [hj]
            have hw : IntKind.i64.wrap (((L + 1 : Nat) : Int) - 1) = (L : Int) := by rw [wrap_i64 (by omega) (by omega)]; omega
            have hle := nodesS_le L xs[j]
            have hw2 : IntKind.i64.wrap ((acc : Int) + (nodesS L xs[j] : Int)) = ((acc + nodesS L xs[j] : Nat) : Int) := by rw [wrap_i64 (by omega) (by omega)]; omega
            simp only [aws, eq_self, reduceIte, Nat.reduceLT, Nat.reduceEqDiff, acmpnil, teset, e1, e2, e7, e8, hget, Int.natCast_nonneg, load_inj, hw]
            refine ACallV.pure (ih xs[j] (by omega)) ?_
            simp only [aws, eq_self, reduceIte, Nat.reduceLT, Nat.reduceEqDiff, acmpnil, e7, hw2]
            rw [List.drop_eq_getElem_cons hj, nodesF] at hf
            cases hg : decide (((acc + nodesS L xs[j] : Nat) : Int) > 60) with
            | true =>
              simp only [aws, eq_self, reduceIte, Nat.reduceLT, Nat.reduceEqDiff, ares1, e5]
              simp only [decide_eq_true_eq] at hg
              refine ⟨hext, _, rfl, ?_⟩
              rw [← hf, if_pos (by omega)]
              rfl
            | false =>
              simp only [aws, eq_self, reduceIte, Nat.reduceLT, Nat.reduceEqDiff, acmpnil, e1, e2, e5, e7, e8]
              simp only [decide_eq_false_iff_not] at hg
              rw [if_neg (by omega)] at hf
              refine ⟨n - 1, by omega, j + 1, _, rfl, ?_, ?_, ?_, hf⟩
              · rw [wrap_succ (by omega)]
              · omega
              · omega
    have q0 : (k == 0) = false := by simp [h0]
    by_cases h1 : k = 1
    · have q1 : (k == 1) = true := by simp [h1]
      simp only [aws, eq_self, reduceIte, Nat.reduceAdd, Nat.reduceLT, Nat.reduceLeDiff, Nat.reduceEqDiff, Int.reduceNeg, acmpnil, teset, q0, q1]
      refine ACallV.pure (plain_pure' _ _ _ _ _ _ _ _ _) ?_
      simp only [aws, eq_self, implies_true, imp_self, reduceIte, Nat.reduceLT, Nat.reduceEqDiff, Nat.reduceBEq, teset]
      have hs' : shape (.mk k i t xs ks) = (plainS (.mk k i t xs ks) true false false false && (i == 0 || i == 1)) := by subst h1; exact shape_1 _ _ _ _
      refine ck_of (fun hc => ?_) (fun hc => ?_)
      · simp only [aws, eq_self, reduceIte, Nat.reduceLT, Nat.reduceEqDiff, ares1]
        refine bad61 _ hext (hbad ?_)
        rw [hs']; revert hc
        cases plainS (.mk k i t xs ks) true false false false <;> simp
      · simp only [aws, eq_self, Nat.reduceLT]
        have hs : shape (.mk k i t xs ks) = true := by
          rw [hs']; revert hc
          cases plainS (.mk k i t xs ks) true false false false <;> simp
          omega
        rw [hshape hs]
        refine ⟨fun n s' h' => ∃ (j acc : Nat), s' 1 = .int .i64 ((L + 1 : Nat) : Int) ∧ s' 2 = .ptr h.nb 0 ∧ s' 5 = .int .i64 61 ∧ s' 7 = .int .i64 acc ∧ s' 8 = .int .i64 j ∧ h' = h.new [.int .i64 k, .int .i64 i, .str t, .sl .ro 5 (List.map inj xs), .sl .ro 1 (List.map AV.str ks)] ∧ n + j = xs.length ∧ acc ≤ 60 ∧ nodesF (nodesS L) acc (xs.drop j) = nodesF (nodesS L) 1 xs, ⟨xs.length, 0, 1, ?_⟩, ?_⟩
        · first
            | (simp only [aws, eq_self, reduceIte, Nat.reduceLeDiff, Nat.reduceEqDiff, Int.natCast_zero, Int.natCast_one]; done)
            | (simp only [aws, ne_eq, eq_self, implies_true, imp_self, reduceIte, reduceCtorEq, Nat.reduceAdd, Nat.reduceLT, Nat.reduceLeDiff, Nat.reduceEqDiff, Nat.reduceSub, Nat.reduceMul, Nat.reduceBEq, Int.reduceBEq, Int.reduceBNe, Int.reduceLT, Int.reduceLE, Int.reduceGT, Int.reduceGE, Int.reduceNeg, Int.reduceEq, Int.reduceNe, Int.reduceToNat, Int.reduceAdd, aconv, acvB, capR, acmpnil, appBox, storeB, ares1, appendTo, afill, aeqL, teset, Int.natCast_zero, Int.natCast_one]; exact ⟨by assumption, by assumption, by assumption⟩)
        · rintro n s' h' ⟨j, acc, e1, e2, e5, e7, e8, hh, hn, hacc, hf⟩
          subst hh
          simp only [aws, eq_self, reduceIte, Nat.reduceLT, Nat.reduceEqDiff, acmpnil, teset, e2, e8, List.length_map]
          cases hc : decide ((j : Int) < (xs.length : Int)) with
          | false =>
            simp only [aws, eq_self, reduceIte, Nat.reduceLT, Nat.reduceEqDiff, ares1, e7]
            simp only [decide_eq_false_iff_not] at hc
            refine ⟨hext, _, rfl, ?_⟩
            rw [← hf, List.drop_eq_nil_of_le (by omega)]
            rfl
          | true =>
            simp only [decide_eq_true_eq] at hc
            have hj : j < xs.length := by omega
            have hget : (xs.map inj)[((j : Nat) : Int).toNat]? = some (inj xs[j]) := by simp [hj]
            have hw : IntKind.i64.wrap (((L + 1 : Nat) : Int) - 1) = (L : Int) := by rw [wrap_i64 (by omega) (by omega)]; omega
            have hle := nodesS_le L xs[j]
            have hw2 : IntKind.i64.wrap ((acc : Int) + (nodesS L xs[j] : Int)) = ((acc + nodesS L xs[j] : Nat) : Int) := by rw [wrap_i64 (by omega) (by omega)]; omega
            simp only [aws, eq_self, reduceIte, Nat.reduceLT, Nat.reduceEqDiff, acmpnil, teset, e1, e2, e7, e8, hget, Int.natCast_nonneg, load_inj, hw]
            refine ACallV.pure (ih xs[j] (by omega)) ?_
            simp only [aws, eq_self, reduceIte, Nat.reduceLT, Nat.reduceEqDiff, acmpnil, e7, hw2]
            rw [List.drop_eq_getElem_cons hj, nodesF] at hf
            cases hg : decide (((acc + nodesS L xs[j] : Nat) : Int) > 60) with
            | true =>
              simp only [aws, eq_self, reduceIte, Nat.reduceLT, Nat.reduceEqDiff, ares1, e5]
              simp only [decide_eq_true_eq] at hg
              refine ⟨hext, _, rfl, ?_⟩
              rw [← hf, if_pos (by omega)]
              rfl
            | false =>
              simp only [aws, eq_self, reduceIte, Nat.reduceLT, Nat.reduceEqDiff, acmpnil, e1, e2, e5, e7, e8]
              simp only [decide_eq_false_iff_not] at hg
              rw [if_neg (by omega)] at hf
              refine ⟨n - 1, by omega, j + 1, _, rfl, ?_, ?_, ?_, hf⟩
              · rw [wrap_succ (by omega)]
              · omega
              · omega
    have q1 : (k == 1) = false := by simp [h1]
    by_cases h2 : k = 2
    · have q2 : (k == 2) = true := by simp [h2]
      simp only [aws, eq_self, reduceIte, Nat.reduceAdd, Nat.reduceLT, Nat.reduceLeDiff, Nat.reduceEqDiff, Int.reduceNeg, acmpnil, teset, q0, q1, q2]
      refine ACallV.pure (plain_pure' _ _ _ _ _ _ _ _ _) ?_
      simp only [aws, eq_self, implies_true, imp_self, reduceIte, Nat.reduceLT, Nat.reduceEqDiff, Nat.reduceBEq, Int.reduceNeg, teset]
      have hs' : shape (.mk k i t xs ks) = (plainS (.mk k i t xs ks) true false false false && (decide (i ≤ 1000000000000) && decide (-1000000000000 ≤ i))) := by subst h2; exact shape_2 _ _ _ _
      refine ck_of (fun hc => ?_) (fun hc => ?_)
      · simp only [aws, eq_self, reduceIte, Nat.reduceLT, Nat.reduceEqDiff, Int.reduceNeg, ares1]
        refine bad61 _ hext (hbad ?_)
        rw [hs']; revert hc
        cases plainS (.mk k i t xs ks) true false false false <;> simp
        omega
      · simp only [aws, eq_self, Nat.reduceLT, Int.reduceNeg]
        have hs : shape (.mk k i t xs ks) = true := by
          rw [hs']; revert hc
          cases plainS (.mk k i t xs ks) true false false false <;> simp
        rw [hshape hs]
        refine ⟨fun n s' h' => ∃ (j acc : Nat), s' 1 = .int .i64 ((L + 1 : Nat) : Int) ∧ s' 2 = .ptr h.nb 0 ∧ s' 5 = .int .i64 61 ∧ s' 7 = .int .i64 acc ∧ s' 8 = .int .i64 j ∧ h' = h.new [.int .i64 k, .int .i64 i, .str t, .sl .ro 5 (List.map inj xs), .sl .ro 1 (List.map AV.str ks)] ∧ n + j = xs.length ∧ acc ≤ 60 ∧ nodesF (nodesS L) acc (xs.drop j) = nodesF (nodesS L) 1 xs, ⟨xs.length, 0, 1, ?_⟩, ?_⟩
        · first
            | (simp only [aws, eq_self, reduceIte, Nat.reduceLeDiff, Nat.reduceEqDiff, Int.reduceNeg, Int.natCast_zero, Int.natCast_one]; done)
            | (simp only [aws, ne_eq, eq_self, implies_true, imp_self, reduceIte, reduceCtorEq, Nat.reduceAdd, Nat.reduceLT, Nat.reduceLeDiff, Nat.reduceEqDiff, Nat.reduceSub, Nat.reduceMul, Nat.reduceBEq, Int.reduceBEq, Int.reduceBNe, Int.reduceLT, Int.reduceLE, Int.reduceGT, Int.reduceGE, Int.reduceNeg, Int.reduceEq, Int.reduceNe, Int.reduceToNat, Int.reduceAdd, aconv, acvB, capR, acmpnil, appBox, storeB, ares1, appendTo, afill, aeqL, teset, Int.natCast_zero, Int.natCast_one]; exact ⟨by assumption, by assumption, by assumption⟩)
        · rintro n s' h' ⟨j, acc, e1, e2, e5, e7, e8, hh, hn, hacc, hf⟩
          subst hh
          simp only [aws, eq_self, reduceIte, Nat.reduceLT, Nat.reduceEqDiff, acmpnil, teset, e2, e8, List.length_map]
          cases hc : decide ((j : Int) < (xs.length : Int)) with
          | false =>
            simp only [aws, eq_self, reduceIte, Nat.reduceLT, Nat.reduceEqDiff, ares1, e7]
            simp only [decide_eq_false_iff_not] at hc
            refine ⟨hext, _, rfl, ?_⟩
            rw [← hf, List.drop_eq_nil_of_le (by omega)]
            rfl
          | true =>
            simp only [decide_eq_true_eq] at hc
            have hj : j < xs.length := by omega
            have hget : (xs.map inj)[((j : Nat) : Int).toNat]? = some (inj xs[j]) := by simp [hj]
            have hw : IntKind.i64.wrap (((L + 1 : Nat) : Int) - 1) = (L : Int) := by rw [wrap_i64 (by omega) (by omega)]; omega
            have hle := nodesS_le L xs[j]
            have hw2 : IntKind.i64.wrap ((acc : Int) + (nodesS L xs[j] : Int)) = ((acc + nodesS L xs[j] : Nat) : Int) := by rw [wrap_i64 (by omega) (by omega)]; omega
            simp only [aws, eq_self, reduceIte, Nat.reduceLT, Nat.reduceEqDiff, acmpnil, teset, e1, e2, e7, e8, hget, Int.natCast_nonneg, load_inj, hw]
            refine ACallV.pure (ih xs[j] (by omega)) ?_
            simp only [aws, eq_self, reduceIte, Nat.reduceLT, Nat.reduceEqDiff, acmpnil, e7, hw2]
            rw [List.drop_eq_getElem_cons hj, nodesF] at hf
            cases hg : decide (((acc + nodesS L xs[j] : Nat) : Int) > 60) with
            | true =>
              simp only [aws, eq_self, reduceIte, Nat.reduceLT, Nat.reduceEqDiff, ares1, e5]
              simp only [decide_eq_true_eq] at hg
              refine ⟨hext, _, rfl, ?_⟩
              rw [← hf, if_pos (by omega)]
              rfl
            | false =>
              simp only [aws, eq_self, reduceIte, Nat.reduceLT, Nat.reduceEqDiff, acmpnil, e1, e2, e5, e7, e8]
              simp only [decide_eq_false_iff_not] at hg
              rw [if_neg (by omega)] at hf
              refine ⟨n - 1, by omega, j + 1, _, rfl, ?_, ?_, ?_, hf⟩
              · rw [wrap_succ (by omega)]
              · omega
              · omega
    have q2 : (k == 2) = false := by simp [h2]
    by_cases h3 : k = 3
    · have q3 : (k == 3) = true := by simp [h3]
      simp only [aws, eq_self, reduceIte, Nat.reduceAdd, Nat.reduceLT, Nat.reduceLeDiff, Nat.reduceEqDiff, Int.reduceNeg, acmpnil, teset, q0, q1, q2, q3]
      refine ACallV.pure (plain_pure' _ _ _ _ _ _ _ _ _) ?_
      have hs' : shape (.mk k i t xs ks) = (plainS (.mk k i t xs ks) false true false false && isText t) := by subst h3; exact shape_3 _ _ _ _
      cases hp : plainS (.mk k i t xs ks) false true false false with
      | false =>
        simp only [aws, eq_self, implies_true, imp_self, reduceIte, Nat.reduceLT, Nat.reduceEqDiff, Nat.reduceBEq, ares1, teset]
        refine bad61 _ hext (hbad ?_)
        rw [hs', hp]; rfl
      | true =>
        simp only [aws, eq_self, implies_true, reduceIte, Nat.reduceLT, Nat.reduceEqDiff, Nat.reduceBEq, teset]
        refine ACallV.pure (isText_pure _) ?_
        cases ht : isText t with
        | false =>
          simp only [aws, eq_self, implies_true, reduceIte, Nat.reduceLT, Nat.reduceEqDiff, Nat.reduceBEq, ares1]
          refine bad61 _ hext (hbad ?_)
          rw [hs', hp, ht]; rfl
        | true =>
          simp only [aws, eq_self, implies_true, reduceIte, Nat.reduceLT, Nat.reduceEqDiff, Nat.reduceBEq]
          have hs : shape (.mk k i t xs ks) = true := by rw [hs', hp, ht]; rfl
          rw [hshape hs]
          refine ⟨fun n s' h' => ∃ (j acc : Nat), s' 1 = .int .i64 ((L + 1 : Nat) : Int) ∧ s' 2 = .ptr h.nb 0 ∧ s' 5 = .int .i64 61 ∧ s' 7 = .int .i64 acc ∧ s' 8 = .int .i64 j ∧ h' = h.new [.int .i64 k, .int .i64 i, .str t, .sl .ro 5 (List.map inj xs), .sl .ro 1 (List.map AV.str ks)] ∧ n + j = xs.length ∧ acc ≤ 60 ∧ nodesF (nodesS L) acc (xs.drop j) = nodesF (nodesS L) 1 xs, ⟨xs.length, 0, 1, ?_⟩, ?_⟩
          · first
              | (simp only [aws, eq_self, reduceIte, Nat.reduceLeDiff, Nat.reduceEqDiff, Int.natCast_zero, Int.natCast_one]; done)
              | (simp only [aws, ne_eq, eq_self, implies_true, imp_self, reduceIte, reduceCtorEq, Nat.reduceAdd, Nat.reduceLT, Nat.reduceLeDiff, Nat.reduceEqDiff, Nat.reduceSub, Nat.reduceMul, Nat.reduceBEq, Int.reduceBEq, Int.reduceBNe, Int.reduceLT, Int.reduceLE, Int.reduceGT, Int.reduceGE, Int.reduceNeg, Int.reduceEq, Int.reduceNe, Int.reduceToNat, Int.reduceAdd, aconv, acvB, capR, acmpnil, appBox, storeB, ares1, appendTo, afill, aeqL, teset, Int.natCast_zero, Int.natCast_one]; exact ⟨by assumption, by assumption, by assumption⟩)
          · rintro n s' h' ⟨j, acc, e1, e2, e5, e7, e8, hh, hn, hacc, hf⟩
            subst hh
            simp only [aws, eq_self, reduceIte, Nat.reduceLT, Nat.reduceEqDiff, acmpnil, teset, e2, e8, List.length_map]
            cases hc : decide ((j : Int) < (xs.length : Int)) with
            | false =>
              simp only [aws, eq_self, reduceIte, Nat.reduceLT, Nat.reduceEqDiff, ares1, e7]
              simp only [decide_eq_false_iff_not] at hc
              refine ⟨hext, _, rfl, ?_⟩
              rw [← hf, List.drop_eq_nil_of_le (by omega)]
              rfl
            | true =>
              simp only [decide_eq_true_eq] at hc
              have hj : j < xs.length := by omega
              have hget : (xs.map inj)[((j : Nat) : Int).toNat]? = some (inj xs[j]) := by simp [hj]
              have hw : IntKind.i64.wrap (((L + 1 : Nat) : Int) - 1) = (L : Int) := by rw [wrap_i64 (by omega) (by omega)]; omega
              have hle := nodesS_le L xs[j]
              have hw2 : IntKind.i64.wrap ((acc : Int) + (nodesS L xs[j] : Int)) = ((acc + nodesS L xs[j] : Nat) : Int) := by rw [wrap_i64 (by omega) (by omega)]; omega
              simp only [aws, eq_self, reduceIte, Nat.reduceLT, Nat.reduceEqDiff, acmpnil, teset, e1, e2, e7, e8, hget, Int.natCast_nonneg, load_inj, hw]
              refine ACallV.pure (ih xs[j] (by omega)) ?_
              simp only [aws, eq_self, reduceIte, Nat.reduceLT, Nat.reduceEqDiff, acmpnil, e7, hw2]
              rw [List.drop_eq_getElem_cons hj, nodesF] at hf
              cases hg : decide (((acc + nodesS L xs[j] : Nat) : Int) > 60) with
              | true =>
                simp only [aws, eq_self, reduceIte, Nat.reduceLT, Nat.reduceEqDiff, ares1, e5]
                simp only [decide_eq_true_eq] at hg
                refine ⟨hext, _, rfl, ?_⟩
                rw [← hf, if_pos (by omega)]
                rfl
              | false =>
                simp only [aws, eq_self, reduceIte, Nat.reduceLT, Nat.reduceEqDiff, acmpnil, e1, e2, e5, e7, e8]
                simp only [decide_eq_false_iff_not] at hg
                rw [if_neg (by omega)] at hf
                refine ⟨n - 1, by omega, j + 1, _, rfl, ?_, ?_, ?_, hf⟩
                · rw [wrap_succ (by omega)]
                · omega
                · omega
    have q3 : (k == 3) = false := by simp [h3]
    by_cases h4 : k = 4
    · have q4 : (k == 4) = true := by simp [h4]
      simp only [aws, eq_self, reduceIte, Nat.reduceAdd, Nat.reduceLT, Nat.reduceLeDiff, Nat.reduceEqDiff, Int.reduceNeg, acmpnil, teset, q0, q1, q2, q3, q4]
      refine ACallV.pure (plain_pure' _ _ _ _ _ _ _ _ _) ?_
      cases hp : plainS (.mk k i t xs ks) false false true false with
      | false => simp only [aws, eq_self, reduceIte, Nat.reduceLT, Nat.reduceEqDiff, ares1]; exact bad61 _ hext (hbad (by subst h4; rw [shape_4]; exact hp))
      | true =>
        simp only [aws, eq_self, reduceIte, Nat.reduceLT, Nat.reduceEqDiff]
        have hs : shape (.mk k i t xs ks) = true := by subst h4; rw [shape_4]; exact hp
        rw [hshape hs]
        refine ⟨fun n s' h' => ∃ (j acc : Nat), s' 1 = .int .i64 ((L + 1 : Nat) : Int) ∧ s' 2 = .ptr h.nb 0 ∧ s' 5 = .int .i64 61 ∧ s' 7 = .int .i64 acc ∧ s' 8 = .int .i64 j ∧ h' = h.new [.int .i64 k, .int .i64 i, .str t, .sl .ro 5 (List.map inj xs), .sl .ro 1 (List.map AV.str ks)] ∧ n + j = xs.length ∧ acc ≤ 60 ∧ nodesF (nodesS L) acc (xs.drop j) = nodesF (nodesS L) 1 xs, ⟨xs.length, 0, 1, ?_⟩, ?_⟩
        · first
            | (simp only [aws, eq_self, reduceIte, Nat.reduceLeDiff, Nat.reduceEqDiff, Int.natCast_zero, Int.natCast_one]; done)
            | (simp only [aws, ne_eq, eq_self, implies_true, imp_self, reduceIte, reduceCtorEq, Nat.reduceAdd, Nat.reduceLT, Nat.reduceLeDiff, Nat.reduceEqDiff, Nat.reduceSub, Nat.reduceMul, Nat.reduceBEq, Int.reduceBEq, Int.reduceBNe, Int.reduceLT, Int.reduceLE, Int.reduceGT, Int.reduceGE, Int.reduceNeg, Int.reduceEq, Int.reduceNe, Int.reduceToNat, Int.reduceAdd, aconv, acvB, capR, acmpnil, appBox, storeB, ares1, appendTo, afill, aeqL, teset, Int.natCast_zero, Int.natCast_one]; exact ⟨by assumption, by assumption, by assumption⟩)
        · rintro n s' h' ⟨j, acc, e1, e2, e5, e7, e8, hh, hn, hacc, hf⟩
          subst hh
          simp only [aws, eq_self, reduceIte, Nat.reduceLT, Nat.reduceEqDiff, acmpnil, teset, e2, e8, List.length_map]
          cases hc : decide ((j : Int) < (xs.length : Int)) with
          | false =>
            simp only [aws, eq_self, reduceIte, Nat.reduceLT, Nat.reduceEqDiff, ares1, e7]
            simp only [decide_eq_false_iff_not] at hc
            refine ⟨hext, _, rfl, ?_⟩
            rw [← hf, List.drop_eq_nil_of_le (by omega)]
            rfl
          | true =>
            simp only [decide_eq_true_eq] at hc
            have hj : j < xs.length := by omega
            have hget : (xs.map inj)[((j : Nat) : Int).toNat]? = some (inj xs[j]) := by simp [hj]
            have hw : IntKind.i64.wrap (((L + 1 : Nat) : Int) - 1) = (L : Int) := by rw [wrap_i64 (by omega) (by omega)]; omega
            have hle := nodesS_le L xs[j]
            have hw2 : IntKind.i64.wrap ((acc : Int) + (nodesS L xs[j] : Int)) = ((acc + nodesS L xs[j] : Nat) : Int) := by rw [wrap_i64 (by omega) (by omega)]; omega
            simp only [aws, eq_self, reduceIte, Nat.reduceLT, Nat.reduceEqDiff, acmpnil, teset, e1, e2, e7, e8, hget, Int.natCast_nonneg, load_inj, hw]
            refine ACallV.pure (ih xs[j] (by omega)) ?_
            simp only [aws, eq_self, reduceIte, Nat.reduceLT, Nat.reduceEqDiff, acmpnil, e7, hw2]
            rw [List.drop_eq_getElem_cons hj, nodesF] at hf
            cases hg : decide (((acc + nodesS L xs[j] : Nat) : Int) > 60) with
            | true =>
              simp only [aws, eq_self, reduceIte, Nat.reduceLT, Nat.reduceEqDiff, ares1, e5]
              simp only [decide_eq_true_eq] at hg
              refine ⟨hext, _, rfl, ?_⟩
              rw [← hf, if_pos (by omega)]
              rfl
            | false =>
              simp only [aws, eq_self, reduceIte, Nat.reduceLT, Nat.reduceEqDiff, acmpnil, e1, e2, e5, e7, e8]
              simp only [decide_eq_false_iff_not] at hg
              rw [if_neg (by omega)] at hf
              refine ⟨n - 1, by omega, j + 1, _, rfl, ?_, ?_, ?_, hf⟩
              · rw [wrap_succ (by omega)]
              · omega
              · omega
    have q4 : (k == 4) = false := by simp [h4]
    by_cases h5 : k = 5
    · have q5 : (k == 5) = true := by simp [h5]
      simp only [aws, eq_self, reduceIte, Nat.reduceAdd, Nat.reduceLT, Nat.reduceLeDiff, Nat.reduceEqDiff, Int.reduceNeg, acmpnil, teset, q0, q1, q2, q3, q4, q5]
      refine ACallV.pure (plain_pure' _ _ _ _ _ _ _ _ _) ?_
      have hs' : shape (.mk k i t xs ks) = (plainS (.mk k i t xs ks) false false true true && ks.length == xs.length && keysOk ks) := by subst h5; exact shape_5 _ _ _ _
      simp only [aws, eq_self, implies_true, imp_self, reduceIte, Nat.reduceLT, Nat.reduceEqDiff, Nat.reduceBEq, teset, List.length_map]
      refine ck_of (fun hc => ?_) (fun hc => ?_)
      · simp only [aws, eq_self, reduceIte, Nat.reduceLT, Nat.reduceEqDiff, ares1]
        refine bad61 _ hext (hbad ?_)
        rw [hs']; revert hc
        cases plainS (.mk k i t xs ks) false false true true <;> simp
        intro hne hc; exact absurd hc (by omega)
      · have hp : plainS (.mk k i t xs ks) false false true true = true := by revert hc; cases plainS (.mk k i t xs ks) false false true true <;> simp
        have hkl : ks.length = xs.length := by revert hc; rw [hp]; simp; omega
        simp only [aws, eq_self, Nat.reduceLT]
        refine ⟨fun n s' h' => ∃ (j : Nat), s' 1 = .int .i64 ((L + 1 : Nat) : Int) ∧ s' 2 = .ptr h.nb 0 ∧ s' 5 = .int .i64 61 ∧ s' 6 = .int .i64 j ∧ h' = h.new [.int .i64 k, .int .i64 i, .str t, .sl .ro 5 (List.map inj xs), .sl .ro 1 (List.map AV.str ks)] ∧ n + j = ks.length ∧ (∀ j', j' < j → keyOk ks j' = true), ⟨ks.length, 0, ?_⟩, ?_⟩
        · simp only [aws, eq_self, reduceIte, Nat.reduceEqDiff, Int.natCast_zero]
          exact fun j' hj' => absurd hj' (Nat.not_lt_zero _)
        · rintro n s' h' ⟨j, e1, e2, e5, e6, hh, hn, hall⟩
          subst hh
          simp only [aws, eq_self, reduceIte, Nat.reduceLT, Nat.reduceEqDiff, acmpnil, teset, e2, e6, List.length_map]
          cases hc : decide ((j : Int) < (ks.length : Int)) with
          | false =>
            simp only [aws, eq_self, reduceIte, Nat.reduceLT]
            simp only [decide_eq_false_iff_not] at hc
            have hko : keysOk ks = true := by
              unfold keysOk
              rw [List.all_eq_true]
              intro j' hj'
              exact hall j' (by have := List.mem_range.1 hj'; omega)
            have hs : shape (.mk k i t xs ks) = true := by rw [hs', hp, hko, hkl]; simp
            rw [hshape hs]
            refine ⟨fun n s' h' => ∃ (j acc : Nat), s' 1 = .int .i64 ((L + 1 : Nat) : Int) ∧ s' 2 = .ptr h.nb 0 ∧ s' 5 = .int .i64 61 ∧ s' 7 = .int .i64 acc ∧ s' 8 = .int .i64 j ∧ h' = h.new [.int .i64 k, .int .i64 i, .str t, .sl .ro 5 (List.map inj xs), .sl .ro 1 (List.map AV.str ks)] ∧ n + j = xs.length ∧ acc ≤ 60 ∧ nodesF (nodesS L) acc (xs.drop j) = nodesF (nodesS L) 1 xs, ⟨xs.length, 0, 1, ?_⟩, ?_⟩
            · first
                | (simp only [aws, eq_self, reduceIte, Nat.reduceLeDiff, Nat.reduceEqDiff, Int.natCast_zero, Int.natCast_one]; done)
                | (simp only [aws, eq_self, reduceIte, Nat.reduceLeDiff, Nat.reduceEqDiff, Int.natCast_zero, Int.natCast_one]; exact ⟨by assumption, by assumption, by assumption⟩)
            · rintro n s' h' ⟨j, acc, e1, e2, e5, e7, e8, hh, hn, hacc, hf⟩
              subst hh
              simp only [aws, eq_self, reduceIte, Nat.reduceLT, Nat.reduceEqDiff, acmpnil, teset, e2, e8, List.length_map]
              cases hc : decide ((j : Int) < (xs.length : Int)) with
              | false =>
                simp only [aws, eq_self, reduceIte, Nat.reduceLT, Nat.reduceEqDiff, ares1, e7]
                simp only [decide_eq_false_iff_not] at hc
                refine ⟨hext, _, rfl, ?_⟩
                rw [← hf, List.drop_eq_nil_of_le (by omega)]
                rfl
              | true =>
                simp only [decide_eq_true_eq] at hc
                have hj : j < xs.length := by omega
                have hget : (xs.map inj)[((j : Nat) : Int).toNat]? = some (inj xs[j]) := by simp [hj]
                have hw : IntKind.i64.wrap (((L + 1 : Nat) : Int) - 1) = (L : Int) := by rw [wrap_i64 (by omega) (by omega)]; omega
                have hle := nodesS_le L xs[j]
                have hw2 : IntKind.i64.wrap ((acc : Int) + (nodesS L xs[j] : Int)) = ((acc + nodesS L xs[j] : Nat) : Int) := by rw [wrap_i64 (by omega) (by omega)]; omega
                simp only [aws, eq_self, reduceIte, Nat.reduceLT, Nat.reduceEqDiff, acmpnil, teset, e1, e2, e7, e8, hget, Int.natCast_nonneg, load_inj, hw]
                refine ACallV.pure (ih xs[j] (by omega)) ?_
                simp only [aws, eq_self, reduceIte, Nat.reduceLT, Nat.reduceEqDiff, acmpnil, e7, hw2]
                rw [List.drop_eq_getElem_cons hj, nodesF] at hf
                cases hg : decide (((acc + nodesS L xs[j] : Nat) : Int) > 60) with
                | true =>
                  simp only [aws, eq_self, reduceIte, Nat.reduceLT, Nat.reduceEqDiff, ares1, e5]
                  simp only [decide_eq_true_eq] at hg
                  refine ⟨hext, _, rfl, ?_⟩
                  rw [← hf, if_pos (by omega)]
                  rfl
                | false =>
                  simp only [aws, eq_self, reduceIte, Nat.reduceLT, Nat.reduceEqDiff, acmpnil, e1, e2, e5, e7, e8]
                  simp only [decide_eq_false_iff_not] at hg
                  rw [if_neg (by omega)] at hf
                  refine ⟨n - 1, by omega, j + 1, _, rfl, ?_, ?_, ?_, hf⟩
                  · rw [wrap_succ (by omega)]
                  · omega
                  · omega
          | true =>
            simp only [decide_eq_true_eq] at hc
            have hj : j < ks.length := by omega
            have hget : (ks.map AV.str)[((j : Nat) : Int).toNat]? = some (.str ks[j]) := by simp [hj]
            have hgd : ks.getD j default = ks[j] := by simp [hj]
            simp only [aws]
            refine acode_draw_chain te_ok mixed [] (by kernel_rfl) ?_
            simp only [aws, eq_self, reduceIte, Nat.reduceAdd, Nat.reduceLT, Nat.reduceEqDiff, teset, e2, e6, hget, Int.natCast_nonneg]
            refine skR_pure (isText_pure _) ?_
            have badkey : keyOk ks j = false → shape (.mk k i t xs ks) = false := by
              intro hk
              rw [hs']
              have : keysOk ks = false := by
                rw [Bool.eq_false_iff]
                intro hq
                unfold keysOk at hq
                rw [List.all_eq_true] at hq
                have := hq j (List.mem_range.2 hj)
                rw [hk] at this; cases this
              rw [this]; simp
            cases hit : isText ks[j] with
            | false =>
              simp only [aws, eq_self, reduceIte, Nat.reduceLT, Nat.reduceEqDiff, ares1, e5]
              exact bad61 _ hext (hbad (badkey (by unfold keyOk; rw [hgd, hit]; rfl)))
            | true =>
              simp only [aws, eq_self, reduceIte, Nat.reduceEqDiff, acmpnil, e6]
              cases j with
              | zero =>
                simp only [aws, eq_self, reduceIte, Nat.reduceLT, Nat.reduceEqDiff, Int.reduceGT, Int.reduceAdd, acmpnil, e1, e2, e5, e6, Int.natCast_zero]
                have hok : keyOk ks 0 = true := by unfold keyOk; rw [hgd, hit]; rfl
                refine ⟨n - 1, by omega, 1, rfl, by omega, fun j' hj' => ?_⟩
                have : j' = 0 := by omega
                subst this; exact hok
              | succ j =>
                have hpos : decide ((((j + 1 : Nat) : Int)) > 0) = true := by simp
                have hw : IntKind.i64.wrap (((j + 1 : Nat) : Int) - 1) = (j : Int) := by rw [wrap_i64 (by omega) (by omega)]; omega
                have hget2 : (ks.map AV.str)[((j : Nat) : Int).toNat]? = some (.str ks[j]) := by simp
                simp only [aws, eq_self, reduceIte, Nat.reduceEqDiff, acmpnil, teset, e2, e6, hget, hget2, hpos, hw, Int.natCast_nonneg]
                have hgd2 : ks.getD j default = ks[j] := by simp [show j < ks.length by omega]
                have hko : keyOk ks (j + 1) = sless ks[j] ks[j + 1] := by
                  unfold keyOk
                  rw [hgd, hit, Nat.add_sub_cancel, hgd2]
                  simp
                cases hsl : Op.bytesLess ks[j].toList ks[j + 1].toList with
                | false =>
                  simp only [aws, eq_self, reduceIte, Nat.reduceLT, Nat.reduceEqDiff, ares1, e5]
                  exact bad61 _ hext (hbad (badkey (by rw [hko]; exact hsl)))
                | true =>
                  simp only [aws, eq_self, reduceIte, Nat.reduceLT, Nat.reduceEqDiff, acmpnil, e1, e2, e5, e6]
                  refine ⟨n - 1, by omega, j + 1 + 1, ?_, by omega, fun j' hj' => ?_⟩
                  · rw [wrap_succ (by omega)]
                  · by_cases e : j' = j + 1
                    · subst e; rw [hko]; exact hsl
                    · exact hall j' (by omega)
    · have q5 : (k == 5) = false := by simp [h5]
      simp only [aws, eq_self, reduceIte, Nat.reduceLT, Nat.reduceEqDiff, Int.reduceNeg, acmpnil, ares1, q0, q1, q2, q3, q4, q5]
      exact bad61 _ hext (hbad (shape_x _ _ _ _ h0 h1 h2 h3 h4 h5))
end Go.Proofs.YtlbhgoffiigfbaaGreat.AW
end
section
set_option linter.unusedSimpArgs false
set_option linter.unusedVariables false
namespace Go.Proofs.YtlbhgoffiigfbaaGreat.AW
open Go Go.RowKit

def valid (v : V) : Bool := decide (nodesS 6 v ≤ 60)
theorem nodes6_pure (k i : Int) (t : ByteArray) (xs : List V) (ks : List ByteArray) : Pure Tryz.prog 60 [.agg [.int .i64 k, .int .i64 i, .str t, .sl .ro 5 (xs.map inj), .sl .ro 1 (ks.map .str)], .int .i64 6] (.int .i64 (nodesS 6 (.mk k i t xs ks))) := by
  have := nodes_pure 6 (.mk k i t xs ks) (by omega)
  rwa [inj_mk] at this
theorem refvalid_pure (v : V) : Pure Tryz.prog 46 [inj v] (.bool (valid v)) := by
  obtain ⟨k, i, t, xs, ks⟩ := v
  rw [inj_mk]
  refine Pure.of ⟨Tryz.f46, Tryz.func46, rfl, by kernel_rfl⟩ rfl (fun h => ?_)
  refine acalls_of te_ok [] Tryz.func46 (c := _) rfl (Nat.le_of_ble_eq_true rfl) ?_
  simp only [aws, eq_self, reduceIte, Nat.reduceAdd, Nat.reduceLT, Nat.reduceLeDiff, teset, Tryz.ntmps46, Tryz.results46]
  refine ACallV.pure (nodes6_pure _ _ _ _ _) ?_
  simp only [aws, eq_self, reduceIte, Nat.reduceLT, acmpnil, ares1]
  refine ⟨(AH.Ext.refl h).new _, _, rfl, ?_⟩
  have : decide ((nodesS 6 (.mk k i t xs ks) : Int) ≤ 60) = valid (.mk k i t xs ks) := by
    unfold valid; simp only [decide_eq_decide]; omega
  rw [this]; rfl

/-- A step of a path. -/
structure Stp where
  index : Int
  key : ByteArray
end Go.Proofs.YtlbhgoffiigfbaaGreat.AW
end
section
set_option linter.unusedSimpArgs false
set_option linter.unusedVariables false
namespace Go.Proofs.YtlbhgoffiigfbaaGreat.AW
open Go Go.RowKit

def zeroV : V := .mk 0 0 ⟨#[]⟩ [] []
end Go.Proofs.YtlbhgoffiigfbaaGreat.AW
end
section
set_option linter.unusedSimpArgs false
set_option linter.unusedVariables false
namespace Go.Proofs.YtlbhgoffiigfbaaGreat.AW
open Go Go.RowKit

def Vok (v : V) : Prop := ∃ L, nodesS L v ≤ 60
theorem nodesF_all (f : V → Nat) : ∀ (xs : List V) (n : Nat), nodesF f n xs ≤ 60 → ∀ x ∈ xs, f x ≤ 60 := by
  intro xs
  induction xs with
  | nil => intro n _ x hx; cases hx
  | cons y xs ih =>
    intro n h x hx
    simp only [nodesF] at h
    split at h
    · omega
    · rcases List.mem_cons.1 hx with rfl | hx
      · omega
      · exact ih _ h x hx
theorem Vok.items {v : V} (h : Vok v) : ∀ x ∈ v.items, Vok x := by
  obtain ⟨L, h⟩ := h
  cases L with
  | zero => simp [nodesS] at h
  | succ L =>
    simp only [nodesS] at h
    split at h
    · omega
    · split at h
      · exact fun x hx => ⟨L, nodesF_all _ _ _ h x hx⟩
      · omega
theorem Vok.shape {v : V} (h : Vok v) : shape v = true ∧ v.items.length ≤ 60 := by
  obtain ⟨L, h⟩ := h
  cases L with
  | zero => simp [nodesS] at h
  | succ L =>
    simp only [nodesS] at h
    split at h
    · omega
    · next hl =>
      split at h
      · next hs => exact ⟨hs, by omega⟩
      · omega
theorem shape_keys {v : V} (h : shape v = true) : (v.kind = 5 → v.keys.length = v.items.length) ∧ (v.kind ≠ 5 → v.keys.length = 0) := by
  obtain ⟨k, i, t, xs, ks⟩ := v
  simp only [V.kind, V.keys, V.items]
  refine ⟨fun hk => ?_, fun hk => ?_⟩
  · subst hk; rw [shape_5] at h; simp at h; exact h.1.2
  · by_cases h0 : k = 0
    · subst h0; rw [shape_0] at h; simp [plainS, V.keys] at h; simp [h.2]
    by_cases h1 : k = 1
    · subst h1; rw [shape_1] at h; simp [plainS, V.keys] at h; simp [h.1.2]
    by_cases h2 : k = 2
    · subst h2; rw [shape_2] at h; simp [plainS, V.keys] at h; simp [h.1.2]
    by_cases h3 : k = 3
    · subst h3; rw [shape_3] at h; simp [plainS, V.keys] at h; simp [h.1.2]
    by_cases h4 : k = 4
    · subst h4; rw [shape_4] at h; simp [plainS, V.keys] at h; simp [h.2]
    · rw [shape_x _ _ _ _ h0 h1 h2 h3 h4 hk] at h; cases h
theorem Vok.keys {v : V} (h : Vok v) : (v.kind = 5 → v.keys.length = v.items.length) ∧ v.keys.length ≤ 60 := by
  obtain ⟨h1, h2⟩ := h.shape
  obtain ⟨h3, h4⟩ := shape_keys h1
  refine ⟨h3, ?_⟩
  by_cases h5 : v.kind = 5
  · rw [h3 h5]; exact h2
  · rw [h4 h5]; omega
end Go.Proofs.YtlbhgoffiigfbaaGreat.AW
end
section
set_option linter.unusedSimpArgs false
set_option linter.unusedVariables false
namespace Go.Proofs.YtlbhgoffiigfbaaGreat.AW
open Go Go.RowKit

mutual
theorem V.ind {p : V → Prop} (h : ∀ k i t xs ks, (∀ x ∈ xs, p x) → p (.mk k i t xs ks)) : ∀ v, p v
  | .mk k i t xs ks => h k i t xs ks (V.indL h xs)
theorem V.indL {p : V → Prop} (h : ∀ k i t xs ks, (∀ x ∈ xs, p x) → p (.mk k i t xs ks)) : ∀ xs : List V, ∀ x ∈ xs, p x
  | [] => fun x hx => by cases hx
  | y :: ys => by
    have h1 := V.ind h y
    have h2 := V.indL h ys
    intro x hx
    rcases List.mem_cons.1 hx with rfl | hx
    · exact h1
    · exact h2 x hx
end
mutual
def sameS : V → V → Bool
  | .mk k i t xs ks, .mk k' i' t' xs' ks' => !(k != k' || i != i' || !(t.toList == t'.toList) || (ks.length : Int) != (ks'.length : Int)) && (ks.zip ks').all (fun p => p.1.toList == p.2.toList) && sameL xs xs'
def sameL : List V → List V → Bool
  | [], [] => true
  | x :: xs, y :: ys => sameS x y && sameL xs ys
  | _, _ => false
end
mutual
def V.sm : V → Prop
  | .mk _ _ _ xs ks => xs.length < 4611686018427387904 ∧ ks.length < 4611686018427387904 ∧ V.smL xs
def V.smL : List V → Prop
  | [] => True
  | x :: xs => x.sm ∧ V.smL xs
end
theorem V.smL_iff {xs : List V} : V.smL xs ↔ ∀ x ∈ xs, x.sm := by
  induction xs with
  | nil => simp [V.smL]
  | cons x xs ih => simp [V.smL, ih]
theorem sameL_len : ∀ {xs ys : List V}, xs.length ≠ ys.length → sameL xs ys = false
  | [], [], h => absurd rfl h
  | [], y :: ys, _ => by simp [sameL]
  | x :: xs, [], _ => by simp [sameL]
  | x :: xs, y :: ys, h => by simp only [sameL]; rw [sameL_len (by simpa using h)]; simp
theorem sameL_eq : ∀ {xs ys : List V}, xs.length = ys.length → (sameL xs ys = true ↔ ∀ (j : Nat) x y, xs[j]? = some x → ys[j]? = some y → sameS x y = true)
  | [], [], _ => by simp [sameL]
  | [], y :: ys, h => by simp at h
  | x :: xs, [], h => by simp at h
  | x :: xs, y :: ys, h => by
    simp only [sameL, Bool.and_eq_true]
    rw [sameL_eq (by simpa using h)]
    constructor
    · rintro ⟨h1, h2⟩ j a b ha hb
      cases j with
      | zero => simp at ha hb; subst ha hb; exact h1
      | succ j => exact h2 j a b (by simpa using ha) (by simpa using hb)
    · intro h
      exact ⟨h 0 x y rfl rfl, fun j a b ha hb => h (j + 1) a b (by simpa using ha) (by simpa using hb)⟩

theorem samelist_pure (xs ys : List V) (hl : xs.length < 4611686018427387904) (ih : ∀ x ∈ xs, ∀ y, Pure Tryz.prog 19 [inj x, inj y] (.bool (sameS x y))) :
    Pure Tryz.prog 12 [.sl .ro 5 (xs.map inj), .sl .ro 5 (ys.map inj)] (.bool (sameL xs ys)) := by
  refine Pure.of ⟨Tryz.f12, Tryz.func12, rfl, by kernel_rfl⟩ rfl (fun h => ?_)
  refine acalls_of te_ok [] Tryz.func12 (c := _) rfl (Nat.le_of_ble_eq_true rfl) ?_
  simp only [aws, eq_self, reduceIte, Nat.reduceLT, acmpnil, teset, Tryz.ntmps12, Tryz.results12, List.length_map]
  cases hc : ((xs.length : Int) != (ys.length : Int)) with
  | true =>
    simp only [aws, eq_self, reduceIte, Nat.reduceLT, ares1]
    exact ⟨.refl _, _, rfl, by rw [sameL_len (by simp at hc; omega)]; rfl⟩
  | false =>
    simp only [aws, eq_self, Nat.reduceLT]
    have hlen : xs.length = ys.length := by
      simp only [bne_eq_false_iff_eq] at hc; omega
    refine ⟨fun n s' h' => ∃ (j : Nat), s' 0 = .sl .ro 5 (xs.map inj) ∧ s' 1 = .sl .ro 5 (ys.map inj) ∧ s' 5 = .int .i64 j ∧ h' = h ∧ n + j = xs.length ∧ (∀ (j' : Nat) x y, j' < j → xs[j']? = some x → ys[j']? = some y → sameS x y = true), ⟨xs.length, 0, ?_⟩, ?_⟩
    · simp only [aws, eq_self, reduceIte, reduceCtorEq, Nat.reduceEqDiff, Int.natCast_zero]
      exact fun j' x y hj => absurd hj (Nat.not_lt_zero _)
    · rintro n s' h' ⟨j, e0, e1, e5, hh, hn, hall⟩
      subst hh
      simp only [aws, eq_self, reduceIte, reduceCtorEq, Nat.reduceLT, acmpnil, teset, e0, e5, List.length_map]
      cases hc : decide ((j : Int) < (xs.length : Int)) with
      | false =>
        simp only [aws, eq_self, reduceIte, Nat.reduceLT, Nat.reduceEqDiff, ares1]
        simp only [decide_eq_false_iff_not] at hc
        have : sameL xs ys = true := (sameL_eq hlen).2 (fun j' x y hx hy => hall j' x y (by have := (List.getElem?_eq_some_iff.1 hx).1; omega) hx hy)
        exact ⟨.refl _, _, rfl, by rw [this]; rfl⟩
      | true =>
        simp only [decide_eq_true_eq] at hc
        have hj : j < xs.length := by omega
        have hj2 : j < ys.length := by omega
        have hget : (xs.map inj)[((j : Nat) : Int).toNat]? = some (inj xs[j]) := by simp [hj]
        have hget2 : (ys.map inj)[((j : Nat) : Int).toNat]? = some (inj ys[j]) := by simp [hj2]
        simp only [aws]
        refine acode_draw_chain te_ok mixed [] (by kernel_rfl) ?_
        simp only [aws, eq_self, reduceIte, reduceCtorEq, Nat.reduceAdd, Nat.reduceLT, Nat.reduceLeDiff, Nat.reduceEqDiff, teset, e0, e1, e5, inj_take, inj_agg, inj_len, hget, hget2, Int.natCast_nonneg]
        refine skR_pure (ih xs[j] (List.getElem_mem _) ys[j]) ?_
        cases hs : sameS xs[j] ys[j] with
        | false =>
          simp only [aws, eq_self, reduceIte, Nat.reduceLT, Nat.reduceEqDiff, ares1]
          have : sameL xs ys = false := by
            rw [Bool.eq_false_iff]
            intro hq
            have := (sameL_eq hlen).1 hq j _ _ (List.getElem?_eq_getElem hj) (List.getElem?_eq_getElem hj2)
            rw [hs] at this; cases this
          exact ⟨.refl _, _, rfl, by rw [this]; rfl⟩
        | true =>
          simp only [aws, eq_self, reduceIte, reduceCtorEq, Nat.reduceLT, Nat.reduceEqDiff, acmpnil, e0, e1, e5]
          refine ⟨n - 1, by omega, j + 1, by rw [wrap_succ (by omega)], by omega, fun j' x y hj' hx hy => ?_⟩
          by_cases e : j' = j
          · subst e
            rw [List.getElem?_eq_getElem hj] at hx
            rw [List.getElem?_eq_getElem hj2] at hy
            injection hx with hx; injection hy with hy
            subst hx hy; exact hs
          · exact hall j' x y (by omega) hx hy

theorem same_pure : ∀ (a b : V), a.sm → Pure Tryz.prog 19 [inj a, inj b] (.bool (sameS a b)) := by
  intro a
  induction a using V.ind with
  | h k i t xs ks ih =>
    intro b hsm
    obtain ⟨k', i', t', xs', ks'⟩ := b
    simp only [V.sm, V.smL_iff] at hsm
    have hlist := samelist_pure xs xs' hsm.1 (fun x hx y => ih x hx y (hsm.2.2 x hx))
    rw [inj_mk, inj_mk]
    refine Pure.ofW ⟨Tryz.f19, Tryz.func19, rfl, by kernel_rfl⟩ rfl (fun h hsc => ?_)
    refine acalls_of te_ok [12, 13, 14, 15, 16, 19, 20, 21, 22, 23, 26, 27, 28, 29, 30, 31, 32] Tryz.func19 (c := _) rfl (Nat.le_of_ble_eq_true rfl) ?_
    simp only [aws, eq_self, implies_true, imp_self, reduceIte, Nat.reduceLT, Nat.reduceEqDiff, Nat.reduceBEq, acmpnil, teset, Tryz.ntmps19, Tryz.results19, List.length_map]
    cases hc : (k != k' || i != i' || !(t.toList == t'.toList) || (ks.length : Int) != (ks'.length : Int)) with
    | true =>
      simp only [aws, eq_self, reduceIte, Nat.reduceLT, Nat.reduceEqDiff, ares1]
      exact ⟨by (repeat (first | exact AH.Ext.refl _ | assumption | refine AH.Ext.set ?_ (by first | omega | (simp only [new_nb, set_nb, kill_nb, newTok_nb, setTok_nb]; omega)) _ | refine AH.Ext.new ?_ _)), _, rfl, by simp only [sameS]; rw [hc]; exact .refl _⟩
    | false =>
      simp only [aws, eq_self, Nat.reduceLT]
      have hlen : ks.length = ks'.length := by simp at hc; omega
      refine ⟨fun n s' h' => ∃ (j : Nat), s' 2 = .ptr h.nb 0 ∧ s' 3 = .ptr (h.nb + 1) 0 ∧ s' 5 = .int .i64 j ∧ h' = (h.new [.int .i64 k, .int .i64 i, .str t, .sl .ro 5 (xs.map inj), .sl .ro 1 (ks.map .str)]).new [.int .i64 k', .int .i64 i', .str t', .sl .ro 5 (xs'.map inj), .sl .ro 1 (ks'.map .str)] ∧ n + j = ks.length ∧ (∀ (j' : Nat) x y, j' < j → ks[j']? = some x → ks'[j']? = some y → (x.toList == y.toList) = true), ⟨ks.length, 0, ?_⟩, ?_⟩
      · simp only [aws, eq_self, reduceIte, Nat.reduceEqDiff, Int.natCast_zero]
        exact fun j' x y hj => absurd hj (Nat.not_lt_zero _)
      · rintro n s' h' ⟨j, e2, e3, e5, hh, hn, hall⟩
        subst hh
        simp only [aws, eq_self, reduceIte, Nat.reduceLT, Nat.reduceEqDiff, acmpnil, teset, e2, e5, List.length_map]
        cases hd : decide ((j : Int) < (ks.length : Int)) with
        | false =>
          simp only [aws, eq_self, reduceIte, Nat.reduceLT, Nat.reduceEqDiff, teset, e2, e3]
          simp only [decide_eq_false_iff_not] at hd
          refine ACallV.pure hlist ?_
          simp only [aws, eq_self, reduceIte, Nat.reduceLT, Nat.reduceEqDiff, ares1]
          refine ⟨by (repeat (first | exact AH.Ext.refl _ | assumption | refine AH.Ext.set ?_ (by first | omega | (simp only [new_nb, set_nb, kill_nb, newTok_nb, setTok_nb]; omega)) _ | refine AH.Ext.new ?_ _)), _, rfl, ?_⟩
          have hz : (ks.zip ks').all (fun p => p.1.toList == p.2.toList) = true := by
            rw [List.all_eq_true]
            intro q hq
            obtain ⟨j', hj'⟩ := List.mem_iff_getElem?.1 hq
            obtain ⟨h1, h2⟩ := List.getElem?_zip_eq_some.1 hj'
            exact hall j' _ _ (by have := (List.getElem?_eq_some_iff.1 h1).1; omega) h1 h2
          simp only [sameS]; rw [hc, hz]
          exact .refl _
        | true =>
          simp only [decide_eq_true_eq] at hd
          have hj : j < ks.length := by omega
          have hj2 : j < ks'.length := by omega
          have hget : (ks.map AV.str)[((j : Nat) : Int).toNat]? = some (.str ks[j]) := by simp [hj]
          have hget2 : (ks'.map AV.str)[((j : Nat) : Int).toNat]? = some (.str ks'[j]) := by simp [hj2]
          simp only [aws]
          refine acode_draw_chain te_ok mixed [] (by kernel_rfl) ?_
          simp only [aws, eq_self, reduceIte, Nat.reduceAdd, Nat.reduceLT, Nat.reduceEqDiff, acmpnil, teset, e2, e3, e5, hget, hget2, Int.natCast_nonneg]
          cases hs : (ks[j].toList == ks'[j].toList) with
          | false =>
            simp only [aws, eq_self, reduceIte, Nat.reduceLT, Nat.reduceEqDiff, ares1]
            refine ⟨by (repeat (first | exact AH.Ext.refl _ | assumption | refine AH.Ext.set ?_ (by first | omega | (simp only [new_nb, set_nb, kill_nb, newTok_nb, setTok_nb]; omega)) _ | refine AH.Ext.new ?_ _)), _, rfl, ?_⟩
            have hz : (ks.zip ks').all (fun p => p.1.toList == p.2.toList) = false := by
              rw [Bool.eq_false_iff]
              intro hq
              rw [List.all_eq_true] at hq
              have := hq (ks[j], ks'[j]) (List.mem_of_getElem? (i := j) (List.getElem?_zip_eq_some.2 ⟨List.getElem?_eq_getElem hj, List.getElem?_eq_getElem hj2⟩))
              rw [hs] at this; cases this
            simp only [sameS]; rw [hc, hz]
            exact .refl _
          | true =>
            simp only [aws, eq_self, reduceIte, Nat.reduceLT, Nat.reduceEqDiff, acmpnil, e2, e3, e5]
            refine ⟨n - 1, by omega, j + 1, by rw [wrap_succ (by omega)], by omega, fun j' x y hj' hx hy => ?_⟩
            by_cases e : j' = j
            · subst e
              rw [List.getElem?_eq_getElem hj] at hx
              rw [List.getElem?_eq_getElem hj2] at hy
              injection hx with hx; injection hy with hy
              subst hx hy; exact hs
            · exact hall j' x y (by omega) hx hy

mutual
theorem sameS_self : ∀ v : V, sameS v v = true
  | .mk k i t xs ks => by
    simp only [sameS, sameL_self xs]
    simp
    intro a b hab
    have : ∀ (l : List ByteArray) (p : ByteArray × ByteArray), p ∈ l.zip l → p.1 = p.2 := by
      intro l
      induction l with
      | nil => intro p hp; simp at hp
      | cons c l ih =>
        intro p hp
        simp only [List.zip_cons_cons, List.mem_cons] at hp
        rcases hp with rfl | hp
        · rfl
        · exact ih p hp
    exact congrArg ByteArray.toList (this ks (a, b) hab)
theorem sameL_self : ∀ xs : List V, sameL xs xs = true
  | [] => rfl
  | x :: xs => by simp [sameL, sameS_self x, sameL_self xs]
end
theorem Vok.sm {v : V} (h : Vok v) : v.sm := by
  induction v using V.ind with
  | h k i t xs ks ih =>
    have h1 := h.shape.2
    have h2 := h.keys.2
    simp only [V.items, V.keys] at h1 h2
    simp only [V.sm, V.smL_iff]
    exact ⟨by omega, by omega, fun x hx => ih x hx (h.items x hx)⟩
end Go.Proofs.YtlbhgoffiigfbaaGreat.AW
end
section
set_option linter.unusedSimpArgs false
set_option linter.unusedVariables false
namespace Go.Proofs.YtlbhgoffiigfbaaGreat.AW
open Go Go.RowKit

end Go.Proofs.YtlbhgoffiigfbaaGreat.AW
end
section
set_option linter.unusedSimpArgs false
set_option linter.unusedVariables false
namespace Go.Proofs.YtlbhgoffiigfbaaGreat.AW
open Go Go.RowKit

theorem wrapS {n : Int} (h : -4611686018427387904 ≤ n) (h2 : n < 4611686018427387904) : IntKind.i64.wrap n = n := by
  simp only [IntKind.wrap, IntKind.bits, IntKind.signed, Bool.true_and, Int.reducePow, Nat.reduceSub]
  split <;> (rename_i hx; simp only [ge_iff_le, decide_eq_true_eq] at hx; omega)
theorem wrapI {i m : Nat} (h : i < m) (hm : m < 4611686018427387904) : IntKind.i64.wrap ((i : Int) + 1) = ((i + 1 : Nat) : Int) := by
  rw [wrapS (by omega) (by omega)]; omega
end Go.Proofs.YtlbhgoffiigfbaaGreat.AW
end
section
set_option linter.unusedSimpArgs false
set_option linter.unusedVariables false
namespace Go.Proofs.YtlbhgoffiigfbaaGreat.AW
open Go Go.RowKit

/-- The bytes of a number. -/
def numL (n : Nat) : List Nat := if h : 127 < n then (128 + n % 128) :: numL (n / 128) else [n]
termination_by n
decreasing_by omega
theorem numL_big {n : Nat} (h : 127 < n) : numL n = (128 + n % 128) :: numL (n / 128) := by
  rw [numL]
  split
  · rfl
  · next h2 => exact absurd h h2
theorem numL_small {n : Nat} (h : ¬ 127 < n) : numL n = [n] := by
  rw [numL]
  split
  · next h2 => exact absurd h2 h
  · rfl
def numA (n : Nat) : List AV := (numL n).map fun (k : Nat) => AV.int .u8 (k : Int)
theorem numA_big {n : Nat} (h : 127 < n) : numA n = .int .u8 ((128 + n % 128 : Nat) : Int) :: numA (n / 128) := by unfold numA; rw [numL_big h]; rfl
theorem numA_small {n : Nat} (h : ¬ 127 < n) : numA n = [.int .u8 (n : Int)] := by unfold numA; rw [numL_small h]; rfl
theorem pow_len {k n : Nat} (h : 128 ^ k ≤ n) (hn : n < 9223372036854775808) : k < 9 := by
  have h1 : 128 ^ k < 128 ^ 9 := Nat.lt_of_le_of_lt h (Nat.lt_of_lt_of_le hn (by decide))
  exact (Nat.pow_lt_pow_iff_right (by decide)).1 h1
theorem u8rem {m : Nat} (hm : m < 9223372036854775808) : IntKind.u8.wrap (IntKind.i64.wrap (128 + ((m : Int)).tmod 128)) = ((128 + m % 128 : Nat) : Int) := by
  rw [Int.tmod_eq_emod_of_nonneg (by omega), wrapS (by omega) (by omega)]
  simp only [IntKind.wrap, IntKind.bits, IntKind.signed, Bool.false_and, Bool.false_eq_true, if_false]
  omega
theorem u8small {m : Nat} (h : ¬ 127 < m) : IntKind.u8.wrap (m : Int) = (m : Int) := by
  simp only [IntKind.wrap, IntKind.bits, IntKind.signed, Bool.false_and, Bool.false_eq_true, if_false]
  omega
theorem quo128 {m : Nat} (hm : m < 9223372036854775808) : IntKind.i64.wrap (((m : Int)).tdiv 128) = ((m / 128 : Nat) : Int) := by
  rw [Int.tdiv_eq_ediv_of_nonneg (by omega), wrapS (by omega) (by omega)]
  omega
theorem setTok_setTok (h : AH) (t a b : Nat) : (h.setTok t a).setTok t b = h.setTok t b := by
  unfold AH.setTok
  simp only [AH.mk.injEq, true_and, and_true]
  funext q
  unfold upd
  by_cases e : q = t <;> simp [e]
theorem setTok_self {h : AH} {t g : Nat} (ht : h.tok t = some g) : h.setTok t g = h := by
  unfold AH.setTok
  cases h with | mk box nb tok nt =>
  simp only [AH.mk.injEq, true_and, and_true]
  funext q
  unfold upd
  by_cases e : q = t
  · subst e; simp only [if_true]; exact ht.symm
  · simp [e]
theorem rng1 : List.range 1 = [0] := rfl
theorem len9 {m n k : Nat} (h : m * 128 ^ k ≤ n) (hn : n < 9223372036854775808) (hm : k = 0 ∨ 1 ≤ m) : k < 9 := by
  rcases hm with rfl | hm
  · decide
  · exact pow_len (Nat.le_trans (Nat.le_mul_of_pos_left _ hm) h) hn
theorem bnd1 {a b : Nat} (ha : a < 1000000000) (hb : b < 9) : (a + b + 1) * 1 ≤ 140737488355328 := by omega
theorem div_lt {k : Nat} (h : 127 < k) : k / 128 < k ∧ 1 ≤ k / 128 := by omega
theorem div_pow {k n a : Nat} (h : k * 128 ^ a ≤ n) : k / 128 * 128 ^ (a + 1) ≤ n := by
  rw [Nat.pow_succ, Nat.mul_comm (128 ^ a) 128, ← Nat.mul_assoc]
  exact Nat.le_trans (Nat.mul_le_mul_right _ (Nat.div_mul_le_self k 128)) h
set_option maxHeartbeats 4000000 in
theorem addnum_tok (xs : List AV) (n t g : Nat) (hn : n < 9223372036854775808) (hx : xs.length < 1000000000) (h : AH) (ht : h.tok t = some g) :
    ACalls Tryz.prog 32 [.sl (.tok t g) 1 xs, .int .i64 n] h fun out h' => out = .ret (.sl (.tok t (g + (numA n).length)) 1 (xs ++ numA n)) ∧ h' = h.setTok t (g + (numA n).length) := by
  refine acalls_of te_ok [] Tryz.func32 (c := _) rfl (Nat.le_of_ble_eq_true rfl) ?_
  simp only [aws, eq_self, Nat.reduceLT, Tryz.ntmps32, Tryz.results32]
  refine ⟨fun k s' h' => ∃ (m g2 : Nat) (ys : List AV), s' 0 = .sl (.tok t g2) 1 (xs ++ ys) ∧ s' 1 = .int .i64 m ∧ k = m ∧ h'.tok t = some g2 ∧ h' = h.setTok t g2 ∧ g2 = g + ys.length ∧ ys ++ numA m = numA n ∧ m * 128 ^ ys.length ≤ n ∧ (ys = [] ∨ 1 ≤ m), ⟨n, n, g, [], ?_⟩, ?_⟩
  · simp only [aws, eq_self, reduceIte, ht]
    exact ⟨(setTok_self ht).symm, by rw [Nat.pow_zero, Nat.mul_one]; exact Nat.le_refl _⟩
  · rintro k s' h' ⟨m, g2, ys, e0, e1, rfl, htk, hh, hg2, hl, hb, hm1⟩
    have hmn : k < 9223372036854775808 := Nat.lt_of_le_of_lt (Nat.le_trans (Nat.le_mul_of_pos_right k (Nat.pow_pos (by decide))) hb) hn
    have hl9 : ys.length < 9 := len9 hb hn (hm1.imp (fun h => by rw [h]; rfl) id)
    have hbd := bnd1 hx hl9
    simp only [aws, eq_self, reduceIte, Nat.reduceLT, acmpnil, e1]
    cases hc : decide ((k : Int) > 127) with
    | false =>
      have hk : ¬ 127 < k := fun h => by simp only [decide_eq_false_iff_not] at hc; exact hc (Int.ofNat_lt.2 h)
      simp only [aws, eq_self, reduceIte, reduceCtorEq, Nat.reduceLT, Nat.reduceLeDiff, Nat.reduceEqDiff, Nat.reduceMul, aconv, acvB, appBox, ares1, appendTo, teset, e0, e1, htk, rng1, hbd, List.length_append]
      have hgl : g2 + 1 = g + (numA n).length := by rw [← hl, numA_small hk, List.length_append, hg2]; simp; omega
      rw [← hgl]
      refine ⟨?_, by rw [hh, setTok_setTok]⟩
      rw [u8small hk, ← hl, numA_small hk, List.append_assoc]
    | true =>
      have hk : 127 < k := by simp only [decide_eq_true_eq] at hc; exact Int.ofNat_lt.1 hc
      simp only [aws, eq_self, reduceIte, reduceCtorEq, Nat.reduceLT, Nat.reduceLeDiff, Nat.reduceEqDiff, Nat.reduceMul, Int.reduceEq, aconv, acvB, acmpnil, appBox, appendTo, teset, e0, e1, htk, rng1, hbd, List.length_append]
      refine ⟨k / 128, (div_lt hk).1, k / 128, g2 + 1, ys ++ [.int .u8 ((128 + k % 128 : Nat) : Int)], ?_, ?_, rfl, ?_, ?_, ?_, ?_, ?_, ?_⟩
      · rw [u8rem hmn, List.append_assoc]
      · rw [quo128 hmn]
      · rfl
      · rw [hh, setTok_setTok]
      · rw [hg2, List.length_append]; simp; omega
      · rw [← hl, numA_big hk, List.append_assoc]; rfl
      · rw [List.length_append]; exact div_pow hb
      · exact .inr (div_lt hk).2
theorem newTok_tok0 (h : AH) : h.newTok.tok h.nt = some 0 := by rw [newTok_tok, if_pos rfl]
set_option maxHeartbeats 4000000 in
theorem addnum_nil (n : Nat) (hn : n < 9223372036854775808) (h : AH) :
    ACalls Tryz.prog 32 [.sl .full 0 [], .int .i64 n] h fun out h' => out = .ret (.sl (.tok h.nt ((numA n).length - 1)) 1 (numA n)) ∧ h' = h.newTok.setTok h.nt ((numA n).length - 1) := by
  refine acalls_of te_ok [] Tryz.func32 (c := _) rfl (Nat.le_of_ble_eq_true rfl) ?_
  simp only [aws, eq_self, Nat.reduceLT, Tryz.ntmps32, Tryz.results32]
  refine ⟨fun k s' h' => ∃ (m : Nat) (ys : List AV) (a : AV), s' 0 = a ∧ s' 1 = .int .i64 m ∧ k = m ∧ (ys = [] ∧ a = .sl .full 0 [] ∧ h' = h ∨ ∃ g2, a = .sl (.tok h.nt g2) 1 ys ∧ h' = h.newTok.setTok h.nt g2 ∧ g2 + 1 = ys.length) ∧ ys ++ numA m = numA n ∧ m * 128 ^ ys.length ≤ n ∧ (ys = [] ∨ 1 ≤ m), ⟨n, n, [], .sl .full 0 [], ?_⟩, ?_⟩
  · simp only [aws, eq_self, reduceIte, reduceCtorEq]
    first | exact Nat.le_of_eq (Nat.mul_one n) | trivial
  · rintro k s' h' ⟨m, ys, a, e0, e1, rfl, hcase, hl, hb, hm1⟩
    have hmn : k < 9223372036854775808 := Nat.lt_of_le_of_lt (Nat.le_trans (Nat.le_mul_of_pos_right k (Nat.pow_pos (by decide))) hb) hn
    have hl9 : ys.length < 9 := len9 hb hn (hm1.imp (fun h => by rw [h]; rfl) id)
    have hbd := bnd1 (a := 0) (by decide) hl9
    rw [Nat.zero_add] at hbd
    have hb1 : (0 + 1) * 1 ≤ 140737488355328 := by decide
    rcases hcase with ⟨hys, rfl, rfl⟩ | ⟨g2, rfl, rfl, hg2⟩
    · simp only [aws, eq_self, reduceIte, Nat.reduceLT, acmpnil, e1]
      cases hc : decide ((k : Int) > 127) with
      | false =>
        have hk : ¬ 127 < k := fun h => by simp only [decide_eq_false_iff_not] at hc; exact hc (Int.ofNat_lt.2 h)
        simp only [aws, eq_self, reduceIte, reduceCtorEq, Nat.reduceLT, Nat.reduceLeDiff, Nat.reduceEqDiff, Nat.reduceMul, aconv, acvB, appBox, ares1, appendTo, teset, e0, e1, rng1, hb1]
        have hgl : (numA n).length - 1 = 0 := by rw [← hl, numA_small hk, hys]; rfl
        rw [hgl]
        refine .inl ⟨?_, (setTok_self (newTok_tok0 _)).symm⟩
        rw [u8small hk, ← hl, numA_small hk, hys]; rfl
      | true =>
        have hk : 127 < k := by simp only [decide_eq_true_eq] at hc; exact Int.ofNat_lt.1 hc
        simp only [aws, eq_self, reduceIte, reduceCtorEq, Nat.reduceLT, Nat.reduceLeDiff, Nat.reduceEqDiff, Nat.reduceMul, Int.reduceEq, aconv, acvB, acmpnil, appBox, appendTo, teset, e0, e1, rng1, hb1]
        refine .inl ⟨k / 128, (div_lt hk).1, k / 128, ys ++ [.int .u8 ((128 + k % 128 : Nat) : Int)], _, rfl, ?_, rfl, .inr ⟨0, ?_, (setTok_self (newTok_tok0 _)).symm, by rw [hys]; rfl⟩, ?_, ?_, .inr (div_lt hk).2⟩
        · rw [quo128 hmn]
        · rw [u8rem hmn, hys]; rfl
        · rw [← hl, numA_big hk, List.append_assoc]; rfl
        · rw [List.length_append]; exact div_pow hb
    · simp only [aws, eq_self, reduceIte, Nat.reduceLT, acmpnil, e1]
      cases hc : decide ((k : Int) > 127) with
      | false =>
        have hk : ¬ 127 < k := fun h => by simp only [decide_eq_false_iff_not] at hc; exact hc (Int.ofNat_lt.2 h)
        simp only [aws, eq_self, reduceIte, reduceCtorEq, Nat.reduceLT, Nat.reduceLeDiff, Nat.reduceEqDiff, Nat.reduceMul, aconv, acvB, appBox, ares1, appendTo, teset, e0, e1, rng1, hbd]
        have hgl : (numA n).length - 1 = g2 + 1 := by rw [← hl, numA_small hk, List.length_append]; simp; omega
        rw [hgl]
        refine ⟨?_, by rw [setTok_setTok]⟩
        rw [u8small hk, ← hl, numA_small hk]
      | true =>
        have hk : 127 < k := by simp only [decide_eq_true_eq] at hc; exact Int.ofNat_lt.1 hc
        simp only [aws, eq_self, reduceIte, reduceCtorEq, Nat.reduceLT, Nat.reduceLeDiff, Nat.reduceEqDiff, Nat.reduceMul, Int.reduceEq, aconv, acvB, acmpnil, appBox, appendTo, teset, e0, e1, rng1, hbd]
        refine ⟨k / 128, (div_lt hk).1, k / 128, ys ++ [.int .u8 ((128 + k % 128 : Nat) : Int)], _, rfl, ?_, rfl, .inr ⟨g2 + 1, ?_, by rw [setTok_setTok], by rw [List.length_append, hg2]; rfl⟩, ?_, ?_, .inr (div_lt hk).2⟩
        · rw [quo128 hmn]
        · rw [u8rem hmn]
        · rw [← hl, numA_big hk, List.append_assoc]; rfl
        · rw [List.length_append]; exact div_pow hb
end Go.Proofs.YtlbhgoffiigfbaaGreat.AW
end
section
set_option linter.unusedSimpArgs false
set_option linter.unusedVariables false
namespace Go.Proofs.YtlbhgoffiigfbaaGreat.AW
open Go Go.RowKit

def numS (n : Nat) : ByteArray := ⟨⟨(numL n).map UInt8.ofNat⟩⟩
theorem numL_lt : ∀ (n k : Nat), k ∈ numL n → k < 256 := by
  intro n
  induction n using Nat.strongRecOn with
  | ind n ih =>
    intro k hk
    by_cases h : 127 < n
    · rw [numL_big h] at hk
      rcases List.mem_cons.1 hk with rfl | hk
      · omega
      · exact ih (n / 128) (by omega) k hk
    · rw [numL_small h] at hk
      rcases List.mem_cons.1 hk with rfl | hk
      · omega
      · cases hk
theorem avB_map : ∀ (l : List Nat), (∀ k ∈ l, k < 256) → avB (l.map fun (k : Nat) => AV.int .u8 (k : Int)) = some (l.map UInt8.ofNat)
  | [], _ => rfl
  | k :: l, h => by
    have h1 := h k List.mem_cons_self
    have ih := avB_map l (fun z hz => h z (List.mem_cons_of_mem _ hz))
    simp only [List.map_cons, avB, ih, Int.toNat_natCast]
    rw [if_pos ⟨Int.natCast_nonneg k, by omega⟩]
theorem numA_cells (n : Nat) : (numA n).flatMap AV.cells = numA n := by
  unfold numA
  induction numL n with
  | nil => rfl
  | cons k l ih => rw [List.map_cons, List.flatMap_cons, ih]; rfl
theorem numA_str (n : Nat) : avB (numA n) = some ((numL n).map UInt8.ofNat) := avB_map _ (numL_lt n)
theorem numA_ne (n : Nat) : numA n ≠ [] := by
  by_cases h : 127 < n
  · rw [numA_big h]; simp
  · rw [numA_small h]; simp
set_option maxHeartbeats 4000000 in
theorem count_pure (n : Nat) (hn : n < 9223372036854775808) : Pure Tryz.prog 48 [.int .i64 n] (.str (numS n)) := by
  refine Pure.of0 ⟨Tryz.f48, Tryz.func48, rfl, by kernel_rfl⟩ rfl rfl ?_
  refine acalls_of te_ok [] Tryz.func48 (c := _) rfl (Nat.le_of_ble_eq_true rfl) ?_
  simp only [aws, eq_self, Nat.reduceLT, Tryz.ntmps48, Tryz.results48]
  refine ⟨fun k s' h' => ∃ (m : Nat) (ys : List AV) (a : AV), s' 3 = a ∧ s' 0 = .int .i64 m ∧ k = m ∧ (ys = [] ∧ a = .sl .full 0 [] ∧ h'.nt = 0 ∨ ∃ g2, a = .sl (.tok 0 g2) 1 ys ∧ h'.tok 0 = some g2) ∧ ys ++ numA m = numA n ∧ m * 128 ^ ys.length ≤ n ∧ (ys = [] ∨ 1 ≤ m), ⟨n, n, [], .sl .full 0 [], ?_⟩, ?_⟩
  · simp only [aws, eq_self, reduceIte, reduceCtorEq]
    first | exact Nat.le_of_eq (Nat.mul_one n) | trivial
  · rintro k s' h' ⟨m, ys, a, e3, e0, rfl, hcase, hl, hb, hm1⟩
    have hmn : k < 9223372036854775808 := Nat.lt_of_le_of_lt (Nat.le_trans (Nat.le_mul_of_pos_right k (Nat.pow_pos (by decide))) hb) hn
    have hl9 : ys.length < 9 := len9 hb hn (hm1.imp (fun h => by rw [h]; rfl) id)
    have hbd := bnd1 (a := 0) (by decide) hl9
    rw [Nat.zero_add] at hbd
    have hb1 : (0 + 1) * 1 ≤ 140737488355328 := by decide
    rcases hcase with ⟨hys, rfl, hnt⟩ | ⟨g2, rfl, htk⟩
    · simp only [aws, eq_self, reduceIte, Nat.reduceLT, acmpnil, e0]
      cases hc : decide ((k : Int) > 127) with
      | false =>
        have hk : ¬ 127 < k := fun h => by simp only [decide_eq_false_iff_not] at hc; exact hc (Int.ofNat_lt.2 h)
        have hA : [AV.int IntKind.u8 (IntKind.u8.wrap (k : Int))] = numA n := by rw [u8small hk, ← hl, numA_small hk, hys]; rfl
        have hF : List.flatMap AV.cells [AV.int IntKind.u8 (IntKind.u8.wrap (k : Int))] = numA n := hA
        simp only [aws, eq_self, reduceIte, reduceCtorEq, Nat.reduceLT, Nat.reduceLeDiff, Nat.reduceEqDiff, Nat.reduceMul, aconv, acvB, appBox, ares1, appendTo, teset, e0, e3, rng1, hb1, cellsOf, hF, numA_str, hnt]
        first | exact .inl ⟨_, rfl, .refl _ _⟩ | exact ⟨_, rfl, .refl _ _⟩
      | true =>
        have hk : 127 < k := by simp only [decide_eq_true_eq] at hc; exact Int.ofNat_lt.1 hc
        simp only [aws, eq_self, reduceIte, reduceCtorEq, Nat.reduceLT, Nat.reduceLeDiff, Nat.reduceEqDiff, Nat.reduceMul, Int.reduceEq, aconv, acvB, acmpnil, appBox, appendTo, teset, e0, e3, rng1, hb1, hnt]
        refine .inl ⟨k / 128, (div_lt hk).1, k / 128, ys ++ [.int .u8 ((128 + k % 128 : Nat) : Int)], _, rfl, ?_, rfl, .inr ⟨0, ?_, rfl⟩, ?_, ?_, .inr (div_lt hk).2⟩
        · rw [quo128 hmn]
        · rw [u8rem hmn, hys]; rfl
        · rw [← hl, numA_big hk, List.append_assoc]; rfl
        · rw [List.length_append]; exact div_pow hb
    · simp only [aws, eq_self, reduceIte, Nat.reduceLT, acmpnil, e0]
      cases hc : decide ((k : Int) > 127) with
      | false =>
        have hk : ¬ 127 < k := fun h => by simp only [decide_eq_false_iff_not] at hc; exact hc (Int.ofNat_lt.2 h)
        have hA : ys ++ [AV.int IntKind.u8 (IntKind.u8.wrap (k : Int))] = numA n := by rw [u8small hk, ← hl, numA_small hk]
        simp only [aws, eq_self, reduceIte, reduceCtorEq, Nat.reduceLT, Nat.reduceLeDiff, Nat.reduceEqDiff, Nat.reduceMul, aconv, acvB, appBox, ares1, appendTo, teset, e0, e3, rng1, hbd, htk, cellsOf, hA, numA_cells, numA_str]
        exact ⟨_, rfl, .refl _ _⟩
      | true =>
        have hk : 127 < k := by simp only [decide_eq_true_eq] at hc; exact Int.ofNat_lt.1 hc
        simp only [aws, eq_self, reduceIte, reduceCtorEq, Nat.reduceLT, Nat.reduceLeDiff, Nat.reduceEqDiff, Nat.reduceMul, Int.reduceEq, aconv, acvB, acmpnil, appBox, appendTo, teset, e0, e3, rng1, hbd, htk]
        refine ⟨k / 128, (div_lt hk).1, k / 128, ys ++ [.int .u8 ((128 + k % 128 : Nat) : Int)], _, rfl, ?_, rfl, .inr ⟨g2 + 1, ?_, rfl⟩, ?_, ?_, .inr (div_lt hk).2⟩
        · rw [quo128 hmn]
        · rw [u8rem hmn]
        · rw [← hl, numA_big hk, List.append_assoc]; rfl
        · rw [List.length_append]; exact div_pow hb
end Go.Proofs.YtlbhgoffiigfbaaGreat.AW
end
section
set_option linter.unusedSimpArgs false
set_option linter.unusedVariables false
namespace Go.Proofs.YtlbhgoffiigfbaaGreat.AW
open Go Go.RowKit

/-- The number under which an int is written. -/
def zig (i : Int) : Nat := if i < 0 then (-2 * i - 1).toNat else (2 * i).toNat
theorem zig_lt {i : Int} (h1 : -1000000000000000000 ≤ i) (h2 : i ≤ 1000000000000000000) : zig i < 9223372036854775808 := by unfold zig; split <;> omega
theorem numA_len (n : Nat) (hn : n < 9223372036854775808) : (numA n).length ≤ 9 := by
  have key : ∀ (k n : Nat), n < 128 ^ (k + 1) → (numL n).length ≤ k + 1 := by
    intro k
    induction k with
    | zero => intro n h; rw [numL_small (by omega)]; exact Nat.le_refl _
    | succ k ih =>
      intro n h
      by_cases hb : 127 < n
      · rw [numL_big hb]
        have := ih (n / 128) (by rw [Nat.div_lt_iff_lt_mul (by decide)]; rwa [Nat.pow_succ] at h)
        simp only [List.length_cons]; omega
      · rw [numL_small hb]; simp
  have := key 8 n (Nat.lt_of_lt_of_le hn (by decide))
  unfold numA
  rw [List.length_map]; exact this
theorem addint_tok (xs : List AV) (i : Int) (t g : Nat) (h1 : -1000000000000000000 ≤ i) (h2 : i ≤ 1000000000000000000) (hx : xs.length < 1000000000) (h : AH) (ht : h.tok t = some g) :
    ACalls Tryz.prog 101 [.sl (.tok t g) 1 xs, .int .i64 i] h fun out h' => out = .ret (.sl (.tok t (g + (numA (zig i)).length)) 1 (xs ++ numA (zig i))) ∧ h' = h.setTok t (g + (numA (zig i)).length) := by
  refine acalls_of te_ok [] Tryz.func101 (c := _) rfl (Nat.le_of_ble_eq_true rfl) ?_
  simp only [aws, eq_self, reduceIte, Nat.reduceLT, Int.reduceNeg, acmpnil, Tryz.ntmps101, Tryz.results101]
  have hz := zig_lt h1 h2
  cases hc : decide (i < 0) with
  | true =>
    simp only [decide_eq_true_eq] at hc
    have hw : IntKind.i64.wrap (IntKind.i64.wrap (-2 * i) - 1) = (zig i : Int) := by
      rw [wrapS (n := -2 * i) (by omega) (by omega), wrapS (by omega) (by omega)]
      unfold zig; rw [if_pos hc]; omega
    simp only [aws, eq_self, reduceIte, Nat.reduceLT, Int.reduceNeg, acmpnil, hw]
    refine ACallV.mono ?_ (ACallV.of ⟨Tryz.f32, Tryz.func32, rfl, by kernel_rfl⟩ (addnum_tok xs (zig i) t g hz hx h ht))
    rintro out h' ⟨rfl, rfl⟩
    simp only [aws, eq_self, reduceIte, Nat.reduceLT, Int.reduceNeg, ares1]
  | false =>
    simp only [decide_eq_false_iff_not] at hc
    have hw : IntKind.i64.wrap (2 * i) = (zig i : Int) := by
      rw [wrapS (by omega) (by omega)]
      unfold zig; rw [if_neg hc]; omega
    simp only [aws, eq_self, reduceIte, Nat.reduceLT, Nat.reduceEqDiff, Int.reduceNeg, acmpnil, hw]
    refine ACallV.mono ?_ (ACallV.of ⟨Tryz.f32, Tryz.func32, rfl, by kernel_rfl⟩ (addnum_tok xs (zig i) t g hz hx h ht))
    rintro out h' ⟨rfl, rfl⟩
    simp only [aws, eq_self, reduceIte, Nat.reduceLT, Nat.reduceEqDiff, ares1]
/-- A text's bytes. -/
def strA (s : ByteArray) : List AV := numA s.size ++ s.data.toList.map fun (b : UInt8) => AV.int .u8 (b.toNat : Int)
def strG (s : ByteArray) : Nat := (numA s.size).length + if s.size = 0 then 0 else 1
theorem addtext_tok (xs : List AV) (s : ByteArray) (t g : Nat) (hs : s.size < 1000000000) (hx : xs.length < 1000000000) (h : AH) (ht : h.tok t = some g) :
    ACalls Tryz.prog 102 [.sl (.tok t g) 1 xs, .str s] h fun out h' => out = .ret (.sl (.tok t (g + strG s)) 1 (xs ++ strA s)) ∧ h' = h.setTok t (g + strG s) := by
  refine acalls_of te_ok [] Tryz.func102 (c := _) rfl (Nat.le_of_ble_eq_true rfl) ?_
  simp only [aws, eq_self, reduceIte, Nat.reduceLT, teset, Tryz.ntmps102, Tryz.results102]
  refine ACallV.mono ?_ (ACallV.of ⟨Tryz.f32, Tryz.func32, rfl, by kernel_rfl⟩ (addnum_tok xs s.size t g (by omega) hx h ht))
  rintro out h' ⟨rfl, rfl⟩
  have hnl := numA_len s.size (by omega)
  have hlen : s.data.toList.length = s.size := by simp
  have hbd : ((xs ++ numA s.size).length + (s.data.toList.map fun (b : UInt8) => AV.int .u8 (b.toNat : Int)).length) * 1 ≤ 140737488355328 := by
    rw [List.length_append, List.length_map, hlen]; omega
  cases hl : s.data.toList with
  | nil =>
    have h0 : s.size = 0 := by rw [hl] at hlen; exact hlen.symm
    rw [hl] at hbd
    simp only [List.map_nil, List.length_nil, Nat.add_zero] at hbd
    simp only [aws, eq_self, reduceIte, Nat.reduceLT, appBox, ares1, appendTo, teset, hbd, hl]
    unfold strA strG
    rw [hl, if_pos h0]
    exact ⟨by simp, rfl⟩
  | cons x l =>
    have h0 : ¬ s.size = 0 := by rw [hl] at hlen; simp at hlen; omega
    rw [hl] at hbd
    simp only [List.map_cons, List.length_cons] at hbd
    simp only [aws, eq_self, reduceIte, Nat.reduceLT, appBox, ares1, appendTo, teset, hbd, hl]
    unfold strA strG
    rw [hl, if_neg h0]
    exact ⟨by simp [Nat.add_assoc], by rw [setTok_setTok, Nat.add_assoc]⟩
end Go.Proofs.YtlbhgoffiigfbaaGreat.AW
end
section
set_option linter.unusedSimpArgs false
set_option linter.unusedVariables false
namespace Go.Proofs.YtlbhgoffiigfbaaGreat.AW
open Go Go.RowKit

mutual
/-- The bytes of a value. -/
def valA : V → List AV
  | .mk k i t xs ks => .int .u8 (IntKind.u8.wrap k) :: (if k = 1 then [.int .u8 (IntKind.u8.wrap i)] else if k = 2 then numA (zig i) else if k = 3 then strA t else if k = 4 ∨ k = 5 then numA xs.length ++ valL (k == 5) xs ks else [])
def valL : Bool → List V → List ByteArray → List AV
  | _, [], _ => []
  | true, x :: xs, k :: ks => strA k ++ (valA x ++ valL true xs ks)
  | true, _ :: _, [] => []
  | false, x :: xs, ks => valA x ++ valL false xs ks
end
mutual
/-- How often they are appended to. -/
def valG : V → Nat
  | .mk k i t xs ks => 1 + (if k = 1 then 1 else if k = 2 then (numA (zig i)).length else if k = 3 then strG t else if k = 4 ∨ k = 5 then (numA xs.length).length + valGL (k == 5) xs ks else 0)
def valGL : Bool → List V → List ByteArray → Nat
  | _, [], _ => 0
  | true, x :: xs, k :: ks => strG k + (valG x + valGL true xs ks)
  | true, _ :: _, [] => 0
  | false, x :: xs, ks => valG x + valGL false xs ks
end
mutual
/-- What can be written. -/
def V.wr : V → Prop
  | .mk k i t xs ks => (-1000000000000000000 ≤ i ∧ i ≤ 1000000000000000000) ∧ t.size < 1000000000 ∧ xs.length < 1000000000 ∧ (k = 5 → ks.length = xs.length) ∧ (∀ k ∈ ks, k.size < 1000000000) ∧ V.wrL xs
def V.wrL : List V → Prop
  | [] => True
  | x :: xs => x.wr ∧ V.wrL xs
end
theorem V.wrL_iff {xs : List V} : V.wrL xs ↔ ∀ x ∈ xs, x.wr := by
  induction xs with
  | nil => simp [V.wrL]
  | cons x xs ih => simp [V.wrL, ih]
mutual
theorem V.ind2 {p : V → Prop} (h : ∀ k i t xs ks, (∀ x ∈ xs, p x) → p (.mk k i t xs ks)) : ∀ v, p v
  | .mk k i t xs ks => h k i t xs ks (V.ind2L h xs)
theorem V.ind2L {p : V → Prop} (h : ∀ k i t xs ks, (∀ x ∈ xs, p x) → p (.mk k i t xs ks)) : ∀ xs : List V, ∀ x ∈ xs, p x
  | [], x, hx => by cases hx
  | y :: ys, x, hx => by
    rcases List.mem_cons.1 hx with e | hx
    · rw [e]; exact V.ind2 h y
    · exact V.ind2L h ys x hx
end
/-- A heap that differs from another one in a row's generation and in what is new. -/
structure CutT (h h2 : AH) (t G : Nat) : Prop where
  box : ∀ b, b < h.nb → h2.box b = h.box b
  tok : h2.tok t = some G
  toks : ∀ t', t' ≠ t → h2.tok t' = h.tok t'
theorem under_bytes {nb nt : Nat} : ∀ l : List AV, (∀ x ∈ l, ∃ n, x = .int .u8 n) → AV.underL nb nt l = true
  | [], _ => rfl
  | x :: l, h => by
    obtain ⟨n, rfl⟩ := h x List.mem_cons_self
    simp only [AV.underL, AV.under, Bool.true_and]
    exact under_bytes l fun z hz => h z (List.mem_cons_of_mem _ hz)
theorem ACalls.cutT {P : Program} {f : FuncId} {args : List AV} {h : AH} {t g G : Nat} {ys : List AV} (ht : h.tok t = some g) (hu : ∀ nb nt, AV.underL nb nt ys = true) (hc : ACalls P f args h fun out h2 => out = .ret (.sl (.tok t G) 1 ys) ∧ CutT h h2 t G) :
    ACalls P f args h fun out h' => out = .ret (.sl (.tok t G) 1 ys) ∧ h' = h.setTok t G := by
  refine hc.cut fun hs out h2 ⟨e, hq⟩ => ⟨out, h.setTok t G, .inl rfl, ?_, ⟨rfl, rfl, fun b cs hb => ?_, fun t' g' ht' => ?_⟩, e, rfl⟩
  · rw [e]
    simp only [AOut.under, AV.under, hu, Bool.and_true, decide_eq_true_eq]
    exact hs.tok t g ht
  · have hb' : h.box b = some cs := hb
    exact ⟨by rw [hq.box b (hs.box b cs hb')]; exact hb', .inl hb'⟩
  · rw [setTok_tok] at ht'
    split at ht'
    · next e2 => subst e2; rw [hq.tok]; exact ⟨ht', hs.tok t' g ht⟩
    · next e2 => rw [hq.toks t' e2]; exact ⟨ht', hs.tok t' g' ht'⟩
theorem CutT.leaf {h : AH} {cs : List AV} {t G : Nat} : CutT h ((h.new cs).setTok t G) t G := by
  refine ⟨fun b hb => ?_, ?_, fun t' ht' => ?_⟩
  · rw [setTok_box, new_box, if_neg (by omega)]
  · rw [setTok_tok, if_pos rfl]
  · rw [setTok_tok, if_neg ht', new_tok]
/-- The heap in the loop. -/
structure LoopH (h h' : AH) (cells : List AV) (t G : Nat) : Prop where
  tok : h'.tok t = some G
  box0 : h'.box h.nb = some cells
  box : ∀ b, b < h.nb → h'.box b = h.box b
  toks : ∀ t', t' ≠ t → h'.tok t' = h.tok t'
  nb : h.nb < h'.nb
theorem LoopH.cut {h h' : AH} {cells : List AV} {t G : Nat} (l : LoopH h h' cells t G) : CutT h h' t G := ⟨l.box, l.tok, l.toks⟩
theorem LoopH.start {h : AH} {cells : List AV} {t G : Nat} : LoopH h ((h.new cells).setTok t G) cells t G := by
  refine ⟨?_, ?_, fun b hb => ?_, fun t' ht' => ?_, ?_⟩
  · rw [setTok_tok, if_pos rfl]
  · rw [setTok_box, new_box, if_pos rfl]
  · rw [setTok_box, new_box, if_neg (by omega)]
  · rw [setTok_tok, if_neg ht', new_tok]
  · rw [setTok_nb, new_nb]; omega
theorem LoopH.new {h h' : AH} {cells cs : List AV} {t G : Nat} (l : LoopH h h' cells t G) : LoopH h (h'.new cs) cells t G := by
  have := l.nb
  refine ⟨l.tok, ?_, fun b hb => ?_, l.toks, ?_⟩
  · rw [new_box, if_neg (by omega)]; exact l.box0
  · rw [new_box, if_neg (by omega)]; exact l.box b hb
  · rw [new_nb]; omega
theorem LoopH.set {h h' : AH} {cells cs : List AV} {t G : Nat} (l : LoopH h h' cells t G) {b : Nat} (hb : h.nb < b) : LoopH h (h'.set b cs) cells t G := by
  have := l.nb
  refine ⟨l.tok, ?_, fun c hc => ?_, l.toks, ?_⟩
  · rw [set_box, if_neg (by omega)]; exact l.box0
  · rw [set_box, if_neg (by omega)]; exact l.box c hc
  · rw [set_nb]; omega
theorem LoopH.step {h h' : AH} {cells : List AV} {t G G' : Nat} (l : LoopH h h' cells t G) : LoopH h (h'.setTok t G') cells t G' := by
  refine ⟨?_, l.box0, l.box, fun t' ht' => ?_, l.nb⟩
  · rw [setTok_tok, if_pos rfl]
  · rw [setTok_tok, if_neg ht']; exact l.toks t' ht'
theorem underL_left {nb nt : Nat} {a b : List AV} (h : AV.underL nb nt (a ++ b) = true) : AV.underL nb nt a = true := by
  induction a with
  | nil => rfl
  | cons x a ih =>
    simp only [List.cons_append, AV.underL, Bool.and_eq_true] at h ⊢
    exact ⟨h.1, ih h.2⟩
theorem valL_ks (xs : List V) (a b : List ByteArray) : valL false xs a = valL false xs b := by
  induction xs with
  | nil => simp [valL]
  | cons x xs ih => simp [valL, ih]
theorem valGL_ks (xs : List V) (a b : List ByteArray) : valGL false xs a = valGL false xs b := by
  induction xs with
  | nil => simp [valGL]
  | cons x xs ih => simp [valGL, ih]
theorem valL_f {xs : List V} {j : Nat} (hj : j < xs.length) (a b : List ByteArray) : valL false (xs.drop j) a = valA xs[j] ++ valL false (xs.drop (j + 1)) b := by
  rw [List.drop_eq_getElem_cons hj, valL, valL_ks _ a b]
theorem valGL_f {xs : List V} {j : Nat} (hj : j < xs.length) (a b : List ByteArray) : valGL false (xs.drop j) a = valG xs[j] + valGL false (xs.drop (j + 1)) b := by
  rw [List.drop_eq_getElem_cons hj, valGL, valGL_ks _ a b]
theorem valL_t {xs : List V} {ks : List ByteArray} {j : Nat} (hj : j < xs.length) (hk : j < ks.length) : valL true (xs.drop j) (ks.drop j) = strA ks[j] ++ (valA xs[j] ++ valL true (xs.drop (j + 1)) (ks.drop (j + 1))) := by
  rw [List.drop_eq_getElem_cons hj, List.drop_eq_getElem_cons hk, valL]
theorem valGL_t {xs : List V} {ks : List ByteArray} {j : Nat} (hj : j < xs.length) (hk : j < ks.length) : valGL true (xs.drop j) (ks.drop j) = strG ks[j] + (valG xs[j] + valGL true (xs.drop (j + 1)) (ks.drop (j + 1))) := by
  rw [List.drop_eq_getElem_cons hj, List.drop_eq_getElem_cons hk, valGL]
theorem loopN {n j m : Nat} (h : n + j = m) (hj : j < m) : n - 1 < n ∧ n - 1 + (j + 1) = m := by omega
theorem natLt {a b : Nat} (h : (a : Int) < (b : Int)) : a < b := Int.ofNat_lt.1 h
set_option maxHeartbeats 8000000 in
theorem addvalue_tok : ∀ v : V, v.wr → ∀ (xs0 : List AV) (t g : Nat) (h : AH), h.tok t = some g → (∀ nb nt, AV.underL nb nt (xs0 ++ valA v) = true) → xs0.length + (valA v).length < 1000000000 →
    ACalls Tryz.prog 97 [.sl (.tok t g) 1 xs0, inj v] h fun out h' => out = .ret (.sl (.tok t (g + valG v)) 1 (xs0 ++ valA v)) ∧ h' = h.setTok t (g + valG v) := by
  intro v
  induction v using V.ind2 with
  | h k i tx xs ks ih =>
    intro hw xs0 t g h ht hu hlen
    simp only [V.wr, V.wrL_iff] at hw
    obtain ⟨⟨hi1, hi2⟩, htx, hxl, hkl, hks, hxs⟩ := hw
    refine ACalls.cutT ht hu ?_
    rw [inj_mk]
    have hb0 : (xs0.length + 1) * 1 ≤ 140737488355328 := by omega
    have hb1 : (xs0.length + 1 + 1) * 1 ≤ 140737488355328 := by omega
    have hx1 : (xs0 ++ [AV.int .u8 (IntKind.u8.wrap k)]).length < 1000000000 := by
      rw [List.length_append]; rw [show valA (.mk k i tx xs ks) = .int .u8 (IntKind.u8.wrap k) :: (if k = 1 then _ else _) by rw [valA]] at hlen; simp only [List.length_cons, List.length_nil] at hlen ⊢; omega
    refine acalls_of te_ok [] Tryz.func97 (c := _) rfl (Nat.le_of_ble_eq_true rfl) ?_
    simp only [aws, eq_self, reduceIte, reduceCtorEq, Nat.reduceLT, Nat.reduceLeDiff, Nat.reduceEqDiff, Nat.reduceMul, aconv, acvB, acmpnil, appBox, appendTo, teset, Tryz.ntmps97, Tryz.results97, boxR, rng1, hb0, ht]
    cases h1 : (k == 1) with
    | true =>
      simp only [aws, eq_self, reduceIte, reduceCtorEq, Nat.reduceLT, Nat.reduceLeDiff, Nat.reduceEqDiff, Nat.reduceMul, aconv, acvB, appBox, ares1, appendTo, teset, rng1, hb1, ht, List.length_append]
      have hk : k = 1 := by simpa using h1
      subst hk
      rw [setTok_setTok]
      have e1 : valA (.mk 1 i tx xs ks) = [.int .u8 (IntKind.u8.wrap 1), .int .u8 (IntKind.u8.wrap i)] := by simp [valA]
      have e2 : g + valG (.mk 1 i tx xs ks) = g + 1 + 1 := by simp only [valG, if_true, Nat.add_assoc]
      rw [e1, e2, List.append_assoc]
      exact ⟨rfl, CutT.leaf⟩
    | false =>
      have hn1 : ¬ k = 1 := by simpa using h1
      simp only [aws, eq_self, reduceIte, reduceCtorEq, Nat.reduceLT, Nat.reduceEqDiff, acmpnil]
      cases h2 : (k == 2) with
      | true =>
        have hk : k = 2 := by simpa using h2
        subst hk
        simp only [aws, eq_self, reduceIte, reduceCtorEq, Nat.reduceLT, Nat.reduceEqDiff, teset]
        refine ACallV.mono ?_ (ACallV.of ⟨Tryz.f101, Tryz.func101, rfl, by kernel_rfl⟩ (addint_tok _ i t (g + 1) hi1 hi2 hx1 _ (by rw [setTok_tok, if_pos rfl])))
        rintro out h' ⟨rfl, rfl⟩
        simp only [aws, eq_self, reduceIte, reduceCtorEq, Nat.reduceLT, Nat.reduceEqDiff, ares1]
        rw [setTok_setTok]
        have e1 : valA (.mk 2 i tx xs ks) = .int .u8 (IntKind.u8.wrap 2) :: numA (zig i) := by simp [valA]
        have e2 : g + valG (.mk 2 i tx xs ks) = g + 1 + (numA (zig i)).length := by simp only [valG, if_true, if_neg hn1]; omega
        rw [e1, e2, List.append_assoc]
        exact ⟨rfl, CutT.leaf⟩
      | false =>
        have hn2 : ¬ k = 2 := by simpa using h2
        simp only [aws, eq_self, reduceIte, reduceCtorEq, Nat.reduceLT, Nat.reduceEqDiff, acmpnil]
        cases h3 : (k == 3) with
        | true =>
          have hk : k = 3 := by simpa using h3
          subst hk
          simp only [aws, eq_self, reduceIte, reduceCtorEq, Nat.reduceLT, Nat.reduceEqDiff, teset]
          refine ACallV.mono ?_ (ACallV.of ⟨Tryz.f102, Tryz.func102, rfl, by kernel_rfl⟩ (addtext_tok _ tx t (g + 1) htx hx1 _ (by rw [setTok_tok, if_pos rfl])))
          rintro out h' ⟨rfl, rfl⟩
          simp only [aws, eq_self, reduceIte, reduceCtorEq, Nat.reduceLT, Nat.reduceEqDiff, ares1]
          rw [setTok_setTok]
          have e1 : valA (.mk 3 i tx xs ks) = .int .u8 (IntKind.u8.wrap 3) :: strA tx := by simp [valA]
          have e2 : g + valG (.mk 3 i tx xs ks) = g + 1 + strG tx := by simp only [valG, if_true, if_neg hn1, if_neg hn2]; omega
          rw [e1, e2, List.append_assoc]
          exact ⟨rfl, CutT.leaf⟩
        | false =>
          have hn3 : ¬ k = 3 := by simpa using h3
          simp only [aws, eq_self, reduceIte, reduceCtorEq, Nat.reduceLT, Nat.reduceEqDiff, acmpnil]
          cases h4 : (k == 4) with
          | true =>
            have hk : k = 4 := by simpa using h4
            have hk45 : k = 4 ∨ k = 5 := .inl hk
            simp only [aws, eq_self, reduceIte, reduceCtorEq, Nat.reduceLT, Nat.reduceEqDiff, teset, List.length_map]
            have e1 : valA (.mk k i tx xs ks) = .int .u8 (IntKind.u8.wrap k) :: (numA xs.length ++ valL (k == 5) xs ks) := by rw [valA, if_neg hn1, if_neg hn2, if_neg hn3, if_pos hk45]
            have e2 : g + valG (.mk k i tx xs ks) = g + 1 + (numA xs.length).length + valGL (k == 5) xs ks := by rw [valG, if_neg hn1, if_neg hn2, if_neg hn3, if_pos hk45]; omega
            refine ACallV.mono ?_ (ACallV.of ⟨Tryz.f32, Tryz.func32, rfl, by kernel_rfl⟩ (addnum_tok _ xs.length t (g + 1) (by omega) hx1 _ (by rw [setTok_tok, if_pos rfl])))
            rintro out h' ⟨rfl, rfl⟩
            simp only [aws, eq_self, reduceIte, reduceCtorEq, Nat.reduceLT, Nat.reduceEqDiff, teset, List.length_map]
            generalize hcs : [AV.int IntKind.i64 k, AV.int IntKind.i64 i, AV.str tx, AV.sl Tag.ro 5 (List.map inj xs), AV.sl Tag.ro 1 (List.map AV.str ks)] = cells
            refine ⟨fun n s' h' => ∃ (j G : Nat) (ys : List AV), s' 0 = .sl (.tok t G) 1 (xs0 ++ ys) ∧ s' 3 = .ptr h.nb 0 ∧ s' 44 = .sl .ro 5 (xs.map inj) ∧ s' 45 = .int .i64 xs.length ∧ s' 46 = .int .i64 j ∧ n + j = xs.length ∧ LoopH h h' cells t G ∧ ys ++ valL (k == 5) (xs.drop j) (ks.drop j) = valA (.mk k i tx xs ks) ∧ G + valGL (k == 5) (xs.drop j) (ks.drop j) = g + valG (.mk k i tx xs ks), ⟨xs.length, 0, g + 1 + (numA xs.length).length, .int .u8 (IntKind.u8.wrap k) :: numA xs.length, ?_⟩, ?_⟩
            · simp only [aws, eq_self, reduceIte, reduceCtorEq, Nat.reduceEqDiff, Int.natCast_zero]
              rw [setTok_setTok, e1, e2, List.append_assoc]
              exact ⟨rfl, LoopH.start, rfl, rfl⟩
            · rintro n s' h' ⟨j, G, ys, r0, r3, r44, r45, r46, hn, hL, hv, hg⟩
              simp only [aws, eq_self, reduceIte, Nat.reduceLT, acmpnil, r45, r46]
              cases hc : decide ((j : Int) < (xs.length : Int)) with
              | false =>
                simp only [aws, eq_self, reduceIte, reduceCtorEq, Nat.reduceLT, Nat.reduceEqDiff, ares1, r0]
                simp only [decide_eq_false_iff_not] at hc
                rw [List.drop_eq_nil_of_le (by omega)] at hv hg
                simp only [valL, valGL, List.append_nil, Nat.add_zero] at hv hg
                rw [← hv, ← hg]
                exact ⟨rfl, hL.cut⟩
              | true =>
                simp only [decide_eq_true_eq] at hc
                have hj := natLt hc
                have hget : (xs.map inj)[((j : Nat) : Int).toNat]? = some (inj xs[j]) := by rw [Int.toNat_natCast, List.getElem?_map, List.getElem?_eq_getElem hj]; rfl
                have hb0' := hL.box0
                rw [← hcs] at hb0'
                have hnb := hL.nb
                have ne1 : (h.nb = h'.nb) = False := by simp only [eq_iff_iff, iff_false]; omega
                have ne2 : (h'.nb = h.nb) = False := by simp only [eq_iff_iff, iff_false]; omega
                simp only [aws, eq_self, reduceIte, Nat.reduceAdd, Nat.reduceLT, Nat.reduceLeDiff, Nat.reduceEqDiff, acmpnil, storeB, teset, r3, r44, r46, inj_take, inj_agg, inj_len, inj_one, hget, Int.natCast_nonneg, hb0', ne1]
                cases h5 : (k == 5) with
                | false =>
                  simp only [aws, eq_self, reduceIte, reduceCtorEq, Nat.reduceLT, Nat.reduceLeDiff, Nat.reduceEqDiff, teset, r0, inj_take, inj_agg, inj_len]
                  rw [h5, valL_f hj _ (ks.drop (j + 1))] at hv
                  rw [h5, valGL_f hj _ (ks.drop (j + 1))] at hg
                  have hL2 := (hL.new (cs := [AV.int IntKind.i64 0, AV.int IntKind.i64 0, AV.str { data := #[] }, AV.sl Tag.full 0 [], AV.sl Tag.full 0 []])).set (cs := (inj xs[j]).cells) hnb
                  refine ACallV.mono ?_ (ACallV.of ⟨Tryz.f97, Tryz.func97, rfl, by kernel_rfl⟩ (ih xs[j] (List.getElem_mem hj) (hxs _ (List.getElem_mem hj)) (xs0 ++ ys) t G _ hL2.tok (fun nb nt => ?_) ?_))
                  · rintro out h'' ⟨rfl, rfl⟩
                    simp only [aws, eq_self, reduceIte, reduceCtorEq, Nat.reduceLT, Nat.reduceEqDiff, acmpnil, r0, r3, r44, r45, r46]
                    refine ⟨n - 1, (loopN hn hj).1, j + 1, G + valG xs[j], ys ++ valA xs[j], ?_, ?_, (loopN hn hj).2, hL2.step, ?_, ?_⟩
                    · rw [List.append_assoc]
                    · rw [wrapI hj (by omega)]
                    · rw [← hv, List.append_assoc]
                    · rw [← hg, Nat.add_assoc]
                  · have := hu nb nt
                    rw [← hv, ← List.append_assoc, ← List.append_assoc] at this
                    exact underL_left this
                  · rw [← hv] at hlen
                    simp only [List.length_append] at hlen ⊢
                    omega
                | true =>
                  have hk5 : k = 5 := by simpa using h5
                  have hjk : j < ks.length := by rw [hkl hk5]; exact hj
                  have hgk : (ks.map AV.str)[((j : Nat) : Int).toNat]? = some (.str ks[j]) := by rw [Int.toNat_natCast, List.getElem?_map, List.getElem?_eq_getElem hjk]; rfl
                  rw [h5, valL_t hj hjk] at hv
                  rw [h5, valGL_t hj hjk] at hg
                  have hL2 := (hL.new (cs := [AV.int IntKind.i64 0, AV.int IntKind.i64 0, AV.str { data := #[] }, AV.sl Tag.full 0 [], AV.sl Tag.full 0 []])).set (cs := (inj xs[j]).cells) hnb
                  have hlen2 : (xs0 ++ ys).length + (strA ks[j]).length + (valA xs[j]).length < 1000000000 := by
                    rw [← hv] at hlen
                    simp only [List.length_append] at hlen ⊢
                    omega
                  simp only [aws, eq_self, reduceIte, reduceCtorEq, Nat.reduceLT, Nat.reduceEqDiff, teset, r0, r3, hgk, Int.natCast_nonneg, hb0', ne1]
                  refine ACallV.mono ?_ (ACallV.of ⟨Tryz.f102, Tryz.func102, rfl, by kernel_rfl⟩ (addtext_tok (xs0 ++ ys) ks[j] t G (hks _ (List.getElem_mem hjk)) (by omega) _ hL2.tok))
                  rintro out h'' ⟨rfl, rfl⟩
                  simp only [aws, eq_self, reduceIte, reduceCtorEq, Nat.reduceLT, Nat.reduceLeDiff, Nat.reduceEqDiff, teset, r0, inj_take, inj_agg, inj_len]
                  refine ACallV.mono ?_ (ACallV.of ⟨Tryz.f97, Tryz.func97, rfl, by kernel_rfl⟩ (ih xs[j] (List.getElem_mem hj) (hxs _ (List.getElem_mem hj)) (xs0 ++ ys ++ strA ks[j]) t (G + strG ks[j]) _ hL2.step.tok (fun nb nt => ?_) ?_))
                  · rintro out h'' ⟨rfl, rfl⟩
                    simp only [aws, eq_self, reduceIte, reduceCtorEq, Nat.reduceLT, Nat.reduceEqDiff, acmpnil, r0, r3, r44, r45, r46]
                    refine ⟨n - 1, (loopN hn hj).1, j + 1, G + strG ks[j] + valG xs[j], ys ++ strA ks[j] ++ valA xs[j], ?_, ?_, (loopN hn hj).2, hL2.step.step, ?_, ?_⟩
                    · simp only [List.append_assoc]
                    · rw [wrapI hj (by omega)]
                    · rw [← hv]; simp only [List.append_assoc]
                    · rw [← hg]; simp only [Nat.add_assoc]
                  · have := hu nb nt
                    rw [← hv, show xs0 ++ (ys ++ (strA ks[j] ++ (valA xs[j] ++ valL true (xs.drop (j + 1)) (ks.drop (j + 1))))) = (xs0 ++ ys ++ strA ks[j] ++ valA xs[j]) ++ valL true (xs.drop (j + 1)) (ks.drop (j + 1)) by simp only [List.append_assoc]] at this
                    exact underL_left this
                  · simp only [List.length_append] at hlen2 ⊢
                    omega
          | false =>
            have hn4 : ¬ k = 4 := by simpa using h4
            simp only [aws, eq_self, reduceIte, reduceCtorEq, Nat.reduceLT, Nat.reduceEqDiff, acmpnil]
            cases h5 : (k == 5) with
            | true =>
              have hk : k = 5 := by simpa using h5
              simp only [aws, eq_self, reduceIte, reduceCtorEq, Nat.reduceLT, Nat.reduceEqDiff, teset, List.length_map]
              have hk45 : k = 4 ∨ k = 5 := .inr hk
              have e1 : valA (.mk k i tx xs ks) = .int .u8 (IntKind.u8.wrap k) :: (numA xs.length ++ valL (k == 5) xs ks) := by rw [valA, if_neg hn1, if_neg hn2, if_neg hn3, if_pos hk45]
              have e2 : g + valG (.mk k i tx xs ks) = g + 1 + (numA xs.length).length + valGL (k == 5) xs ks := by rw [valG, if_neg hn1, if_neg hn2, if_neg hn3, if_pos hk45]; omega
              refine ACallV.mono ?_ (ACallV.of ⟨Tryz.f32, Tryz.func32, rfl, by kernel_rfl⟩ (addnum_tok _ xs.length t (g + 1) (by omega) hx1 _ (by rw [setTok_tok, if_pos rfl])))
              rintro out h' ⟨rfl, rfl⟩
              simp only [aws, eq_self, reduceIte, reduceCtorEq, Nat.reduceLT, Nat.reduceEqDiff, teset, List.length_map]
              generalize hcs : [AV.int IntKind.i64 k, AV.int IntKind.i64 i, AV.str tx, AV.sl Tag.ro 5 (List.map inj xs), AV.sl Tag.ro 1 (List.map AV.str ks)] = cells
              refine ⟨fun n s' h' => ∃ (j G : Nat) (ys : List AV), s' 0 = .sl (.tok t G) 1 (xs0 ++ ys) ∧ s' 3 = .ptr h.nb 0 ∧ s' 44 = .sl .ro 5 (xs.map inj) ∧ s' 45 = .int .i64 xs.length ∧ s' 46 = .int .i64 j ∧ n + j = xs.length ∧ LoopH h h' cells t G ∧ ys ++ valL (k == 5) (xs.drop j) (ks.drop j) = valA (.mk k i tx xs ks) ∧ G + valGL (k == 5) (xs.drop j) (ks.drop j) = g + valG (.mk k i tx xs ks), ⟨xs.length, 0, g + 1 + (numA xs.length).length, .int .u8 (IntKind.u8.wrap k) :: numA xs.length, ?_⟩, ?_⟩
              · simp only [aws, eq_self, reduceIte, reduceCtorEq, Nat.reduceEqDiff, Int.natCast_zero]
                rw [setTok_setTok, e1, e2, List.append_assoc]
                exact ⟨rfl, LoopH.start, rfl, rfl⟩
              · rintro n s' h' ⟨j, G, ys, r0, r3, r44, r45, r46, hn, hL, hv, hg⟩
                simp only [aws, eq_self, reduceIte, Nat.reduceLT, acmpnil, r45, r46]
                cases hc : decide ((j : Int) < (xs.length : Int)) with
                | false =>
                  simp only [aws, eq_self, reduceIte, reduceCtorEq, Nat.reduceLT, Nat.reduceEqDiff, ares1, r0]
                  simp only [decide_eq_false_iff_not] at hc
                  rw [List.drop_eq_nil_of_le (by omega)] at hv hg
                  simp only [valL, valGL, List.append_nil, Nat.add_zero] at hv hg
                  rw [← hv, ← hg]
                  exact ⟨rfl, hL.cut⟩
                | true =>
                  simp only [decide_eq_true_eq] at hc
                  have hj := natLt hc
                  have hget : (xs.map inj)[((j : Nat) : Int).toNat]? = some (inj xs[j]) := by rw [Int.toNat_natCast, List.getElem?_map, List.getElem?_eq_getElem hj]; rfl
                  have hb0' := hL.box0
                  rw [← hcs] at hb0'
                  have hnb := hL.nb
                  have ne1 : (h.nb = h'.nb) = False := by simp only [eq_iff_iff, iff_false]; omega
                  have ne2 : (h'.nb = h.nb) = False := by simp only [eq_iff_iff, iff_false]; omega
                  simp only [aws, eq_self, reduceIte, Nat.reduceAdd, Nat.reduceLT, Nat.reduceLeDiff, Nat.reduceEqDiff, acmpnil, storeB, teset, r3, r44, r46, inj_take, inj_agg, inj_len, inj_one, hget, Int.natCast_nonneg, hb0', ne1]
                  cases h5 : (k == 5) with
                  | false =>
                    simp only [aws, eq_self, reduceIte, reduceCtorEq, Nat.reduceLT, Nat.reduceLeDiff, Nat.reduceEqDiff, teset, r0, inj_take, inj_agg, inj_len]
                    rw [h5, valL_f hj _ (ks.drop (j + 1))] at hv
                    rw [h5, valGL_f hj _ (ks.drop (j + 1))] at hg
                    have hL2 := (hL.new (cs := [AV.int IntKind.i64 0, AV.int IntKind.i64 0, AV.str { data := #[] }, AV.sl Tag.full 0 [], AV.sl Tag.full 0 []])).set (cs := (inj xs[j]).cells) hnb
                    refine ACallV.mono ?_ (ACallV.of ⟨Tryz.f97, Tryz.func97, rfl, by kernel_rfl⟩ (ih xs[j] (List.getElem_mem hj) (hxs _ (List.getElem_mem hj)) (xs0 ++ ys) t G _ hL2.tok (fun nb nt => ?_) ?_))
                    · rintro out h'' ⟨rfl, rfl⟩
                      simp only [aws, eq_self, reduceIte, reduceCtorEq, Nat.reduceLT, Nat.reduceEqDiff, acmpnil, r0, r3, r44, r45, r46]
                      refine ⟨n - 1, (loopN hn hj).1, j + 1, G + valG xs[j], ys ++ valA xs[j], ?_, ?_, (loopN hn hj).2, hL2.step, ?_, ?_⟩
                      · rw [List.append_assoc]
                      · rw [wrapI hj (by omega)]
                      · rw [← hv, List.append_assoc]
                      · rw [← hg, Nat.add_assoc]
                    · have := hu nb nt
                      rw [← hv, ← List.append_assoc, ← List.append_assoc] at this
                      exact underL_left this
                    · rw [← hv] at hlen
                      simp only [List.length_append] at hlen ⊢
                      omega
                  | true =>
                    have hk5 : k = 5 := by simpa using h5
                    have hjk : j < ks.length := by rw [hkl hk5]; exact hj
                    have hgk : (ks.map AV.str)[((j : Nat) : Int).toNat]? = some (.str ks[j]) := by rw [Int.toNat_natCast, List.getElem?_map, List.getElem?_eq_getElem hjk]; rfl
                    rw [h5, valL_t hj hjk] at hv
                    rw [h5, valGL_t hj hjk] at hg
                    have hL2 := (hL.new (cs := [AV.int IntKind.i64 0, AV.int IntKind.i64 0, AV.str { data := #[] }, AV.sl Tag.full 0 [], AV.sl Tag.full 0 []])).set (cs := (inj xs[j]).cells) hnb
                    have hlen2 : (xs0 ++ ys).length + (strA ks[j]).length + (valA xs[j]).length < 1000000000 := by
                      rw [← hv] at hlen
                      simp only [List.length_append] at hlen ⊢
                      omega
                    simp only [aws, eq_self, reduceIte, reduceCtorEq, Nat.reduceLT, Nat.reduceEqDiff, teset, r0, r3, hgk, Int.natCast_nonneg, hb0', ne1]
                    refine ACallV.mono ?_ (ACallV.of ⟨Tryz.f102, Tryz.func102, rfl, by kernel_rfl⟩ (addtext_tok (xs0 ++ ys) ks[j] t G (hks _ (List.getElem_mem hjk)) (by omega) _ hL2.tok))
                    rintro out h'' ⟨rfl, rfl⟩
                    simp only [aws, eq_self, reduceIte, reduceCtorEq, Nat.reduceLT, Nat.reduceLeDiff, Nat.reduceEqDiff, teset, r0, inj_take, inj_agg, inj_len]
                    refine ACallV.mono ?_ (ACallV.of ⟨Tryz.f97, Tryz.func97, rfl, by kernel_rfl⟩ (ih xs[j] (List.getElem_mem hj) (hxs _ (List.getElem_mem hj)) (xs0 ++ ys ++ strA ks[j]) t (G + strG ks[j]) _ hL2.step.tok (fun nb nt => ?_) ?_))
                    · rintro out h'' ⟨rfl, rfl⟩
                      simp only [aws, eq_self, reduceIte, reduceCtorEq, Nat.reduceLT, Nat.reduceEqDiff, acmpnil, r0, r3, r44, r45, r46]
                      refine ⟨n - 1, (loopN hn hj).1, j + 1, G + strG ks[j] + valG xs[j], ys ++ strA ks[j] ++ valA xs[j], ?_, ?_, (loopN hn hj).2, hL2.step.step, ?_, ?_⟩
                      · simp only [List.append_assoc]
                      · rw [wrapI hj (by omega)]
                      · rw [← hv]; simp only [List.append_assoc]
                      · rw [← hg]; simp only [Nat.add_assoc]
                    · have := hu nb nt
                      rw [← hv, show xs0 ++ (ys ++ (strA ks[j] ++ (valA xs[j] ++ valL true (xs.drop (j + 1)) (ks.drop (j + 1))))) = (xs0 ++ ys ++ strA ks[j] ++ valA xs[j]) ++ valL true (xs.drop (j + 1)) (ks.drop (j + 1)) by simp only [List.append_assoc]] at this
                      exact underL_left this
                    · simp only [List.length_append] at hlen2 ⊢
                      omega
            | false =>
              have hn5 : ¬ k = 5 := by simpa using h5
              simp only [aws, eq_self, reduceIte, reduceCtorEq, Nat.reduceLT, Nat.reduceEqDiff, ares1]
              have e1 : valA (.mk k i tx xs ks) = [.int .u8 (IntKind.u8.wrap k)] := by simp [valA, hn1, hn2, hn3, hn4, hn5]
              have e2 : g + valG (.mk k i tx xs ks) = g + 1 := by simp [valG, hn1, hn2, hn3, hn4, hn5]
              rw [e1, e2]
              exact ⟨rfl, CutT.leaf⟩
end Go.Proofs.YtlbhgoffiigfbaaGreat.AW
end
section
set_option linter.unusedSimpArgs false
set_option linter.unusedVariables false
namespace Go.Proofs.YtlbhgoffiigfbaaGreat.AW
open Go Go.RowKit

theorem Wk.slW {tag : Tag} {sz : Nat} {us vs : List AV} (hl : us.length = vs.length) (h : ∀ (i : Nat) (u v : AV), us[i]? = some u → vs[i]? = some v → WkAll u.cells v.cells) : Wk (.sl tag sz us) (.sl .ro sz vs) := by
  intro m c hr
  have he : us = [] → vs = [] := fun e => by subst e; cases vs with | nil => rfl | cons _ _ => cases hl
  have hget : ∀ (i : Nat) (v : AV), vs[i]? = some v → ∃ u, us[i]? = some u := fun i v hv => by
    have := (List.getElem?_eq_some_iff.1 hv).1
    exact ⟨us[i]'(by omega), List.getElem?_eq_getElem (by omega)⟩
  cases hr with
  | slnil => rw [he rfl]; exact .slnil _ _ (by intro a b e; cases e)
  | slemp _ _ a hz _ => rw [he rfl]; exact .slemp _ _ a hz (by intro a b e; cases e)
  | sl _ _ _ blk o cap f h1 h2 h3 h4 h5 h6 =>
    rw [hl]
    refine .sl .ro sz vs blk o cap f h1 (by rw [← hl]; exact h2) (fun i x hx => ?_) (fun i x hx j hj => ?_) (fun i x hx j c hc => ?_) trivial
    · obtain ⟨u, hu⟩ := hget i x hx
      rw [← (h i u x hu hx).1]; exact h3 i u hu
    · obtain ⟨u, hu⟩ := hget i x hx
      exact h4 i u hu j hj
    · obtain ⟨u, hu⟩ := hget i x hx
      have hw := h i u x hu hx
      have hj := (List.getElem?_eq_some_iff.1 hc).1
      have hj' : j < u.cells.length := by rw [hw.1]; exact hj
      exact hw.2 j _ _ (List.getElem?_eq_getElem hj') hc _ _ (h5 i u hu j _ (List.getElem?_eq_getElem hj'))
def mapO {β : Type} (g : AV → Option β) : List AV → Option (List β)
  | [] => some []
  | x :: xs => (match g x with
    | some y => (match mapO g xs with | some ys => some (y :: ys) | none => none)
    | none => none)
theorem mapO_len {β : Type} {g : AV → Option β} : ∀ {xs : List AV} {ys : List β}, mapO g xs = some ys → xs.length = ys.length := by
  intro xs
  induction xs with
  | nil => intro ys h; simp [mapO] at h; subst h; rfl
  | cons x xs ih =>
    intro ys h
    simp only [mapO] at h
    split at h
    · split at h
      · next hy => injection h with h; subst h; simp [ih hy]
      · cases h
    · cases h
theorem mapO_get {β : Type} {g : AV → Option β} : ∀ {xs : List AV} {ys : List β}, mapO g xs = some ys → ∀ (i : Nat) (x : AV) (y : β), xs[i]? = some x → ys[i]? = some y → g x = some y := by
  intro xs
  induction xs with
  | nil => intro ys h i x y hx; simp at hx
  | cons x xs ih =>
    intro ys h i z y hx hy
    simp only [mapO] at h
    split at h
    · next y0 h0 =>
      split at h
      · next ys0 hys =>
        injection h with h; subst h
        cases i with
        | zero => simp at hx hy; subst hx hy; exact h0
        | succ i => simp at hx hy; exact ih hys i z y hx hy
      · cases h
    · cases h
def strO : AV → Option ByteArray
  | .str s => some s
  | _ => none
theorem strO_eq {x : AV} {s : ByteArray} (h : strO x = some s) : x = .str s := by
  cases x <;> simp [strO] at h
  subst h; rfl
def nrm : Nat → AV → Option V
  | f + 1, .agg [.int .i64 k, .int .i64 i, .str t, .sl g1 z1 xs, .sl g2 z2 ks] => (match mapO (nrm f) xs with
    | some vs => (match mapO strO ks with
      | some kk => if (z1 = 5 ∨ z1 = 0 ∧ vs.length = 0) ∧ (z2 = 1 ∨ z2 = 0 ∧ kk.length = 0) ∧ (-1000000000000000000 ≤ i ∧ i ≤ 1000000000000000000) ∧ t.size < 1000000000 ∧ vs.length < 1000000000 ∧ (k ≠ 5 ∨ kk.length = vs.length) ∧ (kk.all fun s => decide (s.size < 1000000000)) = true then some (.mk k i t vs kk) else none
      | none => none)
    | none => none)
  | _, _ => none
theorem nrm_ok : ∀ (f : Nat) (a : AV) (v : V), nrm f a = some v → WkAll a.cells (inj v).cells ∧ v.wr := by
  intro f
  induction f with
  | zero => intro a v h; simp [nrm] at h
  | succ f ih =>
    intro a v h
    unfold nrm at h
    split at h
    · next f' k i t g1 z1 xs g2 z2 ks hf =>
      injection hf with hf; subst hf
      split at h
      · next vs hvs =>
        split at h
        · next kk hkk =>
          split at h
          · next hc =>
            obtain ⟨c1, c2, c3, c4, c5, c6, c7⟩ := hc
            injection h with h; subst h
            have lv := mapO_len hvs
            have lk := mapO_len hkk
            refine ⟨?_, ?_⟩
            · rw [inj_mk]
              simp only [AV.cells]
              refine .cons (.refl _) (.cons (.refl _) (.cons (.refl _) (.cons ?_ (.cons ?_ .nil))))
              · rcases c1 with rfl | ⟨rfl, c1⟩
                · refine .slW (by rw [List.length_map]; exact lv) (fun j u w hu hw => ?_)
                  rw [List.getElem?_map] at hw
                  cases hy : vs[j]? with
                  | none => rw [hy] at hw; cases hw
                  | some y =>
                    rw [hy] at hw; injection hw with hw; subst hw
                    exact (ih _ _ (mapO_get hvs j u y hu hy)).1
                · have e1 : vs = [] := List.length_eq_zero_iff.1 c1
                  have e2 : xs = [] := List.length_eq_zero_iff.1 (by omega)
                  subst e1 e2
                  exact .nil (by intro a b e; cases e)
              · rcases c2 with rfl | ⟨rfl, c2⟩
                · refine .slW (by rw [List.length_map]; exact lk) (fun j u w hu hw => ?_)
                  rw [List.getElem?_map] at hw
                  cases hy : kk[j]? with
                  | none => rw [hy] at hw; cases hw
                  | some y =>
                    rw [hy] at hw; injection hw with hw; subst hw
                    rw [strO_eq (mapO_get hkk j u y hu hy)]
                    exact .cons (.refl _) .nil
                · have e1 : kk = [] := List.length_eq_zero_iff.1 c2
                  have e2 : ks = [] := List.length_eq_zero_iff.1 (by omega)
                  subst e1 e2
                  exact .nil (by intro a b e; cases e)
            · simp only [V.wr, V.wrL_iff]
              refine ⟨c3, c4, c5, fun e => c6.resolve_left (fun h => h e), fun s hs => ?_, fun x hx => ?_⟩
              · have := List.all_eq_true.1 c7 s hs
                simpa using this
              · obtain ⟨j, hj, rfl⟩ := List.getElem_of_mem hx
                exact (ih _ _ (mapO_get hvs j _ _ (List.getElem?_eq_getElem (by omega)) (List.getElem?_eq_getElem hj))).2
          · cases h
        · cases h
      · cases h
    · cases h
end Go.Proofs.YtlbhgoffiigfbaaGreat.AW
end
section
set_option linter.unusedSimpArgs false
set_option linter.unusedVariables false
namespace Go.Proofs.YtlbhgoffiigfbaaGreat.AW
open Go Go.RowKit

def numF : Nat → Nat → Option (List AV)
  | 0, _ => none
  | f + 1, n => bif Nat.ble n 127 then some [.int .u8 (n : Int)] else (match numF f (n / 128) with
    | some l => some (.int .u8 ((128 + n % 128 : Nat) : Int) :: l)
    | none => none)
theorem numF_eq : ∀ (f n : Nat) (l : List AV), numF f n = some l → l = numA n := by
  intro f
  induction f with
  | zero => intro n l h; simp [numF] at h
  | succ f ih =>
    intro n l h
    simp only [numF] at h
    cases hb : Nat.ble n 127 with
    | true =>
      rw [hb, cond_true] at h
      have := Nat.le_of_ble_eq_true hb
      injection h with h; rw [← h, numA_small (by omega)]
    | false =>
      rw [hb, cond_false] at h
      have hn : 127 < n := by
        rcases Nat.lt_or_ge 127 n with h1 | h1
        · exact h1
        · rw [Nat.ble_eq_true_of_le h1] at hb; cases hb
      split at h
      · next l2 hl => injection h with h; rw [← h, numA_big hn, ih _ _ hl]
      · cases h
def valF (v : V) : Option (List AV × Nat) := match v with
  | .mk k i t _ _ =>
    if k = 1 then some ([.int .u8 (IntKind.u8.wrap k), .int .u8 (IntKind.u8.wrap i)], 2)
    else if k = 2 then (match numF 12 (zig i) with | some l => some (.int .u8 (IntKind.u8.wrap k) :: l, 1 + l.length) | none => none)
    else if k = 3 then (match numF 12 t.size with | some l => some (.int .u8 (IntKind.u8.wrap k) :: (l ++ t.data.toList.map fun (b : UInt8) => AV.int .u8 (b.toNat : Int)), 1 + (l.length + if t.size = 0 then 0 else 1)) | none => none)
    else if k = 4 ∨ k = 5 then none
    else some ([.int .u8 (IntKind.u8.wrap k)], 1)
theorem valF_eq {v : V} {l : List AV} {n : Nat} (h : valF v = some (l, n)) : l = valA v ∧ n = valG v := by
  obtain ⟨k, i, t, xs, ks⟩ := v
  simp only [valF] at h
  rw [valA, valG]
  by_cases h1 : k = 1
  · rw [if_pos h1] at h ⊢; injection h with h; injection h with e1 e2; subst e1 e2
    rw [if_pos h1]; exact ⟨rfl, rfl⟩
  rw [if_neg h1] at h ⊢
  rw [if_neg h1]
  by_cases h2 : k = 2
  · rw [if_pos h2] at h ⊢
    rw [if_pos h2]
    split at h
    · next l2 hl => injection h with h; injection h with e1 e2; subst e1 e2; rw [numF_eq _ _ _ hl]; exact ⟨rfl, rfl⟩
    · cases h
  rw [if_neg h2] at h ⊢
  rw [if_neg h2]
  by_cases h3 : k = 3
  · rw [if_pos h3] at h ⊢
    rw [if_pos h3]
    split at h
    · next l2 hl => injection h with h; injection h with e1 e2; subst e1 e2; rw [numF_eq _ _ _ hl]; exact ⟨rfl, rfl⟩
    · cases h
  rw [if_neg h3] at h ⊢
  rw [if_neg h3]
  by_cases h4 : k = 4 ∨ k = 5
  · rw [if_pos h4] at h; cases h
  rw [if_neg h4] at h ⊢
  rw [if_neg h4]
  injection h with h; injection h with e1 e2; subst e1 e2
  exact ⟨rfl, rfl⟩
theorem nrm_agg {f : Nat} {a : AV} {v : V} (h : nrm f a = some v) : ∃ cs, a = .agg cs := by
  unfold nrm at h
  split at h
  · exact ⟨_, rfl⟩
  · cases h
def rowNum (args : List AV) (h : EH) : Option (AV × EH) := match args with
  | [.sl (.tok t g) 1 xs, .int .i64 n] => if h.ah.tok t = some g ∧ 0 ≤ n ∧ n < 9223372036854775808 ∧ xs.length < 1000000000 then (match numF 12 n.toNat with
    | some l => some (.sl (.tok t (g + l.length)) 1 (xs ++ l), h.setTok t (g + l.length))
    | none => none) else none
  | [.sl .full 0 [], .int .i64 n] => if 0 ≤ n ∧ n < 9223372036854775808 then (match numF 12 n.toNat with
    | some l => some (.sl (.tok h.nt (l.length - 1)) 1 l, h.newTok.setTok h.nt (l.length - 1))
    | none => none) else none
  | _ => none
def rowVal (args : List AV) (h : EH) : Option (AV × EH) := match args with
  | [.sl (.tok t g) 1 xs, a] => (match nrm 8 a with
    | some v => (match valF v with
      | some (l, n) => if h.ah.tok t = some g ∧ AV.underL 0 0 (xs ++ l) = true ∧ xs.length + l.length < 1000000000 then some (.sl (.tok t (g + n)) 1 (xs ++ l), h.setTok t (g + n)) else none
      | none => none)
    | none => none)
  | _ => none
def rowk5 (f : FuncId) (args : List AV) (h : EH) : Option (AV × EH) :=
  bif Nat.beq f 32 then rowNum args h else bif Nat.beq f 97 then rowVal args h else none
theorem rowNum_ok {args : List AV} {h h' : EH} {v : AV} (he : rowNum args h = some (v, h')) : h'.ah.box = h.ah.box ∧ ACalls Tryz.prog 32 args h.ah (fun out h2 => out = .ret v ∧ h2 = h'.ah) := by
  unfold rowNum at he
  split at he
  · next t g xs n =>
    split at he
    · next hc =>
      obtain ⟨ht, h0, hn, hx⟩ := hc
      split at he
      · next l hl =>
        injection he with he; injection he with e1 e2; subst e1 e2
        have hl := numF_eq _ _ _ hl; subst hl
        rw [EH.setTok_ah ht]
        refine ⟨rfl, ?_⟩
        have := addnum_tok xs n.toNat t g (by omega) hx h.ah ht
        rw [Int.toNat_of_nonneg h0] at this
        exact this
      · cases he
    · cases he
  · next n =>
    split at he
    · next hc =>
      obtain ⟨h0, hn⟩ := hc
      split at he
      · next l hl =>
        injection he with he; injection he with e1 e2; subst e1 e2
        have hl := numF_eq _ _ _ hl; subst hl
        rw [EH.setTok_ah (g0 := 0) (by rw [EH.newTok_ah]; exact newTok_tok0 h.ah), EH.newTok_ah]
        refine ⟨rfl, ?_⟩
        have := addnum_nil n.toNat (by omega) h.ah
        rw [Int.toNat_of_nonneg h0] at this
        exact this
      · cases he
    · cases he
  · cases he
theorem rowVal_ok {args : List AV} {h h' : EH} {v : AV} (he : rowVal args h = some (v, h')) : h'.ah.box = h.ah.box ∧ ACalls Tryz.prog 97 args h.ah (fun out h2 => out = .ret v ∧ h2 = h'.ah) := by
  unfold rowVal at he
  split at he
  · next t g xs a =>
    split at he
    · next w hw =>
      split at he
      · next l n hl =>
        split at he
        · next hc =>
          obtain ⟨ht, hu, hx⟩ := hc
          injection he with he; injection he with e1 e2; subst e1 e2
          obtain ⟨e1, e2⟩ := valF_eq hl; subst e1 e2
          obtain ⟨hwk, hwr⟩ := nrm_ok _ _ _ hw
          obtain ⟨cs, rfl⟩ := nrm_agg hw
          rw [EH.setTok_ah ht]
          refine ⟨rfl, ?_⟩
          refine ACalls.wk (args' := [.sl (.tok t g) 1 xs, inj w]) (.cons (.refl _) (.cons ?_ .nil)) (addvalue_tok w hwr xs t g h.ah ht (fun nb nt => AV.underL_mono hu) hx)
          obtain ⟨k, i, tx, ys, ks⟩ := w
          rw [inj_mk] at hwk ⊢
          exact hwk.agg
        · cases he
      · cases he
    · cases he
  · cases he
theorem rowk5_ok : RowkOk Tryz.prog rowk5 := by
  intro f args h v h' he
  unfold rowk5 at he
  cases h1 : Nat.beq f 32 with
  | true =>
    rw [h1, cond_true] at he
    have e := Nat.eq_of_beq_eq_true h1; subst e
    obtain ⟨a, b⟩ := rowNum_ok he
    exact ⟨a, .inl ⟨⟨Tryz.f32, Tryz.func32, rfl, by kernel_rfl⟩, b⟩⟩
  | false =>
    rw [h1, cond_false] at he
    cases h2 : Nat.beq f 97 with
    | true =>
      rw [h2, cond_true] at he
      have e := Nat.eq_of_beq_eq_true h2; subst e
      obtain ⟨a, b⟩ := rowVal_ok he
      exact ⟨a, .inl ⟨⟨Tryz.f97, Tryz.func97, rfl, by kernel_rfl⟩, b⟩⟩
    | false => rw [h2, cond_false] at he; cases he
end Go.Proofs.YtlbhgoffiigfbaaGreat.AW
end
section
set_option linter.unusedSimpArgs false
set_option linter.unusedVariables false
namespace Go.Proofs.YtlbhgoffiigfbaaGreat.AW
open Go Go.RowKit

theorem bl_irrefl : ∀ x : List UInt8, Op.bytesLess x x = false
  | [] => rfl
  | a :: x => by simp [Op.bytesLess, bl_irrefl x]
theorem bl_trans : ∀ {x y z : List UInt8}, Op.bytesLess x y = true → Op.bytesLess y z = true → Op.bytesLess x z = true
  | _, [], _, h, _ => by simp [Op.bytesLess] at h
  | _, _ :: _, [], _, h => by simp [Op.bytesLess] at h
  | [], _ :: _, _ :: _, _, _ => rfl
  | a :: x, b :: y, c :: z, h, k => by
    simp only [Op.bytesLess, Bool.or_eq_true, Bool.and_eq_true, decide_eq_true_eq, beq_iff_eq] at h k ⊢
    rcases h with h | ⟨rfl, h⟩
    · rcases k with k | ⟨rfl, k⟩
      · exact .inl (UInt8.lt_trans h k)
      · exact .inl h
    · rcases k with k | ⟨rfl, k⟩
      · exact .inl k
      · exact .inr ⟨rfl, bl_trans h k⟩
theorem bl_asymm {x y : List UInt8} (h : Op.bytesLess x y = true) : Op.bytesLess y x = false := by
  cases hk : Op.bytesLess y x with
  | false => rfl
  | true => have := bl_trans h hk; rw [bl_irrefl] at this; cases this
theorem bl_total : ∀ {x y : List UInt8}, Op.bytesLess x y = false → Op.bytesLess y x = false → x = y
  | [], [], _, _ => rfl
  | [], _ :: _, h, _ => by simp [Op.bytesLess] at h
  | _ :: _, [], _, h => by simp [Op.bytesLess] at h
  | a :: x, b :: y, h, k => by
    simp only [Op.bytesLess, Bool.or_eq_false_iff, decide_eq_false_iff_not] at h k
    have hab : a = b := UInt8.le_antisymm (UInt8.not_lt.1 k.1) (UInt8.not_lt.1 h.1)
    subst hab
    simp at h k
    rw [bl_total h k]

def Asc (ks : List ByteArray) : Prop := ∀ (i : Nat) x y, ks[i]? = some x → ks[i + 1]? = some y → sless x y = true
theorem Asc.lt {ks : List ByteArray} (h : Asc ks) : ∀ (d i : Nat) x y, ks[i]? = some x → ks[i + d + 1]? = some y → sless x y = true := by
  intro d
  induction d with
  | zero => exact h
  | succ d ih =>
    intro i x y hx hy
    have hlt := (List.getElem?_eq_some_iff.1 hy).1
    obtain ⟨z, hz⟩ : ∃ z, ks[i + d + 1]? = some z := ⟨ks[i + d + 1]'(by omega), List.getElem?_eq_getElem (by omega)⟩
    exact bl_trans (ih i x z hx hz) (h (i + d + 1) z y hz hy)
theorem wrap_u64 {n : Int} (h : 0 ≤ n) (h2 : n < 4611686018427387904) : IntKind.u64.wrap n = n := by
  simp only [IntKind.wrap, IntKind.bits, IntKind.signed, Bool.false_and, Int.reducePow]
  simp
  omega
theorem half (i j : Nat) (h : i + j < 4611686018427387904) : IntKind.i64.wrap ((IntKind.u64.wrap (IntKind.i64.wrap ((i : Int) + (j : Int)))).fdiv (2 ^ min 1 IntKind.u64.bits)) = (((i + j) / 2 : Nat) : Int) := by
  rw [wrap_i64 (n := (i : Int) + (j : Int)) (by omega) (by omega), wrap_u64 (n := (i : Int) + (j : Int)) (by omega) (by omega)]
  have e : ((2 : Int) ^ min 1 IntKind.u64.bits) = 2 := rfl
  rw [e, Int.fdiv_eq_ediv_of_nonneg _ (by omega), wrap_i64 (by omega) (by omega)]
  omega
end Go.Proofs.YtlbhgoffiigfbaaGreat.AW
end
section
set_option linter.unusedSimpArgs false
set_option linter.unusedVariables false
namespace Go.Proofs.YtlbhgoffiigfbaaGreat.AW
open Go Go.RowKit

end Go.Proofs.YtlbhgoffiigfbaaGreat.AW
end
section
set_option linter.unusedSimpArgs false
set_option linter.unusedVariables false
namespace Go.Proofs.YtlbhgoffiigfbaaGreat.AW
open Go Go.RowKit

end Go.Proofs.YtlbhgoffiigfbaaGreat.AW
end
