/- Texts of this claim, part 12: V79, P74, P79, P80, V102, V104, V105, V106, P81, V107, V108, V109, V80. -/
import Derived.Test.YtlbhgoffiigfbaaGreatUb1
import Derived.Test.YtlbhgoffiigfbaaGreatUb3
import Derived.Test.YtlbhgoffiigfbaaGreatUb4
import Derived.Test.YtlbhgoffiigfbaaGreatUb5
import Derived.Test.YtlbhgoffiigfbaaGreatUb6
import Derived.Test.YtlbhgoffiigfbaaGreatUb7
import Derived.Test.YtlbhgoffiigfbaaGreatUb8
import Derived.Test.YtlbhgoffiigfbaaGreatUb9
import Derived.Test.YtlbhgoffiigfbaaGreatUb10
import Derived.Test.YtlbhgoffiigfbaaGreatUb11
section
set_option linter.unusedSimpArgs false
set_option linter.unusedVariables false
namespace Go.Proofs.YtlbhgoffiigfbaaGreat.AW
open Go Go.RowKit

theorem ddG_sub : ∀ (r : List V) (p : V), (ddG p r).Sublist r
  | [], _ => by simp [ddG]
  | a :: r, p => by
    rw [ddG]
    split
    · exact (ddG_sub r a).cons a
    · exact (ddG_sub r a).cons_cons a
theorem dd_sub (xs : List V) : (dd xs).Sublist xs := by
  cases xs with
  | nil => simp [dd]
  | cons x r => rw [dd]; exact (ddG_sub r x).cons_cons x
/-- The different values, in their order. -/
def wordsL (xs : List V) : List V := dd (sortV xs)
theorem words_ok {xs : List V} (hx : ∀ x ∈ xs, Vok x) : ∀ w ∈ wordsL xs, Vok w := fun w hw => hx w (sortV_mem.1 (dd_mem w hw))
theorem words_sorted (xs : List V) : (wordsL xs).Pairwise fun a b => leV a b = true := (sortV_sorted xs).sublist (dd_sub _)
theorem words_len (xs : List V) : (wordsL xs).length ≤ xs.length := by
  have := dd_len (sortV xs)
  rw [sortV_len] at this
  exact this
def placesA (ws : List V) (xs : List V) : List AV := xs.flatMap fun v => numA (lbV ws v)
def dictA (xs : List V) : List AV := numA (wordsL xs).length ++ valsA (wordsL xs) ++ numA xs.length ++ placesA (wordsL xs) xs
theorem bytes_places (ws xs : List V) : ∀ x ∈ placesA ws xs, ∃ k, x = .int .u8 k := by
  intro x hx
  unfold placesA at hx
  obtain ⟨v, _, h⟩ := List.mem_flatMap.1 hx
  exact bytes_numA _ x h
theorem places_len (ws : List V) (hw : ws.length ≤ 1000) : ∀ (xs : List V), (placesA ws xs).length ≤ 9 * xs.length
  | [] => by simp [placesA]
  | v :: xs => by
    have h1 := places_len ws hw xs
    have h2 := numA_len (lbV ws v) (by have := lbV_le ws v; omega)
    simp only [placesA, List.flatMap_cons, List.length_append, List.length_cons] at *
    omega
theorem places_drop {ws xs : List V} {j : Nat} (hj : j < xs.length) : placesA ws (xs.drop j) = numA (lbV ws xs[j]) ++ placesA ws (xs.drop (j + 1)) := by
  unfold placesA
  rw [List.drop_eq_getElem_cons hj, List.flatMap_cons]
theorem dict_can (xs : List V) : Pure Tryz.prog 120 [.agg [], .sl .ro 5 (xs.map inj)] (.bool true) := by
  refine Pure.of ⟨Tryz.f120, Tryz.func120, rfl, by kernel_rfl⟩ rfl (fun h => ?_)
  refine acalls_of te_ok [] Tryz.func120 (c := _) rfl (Nat.le_of_ble_eq_true rfl) ?_
  simp only [aws, eq_self, reduceIte, Nat.reduceLT, ares1, Tryz.ntmps120, Tryz.results120]
  exact ⟨by (repeat (first | exact AH.Ext.refl _ | assumption | refine AH.Ext.set ?_ (by first | omega | (simp only [new_nb, set_nb, kill_nb, newTok_nb, setTok_nb]; omega)) _ | refine AH.Ext.new ?_ _)), _, rfl, rfl⟩
theorem sort_none : Pure Tryz.prog 123 [.sl .ro 5 [], .fn (.func 113) [] []] (.tup []) := erun_pure ec5_ok (d := 60) rfl (by kernel_rfl)
theorem compact_none : Pure Tryz.prog 124 [.sl .ro 5 [], .fn (.func 110) [] []] (.sl .ro 5 []) := by
  refine Pure.of ⟨Tryz.f124, Tryz.func124, rfl, by kernel_rfl⟩ rfl (fun h => ?_)
  refine acalls_of te_ok [] Tryz.func124 (c := _) rfl (Nat.le_of_ble_eq_true rfl) ?_
  simp only [aws, eq_self, reduceIte, reduceCtorEq, Nat.reduceLT, Int.reduceLT, acmpnil, ares1, teset, Tryz.ntmps124, Tryz.results124, Int.natCast_zero]
  exact ⟨.refl _, _, rfl, rfl⟩
set_option maxHeartbeats 4000000 in
theorem dict_write (xs : List V) (hx : ∀ x ∈ xs, Vok x) (hl : xs.length ≤ 1000) : Pure Tryz.prog 122 [.agg [], .sl .full 0 [], .sl .ro 5 (xs.map inj)] (.sl .ro 1 (dictA xs)) := by
  have hby : ∀ x ∈ dictA xs, ∃ k, x = .int .u8 k := by
    intro x hx
    unfold dictA at hx
    rcases List.mem_append.1 hx with h | h
    · rcases List.mem_append.1 h with h | h
      · exact (List.mem_append.1 h).elim (bytes_numA _ x) (bytes_valsA _ x)
      · exact bytes_numA _ x h
    · exact bytes_places _ _ x h
  have hwok := words_ok hx
  have hwl := words_len xs
  have hws := words_sorted xs
  have hvl := valsA_len hwok
  have hpl := places_len (wordsL xs) (by omega) xs
  have hn1 := numA_len (wordsL xs).length (by omega)
  have hn2 := numA_len xs.length (by omega)
  have hlen0 : (numA (wordsL xs).length ++ valsA (wordsL xs)).length < 1000000000 := by rw [List.length_append]; omega
  refine Pure.of ⟨Tryz.f122, Tryz.func122, rfl, by kernel_rfl⟩ (by simp only [AV.under]; rw [under_of hby]) (fun h => ?_)
  refine acalls_of te_ok [] Tryz.func122 (c := _) rfl (Nat.le_of_ble_eq_true rfl) ?_
  simp only [aws, eq_self, reduceIte, Nat.reduceLT, Nat.reduceEqDiff, Tryz.ntmps122, Tryz.results122]
  refine ACallV.mono ?_ (ACallV.of ⟨Tryz.f53, Tryz.func53, rfl, by kernel_rfl⟩ (clonevals_calls xs (by omega) _))
  rintro out h' (⟨e, rfl, rfl⟩ | ⟨hne, rfl, rfl⟩)
  · have hw0 : wordsL xs = [] := by rw [e]; simp [wordsL, sortV, dd]
    simp only [aws, eq_self, reduceIte, Nat.reduceLT, Nat.reduceEqDiff]
    refine ACallV.pure sort_none ?_
    simp only [aws, eq_self, reduceIte, Nat.reduceLT, Nat.reduceEqDiff]
    have hcn : Pure Tryz.prog 124 [.sl .ro 5 [], .fn (.func 110) [] []] (.sl .ro 5 ((wordsL xs).map inj)) := by rw [hw0]; exact compact_none
    refine ACallV.pure hcn ?_
    simp only [aws, eq_self, reduceIte, Nat.reduceLT, Nat.reduceEqDiff]
    refine ACallV.mono ?_ (ACallV.of ⟨Tryz.f93, Tryz.func93, rfl, by kernel_rfl⟩ (addvalues_nil (wordsL xs) hwok (by omega) _))
    rintro out h' ⟨G, rfl, ht, hE2⟩
    have hE : h.Ext h' := ((AH.Ext.refl h).new _).trans hE2
    simp only [aws, eq_self, reduceIte, Nat.reduceLT, Nat.reduceEqDiff, teset, List.length_map]
    have ht0 : h'.tok h.nt = some G := ht
    refine ACallV.mono ?_ (ACallV.of ⟨Tryz.f32, Tryz.func32, rfl, by kernel_rfl⟩ (addnum_tok _ xs.length h.nt G (by omega) hlen0 _ ht0))
    rintro out h'' ⟨rfl, rfl⟩
    simp only [aws, eq_self, reduceIte, Nat.reduceLT, Nat.reduceEqDiff, teset, List.length_map]
    refine ⟨fun n s' h2 => ∃ (j G2 : Nat) (ys : List AV), s' 1 = .sl (.tok h.nt G2) 1 ys ∧ s' 7 = .sl .ro 5 ((wordsL xs).map inj) ∧ s' 24 = .sl .ro 5 (xs.map inj) ∧ s' 25 = .int .i64 xs.length ∧ s' 26 = .int .i64 j ∧ n + j = xs.length ∧ h.Ext h2 ∧ h2.tok h.nt = some G2 ∧ ys ++ placesA (wordsL xs) (xs.drop j) = dictA xs, ⟨xs.length, 0, G + (numA xs.length).length, numA (wordsL xs).length ++ valsA (wordsL xs) ++ numA xs.length, ?_⟩, ?_⟩
    · simp only [aws, eq_self, reduceIte, Nat.reduceEqDiff, Int.natCast_zero]
      first | exact ⟨hE.setTok (Nat.le_refl _) _, rfl⟩ | exact ⟨rfl, hE.setTok (Nat.le_refl _) _, rfl⟩
    · rintro n s' h2 ⟨j, G2, ys, e1, e7, e24, e25, e26, hn, hE3, ht3, hv⟩
      simp only [aws, eq_self, reduceIte, Nat.reduceLT, acmpnil, e25, e26]
      cases hc : decide ((j : Int) < (xs.length : Int)) with
      | false =>
        simp only [aws, eq_self, reduceIte, Nat.reduceLT, Nat.reduceEqDiff, ares1, e1]
        simp only [decide_eq_false_iff_not] at hc
        rw [List.drop_eq_nil_of_le (by omega)] at hv
        simp only [placesA, List.flatMap_nil, List.append_nil] at hv
        exact ⟨hE3, _, rfl, by rw [hv]; show AV.sl Tag.ro 1 (AV.eraseL (dictA xs)) = _; rw [erase_of hby]⟩
      | true =>
        simp only [decide_eq_true_eq] at hc
        have hj : j < xs.length := by omega
        have hget : (xs.map inj)[((j : Nat) : Int).toNat]? = some (inj xs[j]) := by simp [hj]
        rw [places_drop hj] at hv
        have hlen : ys.length < 1000000000 := by
          have := congrArg List.length hv
          simp only [dictA, List.length_append] at this
          omega
        simp only [aws, eq_self, reduceIte, Nat.reduceAdd, Nat.reduceLT, Nat.reduceLeDiff, Nat.reduceEqDiff, storeB, teset, e7, e24, e26, inj_take, inj_agg, inj_len, inj_one, hget, Int.natCast_nonneg]
        refine ACallV.pure (searchV_pure (wordsL xs) xs[j] hws hwok (hx _ (List.getElem_mem hj)) (by omega)) ?_
        simp only [aws, eq_self, reduceIte, Nat.reduceLT, Nat.reduceEqDiff, e1]
        have hk : ((h2.new [AV.int IntKind.i64 0, AV.int IntKind.i64 0, AV.str { data := #[] }, AV.sl Tag.full 0 [], AV.sl Tag.full 0 []]).set h2.nb (inj xs[j]).cells).tok h.nt = some G2 := ht3
        have hlb := lbV_le (wordsL xs) xs[j]
        refine ACallV.mono ?_ (ACallV.of ⟨Tryz.f32, Tryz.func32, rfl, by kernel_rfl⟩ (addnum_tok ys (lbV (wordsL xs) xs[j]) h.nt G2 (by omega) hlen _ hk))
        rintro out h3 ⟨rfl, rfl⟩
        simp only [aws, eq_self, reduceIte, Nat.reduceLT, Nat.reduceEqDiff, acmpnil, e1, e7, e24, e25, e26]
        refine ⟨n - 1, by omega, j + 1, _, ys ++ numA (lbV (wordsL xs) xs[j]), rfl, by rw [wrap_succ (by omega)], by omega, ((hE3.new _).set hE3.nb _).setTok (Nat.le_refl _) _, rfl, by rw [List.append_assoc]; exact hv⟩
  · have hsne : sortV xs ≠ [] := fun e => hne (List.eq_nil_of_length_eq_zero (by rw [← sortV_len, e]; rfl))
    simp only [aws, eq_self, reduceIte, Nat.reduceLT, Nat.reduceEqDiff]
    refine ACallV.mono ?_ (ACallV.of ⟨Tryz.f123, Tryz.func123, rfl, by kernel_rfl⟩ (sort_calls hx hne (by omega) (b := (h.new []).nb) (by rw [new_box, if_pos rfl])))
    rintro out h' ⟨rfl, rfl⟩
    simp only [aws, eq_self, reduceIte, Nat.reduceLT, Nat.reduceEqDiff]
    have hcp := compact_calls (xs := sortV xs) (fun x hx2 => hx x (sortV_mem.1 hx2)) hsne (by rw [sortV_len]; omega) (b := (h.new []).nb) (h := ((h.new []).new ((xs.map inj).flatMap AV.cells)).set (h.new []).nb (((sortV xs).map inj).flatMap AV.cells)) (by rw [set_box, if_pos rfl]; rfl)
    rw [sortV_len] at hcp
    refine ACallV.mono ?_ (ACallV.of ⟨Tryz.f124, Tryz.func124, rfl, by kernel_rfl⟩ hcp)
    rintro out h' ⟨rfl, rfl⟩
    simp only [aws, eq_self, reduceIte, Nat.reduceLT, Nat.reduceEqDiff]
    refine ACallV.mono ?_ (ACallV.of ⟨Tryz.f93, Tryz.func93, rfl, by kernel_rfl⟩ (addvalues_nil (wordsL xs) hwok (by omega) _))
    rintro out h' ⟨G, rfl, ht, hE2⟩
    have hE : h.Ext h' := (((((AH.Ext.refl h).new _).new _).set (Nat.le_succ _) _).kill (Nat.le_succ _)).trans hE2
    simp only [aws, eq_self, reduceIte, Nat.reduceLT, Nat.reduceEqDiff, teset, List.length_map]
    have ht0 : h'.tok h.nt = some G := ht
    refine ACallV.mono ?_ (ACallV.of ⟨Tryz.f32, Tryz.func32, rfl, by kernel_rfl⟩ (addnum_tok _ xs.length h.nt G (by omega) hlen0 _ ht0))
    rintro out h'' ⟨rfl, rfl⟩
    simp only [aws, eq_self, reduceIte, Nat.reduceLT, Nat.reduceEqDiff, teset, List.length_map]
    refine ⟨fun n s' h2 => ∃ (j G2 : Nat) (ys : List AV), s' 1 = .sl (.tok h.nt G2) 1 ys ∧ s' 7 = .sl .ro 5 ((wordsL xs).map inj) ∧ s' 24 = .sl .ro 5 (xs.map inj) ∧ s' 25 = .int .i64 xs.length ∧ s' 26 = .int .i64 j ∧ n + j = xs.length ∧ h.Ext h2 ∧ h2.tok h.nt = some G2 ∧ ys ++ placesA (wordsL xs) (xs.drop j) = dictA xs, ⟨xs.length, 0, G + (numA xs.length).length, numA (wordsL xs).length ++ valsA (wordsL xs) ++ numA xs.length, ?_⟩, ?_⟩
    · simp only [aws, eq_self, reduceIte, Nat.reduceEqDiff, Int.natCast_zero]
      first | exact ⟨hE.setTok (Nat.le_refl _) _, rfl⟩ | exact ⟨rfl, hE.setTok (Nat.le_refl _) _, rfl⟩
    · rintro n s' h2 ⟨j, G2, ys, e1, e7, e24, e25, e26, hn, hE3, ht3, hv⟩
      simp only [aws, eq_self, reduceIte, Nat.reduceLT, acmpnil, e25, e26]
      cases hc : decide ((j : Int) < (xs.length : Int)) with
      | false =>
        simp only [aws, eq_self, reduceIte, Nat.reduceLT, Nat.reduceEqDiff, ares1, e1]
        simp only [decide_eq_false_iff_not] at hc
        rw [List.drop_eq_nil_of_le (by omega)] at hv
        simp only [placesA, List.flatMap_nil, List.append_nil] at hv
        exact ⟨hE3, _, rfl, by rw [hv]; show AV.sl Tag.ro 1 (AV.eraseL (dictA xs)) = _; rw [erase_of hby]⟩
      | true =>
        simp only [decide_eq_true_eq] at hc
        have hj : j < xs.length := by omega
        have hget : (xs.map inj)[((j : Nat) : Int).toNat]? = some (inj xs[j]) := by simp [hj]
        rw [places_drop hj] at hv
        have hlen : ys.length < 1000000000 := by
          have := congrArg List.length hv
          simp only [dictA, List.length_append] at this
          omega
        simp only [aws, eq_self, reduceIte, Nat.reduceAdd, Nat.reduceLT, Nat.reduceLeDiff, Nat.reduceEqDiff, storeB, teset, e7, e24, e26, inj_take, inj_agg, inj_len, inj_one, hget, Int.natCast_nonneg]
        refine ACallV.pure (searchV_pure (wordsL xs) xs[j] hws hwok (hx _ (List.getElem_mem hj)) (by omega)) ?_
        simp only [aws, eq_self, reduceIte, Nat.reduceLT, Nat.reduceEqDiff, e1]
        have hk : ((h2.new [AV.int IntKind.i64 0, AV.int IntKind.i64 0, AV.str { data := #[] }, AV.sl Tag.full 0 [], AV.sl Tag.full 0 []]).set h2.nb (inj xs[j]).cells).tok h.nt = some G2 := ht3
        have hlb := lbV_le (wordsL xs) xs[j]
        refine ACallV.mono ?_ (ACallV.of ⟨Tryz.f32, Tryz.func32, rfl, by kernel_rfl⟩ (addnum_tok ys (lbV (wordsL xs) xs[j]) h.nt G2 (by omega) hlen _ hk))
        rintro out h3 ⟨rfl, rfl⟩
        simp only [aws, eq_self, reduceIte, Nat.reduceLT, Nat.reduceEqDiff, acmpnil, e1, e7, e24, e25, e26]
        refine ⟨n - 1, by omega, j + 1, _, ys ++ numA (lbV (wordsL xs) xs[j]), rfl, by rw [wrap_succ (by omega)], by omega, ((hE3.new _).set hE3.nb _).setTok (Nat.le_refl _) _, rfl, by rw [List.append_assoc]; exact hv⟩
end Go.Proofs.YtlbhgoffiigfbaaGreat.AW
end
section
set_option linter.unusedSimpArgs false
set_option linter.unusedVariables false
namespace Go.Proofs.YtlbhgoffiigfbaaGreat.AW
open Go Go.RowKit

def BY (l : List AV) : Prop := ∀ x ∈ l, ∃ k : Nat, k < 256 ∧ x = .int .u8 (k : Int)
theorem BY.app {a b : List AV} (ha : BY a) (hb : BY b) : BY (a ++ b) := fun x hx => (List.mem_append.1 hx).elim (ha x) (hb x)
theorem BY.flat {α : Type} {f : α → List AV} (hf : ∀ x, BY (f x)) (l : List α) : BY (l.flatMap f) := by
  intro x hx
  obtain ⟨y, _, h⟩ := List.mem_flatMap.1 hx
  exact hf y x h
theorem BY.nil : BY [] := fun x hx => by cases hx
theorem wrap_byte (z : Int) : ∃ k : Nat, k < 256 ∧ AV.int .u8 (IntKind.u8.wrap z) = .int .u8 (k : Int) := by
  have h : 0 ≤ IntKind.u8.wrap z ∧ IntKind.u8.wrap z < 256 := by
    simp only [IntKind.wrap, IntKind.bits, IntKind.signed, Bool.false_and, Bool.false_eq_true, if_false]
    omega
  exact ⟨(IntKind.u8.wrap z).toNat, by omega, by rw [Int.toNat_of_nonneg h.1]⟩
theorem BY.num (n : Nat) : BY (numA n) := by
  intro x hx
  unfold numA at hx
  obtain ⟨k, hk, rfl⟩ := List.mem_map.1 hx
  exact ⟨k, numL_lt n k hk, rfl⟩
theorem BY.str (s : ByteArray) : BY (strA s) := by
  unfold strA
  refine BY.app (BY.num _) (fun x hx => ?_)
  obtain ⟨b, _, rfl⟩ := List.mem_map.1 hx
  exact ⟨b.toNat, b.toNat_lt, rfl⟩
theorem BY.one (z : Int) : BY [.int .u8 (IntKind.u8.wrap z)] := by
  intro x hx
  rw [List.mem_singleton] at hx
  subst hx
  exact wrap_byte z
mutual
theorem BY.val : ∀ (v : V), BY (valA v)
  | .mk k i t xs ks => by
    rw [valA, ← List.singleton_append]
    refine BY.app (BY.one k) ?_
    split
    · exact BY.one i
    · split
      · exact BY.num _
      · split
        · exact BY.str _
        · split
          · exact BY.app (BY.num _) (BY.valL _ xs ks)
          · exact BY.nil
theorem BY.valL : ∀ (obj : Bool) (xs : List V) (ks : List ByteArray), BY (AW.valL obj xs ks)
  | true, [], _ => by simp only [AW.valL]; exact BY.nil
  | false, [], _ => by simp only [AW.valL]; exact BY.nil
  | true, v :: xs, k :: ks => by rw [AW.valL]; exact BY.app (BY.str _) (BY.app (BY.val v) (BY.valL true xs ks))
  | true, _ :: _, [] => by simp only [AW.valL]; exact BY.nil
  | false, v :: xs, ks => by rw [AW.valL]; exact BY.app (BY.val v) (BY.valL false xs ks)
end
theorem BY.vals (xs : List V) : BY (valsA xs) := BY.flat BY.val xs
theorem BY.plain (xs : List V) : BY (plainA xs) := BY.app (BY.num _) (BY.vals _)
theorem BY.runs (xs : List V) : BY (runsA xs) := BY.app (BY.num _) (BY.flat (fun p => BY.app (BY.num _) (BY.val _)) _)
theorem BY.dict (xs : List V) : BY (dictA xs) := BY.app (BY.app (BY.app (BY.num _) (BY.vals _)) (BY.num _)) (BY.flat (fun v => BY.num _) _)
theorem BY.deltaL : ∀ (xs : List V) (p : Int), BY (deltaL p xs)
  | [], _ => by simp only [AW.deltaL]; exact BY.nil
  | v :: xs, p => by rw [AW.deltaL]; exact BY.app (BY.num _) (BY.deltaL xs _)
theorem BY.delta (xs : List V) : BY (deltaA xs) := BY.app (BY.num _) (BY.deltaL _ _)
def asB (l : List AV) : List UInt8 := (avB l).getD []
theorem BY.avB : ∀ {l : List AV}, BY l → AW.avB l = some (asB l)
  | [], _ => rfl
  | x :: l, h => by
    obtain ⟨k, hk, rfl⟩ := h x List.mem_cons_self
    have ih := BY.avB (l := l) (fun z hz => h z (List.mem_cons_of_mem _ hz))
    have hb : 0 ≤ (k : Int) ∧ (k : Int) < 256 := by omega
    unfold asB
    simp only [AW.avB, if_pos hb, ih, Option.getD_some]
theorem BY.cells : ∀ {l : List AV}, BY l → l.flatMap AV.cells = l
  | [], _ => rfl
  | x :: l, h => by
    obtain ⟨k, hk, rfl⟩ := h x List.mem_cons_self
    rw [List.flatMap_cons, BY.cells (l := l) (fun z hz => h z (List.mem_cons_of_mem _ hz))]
    rfl
theorem BY.len {l : List AV} (h : BY l) : (asB l).length = l.length := (avB_spec h.avB).1.symm
/-- The bytes in an encoding. -/
def encA (e : Nat) (xs : List V) : List AV := if e = 1 then plainA xs else if e = 2 then runsA xs else if e = 3 then dictA xs else deltaA xs
theorem BY.enc (e : Nat) (xs : List V) : BY (encA e xs) := by
  unfold encA
  split
  · exact BY.plain xs
  · split
    · exact BY.runs xs
    · split
      · exact BY.dict xs
      · exact BY.delta xs
def encS (e : Nat) (xs : List V) : ByteArray := ⟨⟨asB (encA e xs)⟩⟩
def canL (e : Nat) (xs : List V) : Bool := if e = 4 then intsL xs else true
end Go.Proofs.YtlbhgoffiigfbaaGreat.AW
end
section
set_option linter.unusedSimpArgs false
set_option linter.unusedVariables false
namespace Go.Proofs.YtlbhgoffiigfbaaGreat.AW
open Go Go.RowKit

def sB (l : List AV) : ByteArray := ⟨⟨asB l⟩⟩
theorem asB_cons (k : Nat) (hk : k < 256) {a : List AV} (ha : BY a) : asB (AV.int .u8 k :: a) = UInt8.ofNat k :: asB a := by
  have h2 := ha.avB
  have hb : 0 ≤ (k : Int) ∧ (k : Int) < 256 := by omega
  have : avB (AV.int .u8 k :: a) = some (UInt8.ofNat k :: asB a) := by
    simp only [avB, if_pos hb, h2, Int.toNat_natCast]
  show (avB (AV.int .u8 k :: a)).getD [] = _
  rw [this]; rfl
theorem asB_app : ∀ {a b : List AV}, BY a → BY b → asB (a ++ b) = asB a ++ asB b
  | [], b, _, _ => rfl
  | x :: a, b, ha, hb0 => by
    obtain ⟨k, hk, rfl⟩ := ha x List.mem_cons_self
    have ha' : BY a := fun z hz => ha z (List.mem_cons_of_mem _ hz)
    have ih := asB_app ha' hb0
    have e1 := asB_cons k hk ha'
    have e2 := asB_cons k hk (BY.app ha' hb0)
    rw [List.cons_append, e1, e2, ih]
    rfl
theorem ba_app (a b : List UInt8) : (⟨⟨a⟩⟩ : ByteArray) ++ ⟨⟨b⟩⟩ = ⟨⟨a ++ b⟩⟩ := by
  apply ByteArray.ext
  rw [ByteArray.data_append]
  simp
theorem sB_app {a b : List AV} (ha : BY a) (hb : BY b) : sB a ++ sB b = sB (a ++ b) := by
  unfold sB
  rw [ba_app, asB_app ha hb]
theorem sB_size {a : List AV} (ha : BY a) : (sB a).size = a.length := ha.len
theorem sB_num (n : Nat) : numS n = sB (numA n) := by
  unfold numS sB asB
  rw [numA_str]; rfl
theorem sB_raw (l : List UInt8) : sB (l.map fun (b : UInt8) => AV.int .u8 (b.toNat : Int)) = ⟨⟨l⟩⟩ := by
  unfold sB
  congr 2
  induction l with
  | nil => rfl
  | cons b l ih =>
    have hb : 0 ≤ ((b.toNat : Nat) : Int) ∧ ((b.toNat : Nat) : Int) < 256 := by have := b.toNat_lt; omega
    have hB : BY (l.map fun (b : UInt8) => AV.int .u8 (b.toNat : Int)) := by
      intro x hx
      obtain ⟨c, _, rfl⟩ := List.mem_map.1 hx
      exact ⟨c.toNat, c.toNat_lt, rfl⟩
    rw [List.map_cons, asB_cons _ b.toNat_lt hB]
    show _ :: asB _ = _
    rw [show asB (List.map (fun b => AV.int .u8 ↑b.toNat) l) = l from by simpa using ih]
    simp
theorem sB_str (s : ByteArray) : numS s.size ++ s = sB (strA s) := by
  have h1 : BY (s.data.toList.map fun (b : UInt8) => AV.int .u8 (b.toNat : Int)) := by
    intro x hx
    obtain ⟨c, _, rfl⟩ := List.mem_map.1 hx
    exact ⟨c.toNat, c.toNat_lt, rfl⟩
  unfold strA
  rw [← sB_app (BY.num _) h1, sB_raw, sB_num]
theorem injs_und (xs : List V) : AV.underL 0 0 (xs.map inj) = true := by
  induction xs with
  | nil => rfl
  | cons k ks ih => simp [AV.underL, inj_under, ih]
def Own5 (h : AH) (t0 : Nat) (a : AV) (l : List V) : Prop := (a = .sl .full 0 [] ∧ l = []) ∨ ∃ t G, a = .sl (.tok t G) 5 (l.map inj) ∧ h.tok t = some G ∧ t0 ≤ t
theorem Own5.wk {h : AH} {t0 : Nat} {a : AV} {l : List V} (ho : Own5 h t0 a l) : Wk a (.sl .ro 5 (l.map inj)) := by
  rcases ho with ⟨rfl, rfl⟩ | ⟨t, G, rfl, _, _⟩
  · exact wk_nil5
  · exact .ro
theorem ord_anti {a b : V} (ha : Vok a) (hb : Vok b) : ord b a = - ord a b := by rw [ord_eq _ _ hb ha, ord_eq _ _ ha hb, ordN_anti]
theorem ord_self {a : V} (ha : Vok a) : ord a a = 0 := by rw [ord_eq _ _ ha ha, ordN_self]
theorem ord_eq0 {a b : V} (ha : Vok a) (hb : Vok b) (h : ord a b = 0) : a = b := ordN_zero _ _ ha hb (by rw [← ord_eq _ _ ha hb]; exact h)
theorem ddG_all : ∀ (r : List V) (p : V), (∀ y ∈ p :: r, Vok y) → ∀ y ∈ r, y = p ∨ y ∈ ddG p r
  | [], _, _ => by intro y hy; cases hy
  | a :: r, p, hok => by
    intro y hy
    have ha := hok a (List.mem_cons_of_mem _ List.mem_cons_self)
    have hp := hok p List.mem_cons_self
    have ih := ddG_all r a (fun z hz => hok z (List.mem_cons_of_mem _ hz))
    rw [ddG]
    split
    · next h0 =>
      have hap := ord_eq0 ha hp h0
      rcases List.mem_cons.1 hy with rfl | hy
      · exact .inl hap
      · rcases ih y hy with rfl | h
        · exact .inl hap
        · exact .inr h
    · rcases List.mem_cons.1 hy with rfl | hy
      · exact .inr List.mem_cons_self
      · rcases ih y hy with rfl | h
        · exact .inr List.mem_cons_self
        · exact .inr (List.mem_cons_of_mem _ h)
theorem words_all {xs : List V} (hx : ∀ x ∈ xs, Vok x) : ∀ x ∈ xs, x ∈ wordsL xs := by
  intro x hxx
  have h1 : x ∈ sortV xs := sortV_mem.2 hxx
  have hok : ∀ y ∈ sortV xs, Vok y := fun y hy => hx y (sortV_mem.1 hy)
  unfold wordsL
  cases hs : sortV xs with
  | nil => rw [hs] at h1; cases h1
  | cons p r =>
    rw [hs] at h1 hok
    show x ∈ p :: ddG p r
    rcases List.mem_cons.1 h1 with rfl | h1
    · exact List.mem_cons_self
    · rcases ddG_all r p hok x h1 with rfl | h
      · exact List.mem_cons_self
      · exact List.mem_cons_of_mem _ h
/-- The first that is equal is where a search ends. -/
theorem lb_first {ws : List V} {v : V} {k : Nat} (hs : ws.Pairwise fun a b => leV a b = true) (hw : ∀ w ∈ ws, Vok w) (hv : Vok v) (hk : k < ws.length) (h0 : ord ws[k] v = 0) (hb : ∀ (k' : Nat) w, k' < k → ws[k']? = some w → ord w v ≠ 0) : lbV ws v = k := by
  have e : ws[k] = v := ord_eq0 (hw _ (List.getElem_mem hk)) hv h0
  have h1 : lbV ws v ≤ k := lbV_ge hk (by unfold ltV; rw [h0]; decide)
  by_cases hz : k = 0
  · omega
  · have hm : k - 1 < ws.length := by omega
    have hne := hb (k - 1) ws[k - 1] (by omega) (List.getElem?_eq_getElem hm)
    have hle : leV ws[k - 1] ws[k] = true := List.pairwise_iff_getElem.1 hs (k - 1) k hm hk (by omega)
    have hlt : ltV v ws[k - 1] = true := by
      unfold ltV
      rw [e] at hle
      unfold leV at hle
      rw [← ord_eq _ _ (hw _ (List.getElem_mem hm)) hv] at hle
      have := of_decide_eq_true hle
      exact decide_eq_true (by omega)
    have := lbV_lt hs hw hv hm hlt
    omega
end Go.Proofs.YtlbhgoffiigfbaaGreat.AW
end
section
set_option linter.unusedSimpArgs false
set_option linter.unusedVariables false
namespace Go.Proofs.YtlbhgoffiigfbaaGreat.AW
open Go Go.RowKit

/-- A number's bytes, read: so many more at most, the place of the next, what there is so far. -/
def rNumF : Nat → Nat → Nat → List UInt8 → Option (Nat × List UInt8)
  | 0, _, _, _ => none
  | _ + 1, _, _, [] => none
  | k + 1, i, n, b :: l => if b.toNat < 128 then some (n + b.toNat % 128 * 128 ^ i, l) else rNumF k (i + 1) (n + b.toNat % 128 * 128 ^ i) l
def rNum (l : List UInt8) : Option (Nat × List UInt8) := rNumF 8 0 0 l
def numBy (n : Nat) : List UInt8 := (numL n).map UInt8.ofNat
theorem asB_num (n : Nat) : asB (numA n) = numBy n := by unfold asB; rw [numA_str]; rfl
theorem rNumF_num : ∀ (k i n m : Nat) (r : List UInt8), 0 < k → m < 128 ^ k → rNumF k i n (numBy m ++ r) = some (n + m * 128 ^ i, r) := by
  intro k
  induction k with
  | zero => intro i n m r h; omega
  | succ k ih =>
    intro i n m r _ hm
    by_cases hb : 127 < m
    · have hk : 0 < k := by
        rcases Nat.eq_zero_or_pos k with rfl | h
        · simp at hm; omega
        · exact h
      have hsm : 128 + m % 128 < 256 := by omega
      have e : numBy m = UInt8.ofNat (128 + m % 128) :: numBy (m / 128) := by unfold numBy; rw [numL_big hb]; rfl
      have ht : (UInt8.ofNat (128 + m % 128)).toNat = 128 + m % 128 := by rw [UInt8.toNat_ofNat']; omega
      rw [e, List.cons_append, rNumF, ht, if_neg (by omega), ih (i + 1) _ (m / 128) r hk (by rw [Nat.pow_succ] at hm; exact Nat.div_lt_of_lt_mul (by omega))]
      congr 2
      have h1 : (128 + m % 128) % 128 = m % 128 := by omega
      have h2 : m / 128 * 128 ^ (i + 1) = m / 128 * 128 * 128 ^ i := by rw [Nat.pow_succ, Nat.mul_assoc, Nat.mul_comm 128]
      rw [h1, h2, Nat.add_assoc, ← Nat.add_mul]
      congr 2
      omega
    · have e : numBy m = [UInt8.ofNat m] := by unfold numBy; rw [numL_small hb]; rfl
      have ht : (UInt8.ofNat m).toNat = m := by rw [UInt8.toNat_ofNat']; omega
      rw [e, List.singleton_append, rNumF, ht, if_pos (by omega), Nat.mod_eq_of_lt (show m < 128 by omega)]
theorem rNum_num {m : Nat} (hm : m < 72057594037927936) (r : List UInt8) : rNum (numBy m ++ r) = some (m, r) := by
  unfold rNum
  rw [rNumF_num 8 0 0 m r (by decide) (by simpa using hm)]
  simp
theorem rNumF_len : ∀ (k i n : Nat) (l : List UInt8) {m : Nat} {r : List UInt8}, rNumF k i n l = some (m, r) → r.length < l.length ∧ ∃ p, l = p ++ r
  | 0, _, _, _, _, _, h => by simp [rNumF] at h
  | _ + 1, _, _, [], _, _, h => by simp [rNumF] at h
  | k + 1, i, n, b :: l, m, r, h => by
    rw [rNumF] at h
    split at h
    · injection h with h; injection h with h1 h2; subst h2
      exact ⟨by simp, [b], rfl⟩
    · obtain ⟨h1, p, h2⟩ := rNumF_len k (i + 1) _ l h
      exact ⟨by simp only [List.length_cons]; omega, b :: p, by rw [h2]; rfl⟩
theorem rNumF_lt : ∀ (k i n : Nat) (l : List UInt8) {m : Nat} {r : List UInt8}, n < 128 ^ i → rNumF k i n l = some (m, r) → m < 128 ^ (i + k)
  | 0, _, _, _, _, _, _, h => by simp [rNumF] at h
  | _ + 1, _, _, [], _, _, _, h => by simp [rNumF] at h
  | k + 1, i, n, b :: l, m, r, hn, h => by
    have hstep : n + b.toNat % 128 * 128 ^ i < 128 ^ (i + 1) := by
      have h1 : b.toNat % 128 ≤ 127 := by omega
      have h2 : b.toNat % 128 * 128 ^ i ≤ 127 * 128 ^ i := Nat.mul_le_mul_right _ h1
      rw [Nat.pow_succ]; omega
    rw [rNumF] at h
    split at h
    · injection h with h; injection h with h1 h2; subst h1
      exact Nat.lt_of_lt_of_le hstep (Nat.pow_le_pow_right (by decide) (by omega))
    · have := rNumF_lt k (i + 1) _ l hstep h
      rwa [show i + 1 + k = i + (k + 1) by omega] at this
theorem rNum_len {l : List UInt8} {m : Nat} {r : List UInt8} (h : rNum l = some (m, r)) : r.length < l.length ∧ m < 72057594037927936 := by
  refine ⟨(rNumF_len _ _ _ _ h).1, ?_⟩
  have := rNumF_lt 8 0 0 l (by decide) h
  simpa using this
def rByte : List UInt8 → Option (Nat × List UInt8)
  | [] => none
  | b :: l => some (b.toNat, l)
/-- How many there are of what has at least a byte each. -/
def rCount (l : List UInt8) : Option (Nat × List UInt8) := match rNum l with
  | some (n, r) => if n ≤ r.length then some (n, r) else none
  | none => none
def unzig (n : Nat) : Int := if n % 2 = 1 then -(((n + 1) / 2 : Nat) : Int) else ((n / 2 : Nat) : Int)
theorem unzig_zig (i : Int) : unzig (zig i) = i := by
  unfold unzig zig
  split <;> split <;> omega
def rInt (l : List UInt8) : Option (Int × List UInt8) := match rNum l with
  | some (n, r) => some (unzig n, r)
  | none => none
def rText (l : List UInt8) : Option (ByteArray × List UInt8) := match rNum l with
  | some (n, r) => if n ≤ r.length then some (⟨⟨r.take n⟩⟩, r.drop n) else none
  | none => none
/-- So many items, with or without keys. -/
def rItems (f : List UInt8 → Option (V × List UInt8)) (obj : Bool) : Nat → List UInt8 → Option (List V × List ByteArray × List UInt8)
  | 0, l => some ([], [], l)
  | n + 1, l => match (if obj = true then rText l else some (⟨#[]⟩, l)) with
    | some (k, l1) => (match f l1 with
      | some (x, l2) => (match rItems f obj n l2 with
        | some (xs, ks, l3) => some (x :: xs, if obj = true then k :: ks else [], l3)
        | none => none)
      | none => none)
    | none => none
def rVal : Nat → List UInt8 → Option (V × List UInt8)
  | 0, _ => none
  | L + 1, l => match rByte l with
    | some (k, l1) =>
      if k = 0 then some (.mk 0 0 ⟨#[]⟩ [] [], l1)
      else if k = 1 then (match rByte l1 with | some (i, l2) => some (.mk 1 (i : Int) ⟨#[]⟩ [] [], l2) | none => none)
      else if k = 2 then (match rInt l1 with | some (i, l2) => some (.mk 2 i ⟨#[]⟩ [] [], l2) | none => none)
      else if k = 3 then (match rText l1 with | some (t, l2) => some (.mk 3 0 t [] [], l2) | none => none)
      else if k = 4 ∨ k = 5 then (match rCount l1 with
        | some (n, l2) => (match rItems (rVal L) (k == 5) n l2 with
          | some (xs, ks, l3) => some (.mk (k : Int) 0 ⟨#[]⟩ xs ks, l3)
          | none => none)
        | none => none)
      else none
    | none => none
theorem rInt_len {l : List UInt8} {i : Int} {r : List UInt8} (h : rInt l = some (i, r)) : r.length < l.length := by
  unfold rInt at h
  cases hq : rNum l with
  | none => rw [hq] at h; cases h
  | some p =>
    obtain ⟨m, r'⟩ := p
    rw [hq] at h
    injection h with h; injection h with h1 h2; subst h2
    exact (rNum_len hq).1
theorem rText_len {l : List UInt8} {t : ByteArray} {r : List UInt8} (h : rText l = some (t, r)) : r.length < l.length ∧ t.size ≤ l.length := by
  unfold rText at h
  cases hq : rNum l with
  | none => rw [hq] at h; cases h
  | some p =>
    obtain ⟨m, r'⟩ := p
    have := (rNum_len hq).1
    rw [hq] at h
    simp only at h
    split at h
    · injection h with h; injection h with h1 h2; subst h1 h2
      refine ⟨by rw [List.length_drop]; omega, ?_⟩
      show (r'.take m).length ≤ _
      rw [List.length_take]; omega
    · cases h
theorem rCount_le {l : List UInt8} {n : Nat} {r : List UInt8} (h : rCount l = some (n, r)) : n ≤ r.length ∧ r.length < l.length := by
  unfold rCount at h
  cases hq : rNum l with
  | none => rw [hq] at h; cases h
  | some p =>
    obtain ⟨m, r'⟩ := p
    rw [hq] at h
    simp only at h
    split at h
    · injection h with h; injection h with h1 h2; subst h1 h2
      exact ⟨by assumption, (rNum_len hq).1⟩
    · cases h
theorem rItems_len {f : List UInt8 → Option (V × List UInt8)} {obj : Bool} (hf : ∀ l x r, f l = some (x, r) → r.length < l.length) : ∀ {n : Nat} {l : List UInt8} {xs : List V} {ks : List ByteArray} {r : List UInt8}, rItems f obj n l = some (xs, ks, r) → r.length ≤ l.length
  | 0, l, xs, ks, r, h => by injection h with h; injection h with h1 h2; injection h2 with h2 h3; subst h3; exact Nat.le_refl _
  | n + 1, l, xs, ks, r, h => by
    rw [rItems] at h
    split at h
    · next k l1 h1 =>
      have e1 : l1.length ≤ l.length := by
        split at h1
        · have := (rText_len h1).1; omega
        · injection h1 with h1; injection h1 with _ h1; subst h1; exact Nat.le_refl _
      split at h
      · next x l2 h2 =>
        have e2 := hf _ _ _ h2
        split at h
        · next xs' ks' l3 h3 =>
          have e3 := rItems_len hf h3
          injection h with h; injection h with _ h; injection h with _ h; subst h
          omega
        · cases h
      · cases h
    · cases h
theorem rVal_len : ∀ {L : Nat} {l : List UInt8} {v : V} {r : List UInt8}, rVal L l = some (v, r) → r.length < l.length
  | 0, _, _, _, h => by cases h
  | L + 1, l, v, r, h => by
    cases l with
    | nil => cases h
    | cons c l =>
      rw [rVal] at h
      simp only [rByte] at h
      simp only [List.length_cons]
      split at h
      · injection h with h; injection h with _ h; subst h; omega
      split at h
      · cases l with
        | nil => cases h
        | cons d l => injection h with h; injection h with _ h; subst h; simp only [List.length_cons]; omega
      split at h
      · split at h
        · next h1 => injection h with h; injection h with _ h; subst h; have := rInt_len h1; omega
        · cases h
      split at h
      · split at h
        · next h1 => injection h with h; injection h with _ h; subst h; have := (rText_len h1).1; omega
        · cases h
      split at h
      · split at h
        · next h1 =>
          have := rCount_le h1
          split at h
          · next h2 =>
            injection h with h; injection h with _ h; subst h
            have := rItems_len (fun l x r hh => rVal_len hh) h2
            omega
          · cases h
        · cases h
      · cases h
end Go.Proofs.YtlbhgoffiigfbaaGreat.AW
end
section
set_option linter.unusedSimpArgs false
set_option linter.unusedVariables false
namespace Go.Proofs.YtlbhgoffiigfbaaGreat.AW
open Go Go.RowKit

/-- The heap has grown, and one box may hold something else. -/
structure ExtX (h : AH) (b : Nat) (h2 : AH) : Prop where
  lt : b < h.nb
  nb : h.nb ≤ h2.nb
  nt : h.nt ≤ h2.nt
  box : ∀ b', b' < h.nb → b' ≠ b → h2.box b' = h.box b'
  tok : ∀ t, t < h.nt → h2.tok t = h.tok t
theorem ExtX.refl {h : AH} {b : Nat} (hb : b < h.nb) : ExtX h b h := ⟨hb, Nat.le_refl _, Nat.le_refl _, fun _ _ _ => rfl, fun _ _ => rfl⟩
theorem ExtX.new {h h2 : AH} {b : Nat} (e : ExtX h b h2) (cs : List AV) : ExtX h b (h2.new cs) :=
  ⟨e.lt, Nat.le_trans e.nb (Nat.le_succ _), e.nt, fun b' hb hn => (upd_other _ _ _ (by have := e.nb; omega)).trans (e.box b' hb hn), e.tok⟩
theorem ExtX.own {h h2 : AH} {b : Nat} (e : ExtX h b h2) (cs : List AV) : ExtX h b (h2.set b cs) :=
  ⟨e.lt, e.nb, e.nt, fun b' hb hn => (upd_other _ _ _ hn).trans (e.box b' hb hn), e.tok⟩
theorem ExtX.set {h h2 : AH} {b c : Nat} (e : ExtX h b h2) (hc : h.nb ≤ c) (cs : List AV) : ExtX h b (h2.set c cs) :=
  ⟨e.lt, e.nb, e.nt, fun b' hb hn => (upd_other _ _ _ (by omega)).trans (e.box b' hb hn), e.tok⟩
theorem ExtX.newTok {h h2 : AH} {b : Nat} (e : ExtX h b h2) : ExtX h b h2.newTok :=
  ⟨e.lt, e.nb, Nat.le_trans e.nt (Nat.le_succ _), e.box, fun t ht => (upd_other _ _ _ (by have := e.nt; omega)).trans (e.tok t ht)⟩
theorem ExtX.setTok {h h2 : AH} {b : Nat} (e : ExtX h b h2) {t : Nat} (ht : h.nt ≤ t) (g : Nat) : ExtX h b (h2.setTok t g) :=
  ⟨e.lt, e.nb, e.nt, e.box, fun t' ht' => (upd_other _ _ _ (by omega)).trans (e.tok t' ht')⟩
theorem ExtX.cutOk {h h2 : AH} {b : Nat} {cs : List AV} (e : ExtX h b h2) (s : Scoped h) (hb : h2.box b = some cs) (hu : AV.underL h.nb h.nt cs = true) : CutOk h h2 (h.set b cs) := by
  refine ⟨rfl, rfl, fun b' cs' hb' => ?_, fun t g ht => ⟨(e.tok t (s.tok t g ht)).trans ht, s.tok t g ht⟩⟩
  rw [set_box] at hb'
  split at hb'
  · next h1 => subst h1; injection hb' with hb'; subst hb'; exact ⟨hb, .inr ⟨e.lt, hu⟩⟩
  · next h1 => exact ⟨(e.box b' (s.box b' cs' hb') h1).trans hb', .inl hb'⟩

def bS (l : List UInt8) : ByteArray := ⟨⟨l⟩⟩
theorem bS_size (l : List UInt8) : (bS l).size = l.length := rfl
theorem bS_extract (l : List UInt8) (i j : Nat) : (bS l).extract i j = bS ((l.drop i).take (j - i)) := by
  apply ByteArray.ext
  rw [ByteArray.data_extract]
  show (⟨l⟩ : Array UInt8).extract i j = ⟨(l.drop i).take (j - i)⟩
  simp [List.extract_toArray, List.extract_eq_take_drop]
theorem bS_toList (l : List UInt8) : (bS l).toList = l := by rw [ByteArray.toList_eq]; rfl

/-- What a call does that reads: it gives a value, and what is left; or it panics. -/
def RdPost (h : AH) (b : Nat) (o : Option (AV × List UInt8)) (out : AOut) (h' : AH) : Prop := match o with
  | some (v, r) => out = .ret v ∧ h' = h.set b [.str (bS r)]
  | none => out = .panic wrongV ∧ ∃ r, h' = h.set b [.str (bS r)]
/-- The same, with what the call made. -/
def RdPre (h : AH) (b : Nat) (o : Option (AV × List UInt8)) (out : AOut) (h2 : AH) : Prop := match o with
  | some (v, r) => ExtX h b h2 ∧ h2.box b = some [.str (bS r)] ∧ ∃ u, out = .ret u ∧ Wk u v
  | none => ExtX h b h2 ∧ (∃ r, h2.box b = some [.str (bS r)]) ∧ out = .panic wrongV
theorem Rd.of {f : FuncId} {args : List AV} {h : AH} {b : Nat} {o : Option (AV × List UInt8)} (hv : ∀ v r, o = some (v, r) → v.under 0 0 = true)
    (hc : Scoped h → ACalls Tryz.prog f args h (RdPre h b o)) : ACalls Tryz.prog f args h (RdPost h b o) := by
  intro w0 m w args' h1 h2 hW
  refine ((hc hW.isScoped) w0 m w args' h1 h2 hW).mono ?_
  rintro e w' ⟨m', out, h'', q1, q2, q3, q4⟩
  cases o with
  | none =>
    obtain ⟨e1, ⟨r, e2⟩, rfl⟩ := q4
    obtain ⟨l1, W1⟩ := hW.cut q1 q3 (e1.cutOk hW.isScoped e2 rfl)
    refine ⟨_, .panic wrongV, _, l1, ?_, W1, rfl, r, rfl⟩
    cases e with
    | returned c => exact q2.elim
    | panicked c => obtain ⟨c', e3, e4⟩ := q2; exact ⟨c', e3, e4.cutTo (AV.under_mono rfl)⟩
    | outgrown => exact q2.elim
  | some p =>
    obtain ⟨v, r⟩ := p
    obtain ⟨e1, e2, u, rfl, hu⟩ := q4
    obtain ⟨l1, W1⟩ := hW.cut q1 q3 (e1.cutOk hW.isScoped e2 rfl)
    refine ⟨_, .ret v, _, l1, ?_, W1, rfl, rfl⟩
    cases e with
    | returned c => exact (hu _ _ q2).cutTo (AV.under_mono (hv v r rfl))
    | panicked c => exact q2.elim
    | outgrown => exact q2.elim
theorem demand_t (h : AH) : ACalls Tryz.prog 95 [.bool true] h fun out h' => out = .ret (.tup []) ∧ h' = h := by
  refine acalls_of te_ok [] Tryz.func95 (c := _) rfl (Nat.le_of_ble_eq_true rfl) ?_
  simp only [aws, eq_self, reduceIte, Nat.reduceLT, Tryz.ntmps95, Tryz.results95]
theorem demand_f (h : AH) : ACalls Tryz.prog 95 [.bool false] h fun out h' => out = .panic wrongV ∧ h' = h := by
  refine acalls_of te_ok [] Tryz.func95 (c := _) rfl (Nat.le_of_ble_eq_true rfl) ?_
  simp only [aws, eq_self, reduceIte, Nat.reduceLT, afill, teset, Tryz.ntmps95, Tryz.results95]
  rfl
theorem demand_calls (c : Bool) (h : AH) : ACalls Tryz.prog 95 [.bool c] h fun out h' => h' = h ∧ out = if c = true then .ret (.tup []) else .panic wrongV := by
  cases c with
  | true => exact (demand_t h).mono fun out h' ⟨h1, h2⟩ => ⟨h2, h1⟩
  | false => exact (demand_f h).mono fun out h' ⟨h1, h2⟩ => ⟨h2, h1⟩
/-- A demand that is met, or not. -/
theorem demand_call {c : Bool} {h : AH} {dst : Option Nat} {s : AS} {k : AK} {Q : AQ} (ht : c = true → k (putD s dst (.tup [])) h Q) (hf : c = false → Q (.panic wrongV) s h) : ACallV Tryz.prog (.fn (.func 95) [] []) [.bool c] h (callK dst s k Q) := by
  refine ACallV.mono ?_ (ACallV.of ⟨Tryz.f95, Tryz.func95, rfl, by kernel_rfl⟩ (demand_calls c h))
  rintro out h' ⟨rfl, rfl⟩
  cases c with
  | true => exact ht rfl
  | false => exact hf rfl
end Go.Proofs.YtlbhgoffiigfbaaGreat.AW
end
section
set_option linter.unusedSimpArgs false
set_option linter.unusedVariables false
namespace Go.Proofs.YtlbhgoffiigfbaaGreat.AW
open Go Go.RowKit

def iO (o : Option (Nat × List UInt8)) : Option (AV × List UInt8) := o.map fun p => (.int .i64 (p.1 : Int), p.2)
/-- A call that reads, within a run. -/
theorem rd_call {f : FuncId} {args : List AV} {h : AH} {b : Nat} {o : Option (AV × List UInt8)} {dst : Option Nat} {s : AS} {k : AK} {Q : AQ} (hf : FOk Tryz.prog f) (hr : ACalls Tryz.prog f args h (RdPost h b o))
    (hs : ∀ v r, o = some (v, r) → k (putD s dst v) (h.set b [.str (bS r)]) Q) (hn : o = none → ∀ r, Q (.panic wrongV) s (h.set b [.str (bS r)])) : ACallV Tryz.prog (.fn (.func f) [] []) args h (callK dst s k Q) := by
  refine ACallV.mono ?_ (ACallV.of hf hr)
  rintro out h' hp
  cases o with
  | none => obtain ⟨rfl, r, rfl⟩ := hp; exact hn rfl r
  | some p => obtain ⟨v, r⟩ := p; obtain ⟨rfl, rfl⟩ := hp; exact hs v r rfl
theorem bS_nil : (bS []).toList = [] := bS_toList []
theorem nil_toList : (⟨#[]⟩ : ByteArray).toList = [] := bS_toList []
theorem iO_under {o : Option (Nat × List UInt8)} {v : AV} {r : List UInt8} (e : iO o = some (v, r)) : v.under 0 0 = true := by
  cases o with
  | none => cases e
  | some p => injection e with e; injection e with e1 e2; subst e1; rfl
theorem byte_rd (l : List UInt8) {h : AH} {b : Nat} (hb : h.box b = some [.str (bS l)]) : ACalls Tryz.prog 88 [.ptr b 0] h (RdPost h b (iO (rByte l))) := by
  refine Rd.of (fun v r e => iO_under e) fun hsc => ?_
  have hlt := hsc.box _ _ hb
  cases l with
  | nil =>
    refine acalls_of te_ok [] Tryz.func88 (c := _) rfl (Nat.le_of_ble_eq_true rfl) ?_
    simp only [aws, eq_self, reduceIte, Nat.reduceLT, acmpnil, teset, Tryz.ntmps88, Tryz.results88, hb, bS_nil, nil_toList]
    refine demand_call (fun hc => absurd hc (by decide)) (fun hc => ?_)
    simp only [aws]
    exact ⟨ExtX.refl hlt, ⟨[], hb⟩, rfl⟩
  | cons c l =>
    have hne : (!(bS (c :: l)).toList == ([] : List UInt8)) = true := by rw [bS_toList]; rfl
    refine acalls_of te_ok [] Tryz.func88 (c := _) rfl (Nat.le_of_ble_eq_true rfl) ?_
    simp only [aws, eq_self, reduceIte, Nat.reduceLT, acmpnil, teset, Tryz.ntmps88, Tryz.results88, hb, nil_toList, hne]
    refine demand_call (fun _ => ?_) (fun hc => by cases hc)
    have hix : (bS (c :: l))[0]? = some c := rfl
    have hex : (bS (c :: l)).extract 1 (bS (c :: l)).size = bS l := by rw [bS_extract, bS_size]; simp
    have hsz : 1 ≤ (bS (c :: l)).size := by rw [bS_size]; simp
    have hcl := c.toNat_lt
    have hwc : IntKind.i64.wrap ((c.toNat : Nat) : Int) = ((c.toNat : Nat) : Int) := wrap_i64 (by omega) (by omega)
    simp only [aws, eq_self, reduceIte, reduceCtorEq, Nat.reduceLT, Nat.reduceEqDiff, Int.reduceLE, Int.reduceToNat, aconv, acvB, storeB, ares1, teset, hb, hix, hex, hsz, hwc, Nat.le_refl]
    exact ⟨(ExtX.refl hlt).own _, by rw [set_box, if_pos rfl], _, rfl, .refl _⟩
theorem set_set (h : AH) (b : Nat) (x y : List AV) : (h.set b x).set b y = h.set b y := by
  unfold AH.set
  simp only [AH.mk.injEq, and_true]
  funext q
  unfold upd
  by_cases e : q = b <;> simp [e]
theorem set_same {h : AH} {b : Nat} {x : List AV} (hb : h.box b = some x) : h.set b x = h := by
  obtain ⟨nb, nt, box, tok⟩ := h
  unfold AH.set
  simp only [AH.mk.injEq, and_true]
  funext q
  unfold upd
  by_cases e : q = b
  · subst e; simp; exact hb.symm
  · simp [e]
theorem and127 : ∀ c : Fin 256, IntKind.i64.wrap ((BitVec.ofInt IntKind.i64.bits ((c.val : Nat) : Int) &&& BitVec.ofInt IntKind.i64.bits 127).toNat) = ((c.val % 128 : Nat) : Int) := by decide +kernel
set_option maxHeartbeats 2000000 in
theorem number_rd (l : List UInt8) {h : AH} {b : Nat} (hb : h.box b = some [.str (bS l)]) : ACalls Tryz.prog 98 [.ptr b 0] h (RdPost h b (iO (rNum l))) := by
  refine Rd.of (fun v r e => iO_under e) fun hsc => ?_
  have hlt := hsc.box _ _ hb
  refine acalls_of te_ok [] Tryz.func98 (c := _) rfl (Nat.le_of_ble_eq_true rfl) ?_
  simp only [aws, eq_self, Nat.reduceLT, Tryz.ntmps98, Tryz.results98]
  refine ⟨fun n s' h' => ∃ (i m : Nat) (l' : List UInt8), s' 0 = .ptr b 0 ∧ s' 3 = .int .i64 m ∧ s' 4 = .int .i64 ((7 * i : Nat) : Int) ∧ h' = h.set b [.str (bS l')] ∧ n + i = 9 ∧ i ≤ 8 ∧ rNumF (8 - i) i m l' = rNum l ∧ m < 128 ^ i, ⟨9, 0, 0, l, ?_⟩, ?_⟩
  · simp only [aws, eq_self, reduceIte, Nat.reduceLeDiff, Nat.reduceSub, Nat.mul_zero, Int.natCast_zero, set_same hb]
    exact ⟨rfl, by decide⟩
  · rintro n s' h' ⟨i, m, l', e0, e3, e4, rfl, hn, hi, hr, hm⟩
    have hb' : (h.set b [.str (bS l')]).box b = some [.str (bS l')] := by rw [set_box, if_pos rfl]
    simp only [aws, eq_self, reduceIte, Nat.reduceLT, e0]
    refine rd_call ⟨Tryz.f88, Tryz.func88, rfl, by kernel_rfl⟩ (byte_rd l' hb') (fun v r hv => ?_) (fun hv r => ?_)
    · cases l' with
      | nil => cases hv
      | cons c l' =>
        injection hv with hv; injection hv with e1 e2; subst e1 e2
        rw [set_set]
        simp only [aws, eq_self, reduceIte, Nat.reduceLT, acmpnil, e4]
        refine demand_call (fun hc => ?_) (fun hc => ?_)
        · have hi8 : i < 8 := by
            have := of_decide_eq_true hc
            omega
          obtain ⟨k, hk⟩ : ∃ k, 8 - i = k + 1 := ⟨7 - i, by omega⟩
          have hcl := c.toNat_lt
          have hc7 : c.toNat % 128 ≤ 127 := by omega
          have hpw : 128 ^ i ≤ 562949953421312 := Nat.le_trans (Nat.pow_le_pow_right (by decide) (show i ≤ 7 by omega)) (by decide)
          have hmul : c.toNat % 128 * 128 ^ i ≤ 127 * 562949953421312 := Nat.mul_le_mul hc7 hpw
          have hstep : m + c.toNat % 128 * 128 ^ i < 128 ^ (i + 1) := by
            have h2 : c.toNat % 128 * 128 ^ i ≤ 127 * 128 ^ i := Nat.mul_le_mul_right _ hc7
            rw [Nat.pow_succ]; omega
          have hand : IntKind.i64.wrap ((BitVec.ofInt IntKind.i64.bits ((c.toNat : Nat) : Int) &&& BitVec.ofInt IntKind.i64.bits 127).toNat) = ((c.toNat % 128 : Nat) : Int) := and127 ⟨c.toNat, hcl⟩
          have hshl : IntKind.i64.wrap (((c.toNat % 128 : Nat) : Int) * 2 ^ (min (7 * i) IntKind.i64.bits)) = ((c.toNat % 128 * 128 ^ i : Nat) : Int) := by
            have e1 : min (7 * i) IntKind.i64.bits = 7 * i := Nat.min_eq_left (by show 7 * i ≤ 64; omega)
            have e2 : ((2 : Int) ^ (7 * i)) = ((128 ^ i : Nat) : Int) := by rw [Int.pow_mul, Int.natCast_pow]; rfl
            rw [e1, e2, ← Int.natCast_mul, wrap_i64 (by omega) (by omega)]
          have hadd : IntKind.i64.wrap ((m : Int) + ((c.toNat % 128 * 128 ^ i : Nat) : Int)) = ((m + c.toNat % 128 * 128 ^ i : Nat) : Int) := by
            rw [wrap_i64 (by omega) (by omega)]; omega
          rw [hk, rNumF] at hr
          simp only [aws, eq_self, reduceIte, Nat.reduceLT, Nat.reduceEqDiff, acmpnil, e3, e4, hand, Int.natCast_nonneg, Int.toNat_natCast, hshl, hadd]
          cases hc2 : decide (((c.toNat : Nat) : Int) < 128) with
          | true =>
            simp only [decide_eq_true_eq] at hc2
            rw [if_pos (by omega)] at hr
            simp only [aws, eq_self, reduceIte, Nat.reduceLT, Nat.reduceEqDiff, ares1, e3]
            rw [← hr]
            exact ⟨(ExtX.refl hlt).own _, by rw [set_box, if_pos rfl], _, rfl, .refl _⟩
          | false =>
            simp only [decide_eq_false_iff_not] at hc2
            rw [if_neg (by omega)] at hr
            simp only [aws, eq_self, reduceIte, reduceCtorEq, Nat.reduceLT, Nat.reduceEqDiff, acmpnil, e0, e3, e4]
            refine ⟨n - 1, by omega, i + 1, _, l', rfl, ?_, rfl, by omega, by omega, ?_, hstep⟩
            · rw [wrap_i64 (by omega) (by omega)]; congr 1 <;> omega
            · rw [show 8 - (i + 1) = k by omega]; exact hr
        · have hi8 : i = 8 := by
            have := of_decide_eq_false hc
            omega
          subst hi8
          simp only [aws, Nat.reduceMul]
          have h0 : rNum l = none := by rw [← hr]; rfl
          rw [h0]
          exact ⟨(ExtX.refl hlt).own _, ⟨l', by rw [set_box, if_pos rfl]⟩, rfl⟩
    · cases l' with
      | cons c l' => cases hv
      | nil =>
        rw [set_set]
        simp only [aws]
        have h0 : rNum l = none := by rw [← hr]; cases 8 - i <;> rfl
        rw [h0]
        exact ⟨(ExtX.refl hlt).own _, ⟨r, by rw [set_box, if_pos rfl]⟩, rfl⟩
end Go.Proofs.YtlbhgoffiigfbaaGreat.AW
end
section
set_option linter.unusedSimpArgs false
set_option linter.unusedVariables false
namespace Go.Proofs.YtlbhgoffiigfbaaGreat.AW
open Go Go.RowKit

theorem rd_some {f : FuncId} {args : List AV} {h : AH} {b : Nat} {v : AV} {r : List UInt8} {dst : Option Nat} {s : AS} {k : AK} {Q : AQ} (hf : FOk Tryz.prog f) (hr : ACalls Tryz.prog f args h (RdPost h b (some (v, r))))
    (hs : k (putD s dst v) (h.set b [.str (bS r)]) Q) : ACallV Tryz.prog (.fn (.func f) [] []) args h (callK dst s k Q) :=
  rd_call hf hr (fun v' r' e => by injection e with e; injection e with e1 e2; subst e1 e2; exact hs) (fun e => by cases e)
theorem rd_none {f : FuncId} {args : List AV} {h : AH} {b : Nat} {dst : Option Nat} {s : AS} {k : AK} {Q : AQ} (hf : FOk Tryz.prog f) (hr : ACalls Tryz.prog f args h (RdPost h b none))
    (hn : ∀ r, Q (.panic wrongV) s (h.set b [.str (bS r)])) : ACallV Tryz.prog (.fn (.func f) [] []) args h (callK dst s k Q) :=
  rd_call hf hr (fun v' r' e => by cases e) (fun _ => hn)
theorem set_at (h : AH) (b : Nat) (x : List AV) : (h.set b x).box b = some x := by rw [set_box, if_pos rfl]
theorem count_rd (l : List UInt8) {h : AH} {b : Nat} (hb : h.box b = some [.str (bS l)]) : ACalls Tryz.prog 94 [.ptr b 0] h (RdPost h b (iO (rCount l))) := by
  have hnr := number_rd l hb
  refine Rd.of (fun v r e => iO_under e) fun hsc => ?_
  have hlt := hsc.box _ _ hb
  refine acalls_of te_ok [] Tryz.func94 (c := _) rfl (Nat.le_of_ble_eq_true rfl) ?_
  simp only [aws, eq_self, reduceIte, Nat.reduceLT, Tryz.ntmps94, Tryz.results94]
  unfold rCount
  cases hq : rNum l with
  | none =>
    rw [hq] at hnr
    refine rd_none ⟨Tryz.f98, Tryz.func98, rfl, by kernel_rfl⟩ hnr (fun r => ?_)
    simp only [aws]
    exact ⟨(ExtX.refl hlt).own _, ⟨_, set_at _ _ _⟩, rfl⟩
  | some p =>
    obtain ⟨m, r⟩ := p
    rw [hq] at hnr
    refine rd_some ⟨Tryz.f98, Tryz.func98, rfl, by kernel_rfl⟩ hnr ?_
    simp only [aws, eq_self, reduceIte, Nat.reduceLT, Nat.reduceEqDiff, acmpnil, teset, bS_size]
    refine demand_call (fun hc => ?_) (fun hc => ?_)
    · have hle : m ≤ r.length := by have := of_decide_eq_true hc; omega
      simp only [aws, eq_self, reduceIte, Nat.reduceLT, Nat.reduceEqDiff, ares1]
      simp only [if_pos hle]
      exact ⟨(ExtX.refl hlt).own _, set_at _ _ _, _, rfl, .refl _⟩
    · have hle : ¬ m ≤ r.length := by have := of_decide_eq_false hc; omega
      simp only [if_neg hle]
      simp only [aws]
      exact ⟨(ExtX.refl hlt).own _, ⟨_, set_at _ _ _⟩, rfl⟩
def sO (o : Option (ByteArray × List UInt8)) : Option (AV × List UInt8) := o.map fun p => (.str p.1, p.2)
theorem sO_under {o : Option (ByteArray × List UInt8)} {v : AV} {r : List UInt8} (e : sO o = some (v, r)) : v.under 0 0 = true := by
  cases o with
  | none => cases e
  | some p => injection e with e; injection e with e1 e2; subst e1; rfl
theorem bytes_rd (l : List UInt8) (n : Nat) {h : AH} {b : Nat} (hb : h.box b = some [.str (bS l)]) : ACalls Tryz.prog 103 [.ptr b 0, .int .i64 (n : Int)] h (RdPost h b (sO (if n ≤ l.length then some (bS (l.take n), l.drop n) else none))) := by
  refine Rd.of (fun v r e => sO_under e) fun hsc => ?_
  have hlt := hsc.box _ _ hb
  refine acalls_of te_ok [] Tryz.func103 (c := _) rfl (Nat.le_of_ble_eq_true rfl) ?_
  simp only [aws, eq_self, reduceIte, Nat.reduceLT, acmpnil, teset, Tryz.ntmps103, Tryz.results103, hb, bS_size]
  refine demand_call (fun hc => ?_) (fun hc => ?_)
  · have hle : n ≤ l.length := by have := of_decide_eq_true hc; omega
    have h1 : List.take n (List.drop 0 l) = l.take n := rfl
    have h2 : List.take (l.length - n) (List.drop n l) = l.drop n := List.take_of_length_le (by rw [List.length_drop]; exact Nat.le_refl _)
    simp only [aws, eq_self, reduceIte, reduceCtorEq, Nat.reduceLT, Nat.reduceEqDiff, storeB, ares1, teset, hb, bS_size, Int.natCast_nonneg, Int.toNat_natCast, hle, Nat.le_refl, Nat.zero_le, bS_extract, Nat.sub_zero, h2]
    try simp only [if_pos hle]
    exact ⟨(ExtX.refl hlt).own _, set_at _ _ _, _, rfl, .refl _⟩
  · have hle : ¬ n ≤ l.length := by have := of_decide_eq_false hc; omega
    simp only [if_neg hle]
    simp only [aws]
    exact ⟨ExtX.refl hlt, ⟨_, hb⟩, rfl⟩
theorem text_rd (l : List UInt8) {h : AH} {b : Nat} (hb : h.box b = some [.str (bS l)]) : ACalls Tryz.prog 100 [.ptr b 0] h (RdPost h b (sO (rText l))) := by
  have hnr := number_rd l hb
  refine Rd.of (fun v r e => sO_under e) fun hsc => ?_
  have hlt := hsc.box _ _ hb
  refine acalls_of te_ok [] Tryz.func100 (c := _) rfl (Nat.le_of_ble_eq_true rfl) ?_
  simp only [aws, eq_self, reduceIte, Nat.reduceLT, Tryz.ntmps100, Tryz.results100]
  unfold rText
  cases hq : rNum l with
  | none =>
    rw [hq] at hnr
    refine rd_none ⟨Tryz.f98, Tryz.func98, rfl, by kernel_rfl⟩ hnr (fun r => ?_)
    simp only [aws]
    exact ⟨(ExtX.refl hlt).own _, ⟨_, set_at _ _ _⟩, rfl⟩
  | some p =>
    obtain ⟨m, r⟩ := p
    rw [hq] at hnr
    refine rd_some ⟨Tryz.f98, Tryz.func98, rfl, by kernel_rfl⟩ hnr ?_
    simp only [aws, eq_self, reduceIte, Nat.reduceLT]
    have hbr := bytes_rd r m (set_at h b [.str (bS r)])
    by_cases hle : m ≤ r.length
    · rw [if_pos hle] at hbr
      refine rd_some ⟨Tryz.f103, Tryz.func103, rfl, by kernel_rfl⟩ hbr ?_
      rw [set_set]
      simp only [aws, eq_self, reduceIte, Nat.reduceLT, ares1]
      simp only [if_pos hle]
      exact ⟨(ExtX.refl hlt).own _, set_at _ _ _, _, rfl, .refl _⟩
    · rw [if_neg hle] at hbr
      refine rd_none ⟨Tryz.f103, Tryz.func103, rfl, by kernel_rfl⟩ hbr (fun r' => ?_)
      rw [set_set]
      simp only [if_neg hle]
      simp only [aws]
      exact ⟨(ExtX.refl hlt).own _, ⟨_, set_at _ _ _⟩, rfl⟩
def zO (o : Option (Int × List UInt8)) : Option (AV × List UInt8) := o.map fun p => (.int .i64 p.1, p.2)
theorem zO_under {o : Option (Int × List UInt8)} {v : AV} {r : List UInt8} (e : zO o = some (v, r)) : v.under 0 0 = true := by
  cases o with
  | none => cases e
  | some p => injection e with e; injection e with e1 e2; subst e1; rfl
theorem int_rd (l : List UInt8) {h : AH} {b : Nat} (hb : h.box b = some [.str (bS l)]) : ACalls Tryz.prog 99 [.ptr b 0] h (RdPost h b (zO (rInt l))) := by
  have hnr := number_rd l hb
  refine Rd.of (fun v r e => zO_under e) fun hsc => ?_
  have hlt := hsc.box _ _ hb
  refine acalls_of te_ok [] Tryz.func99 (c := _) rfl (Nat.le_of_ble_eq_true rfl) ?_
  simp only [aws, eq_self, reduceIte, Nat.reduceLT, Tryz.ntmps99, Tryz.results99]
  unfold rInt
  cases hq : rNum l with
  | none =>
    rw [hq] at hnr
    refine rd_none ⟨Tryz.f98, Tryz.func98, rfl, by kernel_rfl⟩ hnr (fun r => ?_)
    simp only [aws]
    exact ⟨(ExtX.refl hlt).own _, ⟨_, set_at _ _ _⟩, rfl⟩
  | some p =>
    obtain ⟨m, r⟩ := p
    have hm := (rNum_len hq).2
    rw [hq] at hnr
    refine rd_some ⟨Tryz.f98, Tryz.func98, rfl, by kernel_rfl⟩ hnr ?_
    have hr2 : ((m : Nat) : Int).tmod 2 = ((m % 2 : Nat) : Int) := by rw [Int.tmod_eq_emod_of_nonneg (by omega)]; omega
    have hw1 : IntKind.i64.wrap ((m : Int) + 1) = (m : Int) + 1 := wrap_i64 (by omega) (by omega)
    have hw2 : IntKind.i64.wrap (0 - ((m : Int) + 1)) = -((m : Int) + 1) := by rw [wrap_i64 (by omega) (by omega)]; omega
    have hd1 : IntKind.i64.wrap ((m : Int).tdiv 2) = ((m / 2 : Nat) : Int) := by rw [Int.tdiv_eq_ediv_of_nonneg (by omega), wrap_i64 (by omega) (by omega)]; omega
    simp only [aws, eq_self, reduceIte, Nat.reduceLT, Int.reduceEq, acmpnil, hr2]
    cases hc : (((m % 2 : Nat) : Int) == 1) with
    | true =>
      have hm1 : m % 2 = 1 := by
        have : ((m % 2 : Nat) : Int) = 1 := by simpa only [beq_iff_eq] using hc
        omega
      have hd2 : IntKind.i64.wrap ((-((m : Int) + 1)).tdiv 2) = -(((m + 1) / 2 : Nat) : Int) := by rw [Int.neg_tdiv, Int.tdiv_eq_ediv_of_nonneg (by omega), wrap_i64 (by omega) (by omega)]; omega
      have hu : unzig m = -(((m + 1) / 2 : Nat) : Int) := by unfold unzig; rw [if_pos hm1]
      simp only [aws, eq_self, reduceIte, Nat.reduceLT, Nat.reduceEqDiff, Int.reduceEq, acmpnil, ares1, hw1, hw2, hd2]
      refine ⟨(ExtX.refl hlt).own _, set_at _ _ _, _, rfl, ?_⟩
      refine Wk.of_erase ?_
      show AV.int .i64 _ = AV.int .i64 (unzig m)
      rw [hu]
    | false =>
      have hm1 : ¬ m % 2 = 1 := by
        have : ¬ ((m % 2 : Nat) : Int) = 1 := by simpa only [beq_eq_false_iff_ne, ne_eq] using hc
        omega
      have hu : unzig m = ((m / 2 : Nat) : Int) := by unfold unzig; rw [if_neg hm1]
      simp only [aws, eq_self, reduceIte, Nat.reduceLT, Nat.reduceEqDiff, Int.reduceEq, acmpnil, ares1, hd1]
      refine ⟨(ExtX.refl hlt).own _, set_at _ _ _, _, rfl, ?_⟩
      refine Wk.of_erase ?_
      show AV.int .i64 _ = AV.int .i64 (unzig m)
      rw [hu]
end Go.Proofs.YtlbhgoffiigfbaaGreat.AW
end
section
set_option linter.unusedSimpArgs false
set_option linter.unusedVariables false
namespace Go.Proofs.YtlbhgoffiigfbaaGreat.AW
open Go Go.RowKit

def vO (o : Option (V × List UInt8)) : Option (AV × List UInt8) := o.map fun p => (inj p.1, p.2)
theorem vO_under {o : Option (V × List UInt8)} {v : AV} {r : List UInt8} (e : vO o = some (v, r)) : v.under 0 0 = true := by
  cases o with
  | none => cases e
  | some p => injection e with e; injection e with e1 e2; subst e1; exact inj_under _
theorem wk_val {k i : Int} {t : ByteArray} {aX aK : AV} {xs : List V} {ks : List ByteArray} (h1 : Wk aX (.sl .ro 5 (xs.map inj))) (h2 : Wk aK (.sl .ro 1 (ks.map .str))) : Wk (.agg [.int .i64 k, .int .i64 i, .str t, aX, aK]) (inj (.mk k i t xs ks)) := by
  rw [inj_mk]
  exact (WkAll.cons (.refl _) (.cons (.refl _) (.cons (.refl _) (.cons h1 (.cons h2 .nil))))).agg
theorem rItems_keys {f : List UInt8 → Option (V × List UInt8)} : ∀ {n : Nat} {l : List UInt8} {xs : List V} {ks : List ByteArray} {r : List UInt8}, rItems f false n l = some (xs, ks, r) → ks = []
  | 0, l, xs, ks, r, h => by injection h with h; injection h with h1 h2; injection h2 with h2 h3; exact h2.symm
  | n + 1, l, xs, ks, r, h => by
    rw [rItems] at h
    simp only [Bool.false_eq_true, if_false] at h
    split at h
    · split at h
      · injection h with h; injection h with h1 h2; injection h2 with h2 h3; exact h2.symm
      · cases h
    · cases h
theorem newTok_at {h : AH} {t : Nat} (e : t = h.nt) : h.newTok.tok t = some 0 := by rw [newTok_tok, if_pos e]
theorem newTok_old {h : AH} {t : Nat} (ht : t < h.nt) : h.newTok.tok t = h.tok t := by rw [newTok_tok, if_neg (by omega)]
def OwnO (h : AH) (t0 : Nat) (aX aK : AV) (xs : List V) (ks : List ByteArray) : Prop := (aX = .sl .full 0 [] ∧ aK = .sl .full 0 [] ∧ xs = [] ∧ ks = []) ∨
  ∃ t G t' G', aX = .sl (.tok t G) 5 (xs.map inj) ∧ aK = .sl (.tok t' G') 1 (ks.map .str) ∧ h.tok t = some G ∧ h.tok t' = some G' ∧ t0 ≤ t ∧ t0 ≤ t' ∧ t ≠ t'
theorem OwnO.wk {h : AH} {t0 : Nat} {aX aK : AV} {xs : List V} {ks : List ByteArray} (ho : OwnO h t0 aX aK xs ks) : Wk aX (.sl .ro 5 (xs.map inj)) ∧ Wk aK (.sl .ro 1 (ks.map .str)) := by
  rcases ho with ⟨rfl, rfl, rfl, rfl⟩ | ⟨t, G, t', G', rfl, rfl, _⟩
  · exact ⟨wk_nil5, wk_nil1⟩
  · exact ⟨.ro, .ro⟩
set_option maxHeartbeats 8000000 in
theorem value_rd : ∀ (L : Nat) (l : List UInt8) {h : AH} {b : Nat}, L ≤ 100 → l.length < 1000000000000 → h.box b = some [.str (bS l)] → ACalls Tryz.prog 96 [.ptr b 0, .int .i64 (L : Int)] h (RdPost h b (vO (rVal L l))) := by
  intro L
  induction L with
  | zero =>
    intro l h b _ _ hb
    refine Rd.of (fun v r e => vO_under e) fun hsc => ?_
    have hlt := hsc.box _ _ hb
    refine acalls_of te_ok [] Tryz.func96 (c := _) rfl (Nat.le_of_ble_eq_true rfl) ?_
    simp only [aws, eq_self, reduceIte, Nat.reduceLT, Int.reduceGT, acmpnil, teset, Tryz.ntmps96, Tryz.results96, Int.natCast_zero]
    refine demand_call (fun hc => absurd hc (by decide)) (fun hc => ?_)
    simp only [aws]
    exact ⟨(ExtX.refl hlt).new _, ⟨_, by rw [new_box, if_neg (by omega)]; exact hb⟩, rfl⟩
  | succ L ih =>
    intro l h b hL hll hb
    refine Rd.of (fun v r e => vO_under e) fun hsc => ?_
    have hlt := hsc.box _ _ hb
    have hlev : decide (((L + 1 : Nat) : Int) > 0) = true := by simp only [decide_eq_true_eq]; omega
    refine acalls_of te_ok [] Tryz.func96 (c := _) rfl (Nat.le_of_ble_eq_true rfl) ?_
    simp only [aws, eq_self, reduceIte, Nat.reduceLT, acmpnil, teset, Tryz.ntmps96, Tryz.results96, hlev]
    refine demand_call (fun _ => ?_) (fun hc => by cases hc)
    have hb1 : (h.new [.int .i64 0, .int .i64 0, .str ⟨#[]⟩, .sl .full 0 [], .sl .full 0 []]).box b = some [.str (bS l)] := by
      rw [new_box, if_neg (by omega)]; exact hb
    simp only [aws, eq_self, reduceIte, reduceCtorEq, Nat.reduceLT]
    have hby := byte_rd l hb1
    cases l with
    | nil =>
      refine rd_none ⟨Tryz.f88, Tryz.func88, rfl, by kernel_rfl⟩ hby (fun r => ?_)
      simp only [aws]
      exact ⟨((ExtX.refl hlt).new _).own _, ⟨_, set_at _ _ _⟩, rfl⟩
    | cons c l =>
      refine rd_some ⟨Tryz.f88, Tryz.func88, rfl, by kernel_rfl⟩ hby ?_
      simp only [List.length_cons] at hll
      have hn1 : (h.nb = b) = False := by rw [eq_iff_iff]; exact ⟨fun e => by omega, False.elim⟩
      have hn2 : (h.nb + 1 = b) = False := by rw [eq_iff_iff]; exact ⟨fun e => by omega, False.elim⟩
      have hn3 : (b = h.nb) = False := by rw [eq_iff_iff]; exact ⟨fun e => by omega, False.elim⟩
      have hn4 : (b = h.nb + 1) = False := by rw [eq_iff_iff]; exact ⟨fun e => by omega, False.elim⟩
      rw [show rVal (L + 1) (c :: l) = (if c.toNat = 0 then some (V.mk 0 0 ⟨#[]⟩ [] [], l)
        else if c.toNat = 1 then (match rByte l with | some (i, l2) => some (.mk 1 (i : Int) ⟨#[]⟩ [] [], l2) | none => none)
        else if c.toNat = 2 then (match rInt l with | some (i, l2) => some (.mk 2 i ⟨#[]⟩ [] [], l2) | none => none)
        else if c.toNat = 3 then (match rText l with | some (t, l2) => some (.mk 3 0 t [] [], l2) | none => none)
        else if c.toNat = 4 ∨ c.toNat = 5 then (match rCount l with
          | some (n, l2) => (match rItems (rVal L) (c.toNat == 5) n l2 with
            | some (xs, ks, l3) => some (.mk (c.toNat : Int) 0 ⟨#[]⟩ xs ks, l3)
            | none => none)
          | none => none)
        else none) from rfl]
      obtain ⟨k, hk⟩ : ∃ k, k = c.toNat := ⟨_, rfl⟩
      rw [← hk]
      simp only [aws, eq_self, reduceIte, Nat.reduceAdd, Nat.reduceLT, Nat.reduceLeDiff, Nat.reduceEqDiff, acmpnil, storeB, afill, teset, hn2]
      obtain ⟨H, hH⟩ : ∃ H, H = (((h.new [.int .i64 0, .int .i64 0, .str ⟨#[]⟩, .sl .full 0 [], .sl .full 0 []]).set b [.str (bS l)]).new [.int .i64 0, .int .i64 0, .str ⟨#[]⟩, .sl .full 0 [], .sl .full 0 []]).set (h.nb + 1) [.int .i64 ((k : Nat) : Int), .int .i64 0, .str ⟨#[]⟩, .sl .full 0 [], .sl .full 0 []] := ⟨_, rfl⟩
      have hz : (h.nb = h.nb + 1) = False := by rw [eq_iff_iff]; exact ⟨fun e => by omega, False.elim⟩
      have HX : ExtX h b H := by rw [hH]; (repeat (first | assumption | exact ExtX.refl hlt | refine ExtX.own ?_ _ | refine ExtX.new ?_ _ | refine ExtX.newTok ?_ | refine ExtX.setTok ?_ (by omega) _ | refine ExtX.set ?_ (by first | omega | (simp only [new_nb, set_nb, kill_nb, newTok_nb, setTok_nb]; omega)) _))
      have Hnb : h.nb + 1 < H.nb := by rw [hH]; simp only [new_nb, set_nb]; omega
      have Hb : H.box b = some [.str (bS l)] := by rw [hH]; simp only [aws, eq_self, reduceIte, hn3, hn4]
      have H4 : H.box h.nb = some [.int .i64 0, .int .i64 0, .str ⟨#[]⟩, .sl .full 0 [], .sl .full 0 []] := by rw [hH]; simp only [aws, eq_self, reduceIte, hn1, hz]
      have H5 : H.box (h.nb + 1) = some [.int .i64 ((k : Nat) : Int), .int .i64 0, .str ⟨#[]⟩, .sl .full 0 [], .sl .full 0 []] := by rw [hH]; simp only [aws, eq_self, reduceIte, hn2]
      rw [← hH]
      clear hH hby hb1
      by_cases h0 : k = 0
      · have q0 : ((k : Nat) : Int) = 0 := by rw [h0]; rfl
        rw [if_pos h0]
        simp only [aws, eq_self, reduceIte, Nat.reduceAdd, Nat.reduceLT, Nat.reduceLeDiff, Nat.reduceEqDiff, storeB, ares1, teset, q0, H4, H5]
        exact ⟨by (repeat (first | assumption | exact ExtX.refl hlt | refine ExtX.own ?_ _ | refine ExtX.new ?_ _ | refine ExtX.newTok ?_ | refine ExtX.setTok ?_ (by omega) _ | refine ExtX.set ?_ (by first | omega | (simp only [new_nb, set_nb, kill_nb, newTok_nb, setTok_nb]; omega)) _)), by simp only [aws, eq_self, reduceIte, hn3, Hb], _, rfl, wk_val wk_nil5 wk_nil1⟩
      rw [if_neg h0]
      have q0 : (((k : Nat) : Int) == 0) = false := by rw [beq_eq_false_iff_ne]; omega
      by_cases h1 : k = 1
      · have q1 : ((k : Nat) : Int) = 1 := by rw [h1]; rfl
        rw [if_pos h1]
        have hr := byte_rd l Hb
        simp only [aws, eq_self, reduceIte, reduceCtorEq, Nat.reduceLT, Nat.reduceEqDiff, Int.reduceBEq, acmpnil, q1]
        cases hq : rByte l with
        | none =>
          rw [hq] at hr
          refine rd_none ⟨Tryz.f88, Tryz.func88, rfl, by kernel_rfl⟩ hr (fun r => ?_)
          simp only [aws]
          exact ⟨by (repeat (first | assumption | exact ExtX.refl hlt | refine ExtX.own ?_ _ | refine ExtX.new ?_ _ | refine ExtX.newTok ?_ | refine ExtX.setTok ?_ (by omega) _ | refine ExtX.set ?_ (by first | omega | (simp only [new_nb, set_nb, kill_nb, newTok_nb, setTok_nb]; omega)) _)), ⟨_, set_at _ _ _⟩, rfl⟩
        | some p =>
          obtain ⟨i, l2⟩ := p
          rw [hq] at hr
          refine rd_some ⟨Tryz.f88, Tryz.func88, rfl, by kernel_rfl⟩ hr ?_
          simp only [aws, eq_self, reduceIte, Nat.reduceAdd, Nat.reduceLT, Nat.reduceLeDiff, Nat.reduceEqDiff, storeB, ares1, teset, q1, H4, H5, hn1, hn2, hz]
          exact ⟨by (repeat (first | assumption | exact ExtX.refl hlt | refine ExtX.own ?_ _ | refine ExtX.new ?_ _ | refine ExtX.newTok ?_ | refine ExtX.setTok ?_ (by omega) _ | refine ExtX.set ?_ (by first | omega | (simp only [new_nb, set_nb, kill_nb, newTok_nb, setTok_nb]; omega)) _)), by simp only [aws, eq_self, reduceIte, hn3, hn4, Hb], _, rfl, wk_val wk_nil5 wk_nil1⟩
      rw [if_neg h1]
      have q1 : (((k : Nat) : Int) == 1) = false := by rw [beq_eq_false_iff_ne]; omega
      by_cases h2 : k = 2
      · have q2 : ((k : Nat) : Int) = 2 := by rw [h2]; rfl
        rw [if_pos h2]
        have hr := int_rd l Hb
        simp only [aws, eq_self, reduceIte, reduceCtorEq, Nat.reduceLT, Nat.reduceEqDiff, Int.reduceBEq, acmpnil, q2]
        cases hq : rInt l with
        | none =>
          rw [hq] at hr
          refine rd_none ⟨Tryz.f99, Tryz.func99, rfl, by kernel_rfl⟩ hr (fun r => ?_)
          simp only [aws]
          exact ⟨by (repeat (first | assumption | exact ExtX.refl hlt | refine ExtX.own ?_ _ | refine ExtX.new ?_ _ | refine ExtX.newTok ?_ | refine ExtX.setTok ?_ (by omega) _ | refine ExtX.set ?_ (by first | omega | (simp only [new_nb, set_nb, kill_nb, newTok_nb, setTok_nb]; omega)) _)), ⟨_, set_at _ _ _⟩, rfl⟩
        | some p =>
          obtain ⟨i, l2⟩ := p
          rw [hq] at hr
          refine rd_some ⟨Tryz.f99, Tryz.func99, rfl, by kernel_rfl⟩ hr ?_
          simp only [aws, eq_self, reduceIte, Nat.reduceAdd, Nat.reduceLT, Nat.reduceLeDiff, Nat.reduceEqDiff, storeB, ares1, teset, q2, H4, H5, hn1, hn2, hz]
          exact ⟨by (repeat (first | assumption | exact ExtX.refl hlt | refine ExtX.own ?_ _ | refine ExtX.new ?_ _ | refine ExtX.newTok ?_ | refine ExtX.setTok ?_ (by omega) _ | refine ExtX.set ?_ (by first | omega | (simp only [new_nb, set_nb, kill_nb, newTok_nb, setTok_nb]; omega)) _)), by simp only [aws, eq_self, reduceIte, hn3, hn4, Hb], _, rfl, wk_val wk_nil5 wk_nil1⟩
      rw [if_neg h2]
      have q2 : (((k : Nat) : Int) == 2) = false := by rw [beq_eq_false_iff_ne]; omega
      by_cases h3 : k = 3
      · have q3 : ((k : Nat) : Int) = 3 := by rw [h3]; rfl
        rw [if_pos h3]
        have hr := text_rd l Hb
        simp only [aws, eq_self, reduceIte, reduceCtorEq, Nat.reduceLT, Nat.reduceEqDiff, Int.reduceBEq, acmpnil, q3]
        cases hq : rText l with
        | none =>
          rw [hq] at hr
          refine rd_none ⟨Tryz.f100, Tryz.func100, rfl, by kernel_rfl⟩ hr (fun r => ?_)
          simp only [aws]
          exact ⟨by (repeat (first | assumption | exact ExtX.refl hlt | refine ExtX.own ?_ _ | refine ExtX.new ?_ _ | refine ExtX.newTok ?_ | refine ExtX.setTok ?_ (by omega) _ | refine ExtX.set ?_ (by first | omega | (simp only [new_nb, set_nb, kill_nb, newTok_nb, setTok_nb]; omega)) _)), ⟨_, set_at _ _ _⟩, rfl⟩
        | some p =>
          obtain ⟨i, l2⟩ := p
          rw [hq] at hr
          refine rd_some ⟨Tryz.f100, Tryz.func100, rfl, by kernel_rfl⟩ hr ?_
          simp only [aws, eq_self, reduceIte, Nat.reduceAdd, Nat.reduceLT, Nat.reduceLeDiff, Nat.reduceEqDiff, storeB, ares1, teset, q3, H4, H5, hn1, hn2, hz]
          exact ⟨by (repeat (first | assumption | exact ExtX.refl hlt | refine ExtX.own ?_ _ | refine ExtX.new ?_ _ | refine ExtX.newTok ?_ | refine ExtX.setTok ?_ (by omega) _ | refine ExtX.set ?_ (by first | omega | (simp only [new_nb, set_nb, kill_nb, newTok_nb, setTok_nb]; omega)) _)), by simp only [aws, eq_self, reduceIte, hn3, hn4, Hb], _, rfl, wk_val wk_nil5 wk_nil1⟩
      rw [if_neg h3]
      have q3 : (((k : Nat) : Int) == 3) = false := by rw [beq_eq_false_iff_ne]; omega
      have hr := count_rd l Hb
      by_cases h45 : k = 4 ∨ k = 5
      · rw [if_pos h45]
        by_cases h4 : k = 4
        · have q4 : (((k : Nat) : Int) == 4) = true := by rw [h4]; rfl
          have q5 : (((k : Nat) : Int) == 5) = false := by rw [h4]; rfl
          have hk5 : (k == 5) = false := by rw [h4]; rfl
          simp only [aws, eq_self, reduceIte, reduceCtorEq, Nat.reduceLT, Nat.reduceEqDiff, acmpnil, q0, q1, q2, q3, q4]
          cases hq : rCount l with
          | none =>
            rw [hq] at hr
            refine rd_none ⟨Tryz.f94, Tryz.func94, rfl, by kernel_rfl⟩ hr (fun r => ?_)
            simp only [aws]
            exact ⟨by (repeat (first | assumption | exact ExtX.refl hlt | refine ExtX.own ?_ _ | refine ExtX.new ?_ _ | refine ExtX.newTok ?_ | refine ExtX.setTok ?_ (by omega) _ | refine ExtX.set ?_ (by first | omega | (simp only [new_nb, set_nb, kill_nb, newTok_nb, setTok_nb]; omega)) _)), ⟨_, set_at _ _ _⟩, rfl⟩
          | some p =>
            obtain ⟨n, l2⟩ := p
            have hnl := rCount_le hq
            rw [hq] at hr
            refine rd_some ⟨Tryz.f94, Tryz.func94, rfl, by kernel_rfl⟩ hr ?_
            simp only [aws, eq_self, Nat.reduceLT]
            refine ⟨fun nn s' h' => ∃ (j : Nat) (aX : AV) (xs : List V) (l' : List UInt8), s' 0 = .ptr b 0 ∧ s' 1 = .int .i64 ((L + 1 : Nat) : Int) ∧ s' 4 = .ptr h.nb 0 ∧ s' 5 = .ptr (h.nb + 1) 0 ∧ s' 38 = .int .i64 n ∧ s' 39 = .int .i64 j ∧ nn + j = n ∧ ExtX h b h' ∧ h.nb + 1 < h'.nb ∧ h'.box b = some [.str (bS l')] ∧ h'.box h.nb = some [.int .i64 0, .int .i64 0, .str ⟨#[]⟩, .sl .full 0 [], .sl .full 0 []] ∧ h'.box (h.nb + 1) = some [.int .i64 ((k : Nat) : Int), .int .i64 0, .str ⟨#[]⟩, aX, .sl .full 0 []] ∧ Own5 h' h.nt aX xs ∧ xs.length ≤ j ∧ l'.length ≤ l2.length ∧ rItems (rVal L) false n l2 = (rItems (rVal L) false nn l').map fun p => (xs ++ p.1, p.2.1, p.2.2), ⟨n, 0, .sl .full 0 [], [], l2, ?_⟩, ?_⟩
            · simp only [aws, eq_self, reduceIte, reduceCtorEq, Nat.reduceLeDiff, Nat.reduceEqDiff, Int.natCast_zero, H4, H5, Hb, hn1, hn2]
              refine ⟨by (repeat (first | assumption | exact ExtX.refl hlt | refine ExtX.own ?_ _ | refine ExtX.new ?_ _ | refine ExtX.newTok ?_ | refine ExtX.setTok ?_ (by omega) _ | refine ExtX.set ?_ (by first | omega | (simp only [new_nb, set_nb, kill_nb, newTok_nb, setTok_nb]; omega)) _)), Hnb, .inl ⟨rfl, rfl⟩, Nat.le_refl _, ?_⟩
              cases rItems (rVal L) false n l2 <;> rfl
            · rintro nn s' h' ⟨j, aX, xs, l', e0, e1, e4, e5, e38, e39, hnn, cX, cn, cb, c4, c5, ho, hxj, hll', hit⟩
              have hz2 : (h.nb + 1 = h.nb) = False := by rw [eq_iff_iff]; exact ⟨fun e => by omega, False.elim⟩
              have m1 : (h.nb + 1 = h'.nb) = False := by rw [eq_iff_iff]; exact ⟨fun e => by omega, False.elim⟩
              have m2 : (h'.nb = h.nb + 1) = False := by rw [eq_iff_iff]; exact ⟨fun e => by omega, False.elim⟩
              have m3 : (b = h'.nb) = False := by rw [eq_iff_iff]; exact ⟨fun e => by omega, False.elim⟩
              have m4 : (h'.nb = b) = False := by rw [eq_iff_iff]; exact ⟨fun e => by omega, False.elim⟩
              have m5 : (h.nb = h'.nb) = False := by rw [eq_iff_iff]; exact ⟨fun e => by omega, False.elim⟩
              have m6 : (h'.nb = h.nb) = False := by rw [eq_iff_iff]; exact ⟨fun e => by omega, False.elim⟩
              simp only [aws, eq_self, reduceIte, Nat.reduceLT, acmpnil, e38, e39]
              cases hc : decide ((j : Int) < (n : Int)) with
              | false =>
                simp only [decide_eq_false_iff_not] at hc
                obtain rfl : nn = 0 := by omega
                rw [show rItems (rVal L) false 0 l' = some ([], [], l') from rfl] at hit
                simp only [Option.map_some, List.append_nil] at hit
                rw [hk5, hit]
                have how := ho.wk
                rcases ho with ⟨rfl, rfl⟩ | ⟨t, G, rfl, htk, htn⟩
                · simp only [aws, eq_self, reduceIte, Nat.reduceAdd, Nat.reduceLT, Nat.reduceLeDiff, Nat.reduceEqDiff, storeB, ares1, teset, e4, e5, c4, c5]
                  exact ⟨by (repeat (first | assumption | exact ExtX.refl hlt | refine ExtX.own ?_ _ | refine ExtX.new ?_ _ | refine ExtX.newTok ?_ | refine ExtX.setTok ?_ (by omega) _ | refine ExtX.set ?_ (by first | omega | (simp only [new_nb, set_nb, kill_nb, newTok_nb, setTok_nb]; omega)) _)), by simp only [aws, eq_self, reduceIte, cb, hn3], _, rfl, wk_val how wk_nil1⟩
                · simp only [aws, eq_self, reduceIte, Nat.reduceAdd, Nat.reduceLT, Nat.reduceLeDiff, Nat.reduceEqDiff, storeB, ares1, teset, e4, e5, c4, c5]
                  exact ⟨by (repeat (first | assumption | exact ExtX.refl hlt | refine ExtX.own ?_ _ | refine ExtX.new ?_ _ | refine ExtX.newTok ?_ | refine ExtX.setTok ?_ (by omega) _ | refine ExtX.set ?_ (by first | omega | (simp only [new_nb, set_nb, kill_nb, newTok_nb, setTok_nb]; omega)) _)), by simp only [aws, eq_self, reduceIte, cb, hn3], _, rfl, wk_val how wk_nil1⟩
              | true =>
                simp only [decide_eq_true_eq] at hc
                obtain ⟨n', rfl⟩ : ∃ n', nn = n' + 1 := ⟨nn - 1, by omega⟩
                have hwL : IntKind.i64.wrap (((L + 1 : Nat) : Int) - 1) = ((L : Nat) : Int) := by rw [wrap_i64 (by omega) (by omega)]; omega
                have hvr := ih l' (h := h') (b := b) (by omega) (by omega) cb
                simp only [aws, eq_self, reduceIte, reduceCtorEq, Nat.reduceLT, Nat.reduceEqDiff, acmpnil, teset, e0, e1, e5, c5, q5, hwL]
                rw [show rItems (rVal L) false (n' + 1) l' = (match rVal L l' with
                  | some (x, l2) => (match rItems (rVal L) false n' l2 with
                    | some (xs, ks, l3) => some (x :: xs, [], l3)
                    | none => none)
                  | none => none) from rfl] at hit
                cases hvl : rVal L l' with
                | none =>
                  rw [hvl] at hvr hit
                  simp only [Option.map_none] at hit
                  rw [hk5, hit]
                  refine rd_none ⟨Tryz.f96, Tryz.func96, rfl, by kernel_rfl⟩ hvr (fun r => ?_)
                  simp only [aws]
                  exact ⟨by (repeat (first | assumption | exact ExtX.refl hlt | refine ExtX.own ?_ _ | refine ExtX.new ?_ _ | refine ExtX.newTok ?_ | refine ExtX.setTok ?_ (by omega) _ | refine ExtX.set ?_ (by first | omega | (simp only [new_nb, set_nb, kill_nb, newTok_nb, setTok_nb]; omega)) _)), ⟨_, set_at _ _ _⟩, rfl⟩
                | some p =>
                  obtain ⟨x, l3⟩ := p
                  rw [hvl] at hvr hit
                  simp only at hit
                  have hl3 := rVal_len hvl
                  refine rd_some ⟨Tryz.f96, Tryz.func96, rfl, by kernel_rfl⟩ hvr ?_
                  have hit2 : rItems (rVal L) false n l2 = (rItems (rVal L) false n' l3).map fun p => ((xs ++ [x]) ++ p.1, p.2.1, p.2.2) := by
                    rw [hit]
                    cases hri : rItems (rVal L) false n' l3 with
                    | none => rfl
                    | some p =>
                      obtain ⟨ys, js, l4⟩ := p
                      have := rItems_keys hri
                      subst this
                      simp
                  rcases ho with ⟨rfl, rfl⟩ | ⟨t, G, rfl, htk, htn⟩
                  · simp only [aws, eq_self, reduceIte, reduceCtorEq, Nat.reduceAdd, Nat.reduceLT, Nat.reduceLeDiff, Nat.reduceEqDiff, Nat.reduceMul, acmpnil, appBox, storeB, appendTo, teset, e0, e1, e4, e5, e38, e39, c4, c5, cb, hn1, hn2, hn4, hz, m1, m3, m4, m5, inj_take, inj_agg, inj_len, inj_one, range1]
                    refine .inl ?_
                    exact ⟨n', by omega, j + 1, _, [] ++ [x], l3, by rw [wrap_succ (by omega)], by omega, by (repeat (first | assumption | exact ExtX.refl hlt | refine ExtX.own ?_ _ | refine ExtX.new ?_ _ | refine ExtX.newTok ?_ | refine ExtX.setTok ?_ (by omega) _ | refine ExtX.set ?_ (by first | omega | (simp only [new_nb, set_nb, kill_nb, newTok_nb, setTok_nb]; omega)) _)), by omega, rfl, rfl, .inr ⟨h'.nt, 0, rfl, newTok_tok0 _, cX.nt⟩, by simp, by omega, hit2⟩
                  · have hout : xs.length < 1000000000000 := by omega
                    have hb0 : (xs.length + 1) * 80 ≤ 140737488355328 := by omega
                    simp only [aws, eq_self, reduceIte, reduceCtorEq, Nat.reduceAdd, Nat.reduceLT, Nat.reduceLeDiff, Nat.reduceEqDiff, Nat.reduceMul, acmpnil, appBox, storeB, appendTo, teset, e0, e1, e4, e5, e38, e39, c4, c5, cb, hn1, hn2, hn4, hz, m1, m3, m4, m5, inj_take, inj_agg, inj_len, inj_one, List.length_map, range1, htk, hb0, List.length_map]
                    exact ⟨n', by omega, j + 1, _, xs ++ [x], l3, by rw [wrap_succ (by omega)], by omega, by (repeat (first | assumption | exact ExtX.refl hlt | refine ExtX.own ?_ _ | refine ExtX.new ?_ _ | refine ExtX.newTok ?_ | refine ExtX.setTok ?_ (by omega) _ | refine ExtX.set ?_ (by first | omega | (simp only [new_nb, set_nb, kill_nb, newTok_nb, setTok_nb]; omega)) _)), by omega, rfl, rfl, .inr ⟨t, G + 1, by simp, by show (AH.setTok _ t (G + 1)).tok t = _; rw [setTok_tok, if_pos rfl], htn⟩, by simp; omega, by omega, hit2⟩
        · have h5 : k = 5 := h45.resolve_left h4
          have q4 : (((k : Nat) : Int) == 4) = false := by rw [h5]; rfl
          have q5 : (((k : Nat) : Int) == 5) = true := by rw [h5]; rfl
          have hk5 : (k == 5) = true := by rw [h5]; rfl
          simp only [aws, eq_self, reduceIte, reduceCtorEq, Nat.reduceLT, Nat.reduceEqDiff, acmpnil, q0, q1, q2, q3, q4, q5]
          cases hq : rCount l with
          | none =>
            rw [hq] at hr
            refine rd_none ⟨Tryz.f94, Tryz.func94, rfl, by kernel_rfl⟩ hr (fun r => ?_)
            simp only [aws]
            exact ⟨by (repeat (first | assumption | exact ExtX.refl hlt | refine ExtX.own ?_ _ | refine ExtX.new ?_ _ | refine ExtX.newTok ?_ | refine ExtX.setTok ?_ (by omega) _ | refine ExtX.set ?_ (by first | omega | (simp only [new_nb, set_nb, kill_nb, newTok_nb, setTok_nb]; omega)) _)), ⟨_, set_at _ _ _⟩, rfl⟩
          | some p =>
            obtain ⟨n, l2⟩ := p
            have hnl := rCount_le hq
            rw [hq] at hr
            refine rd_some ⟨Tryz.f94, Tryz.func94, rfl, by kernel_rfl⟩ hr ?_
            simp only [aws, eq_self, Nat.reduceLT]
            refine ⟨fun nn s' h' => ∃ (j : Nat) (aX aK : AV) (xs : List V) (ks : List ByteArray) (l' : List UInt8), s' 0 = .ptr b 0 ∧ s' 1 = .int .i64 ((L + 1 : Nat) : Int) ∧ s' 4 = .ptr h.nb 0 ∧ s' 5 = .ptr (h.nb + 1) 0 ∧ s' 38 = .int .i64 n ∧ s' 39 = .int .i64 j ∧ nn + j = n ∧ ExtX h b h' ∧ h.nb + 1 < h'.nb ∧ h'.box b = some [.str (bS l')] ∧ h'.box h.nb = some [.int .i64 0, .int .i64 0, .str ⟨#[]⟩, .sl .full 0 [], .sl .full 0 []] ∧ h'.box (h.nb + 1) = some [.int .i64 ((k : Nat) : Int), .int .i64 0, .str ⟨#[]⟩, aX, aK] ∧ OwnO h' h.nt aX aK xs ks ∧ xs.length ≤ j ∧ ks.length ≤ j ∧ l'.length ≤ l2.length ∧ rItems (rVal L) true n l2 = (rItems (rVal L) true nn l').map fun p => (xs ++ p.1, ks ++ p.2.1, p.2.2), ⟨n, 0, .sl .full 0 [], .sl .full 0 [], [], [], l2, ?_⟩, ?_⟩
            · simp only [aws, eq_self, reduceIte, reduceCtorEq, Nat.reduceLeDiff, Nat.reduceEqDiff, Int.natCast_zero, H4, H5, Hb, hn1, hn2]
              refine ⟨by (repeat (first | assumption | exact ExtX.refl hlt | refine ExtX.own ?_ _ | refine ExtX.new ?_ _ | refine ExtX.newTok ?_ | refine ExtX.setTok ?_ (by omega) _ | refine ExtX.set ?_ (by first | omega | (simp only [new_nb, set_nb, kill_nb, newTok_nb, setTok_nb]; omega)) _)), Hnb, .inl ⟨rfl, rfl, rfl, rfl⟩, Nat.le_refl _, ?_⟩
              cases rItems (rVal L) true n l2 <;> rfl
            · rintro nn s' h' ⟨j, aX, aK, xs, ks, l', e0, e1, e4, e5, e38, e39, hnn, cX, cn, cb, c4, c5, ho, hxj, hkj, hll', hit⟩
              have hz2 : (h.nb + 1 = h.nb) = False := by rw [eq_iff_iff]; exact ⟨fun e => by omega, False.elim⟩
              have m1 : (h.nb + 1 = h'.nb) = False := by rw [eq_iff_iff]; exact ⟨fun e => by omega, False.elim⟩
              have m2 : (h'.nb = h.nb + 1) = False := by rw [eq_iff_iff]; exact ⟨fun e => by omega, False.elim⟩
              have m3 : (b = h'.nb) = False := by rw [eq_iff_iff]; exact ⟨fun e => by omega, False.elim⟩
              have m4 : (h'.nb = b) = False := by rw [eq_iff_iff]; exact ⟨fun e => by omega, False.elim⟩
              have m5 : (h.nb = h'.nb) = False := by rw [eq_iff_iff]; exact ⟨fun e => by omega, False.elim⟩
              have m6 : (h'.nb = h.nb) = False := by rw [eq_iff_iff]; exact ⟨fun e => by omega, False.elim⟩
              simp only [aws, eq_self, reduceIte, Nat.reduceLT, acmpnil, e38, e39]
              cases hc : decide ((j : Int) < (n : Int)) with
              | false =>
                simp only [decide_eq_false_iff_not] at hc
                obtain rfl : nn = 0 := by omega
                rw [show rItems (rVal L) true 0 l' = some ([], [], l') from rfl] at hit
                simp only [Option.map_some, List.append_nil] at hit
                rw [hk5, hit]
                obtain ⟨how1, how2⟩ := ho.wk
                rcases ho with ⟨rfl, rfl, rfl, rfl⟩ | ⟨t, G, t', G', rfl, rfl, htk, htk', htn, htn', htt⟩
                · simp only [aws, eq_self, reduceIte, Nat.reduceAdd, Nat.reduceLT, Nat.reduceLeDiff, Nat.reduceEqDiff, storeB, ares1, teset, e4, e5, c4, c5]
                  exact ⟨by (repeat (first | assumption | exact ExtX.refl hlt | refine ExtX.own ?_ _ | refine ExtX.new ?_ _ | refine ExtX.newTok ?_ | refine ExtX.setTok ?_ (by omega) _ | refine ExtX.set ?_ (by first | omega | (simp only [new_nb, set_nb, kill_nb, newTok_nb, setTok_nb]; omega)) _)), by simp only [aws, eq_self, reduceIte, cb, hn3], _, rfl, wk_val how1 how2⟩
                · simp only [aws, eq_self, reduceIte, Nat.reduceAdd, Nat.reduceLT, Nat.reduceLeDiff, Nat.reduceEqDiff, storeB, ares1, teset, e4, e5, c4, c5]
                  exact ⟨by (repeat (first | assumption | exact ExtX.refl hlt | refine ExtX.own ?_ _ | refine ExtX.new ?_ _ | refine ExtX.newTok ?_ | refine ExtX.setTok ?_ (by omega) _ | refine ExtX.set ?_ (by first | omega | (simp only [new_nb, set_nb, kill_nb, newTok_nb, setTok_nb]; omega)) _)), by simp only [aws, eq_self, reduceIte, cb, hn3], _, rfl, wk_val how1 how2⟩
              | true =>
                simp only [decide_eq_true_eq] at hc
                obtain ⟨n', rfl⟩ : ∃ n', nn = n' + 1 := ⟨nn - 1, by omega⟩
                have hwL : IntKind.i64.wrap (((L + 1 : Nat) : Int) - 1) = ((L : Nat) : Int) := by rw [wrap_i64 (by omega) (by omega)]; omega
                have htr := text_rd l' cb
                simp only [aws, eq_self, reduceIte, reduceCtorEq, Nat.reduceLT, Nat.reduceEqDiff, acmpnil, teset, e0, e5, c5, q5]
                rw [show rItems (rVal L) true (n' + 1) l' = (match rText l' with
                  | some (k, l1) => (match rVal L l1 with
                    | some (x, l2) => (match rItems (rVal L) true n' l2 with
                      | some (xs, ks, l3) => some (x :: xs, k :: ks, l3)
                      | none => none)
                    | none => none)
                  | none => none) from rfl] at hit
                cases htx : rText l' with
                | none =>
                  rw [htx] at htr hit
                  simp only [Option.map_none] at hit
                  rw [hk5, hit]
                  refine rd_none ⟨Tryz.f100, Tryz.func100, rfl, by kernel_rfl⟩ htr (fun r => ?_)
                  simp only [aws]
                  exact ⟨by (repeat (first | assumption | exact ExtX.refl hlt | refine ExtX.own ?_ _ | refine ExtX.new ?_ _ | refine ExtX.newTok ?_ | refine ExtX.setTok ?_ (by omega) _ | refine ExtX.set ?_ (by first | omega | (simp only [new_nb, set_nb, kill_nb, newTok_nb, setTok_nb]; omega)) _)), ⟨_, set_at _ _ _⟩, rfl⟩
                | some p =>
                  obtain ⟨key, l1⟩ := p
                  rw [htx] at htr hit
                  simp only at hit
                  have hl1 := (rText_len htx).1
                  refine rd_some ⟨Tryz.f100, Tryz.func100, rfl, by kernel_rfl⟩ htr ?_
                  cases hvl : rVal L l1 with
                  | none =>
                    rw [hvl] at hit
                    simp only [Option.map_none] at hit
                    rw [hk5, hit]
                    have hvr : ∀ X : AH, X.box b = some [.str (bS l1)] → ACalls Tryz.prog 96 [.ptr b 0, .int .i64 (L : Int)] X (RdPost X b none) := fun X hX => by
                      have := ih l1 (h := X) (b := b) (by omega) (by omega) hX
                      rw [hvl] at this; exact this
                    rcases ho with ⟨rfl, rfl, rfl, rfl⟩ | ⟨t, G, t', G', rfl, rfl, htk, htk', htn, htn', htt⟩
                    · simp only [aws, eq_self, reduceIte, reduceCtorEq, Nat.reduceAdd, Nat.reduceLT, Nat.reduceLeDiff, Nat.reduceEqDiff, Nat.reduceMul, acmpnil, appBox, storeB, appendTo, teset, e0, e1, e5, c5, hn2, m1, range1, hwL]
                      refine .inl ?_
                      refine rd_none ⟨Tryz.f96, Tryz.func96, rfl, by kernel_rfl⟩ (hvr _ (by simp only [aws, eq_self, reduceIte, cb, hn4])) (fun r => ?_)
                      simp only [aws]
                      exact ⟨by (repeat (first | assumption | exact ExtX.refl hlt | refine ExtX.own ?_ _ | refine ExtX.new ?_ _ | refine ExtX.newTok ?_ | refine ExtX.setTok ?_ (by omega) _ | refine ExtX.set ?_ (by first | omega | (simp only [new_nb, set_nb, kill_nb, newTok_nb, setTok_nb]; omega)) _)), ⟨_, set_at _ _ _⟩, rfl⟩
                    · have hb1 : (ks.length + 1) * 16 ≤ 140737488355328 := by omega
                      simp only [aws, eq_self, reduceIte, reduceCtorEq, Nat.reduceAdd, Nat.reduceLT, Nat.reduceLeDiff, Nat.reduceEqDiff, Nat.reduceMul, acmpnil, appBox, storeB, appendTo, teset, e0, e1, e5, c5, hn2, List.length_map, range1, htk', hb1, List.length_map, hwL]
                      refine rd_none ⟨Tryz.f96, Tryz.func96, rfl, by kernel_rfl⟩ (hvr _ (by simp only [aws, eq_self, reduceIte, cb, hn4])) (fun r => ?_)
                      simp only [aws]
                      exact ⟨by (repeat (first | assumption | exact ExtX.refl hlt | refine ExtX.own ?_ _ | refine ExtX.new ?_ _ | refine ExtX.newTok ?_ | refine ExtX.setTok ?_ (by omega) _ | refine ExtX.set ?_ (by first | omega | (simp only [new_nb, set_nb, kill_nb, newTok_nb, setTok_nb]; omega)) _)), ⟨_, set_at _ _ _⟩, rfl⟩
                  | some p =>
                    obtain ⟨x, l3⟩ := p
                    rw [hvl] at hit
                    simp only at hit
                    have hl3 := rVal_len hvl
                    have hvr : ∀ X : AH, X.box b = some [.str (bS l1)] → ACalls Tryz.prog 96 [.ptr b 0, .int .i64 (L : Int)] X (RdPost X b (some (inj x, l3))) := fun X hX => by
                      have := ih l1 (h := X) (b := b) (by omega) (by omega) hX
                      rw [hvl] at this; exact this
                    have hit2 : rItems (rVal L) true n l2 = (rItems (rVal L) true n' l3).map fun p => ((xs ++ [x]) ++ p.1, (ks ++ [key]) ++ p.2.1, p.2.2) := by
                      rw [hit]
                      cases hri : rItems (rVal L) true n' l3 with
                      | none => rfl
                      | some p =>
                        obtain ⟨ys, js, l4⟩ := p
                        simp
                    rcases ho with ⟨rfl, rfl, rfl, rfl⟩ | ⟨t, G, t', G', rfl, rfl, htk, htk', htn, htn', htt⟩
                    · simp only [aws, eq_self, reduceIte, reduceCtorEq, Nat.reduceAdd, Nat.reduceLT, Nat.reduceLeDiff, Nat.reduceEqDiff, Nat.reduceMul, acmpnil, appBox, storeB, appendTo, teset, e0, e1, e5, c5, hn2, m1, range1, hwL]
                      refine .inl ?_
                      refine rd_some ⟨Tryz.f96, Tryz.func96, rfl, by kernel_rfl⟩ (hvr _ (by simp only [aws, eq_self, reduceIte, cb, hn4])) ?_
                      simp only [aws, eq_self, reduceIte, reduceCtorEq, Nat.reduceAdd, Nat.reduceLT, Nat.reduceLeDiff, Nat.reduceEqDiff, Nat.reduceMul, acmpnil, appBox, storeB, appendTo, teset, e0, e1, e4, e5, e38, e39, c4, c5, cb, hn1, hn2, hn4, hz, m1, m2, m3, m4, m5, inj_take, inj_agg, inj_len, inj_one, range1]
                      refine .inl ?_
                      have hnt := cX.nt
                      exact ⟨n', by omega, j + 1, _, _, [] ++ [x], [] ++ [key], l3, by rw [wrap_succ (by omega)], by omega, by (repeat (first | assumption | exact ExtX.refl hlt | refine ExtX.own ?_ _ | refine ExtX.new ?_ _ | refine ExtX.newTok ?_ | refine ExtX.setTok ?_ (by omega) _ | refine ExtX.set ?_ (by first | omega | (simp only [new_nb, set_nb, kill_nb, newTok_nb, setTok_nb]; omega)) _)), by omega, rfl, rfl, .inr ⟨h'.nt + 1, 0, h'.nt, 0, rfl, rfl, (by show (AH.newTok _).tok _ = _; exact newTok_at rfl), (by show (AH.newTok _).tok _ = _; exact (newTok_old (Nat.lt_succ_self h'.nt)).trans (newTok_tok0 (h'.set b [.str (bS l1)]))), by omega, hnt, by omega⟩, by simp, by simp, by omega, hit2⟩
                    · have htt1 : (t = t') = False := by rw [eq_iff_iff]; exact ⟨htt, False.elim⟩
                      have htt2 : (t' = t) = False := by rw [eq_iff_iff]; exact ⟨fun e => htt e.symm, False.elim⟩
                      have hb1 : (ks.length + 1) * 16 ≤ 140737488355328 := by omega
                      have hb0 : (xs.length + 1) * 80 ≤ 140737488355328 := by omega
                      simp only [aws, eq_self, reduceIte, reduceCtorEq, Nat.reduceAdd, Nat.reduceLT, Nat.reduceLeDiff, Nat.reduceEqDiff, Nat.reduceMul, acmpnil, appBox, storeB, appendTo, teset, e0, e1, e5, c5, hn2, List.length_map, range1, htk', hb1, List.length_map, hwL]
                      refine rd_some ⟨Tryz.f96, Tryz.func96, rfl, by kernel_rfl⟩ (hvr _ (by simp only [aws, eq_self, reduceIte, cb, hn4])) ?_
                      simp only [aws, eq_self, reduceIte, reduceCtorEq, Nat.reduceAdd, Nat.reduceLT, Nat.reduceLeDiff, Nat.reduceEqDiff, Nat.reduceMul, acmpnil, appBox, storeB, appendTo, teset, e0, e1, e4, e5, e38, e39, c4, c5, cb, hn1, hn2, hn4, hz, m1, m2, m3, m4, m5, inj_take, inj_agg, inj_len, inj_one, List.length_map, range1, htk, htt1, hb0, List.length_map]
                      exact ⟨n', by omega, j + 1, _, _, xs ++ [x], ks ++ [key], l3, by rw [wrap_succ (by omega)], by omega, by (repeat (first | assumption | exact ExtX.refl hlt | refine ExtX.own ?_ _ | refine ExtX.new ?_ _ | refine ExtX.newTok ?_ | refine ExtX.setTok ?_ (by omega) _ | refine ExtX.set ?_ (by first | omega | (simp only [new_nb, set_nb, kill_nb, newTok_nb, setTok_nb]; omega)) _)), by omega, rfl, rfl, .inr ⟨t, G + 1, t', G' + 1, by simp, by simp, by show (AH.setTok _ t (G + 1)).tok t = _; rw [setTok_tok, if_pos rfl], by show (AH.setTok _ t (G + 1)).tok t' = _; rw [setTok_tok, if_neg (fun e => htt e.symm)]; show (AH.setTok _ t' (G' + 1)).tok t' = _; rw [setTok_tok, if_pos rfl], htn, htn', htt⟩, by simp; omega, by simp; omega, by omega, hit2⟩
      · rw [if_neg h45]
        have q4 : (((k : Nat) : Int) == 4) = false := by rw [beq_eq_false_iff_ne]; omega
        have q5 : (((k : Nat) : Int) == 5) = false := by rw [beq_eq_false_iff_ne]; omega
        simp only [aws, eq_self, reduceIte, Nat.reduceLT, Nat.reduceEqDiff, acmpnil, q0, q1, q2, q3, q4, q5]
        refine demand_call (fun hc => by cases hc) (fun _ => ?_)
        simp only [aws]
        exact ⟨by (repeat (first | assumption | exact ExtX.refl hlt | refine ExtX.own ?_ _ | refine ExtX.new ?_ _ | refine ExtX.newTok ?_ | refine ExtX.setTok ?_ (by omega) _ | refine ExtX.set ?_ (by first | omega | (simp only [new_nb, set_nb, kill_nb, newTok_nb, setTok_nb]; omega)) _)), ⟨_, Hb⟩, rfl⟩
end Go.Proofs.YtlbhgoffiigfbaaGreat.AW
end
section
set_option linter.unusedSimpArgs false
set_option linter.unusedVariables false
namespace Go.Proofs.YtlbhgoffiigfbaaGreat.AW
open Go Go.RowKit

theorem rItems_sm {f : List UInt8 → Option (V × List UInt8)} {obj : Bool} (hl : ∀ l x r, f l = some (x, r) → r.length < l.length) (hf : ∀ l x r, l.length < 1000000000000 → f l = some (x, r) → x.sm) : ∀ {n : Nat} {l : List UInt8} {xs : List V} {ks : List ByteArray} {r : List UInt8}, l.length < 1000000000000 → rItems f obj n l = some (xs, ks, r) → xs.length = n ∧ ks.length ≤ n ∧ ∀ x ∈ xs, x.sm
  | 0, l, xs, ks, r, _, h => by
    injection h with h; injection h with h1 h2; injection h2 with h2 h3; subst h1 h2
    exact ⟨rfl, Nat.le_refl _, fun x hx => by cases hx⟩
  | n + 1, l, xs, ks, r, hll, h => by
    rw [rItems] at h
    split at h
    · next k l1 h1 =>
      have e1 : l1.length ≤ l.length := by
        split at h1
        · have := (rText_len h1).1; omega
        · injection h1 with h1; injection h1 with _ h1; subst h1; exact Nat.le_refl _
      split at h
      · next x l2 h2 =>
        have e2 := hl _ _ _ h2
        have s2 := hf _ _ _ (by omega) h2
        split at h
        · next xs' ks' l3 h3 =>
          obtain ⟨g1, g2, g3⟩ := rItems_sm hl hf (by omega) h3
          injection h with h; injection h with h4 h; injection h with h5 h; subst h4 h5
          refine ⟨by simp [g1], ?_, fun y hy => ?_⟩
          · split
            · simp only [List.length_cons]; omega
            · simp
          · rcases List.mem_cons.1 hy with rfl | hy
            · exact s2
            · exact g3 y hy
        · cases h
      · cases h
    · cases h
theorem leaf_sm (k i : Int) (t : ByteArray) : (V.mk k i t [] []).sm := by simp [V.sm, V.smL]
theorem rVal_sm : ∀ {L : Nat} {l : List UInt8} {v : V} {r : List UInt8}, l.length < 1000000000000 → rVal L l = some (v, r) → v.sm
  | 0, _, _, _, _, h => by cases h
  | L + 1, l, v, r, hll, h => by
    cases l with
    | nil => cases h
    | cons c l =>
      rw [rVal] at h
      simp only [rByte] at h
      simp only [List.length_cons] at hll
      split at h
      · injection h with h; injection h with h _; subst h; exact leaf_sm _ _ _
      split at h
      · cases l with
        | nil => cases h
        | cons d l => injection h with h; injection h with h _; subst h; exact leaf_sm _ _ _
      split at h
      · split at h
        · injection h with h; injection h with h _; subst h; exact leaf_sm _ _ _
        · cases h
      split at h
      · split at h
        · injection h with h; injection h with h _; subst h; exact leaf_sm _ _ _
        · cases h
      split at h
      · split at h
        · next h1 =>
          have := rCount_le h1
          split at h
          · next h2 =>
            obtain ⟨g1, g2, g3⟩ := rItems_sm (fun l x r hh => rVal_len hh) (fun l x r hb hh => rVal_sm hb hh) (by omega) h2
            injection h with h; injection h with h _; subst h
            simp only [V.sm, V.smL_iff]
            exact ⟨by omega, by omega, g3⟩
          · cases h
        · cases h
      · cases h
def rValsN : Nat → List V → List UInt8 → Option (List V × List UInt8)
  | 0, acc, l => some (acc, l)
  | n + 1, acc, l => match rVal 6 l with
    | some (x, l2) => if valid x = true then rValsN n (acc ++ [x]) l2 else none
    | none => none
def rVals (l : List UInt8) : Option (List V × List UInt8) := match rCount l with
  | some (n, l2) => if n ≤ 200 then rValsN n [] l2 else none
  | none => none
def rRunsN : Nat → List V → List UInt8 → Option (List V × List UInt8)
  | 0, acc, l => some (acc, l)
  | n + 1, acc, l => match rNum l with
    | some (m, l1) => if m ≤ 200 then (match rVal 6 l1 with
      | some (x, l2) => if (acc ++ List.replicate m x).length ≤ 200 then rRunsN n (acc ++ List.replicate m x) l2 else none
      | none => none) else none
    | none => none
def rRuns (l : List UInt8) : Option (List V × List UInt8) := match rCount l with
  | some (n, l2) => rRunsN n [] l2
  | none => none
def rDictN (ws : List V) : Nat → List V → List UInt8 → Option (List V × List UInt8)
  | 0, acc, l => some (acc, l)
  | n + 1, acc, l => match rNum l with
    | some (i, l1) => if h : i < ws.length then rDictN ws n (acc ++ [ws[i]]) l1 else none
    | none => none
def rDict (l : List UInt8) : Option (List V × List UInt8) := match rVals l with
  | some (ws, l1) => (match rCount l1 with
    | some (n, l2) => rDictN ws n [] l2
    | none => none)
  | none => none
def intV (n : Int) : V := .mk 2 n ⟨#[]⟩ [] []
def rDeltaN : Nat → Int → List V → List UInt8 → Option (List V × List UInt8)
  | 0, _, acc, l => some (acc, l)
  | n + 1, p, acc, l => match rInt l with
    | some (d, l1) => if -1000000000000 ≤ p + d ∧ p + d ≤ 1000000000000 then rDeltaN n (p + d) (acc ++ [intV (p + d)]) l1 else none
    | none => none
def rDelta (l : List UInt8) : Option (List V × List UInt8) := match rCount l with
  | some (n, l2) => rDeltaN n 0 [] l2
  | none => none
def rEnc (e : Nat) (l : List UInt8) : Option (List V × List UInt8) := if e = 1 then rVals l else if e = 2 then rRuns l else if e = 3 then rDict l else rDelta l
theorem rValsN_ok : ∀ {n : Nat} {acc : List V} {l : List UInt8} {xs : List V} {r : List UInt8}, l.length < 1000000000000 → (∀ x ∈ acc, x.sm) → rValsN n acc l = some (xs, r) → (∀ x ∈ xs, x.sm) ∧ xs.length = acc.length + n ∧ r.length ≤ l.length
  | 0, acc, l, xs, r, _, ha, h => by injection h with h; injection h with h1 h2; subst h1 h2; exact ⟨ha, by omega, Nat.le_refl _⟩
  | n + 1, acc, l, xs, r, hl, ha, h => by
    rw [rValsN] at h
    split at h
    · next x l2 h1 =>
      have e1 := rVal_len h1
      have e2 := rVal_sm hl h1
      split at h
      · obtain ⟨g1, g2, g3⟩ := rValsN_ok (by omega) (fun y hy => (List.mem_append.1 hy).elim (ha y) (fun hy => by rw [List.mem_singleton.1 hy]; exact e2)) h
        rw [List.length_append, List.length_singleton] at g2
        exact ⟨g1, by omega, by omega⟩
      · cases h
    · cases h
theorem rVals_ok {l : List UInt8} {xs : List V} {r : List UInt8} (hl : l.length < 1000000000000) (h : rVals l = some (xs, r)) : (∀ x ∈ xs, x.sm) ∧ xs.length ≤ 200 ∧ r.length ≤ l.length := by
  unfold rVals at h
  split at h
  · next h1 =>
    have := rCount_le h1
    split at h
    · obtain ⟨g1, g2, g3⟩ := rValsN_ok (by omega) (fun x hx => by cases hx) h
      simp only [List.length_nil] at g2
      exact ⟨g1, by omega, by omega⟩
    · cases h
  · cases h
theorem rRunsN_ok : ∀ {n : Nat} {acc : List V} {l : List UInt8} {xs : List V} {r : List UInt8}, l.length < 1000000000000 → (∀ x ∈ acc, x.sm) → acc.length ≤ 200 → rRunsN n acc l = some (xs, r) → (∀ x ∈ xs, x.sm) ∧ xs.length ≤ 200 ∧ r.length ≤ l.length
  | 0, acc, l, xs, r, _, ha, hal, h => by injection h with h; injection h with h1 h2; subst h1 h2; exact ⟨ha, hal, Nat.le_refl _⟩
  | n + 1, acc, l, xs, r, hl, ha, hal, h => by
    rw [rRunsN] at h
    split at h
    · next m l1 h0 =>
      have e0 := (rNum_len h0).1
      split at h
      · split at h
        · next x l2 h1 =>
          have e1 := rVal_len h1
          have e2 := rVal_sm (by omega) h1
          split at h
          · next hle =>
            obtain ⟨g1, g2, g3⟩ := rRunsN_ok (by omega) (fun y hy => (List.mem_append.1 hy).elim (ha y) (fun hy => by rw [(List.mem_replicate.1 hy).2]; exact e2)) hle h
            exact ⟨g1, g2, by omega⟩
          · cases h
        · cases h
      · cases h
    · cases h
theorem rDictN_ok {ws : List V} (hw : ∀ x ∈ ws, x.sm) : ∀ {n : Nat} {acc : List V} {l : List UInt8} {xs : List V} {r : List UInt8}, (∀ x ∈ acc, x.sm) → rDictN ws n acc l = some (xs, r) → (∀ x ∈ xs, x.sm) ∧ xs.length = acc.length + n ∧ r.length ≤ l.length
  | 0, acc, l, xs, r, ha, h => by injection h with h; injection h with h1 h2; subst h1 h2; exact ⟨ha, by omega, Nat.le_refl _⟩
  | n + 1, acc, l, xs, r, ha, h => by
    rw [rDictN] at h
    split at h
    · next m l1 h0 =>
      have e0 := (rNum_len h0).1
      split at h
      · next hm =>
        obtain ⟨g1, g2, g3⟩ := rDictN_ok hw (fun y hy => (List.mem_append.1 hy).elim (ha y) (fun hy => by rw [List.mem_singleton.1 hy]; exact hw _ (List.getElem_mem hm))) h
        rw [List.length_append, List.length_singleton] at g2
        exact ⟨g1, by omega, by omega⟩
      · cases h
    · cases h
theorem rDeltaN_ok : ∀ {n : Nat} {p : Int} {acc : List V} {l : List UInt8} {xs : List V} {r : List UInt8}, (∀ x ∈ acc, x.sm) → rDeltaN n p acc l = some (xs, r) → (∀ x ∈ xs, x.sm) ∧ xs.length = acc.length + n ∧ r.length ≤ l.length
  | 0, p, acc, l, xs, r, ha, h => by injection h with h; injection h with h1 h2; subst h1 h2; exact ⟨ha, by omega, Nat.le_refl _⟩
  | n + 1, p, acc, l, xs, r, ha, h => by
    rw [rDeltaN] at h
    split at h
    · next d l1 h0 =>
      have e0 := rInt_len h0
      split at h
      · obtain ⟨g1, g2, g3⟩ := rDeltaN_ok (fun y hy => (List.mem_append.1 hy).elim (ha y) (fun hy => by rw [List.mem_singleton.1 hy]; exact leaf_sm _ _ _)) h
        rw [List.length_append, List.length_singleton] at g2
        exact ⟨g1, by omega, by omega⟩
      · cases h
    · cases h
theorem rEnc_ok {e : Nat} {l : List UInt8} {xs : List V} {r : List UInt8} (hl : l.length < 1000000000000) (h : rEnc e l = some (xs, r)) : (∀ x ∈ xs, x.sm) ∧ xs.length < 1000000000000 := by
  unfold rEnc at h
  split at h
  · have := rVals_ok hl h; exact ⟨this.1, by omega⟩
  split at h
  · unfold rRuns at h
    split at h
    · next h1 =>
      have := rCount_le h1
      have := rRunsN_ok (by omega) (fun x hx => by cases hx) (by simp) h
      exact ⟨this.1, by omega⟩
    · cases h
  split at h
  · unfold rDict at h
    split at h
    · next h1 =>
      have g := rVals_ok hl h1
      split at h
      · next h2 =>
        have := rCount_le h2
        have := rDictN_ok g.1 (fun x hx => by cases hx) h
        simp only [List.length_nil] at this
        exact ⟨this.1, by omega⟩
      · cases h
    · cases h
  · unfold rDelta at h
    split at h
    · next h1 =>
      have := rCount_le h1
      have := rDeltaN_ok (fun x hx => by cases hx) h
      simp only [List.length_nil] at this
      exact ⟨this.1, by omega⟩
    · cases h
end Go.Proofs.YtlbhgoffiigfbaaGreat.AW
end
section
set_option linter.unusedSimpArgs false
set_option linter.unusedVariables false
namespace Go.Proofs.YtlbhgoffiigfbaaGreat.AW
open Go Go.RowKit

def lO (o : Option (List V × List UInt8)) : Option (AV × List UInt8) := o.map fun p => (.sl .ro 5 (p.1.map inj), p.2)
theorem lO_under {o : Option (List V × List UInt8)} {v : AV} {r : List UInt8} (e : lO o = some (v, r)) : v.under 0 0 = true := by
  cases o with
  | none => cases e
  | some p => injection e with e; injection e with e1 e2; subst e1; exact injs_und _
set_option maxHeartbeats 4000000 in
theorem values_rd (l : List UInt8) {h : AH} {b : Nat} (hll : l.length < 1000000000000) (hb : h.box b = some [.str (bS l)]) : ACalls Tryz.prog 92 [.ptr b 0] h (RdPost h b (lO (rVals l))) := by
  have hr := count_rd l hb
  refine Rd.of (fun v r e => lO_under e) fun hsc => ?_
  have hlt := hsc.box _ _ hb
  refine acalls_of te_ok [] Tryz.func92 (c := _) rfl (Nat.le_of_ble_eq_true rfl) ?_
  simp only [aws, eq_self, reduceIte, Nat.reduceLT, Tryz.ntmps92, Tryz.results92]
  unfold rVals
  cases hq : rCount l with
  | none =>
    rw [hq] at hr
    refine rd_none ⟨Tryz.f94, Tryz.func94, rfl, by kernel_rfl⟩ hr (fun r => ?_)
    simp only [aws]
    exact ⟨by (repeat (first | assumption | exact ExtX.refl hlt | refine ExtX.own ?_ _ | refine ExtX.new ?_ _ | refine ExtX.newTok ?_ | refine ExtX.setTok ?_ (by omega) _ | refine ExtX.set ?_ (by first | omega | (simp only [new_nb, set_nb, kill_nb, newTok_nb, setTok_nb]; omega)) _)), ⟨_, set_at _ _ _⟩, rfl⟩
  | some p =>
    obtain ⟨n, l2⟩ := p
    have hnl := rCount_le hq
    rw [hq] at hr
    refine rd_some ⟨Tryz.f94, Tryz.func94, rfl, by kernel_rfl⟩ hr ?_
    simp only [aws, eq_self, reduceIte, Nat.reduceLT, acmpnil]
    refine demand_call (fun hc => ?_) (fun hc => ?_)
    · have hn200 : n ≤ 200 := by have := of_decide_eq_true hc; omega
      simp only [if_pos hn200]
      simp only [aws, eq_self, reduceIte, Nat.reduceLT]
      refine ⟨fun nn s' h' => ∃ (j : Nat) (aX : AV) (xs : List V) (l' : List UInt8), s' 0 = .ptr b 0 ∧ s' 3 = aX ∧ s' 11 = .int .i64 n ∧ s' 12 = .int .i64 j ∧ nn + j = n ∧ ExtX h b h' ∧ h'.box b = some [.str (bS l')] ∧ Own5 h' h.nt aX xs ∧ xs.length ≤ j ∧ l'.length ≤ l2.length ∧ rValsN n [] l2 = rValsN nn xs l', ⟨n, 0, .sl .full 0 [], [], l2, ?_⟩, ?_⟩
      · simp only [aws, eq_self, reduceIte, reduceCtorEq, Nat.reduceLeDiff, Nat.reduceEqDiff, Int.natCast_zero]
        exact ⟨by (repeat (first | assumption | exact ExtX.refl hlt | refine ExtX.own ?_ _ | refine ExtX.new ?_ _ | refine ExtX.newTok ?_ | refine ExtX.setTok ?_ (by omega) _ | refine ExtX.set ?_ (by first | omega | (simp only [new_nb, set_nb, kill_nb, newTok_nb, setTok_nb]; omega)) _)), .inl ⟨rfl, rfl⟩, Nat.le_refl _⟩
      · rintro nn s' h' ⟨j, aX, xs, l', e0, e3, e11, e12, hnn, cX, cb, ho, hxj, hll', hit⟩
        have hnb := cX.nb
        have m1 : (b = h'.nb) = False := by rw [eq_iff_iff]; exact ⟨fun e => by omega, False.elim⟩
        have m2 : (h'.nb = b) = False := by rw [eq_iff_iff]; exact ⟨fun e => by omega, False.elim⟩
        simp only [aws, eq_self, reduceIte, Nat.reduceLT, acmpnil, e11, e12]
        cases hc2 : decide ((j : Int) < (n : Int)) with
        | false =>
          simp only [decide_eq_false_iff_not] at hc2
          obtain rfl : nn = 0 := by omega
          rw [hit]
          simp only [aws, eq_self, reduceIte, Nat.reduceLT, Nat.reduceEqDiff, ares1, e3]
          exact ⟨cX, cb, _, rfl, ho.wk⟩
        | true =>
          simp only [decide_eq_true_eq] at hc2
          obtain ⟨n', rfl⟩ : ∃ n', nn = n' + 1 := ⟨nn - 1, by omega⟩
          rw [rValsN] at hit
          have hvr := value_rd 6 l' (h := h') (b := b) (by omega) (by omega) cb
          rw [show ((6 : Nat) : Int) = 6 from rfl] at hvr
          simp only [aws, eq_self, reduceIte, reduceCtorEq, Nat.reduceLT, e0]
          cases hvl : rVal 6 l' with
          | none =>
            rw [hvl] at hvr hit
            rw [hit]
            refine rd_none ⟨Tryz.f96, Tryz.func96, rfl, by kernel_rfl⟩ hvr (fun r => ?_)
            simp only [aws]
            exact ⟨by (repeat (first | assumption | exact ExtX.refl hlt | refine ExtX.own ?_ _ | refine ExtX.new ?_ _ | refine ExtX.newTok ?_ | refine ExtX.setTok ?_ (by omega) _ | refine ExtX.set ?_ (by first | omega | (simp only [new_nb, set_nb, kill_nb, newTok_nb, setTok_nb]; omega)) _)), ⟨_, set_at _ _ _⟩, rfl⟩
          | some p =>
            obtain ⟨x, l3⟩ := p
            rw [hvl] at hvr hit
            simp only at hit
            have hl3 := rVal_len hvl
            have hsm := rVal_sm (by omega) hvl
            refine rd_some ⟨Tryz.f96, Tryz.func96, rfl, by kernel_rfl⟩ hvr ?_
            simp only [aws, eq_self, reduceIte, Nat.reduceAdd, Nat.reduceLT, Nat.reduceLeDiff, Nat.reduceEqDiff, storeB, teset, inj_take, inj_agg, inj_len, inj_one, m2]
            refine ACallV.pure (pvalid_pure x hsm) ?_
            simp only [aws, eq_self, reduceIte, Nat.reduceLT, Nat.reduceEqDiff]
            refine demand_call (fun hv => ?_) (fun hv => ?_)
            · rw [hv, if_pos rfl] at hit
              rcases ho with ⟨rfl, rfl⟩ | ⟨t, G, rfl, htk, htn⟩
              · simp only [aws, eq_self, reduceIte, reduceCtorEq, Nat.reduceLT, Nat.reduceLeDiff, Nat.reduceEqDiff, Nat.reduceMul, acmpnil, appBox, appendTo, teset, e0, e3, e11, e12, inj_take, inj_agg, inj_len, inj_one, range1, m1, m2]
                refine .inl ?_
                exact ⟨n', by omega, j + 1, _, [] ++ [x], l3, rfl, by rw [wrap_succ (by omega)], by omega, by (repeat (first | assumption | exact ExtX.refl hlt | refine ExtX.own ?_ _ | refine ExtX.new ?_ _ | refine ExtX.newTok ?_ | refine ExtX.setTok ?_ (by omega) _ | refine ExtX.set ?_ (by first | omega | (simp only [new_nb, set_nb, kill_nb, newTok_nb, setTok_nb]; omega)) _)), rfl, .inr ⟨h'.nt, 0, rfl, (by show (AH.newTok _).tok _ = _; exact newTok_at rfl), cX.nt⟩, by simp, by omega, hit⟩
              · have hb0 : (xs.length + 1) * 80 ≤ 140737488355328 := by omega
                simp only [aws, eq_self, reduceIte, reduceCtorEq, Nat.reduceLT, Nat.reduceLeDiff, Nat.reduceEqDiff, Nat.reduceMul, acmpnil, appBox, appendTo, teset, e0, e3, e11, e12, inj_take, inj_agg, inj_len, inj_one, List.length_map, range1, htk, hb0, List.length_map, m1, m2]
                exact ⟨n', by omega, j + 1, _, xs ++ [x], l3, rfl, by rw [wrap_succ (by omega)], by omega, by (repeat (first | assumption | exact ExtX.refl hlt | refine ExtX.own ?_ _ | refine ExtX.new ?_ _ | refine ExtX.newTok ?_ | refine ExtX.setTok ?_ (by omega) _ | refine ExtX.set ?_ (by first | omega | (simp only [new_nb, set_nb, kill_nb, newTok_nb, setTok_nb]; omega)) _)), rfl, .inr ⟨t, G + 1, by simp, (by show (AH.setTok _ t (G + 1)).tok t = _; rw [setTok_tok, if_pos rfl]), htn⟩, by simp; omega, by omega, hit⟩
            · rw [hv, if_neg (by decide)] at hit
              rw [hit]
              simp only [aws]
              exact ⟨by (repeat (first | assumption | exact ExtX.refl hlt | refine ExtX.own ?_ _ | refine ExtX.new ?_ _ | refine ExtX.newTok ?_ | refine ExtX.setTok ?_ (by omega) _ | refine ExtX.set ?_ (by first | omega | (simp only [new_nb, set_nb, kill_nb, newTok_nb, setTok_nb]; omega)) _)), ⟨l3, by simp only [aws, eq_self, reduceIte, cb, m1]⟩, rfl⟩
    · have hn200 : ¬ n ≤ 200 := by have := of_decide_eq_false hc; omega
      simp only [if_neg hn200]
      simp only [aws]
      exact ⟨by (repeat (first | assumption | exact ExtX.refl hlt | refine ExtX.own ?_ _ | refine ExtX.new ?_ _ | refine ExtX.newTok ?_ | refine ExtX.setTok ?_ (by omega) _ | refine ExtX.set ?_ (by first | omega | (simp only [new_nb, set_nb, kill_nb, newTok_nb, setTok_nb]; omega)) _)), ⟨_, set_at _ _ _⟩, rfl⟩
theorem plain_read (l : List UInt8) {h : AH} {b : Nat} (hll : l.length < 1000000000000) (hb : h.box b = some [.str (bS l)]) : ACalls Tryz.prog 90 [.agg [], .ptr b 0] h (RdPost h b (lO (rVals l))) := by
  refine Rd.of (fun v r e => lO_under e) fun hsc => ?_
  have hlt := hsc.box _ _ hb
  refine acalls_of te_ok [] Tryz.func90 (c := _) rfl (Nat.le_of_ble_eq_true rfl) ?_
  simp only [aws, eq_self, reduceIte, Nat.reduceLT, Tryz.ntmps90, Tryz.results90]
  have hr := values_rd l (h := h.new []) (b := b) hll (by rw [new_box, if_neg (by omega)]; exact hb)
  cases hq : rVals l with
  | none =>
    rw [hq] at hr
    refine rd_none ⟨Tryz.f92, Tryz.func92, rfl, by kernel_rfl⟩ hr (fun r => ?_)
    simp only [aws]
    exact ⟨by (repeat (first | assumption | exact ExtX.refl hlt | refine ExtX.own ?_ _ | refine ExtX.new ?_ _ | refine ExtX.newTok ?_ | refine ExtX.setTok ?_ (by omega) _ | refine ExtX.set ?_ (by first | omega | (simp only [new_nb, set_nb, kill_nb, newTok_nb, setTok_nb]; omega)) _)), ⟨_, set_at _ _ _⟩, rfl⟩
  | some p =>
    obtain ⟨xs, l2⟩ := p
    rw [hq] at hr
    refine rd_some ⟨Tryz.f92, Tryz.func92, rfl, by kernel_rfl⟩ hr ?_
    simp only [aws, eq_self, reduceIte, Nat.reduceLT, ares1]
    exact ⟨by (repeat (first | assumption | exact ExtX.refl hlt | refine ExtX.own ?_ _ | refine ExtX.new ?_ _ | refine ExtX.newTok ?_ | refine ExtX.setTok ?_ (by omega) _ | refine ExtX.set ?_ (by first | omega | (simp only [new_nb, set_nb, kill_nb, newTok_nb, setTok_nb]; omega)) _)), set_at _ _ _, _, rfl, .refl _⟩
theorem int_val (n : Int) : Pure Tryz.prog 148 [.int .i64 n] (inj (intV n)) := by
  refine Pure.ofW ⟨Tryz.f148, Tryz.func148, rfl, by kernel_rfl⟩ (inj_under _) (fun h hsc => ?_)
  refine acalls_of te_ok [] Tryz.func148 (c := _) rfl (Nat.le_of_ble_eq_true rfl) ?_
  simp only [aws, eq_self, reduceIte, Nat.reduceAdd, Nat.reduceLT, Nat.reduceLeDiff, storeB, ares1, afill, teset, Tryz.ntmps148, Tryz.results148]
  exact ⟨by (repeat (first | exact AH.Ext.refl _ | assumption | refine AH.Ext.set ?_ (by first | omega | (simp only [new_nb, set_nb, kill_nb, newTok_nb, setTok_nb]; omega)) _ | refine AH.Ext.new ?_ _)), _, rfl, wk_val wk_nil5 wk_nil1⟩
set_option maxHeartbeats 4000000 in
theorem dict_read (l : List UInt8) {h : AH} {b : Nat} (hll : l.length < 1000000000000) (hb : h.box b = some [.str (bS l)]) : ACalls Tryz.prog 121 [.agg [], .ptr b 0] h (RdPost h b (lO (rDict l))) := by
  refine Rd.of (fun v r e => lO_under e) fun hsc => ?_
  have hlt := hsc.box _ _ hb
  refine acalls_of te_ok [] Tryz.func121 (c := _) rfl (Nat.le_of_ble_eq_true rfl) ?_
  simp only [aws, eq_self, reduceIte, Nat.reduceLT, Tryz.ntmps121, Tryz.results121]
  have hr := values_rd l (h := h.new []) (b := b) hll (by rw [new_box, if_neg (by omega)]; exact hb)
  unfold rDict
  cases hq : rVals l with
  | none =>
    rw [hq] at hr
    refine rd_none ⟨Tryz.f92, Tryz.func92, rfl, by kernel_rfl⟩ hr (fun r => ?_)
    simp only [aws]
    exact ⟨by (repeat (first | assumption | exact ExtX.refl hlt | refine ExtX.own ?_ _ | refine ExtX.new ?_ _ | refine ExtX.newTok ?_ | refine ExtX.setTok ?_ (by omega) _ | refine ExtX.set ?_ (by first | omega | (simp only [new_nb, set_nb, kill_nb, newTok_nb, setTok_nb]; omega)) _)), ⟨_, set_at _ _ _⟩, rfl⟩
  | some p =>
    obtain ⟨ws, l1⟩ := p
    obtain ⟨_, hwl, hl1⟩ := rVals_ok hll hq
    rw [hq] at hr
    refine rd_some ⟨Tryz.f92, Tryz.func92, rfl, by kernel_rfl⟩ hr ?_
    have hr2 := count_rd l1 (set_at (h.new []) b [.str (bS l1)])
    simp only [aws, eq_self, reduceIte, Nat.reduceLT]
    cases hq2 : rCount l1 with
    | none =>
      rw [hq2] at hr2
      refine rd_none ⟨Tryz.f94, Tryz.func94, rfl, by kernel_rfl⟩ hr2 (fun r => ?_)
      rw [set_set]
      simp only [aws]
      exact ⟨by (repeat (first | assumption | exact ExtX.refl hlt | refine ExtX.own ?_ _ | refine ExtX.new ?_ _ | refine ExtX.newTok ?_ | refine ExtX.setTok ?_ (by omega) _ | refine ExtX.set ?_ (by first | omega | (simp only [new_nb, set_nb, kill_nb, newTok_nb, setTok_nb]; omega)) _)), ⟨_, set_at _ _ _⟩, rfl⟩
    | some p =>
      obtain ⟨n, l2⟩ := p
      have hnl := rCount_le hq2
      rw [hq2] at hr2
      refine rd_some ⟨Tryz.f94, Tryz.func94, rfl, by kernel_rfl⟩ hr2 ?_
      rw [set_set]
      simp only [aws, eq_self, Nat.reduceLT]
      refine ⟨fun nn s' h' => ∃ (j : Nat) (aX : AV) (xs : List V) (l' : List UInt8), s' 1 = .ptr b 0 ∧ s' 5 = .sl .ro 5 (ws.map inj) ∧ s' 6 = aX ∧ s' 11 = .int .i64 n ∧ s' 12 = .int .i64 j ∧ nn + j = n ∧ ExtX h b h' ∧ h'.box b = some [.str (bS l')] ∧ Own5 h' h.nt aX xs ∧ xs.length ≤ j ∧ rDictN ws n [] l2 = rDictN ws nn xs l', ⟨n, 0, .sl .full 0 [], [], l2, ?_⟩, ?_⟩
      · simp only [aws, eq_self, reduceIte, Nat.reduceLeDiff, Nat.reduceEqDiff, Int.natCast_zero]
        exact ⟨by (repeat (first | assumption | exact ExtX.refl hlt | refine ExtX.own ?_ _ | refine ExtX.new ?_ _ | refine ExtX.newTok ?_ | refine ExtX.setTok ?_ (by omega) _ | refine ExtX.set ?_ (by first | omega | (simp only [new_nb, set_nb, kill_nb, newTok_nb, setTok_nb]; omega)) _)), .inl ⟨rfl, rfl⟩⟩
      · rintro nn s' h' ⟨j, aX, xs, l', e1, e5, e6, e11, e12, hnn, cX, cb, ho, hxj, hit⟩
        simp only [aws, eq_self, reduceIte, Nat.reduceLT, acmpnil, e11, e12]
        cases hc2 : decide ((j : Int) < (n : Int)) with
        | false =>
          simp only [decide_eq_false_iff_not] at hc2
          obtain rfl : nn = 0 := by omega
          rw [hit]
          simp only [aws, eq_self, reduceIte, Nat.reduceLT, Nat.reduceEqDiff, ares1, e6]
          exact ⟨cX, cb, _, rfl, ho.wk⟩
        | true =>
          simp only [decide_eq_true_eq] at hc2
          obtain ⟨n', rfl⟩ : ∃ n', nn = n' + 1 := ⟨nn - 1, by omega⟩
          rw [rDictN] at hit
          have hvr := number_rd l' cb
          simp only [aws, eq_self, reduceIte, Nat.reduceLT, Nat.reduceEqDiff, e1]
          cases hvl : rNum l' with
          | none =>
            rw [hvl] at hvr hit
            rw [hit]
            refine rd_none ⟨Tryz.f98, Tryz.func98, rfl, by kernel_rfl⟩ hvr (fun r => ?_)
            simp only [aws]
            exact ⟨by (repeat (first | assumption | exact ExtX.refl hlt | refine ExtX.own ?_ _ | refine ExtX.new ?_ _ | refine ExtX.newTok ?_ | refine ExtX.setTok ?_ (by omega) _ | refine ExtX.set ?_ (by first | omega | (simp only [new_nb, set_nb, kill_nb, newTok_nb, setTok_nb]; omega)) _)), ⟨_, set_at _ _ _⟩, rfl⟩
          | some p =>
            obtain ⟨i, l3⟩ := p
            rw [hvl] at hvr hit
            simp only at hit
            refine rd_some ⟨Tryz.f98, Tryz.func98, rfl, by kernel_rfl⟩ hvr ?_
            simp only [aws, eq_self, reduceIte, Nat.reduceLT, Nat.reduceEqDiff, acmpnil, teset, e5, List.length_map]
            refine demand_call (fun hv => ?_) (fun hv => ?_)
            · have hi : i < ws.length := by have := of_decide_eq_true hv; omega
              have hget : (ws.map inj)[((i : Nat) : Int).toNat]? = some (inj ws[i]) := by simp [hi]
              rw [dif_pos hi] at hit
              rcases ho with ⟨rfl, rfl⟩ | ⟨t, G, rfl, htk, htn⟩
              · simp only [aws, eq_self, reduceIte, reduceCtorEq, Nat.reduceLT, Nat.reduceLeDiff, Nat.reduceEqDiff, Nat.reduceMul, acmpnil, appBox, appendTo, teset, e1, e5, e6, e11, e12, inj_take, inj_agg, inj_len, inj_one, range1, hget, Int.natCast_nonneg]
                refine .inl ?_
                exact ⟨n', by omega, j + 1, _, [] ++ [ws[i]], l3, rfl, by rw [wrap_succ (by omega)], by omega, by (repeat (first | assumption | exact ExtX.refl hlt | refine ExtX.own ?_ _ | refine ExtX.new ?_ _ | refine ExtX.newTok ?_ | refine ExtX.setTok ?_ (by omega) _ | refine ExtX.set ?_ (by first | omega | (simp only [new_nb, set_nb, kill_nb, newTok_nb, setTok_nb]; omega)) _)), by simp only [eq_self], .inr ⟨h'.nt, 0, rfl, (by show (AH.newTok _).tok _ = _; exact newTok_at rfl), cX.nt⟩, by simp, hit⟩
              · have hb0 : (xs.length + 1) * 80 ≤ 140737488355328 := by omega
                simp only [aws, eq_self, reduceIte, reduceCtorEq, Nat.reduceLT, Nat.reduceLeDiff, Nat.reduceEqDiff, Nat.reduceMul, acmpnil, appBox, appendTo, teset, e1, e5, e6, e11, e12, inj_take, inj_agg, inj_len, inj_one, List.length_map, range1, htk, hb0, List.length_map, hget, Int.natCast_nonneg]
                exact ⟨n', by omega, j + 1, _, xs ++ [ws[i]], l3, rfl, by rw [wrap_succ (by omega)], by omega, by (repeat (first | assumption | exact ExtX.refl hlt | refine ExtX.own ?_ _ | refine ExtX.new ?_ _ | refine ExtX.newTok ?_ | refine ExtX.setTok ?_ (by omega) _ | refine ExtX.set ?_ (by first | omega | (simp only [new_nb, set_nb, kill_nb, newTok_nb, setTok_nb]; omega)) _)), by simp only [eq_self], .inr ⟨t, G + 1, by simp, (by show (AH.setTok _ t (G + 1)).tok t = _; rw [setTok_tok, if_pos rfl]), htn⟩, by simp; omega, hit⟩
            · have hi : ¬ i < ws.length := by have := of_decide_eq_false hv; omega
              rw [dif_neg hi] at hit
              rw [hit]
              simp only [aws]
              exact ⟨by (repeat (first | assumption | exact ExtX.refl hlt | refine ExtX.own ?_ _ | refine ExtX.new ?_ _ | refine ExtX.newTok ?_ | refine ExtX.setTok ?_ (by omega) _ | refine ExtX.set ?_ (by first | omega | (simp only [new_nb, set_nb, kill_nb, newTok_nb, setTok_nb]; omega)) _)), ⟨_, set_at _ _ _⟩, rfl⟩
end Go.Proofs.YtlbhgoffiigfbaaGreat.AW
end
section
set_option linter.unusedSimpArgs false
set_option linter.unusedVariables false
namespace Go.Proofs.YtlbhgoffiigfbaaGreat.AW
open Go Go.RowKit

theorem rInt_bound {l : List UInt8} {d : Int} {r : List UInt8} (h : rInt l = some (d, r)) : -72057594037927936 ≤ d ∧ d ≤ 72057594037927936 := by
  unfold rInt at h
  cases hq : rNum l with
  | none => rw [hq] at h; cases h
  | some p =>
    obtain ⟨m, r'⟩ := p
    have := (rNum_len hq).2
    rw [hq] at h
    injection h with h; injection h with h1 h2; subst h1
    unfold unzig
    split <;> omega
set_option maxHeartbeats 4000000 in
theorem delta_read (l : List UInt8) {h : AH} {b : Nat} (hll : l.length < 1000000000000) (hb : h.box b = some [.str (bS l)]) : ACalls Tryz.prog 145 [.agg [], .ptr b 0] h (RdPost h b (lO (rDelta l))) := by
  refine Rd.of (fun v r e => lO_under e) fun hsc => ?_
  have hlt := hsc.box _ _ hb
  refine acalls_of te_ok [] Tryz.func145 (c := _) rfl (Nat.le_of_ble_eq_true rfl) ?_
  simp only [aws, eq_self, reduceIte, Nat.reduceLT, Int.reduceNeg, Tryz.ntmps145, Tryz.results145]
  have hr2 := count_rd l (h := h.new []) (b := b) (by rw [new_box, if_neg (by omega)]; exact hb)
  unfold rDelta
  cases hq2 : rCount l with
  | none =>
    rw [hq2] at hr2
    refine rd_none ⟨Tryz.f94, Tryz.func94, rfl, by kernel_rfl⟩ hr2 (fun r => ?_)
    simp only [aws, Int.reduceNeg]
    exact ⟨by (repeat (first | assumption | exact ExtX.refl hlt | refine ExtX.own ?_ _ | refine ExtX.new ?_ _ | refine ExtX.newTok ?_ | refine ExtX.setTok ?_ (by omega) _ | refine ExtX.set ?_ (by first | omega | (simp only [new_nb, set_nb, kill_nb, newTok_nb, setTok_nb]; omega)) _)), ⟨_, set_at _ _ _⟩, rfl⟩
  | some p =>
    obtain ⟨n, l2⟩ := p
    have hnl := rCount_le hq2
    rw [hq2] at hr2
    refine rd_some ⟨Tryz.f94, Tryz.func94, rfl, by kernel_rfl⟩ hr2 ?_
    simp only [aws, eq_self, Nat.reduceLT, Int.reduceNeg]
    refine ⟨fun nn s' h' => ∃ (j : Nat) (aX : AV) (xs : List V) (p : Int) (l' : List UInt8), s' 1 = .ptr b 0 ∧ s' 5 = aX ∧ s' 6 = .int .i64 p ∧ s' 8 = .int .i64 n ∧ s' 9 = .int .i64 j ∧ nn + j = n ∧ ExtX h b h' ∧ h'.box b = some [.str (bS l')] ∧ Own5 h' h.nt aX xs ∧ xs.length ≤ j ∧ (-1000000000000 ≤ p ∧ p ≤ 1000000000000) ∧ rDeltaN n 0 [] l2 = rDeltaN nn p xs l', ⟨n, 0, .sl .full 0 [], [], 0, l2, ?_⟩, ?_⟩
    · simp only [aws, eq_self, reduceIte, Nat.reduceLeDiff, Int.reduceLE, Int.reduceNeg, Int.natCast_zero]
      exact ⟨by (repeat (first | assumption | exact ExtX.refl hlt | refine ExtX.own ?_ _ | refine ExtX.new ?_ _ | refine ExtX.newTok ?_ | refine ExtX.setTok ?_ (by omega) _ | refine ExtX.set ?_ (by first | omega | (simp only [new_nb, set_nb, kill_nb, newTok_nb, setTok_nb]; omega)) _)), .inl ⟨rfl, rfl⟩⟩
    · rintro nn s' h' ⟨j, aX, xs, p, l', e1, e5, e6, e8, e9, hnn, cX, cb, ho, hxj, hp, hit⟩
      simp only [aws, eq_self, reduceIte, Nat.reduceLT, Int.reduceNeg, acmpnil, e8, e9]
      cases hc2 : decide ((j : Int) < (n : Int)) with
      | false =>
        simp only [decide_eq_false_iff_not] at hc2
        obtain rfl : nn = 0 := by omega
        rw [hit]
        simp only [aws, eq_self, reduceIte, Nat.reduceLT, Nat.reduceEqDiff, Int.reduceNeg, ares1, e5]
        exact ⟨cX, cb, _, rfl, ho.wk⟩
      | true =>
        simp only [decide_eq_true_eq] at hc2
        obtain ⟨n', rfl⟩ : ∃ n', nn = n' + 1 := ⟨nn - 1, by omega⟩
        rw [rDeltaN] at hit
        have hvr := int_rd l' cb
        simp only [aws, eq_self, reduceIte, Nat.reduceLT, Nat.reduceEqDiff, Int.reduceNeg, e1, e6]
        cases hvl : rInt l' with
        | none =>
          rw [hvl] at hvr hit
          rw [hit]
          refine rd_none ⟨Tryz.f99, Tryz.func99, rfl, by kernel_rfl⟩ hvr (fun r => ?_)
          simp only [aws, Int.reduceNeg]
          exact ⟨by (repeat (first | assumption | exact ExtX.refl hlt | refine ExtX.own ?_ _ | refine ExtX.new ?_ _ | refine ExtX.newTok ?_ | refine ExtX.setTok ?_ (by omega) _ | refine ExtX.set ?_ (by first | omega | (simp only [new_nb, set_nb, kill_nb, newTok_nb, setTok_nb]; omega)) _)), ⟨_, set_at _ _ _⟩, rfl⟩
        | some q =>
          obtain ⟨d, l3⟩ := q
          have hd := rInt_bound hvl
          rw [hvl] at hvr hit
          simp only at hit
          refine rd_some ⟨Tryz.f99, Tryz.func99, rfl, by kernel_rfl⟩ hvr ?_
          have hw : IntKind.i64.wrap (p + d) = p + d := wrap_i64 (by omega) (by omega)
          simp only [aws, eq_self, implies_true, imp_self, reduceIte, Nat.reduceLT, Nat.reduceEqDiff, Int.reduceNeg, acmpnil, e6, hw]
          cases hge : decide (p + d ≥ -1000000000000) with
          | false =>
            have hn : ¬ (-1000000000000 ≤ p + d ∧ p + d ≤ 1000000000000) := fun hh => (of_decide_eq_false hge) hh.1
            rw [if_neg hn] at hit
            rw [hit]
            simp only [aws, eq_self, reduceIte, Nat.reduceLT, Nat.reduceEqDiff, Int.reduceNeg]
            refine demand_call (fun hc => by cases hc) (fun _ => ?_)
            simp only [aws, Int.reduceNeg]
            exact ⟨by (repeat (first | assumption | exact ExtX.refl hlt | refine ExtX.own ?_ _ | refine ExtX.new ?_ _ | refine ExtX.newTok ?_ | refine ExtX.setTok ?_ (by omega) _ | refine ExtX.set ?_ (by first | omega | (simp only [new_nb, set_nb, kill_nb, newTok_nb, setTok_nb]; omega)) _)), ⟨_, set_at _ _ _⟩, rfl⟩
          | true =>
            simp only [aws, eq_self, implies_true, reduceIte, Nat.reduceLT, Nat.reduceEqDiff, Int.reduceNeg, acmpnil, e6]
            refine demand_call (fun hv => ?_) (fun hv => ?_)
            · have hn : -1000000000000 ≤ p + d ∧ p + d ≤ 1000000000000 := ⟨of_decide_eq_true hge, of_decide_eq_true hv⟩
              rw [if_pos hn] at hit
              simp only [aws, eq_self, reduceIte, Nat.reduceLT, Nat.reduceEqDiff, Int.reduceNeg, e5, e6]
              refine ACallV.pure (int_val (p + d)) ?_
              rcases ho with ⟨rfl, rfl⟩ | ⟨t, G, rfl, htk, htn⟩
              · simp only [aws, eq_self, reduceIte, reduceCtorEq, Nat.reduceLT, Nat.reduceLeDiff, Nat.reduceEqDiff, Nat.reduceMul, Int.reduceNeg, acmpnil, appBox, appendTo, teset, e1, e5, e6, e8, e9, inj_len, inj_one, range1]
                refine .inl ?_
                exact ⟨n', by omega, j + 1, _, [] ++ [intV (p + d)], p + d, l3, rfl, rfl, by rw [wrap_succ (by omega)], by omega, by (repeat (first | assumption | exact ExtX.refl hlt | refine ExtX.own ?_ _ | refine ExtX.new ?_ _ | refine ExtX.newTok ?_ | refine ExtX.setTok ?_ (by omega) _ | refine ExtX.set ?_ (by first | omega | (simp only [new_nb, set_nb, kill_nb, newTok_nb, setTok_nb]; omega)) _)), by simp only [eq_self], .inr ⟨h'.nt, 0, rfl, (by show (AH.newTok _).tok _ = _; exact newTok_at rfl), cX.nt⟩, by simp, hn, hit⟩
              · have hb0 : (xs.length + 1) * 80 ≤ 140737488355328 := by omega
                simp only [aws, eq_self, reduceIte, reduceCtorEq, Nat.reduceLT, Nat.reduceLeDiff, Nat.reduceEqDiff, Nat.reduceMul, Int.reduceNeg, acmpnil, appBox, appendTo, teset, e1, e5, e6, e8, e9, inj_len, inj_one, List.length_map, range1, htk, hb0, List.length_map]
                exact ⟨n', by omega, j + 1, _, xs ++ [intV (p + d)], p + d, l3, rfl, rfl, by rw [wrap_succ (by omega)], by omega, by (repeat (first | assumption | exact ExtX.refl hlt | refine ExtX.own ?_ _ | refine ExtX.new ?_ _ | refine ExtX.newTok ?_ | refine ExtX.setTok ?_ (by omega) _ | refine ExtX.set ?_ (by first | omega | (simp only [new_nb, set_nb, kill_nb, newTok_nb, setTok_nb]; omega)) _)), by simp only [eq_self], .inr ⟨t, G + 1, by simp, (by show (AH.setTok _ t (G + 1)).tok t = _; rw [setTok_tok, if_pos rfl]), htn⟩, by simp; omega, hn, hit⟩
            · have hn : ¬ (-1000000000000 ≤ p + d ∧ p + d ≤ 1000000000000) := fun hh => (of_decide_eq_false hv) hh.2
              rw [if_neg hn] at hit
              rw [hit]
              simp only [aws, Int.reduceNeg]
              exact ⟨by (repeat (first | assumption | exact ExtX.refl hlt | refine ExtX.own ?_ _ | refine ExtX.new ?_ _ | refine ExtX.newTok ?_ | refine ExtX.setTok ?_ (by omega) _ | refine ExtX.set ?_ (by first | omega | (simp only [new_nb, set_nb, kill_nb, newTok_nb, setTok_nb]; omega)) _)), ⟨_, set_at _ _ _⟩, rfl⟩
end Go.Proofs.YtlbhgoffiigfbaaGreat.AW
end
section
set_option linter.unusedSimpArgs false
set_option linter.unusedVariables false
namespace Go.Proofs.YtlbhgoffiigfbaaGreat.AW
open Go Go.RowKit

theorem andm : ∀ n : Fin 201, IntKind.u64.wrap ((BitVec.ofInt IntKind.u64.bits ((n.val : Nat) : Int) &&& BitVec.ofInt IntKind.u64.bits 4294967295).toNat) = ((n.val : Nat) : Int) := by decide +kernel
def hiE (n : Int) : Int := IntKind.u64.wrap (IntKind.u64.wrap (IntKind.u64.wrap (Int.fdiv 1 (2 ^ min 32 IntKind.u64.bits) * n.fdiv (2 ^ min 32 IntKind.u64.bits)) + (IntKind.u64.wrap (IntKind.u64.wrap (Int.fdiv 1 (2 ^ min 32 IntKind.u64.bits) * n) + (IntKind.u64.wrap (1 * n)).fdiv (2 ^ min 32 IntKind.u64.bits))).fdiv (2 ^ min 32 IntKind.u64.bits)) + (IntKind.u64.wrap (IntKind.u64.wrap (BitVec.ofInt IntKind.u64.bits (IntKind.u64.wrap (IntKind.u64.wrap (Int.fdiv 1 (2 ^ min 32 IntKind.u64.bits) * n) + (IntKind.u64.wrap (1 * n)).fdiv (2 ^ min 32 IntKind.u64.bits))) &&& BitVec.ofInt IntKind.u64.bits 4294967295).toNat + IntKind.u64.wrap (1 * n.fdiv (2 ^ min 32 IntKind.u64.bits)))).fdiv (2 ^ min 32 IntKind.u64.bits))
theorem hiE_zero : ∀ n : Fin 201, hiE ((n.val : Nat) : Int) = 0 ∧ IntKind.u64.wrap (1 * ((n.val : Nat) : Int)) = ((n.val : Nat) : Int) := by decide +kernel
theorem mul64_one (n : Nat) (hn : n ≤ 200) : Pure Tryz.prog 112 [.int .u64 1, .int .u64 (n : Int)] (.tup [.int .u64 0, .int .u64 (n : Int)]) := by
  have a1 : IntKind.u64.wrap ((BitVec.ofInt IntKind.u64.bits (n : Int) &&& BitVec.ofInt IntKind.u64.bits 4294967295).toNat) = (n : Int) := andm ⟨n, by omega⟩
  have a2 : IntKind.u64.wrap ((BitVec.ofInt IntKind.u64.bits 1 &&& BitVec.ofInt IntKind.u64.bits 4294967295).toNat) = 1 := andm ⟨1, by omega⟩
  have a3 : IntKind.u64.wrap ((BitVec.ofInt IntKind.u64.bits 0 &&& BitVec.ofInt IntKind.u64.bits 4294967295).toNat) = 0 := andm ⟨0, by omega⟩
  refine Pure.of ⟨Tryz.f112, Tryz.func112, rfl, by kernel_rfl⟩ rfl (fun h => ?_)
  refine acalls_of te_ok [] Tryz.func112 (c := _) rfl (Nat.le_of_ble_eq_true rfl) ?_
  simp only [aws, eq_self, reduceIte, reduceCtorEq, Nat.reduceLT, Nat.reduceEqDiff, Int.reduceLE, Int.reduceToNat, acmpnil, ares1, Tryz.ntmps112, Tryz.results112, a1, a2]
  obtain ⟨h1, h2⟩ := hiE_zero ⟨n, by omega⟩
  exact ⟨.refl _, _, rfl, by show AV.tup [AV.int .u64 (hiE (n : Int)), AV.int .u64 (IntKind.u64.wrap (1 * (n : Int)))] = _; rw [h1, h2]⟩
theorem mul_one (n : Nat) (hn : n ≤ 200) : Pure Tryz.prog 109 [.int .u64 1, .int .u64 (n : Int)] (.tup [.int .u64 0, .int .u64 (n : Int)]) := by
  refine Pure.of ⟨Tryz.f109, Tryz.func109, rfl, by kernel_rfl⟩ rfl (fun h => ?_)
  refine acalls_of te_ok [] Tryz.func109 (c := _) rfl (Nat.le_of_ble_eq_true rfl) ?_
  simp only [aws, eq_self, reduceIte, Nat.reduceLT, Nat.reduceEqDiff, Tryz.ntmps109, Tryz.results109]
  refine ACallV.pure (mul64_one n hn) ?_
  simp only [aws, eq_self, reduceIte, Nat.reduceLT, Nat.reduceEqDiff, ares1]
  exact ⟨.refl _, _, rfl, rfl⟩
theorem none_set (a b : List AV) : (AH.none.new a).set 0 b = AH.none.new b := by
  unfold AH.new AH.set
  simp only [AH.mk.injEq, and_self, and_true]
  funext q
  unfold upd
  by_cases e : q = 0
  · subst e; rfl
  · rw [none_nb]; simp only [if_neg e]
def zz5 : List AV := [.int .i64 0, .int .i64 0, .str ⟨#[]⟩, .sl .full 0 [], .sl .full 0 []]
def repB (x : V) (n m : Nat) : List AV := flatV (List.replicate m x) ++ List.drop (m * 5) (zeros zz5 n)
theorem rep_len (x : V) (m : Nat) : (flatV (List.replicate m x)).length = m * 5 := by rw [flatV_len, List.length_replicate]
theorem repB_step (x : V) {n m q : Nat} (hq : q ≤ m) (hn : m + q ≤ n) : List.take (m * 5) (repB x n m) ++ List.take (q * 5) (flatV (List.replicate m x)) ++ List.drop (m * 5 + q * 5) (repB x n m) = repB x n (m + q) := by
  unfold repB
  rw [List.take_append_of_le_length (by rw [rep_len]; exact Nat.le_refl _), List.take_of_length_le (by rw [rep_len]; exact Nat.le_refl _)]
  rw [List.drop_append, List.drop_of_length_le (by rw [rep_len]; omega), List.nil_append, List.drop_drop, rep_len]
  have h1 : List.take (q * 5) (flatV (List.replicate m x)) = flatV (List.replicate q x) := by
    rw [flatV_take (by rw [List.length_replicate]; exact hq), List.take_replicate, Nat.min_eq_left hq]
  rw [h1, ← flatV_app, List.replicate_append_replicate]
  congr 2
  omega
theorem make_vals (h : AH) (n : Nat) (hn : n ≤ 200) : amake te h 22 (.int .i64 (n : Int)) (.int .i64 (n : Int)) = some (.ms h.nb 0 n 5, h.new (zeros zz5 n)) := by
  unfold amake
  simp only [te_22, te_40]
  rw [if_pos ⟨by decide, by decide, Int.natCast_nonneg n, Int.le_refl _, by show (n : Int) * ((80 : Nat) : Int) ≤ _; omega⟩, Int.toNat_natCast]
  rfl
set_option maxHeartbeats 4000000 in
theorem repeat_pure (x : V) (n : Nat) (hn : n ≤ 200) : Pure Tryz.prog 107 [.sl .ro 5 [inj x], .int .i64 (n : Int)] (.sl .ro 5 ((List.replicate n x).map inj)) := by
  have hneg : decide (((n : Nat) : Int) < 0) = false := by simp only [decide_eq_false_iff_not]; omega
  have hw1 : IntKind.u64.wrap ((n : Nat) : Int) = (n : Int) := (by decide +kernel : ∀ n : Fin 201, IntKind.u64.wrap ((n.val : Nat) : Int) = ((n.val : Nat) : Int)) ⟨n, by omega⟩
  have hw0 : IntKind.u64.wrap ((1 : Nat) : Int) = 1 := by decide +kernel
  have hw2 : IntKind.i64.wrap ((n : Nat) : Int) = (n : Int) := wrap_i64 (by omega) (by omega)
  have hgt : decide (((n : Nat) : Int) > 9223372036854775807) = false := by simp only [decide_eq_false_iff_not]; omega
  have hmk : ((n : Nat) : Int) * ((80 : Nat) : Int) ≤ 140737488355328 := by omega
  have hmk2 : ((n : Nat) : Int) * 80 ≤ 140737488355328 := by omega
  refine Pure.of0 ⟨Tryz.f107, Tryz.func107, rfl, by kernel_rfl⟩ (by simp only [AV.underL, AV.under, inj_under, Bool.and_true]) (injs_und _) ?_
  refine acalls_of te_ok [20, 24, 25] Tryz.func107 (c := _) rfl (Nat.le_of_ble_eq_true rfl) ?_
  simp only [aws, eq_self, reduceIte, reduceCtorEq, Nat.reduceLT, Nat.reduceEqDiff, aconv, acvB, acmpnil, teset, Tryz.ntmps107, Tryz.results107, hneg, hw1, hw0]
  refine ACallV.pure (mul_one n hn) ?_
  have hmv := make_vals AH.none n hn
  rw [none_nb] at hmv
  simp only [aws, eq_self, implies_true, reduceIte, reduceCtorEq, Nat.reduceLT, Nat.reduceEqDiff, Nat.reduceBEq, Int.reduceGT, aconv, acvB, acmpnil, teset, hgt, hw2, hmv]
  by_cases h0 : n = 0
  · subst h0
    simp only [aws, eq_self, reduceIte, reduceCtorEq, Nat.reduceLT, Nat.reduceEqDiff, Nat.reduceMul, teset, acopy, cellsOf, show min 1 0 = 0 from rfl, if_true]
    refine ⟨fun nn s' h' => s' 7 = .ms 0 0 0 5 ∧ s' 8 = .int .i64 0, ⟨0, ?_⟩, ?_⟩
    · simp only [aws, eq_self, reduceIte, Nat.reduceEqDiff]
    · rintro nn s' h' ⟨e7, e8⟩
      simp only [aws, eq_self, reduceIte, Nat.reduceLT, Nat.reduceEqDiff, Int.reduceLT, acmpnil, ares1, teset, e7, e8, Int.natCast_zero]
      exact ⟨_, rfl, fun m c _ hc => VR.ms_nil (by decide) hc⟩
  · have hmin : min 1 n = 1 := by omega
    have hZ : (zeros zz5 n).length = n * 5 := zeros_length _ _
    have hset1 : (AH.none.new (zeros zz5 n)).set 0 (List.take 5 (List.flatMap AV.cells [inj x]) ++ List.drop (List.take 5 (List.flatMap AV.cells [inj x])).length (zeros zz5 n)) = AH.none.new (repB x n 1) := by
      have h1 : List.take 5 (List.flatMap AV.cells [inj x]) = flatV (List.replicate 1 x) := by
        rw [List.take_of_length_le (by simp [inj_len])]; rfl
      rw [h1, rep_len]
      exact none_set _ _
    simp only [aws, eq_self, reduceIte, reduceCtorEq, Nat.reduceLT, Nat.reduceEqDiff, Nat.reduceMul, teset, acopy, cellsOf, hmin, hZ, Nat.le_refl, hset1]
    refine ⟨fun nn s' h' => ∃ m : Nat, s' 7 = .ms 0 0 n 5 ∧ s' 8 = .int .i64 m ∧ h' = AH.none.new (repB x n m) ∧ nn + m = n ∧ 1 ≤ m, ⟨n - 1, 1, ?_⟩, ?_⟩
    · simp only [aws, eq_self, reduceIte, Nat.reduceLeDiff, Nat.reduceEqDiff, Int.natCast_one]
      first | done | omega | exact ⟨rfl, by omega⟩
    · rintro nn s' h' ⟨m, e7, e8, rfl, hnn, hm1⟩
      simp only [aws, eq_self, reduceIte, Nat.reduceLT, Nat.reduceEqDiff, acmpnil, teset, e7, e8]
      cases hc : decide ((m : Int) < (n : Int)) with
      | false =>
        simp only [decide_eq_false_iff_not] at hc
        obtain rfl : m = n := by omega
        simp only [aws, eq_self, reduceIte, Nat.reduceLT, Nat.reduceEqDiff, ares1, e7]
        refine ⟨_, rfl, ?_⟩
        have hb : (AH.none.new (repB x m m)).box 0 = some (((List.replicate m x).map inj).flatMap AV.cells ++ []) := by
          show some (repB x m m) = _
          unfold repB
          rw [List.drop_of_length_le (by rw [hZ]; exact Nat.le_refl _)]
          rfl
        have := To0.ms hb (fun i x hi => by
          obtain ⟨k, hk, rfl⟩ := List.mem_map.1 (List.mem_of_getElem? hi)
          exact inj_len k) (by decide) (by intro e; have := congrArg List.length e; simp at this; omega)
        rw [List.length_map, List.length_replicate] at this
        exact this
      | true =>
        simp only [decide_eq_true_eq] at hc
        have hmn : m < n := by omega
        have hq : min m (n - m) ≤ m := Nat.min_le_left _ _
        have hstep := repB_step x hq (show m + min m (n - m) ≤ n by omega)
        have hcs : List.take (m * 5) (repB x n m) = flatV (List.replicate m x) := by
          unfold repB
          rw [List.take_append_of_le_length (by rw [rep_len]; exact Nat.le_refl _), List.take_of_length_le (by rw [rep_len]; exact Nat.le_refl _)]
        have hBl : (repB x n m).length = n * 5 := by unfold repB; rw [List.length_append, rep_len, List.length_drop, hZ]; omega
        simp only [aws]
        refine acode_draw_chain te_ok mixed [] (by kernel_rfl) ?_
        have hmle : m ≤ n := by omega
        have hq0 : (min m (n - m) = 0) = False := by rw [eq_iff_iff]; exact ⟨fun e => by omega, False.elim⟩
        have hl1 : m * 5 ≤ n * 5 := by omega
        have hl2 : m * 5 + (n - m) * 5 ≤ n * 5 := by omega
        have hlt : (List.take (min m (n - m) * 5) (flatV (List.replicate m x))).length = min m (n - m) * 5 := by rw [List.length_take, rep_len]; omega
        have hw : IntKind.i64.wrap ((m : Int) + ((min m (n - m) : Nat) : Int)) = ((m + min m (n - m) : Nat) : Int) := by rw [wrap_i64 (by omega) (by omega)]; omega
        simp only [aws, eq_self, reduceIte, Nat.reduceAdd, Nat.reduceLT, Nat.reduceEqDiff, Nat.reduceMul, acmpnil, teset, e7, e8, acopy, cellsOf, Int.natCast_nonneg, Int.toNat_natCast, hBl, hcs, hmle, Nat.le_refl, Nat.zero_le, Nat.sub_zero, hl1, hl2, hq0, hlt, none_set, hw]
        rw [hcs] at hstep
        exact ⟨n - (m + min m (n - m)), by omega, m + min m (n - m), rfl, by rw [hstep], by omega, by omega⟩
set_option maxHeartbeats 4000000 in
theorem runs_read (l : List UInt8) {h : AH} {b : Nat} (hll : l.length < 1000000000000) (hb : h.box b = some [.str (bS l)]) : ACalls Tryz.prog 105 [.agg [], .ptr b 0] h (RdPost h b (lO (rRuns l))) := by
  refine Rd.of (fun v r e => lO_under e) fun hsc => ?_
  have hlt := hsc.box _ _ hb
  refine acalls_of te_ok [] Tryz.func105 (c := _) rfl (Nat.le_of_ble_eq_true rfl) ?_
  simp only [aws, eq_self, reduceIte, Nat.reduceLT, Tryz.ntmps105, Tryz.results105]
  have hr2 := count_rd l (h := h.new []) (b := b) (by rw [new_box, if_neg (by omega)]; exact hb)
  unfold rRuns
  cases hq2 : rCount l with
  | none =>
    rw [hq2] at hr2
    refine rd_none ⟨Tryz.f94, Tryz.func94, rfl, by kernel_rfl⟩ hr2 (fun r => ?_)
    simp only [aws]
    exact ⟨by (repeat (first | assumption | exact ExtX.refl hlt | refine ExtX.own ?_ _ | refine ExtX.new ?_ _ | refine ExtX.newTok ?_ | refine ExtX.setTok ?_ (by omega) _ | refine ExtX.set ?_ (by first | omega | (simp only [new_nb, set_nb, kill_nb, newTok_nb, setTok_nb]; omega)) _)), ⟨_, set_at _ _ _⟩, rfl⟩
  | some p =>
    obtain ⟨n, l2⟩ := p
    have hnl := rCount_le hq2
    rw [hq2] at hr2
    refine rd_some ⟨Tryz.f94, Tryz.func94, rfl, by kernel_rfl⟩ hr2 ?_
    simp only [aws, eq_self, Nat.reduceLT]
    refine ⟨fun nn s' h' => ∃ (j : Nat) (aX : AV) (xs : List V) (l' : List UInt8), s' 1 = .ptr b 0 ∧ s' 5 = aX ∧ s' 8 = .int .i64 n ∧ s' 9 = .int .i64 j ∧ nn + j = n ∧ ExtX h b h' ∧ h'.box b = some [.str (bS l')] ∧ Own5 h' h.nt aX xs ∧ xs.length ≤ 200 ∧ l'.length ≤ l2.length ∧ rRunsN n [] l2 = rRunsN nn xs l', ⟨n, 0, .sl .full 0 [], [], l2, ?_⟩, ?_⟩
    · simp only [aws, eq_self, reduceIte, Nat.reduceLeDiff, Int.natCast_zero]
      exact ⟨by (repeat (first | assumption | exact ExtX.refl hlt | refine ExtX.own ?_ _ | refine ExtX.new ?_ _ | refine ExtX.newTok ?_ | refine ExtX.setTok ?_ (by omega) _ | refine ExtX.set ?_ (by first | omega | (simp only [new_nb, set_nb, kill_nb, newTok_nb, setTok_nb]; omega)) _)), .inl ⟨rfl, rfl⟩, Nat.le_refl _⟩
    · rintro nn s' h' ⟨j, aX, xs, l', e1, e5, e8, e9, hnn, cX, cb, ho, hxl, hll', hit⟩
      simp only [aws, eq_self, reduceIte, Nat.reduceLT, acmpnil, e8, e9]
      cases hc2 : decide ((j : Int) < (n : Int)) with
      | false =>
        simp only [decide_eq_false_iff_not] at hc2
        obtain rfl : nn = 0 := by omega
        rw [hit]
        simp only [aws, eq_self, reduceIte, Nat.reduceLT, Nat.reduceEqDiff, ares1, e5]
        exact ⟨cX, cb, _, rfl, ho.wk⟩
      | true =>
        simp only [decide_eq_true_eq] at hc2
        obtain ⟨n', rfl⟩ : ∃ n', nn = n' + 1 := ⟨nn - 1, by omega⟩
        rw [rRunsN] at hit
        have hvr := number_rd l' cb
        simp only [aws, eq_self, reduceIte, Nat.reduceLT, Nat.reduceEqDiff, e1]
        cases hvl : rNum l' with
        | none =>
          rw [hvl] at hvr hit
          rw [hit]
          refine rd_none ⟨Tryz.f98, Tryz.func98, rfl, by kernel_rfl⟩ hvr (fun r => ?_)
          simp only [aws]
          exact ⟨by (repeat (first | assumption | exact ExtX.refl hlt | refine ExtX.own ?_ _ | refine ExtX.new ?_ _ | refine ExtX.newTok ?_ | refine ExtX.setTok ?_ (by omega) _ | refine ExtX.set ?_ (by first | omega | (simp only [new_nb, set_nb, kill_nb, newTok_nb, setTok_nb]; omega)) _)), ⟨_, set_at _ _ _⟩, rfl⟩
        | some q =>
          obtain ⟨m, l3⟩ := q
          have hl3 := (rNum_len hvl).1
          rw [hvl] at hvr hit
          simp only at hit
          refine rd_some ⟨Tryz.f98, Tryz.func98, rfl, by kernel_rfl⟩ hvr ?_
          simp only [aws, eq_self, reduceIte, Nat.reduceLT, acmpnil]
          refine demand_call (fun hv => ?_) (fun hv => ?_)
          · have hm : m ≤ 200 := by have := of_decide_eq_true hv; omega
            rw [if_pos hm] at hit
            have hvr2 := value_rd 6 l3 (h := h'.set b [.str (bS l3)]) (b := b) (by omega) (by omega) (set_at _ _ _)
            rw [show ((6 : Nat) : Int) = 6 from rfl] at hvr2
            simp only [aws, eq_self, reduceIte, Nat.reduceLT, Nat.reduceEqDiff, e1, e5]
            cases hvl2 : rVal 6 l3 with
            | none =>
              rw [hvl2] at hvr2 hit
              rw [hit]
              refine rd_none ⟨Tryz.f96, Tryz.func96, rfl, by kernel_rfl⟩ hvr2 (fun r => ?_)
              rw [set_set]
              simp only [aws]
              exact ⟨by (repeat (first | assumption | exact ExtX.refl hlt | refine ExtX.own ?_ _ | refine ExtX.new ?_ _ | refine ExtX.newTok ?_ | refine ExtX.setTok ?_ (by omega) _ | refine ExtX.set ?_ (by first | omega | (simp only [new_nb, set_nb, kill_nb, newTok_nb, setTok_nb]; omega)) _)), ⟨_, set_at _ _ _⟩, rfl⟩
            | some q =>
              obtain ⟨x, l4⟩ := q
              have hl4 := rVal_len hvl2
              rw [hvl2] at hvr2 hit
              simp only at hit
              refine rd_some ⟨Tryz.f96, Tryz.func96, rfl, by kernel_rfl⟩ hvr2 ?_
              rw [set_set]
              have hrp := Pure.wk (repeat_pure x m hm) (.cons (Wk.ro (tag := .full) (sz := 5) (xs := [inj x])) (.cons (.refl _) .nil)) (.refl _)
              simp only [aws, eq_self, reduceIte, Nat.reduceLT, Nat.reduceLeDiff, Nat.reduceEqDiff, Nat.reduceMul, teset, inj_len, inj_one, range1]
              refine ACallV.pure hrp ?_
              rcases ho with ⟨rfl, rfl⟩ | ⟨t, G, rfl, htk, htn⟩
              · cases m with
                | zero =>
                  simp only [aws, eq_self, reduceIte, Nat.reduceLT, Nat.reduceLeDiff, Nat.reduceEqDiff, Nat.reduceMul, acmpnil, appBox, appendTo, teset, e5, List.replicate_zero]
                  refine demand_call (fun hv2 => ?_) (fun hv2 => ?_)
                  · have hle : ([] ++ List.replicate 0 x).length ≤ 200 := by
                      have := of_decide_eq_true hv2
                      simp only [List.length_append, List.length_replicate, List.length_nil] at this ⊢
                      omega
                    rw [if_pos hle] at hit
                    simp only [aws, eq_self, reduceIte, Nat.reduceLT, Nat.reduceEqDiff, acmpnil, e1, e5, e8, e9]
                    exact ⟨n', by omega, j + 1, _, [] ++ List.replicate 0 x, l4, rfl, by rw [wrap_succ (by omega)], by omega, by (repeat (first | assumption | exact ExtX.refl hlt | refine ExtX.own ?_ _ | refine ExtX.new ?_ _ | refine ExtX.newTok ?_ | refine ExtX.setTok ?_ (by omega) _ | refine ExtX.set ?_ (by first | omega | (simp only [new_nb, set_nb, kill_nb, newTok_nb, setTok_nb]; omega)) _)), by simp only [eq_self], .inl ⟨rfl, rfl⟩, hle, by omega, hit⟩
                  · have hle : ¬ ([] ++ List.replicate 0 x).length ≤ 200 := by
                      have := of_decide_eq_false hv2
                      simp only [List.length_append, List.length_replicate, List.length_nil] at this ⊢
                      omega
                    rw [if_neg hle] at hit
                    rw [hit]
                    simp only [aws]
                    exact ⟨by (repeat (first | assumption | exact ExtX.refl hlt | refine ExtX.own ?_ _ | refine ExtX.new ?_ _ | refine ExtX.newTok ?_ | refine ExtX.setTok ?_ (by omega) _ | refine ExtX.set ?_ (by first | omega | (simp only [new_nb, set_nb, kill_nb, newTok_nb, setTok_nb]; omega)) _)), ⟨l4, by simp only [aws, eq_self, reduceIte]⟩, rfl⟩
                | succ k =>
                  have hb0 : (k + 1) * 80 ≤ 140737488355328 := by omega
                  simp only [aws, eq_self, reduceIte, reduceCtorEq, Nat.reduceLT, Nat.reduceEqDiff, acmpnil, appBox, appendTo, teset, e5, List.length_map, List.replicate_succ, hb0, List.length_map, List.length_replicate]
                  refine .inl ?_
                  refine demand_call (fun hv2 => ?_) (fun hv2 => ?_)
                  · have hle : ([] ++ List.replicate (k + 1) x).length ≤ 200 := by
                      have := of_decide_eq_true hv2
                      simp only [List.length_append, List.length_replicate, List.length_nil] at this ⊢
                      omega
                    rw [if_pos hle] at hit
                    simp only [aws, eq_self, reduceIte, Nat.reduceLT, Nat.reduceEqDiff, acmpnil, e1, e5, e8, e9]
                    exact ⟨n', by omega, j + 1, _, [] ++ List.replicate (k + 1) x, l4, rfl, by rw [wrap_succ (by omega)], by omega, by (repeat (first | assumption | exact ExtX.refl hlt | refine ExtX.own ?_ _ | refine ExtX.new ?_ _ | refine ExtX.newTok ?_ | refine ExtX.setTok ?_ (by omega) _ | refine ExtX.set ?_ (by first | omega | (simp only [new_nb, set_nb, kill_nb, newTok_nb, setTok_nb]; omega)) _)), by simp only [eq_self], .inr ⟨h'.nt, 0, by rw [List.nil_append, List.replicate_succ]; rfl, (by show (AH.newTok _).tok _ = _; exact newTok_at rfl), cX.nt⟩, hle, by omega, hit⟩
                  · have hle : ¬ ([] ++ List.replicate (k + 1) x).length ≤ 200 := by
                      have := of_decide_eq_false hv2
                      simp only [List.length_append, List.length_replicate, List.length_nil] at this ⊢
                      omega
                    rw [if_neg hle] at hit
                    rw [hit]
                    simp only [aws]
                    exact ⟨by (repeat (first | assumption | exact ExtX.refl hlt | refine ExtX.own ?_ _ | refine ExtX.new ?_ _ | refine ExtX.newTok ?_ | refine ExtX.setTok ?_ (by omega) _ | refine ExtX.set ?_ (by first | omega | (simp only [new_nb, set_nb, kill_nb, newTok_nb, setTok_nb]; omega)) _)), ⟨l4, by simp only [aws, eq_self, reduceIte]⟩, rfl⟩
              · cases m with
                | zero =>
                  have hb0 : xs.length * 80 ≤ 140737488355328 := by omega
                  simp only [aws, eq_self, reduceIte, Nat.reduceLT, Nat.reduceEqDiff, acmpnil, appBox, appendTo, teset, e5, List.length_map, List.replicate_zero, hb0]
                  refine demand_call (fun hv2 => ?_) (fun hv2 => ?_)
                  · have hle : (xs ++ List.replicate 0 x).length ≤ 200 := by
                      have := of_decide_eq_true hv2
                      simp only [List.length_append, List.length_replicate] at this ⊢
                      omega
                    rw [if_pos hle] at hit
                    simp only [aws, eq_self, reduceIte, Nat.reduceLT, Nat.reduceEqDiff, acmpnil, e1, e5, e8, e9]
                    exact ⟨n', by omega, j + 1, _, xs ++ List.replicate 0 x, l4, rfl, by rw [wrap_succ (by omega)], by omega, by (repeat (first | assumption | exact ExtX.refl hlt | refine ExtX.own ?_ _ | refine ExtX.new ?_ _ | refine ExtX.newTok ?_ | refine ExtX.setTok ?_ (by omega) _ | refine ExtX.set ?_ (by first | omega | (simp only [new_nb, set_nb, kill_nb, newTok_nb, setTok_nb]; omega)) _)), by simp only [eq_self], .inr ⟨t, G, by simp, htk, htn⟩, hle, by omega, hit⟩
                  · have hle : ¬ (xs ++ List.replicate 0 x).length ≤ 200 := by
                      have := of_decide_eq_false hv2
                      simp only [List.length_append, List.length_replicate] at this ⊢
                      omega
                    rw [if_neg hle] at hit
                    rw [hit]
                    simp only [aws]
                    exact ⟨by (repeat (first | assumption | exact ExtX.refl hlt | refine ExtX.own ?_ _ | refine ExtX.new ?_ _ | refine ExtX.newTok ?_ | refine ExtX.setTok ?_ (by omega) _ | refine ExtX.set ?_ (by first | omega | (simp only [new_nb, set_nb, kill_nb, newTok_nb, setTok_nb]; omega)) _)), ⟨l4, by simp only [aws, eq_self, reduceIte]⟩, rfl⟩
                | succ k =>
                  have hb0 : (xs.length + (k + 1)) * 80 ≤ 140737488355328 := by omega
                  simp only [aws, eq_self, reduceIte, reduceCtorEq, Nat.reduceLT, Nat.reduceEqDiff, acmpnil, appBox, appendTo, teset, e5, List.length_map, List.replicate_succ, hb0, htk, List.length_append, List.length_map, List.length_replicate]
                  refine demand_call (fun hv2 => ?_) (fun hv2 => ?_)
                  · have hle : (xs ++ List.replicate (k + 1) x).length ≤ 200 := by
                      have := of_decide_eq_true hv2
                      simp only [List.length_append, List.length_replicate] at this ⊢
                      omega
                    rw [if_pos hle] at hit
                    simp only [aws, eq_self, reduceIte, Nat.reduceLT, Nat.reduceEqDiff, acmpnil, e1, e5, e8, e9]
                    exact ⟨n', by omega, j + 1, _, xs ++ List.replicate (k + 1) x, l4, rfl, by rw [wrap_succ (by omega)], by omega, by (repeat (first | assumption | exact ExtX.refl hlt | refine ExtX.own ?_ _ | refine ExtX.new ?_ _ | refine ExtX.newTok ?_ | refine ExtX.setTok ?_ (by omega) _ | refine ExtX.set ?_ (by first | omega | (simp only [new_nb, set_nb, kill_nb, newTok_nb, setTok_nb]; omega)) _)), by simp only [eq_self], .inr ⟨t, G + 1, by rw [List.map_append, List.replicate_succ, List.map_cons], (by show (AH.setTok _ t (G + 1)).tok t = _; rw [setTok_tok, if_pos rfl]), htn⟩, hle, by omega, hit⟩
                  · have hle : ¬ (xs ++ List.replicate (k + 1) x).length ≤ 200 := by
                      have := of_decide_eq_false hv2
                      simp only [List.length_append, List.length_replicate] at this ⊢
                      omega
                    rw [if_neg hle] at hit
                    rw [hit]
                    simp only [aws]
                    exact ⟨by (repeat (first | assumption | exact ExtX.refl hlt | refine ExtX.own ?_ _ | refine ExtX.new ?_ _ | refine ExtX.newTok ?_ | refine ExtX.setTok ?_ (by omega) _ | refine ExtX.set ?_ (by first | omega | (simp only [new_nb, set_nb, kill_nb, newTok_nb, setTok_nb]; omega)) _)), ⟨l4, by simp only [aws, eq_self, reduceIte]⟩, rfl⟩
          · have hm : ¬ m ≤ 200 := by have := of_decide_eq_false hv; omega
            rw [if_neg hm] at hit
            rw [hit]
            simp only [aws]
            exact ⟨by (repeat (first | assumption | exact ExtX.refl hlt | refine ExtX.own ?_ _ | refine ExtX.new ?_ _ | refine ExtX.newTok ?_ | refine ExtX.setTok ?_ (by omega) _ | refine ExtX.set ?_ (by first | omega | (simp only [new_nb, set_nb, kill_nb, newTok_nb, setTok_nb]; omega)) _)), ⟨_, set_at _ _ _⟩, rfl⟩
end Go.Proofs.YtlbhgoffiigfbaaGreat.AW
end
section
set_option linter.unusedSimpArgs false
set_option linter.unusedVariables false
namespace Go.Proofs.YtlbhgoffiigfbaaGreat.AW
open Go Go.RowKit

def tyE (e : Nat) : Nat := if e = 1 then 76 else if e = 2 then 77 else if e = 3 then 78 else 79
theorem of_bad (n : Int) (hn : n < 1 ∨ 4 < n) : Pure Tryz.prog 22 [.int .i64 n] (.tup [.nili, .bool false]) := by
  refine Pure.of ⟨Tryz.f22, Tryz.func22, rfl, by kernel_rfl⟩ rfl (fun h => ?_)
  refine acalls_of te_ok [7, 8] Tryz.func22 (c := _) rfl (Nat.le_of_ble_eq_true rfl) ?_
  simp only [aws, eq_self, implies_true, imp_self, reduceIte, Nat.reduceLT, Nat.reduceBEq, acmpnil, Tryz.ntmps22, Tryz.results22]
  cases h1 : decide (n < 1) with
  | true =>
    simp only [aws, eq_self, reduceIte, Nat.reduceLT, ares1]
    exact ⟨.refl _, _, rfl, rfl⟩
  | false =>
    simp only [decide_eq_false_iff_not] at h1
    have h2 : decide (n > 4) = true := by simp only [decide_eq_true_eq]; omega
    simp only [aws, eq_self, reduceIte, Nat.reduceLT, ares1, h2]
    exact ⟨.refl _, _, rfl, rfl⟩
theorem of_1 : Pure Tryz.prog 22 [.int .i64 1] (.tup [.iface (tyE 1) (.agg []), .bool true]) := erun_pure ec5_ok (d := 60) rfl (by kernel_rfl)
theorem of_2 : Pure Tryz.prog 22 [.int .i64 2] (.tup [.iface (tyE 2) (.agg []), .bool true]) := erun_pure ec5_ok (d := 60) rfl (by kernel_rfl)
theorem of_3 : Pure Tryz.prog 22 [.int .i64 3] (.tup [.iface (tyE 3) (.agg []), .bool true]) := erun_pure ec5_ok (d := 60) rfl (by kernel_rfl)
theorem of_4 : Pure Tryz.prog 22 [.int .i64 4] (.tup [.iface (tyE 4) (.agg []), .bool true]) := erun_pure ec5_ok (d := 60) rfl (by kernel_rfl)
theorem nE_cases {e : Nat} (h1 : 1 ≤ e) (h4 : e ≤ 4) : e = 1 ∨ e = 2 ∨ e = 3 ∨ e = 4 := by omega
theorem of_good (e : Nat) (h1 : 1 ≤ e) (h4 : e ≤ 4) : Pure Tryz.prog 22 [.int .i64 (e : Int)] (.tup [.iface (tyE e) (.agg []), .bool true]) := by
  rcases nE_cases h1 h4 with rfl | rfl | rfl | rfl
  · exact of_1
  · exact of_2
  · exact of_3
  · exact of_4
/-- Whether values can be written so, and their bytes, by the method that is found. -/
theorem can_meth (e : Nat) (h1 : 1 ≤ e) (h4 : e ≤ 4) (xs : List V) (hl : xs.length < 4611686018427387904) : ∃ f, AMeth Tryz.prog (tyE e) "cirrus/chunk.can" f ∧ Pure Tryz.prog f [.agg [], .sl .ro 5 (xs.map inj)] (.bool (canL e xs)) := by
  rcases nE_cases h1 h4 with rfl | rfl | rfl | rfl
  · exact ⟨_, m_plainly_can, plain_can xs⟩
  · exact ⟨_, m_inRuns_can, runs_can xs⟩
  · exact ⟨_, m_byDict_can, dict_can xs⟩
  · exact ⟨_, m_byDelta_can, delta_can xs hl⟩
theorem write_meth (e : Nat) (h1 : 1 ≤ e) (h4 : e ≤ 4) (xs : List V) (hx : ∀ x ∈ xs, Vok x) (hl : xs.length ≤ 1000) : ∃ f, AMeth Tryz.prog (tyE e) "cirrus/chunk.write" f ∧ Pure Tryz.prog f [.agg [], .sl .full 0 [], .sl .ro 5 (xs.map inj)] (.sl .ro 1 (encA e xs)) := by
  rcases nE_cases h1 h4 with rfl | rfl | rfl | rfl
  · exact ⟨_, m_plainly_write, plain_write xs hx hl⟩
  · exact ⟨_, m_inRuns_write, runs_write xs hx hl⟩
  · exact ⟨_, m_byDict_write, dict_write xs hx hl⟩
  · exact ⟨_, m_byDelta_write, delta_write xs hx hl⟩
theorem meth_call {P : Program} {t : Nat} {name : String} {v : AV} {args : List AV} {r : AV} {dst : Option Nat} {s : AS} {h : AH} {k : AK} {Q : AQ} (hm : ∃ f, AMeth P t name f ∧ Pure P f (v :: args) r) (hk : k (putD s dst r) h Q) : ∃ f, AMeth P t name f ∧ ACallF P f (v :: args) h (callK dst s k Q) := by
  obtain ⟨f, h1, h2⟩ := hm
  exact ⟨f, h1, ACallF.ofPure h2 hk⟩
theorem validL_ok {xs : List V} (h : validL xs = true) : (∀ x ∈ xs, Vok x) ∧ xs.length ≤ 200 := by
  unfold validL at h
  rw [Bool.and_eq_true, decide_eq_true_eq, List.all_eq_true] at h
  exact ⟨fun x hx => ⟨6, of_decide_eq_true (h.2 x hx)⟩, h.1⟩
end Go.Proofs.YtlbhgoffiigfbaaGreat.AW
end
