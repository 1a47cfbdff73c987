/- Texts of this claim, part 7: V74, V75, V76, V77, V78. -/
import Derived.Test.YtlbhgoffiigfbaaGreatUb1
import Derived.Test.YtlbhgoffiigfbaaGreatUb4
import Derived.Test.YtlbhgoffiigfbaaGreatUb5
import Derived.Test.YtlbhgoffiigfbaaGreatUb6
import Derived.Test.YtlbhgoffiigfbaaGreatAw27
section
set_option linter.unusedSimpArgs false
set_option linter.unusedVariables false
namespace Go.Proofs.YtlbhgoffiigfbaaGreat.AW
open Go Go.RowKit

theorem valsA_drop {xs : List V} {j : Nat} (hj : j < xs.length) : valsA (xs.drop j) = valA xs[j] ++ valsA (xs.drop (j + 1)) := by
  unfold valsA
  rw [List.drop_eq_getElem_cons hj, List.flatMap_cons]
theorem under_of {l : List AV} (h : ∀ x ∈ l, ∃ k, x = .int .u8 k) (nb nt : Nat) : AV.underL nb nt l = true := under_bytes l h
set_option maxHeartbeats 4000000 in
theorem addvalues_nil (xs : List V) (hx : ∀ x ∈ xs, Vok x) (hl : xs.length ≤ 1000) (h : AH) :
    ACalls Tryz.prog 93 [.sl .full 0 [], .sl .ro 5 (xs.map inj)] h fun out h' => ∃ G, out = .ret (.sl (.tok h.nt G) 1 (numA xs.length ++ valsA xs)) ∧ h'.tok h.nt = some G ∧ h.Ext h' := by
  have hvl := valsA_len hx
  have hnl := numA_len xs.length (by omega)
  have hby : ∀ x ∈ numA xs.length ++ valsA xs, ∃ k, x = .int .u8 k := fun x hx => (List.mem_append.1 hx).elim (bytes_numA _ x) (bytes_valsA _ x)
  refine acalls_of te_ok [] Tryz.func93 (c := _) rfl (Nat.le_of_ble_eq_true rfl) ?_
  simp only [aws, eq_self, reduceIte, Nat.reduceLT, teset, Tryz.ntmps93, Tryz.results93, List.length_map]
  refine ACallV.mono ?_ (ACallV.of ⟨Tryz.f32, Tryz.func32, rfl, by kernel_rfl⟩ (addnum_nil xs.length (by omega) _))
  rintro out h' ⟨rfl, rfl⟩
  simp only [aws, eq_self, reduceIte, reduceCtorEq, Nat.reduceLT, Nat.reduceEqDiff, teset, List.length_map]
  refine ⟨fun n s' h' => ∃ (j G : Nat) (ys : List AV), s' 0 = .sl (.tok h.nt G) 1 ys ∧ s' 11 = .sl .ro 5 (xs.map inj) ∧ s' 12 = .int .i64 xs.length ∧ s' 13 = .int .i64 j ∧ n + j = xs.length ∧ h.Ext h' ∧ h'.tok h.nt = some G ∧ ys ++ valsA (xs.drop j) = numA xs.length ++ valsA xs, ⟨xs.length, 0, (numA xs.length).length - 1, numA xs.length, ?_⟩, ?_⟩
  · simp only [aws, eq_self, reduceIte, reduceCtorEq, Nat.reduceEqDiff, Int.natCast_zero]
    exact ((AH.Ext.refl h).newTok).setTok (Nat.le_refl _) _
  · rintro n s' h' ⟨j, G, ys, e0, e11, e12, e13, hn, hE, ht, hv⟩
    simp only [aws, eq_self, reduceIte, Nat.reduceLT, acmpnil, e12, e13]
    cases hc : decide ((j : Int) < (xs.length : Int)) with
    | false =>
      simp only [aws, eq_self, reduceIte, reduceCtorEq, Nat.reduceLT, Nat.reduceEqDiff, ares1, e0]
      simp only [decide_eq_false_iff_not] at hc
      rw [List.drop_eq_nil_of_le (by omega)] at hv
      simp only [valsA, List.flatMap_nil, List.append_nil] at hv
      exact ⟨G, by rw [hv]; rfl, ht, hE⟩
    | true =>
      simp only [decide_eq_true_eq] at hc
      have hj : j < xs.length := by omega
      have hget : (xs.map inj)[((j : Nat) : Int).toNat]? = some (inj xs[j]) := by simp [hj]
      simp only [aws, eq_self, reduceIte, reduceCtorEq, Nat.reduceAdd, Nat.reduceLT, Nat.reduceLeDiff, Nat.reduceEqDiff, storeB, teset, e0, e11, e13, inj_take, inj_agg, inj_len, inj_one, hget, Int.natCast_nonneg]
      rw [valsA_drop hj] at hv
      have hlen : ys.length + (valA xs[j]).length < 1000000000 := by
        have := congrArg List.length hv
        simp only [List.length_append] at this
        omega
      have hk : ((h'.new [AV.int IntKind.i64 0, AV.int IntKind.i64 0, AV.str { data := #[] }, AV.sl Tag.full 0 [], AV.sl Tag.full 0 []]).set h'.nb (inj xs[j]).cells).tok h.nt = some G := ht
      refine ACallV.mono ?_ (ACallV.of ⟨Tryz.f97, Tryz.func97, rfl, by kernel_rfl⟩ (addvalue_tok xs[j] (hx _ (List.getElem_mem hj)).wr ys h.nt G _ hk (fun nb nt => ?_) hlen))
      · rintro out h'' ⟨rfl, rfl⟩
        simp only [aws, eq_self, reduceIte, reduceCtorEq, Nat.reduceLT, Nat.reduceEqDiff, acmpnil, e0, e11, e12, e13]
        refine ⟨n - 1, by omega, j + 1, G + valG xs[j], ys ++ valA xs[j], rfl, by rw [wrap_succ (by omega)], by omega, ((hE.new _).set hE.nb _).setTok (Nat.le_refl _) _, rfl, by rw [List.append_assoc]; exact hv⟩
      · refine under_of (fun x hx => hby x ?_) nb nt
        rw [← hv, ← List.append_assoc]
        exact List.mem_append_left _ hx
theorem erase_of : ∀ {l : List AV}, (∀ x ∈ l, ∃ k, x = .int .u8 k) → AV.eraseL l = l
  | [], _ => rfl
  | x :: l, h => by
    obtain ⟨k, rfl⟩ := h x List.mem_cons_self
    simp only [AV.eraseL, AV.erase]
    rw [erase_of fun z hz => h z (List.mem_cons_of_mem _ hz)]
theorem plain_can (xs : List V) : Pure Tryz.prog 89 [.agg [], .sl .ro 5 (xs.map inj)] (.bool true) := by
  refine Pure.of ⟨Tryz.f89, Tryz.func89, rfl, by kernel_rfl⟩ rfl (fun h => ?_)
  refine acalls_of te_ok [] Tryz.func89 (c := _) rfl (Nat.le_of_ble_eq_true rfl) ?_
  simp only [aws, eq_self, reduceIte, Nat.reduceLT, ares1, Tryz.ntmps89, Tryz.results89]
  exact ⟨by (repeat (first | exact AH.Ext.refl _ | assumption | refine AH.Ext.set ?_ (by first | omega | (simp only [new_nb, set_nb, kill_nb, newTok_nb, setTok_nb]; omega)) _ | refine AH.Ext.new ?_ _)), _, rfl, rfl⟩
def plainA (xs : List V) : List AV := numA xs.length ++ valsA xs
theorem plain_write (xs : List V) (hx : ∀ x ∈ xs, Vok x) (hl : xs.length ≤ 1000) : Pure Tryz.prog 91 [.agg [], .sl .full 0 [], .sl .ro 5 (xs.map inj)] (.sl .ro 1 (plainA xs)) := by
  have hby : ∀ x ∈ plainA xs, ∃ k, x = .int .u8 k := fun x hx => (List.mem_append.1 hx).elim (bytes_numA _ x) (bytes_valsA _ x)
  refine Pure.of ⟨Tryz.f91, Tryz.func91, rfl, by kernel_rfl⟩ (by simp only [AV.under]; rw [under_of hby]) (fun h => ?_)
  refine acalls_of te_ok [] Tryz.func91 (c := _) rfl (Nat.le_of_ble_eq_true rfl) ?_
  simp only [aws, eq_self, reduceIte, Nat.reduceLT, Tryz.ntmps91, Tryz.results91]
  refine ACallV.mono ?_ (ACallV.of ⟨Tryz.f93, Tryz.func93, rfl, by kernel_rfl⟩ (addvalues_nil xs hx hl _))
  rintro out h' ⟨G, rfl, ht, hE⟩
  simp only [aws, eq_self, reduceIte, Nat.reduceLT, ares1]
  exact ⟨((AH.Ext.refl h).new _).trans hE, _, rfl, by show AV.sl Tag.ro 1 (AV.eraseL (plainA xs)) = _; rw [erase_of hby]⟩
end Go.Proofs.YtlbhgoffiigfbaaGreat.AW
end
section
set_option linter.unusedSimpArgs false
set_option linter.unusedVariables false
namespace Go.Proofs.YtlbhgoffiigfbaaGreat.AW
open Go Go.RowKit

def headN (x : V) (ys : List V) : Nat := (ys.takeWhile fun y => ord x y == 0).length
theorem headN_le (x : V) (ys : List V) : headN x ys ≤ ys.length := (List.takeWhile_sublist _).length_le
def runsL : List V → List (Nat × V)
  | [] => []
  | x :: ys => (1 + headN x ys, x) :: runsL (ys.drop (headN x ys))
termination_by xs => xs.length
decreasing_by simp only [List.length_drop, List.length_cons]; omega
theorem runsL_nil : runsL [] = [] := by rw [runsL]
theorem runsL_cons (x : V) (ys : List V) : runsL (x :: ys) = (1 + headN x ys, x) :: runsL (ys.drop (headN x ys)) := by rw [runsL]
theorem headN_step {x : V} {ys : List V} {j : Nat} (hj : j < ys.length) : headN x (ys.drop j) = if ord x ys[j] = 0 then 1 + headN x (ys.drop (j + 1)) else 0 := by
  unfold headN
  rw [List.drop_eq_getElem_cons hj, List.takeWhile_cons]
  by_cases h : ord x ys[j] = 0
  · rw [if_pos (by simpa using h), if_pos h, List.length_cons]; omega
  · rw [if_neg (by simpa using h), if_neg h]; rfl
theorem count_pure2 (x : V) (ys : List V) (hx : Vok x) (hys : ∀ y ∈ ys, Vok y) (hl : ys.length ≤ 1000) : Pure Tryz.prog 108 [.sl .ro 5 ((x :: ys).map inj)] (.int .i64 ((1 + headN x ys : Nat) : Int)) := by
  refine Pure.of ⟨Tryz.f108, Tryz.func108, rfl, by kernel_rfl⟩ rfl (fun h => ?_)
  refine acalls_of te_ok [] Tryz.func108 (c := _) rfl (Nat.le_of_ble_eq_true rfl) ?_
  simp only [aws, eq_self, Nat.reduceLT, Tryz.ntmps108, Tryz.results108]
  refine ⟨fun n s' h' => ∃ (j : Nat), s' 0 = .sl .ro 5 ((x :: ys).map inj) ∧ s' 3 = .int .i64 ((1 + j : Nat) : Int) ∧ h' = h ∧ n + j = ys.length ∧ headN x ys = j + headN x (ys.drop j), ⟨ys.length, 0, ?_⟩, ?_⟩
  · simp only [aws, eq_self, reduceIte, Int.natCast_one]
    first | done | rfl | trivial
  · rintro n s' h' ⟨j, e0, e3, hh, hn, hd⟩
    subst hh
    simp only [aws]
    refine acode_draw_chain te_ok mixed [] (by kernel_rfl) ?_
    simp only [aws, eq_self, reduceIte, Nat.reduceAdd, Nat.reduceLT, Nat.reduceEqDiff, acmpnil, teset, e0, e3, List.length_map]
    cases hc : decide (((1 + j : Nat) : Int) < ((ys.length + 1 : Nat) : Int)) with
    | false =>
      simp only [decide_eq_false_iff_not] at hc
      simp only [aws, eq_self, reduceIte, Nat.reduceLT, Nat.reduceEqDiff, ares1, e3]
      refine ⟨.refl _, _, rfl, ?_⟩
      rw [List.drop_eq_nil_of_le (show ys.length ≤ j by omega)] at hd
      rw [hd]; rfl
    | true =>
      simp only [decide_eq_true_eq] at hc
      have hj : j < ys.length := by omega
      have hget : (inj x :: ys.map inj)[((1 + j : Nat) : Int).toNat]? = some (inj ys[j]) := by
        rw [Int.toNat_natCast, Nat.add_comm, List.getElem?_cons_succ, List.getElem?_map, List.getElem?_eq_getElem hj]; rfl
      rw [headN_step hj] at hd
      simp only [aws, eq_self, reduceIte, reduceCtorEq, Nat.reduceLeDiff, Nat.reduceEqDiff, Int.reduceLE, Int.reduceToNat, teset, e0, e3, inj_take, inj_agg, inj_len, hget, Int.natCast_nonneg]
      refine skR_pure (equal_pure x ys[j] hx (hys _ (List.getElem_mem hj))) ?_
      cases hq : (ord x ys[j] == 0) with
      | false =>
        simp only [aws, eq_self, reduceIte, Nat.reduceLT, Nat.reduceEqDiff, ares1, e3]
        refine ⟨.refl _, _, rfl, ?_⟩
        rw [if_neg (by simpa using hq)] at hd
        rw [hd]; rfl
      | true =>
        simp only [aws, eq_self, reduceIte, reduceCtorEq, Nat.reduceLT, Nat.reduceEqDiff, acmpnil, e0, e3]
        rw [if_pos (by simpa using hq)] at hd
        refine ⟨n - 1, by omega, j + 1, ?_, by omega, by rw [hd]; omega⟩
        rw [wrap_i64 (by omega) (by omega)]
        congr 1
def runB (r : List (Nat × V)) : List AV := r.flatMap fun p => numA p.1 ++ valA p.2
def runsA (xs : List V) : List AV := numA (runsL xs).length ++ runB (runsL xs)
theorem bytes_runB (r : List (Nat × V)) : ∀ x ∈ runB r, ∃ k, x = .int .u8 k := by
  intro x hx
  unfold runB at hx
  obtain ⟨p, _, h⟩ := List.mem_flatMap.1 hx
  exact (List.mem_append.1 h).elim (bytes_numA _ x) (bytes_valA _ x)
theorem runsL_len : ∀ (n : Nat) (xs : List V), xs.length ≤ n → (runsL xs).length ≤ xs.length := by
  intro n
  induction n with
  | zero => intro xs h; rw [List.eq_nil_of_length_eq_zero (by omega : xs.length = 0), runsL_nil]; exact Nat.le_refl _
  | succ n ih =>
    intro xs h
    cases xs with
    | nil => rw [runsL_nil]; exact Nat.le_refl _
    | cons x ys =>
      rw [runsL_cons, List.length_cons, List.length_cons]
      simp only [List.length_cons] at h
      have h1 : (ys.drop (headN x ys)).length ≤ ys.length := by rw [List.length_drop]; omega
      have := ih (ys.drop (headN x ys)) (by omega)
      omega
theorem runB_len : ∀ (n : Nat) (xs : List V), xs.length ≤ n → n ≤ 1000 → (∀ x ∈ xs, Vok x) → (runB (runsL xs)).length ≤ 13209 * xs.length := by
  intro n
  induction n with
  | zero => intro xs h _ _; rw [List.eq_nil_of_length_eq_zero (by omega : xs.length = 0), runsL_nil]; simp [runB]
  | succ n ih =>
    intro xs h hn hx
    cases xs with
    | nil => rw [runsL_nil]; simp [runB]
    | cons x ys =>
      rw [runsL_cons]
      simp only [List.length_cons] at h
      have hle := headN_le x ys
      have h1 : (ys.drop (headN x ys)).length ≤ ys.length := by rw [List.length_drop]; omega
      have h2 := ih (ys.drop (headN x ys)) (by omega) (by omega) (fun y hy => hx y (List.mem_cons_of_mem _ (List.mem_of_mem_drop hy)))
      have h3 := (hx x List.mem_cons_self).valA_len
      have h4 := numA_len (1 + headN x ys) (by omega)
      simp only [runB, List.flatMap_cons, List.length_append, List.length_cons] at h2 ⊢
      omega
theorem skR_act2 {P : Program} {L : Option LK} {c : Nat} {h h' : AH} {f v : AV} {args : List AV} {k : AV → AH → Prop} (hc : c ≠ 0) (h1 : ACallV P f args h fun out h2 => out = .ret v ∧ h2 = h') (h2 : boxEq L h h') (h3 : k v h') : skR P L c h (.call f args) k := by
  unfold skR; simp only; rw [if_neg hc]; exact ⟨v, h', h1, h2, h3⟩
theorem runs_can (xs : List V) : Pure Tryz.prog 104 [.agg [], .sl .ro 5 (xs.map inj)] (.bool true) := by
  refine Pure.of ⟨Tryz.f104, Tryz.func104, rfl, by kernel_rfl⟩ rfl (fun h => ?_)
  refine acalls_of te_ok [] Tryz.func104 (c := _) rfl (Nat.le_of_ble_eq_true rfl) ?_
  simp only [aws, eq_self, reduceIte, Nat.reduceLT, ares1, Tryz.ntmps104, Tryz.results104]
  exact ⟨by (repeat (first | exact AH.Ext.refl _ | assumption | refine AH.Ext.set ?_ (by first | omega | (simp only [new_nb, set_nb, kill_nb, newTok_nb, setTok_nb]; omega)) _ | refine AH.Ext.new ?_ _)), _, rfl, rfl⟩
set_option maxHeartbeats 4000000 in
theorem runs_write (xs : List V) (hx : ∀ x ∈ xs, Vok x) (hl : xs.length ≤ 1000) : Pure Tryz.prog 106 [.agg [], .sl .full 0 [], .sl .ro 5 (xs.map inj)] (.sl .ro 1 (runsA xs)) := by
  have hby : ∀ x ∈ runsA xs, ∃ k, x = .int .u8 k := fun x hx => (List.mem_append.1 hx).elim (bytes_numA _ x) (bytes_runB _ x)
  have hbl := runB_len xs.length xs (Nat.le_refl _) hl hx
  have hrl := runsL_len xs.length xs (Nat.le_refl _)
  refine Pure.of ⟨Tryz.f106, Tryz.func106, rfl, by kernel_rfl⟩ (by simp only [AV.under]; rw [under_of hby]) (fun h => ?_)
  refine acalls_of te_ok [] Tryz.func106 (c := _) rfl (Nat.le_of_ble_eq_true rfl) ?_
  simp only [aws, eq_self, reduceIte, Nat.reduceLT, Tryz.ntmps106, Tryz.results106]
  refine ⟨fun n s' h' => ∃ (zs : List V) (m : Nat) (rest : AV) (ys : List AV), s' 1 = .sl .full 0 [] ∧ s' 2 = .sl .ro 5 (zs.map inj) ∧ s' 7 = .int .i64 m ∧ s' 8 = rest ∧ n = zs.length ∧ (∀ z ∈ zs, Vok z) ∧ zs.length ≤ xs.length ∧ h.Ext h' ∧ (rest = .sl .full 0 [] ∧ ys = [] ∨ ∃ t G, rest = .sl (.tok t G) 1 ys ∧ h'.tok t = some G ∧ h.nt ≤ t) ∧ m + (runsL zs).length = (runsL xs).length ∧ ys ++ runB (runsL zs) = runB (runsL xs), ⟨xs.length, xs, 0, .sl .full 0 [], [], ?_⟩, ?_⟩
  · simp only [aws, eq_self, reduceIte, Int.natCast_zero]
    exact ⟨hx, Nat.le_refl _, AH.Ext.new (AH.Ext.refl h) _⟩
  · rintro n s' h' ⟨zs, m, rest, ys, e1, e2, e7, e8, rfl, hzs, hzl, hE, hrest, hm, hv⟩
    simp only [aws, eq_self, reduceIte, Nat.reduceLT, acmpnil, teset, e2, List.length_map]
    cases hc : decide ((zs.length : Int) > 0) with
    | false =>
      simp only [decide_eq_false_iff_not] at hc
      obtain rfl : zs = [] := List.eq_nil_of_length_eq_zero (by omega)
      rw [runsL_nil] at hm hv
      simp only [runB, List.flatMap_nil, List.append_nil, List.length_nil, Nat.add_zero] at hv hm
      rcases hrest with ⟨rfl, rfl⟩ | ⟨t, G, rfl, ht, htn⟩
      · have hb0 : (numA m).length * 1 ≤ 140737488355328 := by have := numA_len m (by omega); omega
        simp only [aws, eq_self, reduceIte, Nat.reduceLT, Nat.reduceEqDiff, e1, e7]
        refine ACallV.mono ?_ (ACallV.of ⟨Tryz.f32, Tryz.func32, rfl, by kernel_rfl⟩ (addnum_nil m (by omega) _))
        rintro out h'' ⟨rfl, rfl⟩
        simp only [aws, eq_self, reduceIte, Nat.reduceLT, Nat.reduceEqDiff, appBox, ares1, appendTo, teset, e8, hb0]
        refine ⟨(hE.newTok).setTok hE.nt _, _, rfl, ?_⟩
        show AV.sl Tag.ro 1 (AV.eraseL (numA m)) = _
        rw [erase_of (bytes_numA m)]
        unfold runsA runB
        rw [← hv, ← hm, List.append_nil]
      · have hb0 : ((numA m).length + ys.length) * 1 ≤ 140737488355328 := by
          have := numA_len m (by omega)
          have h2 : ys.length = (runB (runsL xs)).length := by rw [hv]; rfl
          omega
        simp only [aws, eq_self, reduceIte, Nat.reduceLT, Nat.reduceEqDiff, e1, e7]
        refine ACallV.mono ?_ (ACallV.of ⟨Tryz.f32, Tryz.func32, rfl, by kernel_rfl⟩ (addnum_nil m (by omega) _))
        rintro out h'' ⟨rfl, rfl⟩
        have hfin : AV.sl Tag.ro 1 (AV.eraseL (numA m ++ ys)) = AV.sl Tag.ro 1 (runsA xs) := by
          have e : numA m ++ ys = runsA xs := by unfold runsA runB; rw [← hv, ← hm]
          rw [e, erase_of hby]
        cases ys with
        | nil =>
          rw [List.length_nil, Nat.add_zero] at hb0
          simp only [aws, eq_self, reduceIte, Nat.reduceLT, Nat.reduceEqDiff, appBox, ares1, appendTo, teset, e8, hb0]
          refine ⟨(hE.newTok).setTok hE.nt _, _, rfl, ?_⟩
          rw [← hfin, List.append_nil]; rfl
        | cons y ys =>
          rw [List.length_cons] at hb0
          simp only [aws, eq_self, reduceIte, reduceCtorEq, Nat.reduceLT, Nat.reduceEqDiff, appBox, ares1, appendTo, teset, e8, hb0]
          refine ⟨((hE.newTok).setTok hE.nt _).setTok hE.nt _, _, rfl, ?_⟩
          rw [← hfin]; rfl
    | true =>
      simp only [decide_eq_true_eq] at hc
      obtain ⟨z, ws, rfl⟩ : ∃ z ws, zs = z :: ws := by
        cases zs with
        | nil => simp at hc
        | cons z ws => exact ⟨z, ws, rfl⟩
      have hzok := hzs z List.mem_cons_self
      have hws : ∀ y ∈ ws, Vok y := fun y hy => hzs y (List.mem_cons_of_mem _ hy)
      simp only [List.length_cons] at hzl
      have hhd := headN_le z ws
      rw [runsL_cons] at hm hv
      have hle1 : 1 + headN z ws ≤ ws.length + 1 := by omega
      have hsl : List.take (ws.length + 1 - (1 + headN z ws)) (List.drop (1 + headN z ws) (inj z :: ws.map inj)) = (ws.drop (headN z ws)).map inj := by
        rw [Nat.add_comm 1, List.drop_succ_cons, ← List.map_drop, List.take_of_length_le (by rw [List.length_map, List.length_drop]; omega)]
      have hbz : ∀ x ∈ ys ++ numA (1 + headN z ws) ++ valA z, ∃ k, x = .int .u8 k := by
        intro x hx
        refine bytes_runB (runsL xs) x ?_
        rw [← hv]
        simp only [runB, List.flatMap_cons, List.append_assoc, List.mem_append] at hx ⊢
        rcases hx with h | h | h
        · exact .inl h
        · exact .inr (.inl h)
        · exact .inr (.inr (.inl h))
      have hlz : (ys ++ numA (1 + headN z ws)).length + (valA z).length < 1000000000 := by
        have h1 : (ys ++ runB ((1 + headN z ws, z) :: runsL (ws.drop (headN z ws)))).length = (runB (runsL xs)).length := by rw [hv]
        simp only [runB, List.flatMap_cons, List.length_append] at h1 hbl ⊢
        omega
      rcases hrest with ⟨rfl, rfl⟩ | ⟨t, G, rfl, ht, htn⟩
      · simp only [aws, eq_self, reduceIte, Nat.reduceLT, Nat.reduceEqDiff, e2]
        refine ACallV.pure (count_pure2 z ws hzok hws (by omega)) ?_
        simp only [aws, eq_self, reduceIte, Nat.reduceLT]
        refine acode_draw_chain te_ok mixed [2, 6] (by kernel_rfl) ?_
        simp only [aws, eq_self, reduceIte, reduceCtorEq, Nat.reduceAdd, Nat.reduceLT, Nat.reduceLeDiff, Nat.reduceEqDiff, Nat.reduceBEq, Int.reduceLE, Int.reduceToNat, teset, e2, e8, inj_take, inj_agg, inj_len, List.length_map]
        refine skR_act2 (by decide) (ACallV.of ⟨Tryz.f32, Tryz.func32, rfl, by kernel_rfl⟩ (addnum_nil (1 + headN z ws) (by omega) _)) (by rfl) ?_
        refine skR_act2 (by decide) (ACallV.of ⟨Tryz.f97, Tryz.func97, rfl, by kernel_rfl⟩ (addvalue_tok z hzok.wr (numA (1 + headN z ws)) h'.nt _ _ (by rw [setTok_tok, if_pos rfl]) (fun nb nt => under_of hbz nb nt) hlz)) (by rfl) ?_
        simp only [aws, eq_self, reduceIte, Nat.reduceLT, Nat.reduceEqDiff, acmpnil, e1, e2, e7, e8, Int.natCast_nonneg, Int.toNat_natCast, hle1, Nat.le_refl, ite_self, hsl]
        refine ⟨(ws.drop (headN z ws)).length, by rw [List.length_drop]; omega, ws.drop (headN z ws), m + 1, _, numA (1 + headN z ws) ++ valA z, rfl, by rw [wrap_succ (by omega)], rfl, rfl, fun y hy => hws y (List.mem_of_mem_drop hy), by rw [List.length_drop]; omega, ((hE.newTok).setTok hE.nt _).setTok hE.nt _, .inr ⟨h'.nt, _, rfl, by rw [if_pos rfl], hE.nt⟩, by rw [List.length_cons] at hm; omega, ?_⟩
        rw [← hv]
        simp only [runB, List.flatMap_cons, List.append_assoc, List.nil_append]
      · simp only [aws, eq_self, reduceIte, Nat.reduceLT, Nat.reduceEqDiff, e2]
        refine ACallV.pure (count_pure2 z ws hzok hws (by omega)) ?_
        simp only [aws, eq_self, reduceIte, Nat.reduceLT]
        refine acode_draw_chain te_ok mixed [2, 6] (by kernel_rfl) ?_
        simp only [aws, eq_self, reduceIte, reduceCtorEq, Nat.reduceAdd, Nat.reduceLT, Nat.reduceLeDiff, Nat.reduceEqDiff, Nat.reduceBEq, Int.reduceLE, Int.reduceToNat, teset, e2, e8, inj_take, inj_agg, inj_len, List.length_map]
        refine skR_act2 (by decide) (ACallV.of ⟨Tryz.f32, Tryz.func32, rfl, by kernel_rfl⟩ (addnum_tok ys (1 + headN z ws) t G (by omega) (by rw [List.length_append] at hlz; omega) _ ht)) (by rfl) ?_
        refine skR_act2 (by decide) (ACallV.of ⟨Tryz.f97, Tryz.func97, rfl, by kernel_rfl⟩ (addvalue_tok z hzok.wr (ys ++ numA (1 + headN z ws)) t _ _ (by rw [setTok_tok, if_pos rfl]) (fun nb nt => under_of hbz nb nt) hlz)) (by rfl) ?_
        simp only [aws, eq_self, reduceIte, Nat.reduceLT, Nat.reduceEqDiff, acmpnil, e1, e2, e7, e8, Int.natCast_nonneg, Int.toNat_natCast, hle1, Nat.le_refl, ite_self, hsl]
        refine ⟨(ws.drop (headN z ws)).length, by rw [List.length_drop]; omega, ws.drop (headN z ws), m + 1, _, ys ++ numA (1 + headN z ws) ++ valA z, rfl, by rw [wrap_succ (by omega)], rfl, rfl, fun y hy => hws y (List.mem_of_mem_drop hy), by rw [List.length_drop]; omega, (hE.setTok htn _).setTok htn _, .inr ⟨t, _, rfl, by rw [if_pos rfl], htn⟩, by rw [List.length_cons] at hm; omega, ?_⟩
        rw [← hv]
        simp only [runB, List.flatMap_cons, List.append_assoc]
end Go.Proofs.YtlbhgoffiigfbaaGreat.AW
end
section
set_option linter.unusedSimpArgs false
set_option linter.unusedVariables false
namespace Go.Proofs.YtlbhgoffiigfbaaGreat.AW
open Go Go.RowKit

theorem intfn_pure (x : V) : Pure Tryz.prog 147 [inj x] (.bool (x.kind != 2)) := by
  obtain ⟨k, i, t, xs, ks⟩ := x
  rw [inj_mk]
  refine Pure.ofW ⟨Tryz.f147, Tryz.func147, rfl, by kernel_rfl⟩ rfl (fun h hsc => ?_)
  refine acalls_of te_ok [] Tryz.func147 (c := _) rfl (Nat.le_of_ble_eq_true rfl) ?_
  simp only [aws, eq_self, reduceIte, Nat.reduceLT, acmpnil, ares1, teset, Tryz.ntmps147, Tryz.results147]
  exact ⟨by (repeat (first | exact AH.Ext.refl _ | assumption | refine AH.Ext.set ?_ (by first | omega | (simp only [new_nb, set_nb, kill_nb, newTok_nb, setTok_nb]; omega)) _ | refine AH.Ext.new ?_ _)), _, rfl, .refl _⟩
def intsL (xs : List V) : Bool := xs.all fun x => x.kind == 2
theorem any_ints (xs : List V) : (!xs.any fun x => x.kind != 2) = intsL xs := by
  unfold intsL
  induction xs with
  | nil => rfl
  | cons x xs ih => rw [List.any_cons, List.all_cons, Bool.not_or, ih]; simp [bne]
theorem delta_can (xs : List V) (hl : xs.length < 4611686018427387904) : Pure Tryz.prog 144 [.agg [], .sl .ro 5 (xs.map inj)] (.bool (intsL xs)) := by
  refine Pure.of ⟨Tryz.f144, Tryz.func144, rfl, by kernel_rfl⟩ rfl (fun h => ?_)
  refine acalls_of te_ok [] Tryz.func144 (c := _) rfl (Nat.le_of_ble_eq_true rfl) ?_
  simp only [aws, eq_self, reduceIte, Nat.reduceLT, Tryz.ntmps144, Tryz.results144]
  refine ACallV.pure (contains_vals _ _ xs (fun x _ => intfn_pure x) hl) ?_
  simp only [aws, eq_self, reduceIte, Nat.reduceLT, ares1]
  exact ⟨by (repeat (first | exact AH.Ext.refl _ | assumption | refine AH.Ext.set ?_ (by first | omega | (simp only [new_nb, set_nb, kill_nb, newTok_nb, setTok_nb]; omega)) _ | refine AH.Ext.new ?_ _)), _, rfl, by rw [← any_ints]; rfl⟩
def deltaL : Int → List V → List AV
  | _, [] => []
  | p, x :: xs => numA (zig (x.int - p)) ++ deltaL x.int xs
def deltaA (xs : List V) : List AV := numA xs.length ++ deltaL 0 xs
theorem bytes_deltaL : ∀ (xs : List V) (p : Int), ∀ x ∈ deltaL p xs, ∃ k, x = .int .u8 k
  | [], _ => by intro x hx; simp [deltaL] at hx
  | v :: xs, p => by
    intro x hx
    rw [deltaL] at hx
    exact (List.mem_append.1 hx).elim (bytes_numA _ x) (bytes_deltaL xs _ x)
theorem Vok.int {v : V} (h : Vok v) : -1000000000000 ≤ v.int ∧ v.int ≤ 1000000000000 := by
  obtain ⟨k, i, t, xs, ks⟩ := v
  exact (shape_small (Vok.shape h).1).1
theorem deltaL_len : ∀ (xs : List V) (p : Int), (∀ x ∈ xs, Vok x) → -1000000000000 ≤ p → p ≤ 1000000000000 → (deltaL p xs).length ≤ 9 * xs.length
  | [], _, _, _, _ => by simp [deltaL]
  | v :: xs, p, h, h1, h2 => by
    have hv := (h v List.mem_cons_self).int
    have ih := deltaL_len xs v.int (fun y hy => h y (List.mem_cons_of_mem _ hy)) hv.1 hv.2
    have := numA_len (zig (v.int - p)) (zig_lt (by omega) (by omega))
    rw [deltaL, List.length_append, List.length_cons]
    omega
theorem deltaL_drop {xs : List V} {j : Nat} (hj : j < xs.length) (p : Int) : deltaL p (xs.drop j) = numA (zig (xs[j].int - p)) ++ deltaL xs[j].int (xs.drop (j + 1)) := by
  rw [List.drop_eq_getElem_cons hj, deltaL]
theorem drop1 (v : V) : List.drop 1 (inj v).cells = [.int .i64 v.int, .str v.text, .sl .ro 5 (v.items.map inj), .sl .ro 1 (v.keys.map .str)] := by cases v; simp [inj_mk, AV.cells, V.int, V.text, V.items, V.keys]
set_option maxHeartbeats 4000000 in
theorem delta_write (xs : List V) (hx : ∀ x ∈ xs, Vok x) (hl : xs.length ≤ 1000) : Pure Tryz.prog 146 [.agg [], .sl .full 0 [], .sl .ro 5 (xs.map inj)] (.sl .ro 1 (deltaA xs)) := by
  have hby : ∀ x ∈ deltaA xs, ∃ k, x = .int .u8 k := fun x hx => (List.mem_append.1 hx).elim (bytes_numA _ x) (bytes_deltaL _ _ x)
  have hbl := deltaL_len xs 0 hx (by omega) (by omega)
  have hnl := numA_len xs.length (by omega)
  refine Pure.of ⟨Tryz.f146, Tryz.func146, rfl, by kernel_rfl⟩ (by simp only [AV.under]; rw [under_of hby]) (fun h => ?_)
  refine acalls_of te_ok [] Tryz.func146 (c := _) rfl (Nat.le_of_ble_eq_true rfl) ?_
  simp only [aws, eq_self, reduceIte, Nat.reduceLT, Nat.reduceEqDiff, teset, Tryz.ntmps146, Tryz.results146, List.length_map]
  refine ACallV.mono ?_ (ACallV.of ⟨Tryz.f32, Tryz.func32, rfl, by kernel_rfl⟩ (addnum_nil xs.length (by omega) _))
  rintro out h' ⟨rfl, rfl⟩
  simp only [aws, eq_self, reduceIte, Nat.reduceLT, Nat.reduceEqDiff, teset, List.length_map]
  refine ⟨fun n s' h' => ∃ (j G : Nat) (ys : List AV) (p : Int), s' 1 = .sl (.tok h.nt G) 1 ys ∧ s' 7 = .int .i64 p ∧ s' 14 = .sl .ro 5 (xs.map inj) ∧ s' 15 = .int .i64 xs.length ∧ s' 16 = .int .i64 j ∧ n + j = xs.length ∧ h.Ext h' ∧ h'.tok h.nt = some G ∧ (-1000000000000 ≤ p ∧ p ≤ 1000000000000) ∧ ys ++ deltaL p (xs.drop j) = deltaA xs, ⟨xs.length, 0, (numA xs.length).length - 1, numA xs.length, 0, ?_⟩, ?_⟩
  · simp only [aws, eq_self, reduceIte, Nat.reduceEqDiff, Int.reduceLE, Int.reduceNeg, Int.natCast_zero]
    exact ⟨(((AH.Ext.refl h).new _).newTok).setTok (Nat.le_refl _) _, rfl⟩
  · rintro n s' h' ⟨j, G, ys, p, e1, e7, e14, e15, e16, hn, hE, ht, hp, hv⟩
    simp only [aws, eq_self, reduceIte, Nat.reduceLT, Int.reduceNeg, acmpnil, e15, e16]
    cases hc : decide ((j : Int) < (xs.length : Int)) with
    | false =>
      simp only [aws, eq_self, reduceIte, Nat.reduceLT, Nat.reduceEqDiff, Int.reduceNeg, ares1, e1]
      simp only [decide_eq_false_iff_not] at hc
      rw [List.drop_eq_nil_of_le (by omega)] at hv
      simp only [deltaL, List.append_nil] at hv
      exact ⟨hE, _, rfl, by rw [hv]; show AV.sl Tag.ro 1 (AV.eraseL (deltaA xs)) = _; rw [erase_of hby]⟩
    | true =>
      simp only [decide_eq_true_eq] at hc
      have hj : j < xs.length := by omega
      have hget : (xs.map inj)[((j : Nat) : Int).toNat]? = some (inj xs[j]) := by simp [hj]
      have hci := drop1 xs[j]
      have hvi := (hx _ (List.getElem_mem hj)).int
      have hw : IntKind.i64.wrap (xs[j].int - p) = xs[j].int - p := wrap_i64 (by omega) (by omega)
      rw [deltaL_drop hj] at hv
      have hlen : ys.length < 1000000000 := by
        have := congrArg List.length hv
        simp only [deltaA, List.length_append] at this
        omega
      simp only [aws, eq_self, reduceIte, Nat.reduceAdd, Nat.reduceLT, Nat.reduceLeDiff, Nat.reduceEqDiff, Int.reduceNeg, acmpnil, storeB, teset, e1, e7, e14, e16, inj_take, inj_agg, inj_len, inj_one, hget, Int.natCast_nonneg, hci, hw]
      have hk : ((h'.new [AV.int IntKind.i64 0, AV.int IntKind.i64 0, AV.str { data := #[] }, AV.sl Tag.full 0 [], AV.sl Tag.full 0 []]).set h'.nb (inj xs[j]).cells).tok h.nt = some G := ht
      refine ACallV.mono ?_ (ACallV.of ⟨Tryz.f101, Tryz.func101, rfl, by kernel_rfl⟩ (addint_tok ys (xs[j].int - p) h.nt G (by omega) (by omega) hlen _ hk))
      rintro out h'' ⟨rfl, rfl⟩
      simp only [aws, eq_self, reduceIte, Nat.reduceLT, Nat.reduceEqDiff, Int.reduceNeg, acmpnil, teset, e1, e7, e14, e15, e16, hci]
      refine ⟨n - 1, by omega, j + 1, _, ys ++ numA (zig (xs[j].int - p)), xs[j].int, rfl, rfl, by rw [wrap_succ (by omega)], by omega, ((hE.new _).set hE.nb _).setTok (Nat.le_refl _) _, rfl, hvi, by rw [List.append_assoc]; exact hv⟩
end Go.Proofs.YtlbhgoffiigfbaaGreat.AW
end
section
set_option linter.unusedSimpArgs false
set_option linter.unusedVariables false
namespace Go.Proofs.YtlbhgoffiigfbaaGreat.AW
open Go Go.RowKit

def flatV (xs : List V) : List AV := (xs.map inj).flatMap AV.cells
theorem flatV_len (xs : List V) : (flatV xs).length = xs.length * 5 := cells_len xs
theorem flatV_app (a b : List V) : flatV (a ++ b) = flatV a ++ flatV b := by simp [flatV]
theorem flatV_cons (x : V) (b : List V) : flatV (x :: b) = (inj x).cells ++ flatV b := by simp [flatV]
theorem flatV_take {xs : List V} {j : Nat} (hj : j ≤ xs.length) : List.take (j * 5) (flatV xs) = flatV (xs.take j) := by
  conv => lhs; rw [← List.take_append_drop j xs, flatV_app]
  exact List.take_left' (by rw [flatV_len, List.length_take, Nat.min_eq_left hj])
theorem flatV_drop {xs : List V} {j : Nat} (hj : j ≤ xs.length) : List.drop (j * 5) (flatV xs) = flatV (xs.drop j) := by
  conv => lhs; rw [← List.take_append_drop j xs, flatV_app]
  exact List.drop_left' (by rw [flatV_len, List.length_take, Nat.min_eq_left hj])
theorem flatV_at {xs : List V} {j : Nat} (hj : j < xs.length) : ∃ post, List.drop (j * 5) (flatV xs) = (inj xs[j]).cells ++ post := by
  rw [flatV_drop (by omega), List.drop_eq_getElem_cons hj, flatV_cons]
  exact ⟨_, rfl⟩
theorem flatV_set {xs : List V} {j : Nat} (hj : j < xs.length) (y : V) : List.take (j * 5) (flatV xs) ++ (inj y).cells ++ List.drop (j * 5 + 5) (flatV xs) = flatV (xs.set j y) := by
  rw [flatV_take (by omega), show j * 5 + 5 = (j + 1) * 5 by omega, flatV_drop (by omega), List.set_eq_take_append_cons_drop, if_pos hj, flatV_app, flatV_cons, List.append_assoc]
set_option maxHeartbeats 4000000 in
theorem compact_calls {xs : List V} (hx : ∀ x ∈ xs, Vok x) (hne : xs ≠ []) (hl : xs.length < 1000000) {b : Nat} {h : AH} (hb : h.box b = some (flatV xs)) :
    ACalls Tryz.prog 124 [.ms b 0 xs.length 5, .fn (.func 110) [] []] h fun out h' => out = .ret (.sl .ro 5 ((dd xs).map inj)) ∧ h' = h.kill b := by
  have hpos : 0 < xs.length := List.length_pos_iff.2 hne
  have hdne : dd xs ≠ [] := by
    cases xs with
    | nil => exact absurd rfl hne
    | cons x r => simp [dd]
  refine ACalls.give (by decide) (by simpa using hdne) (fun x hx => by
    obtain ⟨v, _, rfl⟩ := List.mem_map.1 hx; exact inj_len v) (by rw [← injL_eq]; exact injL_under _) ?_
  rw [List.length_map]
  refine acalls_of te_ok [] Tryz.func124 (c := _) rfl (Nat.le_of_ble_eq_true rfl) ?_
  simp only [aws, ne_eq, eq_self, reduceIte, Nat.reduceLT, acmpnil, teset, Tryz.ntmps124, Tryz.results124]
  cases hc : decide ((xs.length : Int) < 2) with
  | true =>
    simp only [aws, eq_self, implies_true, reduceIte, reduceCtorEq, Nat.reduceLT, ares1]
    simp only [decide_eq_true_eq] at hc
    have e : dd xs = xs := by
      cases xs with
      | nil => rfl
      | cons x r =>
        have : r = [] := List.eq_nil_of_length_eq_zero (by simp only [List.length_cons] at hc; omega)
        subst this; rfl
    rw [e]
    exact ⟨b, [], _, rfl, rfl, by rw [List.append_nil]; exact hb, .inl rfl⟩
  | false =>
    simp only [decide_eq_false_iff_not] at hc
    simp only [aws, eq_self, Nat.reduceLT]
    refine ⟨fun n s' h' => ∃ k : Nat, s' 0 = .ms b 0 xs.length 5 ∧ s' 1 = .fn (.func 110) [] [] ∧ s' 5 = .int .i64 ((k + 1 : Nat) : Int) ∧ h' = h ∧ n + (k + 1) = xs.length ∧ dd xs = xs.take (k + 1) ++ ddG (xs.getD k zeroV) (xs.drop (k + 1)), ⟨xs.length - 1, 0, ?_⟩, ?_⟩
    · simp only [aws, eq_self, reduceIte, reduceCtorEq, Nat.reduceEqDiff, Int.natCast_one]
      refine ⟨by omega, ?_⟩
      rw [dd_start hpos, List.getD_eq_getElem?_getD, List.getElem?_eq_getElem hpos]; rfl
    · rintro n s' h' ⟨k, e0, e1, e5, rfl, hn, hd⟩
      simp only [aws, eq_self, reduceIte, reduceCtorEq, Nat.reduceLT, acmpnil, teset, e0, e5]
      cases hc2 : decide (((k + 1 : Nat) : Int) < (xs.length : Int)) with
      | false =>
        simp only [decide_eq_false_iff_not] at hc2
        simp only [aws, eq_self, implies_true, reduceIte, reduceCtorEq, Nat.reduceLT, Nat.reduceEqDiff, ares1, e0]
        have e : dd xs = xs := by
          rw [hd, List.drop_eq_nil_of_le (by omega), ddG, List.append_nil, List.take_of_length_le (by omega)]
        rw [e]
        exact ⟨b, [], _, rfl, rfl, by rw [List.append_nil]; exact hb, .inl rfl⟩
      | true =>
        simp only [decide_eq_true_eq] at hc2
        have hk : k + 1 < xs.length := by omega
        have hw : IntKind.i64.wrap (((k + 1 : Nat) : Int) - 1) = (k : Int) := by rw [wrap_i64 (by omega) (by omega)]; omega
        obtain ⟨p1, hp1⟩ := flatV_at hk
        obtain ⟨p0, hp0⟩ := flatV_at (show k < xs.length by omega)
        have t1 : List.take 5 ((inj xs[k + 1]).cells ++ p1) = (inj xs[k + 1]).cells := by rw [List.take_append_of_le_length (by rw [inj_len]; exact Nat.le_refl _), inj_take]
        have t0 : List.take 5 ((inj xs[k]).cells ++ p0) = (inj xs[k]).cells := by rw [List.take_append_of_le_length (by rw [inj_len]; exact Nat.le_refl _), inj_take]
        have l1 : 5 ≤ ((inj xs[k + 1]).cells ++ p1).length := by rw [List.length_append, inj_len]; omega
        have l0 : 5 ≤ ((inj xs[k]).cells ++ p0).length := by rw [List.length_append, inj_len]; omega
        have hk0 : ((k : Nat) : Int) < (xs.length : Int) := by omega
        have hgd : xs.getD k zeroV = xs[k] := by rw [List.getD_eq_getElem?_getD, List.getElem?_eq_getElem (by omega)]; rfl
        have hgd1 : xs.getD (k + 1) zeroV = xs[k + 1] := by rw [List.getD_eq_getElem?_getD, List.getElem?_eq_getElem hk]; rfl
        rw [hgd, ddG_step _ hk] at hd
        simp only [aws]
        refine acode_draw_chain te_ok mixed [] (by kernel_rfl) ?_
        simp only [aws, eq_self, reduceIte, reduceCtorEq, Nat.reduceAdd, Nat.reduceLT, Nat.reduceEqDiff, acmpnil, teset, e0, e1, e5, inj_agg, hb, hw, Int.natCast_nonneg, Int.toNat_natCast, hc2, hk0, hp1, hp0, t1, t0, l1, l0]
        refine skR_pure (equal_pure xs[k + 1] xs[k] (hx _ (List.getElem_mem _)) (hx _ (List.getElem_mem _))) ?_
        cases hq : (ord xs[k + 1] xs[k] == 0) with
        | false =>
          simp only [aws, eq_self, reduceIte, reduceCtorEq, Nat.reduceLT, Nat.reduceEqDiff, acmpnil, e0, e1, e5]
          rw [if_neg (by simpa using hq)] at hd
          refine ⟨n - 1, by omega, k + 1, ?_, by omega, ?_⟩
          · rw [wrap_succ (by omega)]
          · rw [hd, hgd1, List.take_succ_eq_append_getElem hk, List.append_assoc]; rfl
        | true =>
          rw [if_pos (by simpa using hq)] at hd
          have hk1 : k + 1 ≤ xs.length := by omega
          simp only [aws, eq_self, reduceIte, reduceCtorEq, Nat.reduceLT, Nat.reduceEqDiff, teset, e0, e5, Int.natCast_nonneg, Int.toNat_natCast, hk1, Nat.le_refl]
          refine ⟨fun m s2 h2 => ∃ (j kk : Nat) (zs : List V), s2 0 = .ms b 0 xs.length 5 ∧ s2 1 = .fn (.func 110) [] [] ∧ s2 5 = .int .i64 kk ∧ s2 6 = .ms b ((k + 1) * 5) (xs.length - (k + 1)) 5 ∧ s2 7 = .int .i64 ((j + 1 : Nat) : Int) ∧ h2 = h'.set b (flatV zs) ∧ zs.length = xs.length ∧ m + (j + 1) = xs.length - (k + 1) ∧ k + 1 ≤ kk ∧ kk ≤ k + 1 + j ∧ zs.drop (k + 1 + j) = xs.drop (k + 1 + j) ∧ dd xs = zs.take kk ++ ddG (xs.getD (k + 1 + j) zeroV) (xs.drop (k + 1 + j + 1)), ⟨xs.length - (k + 1) - 1, 0, k + 1, xs, ?_⟩, ?_⟩
          · simp only [aws, eq_self, reduceIte, reduceCtorEq, Nat.reduceLeDiff, Nat.reduceEqDiff, e0, e1, e5, Int.natCast_one]
            rw [hgd1]
            refine ⟨(AH.set_self _ hb).symm, by omega, ?_⟩
            first | exact hd | exact ⟨Nat.le_refl _, Nat.le_refl _, hd⟩
          · rintro m s2 h2 ⟨j, kk, zs, r0, r1, r5, r6, r7, rfl, hzl, hm, hkk1, hkk2, hzd, hdz⟩
            have hbz : (h'.set b (flatV zs)).box b = some (flatV zs) := by rw [set_box, if_pos rfl]
            simp only [aws, eq_self, reduceIte, Nat.reduceLT, Nat.reduceEqDiff, acmpnil, teset, r6, r7]
            cases hc3 : decide (((j + 1 : Nat) : Int) < ((xs.length - (k + 1) : Nat) : Int)) with
            | false =>
              simp only [decide_eq_false_iff_not] at hc3
              have hkn : kk ≤ xs.length := by omega
              have hnz : (xs.length - kk = 0) = False := by simp only [eq_iff_iff, iff_false]; omega
              have hfit : kk * 5 + (xs.length - kk) * 5 ≤ (flatV zs).length := by rw [flatV_len]; omega
              have htk := flatV_take (xs := zs) (j := kk) (by omega)
              simp only [aws, eq_self, implies_true, reduceIte, reduceCtorEq, Nat.reduceLT, Nat.reduceEqDiff, Nat.reduceMul, acmpnil, ares1, teset, r0, r1, r5, Int.natCast_nonneg, Int.toNat_natCast, hkn, Nat.le_refl, aclear, hnz, hfit, htk, Nat.zero_le, Nat.sub_zero, if_true]
              have hdd : dd xs = zs.take kk := by
                rw [hdz, List.drop_eq_nil_of_le (by omega), ddG, List.append_nil]
              have hddl : (dd xs).length = kk := by rw [hdd, List.length_take]; omega
              rw [hddl]
              refine ⟨b, zeros [AV.int IntKind.i64 0, AV.int IntKind.i64 0, AV.str { data := #[] }, AV.sl Tag.full 0 [], AV.sl Tag.full 0 []] (xs.length - kk) ++ List.drop (kk * 5 + (zeros [AV.int IntKind.i64 0, AV.int IntKind.i64 0, AV.str { data := #[] }, AV.sl Tag.full 0 [], AV.sl Tag.full 0 []] (xs.length - kk)).length) (flatV zs), _, rfl, rfl, ?_, .inl rfl, ?_⟩
              · rw [hdd, if_pos rfl, List.append_assoc]
                rfl
              · intro b2 hb2 hne2
                rw [if_neg hne2, if_neg hne2]
            | true =>
              simp only [decide_eq_true_eq] at hc3
              simp only [aws]
              refine acode_draw_chain te_ok mixed [] (by kernel_rfl) ?_
              have hA : k + 1 + (j + 1) < xs.length := by omega
              have hB : k + 1 + j < xs.length := by omega
              have hwj : IntKind.i64.wrap (((j + 1 : Nat) : Int) - 1) = (j : Int) := by rw [wrap_i64 (by omega) (by omega)]; omega
              have hj0 : ((j : Nat) : Int) < ((xs.length - (k + 1) : Nat) : Int) := by omega
              have hgB : xs.getD (k + 1 + j) zeroV = xs[k + 1 + j] := by rw [List.getD_eq_getElem?_getD, List.getElem?_eq_getElem hB]; rfl
              have hgA : xs.getD (k + 1 + (j + 1)) zeroV = xs[k + 1 + (j + 1)] := by rw [List.getD_eq_getElem?_getD, List.getElem?_eq_getElem hA]; rfl
              have hzB : zs[k + 1 + j]'(by omega) = xs[k + 1 + j] := by
                have := congrArg (fun l : List V => l[0]?) hzd
                simp only [List.getElem?_drop, Nat.add_zero] at this
                rw [List.getElem?_eq_getElem (by omega), List.getElem?_eq_getElem hB] at this
                injection this
              have hzA : zs[k + 1 + (j + 1)]'(by omega) = xs[k + 1 + (j + 1)] := by
                have := congrArg (fun l : List V => l[1]?) hzd
                simp only [List.getElem?_drop] at this
                rw [show k + 1 + j + 1 = k + 1 + (j + 1) by omega, List.getElem?_eq_getElem (by omega), List.getElem?_eq_getElem hA] at this
                injection this
              obtain ⟨pA, hpA⟩ := flatV_at (xs := zs) (j := k + 1 + (j + 1)) (by omega)
              obtain ⟨pB, hpB⟩ := flatV_at (xs := zs) (j := k + 1 + j) (by omega)
              rw [hzA, Nat.add_mul (k + 1) (j + 1) 5] at hpA
              rw [hzB, Nat.add_mul (k + 1) j 5] at hpB
              have tA : List.take 5 ((inj xs[k + 1 + (j + 1)]).cells ++ pA) = (inj xs[k + 1 + (j + 1)]).cells := by rw [List.take_append_of_le_length (by rw [inj_len]; exact Nat.le_refl _), inj_take]
              have tB : List.take 5 ((inj xs[k + 1 + j]).cells ++ pB) = (inj xs[k + 1 + j]).cells := by rw [List.take_append_of_le_length (by rw [inj_len]; exact Nat.le_refl _), inj_take]
              have lA : 5 ≤ ((inj xs[k + 1 + (j + 1)]).cells ++ pA).length := by rw [List.length_append, inj_len]; omega
              have lB : 5 ≤ ((inj xs[k + 1 + j]).cells ++ pB).length := by rw [List.length_append, inj_len]; omega
              rw [hgB, show k + 1 + j + 1 = k + 1 + (j + 1) by omega, ddG_step _ hA] at hdz
              simp only [aws, eq_self, reduceIte, Nat.reduceAdd, Nat.reduceLT, Nat.reduceEqDiff, acmpnil, teset, r1, r6, r7, inj_agg, Int.natCast_nonneg, Int.toNat_natCast, hc3, hwj, hj0, hpA, hpB, tA, tB, lA, lB]
              refine skR_pure (equal_pure xs[k + 1 + (j + 1)] xs[k + 1 + j] (hx _ (List.getElem_mem _)) (hx _ (List.getElem_mem _))) ?_
              cases hq2 : (ord xs[k + 1 + (j + 1)] xs[k + 1 + j] == 0) with
              | true =>
                rw [if_pos (by simpa using hq2)] at hdz
                simp only [aws, eq_self, reduceIte, reduceCtorEq, Nat.reduceLT, Nat.reduceEqDiff, acmpnil, r0, r1, r5, r6, r7]
                refine ⟨m - 1, by omega, j + 1, kk, zs, rfl, by rw [wrap_succ (by omega)], rfl, hzl, by omega, hkk1, by omega, ?_, ?_⟩
                · have := congrArg (List.drop 1) hzd
                  rwa [List.drop_drop, List.drop_drop, show k + 1 + j + 1 = k + 1 + (j + 1) by omega] at this
                · rw [hgA]; exact hdz
              | false =>
                rw [if_neg (by simpa using hq2)] at hdz
                have hkx : ((kk : Nat) : Int) < (xs.length : Int) := by omega
                have hset := flatV_set (xs := zs) (j := kk) (by omega) xs[k + 1 + (j + 1)]
                have hfit : kk * 5 + 5 ≤ (flatV zs).length := by rw [flatV_len]; omega
                simp only [aws, eq_self, reduceIte, reduceCtorEq, Nat.reduceLT, Nat.reduceEqDiff, acmpnil, storeB, teset, r0, r1, r5, r6, r7, inj_agg, inj_len, inj_one, Int.natCast_nonneg, Int.toNat_natCast, hc3, hpA, tA, lA, hkx, hfit, hset]
                refine ⟨m - 1, by omega, j + 1, kk + 1, zs.set kk xs[k + 1 + (j + 1)], by rw [wrap_succ (by omega)], by rw [wrap_succ (by omega)], by rw [AH.set_set], by rw [List.length_set]; exact hzl, by omega, by omega, by omega, ?_, ?_⟩
                · have := congrArg (List.drop 1) hzd
                  rw [List.drop_drop, List.drop_drop, show k + 1 + j + 1 = k + 1 + (j + 1) by omega] at this
                  rw [List.drop_set_of_lt (by omega)]; exact this
                · rw [hgA, hdz, List.take_succ_eq_append_getElem (by rw [List.length_set]; omega), List.getElem_set_self, List.take_set_of_le (Nat.le_refl _), List.append_assoc]
                  rfl
end Go.Proofs.YtlbhgoffiigfbaaGreat.AW
end
section
set_option linter.unusedSimpArgs false
set_option linter.unusedVariables false
namespace Go.Proofs.YtlbhgoffiigfbaaGreat.AW
open Go Go.RowKit

def ltV (v w : V) : Bool := decide (ord w v < 0)
def lbV (ws : List V) (v : V) : Nat := ws.findIdx fun w => !ltV v w
def foundV (ws : List V) (v : V) : Bool := match ws[lbV ws v]? with | some w => ord w v == 0 | none => false
theorem lbV_le (ws : List V) (v : V) : lbV ws v ≤ ws.length := List.findIdx_le_length
theorem lbV_lt {ws : List V} {v : V} (hs : ws.Pairwise fun a b => leV a b = true) (hw : ∀ w ∈ ws, Vok w) (hv : Vok v) {m : Nat} (hm : m < ws.length) (h : ltV v ws[m] = true) : m < lbV ws v := by
  rcases Nat.lt_or_ge m (lbV ws v) with h1 | h1
  · exact h1
  · exfalso
    have hl : lbV ws v < ws.length := by omega
    have := List.findIdx_getElem (p := fun w => !ltV v w) (xs := ws) (w := hl)
    have hq : ltV v ws[lbV ws v] = false := by
      have h3 : (!ltV v ws[lbV ws v]) = true := this
      simpa using h3
    rcases Nat.eq_or_lt_of_le h1 with e | e
    · simp only [e] at hq
      rw [h] at hq; cases hq
    · have h2 := List.pairwise_iff_getElem.1 hs (lbV ws v) m hl hm e
      unfold ltV at h hq
      unfold leV at h2
      simp only [decide_eq_true_eq, decide_eq_false_iff_not] at h hq h2
      rw [ord_eq _ _ (hw _ (List.getElem_mem _)) hv] at h hq
      have := ordN_T3 ws[lbV ws v] ws[m] v
      unfold T3 at this
      omega
theorem lbV_ge {ws : List V} {v : V} {m : Nat} (hm : m < ws.length) (h : ltV v ws[m] = false) : lbV ws v ≤ m := by
  rcases Nat.lt_or_ge m (lbV ws v) with h1 | h1
  · have := List.not_of_lt_findIdx (p := fun w => !ltV v w) (xs := ws) (i := m) h1
    simp [h] at this
  · exact h1
set_option maxHeartbeats 1000000 in
theorem searchV_pure (ws : List V) (v : V) (hs : ws.Pairwise fun a b => leV a b = true) (hw : ∀ w ∈ ws, Vok w) (hv : Vok v) (hl : ws.length < 1000000) :
    Pure Tryz.prog 125 [.sl .ro 5 (ws.map inj), inj v, .fn (.func 113) [] []] (.tup [.int .i64 (lbV ws v), .bool (foundV ws v)]) := by
  have hord : ∀ w ∈ ws, Pure Tryz.prog 113 [inj w, inj v] (.int .i64 (ord w v)) := fun w h => order_pure w v (hw w h) hv
  obtain ⟨cv, hcv⟩ : ∃ cv, cv = (inj v).cells := ⟨_, rfl⟩
  have hcl : cv.length = 5 := by rw [hcv, inj_len]
  have hct : List.take 5 cv = cv := List.take_of_length_le (by omega)
  have hca : AV.agg cv = inj v := by rw [hcv, inj_agg]
  have hone : cv.all AV.one = true := by rw [hcv, inj_one]
  rw [← hca] at hord ⊢
  refine Pure.of ⟨Tryz.f125, Tryz.func125, rfl, by kernel_rfl⟩ rfl (fun h => ?_)
  refine acalls_of te_ok [] Tryz.func125 (c := _) rfl (Nat.le_of_ble_eq_true rfl) ?_
  simp only [aws, eq_self, reduceIte, Nat.reduceLT, Nat.reduceEqDiff, teset, Tryz.ntmps125, Tryz.results125, List.length_map, hone]
  refine ⟨fun n s' h' => ∃ (i j : Nat), s' 0 = .sl .ro 5 (ws.map inj) ∧ s' 2 = .fn (.func 113) [] [] ∧ s' 4 = .ptr h.nb 0 ∧ s' 8 = .int .i64 ws.length ∧ s' 9 = .int .i64 i ∧ s' 10 = .int .i64 j ∧ h' = h.new cv ∧ n = j - i ∧ i ≤ lbV ws v ∧ lbV ws v ≤ j ∧ j ≤ ws.length, ⟨ws.length, 0, ws.length, ?_⟩, ?_⟩
  · simp only [aws, eq_self, reduceIte, reduceCtorEq, Nat.reduceEqDiff, Int.natCast_zero]
    exact ⟨by omega, Nat.zero_le _, lbV_le _ _, Nat.le_refl _⟩
  · rintro n s' h' ⟨i, j, e0, e2, e4, e8, e9, e10, hh, hn, hi, hj, hjl⟩
    subst hh
    simp only [aws, eq_self, reduceIte, Nat.reduceLT, acmpnil, e9, e10]
    cases hc : decide ((i : Int) < (j : Int)) with
    | false =>
      simp only [aws, eq_self, reduceIte]
      simp only [decide_eq_false_iff_not] at hc
      have hil : i = lbV ws v := by omega
      refine acode_draw_chain te_ok mixed [] (by kernel_rfl) ?_
      simp only [aws, eq_self, reduceIte, Nat.reduceAdd, Nat.reduceLT, Nat.reduceEqDiff, acmpnil, ares1, teset, e8, e9]
      cases hd : decide ((i : Int) < (ws.length : Int)) with
      | false =>
        simp only [aws]
        simp only [decide_eq_false_iff_not] at hd
        refine ⟨by (repeat (first | exact AH.Ext.refl _ | assumption | refine AH.Ext.set ?_ (by first | omega | (simp only [new_nb, set_nb, kill_nb, newTok_nb, setTok_nb]; omega)) _ | refine AH.Ext.new ?_ _)), _, rfl, ?_⟩
        have : foundV ws v = false := by unfold foundV; rw [List.getElem?_eq_none (by omega)]
        rw [this, ← hil]; rfl
      | true =>
        simp only [decide_eq_true_eq] at hd
        have hlt : i < ws.length := by omega
        have hget : (ws.map inj)[((i : Nat) : Int).toNat]? = some (inj ws[i]) := by simp [hlt]
        simp only [aws, eq_self, reduceIte, reduceCtorEq, Nat.reduceLeDiff, Nat.reduceEqDiff, acmpnil, teset, e0, e2, e4, e9, inj_take, inj_agg, inj_len, hget, Int.natCast_nonneg, hcl, hct]
        refine skR_pure (hord _ (List.getElem_mem hlt)) ?_
        simp only [aws, eq_self, reduceIte]
        refine ⟨by (repeat (first | exact AH.Ext.refl _ | assumption | refine AH.Ext.set ?_ (by first | omega | (simp only [new_nb, set_nb, kill_nb, newTok_nb, setTok_nb]; omega)) _ | refine AH.Ext.new ?_ _)), _, rfl, ?_⟩
        have hf : foundV ws v = (ord ws[i] v == 0) := by unfold foundV; rw [← hil, List.getElem?_eq_getElem hlt]
        rw [hf, ← hil]; rfl
    | true =>
      simp only [decide_eq_true_eq] at hc
      have hm : (i + j) / 2 < ws.length := by omega
      have hget : (ws.map inj)[(((i + j) / 2 : Nat) : Int).toNat]? = some (inj ws[(i + j) / 2]) := by
        rw [Int.toNat_natCast, List.getElem?_map, List.getElem?_eq_getElem hm]; rfl
      have hh2 := half i j (by omega)
      simp only [aws, eq_self, reduceIte, Nat.reduceLT, Int.reduceLE, Int.reduceToNat, aconv, acvB, acmpnil, teset, e9, e10, hh2]
      refine acode_draw_chain te_ok mixed [] (by kernel_rfl) ?_
      simp only [aws, eq_self, reduceIte, reduceCtorEq, Nat.reduceAdd, Nat.reduceLT, Nat.reduceLeDiff, Nat.reduceEqDiff, acmpnil, teset, e0, e2, e4, inj_take, inj_agg, inj_len, hget, Int.natCast_nonneg, hcl, hct]
      refine skR_pure (hord _ (List.getElem_mem hm)) ?_
      simp only [aws, eq_self, reduceIte]
      cases hq : decide (ord ws[(i + j) / 2] v < 0) with
      | true =>
        simp only [aws, eq_self, reduceIte, reduceCtorEq, Nat.reduceLT, Nat.reduceEqDiff, acmpnil, e0, e2, e4, e8, e9, e10]
        have := lbV_lt hs hw hv hm (by unfold ltV; exact hq)
        refine ⟨j - ((i + j) / 2 + 1), by omega, (i + j) / 2 + 1, j, by rw [wrap_succ (by omega)], rfl, by omega, by omega, by omega, hjl⟩
      | false =>
        simp only [aws, eq_self, reduceIte, reduceCtorEq, Nat.reduceLT, Nat.reduceEqDiff, e0, e2, e4, e8, e9, e10]
        have := lbV_ge hm (v := v) (by unfold ltV; exact hq)
        refine ⟨(i + j) / 2 - i, by omega, i, (i + j) / 2, rfl, rfl, by omega, by omega, by omega, by omega⟩
end Go.Proofs.YtlbhgoffiigfbaaGreat.AW
end
