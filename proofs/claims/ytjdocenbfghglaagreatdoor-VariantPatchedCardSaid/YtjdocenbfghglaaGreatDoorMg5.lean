/- Texts of this claim, part 5: V50, V51. -/
import Derived.Test.YtjdocenbfghglaaGreatDoorMg1
import Derived.Test.YtjdocenbfghglaaGreatDoorMg2
import Derived.Test.YtjdocenbfghglaaGreatDoorMg3
import Derived.Test.YtjdocenbfghglaaGreatDoorMg4
import Derived.Shelf.Spec.SlicesGrow
section
set_option linter.unusedSimpArgs false
set_option linter.unusedVariables false
namespace Go.Proofs.YtjdocenbfghglaaGreatDoor.AW
open Go Go.RowKit Go.Lib

theorem str_zero : ∃ (i0 : TypeInfo) (z : Value), Tryz.prog.info? 9 = some i0 ∧ i0.zero = some z ∧ i0.size = 1 ∧ i0.bytes = 16 ∧ z.cells = #[.string ⟨#[]⟩] := by
  obtain ⟨info, d, h1, h2, h3, h4, h5⟩ := te_ok.info (show te 9 = some _ from rfl)
  obtain ⟨z, hz, hz1, hz2, hz3, hz4, hz5⟩ := te_ok.zero (show te 9 = some _ from rfl) Mem.none
  refine ⟨info, z, h1, ?_, h4, h5, ?_⟩
  · have := hz default
    simp only [zeroValue, Sem.run_bind, typeInfo, run_program, Result.andThen_ok, h1, Sem.run_pure] at this
    cases hzz : info.zero with
    | none => rw [hzz] at this; simp at this
    | some z' => rw [hzz] at this; simp at this; rw [this]
  · have : z = .string ⟨#[]⟩ := by
      have h := hz1
      cases h
      rfl
    rw [this]; rfl
theorem grow_nil {n : Nat} (h0 : 0 < n) (hn : n < 1000000) (h : AH) :
    ACalls Tryz.prog 135 [.sl .full 0 [], .int .i64 n] h fun out h' => ∃ c, n ≤ c ∧ out = .ret (.mc h.nb 0 0 c 1) ∧ h' = h.new (List.replicate c (.str ⟨#[]⟩)) := by
  intro w0 m w args' hl hr hW
  obtain ⟨l⟩ := args'
  simp only [List.size_toArray, List.length_cons, List.length_nil] at hl
  match l, hl with
  | [a0, a1], _ =>
    have e0 := hr 0 _ rfl
    have e1 := (hr 1 _ rfl).int_inv
    have hs0 : a0 = .slice none 0 0 := by
      have e0' : VR m (.sl .full 0 []) a0 := e0
      cases e0' with
      | slnil _ _ _ => rfl
      | slemp _ _ _ hz => exact absurd hz (by decide)
      | sl _ _ _ _ _ _ _ hz => exact absurd hz (by decide)
    have hs1 : a1 = .int .i64 n := e1
    subst hs0 hs1
    obtain ⟨i0, z, g1, g2, g3, g4, g5⟩ := str_zero
    refine Calls.mono (Any8.slices_Grow_grow Tryz.layGrow i0 z g1 g2 (by omega) none 0 0 n [] w (Nat.le_refl _) (by omega) (by rw [g4]; omega) (by omega) (by simp) (fun _ => rfl) (by intro a ha; cases ha)) ?_
    have hge := grownCap_ge w (0 + n) 0 (Tryz.layGrow_ren.t 25)
    generalize grownCap w (0 + n) 0 (Tryz.layGrow_ren.t 25) = c at hge
    rintro e w' ⟨rfl, rfl⟩
    have hz : z.cells.size = 1 := by rw [g5]; rfl
    obtain ⟨arr, harr⟩ : ∃ arr, arr = ([] : List Value).toArray ++ Builtin.zeroCells z.cells (0 + n - 0) ++ Builtin.zeroCells z.cells (c - (0 + n)) := ⟨_, rfl⟩
    have hsz : arr.size = c := by
      rw [harr]; simp [size_zeroCells, hz]; omega
    have hall : ∀ j : Nat, j < arr.size → arr.getD j undef = .string ⟨#[]⟩ := by
      intro j hj
      rw [Array.getD_eq_getD_getElem?, Array.getElem?_eq_getElem hj, Option.getD_some]
      have hmem : arr[j] ∈ arr := Array.getElem_mem hj
      generalize arr[j] = v at hmem
      rw [harr] at hmem
      simp only [Array.mem_append, List.mem_toArray, List.not_mem_nil, false_or] at hmem
      have key : ∀ k, v ∈ Builtin.zeroCells z.cells k → v = .string ⟨#[]⟩ := by
        intro k hk
        rw [← Array.mem_toList_iff, zeroCells_list hz (by decide)] at hk
        simp only [List.mem_map, List.mem_range] at hk
        obtain ⟨q, _, rfl⟩ := hk
        rw [g5, Nat.mod_one]; rfl
      rcases hmem with h1 | h1 <;> exact key _ h1
    rw [← harr]
    obtain ⟨m', hm1, hM, hC, hW1⟩ := hW.drew.newBox (List.replicate c (.str ⟨#[]⟩)) arr (Tryz.layGrow_ren.t 25) (by simp [hsz]) (fun j c hj => by
      have hj2 := (List.getElem?_eq_some_iff.1 hj).1
      rw [List.length_replicate] at hj2
      rw [List.getElem?_replicate, if_pos hj2] at hj
      injection hj with hj; subst hj
      rw [hall j (by omega)]; exact .str _) (fun j hj => by rw [hall j hj]; rfl)
    refine ⟨m', .ret (.mc h.nb 0 0 c 1), _, hm1, ?_, hW1, c, by omega, rfl, rfl⟩
    exact .mc _ _ _ _ _ w.heap.size _ hM (fun _ => rfl) (Nat.zero_le _) (by rw [hC, hsz]; omega)
end Go.Proofs.YtjdocenbfghglaaGreatDoor.AW
end
section
set_option linter.unusedSimpArgs false
set_option linter.unusedVariables false
namespace Go.Proofs.YtjdocenbfghglaaGreatDoor.AW
open Go Go.RowKit

def strs (l : List ByteArray) : List AV := l.map .str
theorem strs_len (l : List ByteArray) : (strs l).length = l.length := by simp [strs]
theorem strs_flat (l : List ByteArray) : (strs l).flatMap AV.cells = strs l := by
  unfold strs
  induction l with
  | nil => rfl
  | cons a l ih => simp [AV.cells] at ih ⊢; exact ih
theorem strs_app (a b : List ByteArray) : strs (a ++ b) = strs a ++ strs b := by simp [strs]
def blanks (k : Nat) : List AV := List.replicate k (.str ⟨#[]⟩)
theorem blanks_len (k : Nat) : (blanks k).length = k := by simp [blanks]
theorem blanks_drop (k j : Nat) : List.drop j (blanks k) = blanks (k - j) := by simp [blanks]
theorem take_app0 (a b : List AV) : List.take a.length (a ++ b) = a := List.take_left' rfl
theorem drop_app0 (a b : List AV) (j : Nat) : List.drop (a.length + j) (a ++ b) = List.drop j b := by rw [← List.drop_drop, List.drop_left' rfl]

set_option maxHeartbeats 4000000 in
theorem concat_calls (ka kb : List ByteArray) (hp : 0 < ka.length + kb.length) (hl : ka.length + kb.length < 1000000) (h : AH) (hs : Scoped h) :
    ACalls Tryz.prog 102 [.sl .full 1 [.sl .ro 1 (strs ka), .sl .ro 1 (strs kb)]] h fun out h' => ∃ c, ka.length + kb.length ≤ c ∧ out = .ret (.mc h.nb 0 (ka.length + kb.length) c 1) ∧ h' = h.new (strs (ka ++ kb) ++ blanks (c - (ka.length + kb.length))) := by
  have la := strs_len ka
  have lb := strs_len kb
  have nat0 : ((0 : Nat) : Int) = 0 := rfl
  have nat1 : ((1 : Nat) : Int) = 1 := rfl
  have nat2 : ((2 : Nat) : Int) = 2 := rfl
  have wr1 : IntKind.i64.wrap (0 + (ka.length : Int)) = (ka.length : Int) := by rw [wrap_i64 (by omega) (by omega)]; omega
  have wr2 : IntKind.i64.wrap ((ka.length : Int) + (kb.length : Int)) = ((ka.length + kb.length : Nat) : Int) := by rw [wrap_i64 (by omega) (by omega)]; omega
  have n1 : decide ((ka.length : Int) < 0) = false := by simp
  have n2 : decide ((((ka.length + kb.length : Nat)) : Int) < 0) = false := by rw [decide_eq_false_iff_not]; omega
  have w01 : IntKind.i64.wrap 1 = 1 := rfl
  have w12 : IntKind.i64.wrap 2 = 2 := rfl
  refine acalls_of te_ok [] Tryz.func102 (c := _) rfl (Nat.le_of_ble_eq_true rfl) ?_
  simp only [aws, eq_self, reduceIte, Nat.reduceAdd, Nat.reduceLT, teset, Tryz.ntmps102, Tryz.results102]
  refine ⟨fun n s' h' => ∃ k : Nat, k ≤ 2 ∧ n + k = 2 ∧ s' 0 = .sl .full 1 [.sl .ro 1 (strs ka), .sl .ro 1 (strs kb)] ∧ s' 9 = s' 0 ∧ s' 10 = .int .i64 2 ∧ s' 11 = .int .i64 k ∧ s' 3 = .int .i64 (if k = 0 then 0 else if k = 1 then (ka.length : Int) else ((ka.length + kb.length : Nat) : Int)) ∧ h' = h, ⟨2, 0, by omega, rfl, ?_⟩, ?_⟩
  · simp only [aws, eq_self, reduceIte, reduceCtorEq, Nat.reduceEqDiff,  ]
    exact ⟨rfl, rfl⟩
  · rintro n s' h' ⟨k, hk, hn, e0, e9, e10, e11, e3, rfl⟩
    rw [e0] at e9
    match k, hk with
    | 0, _ =>
      simp only [aws, eq_self, reduceIte, reduceCtorEq, Nat.reduceLT, Nat.reduceEqDiff, Int.reduceLT, Int.reduceLE, Int.reduceToNat, Int.reduceAdd, acmpnil, teset, e0, e9, e10, e11, e3, la, wr1, n1, w01, nat0]
      exact ⟨1, by omega, 1, by omega, rfl, by simp only [aws, eq_self, reduceIte, nat1]⟩
    | 1, _ =>
      simp only [aws, eq_self, reduceIte, reduceCtorEq, Nat.reduceLT, Nat.reduceEqDiff, Int.reduceLT, Int.reduceLE, Int.reduceToNat, Int.reduceAdd, acmpnil, teset, e0, e9, e10, e11, e3, lb, wr2, n2, w12, nat1]
      exact ⟨0, by omega, 2, by omega, rfl, by simp only [aws, eq_self, reduceIte, nat2]⟩
    | 2, _ =>
      simp only [aws, eq_self, reduceIte, Nat.reduceLT, Nat.reduceEqDiff, Int.reduceLT, acmpnil, e10, e11, e3, nat2]
      refine ACallV.of ⟨Tryz.f135, Tryz.func135, rfl, by kernel_rfl⟩ ((grow_nil hp hl h').mono ?_)
      rintro out h2 ⟨c, hc, rfl, rfl⟩
      simp only [aws, eq_self, reduceIte, reduceCtorEq, Nat.reduceAdd, Nat.reduceLT, Nat.reduceEqDiff, teset, e0]
      refine ⟨fun n s2 h2 => ∃ k : Nat, k ≤ 2 ∧ n + k = 2 ∧ s2 25 = .sl .full 1 [.sl .ro 1 (strs ka), .sl .ro 1 (strs kb)] ∧ s2 26 = .int .i64 2 ∧ s2 27 = .int .i64 k ∧ s2 6 = .mc h'.nb 0 (if k = 0 then 0 else if k = 1 then ka.length else ka.length + kb.length) c 1 ∧ h2 = h'.new (if k = 0 then blanks c else if k = 1 then strs ka ++ blanks (c - ka.length) else strs (ka ++ kb) ++ blanks (c - (ka.length + kb.length))), ⟨2, 0, by omega, rfl, ?_⟩, ?_⟩
      · simp only [aws, eq_self, reduceIte, Nat.reduceEqDiff, blanks]
        exact ⟨rfl, rfl⟩
      · rintro n s2 h2 ⟨k, hk, hn2, e25, e26, e27, e6, rfl⟩
        match k, hk with
        | 0, _ =>
          have hA : ka.length * 16 ≤ 140737488355328 := by omega
          have hB : c * 1 ≤ (blanks c).length := by rw [blanks_len]; omega
          have hC : ka.length ≤ c := by omega
          simp only [aws, eq_self, reduceIte, Nat.reduceLT, Nat.reduceEqDiff, Nat.reduceMul, Int.reduceLT, Int.reduceLE, Int.reduceToNat, Int.reduceAdd, acmpnil, teset, e25, e26, e27, e6, nat0, la, appMc, appCells, cellsOf, strs_flat, hA, hB, hC, Nat.zero_le, blanks_drop, new_set]
          exact ⟨1, by omega, 1, by omega, rfl, by simp only [aws, eq_self, reduceIte, w01, nat1]⟩
        | 1, _ =>
          have hA : (ka.length + kb.length) * 16 ≤ 140737488355328 := by omega
          have hB : c * 1 ≤ (strs ka ++ blanks (c - ka.length)).length := by rw [List.length_append, blanks_len, la]; omega
          have hC : ka.length ≤ c := by omega
          have hD : List.take (ka.length * 1) (strs ka ++ blanks (c - ka.length)) ++ strs kb ++ List.drop (ka.length * 1 + kb.length) (strs ka ++ blanks (c - ka.length)) = strs (ka ++ kb) ++ blanks (c - (ka.length + kb.length)) := by
            have h1 := take_app0 (strs ka) (blanks (c - ka.length))
            have h2 := drop_app0 (strs ka) (blanks (c - ka.length)) kb.length
            rw [la] at h1 h2
            rw [Nat.mul_one, h1, h2, blanks_drop, strs_app, Nat.sub_sub]
          simp only [aws, eq_self, reduceIte, Nat.reduceLT, Nat.reduceEqDiff, Int.reduceLT, Int.reduceLE, Int.reduceToNat, Int.reduceAdd, acmpnil, teset, e25, e26, e27, e6, nat1, lb, appMc, appCells, cellsOf, strs_flat, hA, hB, hC, hc, hD, new_set]
          exact ⟨0, by omega, 2, by omega, rfl, by simp only [aws, eq_self, reduceIte, w12, nat2]⟩
        | 2, _ =>
          simp only [aws, eq_self, reduceIte, Nat.reduceLT, Nat.reduceEqDiff, Int.reduceLT, acmpnil, ares1, e26, e27, e6, nat2]
          exact ⟨c, hc, rfl, rfl⟩
end Go.Proofs.YtjdocenbfghglaaGreatDoor.AW
end
