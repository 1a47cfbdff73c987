/- Texts of this claim, part 12: E2. -/
import Derived.Test.YtjdocenbfghglaaGreatDoorMg1
import Derived.Test.YtjdocenbfghglaaGreatDoorMg2
import Derived.Test.YtjdocenbfghglaaGreatDoorMg3
import Derived.Test.YtjdocenbfghglaaGreatDoorMg4
import Derived.Test.YtjdocenbfghglaaGreatDoorMg5
import Derived.Test.YtjdocenbfghglaaGreatDoorMg11
section
set_option linter.unusedSimpArgs false
set_option linter.unusedVariables false
namespace Go.Proofs.YtjdocenbfghglaaGreatDoor.AW
open Go Go.RowKit
theorem sort_nil : Pure Tryz.prog 103 [.sl .full 0 []] (.tup []) := erun_pure ec_ok (d := 50) rfl (by kernel_rfl)
theorem grow_nil0 : Pure Tryz.prog 135 [.sl .full 0 [], .int .i64 0] (.sl .full 0 []) := by
  refine Pure.of_calls ⟨Tryz.f135, Tryz.func135, rfl, by kernel_rfl⟩ (fun m w args' hl hr => ?_)
  obtain ⟨l⟩ := args'
  simp only [List.size_toArray, List.length_cons, List.length_nil] at hl
  match l, hl with
  | [a0, a1], _ =>
    have e0 := hr 0 _ rfl
    have e1 := (hr 1 _ rfl).int_inv
    have hs0 : a0 = .slice none 0 0 := by
      have e0' : VR m (.sl .full 0 []) a0 := e0
      cases e0' with
      | slnil _ _ _ => rfl
      | slemp _ _ _ hz => exact absurd hz (by decide)
      | sl _ _ _ _ _ _ _ hz => exact absurd hz (by decide)
    have hs1 : a1 = .int .i64 0 := e1
    subst hs0 hs1
    refine Calls.mono (Any8.slices_Grow_room Tryz.layGrow none 0 0 0 w (Nat.le_refl _) (by omega) (by omega) (Nat.le_refl _)) ?_
    rintro e w' ⟨rfl, rfl⟩
    exact ⟨⟨_, rfl, .slnil _ _ (fun _ _ e => by cases e)⟩, Bel.refl _ _⟩
set_option maxHeartbeats 1000000 in
theorem concat_nil : Pure Tryz.prog 102 [.sl .full 1 [.sl .ro 1 [], .sl .ro 1 []]] (.sl .full 0 []) := by
  refine Pure.ofW ⟨Tryz.f102, Tryz.func102, rfl, by kernel_rfl⟩ rfl (fun h hsc => ?_)
  have nat0 : ((0 : Nat) : Int) = 0 := rfl
  have nat1 : ((1 : Nat) : Int) = 1 := rfl
  have nat2 : ((2 : Nat) : Int) = 2 := rfl
  have w00 : IntKind.i64.wrap 0 = 0 := rfl
  have w01 : IntKind.i64.wrap 1 = 1 := rfl
  have w12 : IntKind.i64.wrap 2 = 2 := rfl
  refine acalls_of te_ok [] Tryz.func102 (c := _) rfl (Nat.le_of_ble_eq_true rfl) ?_
  simp only [aws, eq_self, reduceIte, Nat.reduceAdd, Nat.reduceLT, teset, Tryz.ntmps102, Tryz.results102]
  refine ⟨fun n s' h' => ∃ k : Nat, k ≤ 2 ∧ n + k = 2 ∧ s' 0 = .sl .full 1 [.sl .ro 1 [], .sl .ro 1 []] ∧ s' 9 = s' 0 ∧ s' 10 = .int .i64 2 ∧ s' 11 = .int .i64 k ∧ s' 3 = .int .i64 0 ∧ h' = h, ⟨2, 0, by omega, rfl, ?_⟩, ?_⟩
  · simp only [aws, eq_self, reduceIte, reduceCtorEq, Nat.reduceEqDiff,  ]
    exact ⟨rfl, rfl⟩
  · rintro n s' h' ⟨k, hk, hn, e0, e9, e10, e11, e3, rfl⟩
    rw [e0] at e9
    match k, hk with
    | 0, _ =>
      simp only [aws, eq_self, reduceIte, reduceCtorEq, Nat.reduceLT, Nat.reduceEqDiff, Int.reduceLT, Int.reduceLE, Int.reduceToNat, acmpnil, teset, e0, e9, e10, e11, e3, nat0, w00, w01, Int.add_zero, Int.zero_add]
      exact ⟨1, by omega, 1, by omega, rfl, by simp only [eq_self, nat1]⟩
    | 1, _ =>
      simp only [aws, eq_self, reduceIte, reduceCtorEq, Nat.reduceLT, Nat.reduceEqDiff, Int.reduceLT, Int.reduceLE, Int.reduceToNat, Int.reduceAdd, acmpnil, teset, e0, e9, e10, e11, e3, nat0, nat1, w12, w00, Int.add_zero]
      exact ⟨0, by omega, 2, by omega, rfl, by simp only [eq_self, nat2]⟩
    | 2, _ =>
      simp only [aws, eq_self, reduceIte, Nat.reduceLT, Nat.reduceEqDiff, Int.reduceLT, acmpnil, e10, e11, e3, nat2]
      refine ACallV.pure grow_nil0 ?_
      simp only [aws, eq_self, reduceIte, reduceCtorEq, Nat.reduceAdd, Nat.reduceLT, Nat.reduceEqDiff, teset, e0]
      refine ⟨fun n s2 h2 => ∃ k : Nat, k ≤ 2 ∧ n + k = 2 ∧ s2 25 = .sl .full 1 [.sl .ro 1 [], .sl .ro 1 []] ∧ s2 26 = .int .i64 2 ∧ s2 27 = .int .i64 k ∧ s2 6 = .sl .full 0 [] ∧ h2 = h', ⟨2, 0, by omega, rfl, ?_⟩, ?_⟩
      · simp only [aws, eq_self, reduceIte, Nat.reduceEqDiff,  ]
        exact ⟨rfl, rfl⟩
      · rintro n s2 h2 ⟨k, hk, hn2, e25, e26, e27, e6, rfl⟩
        match k, hk with
        | 0, _ =>
          simp only [aws, eq_self, reduceIte, Nat.reduceLT, Nat.reduceLeDiff, Nat.reduceEqDiff, Nat.reduceMul, Int.reduceLT, Int.reduceLE, Int.reduceToNat, Int.reduceAdd, acmpnil, appBox, appendTo, teset, e25, e26, e27, e6, nat0, w01]
          exact ⟨1, by omega, 1, by omega, rfl, by simp only [eq_self, nat1]⟩
        | 1, _ =>
          simp only [aws, eq_self, reduceIte, Nat.reduceLT, Nat.reduceLeDiff, Nat.reduceEqDiff, Nat.reduceMul, Int.reduceLT, Int.reduceLE, Int.reduceToNat, Int.reduceAdd, acmpnil, appBox, appendTo, teset, e25, e26, e27, e6, nat1, w12]
          exact ⟨0, by omega, 2, by omega, rfl, by simp only [eq_self, nat2]⟩
        | 2, _ =>
          simp only [aws, eq_self, reduceIte, Nat.reduceLT, Nat.reduceEqDiff, Int.reduceLT, acmpnil, ares1, e26, e27, e6, nat2]
          exact ⟨.refl _, _, rfl, .refl _⟩
theorem compact_nil : Pure Tryz.prog 104 [.sl .full 0 []] (.sl .full 0 []) := erun_pure ec_ok (d := 50) rfl (by kernel_rfl)
end Go.Proofs.YtjdocenbfghglaaGreatDoor.AW
end
