/- V, part 67: what a row becomes, by the evaluator. -/
import Derived.Test.YtlbhgoffiigfbaaV66
set_option linter.unusedSimpArgs false
set_option linter.unusedVariables false
namespace Go.Proofs.Ytlbhgoffiigfbaa.AW
open Go Go.RowKit

def numF : Nat → Nat → Option (List AV)
  | 0, _ => none
  | f + 1, n => bif Nat.ble n 127 then some [.int .u8 (n : Int)] else (match numF f (n / 128) with
    | some l => some (.int .u8 ((128 + n % 128 : Nat) : Int) :: l)
    | none => none)
theorem numF_eq : ∀ (f n : Nat) (l : List AV), numF f n = some l → l = numA n := by
  intro f
  induction f with
  | zero => intro n l h; simp [numF] at h
  | succ f ih =>
    intro n l h
    simp only [numF] at h
    cases hb : Nat.ble n 127 with
    | true =>
      rw [hb, cond_true] at h
      have := Nat.le_of_ble_eq_true hb
      injection h with h; rw [← h, numA_small (by omega)]
    | false =>
      rw [hb, cond_false] at h
      have hn : 127 < n := by
        rcases Nat.lt_or_ge 127 n with h1 | h1
        · exact h1
        · rw [Nat.ble_eq_true_of_le h1] at hb; cases hb
      split at h
      · next l2 hl => injection h with h; rw [← h, numA_big hn, ih _ _ hl]
      · cases h
def valF (v : V) : Option (List AV × Nat) := match v with
  | .mk k i t _ _ =>
    if k = 1 then some ([.int .u8 (IntKind.u8.wrap k), .int .u8 (IntKind.u8.wrap i)], 2)
    else if k = 2 then (match numF 12 (zig i) with | some l => some (.int .u8 (IntKind.u8.wrap k) :: l, 1 + l.length) | none => none)
    else if k = 3 then (match numF 12 t.size with | some l => some (.int .u8 (IntKind.u8.wrap k) :: (l ++ t.data.toList.map fun (b : UInt8) => AV.int .u8 (b.toNat : Int)), 1 + (l.length + if t.size = 0 then 0 else 1)) | none => none)
    else if k = 4 ∨ k = 5 then none
    else some ([.int .u8 (IntKind.u8.wrap k)], 1)
theorem valF_eq {v : V} {l : List AV} {n : Nat} (h : valF v = some (l, n)) : l = valA v ∧ n = valG v := by
  obtain ⟨k, i, t, xs, ks⟩ := v
  simp only [valF] at h
  rw [valA, valG]
  by_cases h1 : k = 1
  · rw [if_pos h1] at h ⊢; injection h with h; injection h with e1 e2; subst e1 e2
    rw [if_pos h1]; exact ⟨rfl, rfl⟩
  rw [if_neg h1] at h ⊢
  rw [if_neg h1]
  by_cases h2 : k = 2
  · rw [if_pos h2] at h ⊢
    rw [if_pos h2]
    split at h
    · next l2 hl => injection h with h; injection h with e1 e2; subst e1 e2; rw [numF_eq _ _ _ hl]; exact ⟨rfl, rfl⟩
    · cases h
  rw [if_neg h2] at h ⊢
  rw [if_neg h2]
  by_cases h3 : k = 3
  · rw [if_pos h3] at h ⊢
    rw [if_pos h3]
    split at h
    · next l2 hl => injection h with h; injection h with e1 e2; subst e1 e2; rw [numF_eq _ _ _ hl]; exact ⟨rfl, rfl⟩
    · cases h
  rw [if_neg h3] at h ⊢
  rw [if_neg h3]
  by_cases h4 : k = 4 ∨ k = 5
  · rw [if_pos h4] at h; cases h
  rw [if_neg h4] at h ⊢
  rw [if_neg h4]
  injection h with h; injection h with e1 e2; subst e1 e2
  exact ⟨rfl, rfl⟩
theorem nrm_agg {f : Nat} {a : AV} {v : V} (h : nrm f a = some v) : ∃ cs, a = .agg cs := by
  unfold nrm at h
  split at h
  · exact ⟨_, rfl⟩
  · cases h
def rowNum (args : List AV) (h : EH) : Option (AV × EH) := match args with
  | [.sl (.tok t g) 1 xs, .int .i64 n] => if h.ah.tok t = some g ∧ 0 ≤ n ∧ n < 9223372036854775808 ∧ xs.length < 1000000000 then (match numF 12 n.toNat with
    | some l => some (.sl (.tok t (g + l.length)) 1 (xs ++ l), h.setTok t (g + l.length))
    | none => none) else none
  | [.sl .full 0 [], .int .i64 n] => if 0 ≤ n ∧ n < 9223372036854775808 then (match numF 12 n.toNat with
    | some l => some (.sl (.tok h.nt (l.length - 1)) 1 l, h.newTok.setTok h.nt (l.length - 1))
    | none => none) else none
  | _ => none
def rowVal (args : List AV) (h : EH) : Option (AV × EH) := match args with
  | [.sl (.tok t g) 1 xs, a] => (match nrm 8 a with
    | some v => (match valF v with
      | some (l, n) => if h.ah.tok t = some g ∧ AV.underL 0 0 (xs ++ l) = true ∧ xs.length + l.length < 1000000000 then some (.sl (.tok t (g + n)) 1 (xs ++ l), h.setTok t (g + n)) else none
      | none => none)
    | none => none)
  | _ => none
def rowk5 (f : FuncId) (args : List AV) (h : EH) : Option (AV × EH) :=
  bif Nat.beq f 22 then rowNum args h else bif Nat.beq f 74 then rowVal args h else none
theorem rowNum_ok {args : List AV} {h h' : EH} {v : AV} (he : rowNum args h = some (v, h')) : h'.ah.box = h.ah.box ∧ ACalls Try.prog 22 args h.ah (fun out h2 => out = .ret v ∧ h2 = h'.ah) := by
  unfold rowNum at he
  split at he
  · next t g xs n =>
    split at he
    · next hc =>
      obtain ⟨ht, h0, hn, hx⟩ := hc
      split at he
      · next l hl =>
        injection he with he; injection he with e1 e2; subst e1 e2
        have hl := numF_eq _ _ _ hl; subst hl
        rw [EH.setTok_ah ht]
        refine ⟨rfl, ?_⟩
        have := addnum_tok xs n.toNat t g (by omega) hx h.ah ht
        rw [Int.toNat_of_nonneg h0] at this
        exact this
      · cases he
    · cases he
  · next n =>
    split at he
    · next hc =>
      obtain ⟨h0, hn⟩ := hc
      split at he
      · next l hl =>
        injection he with he; injection he with e1 e2; subst e1 e2
        have hl := numF_eq _ _ _ hl; subst hl
        rw [EH.setTok_ah (g0 := 0) (by rw [EH.newTok_ah]; exact newTok_tok0 h.ah), EH.newTok_ah]
        refine ⟨rfl, ?_⟩
        have := addnum_nil n.toNat (by omega) h.ah
        rw [Int.toNat_of_nonneg h0] at this
        exact this
      · cases he
    · cases he
  · cases he
theorem rowVal_ok {args : List AV} {h h' : EH} {v : AV} (he : rowVal args h = some (v, h')) : h'.ah.box = h.ah.box ∧ ACalls Try.prog 74 args h.ah (fun out h2 => out = .ret v ∧ h2 = h'.ah) := by
  unfold rowVal at he
  split at he
  · next t g xs a =>
    split at he
    · next w hw =>
      split at he
      · next l n hl =>
        split at he
        · next hc =>
          obtain ⟨ht, hu, hx⟩ := hc
          injection he with he; injection he with e1 e2; subst e1 e2
          obtain ⟨e1, e2⟩ := valF_eq hl; subst e1 e2
          obtain ⟨hwk, hwr⟩ := nrm_ok _ _ _ hw
          obtain ⟨cs, rfl⟩ := nrm_agg hw
          rw [EH.setTok_ah ht]
          refine ⟨rfl, ?_⟩
          refine ACalls.wk (args' := [.sl (.tok t g) 1 xs, inj w]) (.cons (.refl _) (.cons ?_ .nil)) (addvalue_tok w hwr xs t g h.ah ht (fun nb nt => AV.underL_mono hu) hx)
          obtain ⟨k, i, tx, ys, ks⟩ := w
          rw [inj_mk] at hwk ⊢
          exact hwk.agg
        · cases he
      · cases he
    · cases he
  · cases he
theorem rowk5_ok : RowkOk Try.prog rowk5 := by
  intro f args h v h' he
  unfold rowk5 at he
  cases h1 : Nat.beq f 22 with
  | true =>
    rw [h1, cond_true] at he
    have e := Nat.eq_of_beq_eq_true h1; subst e
    obtain ⟨a, b⟩ := rowNum_ok he
    exact ⟨a, .inl ⟨⟨Try.f22, Try.func22, rfl, by kernel_rfl⟩, b⟩⟩
  | false =>
    rw [h1, cond_false] at he
    cases h2 : Nat.beq f 74 with
    | true =>
      rw [h2, cond_true] at he
      have e := Nat.eq_of_beq_eq_true h2; subst e
      obtain ⟨a, b⟩ := rowVal_ok he
      exact ⟨a, .inl ⟨⟨Try.f74, Try.func74, rfl, by kernel_rfl⟩, b⟩⟩
    | false => rw [h2, cond_false] at he; cases he
end Go.Proofs.Ytlbhgoffiigfbaa.AW
