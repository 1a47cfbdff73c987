/- Texts of this claim, part 18: V66, V67. -/
import Derived.Test.YtlbhgoffiigfbaaBe1
import Derived.Test.YtlbhgoffiigfbaaBe8
import Derived.Test.YtlbhgoffiigfbaaBe9
import Derived.Test.YtlbhgoffiigfbaaAw25
section
set_option linter.unusedSimpArgs false
set_option linter.unusedVariables false
namespace Go.Proofs.Ytlbhgoffiigfbaa.AW
open Go Go.RowKit

theorem Wk.slW {tag : Tag} {sz : Nat} {us vs : List AV} (hl : us.length = vs.length) (h : ∀ (i : Nat) (u v : AV), us[i]? = some u → vs[i]? = some v → WkAll u.cells v.cells) : Wk (.sl tag sz us) (.sl .ro sz vs) := by
  intro m c hr
  have he : us = [] → vs = [] := fun e => by subst e; cases vs with | nil => rfl | cons _ _ => cases hl
  have hget : ∀ (i : Nat) (v : AV), vs[i]? = some v → ∃ u, us[i]? = some u := fun i v hv => by
    have := (List.getElem?_eq_some_iff.1 hv).1
    exact ⟨us[i]'(by omega), List.getElem?_eq_getElem (by omega)⟩
  cases hr with
  | slnil => rw [he rfl]; exact .slnil _ _ (by intro a b e; cases e)
  | slemp _ _ a hz _ => rw [he rfl]; exact .slemp _ _ a hz (by intro a b e; cases e)
  | sl _ _ _ blk o cap f h1 h2 h3 h4 h5 h6 =>
    rw [hl]
    refine .sl .ro sz vs blk o cap f h1 (by rw [← hl]; exact h2) (fun i x hx => ?_) (fun i x hx j hj => ?_) (fun i x hx j c hc => ?_) trivial
    · obtain ⟨u, hu⟩ := hget i x hx
      rw [← (h i u x hu hx).1]; exact h3 i u hu
    · obtain ⟨u, hu⟩ := hget i x hx
      exact h4 i u hu j hj
    · obtain ⟨u, hu⟩ := hget i x hx
      have hw := h i u x hu hx
      have hj := (List.getElem?_eq_some_iff.1 hc).1
      have hj' : j < u.cells.length := by rw [hw.1]; exact hj
      exact hw.2 j _ _ (List.getElem?_eq_getElem hj') hc _ _ (h5 i u hu j _ (List.getElem?_eq_getElem hj'))
def mapO {β : Type} (g : AV → Option β) : List AV → Option (List β)
  | [] => some []
  | x :: xs => (match g x with
    | some y => (match mapO g xs with | some ys => some (y :: ys) | none => none)
    | none => none)
theorem mapO_len {β : Type} {g : AV → Option β} : ∀ {xs : List AV} {ys : List β}, mapO g xs = some ys → xs.length = ys.length := by
  intro xs
  induction xs with
  | nil => intro ys h; simp [mapO] at h; subst h; rfl
  | cons x xs ih =>
    intro ys h
    simp only [mapO] at h
    split at h
    · split at h
      · next hy => injection h with h; subst h; simp [ih hy]
      · cases h
    · cases h
theorem mapO_get {β : Type} {g : AV → Option β} : ∀ {xs : List AV} {ys : List β}, mapO g xs = some ys → ∀ (i : Nat) (x : AV) (y : β), xs[i]? = some x → ys[i]? = some y → g x = some y := by
  intro xs
  induction xs with
  | nil => intro ys h i x y hx; simp at hx
  | cons x xs ih =>
    intro ys h i z y hx hy
    simp only [mapO] at h
    split at h
    · next y0 h0 =>
      split at h
      · next ys0 hys =>
        injection h with h; subst h
        cases i with
        | zero => simp at hx hy; subst hx hy; exact h0
        | succ i => simp at hx hy; exact ih hys i z y hx hy
      · cases h
    · cases h
def strO : AV → Option ByteArray
  | .str s => some s
  | _ => none
theorem strO_eq {x : AV} {s : ByteArray} (h : strO x = some s) : x = .str s := by
  cases x <;> simp [strO] at h
  subst h; rfl
def nrm : Nat → AV → Option V
  | f + 1, .agg [.int .i64 k, .int .i64 i, .str t, .sl g1 z1 xs, .sl g2 z2 ks] => (match mapO (nrm f) xs with
    | some vs => (match mapO strO ks with
      | some kk => if (z1 = 5 ∨ z1 = 0 ∧ vs.length = 0) ∧ (z2 = 1 ∨ z2 = 0 ∧ kk.length = 0) ∧ (-1000000000000000000 ≤ i ∧ i ≤ 1000000000000000000) ∧ t.size < 1000000000 ∧ vs.length < 1000000000 ∧ (k ≠ 5 ∨ kk.length = vs.length) ∧ (kk.all fun s => decide (s.size < 1000000000)) = true then some (.mk k i t vs kk) else none
      | none => none)
    | none => none)
  | _, _ => none
theorem nrm_ok : ∀ (f : Nat) (a : AV) (v : V), nrm f a = some v → WkAll a.cells (inj v).cells ∧ v.wr := by
  intro f
  induction f with
  | zero => intro a v h; simp [nrm] at h
  | succ f ih =>
    intro a v h
    unfold nrm at h
    split at h
    · next f' k i t g1 z1 xs g2 z2 ks hf =>
      injection hf with hf; subst hf
      split at h
      · next vs hvs =>
        split at h
        · next kk hkk =>
          split at h
          · next hc =>
            obtain ⟨c1, c2, c3, c4, c5, c6, c7⟩ := hc
            injection h with h; subst h
            have lv := mapO_len hvs
            have lk := mapO_len hkk
            refine ⟨?_, ?_⟩
            · rw [inj_mk]
              simp only [AV.cells]
              refine .cons (.refl _) (.cons (.refl _) (.cons (.refl _) (.cons ?_ (.cons ?_ .nil))))
              · rcases c1 with rfl | ⟨rfl, c1⟩
                · refine .slW (by rw [List.length_map]; exact lv) (fun j u w hu hw => ?_)
                  rw [List.getElem?_map] at hw
                  cases hy : vs[j]? with
                  | none => rw [hy] at hw; cases hw
                  | some y =>
                    rw [hy] at hw; injection hw with hw; subst hw
                    exact (ih _ _ (mapO_get hvs j u y hu hy)).1
                · have e1 : vs = [] := List.length_eq_zero_iff.1 c1
                  have e2 : xs = [] := List.length_eq_zero_iff.1 (by omega)
                  subst e1 e2
                  exact .nil (by intro a b e; cases e)
              · rcases c2 with rfl | ⟨rfl, c2⟩
                · refine .slW (by rw [List.length_map]; exact lk) (fun j u w hu hw => ?_)
                  rw [List.getElem?_map] at hw
                  cases hy : kk[j]? with
                  | none => rw [hy] at hw; cases hw
                  | some y =>
                    rw [hy] at hw; injection hw with hw; subst hw
                    rw [strO_eq (mapO_get hkk j u y hu hy)]
                    exact .cons (.refl _) .nil
                · have e1 : kk = [] := List.length_eq_zero_iff.1 c2
                  have e2 : ks = [] := List.length_eq_zero_iff.1 (by omega)
                  subst e1 e2
                  exact .nil (by intro a b e; cases e)
            · simp only [V.wr, V.wrL_iff]
              refine ⟨c3, c4, c5, fun e => c6.resolve_left (fun h => h e), fun s hs => ?_, fun x hx => ?_⟩
              · have := List.all_eq_true.1 c7 s hs
                simpa using this
              · obtain ⟨j, hj, rfl⟩ := List.getElem_of_mem hx
                exact (ih _ _ (mapO_get hvs j _ _ (List.getElem?_eq_getElem (by omega)) (List.getElem?_eq_getElem hj))).2
          · cases h
        · cases h
      · cases h
    · cases h
end Go.Proofs.Ytlbhgoffiigfbaa.AW
end
section
set_option linter.unusedSimpArgs false
set_option linter.unusedVariables false
namespace Go.Proofs.Ytlbhgoffiigfbaa.AW
open Go Go.RowKit

def numF : Nat → Nat → Option (List AV)
  | 0, _ => none
  | f + 1, n => bif Nat.ble n 127 then some [.int .u8 (n : Int)] else (match numF f (n / 128) with
    | some l => some (.int .u8 ((128 + n % 128 : Nat) : Int) :: l)
    | none => none)
theorem numF_eq : ∀ (f n : Nat) (l : List AV), numF f n = some l → l = numA n := by
  intro f
  induction f with
  | zero => intro n l h; simp [numF] at h
  | succ f ih =>
    intro n l h
    simp only [numF] at h
    cases hb : Nat.ble n 127 with
    | true =>
      rw [hb, cond_true] at h
      have := Nat.le_of_ble_eq_true hb
      injection h with h; rw [← h, numA_small (by omega)]
    | false =>
      rw [hb, cond_false] at h
      have hn : 127 < n := by
        rcases Nat.lt_or_ge 127 n with h1 | h1
        · exact h1
        · rw [Nat.ble_eq_true_of_le h1] at hb; cases hb
      split at h
      · next l2 hl => injection h with h; rw [← h, numA_big hn, ih _ _ hl]
      · cases h
def valF (v : V) : Option (List AV × Nat) := match v with
  | .mk k i t _ _ =>
    if k = 1 then some ([.int .u8 (IntKind.u8.wrap k), .int .u8 (IntKind.u8.wrap i)], 2)
    else if k = 2 then (match numF 12 (zig i) with | some l => some (.int .u8 (IntKind.u8.wrap k) :: l, 1 + l.length) | none => none)
    else if k = 3 then (match numF 12 t.size with | some l => some (.int .u8 (IntKind.u8.wrap k) :: (l ++ t.data.toList.map fun (b : UInt8) => AV.int .u8 (b.toNat : Int)), 1 + (l.length + if t.size = 0 then 0 else 1)) | none => none)
    else if k = 4 ∨ k = 5 then none
    else some ([.int .u8 (IntKind.u8.wrap k)], 1)
theorem valF_eq {v : V} {l : List AV} {n : Nat} (h : valF v = some (l, n)) : l = valA v ∧ n = valG v := by
  obtain ⟨k, i, t, xs, ks⟩ := v
  simp only [valF] at h
  rw [valA, valG]
  by_cases h1 : k = 1
  · rw [if_pos h1] at h ⊢; injection h with h; injection h with e1 e2; subst e1 e2
    rw [if_pos h1]; exact ⟨rfl, rfl⟩
  rw [if_neg h1] at h ⊢
  rw [if_neg h1]
  by_cases h2 : k = 2
  · rw [if_pos h2] at h ⊢
    rw [if_pos h2]
    split at h
    · next l2 hl => injection h with h; injection h with e1 e2; subst e1 e2; rw [numF_eq _ _ _ hl]; exact ⟨rfl, rfl⟩
    · cases h
  rw [if_neg h2] at h ⊢
  rw [if_neg h2]
  by_cases h3 : k = 3
  · rw [if_pos h3] at h ⊢
    rw [if_pos h3]
    split at h
    · next l2 hl => injection h with h; injection h with e1 e2; subst e1 e2; rw [numF_eq _ _ _ hl]; exact ⟨rfl, rfl⟩
    · cases h
  rw [if_neg h3] at h ⊢
  rw [if_neg h3]
  by_cases h4 : k = 4 ∨ k = 5
  · rw [if_pos h4] at h; cases h
  rw [if_neg h4] at h ⊢
  rw [if_neg h4]
  injection h with h; injection h with e1 e2; subst e1 e2
  exact ⟨rfl, rfl⟩
theorem nrm_agg {f : Nat} {a : AV} {v : V} (h : nrm f a = some v) : ∃ cs, a = .agg cs := by
  unfold nrm at h
  split at h
  · exact ⟨_, rfl⟩
  · cases h
def rowNum (args : List AV) (h : EH) : Option (AV × EH) := match args with
  | [.sl (.tok t g) 1 xs, .int .i64 n] => if h.ah.tok t = some g ∧ 0 ≤ n ∧ n < 9223372036854775808 ∧ xs.length < 1000000000 then (match numF 12 n.toNat with
    | some l => some (.sl (.tok t (g + l.length)) 1 (xs ++ l), h.setTok t (g + l.length))
    | none => none) else none
  | [.sl .full 0 [], .int .i64 n] => if 0 ≤ n ∧ n < 9223372036854775808 then (match numF 12 n.toNat with
    | some l => some (.sl (.tok h.nt (l.length - 1)) 1 l, h.newTok.setTok h.nt (l.length - 1))
    | none => none) else none
  | _ => none
def rowVal (args : List AV) (h : EH) : Option (AV × EH) := match args with
  | [.sl (.tok t g) 1 xs, a] => (match nrm 8 a with
    | some v => (match valF v with
      | some (l, n) => if h.ah.tok t = some g ∧ AV.underL 0 0 (xs ++ l) = true ∧ xs.length + l.length < 1000000000 then some (.sl (.tok t (g + n)) 1 (xs ++ l), h.setTok t (g + n)) else none
      | none => none)
    | none => none)
  | _ => none
def rowk5 (f : FuncId) (args : List AV) (h : EH) : Option (AV × EH) :=
  bif Nat.beq f 22 then rowNum args h else bif Nat.beq f 74 then rowVal args h else none
theorem rowNum_ok {args : List AV} {h h' : EH} {v : AV} (he : rowNum args h = some (v, h')) : h'.ah.box = h.ah.box ∧ ACalls Try.prog 22 args h.ah (fun out h2 => out = .ret v ∧ h2 = h'.ah) := by
  unfold rowNum at he
  split at he
  · next t g xs n =>
    split at he
    · next hc =>
      obtain ⟨ht, h0, hn, hx⟩ := hc
      split at he
      · next l hl =>
        injection he with he; injection he with e1 e2; subst e1 e2
        have hl := numF_eq _ _ _ hl; subst hl
        rw [EH.setTok_ah ht]
        refine ⟨rfl, ?_⟩
        have := addnum_tok xs n.toNat t g (by omega) hx h.ah ht
        rw [Int.toNat_of_nonneg h0] at this
        exact this
      · cases he
    · cases he
  · next n =>
    split at he
    · next hc =>
      obtain ⟨h0, hn⟩ := hc
      split at he
      · next l hl =>
        injection he with he; injection he with e1 e2; subst e1 e2
        have hl := numF_eq _ _ _ hl; subst hl
        rw [EH.setTok_ah (g0 := 0) (by rw [EH.newTok_ah]; exact newTok_tok0 h.ah), EH.newTok_ah]
        refine ⟨rfl, ?_⟩
        have := addnum_nil n.toNat (by omega) h.ah
        rw [Int.toNat_of_nonneg h0] at this
        exact this
      · cases he
    · cases he
  · cases he
theorem rowVal_ok {args : List AV} {h h' : EH} {v : AV} (he : rowVal args h = some (v, h')) : h'.ah.box = h.ah.box ∧ ACalls Try.prog 74 args h.ah (fun out h2 => out = .ret v ∧ h2 = h'.ah) := by
  unfold rowVal at he
  split at he
  · next t g xs a =>
    split at he
    · next w hw =>
      split at he
      · next l n hl =>
        split at he
        · next hc =>
          obtain ⟨ht, hu, hx⟩ := hc
          injection he with he; injection he with e1 e2; subst e1 e2
          obtain ⟨e1, e2⟩ := valF_eq hl; subst e1 e2
          obtain ⟨hwk, hwr⟩ := nrm_ok _ _ _ hw
          obtain ⟨cs, rfl⟩ := nrm_agg hw
          rw [EH.setTok_ah ht]
          refine ⟨rfl, ?_⟩
          refine ACalls.wk (args' := [.sl (.tok t g) 1 xs, inj w]) (.cons (.refl _) (.cons ?_ .nil)) (addvalue_tok w hwr xs t g h.ah ht (fun nb nt => AV.underL_mono hu) hx)
          obtain ⟨k, i, tx, ys, ks⟩ := w
          rw [inj_mk] at hwk ⊢
          exact hwk.agg
        · cases he
      · cases he
    · cases he
  · cases he
theorem rowk5_ok : RowkOk Try.prog rowk5 := by
  intro f args h v h' he
  unfold rowk5 at he
  cases h1 : Nat.beq f 22 with
  | true =>
    rw [h1, cond_true] at he
    have e := Nat.eq_of_beq_eq_true h1; subst e
    obtain ⟨a, b⟩ := rowNum_ok he
    exact ⟨a, .inl ⟨⟨Try.f22, Try.func22, rfl, by kernel_rfl⟩, b⟩⟩
  | false =>
    rw [h1, cond_false] at he
    cases h2 : Nat.beq f 74 with
    | true =>
      rw [h2, cond_true] at he
      have e := Nat.eq_of_beq_eq_true h2; subst e
      obtain ⟨a, b⟩ := rowVal_ok he
      exact ⟨a, .inl ⟨⟨Try.f74, Try.func74, rfl, by kernel_rfl⟩, b⟩⟩
    | false => rw [h2, cond_false] at he; cases he
end Go.Proofs.Ytlbhgoffiigfbaa.AW
end
