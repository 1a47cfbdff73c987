/- V, part 66: values as they lie, and what a row becomes (for the evaluator). -/
import Derived.Test.YtlbhgoffiigfbaaV65
import Derived.Test.YtlbhgoffiigfbaaAw25
set_option linter.unusedSimpArgs false
set_option linter.unusedVariables false
namespace Go.Proofs.Ytlbhgoffiigfbaa.AW
open Go Go.RowKit

theorem Wk.slW {tag : Tag} {sz : Nat} {us vs : List AV} (hl : us.length = vs.length) (h : ∀ (i : Nat) (u v : AV), us[i]? = some u → vs[i]? = some v → WkAll u.cells v.cells) : Wk (.sl tag sz us) (.sl .ro sz vs) := by
  intro m c hr
  have he : us = [] → vs = [] := fun e => by subst e; cases vs with | nil => rfl | cons _ _ => cases hl
  have hget : ∀ (i : Nat) (v : AV), vs[i]? = some v → ∃ u, us[i]? = some u := fun i v hv => by
    have := (List.getElem?_eq_some_iff.1 hv).1
    exact ⟨us[i]'(by omega), List.getElem?_eq_getElem (by omega)⟩
  cases hr with
  | slnil => rw [he rfl]; exact .slnil _ _ (by intro a b e; cases e)
  | slemp _ _ a hz _ => rw [he rfl]; exact .slemp _ _ a hz (by intro a b e; cases e)
  | sl _ _ _ blk o cap f h1 h2 h3 h4 h5 h6 =>
    rw [hl]
    refine .sl .ro sz vs blk o cap f h1 (by rw [← hl]; exact h2) (fun i x hx => ?_) (fun i x hx j hj => ?_) (fun i x hx j c hc => ?_) trivial
    · obtain ⟨u, hu⟩ := hget i x hx
      rw [← (h i u x hu hx).1]; exact h3 i u hu
    · obtain ⟨u, hu⟩ := hget i x hx
      exact h4 i u hu j hj
    · obtain ⟨u, hu⟩ := hget i x hx
      have hw := h i u x hu hx
      have hj := (List.getElem?_eq_some_iff.1 hc).1
      have hj' : j < u.cells.length := by rw [hw.1]; exact hj
      exact hw.2 j _ _ (List.getElem?_eq_getElem hj') hc _ _ (h5 i u hu j _ (List.getElem?_eq_getElem hj'))
def mapO {β : Type} (g : AV → Option β) : List AV → Option (List β)
  | [] => some []
  | x :: xs => (match g x with
    | some y => (match mapO g xs with | some ys => some (y :: ys) | none => none)
    | none => none)
theorem mapO_len {β : Type} {g : AV → Option β} : ∀ {xs : List AV} {ys : List β}, mapO g xs = some ys → xs.length = ys.length := by
  intro xs
  induction xs with
  | nil => intro ys h; simp [mapO] at h; subst h; rfl
  | cons x xs ih =>
    intro ys h
    simp only [mapO] at h
    split at h
    · split at h
      · next hy => injection h with h; subst h; simp [ih hy]
      · cases h
    · cases h
theorem mapO_get {β : Type} {g : AV → Option β} : ∀ {xs : List AV} {ys : List β}, mapO g xs = some ys → ∀ (i : Nat) (x : AV) (y : β), xs[i]? = some x → ys[i]? = some y → g x = some y := by
  intro xs
  induction xs with
  | nil => intro ys h i x y hx; simp at hx
  | cons x xs ih =>
    intro ys h i z y hx hy
    simp only [mapO] at h
    split at h
    · next y0 h0 =>
      split at h
      · next ys0 hys =>
        injection h with h; subst h
        cases i with
        | zero => simp at hx hy; subst hx hy; exact h0
        | succ i => simp at hx hy; exact ih hys i z y hx hy
      · cases h
    · cases h
def strO : AV → Option ByteArray
  | .str s => some s
  | _ => none
theorem strO_eq {x : AV} {s : ByteArray} (h : strO x = some s) : x = .str s := by
  cases x <;> simp [strO] at h
  subst h; rfl
def nrm : Nat → AV → Option V
  | f + 1, .agg [.int .i64 k, .int .i64 i, .str t, .sl g1 z1 xs, .sl g2 z2 ks] => (match mapO (nrm f) xs with
    | some vs => (match mapO strO ks with
      | some kk => if (z1 = 5 ∨ z1 = 0 ∧ vs.length = 0) ∧ (z2 = 1 ∨ z2 = 0 ∧ kk.length = 0) ∧ (-1000000000000000000 ≤ i ∧ i ≤ 1000000000000000000) ∧ t.size < 1000000000 ∧ vs.length < 1000000000 ∧ (k ≠ 5 ∨ kk.length = vs.length) ∧ (kk.all fun s => decide (s.size < 1000000000)) = true then some (.mk k i t vs kk) else none
      | none => none)
    | none => none)
  | _, _ => none
theorem nrm_ok : ∀ (f : Nat) (a : AV) (v : V), nrm f a = some v → WkAll a.cells (inj v).cells ∧ v.wr := by
  intro f
  induction f with
  | zero => intro a v h; simp [nrm] at h
  | succ f ih =>
    intro a v h
    unfold nrm at h
    split at h
    · next f' k i t g1 z1 xs g2 z2 ks hf =>
      injection hf with hf; subst hf
      split at h
      · next vs hvs =>
        split at h
        · next kk hkk =>
          split at h
          · next hc =>
            obtain ⟨c1, c2, c3, c4, c5, c6, c7⟩ := hc
            injection h with h; subst h
            have lv := mapO_len hvs
            have lk := mapO_len hkk
            refine ⟨?_, ?_⟩
            · rw [inj_mk]
              simp only [AV.cells]
              refine .cons (.refl _) (.cons (.refl _) (.cons (.refl _) (.cons ?_ (.cons ?_ .nil))))
              · rcases c1 with rfl | ⟨rfl, c1⟩
                · refine .slW (by rw [List.length_map]; exact lv) (fun j u w hu hw => ?_)
                  rw [List.getElem?_map] at hw
                  cases hy : vs[j]? with
                  | none => rw [hy] at hw; cases hw
                  | some y =>
                    rw [hy] at hw; injection hw with hw; subst hw
                    exact (ih _ _ (mapO_get hvs j u y hu hy)).1
                · have e1 : vs = [] := List.length_eq_zero_iff.1 c1
                  have e2 : xs = [] := List.length_eq_zero_iff.1 (by omega)
                  subst e1 e2
                  exact .nil (by intro a b e; cases e)
              · rcases c2 with rfl | ⟨rfl, c2⟩
                · refine .slW (by rw [List.length_map]; exact lk) (fun j u w hu hw => ?_)
                  rw [List.getElem?_map] at hw
                  cases hy : kk[j]? with
                  | none => rw [hy] at hw; cases hw
                  | some y =>
                    rw [hy] at hw; injection hw with hw; subst hw
                    rw [strO_eq (mapO_get hkk j u y hu hy)]
                    exact .cons (.refl _) .nil
                · have e1 : kk = [] := List.length_eq_zero_iff.1 c2
                  have e2 : ks = [] := List.length_eq_zero_iff.1 (by omega)
                  subst e1 e2
                  exact .nil (by intro a b e; cases e)
            · simp only [V.wr, V.wrL_iff]
              refine ⟨c3, c4, c5, fun e => c6.resolve_left (fun h => h e), fun s hs => ?_, fun x hx => ?_⟩
              · have := List.all_eq_true.1 c7 s hs
                simpa using this
              · obtain ⟨j, hj, rfl⟩ := List.getElem_of_mem hx
                exact (ih _ _ (mapO_get hvs j _ _ (List.getElem?_eq_getElem (by omega)) (List.getElem?_eq_getElem hj))).2
          · cases h
        · cases h
      · cases h
    · cases h
end Go.Proofs.Ytlbhgoffiigfbaa.AW
