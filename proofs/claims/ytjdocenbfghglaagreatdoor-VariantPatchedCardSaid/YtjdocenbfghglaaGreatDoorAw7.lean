/- AW, part 7: slicing, parts of values, lengths. -/
import Derived.Test.YtjdocenbfghglaaGreatDoorAw6
set_option linter.unusedSimpArgs false
set_option linter.unusedVariables false
namespace Go.Proofs.YtjdocenbfghglaaGreatDoor.AW
open Go Go.RowKit

def bnd (d : Nat) : Option AV → Option Nat
  | none => some d
  | some (.int _ n) => if 0 ≤ n then some n.toNat else none
  | _ => none
/-- Optional operands. -/
def VRO (m : Mem) : Option AV → Option Value → Prop
  | none, none => True
  | some a, some b => VR m a b
  | _, _ => False

section
variable {P : Program} {te : TE} {w0 : Base} {w : World} {m : Mem} {h : AH}
theorem run_bound {x : AV} {x' : Value} {y d n : Nat} (hx : VR m x x') (hb : bnd d (some x) = some n) (hn : n ≤ y) (code : BoundsCode) : (Instr.sliceBound x' y code).run P w = .ok n w := by
  cases x <;> simp [bnd] at hb
  obtain rfl := hx.int_inv
  obtain ⟨h1, h2⟩ := hb
  simp [Instr.sliceBound, asIntOf, h1]
  rw [if_pos (by omega)]
  simp [h2]
theorem run_bounds {isS : Bool} {len cap l hh : Nat} {lo hi : Option AV} {lo' hi' : Option Value} (h1 : VRO m lo lo') (h2 : VRO m hi hi') (hlo : bnd 0 lo = some l) (hhi : bnd len hi = some hh) (hlh : l ≤ hh) (hhc : hh ≤ cap) :
    (Instr.sliceBounds isS len cap lo' hi' none).run P w = .ok (l, hh, cap) w := by
  cases lo <;> cases lo' <;> simp only [VRO] at h1 <;> cases hi <;> cases hi' <;> simp only [VRO] at h2
  · simp [bnd] at hlo hhi; subst hlo hhi
    simp [Instr.sliceBounds]
  · simp [bnd] at hlo; subst hlo
    simp [Instr.sliceBounds, run_bound h2 hhi hhc]
  · simp [bnd] at hhi; subst hhi
    simp [Instr.sliceBounds, run_bound h1 hlo hlh]
  · simp [Instr.sliceBounds, run_bound h2 hhi hhc, run_bound h1 hlo hlh]
theorem run_bounds3 {len cap l hh mm : Nat} {lo hi : Option AV} {mx : AV} {lo' hi' : Option Value} {mx' : Value} (h1 : VRO m lo lo') (h2 : VRO m hi hi') (h3 : VR m mx mx') (hlo : bnd 0 lo = some l) (hhi : bnd len hi = some hh) (hmx : bnd 0 (some mx) = some mm)
    (hsome : hi.isSome = true) (hlh : l ≤ hh) (hhm : hh ≤ mm) (hmc : mm ≤ cap) :
    (Instr.sliceBounds true len cap lo' hi' (some mx')).run P w = .ok (l, hh, mm) w := by
  cases hi with
  | none => cases hsome
  | some hi =>
    cases hi' with
    | none => simp [VRO] at h2
    | some hi' =>
      have h2' : VR m hi hi' := h2
      have e1 := fun c => run_bound (P := P) (w := w) (y := cap) (d := 0) h3 hmx hmc c
      have e2 := fun c => run_bound (P := P) (w := w) (y := mm) h2' hhi hhm c
      cases lo with
      | none =>
        cases lo' with
        | none => simp [bnd] at hlo; subst hlo; simp [Instr.sliceBounds, e1, e2]
        | some x => simp [VRO] at h1
      | some lo =>
        cases lo' with
        | none => simp [VRO] at h1
        | some lo' =>
          have h1' : VR m lo lo' := h1
          have e3 := fun c => run_bound (P := P) (w := w) (y := hh) h1' hlo hlh c
          simp [Instr.sliceBounds, e1, e2, e3]

def cutTag (tag : Tag) (l hh n : Nat) : Tag :=
  if hh = n then (match tag with | .full => .full | .ro => .ro | .tok t g => if l = 0 then .tok t g else .ro) else .ro
def aslice (te : TE) (t : Nat) (x : AV) (lo hi mx : Option AV) : Option AV :=
  match te t with
  | some i => match i.k, x with
    | .str, .str s => match bnd 0 lo, bnd s.size hi, mx with
      | some l, some hh, none => if l ≤ hh ∧ hh ≤ s.size then some (.str (s.extract l hh)) else none
      | _, _, _ => none
    | .slice e, .sl tag sz xs => match te e with
      | some ei => if xs = [] ∨ sz = ei.size then (match bnd 0 lo, bnd xs.length hi, mx with
        | some l, some hh, none => if l ≤ hh ∧ hh ≤ xs.length then some (.sl (cutTag tag l hh xs.length) sz ((xs.drop l).take (hh - l))) else none
        | some l, some hh, some y => (match bnd 0 (some y) with
          | some mm => if hi.isSome ∧ l ≤ hh ∧ hh ≤ mm ∧ mm ≤ xs.length then some (.sl (if mm = hh then .full else .ro) sz ((xs.drop l).take (hh - l))) else none
          | none => none)
        | _, _, _ => none) else none
      | none => none
    | .slice e, .ms b o n sz => match te e with
      | some ei => if sz = ei.size then (match bnd 0 lo, bnd n hi, mx with
        | some l, some hh, none => if l ≤ hh ∧ hh ≤ n then some (.ms b (o + l * sz) (hh - l) sz) else none
        | _, _, _ => none) else none
      | none => none
    | .slice e, .mc b o n c sz => match te e with
      | some ei => if sz = ei.size then (match bnd 0 lo, bnd n hi, mx with
        | some l, some hh, none => if l ≤ hh ∧ hh ≤ c then some (.mc b (o + l * sz) (hh - l) (c - l) sz) else none
        | some l, some hh, some y => (match bnd 0 (some y) with
          | some mm => if hi.isSome ∧ l ≤ hh ∧ hh ≤ mm ∧ mm ≤ c then some (.mc b (o + l * sz) (hh - l) (mm - l) sz) else none
          | none => none)
        | _, _, _ => none) else none
      | none => none
    | _, _ => none
  | none => none

theorem str_at (hte : te.ok P) {t : Nat} {i : TI} (hi : te t = some i) (hk : i.k = .str) : P.underlying t = some .string := by
  obtain ⟨info, d, _, h2, h3, _, _⟩ := hte.info hi
  rw [hk] at h3
  cases d <;> simp [AT.fits] at h3
  exact h2

theorem getElem?_cut {α : Type} (xs : List α) (l hh i : Nat) (x : α) (h : ((xs.drop l).take (hh - l))[i]? = some x) : xs[l + i]? = some x ∧ l + i < hh := by
  rw [List.getElem?_take] at h
  split at h
  · rw [List.getElem?_drop] at h; exact ⟨h, by omega⟩
  · cases h

/-- A part of a slice whose cells do not change. -/
theorem cut_vr {sz : Nat} {xs : List AV} {blk o cap l hh mm : Nat} {f : Nat → Nat → Value} (h1 : 0 < sz) (h2 : xs.length ≤ cap) (h3 : ∀ (i : Nat) (x : AV), xs[i]? = some x → x.cells.length = sz)
    (h4 : ∀ (i : Nat) (x : AV), xs[i]? = some x → ∀ j, j < sz → m.K blk (o + i * sz + j) = some (f i j)) (h5 : ∀ (i : Nat) (x : AV), xs[i]? = some x → ∀ (j : Nat) (c : AV), x.cells[j]? = some c → VR m c (f i j))
    (hl : l ≤ hh) (hn : hh ≤ xs.length) (hm : hh ≤ mm) (tag' : Tag) (ht : tagOk m tag' blk (if mm = l then o else o + l * sz) (hh - l) (mm - l) sz) :
    VR m (.sl tag' sz ((xs.drop l).take (hh - l))) (.slice (some ⟨blk, if mm = l then o else o + l * sz, none⟩) (hh - l) (mm - l)) := by
  have hlen : ((xs.drop l).take (hh - l)).length = hh - l := by simp; omega
  have e : Value.slice (some ⟨blk, if mm = l then o else o + l * sz, none⟩) (hh - l) (mm - l) = .slice (some ⟨blk, if mm = l then o else o + l * sz, none⟩) ((xs.drop l).take (hh - l)).length (mm - l) := by rw [hlen]
  rw [e]
  refine .sl tag' sz _ blk _ (mm - l) (fun i j => f (l + i) j) h1 (by omega) ?_ ?_ ?_ (by rw [hlen]; exact ht)
  · intro i x hx
    exact h3 _ x (getElem?_cut xs l hh i x hx).1
  · intro i x hx j hj
    obtain ⟨g1, g2⟩ := getElem?_cut xs l hh i x hx
    rw [if_neg (by omega)]
    have := h4 _ x g1 j hj
    rw [Nat.add_mul] at this
    rw [show o + l * sz + i * sz + j = o + (l * sz + i * sz) + j by omega]; exact this
  · intro i x hx j c hj
    exact h5 _ x (getElem?_cut xs l hh i x hx).1 j c hj

theorem aslice_sound (hte : te.ok P) {t : Nat} {x v : AV} {lo hi mx : Option AV} {x' : Value} {lo' hi' mx' : Option Value} (hx : VR m x x') (hlo : VRO m lo lo') (hhi : VRO m hi hi') (hmx : VRO m mx mx')
    (hv : aslice te t x lo hi mx = some v) : ∃ v', (Instr.sliceAt t x' lo' hi' mx').run P w = .ok v' w ∧ VR m v v' := by
  unfold aslice at hv
  split at hv
  case h_2 => cases hv
  next i hi0 =>
    split at hv
    · next s hk =>
      split at hv
      · next l hh e1 e2 =>
        split at hv
        · next hc =>
          injection hv with hv; subst hv
          obtain rfl := hx.str_inv
          cases mx' with
          | some y => simp [VRO] at hmx
          | none =>
            have hu := str_at hte hi0 hk
            have hb := run_bounds (P := P) (w := w) (isS := false) hlo hhi e1 e2 hc.1 hc.2
            exact ⟨.string (s.extract l hh), by simp [Instr.sliceAt, run_underlying hu, Instr.slice, hb], .str _⟩
        · cases hv
      · cases hv
    · next e tag sz xs hk =>
      split at hv
      case h_2 => cases hv
      next ei hei =>
        split at hv
        case isFalse => cases hv
        next hsz =>
          have hu := slice_at hte hi0 hk
          split at hv
          · next l hh e1 e2 =>
            split at hv
            case isFalse => cases hv
            next hc =>
              injection hv with hv; subst hv
              cases mx' with
              | some y => simp [VRO] at hmx
              | none =>
                rcases hx.sl_inv with ⟨rfl, ⟨a0, rfl, ha0⟩, htg⟩ | ⟨blk, o, cap, f, rfl, h1, h2, h3, h4, h5, h6⟩
                · obtain ⟨hc1, hc2⟩ := hc
                  simp at hc2; subst hc2
                  have : l = 0 := by omega
                  subst this
                  have hb := run_bounds (P := P) (w := w) (isS := true) (cap := 0) hlo hhi e1 e2 (Nat.le_refl _) (Nat.le_refl _)
                  simp at hb
                  refine ⟨.slice a0 0 0, by cases a0 <;> simp [Instr.sliceAt, run_underlying hu, Instr.slice, hb, run_sizeOf hte hei], ?_⟩
                  simp
                  refine .empty (fun t g e => ?_) ha0
                  unfold cutTag at e
                  cases tag <;> simp at e
                  exact htg _ _ rfl
                · have hb := run_bounds (P := P) (w := w) (isS := true) (cap := cap) hlo hhi e1 e2 hc.1 (by omega)
                  refine ⟨.slice (some ⟨blk, if cap = l then o else o + l * sz, none⟩) (hh - l) (cap - l), ?_, cut_vr h1 h2 h3 h4 h5 hc.1 hc.2 (by omega) _ ?_⟩
                  · have hsz' : l * sz = l * ei.size := by
                      rcases hsz with rfl | hsz
                      · have : l = 0 := by simp at hc; omega
                        subst this; simp
                      · rw [hsz]
                    simp [Instr.sliceAt, run_underlying hu, Instr.slice, hb, run_sizeOf hte hei]
                    split
                    · rfl
                    · next hne => simp [hne, add_none, hsz']
                  · unfold cutTag
                    split
                    · next hhn =>
                      cases tag with
                      | ro => trivial
                      | full => have : cap = xs.length := h6; show cap - l = hh - l; omega
                      | tok t g =>
                        simp only
                        split
                        · next h0 =>
                          subst h0
                          have h6' : m.T t g = some (blk, o + xs.length * sz, o + cap * sz) := h6
                          show m.T t g = _
                          rw [h6', hhn]
                          split <;> simp
                        · trivial
                    · trivial
          · next l hh y e1 e2 =>
            split at hv
            case h_2 => cases hv
            next mm e3 =>
              split at hv
              case isFalse => cases hv
              next hc =>
                injection hv with hv; subst hv
                cases mx' with
                | none => simp [VRO] at hmx
                | some y' =>
                  have hmx' : VR m y y' := hmx
                  rcases hx.sl_inv with ⟨rfl, ⟨a0, rfl, ha0⟩, htg⟩ | ⟨blk, o, cap, f, rfl, h1, h2, h3, h4, h5, h6⟩
                  · obtain ⟨hc0, hc1, hc2, hc3⟩ := hc
                    simp at hc3; subst hc3
                    have : hh = 0 := by omega
                    subst this
                    have : l = 0 := by omega
                    subst this
                    have hb := run_bounds3 (P := P) (w := w) (cap := 0) hlo hhi hmx' e1 e2 e3 hc0 (Nat.le_refl _) (Nat.le_refl _) (Nat.le_refl _)
                    simp at hb
                    refine ⟨.slice a0 0 0, by cases a0 <;> simp [Instr.sliceAt, run_underlying hu, Instr.slice, hb, run_sizeOf hte hei], ?_⟩
                    simp
                    exact .empty (fun t g e => by cases e) ha0
                  · have hb := run_bounds3 (P := P) (w := w) (cap := cap) hlo hhi hmx' e1 e2 e3 hc.1 hc.2.1 hc.2.2.1 (by omega)
                    refine ⟨.slice (some ⟨blk, if mm = l then o else o + l * sz, none⟩) (hh - l) (mm - l), ?_, cut_vr h1 h2 h3 h4 h5 hc.2.1 (by omega) hc.2.2.1 _ ?_⟩
                    · simp [Instr.sliceAt, run_underlying hu, Instr.slice, hb, run_sizeOf hte hei]
                      split
                      · rfl
                      · next hne =>
                        have hsz' : l * sz = l * ei.size := by
                          rcases hsz with rfl | hsz
                          · have : l = 0 := by simp at hc; omega
                            subst this; simp
                          · rw [hsz]
                        simp [hne, add_none, hsz']
                    · split
                      · next hmh => show mm - l = hh - l; omega
                      · trivial
          · cases hv
    · next e b o n sz hk =>
      split at hv
      case h_2 => cases hv
      next ei hei =>
        split at hv
        case isFalse => cases hv
        next hsz =>
          have hu := slice_at hte hi0 hk
          split at hv
          · next l hh e1 e2 =>
            split at hv
            case isFalse => cases hv
            next hc =>
              injection hv with hv; subst hv
              cases mx' with
              | some y => simp [VRO] at hmx
              | none =>
                obtain ⟨blk, cap, a, rfl, hM, ha, hcap, hroom⟩ := hx.ms_inv'
                have hb := run_bounds (P := P) (w := w) (isS := true) (cap := cap) hlo hhi e1 e2 hc.1 (by omega)
                refine ⟨.slice (if cap = l then a else a.map (·.add (l * ei.size))) (hh - l) (cap - l), ?_, .ms _ _ _ _ blk _ _ hM (fun hp => ?_) (by omega) (by
                  have : o + l * sz + (cap - l) * sz = o + cap * sz := by rw [Nat.add_assoc, ← Nat.add_mul]; congr 2; omega
                  rw [this]; exact hroom)⟩
                · simp [Instr.sliceAt, run_underlying hu, Instr.slice, hb, run_sizeOf hte hei]
                · rw [if_neg (by omega), ha (by omega)]
                  simp [add_none, hsz]
          · cases hv
    · next e b o n c sz hk =>
      split at hv
      case h_2 => cases hv
      next ei hei =>
        split at hv
        case isFalse => cases hv
        next hsz =>
          have hu := slice_at hte hi0 hk
          obtain ⟨blk, a, rfl, hM, ha, hcap, hroom⟩ := hx.mc_inv
          have fin : ∀ l hh mm : Nat, l ≤ hh → hh ≤ mm → mm ≤ c → VR m (.mc b (o + l * sz) (hh - l) (mm - l) sz) (.slice (if mm = l then a else a.map (·.add (l * ei.size))) (hh - l) (mm - l)) := by
            intro l hh mm h1 h2 h3
            refine .mc _ _ _ _ _ blk _ hM (fun hp => ?_) (by omega) ?_
            · rw [if_neg (by omega), ha (by omega)]
              simp [add_none, hsz]
            · have e1 : o + l * sz + (mm - l) * sz = o + mm * sz := by rw [Nat.add_assoc, ← Nat.add_mul]; congr 2; omega
              have : mm * sz ≤ c * sz := Nat.mul_le_mul_right _ h3
              omega
          split at hv
          · next l hh e1 e2 =>
            split at hv
            case isFalse => cases hv
            next hc =>
              injection hv with hv; subst hv
              cases mx' with
              | some y => simp [VRO] at hmx
              | none =>
                have hb := run_bounds (P := P) (w := w) (isS := true) (cap := c) hlo hhi e1 e2 hc.1 hc.2
                refine ⟨_, ?_, fin l hh c hc.1 hc.2 (Nat.le_refl _)⟩
                simp [Instr.sliceAt, run_underlying hu, Instr.slice, hb, run_sizeOf hte hei]
          · next l hh y e1 e2 =>
            split at hv
            case h_2 => cases hv
            next mm e3 =>
              split at hv
              case isFalse => cases hv
              next hc =>
                injection hv with hv; subst hv
                cases mx' with
                | none => simp [VRO] at hmx
                | some y' =>
                  have hmx' : VR m y y' := hmx
                  have hb := run_bounds3 (P := P) (w := w) (cap := c) hlo hhi hmx' e1 e2 e3 hc.1 hc.2.1 hc.2.2.1 hc.2.2.2
                  refine ⟨_, ?_, fin l hh mm hc.2.1 hc.2.2.1 hc.2.2.2⟩
                  simp [Instr.sliceAt, run_underlying hu, Instr.slice, hb, run_sizeOf hte hei]
          · cases hv
    · cases hv
end
end Go.Proofs.YtjdocenbfghglaaGreatDoor.AW
