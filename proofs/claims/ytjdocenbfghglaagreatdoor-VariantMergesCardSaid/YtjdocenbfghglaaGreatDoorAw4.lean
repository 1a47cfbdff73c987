/- AW, part 4: a program's types as a table; what is read from memory, and what is written. -/
import Derived.Test.YtjdocenbfghglaaGreatDoorAw3
set_option linter.unusedSimpArgs false
set_option linter.unusedVariables false
namespace Go.Proofs.YtjdocenbfghglaaGreatDoor.AW
open Go Go.RowKit

inductive ZC where
  | int (k : IntKind)
  | bool
  | str
  | nilp
  | nils
  | nilf
  | nili
def ZC.av : ZC → AV
  | .int k => .int k 0
  | .bool => .bool false
  | .str => .str ⟨#[]⟩
  | .nilp => .nilp
  | .nils => .sl .full 0 []
  | .nilf => .nilf
  | .nili => .nili
def ZC.fits : ZC → Value → Bool
  | .int k, .int k' n => k == k' && n == 0
  | .bool, .bool b => !b
  | .str, .string s => s.size == 0
  | .nilp, .pointer none => true
  | .nils, .slice none 0 0 => true
  | .nilf, .nilFunc => true
  | .nili, .nilIface => true
  | _, _ => false
theorem ZC.vr {z : ZC} {v : Value} (h : z.fits v = true) (m : Mem) : VR m z.av v ∧ v.oneCell' = true := by
  unfold ZC.fits at h
  split at h
  · simp at h; obtain ⟨rfl, rfl⟩ := h; exact ⟨.int _ _, rfl⟩
  · simp at h; subst h; exact ⟨.bool _, rfl⟩
  · rename_i s
    have e : s = ⟨#[]⟩ := by
      obtain ⟨d⟩ := s
      have : d.size = 0 := beq_iff_eq.1 h
      rw [Array.eq_empty_of_size_eq_zero this]
    subst e; exact ⟨.str _, rfl⟩
  · exact ⟨.nilp, rfl⟩
  · exact ⟨.slnil _ _ (fun _ _ e => by cases e), rfl⟩
  · exact ⟨.nilf, rfl⟩
  · exact ⟨.nili, rfl⟩
  · cases h

inductive AT where
  | int (k : IntKind)
  | bool
  | str
  | ptr (e : Nat)
  | slice (e : Nat)
  | struct (fs : List (Nat × Nat))
  | arr (n e : Nat)
  | iface
  | func
  | map (k e : Nat)
  | other
def AT.agg : AT → Bool
  | .struct _ => true
  | .arr _ _ => true
  | _ => false
def AT.fits : AT → TypeDesc → Bool
  | .int k, .int k' => k == k'
  | .bool, .bool => true
  | .str, .string => true
  | .ptr e, .pointer e' => e == e'
  | .slice e, .slice e' => e == e'
  | .struct fs, .struct f => f.toList.map (fun x => (x.offset, x.type)) == fs
  | .arr n e, .array n' e' => n == n' && e == e'
  | .iface, .interface _ => true
  | .func, .func _ _ _ => true
  | .map k e, .map k' e' => k == k' && e == e'
  | .other, .struct _ => false
  | .other, .array _ _ => false
  | .other, .interface _ => false
  | .other, _ => true
  | _, _ => false

structure TI where
  k : AT
  size : Nat
  bytes : Nat
  zero : List ZC

def fitsAll : List ZC → List Value → Bool
  | [], [] => true
  | z :: zs, v :: vs => z.fits v && fitsAll zs vs
  | _, _ => false

def ZC.leaf : ZC → Bool
  | .int _ => true
  | .bool => true
  | .str => true
  | _ => false
def ZC.basic : ZC → TypeDesc → Bool
  | .int k, .int k' => k == k'
  | .bool, .bool => true
  | .str, .string => true
  | _, _ => false
/-- The fields are plain cells, one after the other. -/
def eqFieldsOk (P : Program) : Nat → List ZC → List Field → Bool
  | _, [], [] => true
  | j, z :: zs, f :: fs => f.offset == j && f.name != "_" && (match P.underlying f.type with | some d => z.basic d | none => false) && eqFieldsOk P (j + 1) zs fs
  | _, _, _ => false
/-- A place of an array, read as a field. -/
def fldOf (e : Nat) (i : Nat) : Field := { (default : Field) with name := "a", type := e, offset := i }
def eqStructOk (P : Program) (t : Nat) (zs : List ZC) : Bool :=
  !P.eqGuardType P.depth t && !P.stoodInHeld t && (match P.underlying t with
    | some (.struct fs) => eqFieldsOk P 0 zs fs.toList
    | some (.array n e) => eqFieldsOk P 0 zs ((List.range n).map (fldOf e)) && (P.info? e).isSome && P.cellsOf e == 1
    | _ => false)
def TI.eqS (i : TI) : Bool := (match i.k with | .struct fs => fs.length == i.zero.length | .arr n _ => n == i.zero.length | _ => false) && i.zero.all ZC.leaf
def TI.check0 (P : Program) (t : Nat) (i : TI) : Bool :=
  match P.info? t, P.underlying t with
  | some info, some d => i.k.fits d && info.size == i.size && info.bytes == i.bytes && (match info.zero with
      | some (.agg cs) => i.k.agg && cs.size == i.size && fitsAll i.zero cs.toList
      | some v => !i.k.agg && i.size == 1 && fitsAll i.zero [v]
      | none => false)
  | _, _ => false

/-- The struct and array types that are compared with ==. -/
def eqTypes : List Nat := [64, 261]
def TI.check (P : Program) (t : Nat) (i : TI) : Bool := i.check0 P t && (!(eqTypes.contains t && i.eqS) || eqStructOk P t i.zero)
abbrev TE := Nat → Option TI
def TE.ok (te : TE) (P : Program) : Prop := ∀ t i, te t = some i → i.check P t = true

def TI.av (i : TI) : AV := if i.k.agg then .agg (i.zero.map ZC.av) else match i.zero with | z :: _ => z.av | [] => .dead

section
variable {P : Program} {te : TE}

theorem TE.ok.info (hte : te.ok P) {t : Nat} {i : TI} (h : te t = some i) : ∃ info d, P.info? t = some info ∧ P.underlying t = some d ∧ i.k.fits d = true ∧ info.size = i.size ∧ info.bytes = i.bytes := by
  have := hte t i h
  unfold TI.check at this
  rw [Bool.and_eq_true] at this
  replace this := this.1
  unfold TI.check0 at this
  split at this
  · next info d h1 h2 =>
    simp only [Bool.and_eq_true, beq_iff_eq] at this
    exact ⟨info, d, h1, h2, this.1.1.1, this.1.1.2, this.1.2⟩
  · cases this

theorem run_isAgg (hte : te.ok P) {t : Nat} {i : TI} (h : te t = some i) (w : World) : (isAgg t).run P w = .ok i.k.agg w := by
  obtain ⟨info, d, h1, h2, h3, _, _⟩ := hte.info h
  simp only [isAgg, Sem.run_bind, run_underlying h2, Result.andThen_ok]
  cases hk : i.k <;> rw [hk] at h3 <;> cases d <;> simp_all [AT.fits, AT.agg]
theorem run_sizeOf (hte : te.ok P) {t : Nat} {i : TI} (h : te t = some i) (w : World) : (sizeOf t).run P w = .ok i.size w := by
  obtain ⟨info, d, h1, h2, h3, h4, _⟩ := hte.info h
  simp [sizeOf, typeInfo, h1, h4]

theorem fitsAll_get : ∀ {zs : List ZC} {vs : List Value}, fitsAll zs vs = true → zs.length = vs.length ∧ ∀ (j : Nat) (z : ZC) (v : Value), zs[j]? = some z → vs[j]? = some v → z.fits v = true := by
  intro zs
  induction zs with
  | nil => intro vs h; cases vs with
    | nil => exact ⟨rfl, fun j z v hz => by simp at hz⟩
    | cons v vs => simp [fitsAll] at h
  | cons z zs ih => intro vs h; cases vs with
    | nil => simp [fitsAll] at h
    | cons v vs =>
      simp only [fitsAll, Bool.and_eq_true] at h
      obtain ⟨h1, h2⟩ := h
      obtain ⟨h3, h4⟩ := ih h2
      refine ⟨by simp [h3], fun j z' v' hz hv => ?_⟩
      cases j with
      | zero => simp at hz hv; subst hz hv; exact h1
      | succ j => exact h4 j z' v' (by simpa using hz) (by simpa using hv)

/-- A type's zero value. -/
theorem TE.ok.zero (hte : te.ok P) {t : Nat} {i : TI} (h : te t = some i) (m : Mem) : ∃ z, (∀ w, (zeroValue t).run P w = .ok z w) ∧ VR m i.av z ∧ z.cells.size = i.size ∧ i.av.cells.length = i.size ∧
    (∀ (j : Nat) (c : AV), i.av.cells[j]? = some c → VR m c (z.cells.getD j undef)) ∧ (∀ j : Nat, j < z.cells.size → (z.cells.getD j undef).oneCell' = true) := by
  have hc := hte t i h
  unfold TI.check at hc
  rw [Bool.and_eq_true] at hc
  replace hc := hc.1
  unfold TI.check0 at hc
  split at hc
  case h_2 => cases hc
  next info d h1 h2 =>
    simp only [Bool.and_eq_true, beq_iff_eq] at hc
    obtain ⟨⟨⟨hk, hs⟩, hb⟩, hz⟩ := hc
    split at hz
    · next cs hcs =>
      simp only [Bool.and_eq_true, beq_iff_eq] at hz
      obtain ⟨⟨ha, hsz⟩, hf⟩ := hz
      obtain ⟨hl, hg⟩ := fitsAll_get hf
      have hav : i.av = .agg (i.zero.map ZC.av) := by simp [TI.av, ha]
      have hrel : ∀ (j : Nat) (c : AV), (i.zero.map ZC.av)[j]? = some c → VR m c (cs.getD j undef) := by
        intro j c hj
        rw [List.getElem?_map] at hj
        cases hz : i.zero[j]? with
        | none => rw [hz] at hj; cases hj
        | some z =>
          rw [hz] at hj; injection hj with hj; subst hj
          have hlt : j < i.zero.length := (List.getElem?_eq_some_iff.1 hz).1
          have hlt2 : j < cs.size := by simp at hl; omega
          have hv : cs.toList[j]? = some cs[j] := by simp [hlt2]
          have := (ZC.vr (hg j z _ hz hv) m).1
          simpa [Array.getD_eq_getD_getElem?, hlt2] using this
      refine ⟨.agg cs, fun w => ?_, ?_, ?_, ?_, ?_, ?_⟩
      · simp [zeroValue, typeInfo, h1, hcs]
      · rw [hav]; exact .agg _ _ (by simp at hl; simp [hl]) hrel
      · simp [Value.cells, hsz]
      · rw [hav]; simp [AV.cells]; simp at hl; omega
      · rw [hav]; exact hrel
      · intro j hj
        simp only [Value.cells] at hj ⊢
        have hlt : j < i.zero.length := by simp at hl; omega
        have hz : i.zero[j]? = some i.zero[j] := List.getElem?_eq_getElem hlt
        have hv : cs.toList[j]? = some cs[j] := by simp [hj]
        have := (ZC.vr (hg j _ _ hz hv) m).2
        simpa [Array.getD_eq_getD_getElem?, hj] using this
    · next v hne hv =>
      simp only [Bool.and_eq_true, beq_iff_eq, Bool.not_eq_true'] at hz
      obtain ⟨⟨ha, hsz⟩, hf⟩ := hz
      obtain ⟨hl, hg⟩ := fitsAll_get hf
      match hzz : i.zero, hl with
      | [z], _ =>
        have hfz : z.fits v = true := hg 0 z v (by rw [hzz]; rfl) rfl
        have hav : i.av = z.av := by simp [TI.av, ha, hzz]
        have hcell : v.cells = #[v] := by
          have := (ZC.vr hfz m).2
          cases v <;> simp_all [Value.cells, Value.oneCell']
        have hcz : z.av.cells = [z.av] := by cases z <;> rfl
        refine ⟨v, fun w => ?_, ?_, ?_, ?_, ?_, ?_⟩
        · simp [zeroValue, typeInfo, h1, hv]
        · rw [hav]; exact (ZC.vr hfz m).1
        · rw [hcell, hsz]; rfl
        · rw [hav, hcz, hsz]; rfl
        · intro j c hj
          rw [hav, hcz] at hj
          cases j with
          | zero => simp at hj; subst hj; rw [hcell]; exact (ZC.vr hfz m).1
          | succ j => simp at hj
        · intro j hj
          rw [hcell] at hj ⊢
          have : j = 0 := by simp at hj; omega
          subst this
          exact (ZC.vr hfz m).2
    · cases hz

/-- A value out of the cells that lie there. -/
def takeAs (i : TI) (cs : List AV) : Option AV :=
  if i.k.agg then (if i.size ≤ cs.length then some (.agg (cs.take i.size)) else none) else match cs with | c :: _ => some c | [] => none

theorem run_loadVar_at (hte : te.ok P) {t : Nat} {i : TI} (h : te t = some i) {m : Mem} {w : World} {blk o : Nat} {cs : List AV} {f : Nat → Value} {v : AV}
    (hc : ∀ (j : Nat) (c : AV), cs[j]? = some c → w.cell? ⟨blk, o + j, none⟩ = some (f j)) (hr : ∀ (j : Nat) (c : AV), cs[j]? = some c → VR m c (f j)) (hv : takeAs i cs = some v) :
    ∃ v', (loadVar t ⟨blk, o, none⟩).run P w = .ok v' w ∧ VR m v v' := by
  unfold takeAs at hv
  by_cases ha : i.k.agg = true
  · rw [if_pos ha] at hv
    split at hv
    · next hl =>
      injection hv with hv; subst hv
      have hload := Go.run_loadCells (P := P) (w := w) ⟨blk, o, none⟩ i.size f (fun j hj => by
        have hlt : j < cs.length := by omega
        rw [add_none]; exact hc j cs[j] (List.getElem?_eq_getElem hlt))
      refine ⟨.agg ((List.range i.size).map f).toArray, ?_, ?_⟩
      · simp only [loadVar, Sem.run_bind, run_isAgg hte h, ha, Result.andThen_ok, if_true, run_sizeOf hte h, hload, Sem.run_pure]
      · refine .agg _ _ (by simp; omega) (fun j c hj => ?_)
        have hj2 : j < i.size := by
          rcases Nat.lt_or_ge j i.size with h1 | h1
          · exact h1
          · rw [List.getElem?_eq_none (by simp; omega)] at hj; cases hj
        have hj3 : cs[j]? = some c := by rw [List.getElem?_take] at hj; simpa [hj2] using hj
        have := hr j c hj3
        simpa [Array.getD_eq_getD_getElem?, hj2] using this
    · cases hv
  · rw [if_neg ha] at hv
    cases cs with
    | nil => cases hv
    | cons c cs =>
      injection hv with hv; subst hv
      refine ⟨f 0, ?_, hr 0 c rfl⟩
      have h0 := hc 0 c rfl
      simp at ha
      simp at h0
      simp [loadVar, run_isAgg hte h, ha, h0]
end
end Go.Proofs.YtjdocenbfghglaaGreatDoor.AW
