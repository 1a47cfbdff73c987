/- AW, part 10 (e): == at structs of plain cells. -/
import Derived.Test.YtjdocenbfghglaaGreatDoorAw108
import Derived.Laws.StructEq
import Derived.ChangeKeysEq
set_option linter.unusedSimpArgs false
set_option linter.unusedVariables false
namespace Go.Proofs.YtjdocenbfghglaaGreatDoor.AW
open Go Go.RowKit

/-- Whether plain cells are the same. -/
def aeqL : List ZC → List AV → List AV → Option Bool
  | [], [], [] => some true
  | .int k :: zs, .int k1 x :: us, .int k2 y :: bs => if k = k1 ∧ k = k2 then (match aeqL zs us bs with | some r => some (x == y && r) | none => none) else none
  | .str :: zs, .str x :: us, .str y :: bs => (match aeqL zs us bs with | some r => some (x.toList == y.toList && r) | none => none)
  | .bool :: zs, .bool x :: us, .bool y :: bs => (match aeqL zs us bs with | some r => some (x == y && r) | none => none)
  | _, _, _ => none
section
variable {P : Program} {m : Mem}
theorem run_part_leaf {w : World} {t : Nat} {d : TypeDesc} {xs : Array Value} {off : Nat} {c : Value} (hu : P.underlying t = some d) (hd : ∃ z : ZC, z.basic d = true) (hx : xs[off]? = some c) : (part t xs off).run P w = .ok c w := by
  obtain ⟨z, hz⟩ := hd
  cases z <;> cases d <;> simp [ZC.basic] at hz <;> simp [part, isAgg, run_underlying hu, hx]
theorem eqFields_sound {xs ys : Array Value} (d : Nat) : ∀ (fs : List Field) (zs : List ZC) (us bs : List AV) (j : Nat) (r : Bool), eqFieldsOk P j zs fs = true → aeqL zs us bs = some r →
    (∀ (i : Nat) (a : AV), us[i]? = some a → ∃ c, xs[j + i]? = some c ∧ VR m a c) → (∀ (i : Nat) (b : AV), bs[i]? = some b → ∃ c, ys[j + i]? = some c ∧ VR m b c) → ∀ w, (Op.eqFields (d + 1) xs ys fs).run P w = .ok r w := by
  intro fs
  induction fs with
  | nil =>
    intro zs us bs j r hf hr hx hy w
    cases zs with
    | nil =>
      cases us <;> cases bs <;> simp [aeqL] at hr
      subst hr
      simp [Op.eqFields]
    | cons z zs => simp [eqFieldsOk] at hf
  | cons f fs ih =>
    intro zs us bs j r hf hr hx hy w
    cases zs with
    | nil => simp [eqFieldsOk] at hf
    | cons z zs =>
      simp only [eqFieldsOk, Bool.and_eq_true, beq_iff_eq, bne_iff_ne] at hf
      obtain ⟨⟨⟨h1, h2⟩, h3⟩, h4⟩ := hf
      cases hu : P.underlying f.type with
      | none => rw [hu] at h3; cases h3
      | some dd =>
      rw [hu] at h3
      simp only at h3
      cases us with
      | nil => cases z <;> simp [aeqL] at hr
      | cons a us =>
      cases bs with
      | nil => cases z <;> cases a <;> simp [aeqL] at hr
      | cons b bs =>
      obtain ⟨ca, ea, va⟩ := hx 0 a rfl
      obtain ⟨cb, eb, vb⟩ := hy 0 b rfl
      rw [Nat.add_zero, ← h1] at ea eb
      have pa := fun w => run_part_leaf (P := P) (w := w) hu ⟨z, h3⟩ ea
      have pb := fun w => run_part_leaf (P := P) (w := w) hu ⟨z, h3⟩ eb
      have hx' : ∀ (i : Nat) (a : AV), us[i]? = some a → ∃ c, xs[j + 1 + i]? = some c ∧ VR m a c := fun i a hi => by
        have := hx (i + 1) a (by simpa using hi)
        rwa [show j + (i + 1) = j + 1 + i by omega] at this
      have hy' : ∀ (i : Nat) (a : AV), bs[i]? = some a → ∃ c, ys[j + 1 + i]? = some c ∧ VR m a c := fun i a hi => by
        have := hy (i + 1) a (by simpa using hi)
        rwa [show j + (i + 1) = j + 1 + i by omega] at this
      have fin : ∀ (q rr : Bool), aeqL zs us bs = some rr → r = (q && rr) → (∀ w, (Op.equalIn (d + 1) f.type ca cb).run P w = .ok q w) → (Op.eqFields (d + 1) xs ys (f :: fs)).run P w = .ok r w := by
        intro q rr hq hrr he
        have hrest := ih zs us bs (j + 1) rr h4 hq hx' hy' w
        subst hrr
        simp only [Op.eqFields]
        rw [if_pos h2]
        simp only [Sem.run_bind, pa, pb, he, Result.andThen_ok]
        cases q <;> simp [hrest]
      cases z <;> cases a <;> cases b <;> simp only [aeqL] at hr <;> first
        | (cases hr; done)
        | skip
      · split at hr
        case isFalse => cases hr
        next hk =>
        obtain ⟨rfl, rfl⟩ := hk
        split at hr
        case h_2 => cases hr
        next rr hq =>
        injection hr with hr
        have e1 := va.int_inv
        have e2 := vb.int_inv
        subst e1 e2
        have hd : ∃ k', dd = .int k' := by cases dd <;> simp [ZC.basic] at h3; exact ⟨_, rfl⟩
        obtain ⟨k', rfl⟩ := hd
        exact fin _ rr hq hr.symm (fun w => run_equalIn_int w d f.type _ k' _ _ hu)
      · split at hr
        case h_2 => cases hr
        next rr hq =>
        injection hr with hr
        have e1 := va.bool_inv
        have e2 := vb.bool_inv
        subst e1 e2
        have hd : dd = .bool := by cases dd <;> simp [ZC.basic] at h3; rfl
        subst hd
        exact fin _ rr hq hr.symm (fun w => run_equalIn_bool' w d f.type _ _ hu)
      · split at hr
        case h_2 => cases hr
        next rr hq =>
        injection hr with hr
        have e1 := va.str_inv
        have e2 := vb.str_inv
        subst e1 e2
        have hd : dd = .string := by cases dd <;> simp [ZC.basic] at h3; rfl
        subst hd
        exact fin _ rr hq hr.symm (fun w => run_equalIn_string w d f.type _ _ hu)
theorem eqItems_fields (d e : Nat) (xs ys : Array Value) : ∀ (is : List Nat) (w : World), (Op.eqItems d e 1 xs ys is).run P w = (Op.eqFields d xs ys (is.map (fldOf e))).run P w := by
  intro is
  induction is with
  | nil => intro w; simp [Op.eqItems, Op.eqFields]
  | cons i is ih =>
    intro w
    have hn : (fldOf e i).name ≠ "_" := by show "a" ≠ "_"; decide
    rw [List.map_cons]
    simp only [Op.eqItems, Op.eqFields]
    rw [if_pos hn]
    simp only [Nat.mul_one, fldOf, Sem.run_bind]
    generalize (part e xs i).run P w = r1
    cases r1 with
    | ok a w1 =>
      simp only [Result.andThen_ok]
      generalize (part e ys i).run P w1 = r2
      cases r2 with
      | ok b w2 =>
        simp only [Result.andThen_ok]
        generalize (Op.equalIn d e a b).run P w2 = r3
        cases r3 with
        | ok r w3 =>
          cases r
          · simp only [Result.andThen_ok, Bool.not_false, if_true, Sem.run_pure]
          · simp only [Result.andThen_ok, Bool.not_true, Bool.false_eq_true, if_false]
            exact ih w3
        | halt x w3 => simp [Result.andThen]
      | halt x w2 => simp [Result.andThen]
    | halt x w1 => simp [Result.andThen]
end
end Go.Proofs.YtjdocenbfghglaaGreatDoor.AW
