/- AW, part 10 (d): slices of which the capacity is known. -/
import Derived.Test.YtjdocenbfghglaaGreatDoorAw107
set_option linter.unusedSimpArgs false
set_option linter.unusedVariables false
namespace Go.Proofs.YtjdocenbfghglaaGreatDoor.AW
open Go Go.RowKit

/-- The capacity is forgotten. -/
def AV.low : AV → AV
  | .mc b o n _ sz => .ms b o n sz
  | v => v
theorem low_mc (b o n c sz : Nat) : (AV.mc b o n c sz).low = .ms b o n sz := rfl
theorem low_ms (b o n sz : Nat) : (AV.ms b o n sz).low = .ms b o n sz := rfl
theorem low_sl (t : Tag) (sz : Nat) (xs : List AV) : (AV.sl t sz xs).low = .sl t sz xs := rfl
theorem VR.low {m : Mem} {v : AV} {c : Value} (h : VR m v c) : VR m v.low c := by
  cases v <;> first | exact h | exact h.forget

theorem set_as_was {h : AH} {b : Nat} {cs : List AV} (hb : h.box b = some cs) : h.set b cs = h := by
  unfold AH.set
  cases h with | mk box nb tok nt =>
  simp only [AH.mk.injEq, and_self, and_true]
  funext q
  by_cases hq : q = b
  · subst hq; rw [upd_same]; exact hb.symm
  · rw [upd_other _ _ _ hq]
/-- The cells of what is appended. -/
def appCells (te : TE) (h : AH) (xt : Nat) (ei : TI) (b : AV) : Option (Nat × List AV) := match te xt with
  | some ⟨.slice _, _, _, _⟩ => cellsOf h ei.size b.low
  | some ⟨.int .i64, _, _, _⟩ => (match b with | .int .i64 l => if 0 < l then some (l.toNat, zeros ei.av.cells l.toNat) else none | _ => none)
  | _ => none
/-- append to a slice of which the capacity is known: in its place, or in a new box. -/
def appMc (te : TE) (h : AH) (t xt : Nat) (a b : AV) : Option (AV × AH) := match a with
  | .mc bx o n c sz => (match te t with
    | some ⟨.slice e, _, _, _⟩ => (match te e with
      | some ei => if ei.size = sz ∧ 0 < sz ∧ 0 < ei.bytes then (match h.box bx, appCells te h xt ei b with
        | some cs, some (k, ys) => if (n + k) * ei.bytes ≤ 140737488355328 ∧ n ≤ c ∧ o + c * sz ≤ cs.length then
            (if n + k ≤ c then (match te xt with
                | some ⟨.slice _, _, _, _⟩ => some (.mc bx o (n + k) c sz, h.set bx (cs.take (o + n * sz) ++ ys ++ cs.drop (o + n * sz + ys.length)))
                | _ => none)
             else some (.ms h.nb 0 (n + k) sz, h.new ((cs.drop o).take (n * sz) ++ ys)))
          else none
        | _, _ => none) else none
      | none => none)
    | _ => none)
  | _ => none

section
variable {P : Program} {te : TE} {w0 : Base} {w : World} {m : Mem} {h : AH}
theorem run_append_at {t e sz n k xt blk o cap : Nat} {i : TypeInfo} {x' : Value} {news : List Value} {w' : World} (ht : P.underlying t = some (.slice e)) (hi : P.info? e = some i) (hs : i.size = sz)
    (hk : ∃ e', P.underlying xt = some (.slice e')) (hlen : ∀ w, (Builtin.lenOf x').run P w = .ok k w) (hf : (Builtin.firstCells sz k x').run P w = .ok news.toArray w) (hroom : n + k ≤ cap)
    (hst : (storeCells ⟨blk, o + n * sz, none⟩ news).run P w = .ok () w') (tt : TypeId) :
    (Builtin.append_ #[t, xt] tt #[.slice (some ⟨blk, o, none⟩) n cap, x']).run P w = .ok (.slice (some ⟨blk, o, none⟩) (n + k) cap) w' := by
  obtain ⟨e', hd⟩ := hk
  simp [Builtin.append_, run_underlying ht, run_underlying hd, sizeOf, typeInfo, hi, hs, hlen, hroom, hf, add_none, hst]
theorem run_append_over {t e sz n k xt cap : Nat} {base : Option Addr} {i : TypeInfo} {z : Value} {x' : Value} {olds news : List Value} (ht : P.underlying t = some (.slice e)) (hi : P.info? e = some i) (hs : i.size = sz) (hz : i.zero = some z)
    (hk : ((∃ e', P.underlying xt = some (.slice e')) ∧ (∀ w, (Builtin.lenOf x').run P w = .ok k w) ∧ (Builtin.firstCells sz k x').run P w.drew = .ok news.toArray w.drew) ∨
      (P.underlying xt = some (.int .i64) ∧ x' = .int .i64 k ∧ 0 < k ∧ 0 < sz ∧ news.toArray = Builtin.zeroCells z.cells k))
    (hold : (Builtin.firstCells sz n (.slice base n cap)).run P w.drew = .ok olds.toArray w.drew) (hg : cap < n + k) (h63 : n + k ≤ 9223372036854775807) (hnc : n ≤ cap)
    (hb : (n + k) * i.bytes ≤ 140737488355328) (tt : TypeId) :
    (Builtin.append_ #[t, xt] tt #[.slice base n cap, x']).run P w = .ok (.slice (some ⟨w.heap.size, 0, none⟩) (n + k) (grownCap w (n + k) cap e))
      (w.drew.alloc (.cells (olds.toArray ++ news.toArray ++ Builtin.zeroCells z.cells (grownCap w (n + k) cap e - (n + k))) e)) := by
  have hn : ¬ (n + k ≤ cap) := by omega
  have h63' : ¬ (9223372036854775807 < ((n : Int) + (k : Int))) := by omega
  have h48' : ¬ (281474976710656 < Builtin.nextslicecap (n + k) cap * i.bytes) := by have := growslice_fits hg hb; omega
  rcases hk with ⟨⟨e', hd⟩, hlen, hf⟩ | ⟨hd, rfl, hk0, hs0, hnews⟩
  · simp [Builtin.append_, run_underlying ht, run_underlying hd, sizeOf, typeInfo, zeroValue, hi, hs, hz, hlen, hn, h63', h48', Question.forced, hf, hold, newRow, grownCap]
    congr 2
    apply Array.ext'
    simp
  · have hw : IntKind.i64.wrap (k : Int) = k := by rw [IntKind.wrap_i64]; omega
    have hkb : k * i.bytes ≤ (n + k) * i.bytes := Nat.mul_le_mul_right _ (by omega)
    have h48i : ¬ (281474976710656 < (k : Int) * (i.bytes : Int)) := by
      rw [← Int.natCast_mul]
      omega
    have hneg : ¬ ((k : Int) < 0) := by omega
    have hns : ¬ (k * sz = 0) := Nat.mul_ne_zero (by omega) (by omega)
    simp [Builtin.append_, run_underlying ht, run_underlying hd, sizeOf, typeInfo, zeroValue, hi, hs, hz, asInt, asIntOf, hw, hn, hneg, hns, h63', h48', h48i, Question.forced, hold, hnews, newRow, grownCap]

theorem zeroCells_map {z : Array Value} {sz : Nat} (hz : z.size = sz) (hsz : 0 < sz) (k : Nat) : Builtin.zeroCells z k = ((List.range (k * sz)).map fun q => z.getD (q % sz) undef).toArray := by
  unfold Builtin.zeroCells
  rw [hz]
  apply Array.ext'
  simp only [Array.toList_map, Array.toList_range]
  refine List.map_congr_left fun q hq => ?_
  have hlt : q % sz < z.size := by rw [hz]; exact Nat.mod_lt _ hsz
  rw [getElem!_pos z _ hlt, Array.getD_eq_getD_getElem?, Array.getElem?_eq_getElem hlt]
  rfl

theorem appMc_sound (hte : te.ok P) (hW : WR w0 m w h) {t xt tt : Nat} {a x v : AV} {a' x' : Value} {h' : AH} (ha0 : VR m a a') (hx : VR m x x') (hv : appMc te h t xt a x = some (v, h')) :
    Gives P w0 m w (Builtin.append_ #[t, xt] tt #[a', x']) v h' := by
  unfold appMc at hv
  split at hv
  case h_2 => cases hv
  next bx o n c sz =>
  split at hv
  case h_2 => cases hv
  next e s1 b1 z1 hi =>
  split at hv
  case h_2 => cases hv
  next ei hei =>
  split at hv
  case isFalse => cases hv
  next hc =>
  obtain ⟨rfl, hsz, hbp⟩ := hc
  split at hv
  case h_2 => cases hv
  next cs k ys hbx hap =>
  split at hv
  case isFalse => cases hv
  next hc2 =>
  obtain ⟨hbytes, hnc, hfit⟩ := hc2
  have hu := slice_at hte hi rfl
  obtain ⟨info, d, hinfo, hud, _, hisz, hib⟩ := hte.info hei
  obtain ⟨z, hz, hz1, hz2, hz3, hz4, hz5⟩ := hte.zero hei m
  have hzero : info.zero = some z := by
    have := hz w
    simp [zeroValue, typeInfo, hinfo] at this
    cases hzz : info.zero with
    | none => rw [hzz] at this; simp [unsupported] at this
    | some z' => rw [hzz] at this; simp at this; rw [this]
  have h63 : n + k ≤ 9223372036854775807 := by
    have : n + k ≤ (n + k) * ei.bytes := Nat.le_mul_of_pos_right _ hbp
    omega
  have hib' : (n + k) * info.bytes ≤ 140737488355328 := by rw [hib]; exact hbytes
  have hncs : n * ei.size ≤ c * ei.size := Nat.mul_le_mul_right _ hnc
  obtain ⟨blk, ad, rfl, hM, had, _, hroom⟩ := ha0.mc_inv
  split at hv
  · next hin =>
    split at hv
    case h_2 => cases hv
    next e2 s2 b2 z2 hxt =>
    injection hv with hv; injection hv with e1 e2'; subst e1 e2'
    have hu2 := slice_at hte hxt rfl
    simp only [appCells, hxt] at hap
    obtain ⟨L, hR⟩ := cellsOf_sound (P := P) hW hsz hx.low hap
    have hkn : (n + k) * ei.size ≤ c * ei.size := Nat.mul_le_mul_right _ hin
    have e3 : (n + k) * ei.size = n * ei.size + k * ei.size := Nat.add_mul _ _ _
    have hl1 := hR.len
    have hl2 := hR.lenL
    obtain ⟨w', g1, g2⟩ := lay_box (P := P) (o := o + n * ei.size) hW hbx hM (by omega) hR.rel hR.one (by omega)
    have hf := hR.first k (Nat.le_refl _)
    rw [show k * ei.size = L.length from hl2.symm, List.take_length] at hf
    by_cases hc0 : c = 0
    · have hn0 : n = 0 := by omega
      have hk0 : k = 0 := by omega
      subst hc0 hn0 hk0
      have hys : ys = [] := List.eq_nil_of_length_eq_zero (by simpa using hl1)
      have hL : L = [] := List.eq_nil_of_length_eq_zero (by simpa using hl2)
      subst hys hL
      refine ⟨.slice ad 0 0, w, m, ?_, Mem.le.refl m, .mc _ _ _ _ _ blk _ hM (fun hp => by omega) (by omega) hroom, ?_⟩
      · cases ad <;> simp [Builtin.append_, run_underlying hu, run_underlying hu2, sizeOf, typeInfo, hinfo, hisz, hR.lenOf, hf, storeCells]
      · have : h.set bx (List.take (o + 0 * ei.size) cs ++ [] ++ List.drop (o + 0 * ei.size + ([] : List AV).length) cs) = h := by
          simp only [List.append_nil, List.length_nil, Nat.add_zero, List.take_append_drop]
          exact set_as_was hbx
        rw [this]; exact hW
    · rw [had (by omega)]
      refine ⟨_, w', m, run_append_at hu hinfo hisz ⟨_, hu2⟩ hR.lenOf hf hin g1 tt, Mem.le.refl m, .mc _ _ _ _ _ blk _ hM (fun _ => rfl) hin hroom, g2⟩
  · next hin =>
    injection hv with hv; injection hv with e1 e2'; subst e1 e2'
    have hlow : VR m (.ms bx o n ei.size) (.slice ad n c) := ha0.forget
    have hcell : cellsOf h ei.size (.ms bx o n ei.size) = some (n, (cs.drop o).take (n * ei.size)) := by
      simp only [cellsOf, hbx, if_true]
      rw [if_pos (by omega)]
    obtain ⟨L0, hR0⟩ := cellsOf_sound (P := P) hW.drew hsz hlow hcell
    have hold := hR0.first n (Nat.le_refl _)
    have hl0 := hR0.lenL
    have hl01 := hR0.len
    rw [show n * ei.size = L0.length from hl0.symm, List.take_length] at hold
    have key : ∃ news : List Value, ys.length = k * ei.size ∧ news.length = k * ei.size ∧ (∀ (j : Nat) (c : AV), ys[j]? = some c → VR m c (news.getD j undef)) ∧ (∀ v ∈ news, v.oneCell' = true) ∧
        (((∃ e', P.underlying xt = some (.slice e')) ∧ (∀ w, (Builtin.lenOf x').run P w = .ok k w) ∧ (Builtin.firstCells ei.size k x').run P w.drew = .ok news.toArray w.drew) ∨
        (P.underlying xt = some (.int .i64) ∧ x' = .int .i64 k ∧ 0 < k ∧ 0 < ei.size ∧ news.toArray = Builtin.zeroCells z.cells k)) := by
      unfold appCells at hap
      split at hap
      · next e2 s2 b2 z2 hxt =>
        obtain ⟨L, hR⟩ := cellsOf_sound (P := P) hW.drew hsz hx.low hap
        have hf := hR.first k (Nat.le_refl _)
        rw [show k * ei.size = L.length from hR.lenL.symm, List.take_length] at hf
        exact ⟨L, hR.len, hR.lenL, hR.rel, hR.one, .inl ⟨⟨_, slice_at hte hxt rfl⟩, hR.lenOf, hf⟩⟩
      · next s2 b2 z2 hxt =>
        split at hap
        case h_2 => cases hap
        next l =>
        split at hap
        case isFalse => cases hap
        next hl =>
        injection hap with hap; injection hap with e1 e2; subst e1 e2
        obtain rfl := hx.int_inv
        obtain ⟨r1, r2⟩ := zeros_rel hz2 hz3 hsz hz4 hz5 l.toNat (fun q => z.cells.getD (q % ei.size) undef) (fun q _ => rfl)
        have hkk : P.underlying xt = some (.int .i64) := by
          obtain ⟨info2, d2, _, g2, g3, _, _⟩ := hte.info hxt
          cases d2 <;> simp [AT.fits] at g3
          subst g3; exact g2
        refine ⟨_, by rw [zeros_length, hz3], by simp, r1, r2, .inr ⟨hkk, by congr 1; omega, by omega, hsz, ?_⟩⟩
        rw [zeroCells_map hz2 hsz]
      · cases hap
    obtain ⟨news, hy1, hy2, hy3, hy4, hy5⟩ := key
    have hrun := run_append_over (P := P) (w := w) hu hinfo hisz hzero hy5 hold (by omega) h63 hnc hib' tt
    have hcge := grownCap_ge w (n + k) c e
    generalize grownCap w (n + k) c e = cc at hrun hcge
    generalize harr : L0.toArray ++ news.toArray ++ Builtin.zeroCells z.cells (cc - (n + k)) = arr at hrun
    have e3 : (n + k) * ei.size = n * ei.size + k * ei.size := Nat.add_mul _ _ _
    have e4 : cc * ei.size = (n + k) * ei.size + (cc - (n + k)) * ei.size := by rw [← Nat.add_mul]; congr 1; omega
    have hs : arr.size = cc * ei.size := by
      rw [← harr]; simp [size_zeroCells, hz2]; omega
    have aone : ∀ j : Nat, j < arr.size → (arr.getD j undef).oneCell' = true := by
      intro j hj
      rw [Array.getD_eq_getD_getElem?, Array.getElem?_eq_getElem hj, Option.getD_some]
      have hmem : arr[j] ∈ arr := Array.getElem_mem hj
      generalize arr[j] = v at hmem
      rw [← harr] at hmem
      simp only [Array.mem_append, List.mem_toArray] at hmem
      rcases hmem with (h1 | h1) | h1
      · exact hR0.one _ h1
      · exact hy4 _ h1
      · rw [zeroCells_map hz2 hsz] at h1
        simp only [List.mem_toArray, List.mem_map] at h1
        obtain ⟨q, _, rfl⟩ := h1
        exact hz5 _ (by rw [hz2]; exact Nat.mod_lt _ hsz)
    obtain ⟨m', l1, k1, kC, hW1⟩ := hW.drew.newBox ((cs.drop o).take (n * ei.size) ++ ys) arr e (by rw [List.length_append, hl01, hy1, hs]; omega) (fun j c hj => by
      have hjl := (List.getElem?_eq_some_iff.1 hj).1
      rw [List.length_append, hl01, hy1] at hjl
      rw [Array.getD_eq_getD_getElem?, ← harr, Array.getElem?_append_left (by simp; omega)]
      by_cases hjn : j < n * ei.size
      · rw [List.getElem?_append_left (by omega)] at hj
        rw [Array.getElem?_append_left (by simp; omega)]
        have := hR0.rel j c hj
        rw [List.getD_eq_getElem?_getD] at this
        simpa using this
      · rw [List.getElem?_append_right (by omega), hl01] at hj
        rw [Array.getElem?_append_right (by simp; omega)]
        have := hy3 _ c hj
        rw [List.getD_eq_getElem?_getD] at this
        simp only [List.size_toArray, hl0, List.getElem?_toArray]
        exact this) aone
    exact ⟨_, _, m', hrun, l1, .ms _ _ _ _ _ _ _ k1 (fun _ => rfl) hcge (by rw [kC, hs, Nat.zero_add]; exact Nat.le_refl _), hW1⟩
end
end Go.Proofs.YtjdocenbfghglaaGreatDoor.AW
