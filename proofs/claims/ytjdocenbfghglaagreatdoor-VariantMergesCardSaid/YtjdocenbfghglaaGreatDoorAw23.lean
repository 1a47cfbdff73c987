/- AW, part 23: a call may be looked at apart, in an empty heap; what it made is then a value to read. -/
import Derived.Test.YtjdocenbfghglaaGreatDoorAw22
set_option linter.unusedSimpArgs false
set_option linter.unusedVariables false
namespace Go.Proofs.YtjdocenbfghglaaGreatDoor.AW
open Go Go.RowKit

def AH.killAll (h : AH) : AH := { h with box := fun _ => Option.none }
def AH.killTo (h : AH) (n : Nat) : AH := { h with box := fun b => if b < n then Option.none else h.box b }
/-- What the boxes held is known for good. -/
def Shown (h : AH) (m' : Mem) : Prop := ∀ b cs blk, h.box b = some cs → m'.M b = some blk → ∀ (j : Nat) (c : AV), cs[j]? = some c → ∃ x, m'.K blk j = some x ∧ VR m' c x

theorem WR.freezeTo {w0 : Base} {w : World} {m : Mem} {h : AH} (hW : WR w0 m w h) : ∀ n : Nat, ∃ m', m.le m' ∧ WR w0 m' w (h.killTo n) ∧
    ∀ b cs blk, b < n → h.box b = some cs → m.M b = some blk → ∀ (j : Nat) (c : AV), cs[j]? = some c → ∃ x, m'.K blk j = some x ∧ VR m' c x := by
  intro n
  induction n with
  | zero =>
    refine ⟨m, .refl m, ?_, fun b cs blk hb => absurd hb (Nat.not_lt_zero _)⟩
    exact hW.less _ (fun b cs hb => by simpa [AH.killTo] using hb) (fun _ _ x => x) rfl rfl
  | succ n ih =>
    obtain ⟨m1, l1, W1, k1⟩ := ih
    cases hbn : h.box n with
    | none =>
      refine ⟨m1, l1, ?_, fun b cs blk hb hbx hM j c hc => ?_⟩
      · refine W1.less _ (fun b cs hb => ?_) (fun _ _ x => x) rfl rfl
        simp only [AH.killTo] at hb ⊢
        split at hb
        · cases hb
        · next hx => rw [if_neg (by omega)]; exact hb
      · by_cases e : b = n
        · subst e; rw [hbn] at hbx; cases hbx
        · exact k1 b cs blk (by omega) hbx hM j c hc
    | some cs0 =>
      have hb1 : (h.killTo n).box n = some cs0 := by simp [AH.killTo, hbn]
      obtain ⟨blk0, arr, ty, fr, q1, q2, q3⟩ := W1.box n cs0 hb1
      have hk : ∀ b cs, ((h.killTo n).kill n).box b = some cs → (h.killTo n).box b = some cs ∧ b ≠ n := by
        intro b cs hb
        rw [kill_box] at hb
        split at hb
        · cases hb
        · next hne => exact ⟨hb, hne⟩
      obtain ⟨l2, W2⟩ := (W1.kill n).commit blk0 0 arr.size arr ty fr q3.here q2
        (fun b' cs hb' e => by obtain ⟨h1, h2⟩ := hk b' cs hb'; exact h2 (W1.bb b' n cs _ blk0 h1 hb1 e q1))
        (fun t g x ht hT e => absurd e.symm (W1.bt n t _ g blk0 x hb1 ht q1 hT))
        (fun j _ hj => q3.one j hj) (fun o v hk => by rw [q3.apart o] at hk; cases hk)
      refine ⟨_, l1.trans l2, ?_, fun b cs blk hb hbx hM j c hc => ?_⟩
      · refine W2.less _ (fun b cs hb => ?_) (fun _ _ x => x) rfl rfl
        simp only [AH.killTo] at hb
        rw [kill_box]
        split at hb
        · cases hb
        · next hx => rw [if_neg (by omega)]; simp only [AH.killTo]; rw [if_neg (by omega)]; exact hb
      · by_cases e : b = n
        · subst e
          rw [hbn] at hbx; injection hbx with hbx; subst hbx
          have hM1 := l1.M _ _ hM
          rw [q1] at hM1; injection hM1 with hM1; subst hM1
          have hlt : j < arr.size := by have := q3.size; have := (List.getElem?_eq_some_iff.1 hc).1; omega
          refine ⟨arr[j], ?_, ?_⟩
          · rw [Mem.commit_at _ _ _ _ _ (Nat.zero_le _) hlt, Array.getElem?_eq_getElem hlt]
          · have := (q3.rel j c hc).mono l2
            rwa [Array.getD_eq_getD_getElem?, Array.getElem?_eq_getElem hlt, Option.getD_some] at this
        · obtain ⟨x, g1, g2⟩ := k1 b cs blk (by omega) hbx hM j c hc
          exact ⟨x, l2.K _ _ _ g1, g2.mono l2⟩
theorem WR.freezeAll {w0 : Base} {w : World} {m : Mem} {h : AH} (hW : WR w0 m w h) : ∃ m', m.le m' ∧ WR w0 m' w h.killAll ∧ Shown h m' := by
  obtain ⟨m', l1, W1, k1⟩ := hW.freezeTo h.nb
  refine ⟨m', l1, ?_, fun b cs blk hb hM j c hc => ?_⟩
  case refine_2 =>
    obtain ⟨blk0, _, _, _, q1, _, _⟩ := hW.box b cs hb
    have e := l1.M _ _ q1
    rw [hM] at e; injection e with e; subst e
    exact k1 b cs blk (hW.Blt b cs hb) hb q1 j c hc
  exact W1.less _ (fun b cs hb => by simp [AH.killAll] at hb) (fun _ _ x => x) rfl rfl

def AV.noAgg : AV → Bool
  | .agg _ => false
  | _ => true
theorem noAgg_cells {v : AV} (h : v.noAgg = true) : v.cells = [v] := by cases v <;> first | rfl | cases h
/-- Rows of sz cells each. -/
def chunks (sz : Nat) : Nat → List AV → List AV
  | 0, _ => []
  | n + 1, cs => (if sz = 1 then (match cs with | c :: _ => c | [] => .dead) else .agg (cs.take sz)) :: chunks sz n (cs.drop sz)
theorem chunks_length (sz : Nat) : ∀ (n : Nat) (cs : List AV), (chunks sz n cs).length = n := by
  intro n
  induction n with
  | zero => intro cs; rfl
  | succ n ih => intro cs; simp [chunks, ih]
theorem chunks_get {sz : Nat} (hsz : 0 < sz) : ∀ (n : Nat) (cs : List AV), n * sz ≤ cs.length → (sz = 1 → ∀ c ∈ cs, c.cells = [c]) → ∀ (i : Nat) (x : AV), (chunks sz n cs)[i]? = some x → x.cells.length = sz ∧ ∀ (j : Nat) (c : AV), x.cells[j]? = some c → cs[i * sz + j]? = some c := by
  intro n
  induction n with
  | zero => intro cs _ _ i x h; simp [chunks] at h
  | succ n ih =>
    intro cs hl h1 i x h
    have e1 : (n + 1) * sz = n * sz + sz := by rw [Nat.add_mul, Nat.one_mul]
    simp only [chunks] at h
    cases i with
    | zero =>
      simp only [List.getElem?_cons_zero, Option.some.injEq] at h
      by_cases hs : sz = 1
      · rw [if_pos hs] at h
        cases cs with
        | nil => simp at hl; omega
        | cons c cs =>
          simp only at h; subst h
          have hc := h1 hs c (by simp)
          rw [hc]
          refine ⟨by simp [hs], fun j d hd => ?_⟩
          cases j with
          | zero => simpa using hd
          | succ j => simp at hd
      · rw [if_neg hs] at h
        subst h
        refine ⟨by simp [AV.cells]; omega, fun j d hd => ?_⟩
        simp only [AV.cells, List.getElem?_take] at hd
        split at hd
        · simpa using hd
        · cases hd
    | succ i =>
      simp only [List.getElem?_cons_succ] at h
      obtain ⟨g1, g2⟩ := ih (cs.drop sz) (by simp; omega) (fun e c hc => h1 e c (List.mem_of_mem_drop hc)) i x h
      refine ⟨g1, fun j d hd => ?_⟩
      have := g2 j d hd
      rw [List.getElem?_drop] at this
      rw [Nat.add_mul, Nat.one_mul, show i * sz + sz + j = sz + (i * sz + j) by omega]; exact this

def keepTag : Tag → Tag
  | .full => .full
  | _ => .ro
mutual
/-- A value without ways to memory that may be written. -/
def thaw (h : AH) : Nat → AV → Option AV
  | 0, _ => none
  | d + 1, .ms b o n sz => if n = 0 then none else if sz = 0 then none else (match h.box b with
    | some cs => if o + n * sz ≤ cs.length then (match thawL h d ((cs.drop o).take (n * sz)) with
      | some ys => if ys.all AV.noAgg = true then some (.sl .ro sz (chunks sz n ys)) else none
      | none => none) else none
    | none => none)
  | d + 1, .ptr b o => (match h.box b with
    | some cs => (match thawL h d (cs.drop o) with | some ys => some (.rptr ys) | none => none)
    | none => none)
  | d + 1, .sl tag sz xs => (match thawL h d xs with | some ys => some (.sl (keepTag tag) sz ys) | none => none)
  | d + 1, .rptr xs => (match thawL h d xs with | some ys => some (.rptr ys) | none => none)
  | d + 1, .agg xs => (match thawL h d xs with | some ys => some (.agg ys) | none => none)
  | d + 1, .tup xs => (match thawL h d xs with | some ys => some (.tup ys) | none => none)
  | d + 1, .iface t v => (match thaw h d v with | some v => some (.iface t v) | none => none)
  | d + 1, .fn f a b => (match thawL h d a, thawL h d b with | some a, some b => some (.fn f a b) | _, _ => none)
  | d + 1, .opt b v => if b then (match thaw h d v with | some v => some (.opt b v) | none => none) else some (.opt false .dead)
  | _ + 1, v => some v
def thawL (h : AH) : Nat → List AV → Option (List AV)
  | 0, _ => none
  | _ + 1, [] => some []
  | d + 1, x :: xs => (match thaw h d x, thawL h d xs with | some y, some ys => some (y :: ys) | _, _ => none)
end
theorem thawL_nil (h : AH) (d : Nat) (l : List AV) (hl : thawL h d [] = some l) : l = [] := by
  cases d with
  | zero => simp [thawL] at hl
  | succ d => simp [thawL] at hl; exact hl
theorem thawL_get {h : AH} : ∀ (d : Nat) (xs ys : List AV), thawL h d xs = some ys → ys.length = xs.length ∧ ∀ (i : Nat) (y : AV), ys[i]? = some y → ∃ x d', d' < d ∧ xs[i]? = some x ∧ thaw h d' x = some y := by
  intro d
  induction d with
  | zero => intro xs ys h; simp [thawL] at h
  | succ d ih =>
    intro xs ys hh
    cases xs with
    | nil => simp [thawL] at hh; subst hh; exact ⟨rfl, fun i y hi => by simp at hi⟩
    | cons x xs =>
      simp only [thawL] at hh
      split at hh
      · next y ys' h1 h2 =>
        injection hh with hh; subst hh
        obtain ⟨g1, g2⟩ := ih xs ys' h2
        refine ⟨by simp [g1], fun i z hi => ?_⟩
        cases i with
        | zero => simp at hi; subst hi; exact ⟨x, d, Nat.lt_succ_self _, rfl, h1⟩
        | succ i =>
          obtain ⟨x', d', q1, q2, q3⟩ := g2 i z (by simpa using hi)
          exact ⟨x', d', Nat.lt_succ_of_lt q1, by simpa using q2, q3⟩
      · cases hh
theorem thaw_cells {h : AH} {d : Nat} {x y : AV} (hh : thaw h d x = some y) : y.cells.length = x.cells.length ∧ ∀ (j : Nat) (c' : AV), y.cells[j]? = some c' → ∃ c d', d' ≤ d ∧ x.cells[j]? = some c ∧ thaw h d' c = some c' := by
  cases d with
  | zero => simp [thaw] at hh
  | succ d =>
    by_cases hx : x.noAgg = true
    · have hy : y.noAgg = true := by
        cases x <;> simp only [thaw] at hh <;> (repeat' split at hh) <;> first
          | (cases hh; done)
          | (injection hh with hh; subst hh; rfl)
          | (cases hx; done)
      rw [noAgg_cells hx, noAgg_cells hy]
      refine ⟨rfl, fun j c' hc => ?_⟩
      cases j with
      | zero => simp at hc; subst hc; exact ⟨x, d + 1, Nat.le_refl _, rfl, hh⟩
      | succ j => simp at hc
    · cases x with
      | agg xs =>
        simp only [thaw] at hh
        split at hh
        · next ys hys =>
          injection hh with hh; subst hh
          obtain ⟨g1, g2⟩ := thawL_get d xs ys hys
          exact ⟨g1, fun j c' hc => by obtain ⟨c, d', q1, q2, q3⟩ := g2 j c' hc; exact ⟨c, d', by omega, q2, q3⟩⟩
        · cases hh
      | _ => exact absurd rfl hx

theorem thaw_sound {h : AH} {m : Mem} (hs : Shown h m) : ∀ (d : Nat) (v v' : AV), thaw h d v = some v' → ∀ c, VR m v c → VR m v' c := by
  intro d
  induction d using Nat.strongRecOn with
  | _ d ih =>
    cases d with
    | zero => intro v v' hh; simp [thaw] at hh
    | succ d =>
      have ihL : ∀ (xs ys : List AV), thawL h d xs = some ys → ys.length = xs.length ∧ ∀ (i : Nat) (y : AV), ys[i]? = some y → ∃ x, xs[i]? = some x ∧ ∀ c, VR m x c → VR m y c := by
        intro xs ys hl
        obtain ⟨g1, g2⟩ := thawL_get d xs ys hl
        exact ⟨g1, fun i y hi => by obtain ⟨x, d', q1, q2, q3⟩ := g2 i y hi; exact ⟨x, q2, ih d' (by omega) x y q3⟩⟩
      intro v v' hh c hc
      cases hc with
      | ms b o n sz blk cap a hb ha' hcap hroom =>
        have ha : 0 < n → a = some ⟨blk, o, none⟩ := fun hp => ha' (by omega)
        simp only [thaw] at hh
        split at hh
        · cases hh
        · next hn =>
          split at hh
          · cases hh
          · next hsz =>
            split at hh
            · next cs hbx =>
              split at hh
              · next hfit =>
                split at hh
                · next ys hys =>
                  split at hh
                  · next hag =>
                    injection hh with hh; subst hh
                    obtain ⟨g1, g2⟩ := ihL _ _ hys
                    rw [ha (by omega)]
                    have hyl : ys.length = n * sz := by rw [g1]; simp; omega
                    have hch := chunks_get (sz := sz) (by omega) n ys (by omega) (fun _ c hc => noAgg_cells (List.all_eq_true.1 hag c hc))
                    have hk : ∀ (q : Nat) (y : AV), ys[q]? = some y → ∃ x, m.K blk (o + q) = some x ∧ VR m y x := by
                      intro q y hy
                      obtain ⟨x, e1, e2⟩ := g2 q y hy
                      rw [List.getElem?_take] at e1
                      split at e1
                      · rw [List.getElem?_drop] at e1
                        obtain ⟨z, e3, e4⟩ := hs b cs blk hbx hb _ x e1
                        exact ⟨z, e3, e2 _ e4⟩
                      · cases e1
                    have e : Value.slice (some ⟨blk, o, none⟩) n cap = .slice (some ⟨blk, o, none⟩) (chunks sz n ys).length cap := by rw [chunks_length]
                    rw [e]
                    refine .sl .ro sz _ blk o cap (fun i j => (m.K blk (o + i * sz + j)).getD undef) (by omega) (by rw [chunks_length]; exact hcap) (fun i x hi => (hch i x hi).1) (fun i x hi j hj => ?_) (fun i x hi j d hd => ?_) trivial
                    · have hx := (hch i x hi).1
                      have hd : x.cells[j]? = some (x.cells[j]'(by omega)) := List.getElem?_eq_getElem (by omega)
                      obtain ⟨z, e3, _⟩ := hk _ _ ((hch i x hi).2 j _ hd)
                      rw [← Nat.add_assoc] at e3
                      rw [e3]; rfl
                    · obtain ⟨z, e3, e4⟩ := hk _ _ ((hch i x hi).2 j _ hd)
                      rw [← Nat.add_assoc] at e3
                      simp only [e3, Option.getD_some]; exact e4
                  · cases hh
                · cases hh
              · cases hh
            · cases hh
      | mc b o n c sz blk a h1 h2 h3 h4 =>
        simp only [thaw] at hh
        injection hh with hh; subst hh
        exact .mc _ _ _ _ _ blk a h1 h2 h3 h4
      | ptr b o blk hb =>
        simp only [thaw] at hh
        split at hh
        · next cs hbx =>
          split at hh
          · next ys hys =>
            injection hh with hh; subst hh
            obtain ⟨g1, g2⟩ := ihL _ _ hys
            have hk : ∀ (q : Nat) (y : AV), ys[q]? = some y → ∃ x, m.K blk (o + q) = some x ∧ VR m y x := by
              intro q y hy
              obtain ⟨x, e1, e2⟩ := g2 q y hy
              rw [List.getElem?_drop] at e1
              obtain ⟨z, e3, e4⟩ := hs b cs blk hbx hb _ x e1
              exact ⟨z, e3, e2 _ e4⟩
            refine .rptr _ blk o (fun j => (m.K blk (o + j)).getD undef) (fun j c hj => ?_) (fun j c hj => ?_)
            · obtain ⟨z, e3, _⟩ := hk j c hj; rw [e3]; rfl
            · obtain ⟨z, e3, e4⟩ := hk j c hj; simp only [e3, Option.getD_some]; exact e4
          · cases hh
        · cases hh
      | rptr cs blk o f h1 h2 =>
        simp only [thaw] at hh
        split at hh
        · next ys hys =>
          injection hh with hh; subst hh
          obtain ⟨g1, g2⟩ := ihL _ _ hys
          exact .rptr _ blk o f (fun j c hj => by obtain ⟨x, e1, e2⟩ := g2 j c hj; exact h1 j x e1) (fun j c hj => by obtain ⟨x, e1, e2⟩ := g2 j c hj; exact e2 _ (h2 j x e1))
        · cases hh
      | slemp tag sz a hz ht =>
        simp only [thaw] at hh
        split at hh
        · next ys hys =>
          injection hh with hh; subst hh
          rw [thawL_nil h d ys hys]
          exact .slemp _ _ a hz (fun _ _ e => by cases tag <;> cases e)
        · cases hh
      | slnil tag sz ht =>
        simp only [thaw] at hh
        split at hh
        · next ys hys =>
          injection hh with hh; subst hh
          rw [thawL_nil h d ys hys]
          exact .slnil _ _ (fun _ _ e => by cases tag <;> cases e)
        · cases hh
      | sl tag sz xs blk o cap f h1 h2 h3 h4 h5 h6 =>
        simp only [thaw] at hh
        split at hh
        · next ys hys =>
          injection hh with hh; subst hh
          obtain ⟨g1, g2⟩ := thawL_get d xs ys hys
          have e : Value.slice (some ⟨blk, o, none⟩) xs.length cap = .slice (some ⟨blk, o, none⟩) ys.length cap := by rw [g1]
          rw [e]
          refine .sl (keepTag tag) sz ys blk o cap f h1 (by rw [g1]; exact h2) (fun i y hi => ?_) (fun i y hi j hj => ?_) (fun i y hi j c hj => ?_) (by
            cases tag with
            | full => show cap = ys.length; rw [g1]; exact h6
            | _ => trivial)
          · obtain ⟨x, d', q1, q2, q3⟩ := g2 i y hi
            rw [(thaw_cells q3).1]; exact h3 i x q2
          · obtain ⟨x, d', q1, q2, q3⟩ := g2 i y hi
            exact h4 i x q2 j hj
          · obtain ⟨x, d', q1, q2, q3⟩ := g2 i y hi
            obtain ⟨c0, d2, p1, p2, p3⟩ := (thaw_cells q3).2 j c hj
            exact ih d2 (by omega) c0 c p3 _ (h5 i x q2 j c0 p2)
        · cases hh
      | agg cs cs' h1 h2 =>
        simp only [thaw] at hh
        split at hh
        · next ys hys =>
          injection hh with hh; subst hh
          obtain ⟨g1, g2⟩ := ihL _ _ hys
          exact .agg _ cs' (by omega) (fun i c hi => by obtain ⟨x, e1, e2⟩ := g2 i c hi; exact e2 _ (h2 i x e1))
        · cases hh
      | tup vs vs' h1 h2 =>
        simp only [thaw] at hh
        split at hh
        · next ys hys =>
          injection hh with hh; subst hh
          obtain ⟨g1, g2⟩ := ihL _ _ hys
          exact .tup _ vs' (by omega) (fun i c hi => by obtain ⟨x, e1, e2⟩ := g2 i c hi; exact e2 _ (h2 i x e1))
        · cases hh
      | iface t v v0 h1 =>
        simp only [thaw] at hh
        split at hh
        · next y hy => injection hh with hh; subst hh; exact .iface t _ v0 (ih d (by omega) _ _ hy _ h1)
        · cases hh
      | fn f a b a' b' h1 h2 h3 h4 =>
        simp only [thaw] at hh
        split at hh
        · next ya yb hya hyb =>
          injection hh with hh; subst hh
          obtain ⟨g1, g2⟩ := ihL _ _ hya
          obtain ⟨g3, g4⟩ := ihL _ _ hyb
          exact .fn f _ _ a' b' (by omega) (by omega) (fun i c hi => by obtain ⟨x, e1, e2⟩ := g2 i c hi; exact e2 _ (h3 i x e1)) (fun i c hi => by obtain ⟨x, e1, e2⟩ := g4 i c hi; exact e2 _ (h4 i x e1))
        · cases hh
      | opt b v c h1 h2 =>
        simp only [thaw] at hh
        cases b with
        | true =>
          simp only [if_true] at hh
          split at hh
          · next y hy => injection hh with hh; subst hh; exact .opt _ _ _ (fun _ => ih d (by omega) _ _ hy _ (h1 rfl)) (fun e => by cases e)
          · cases hh
        | false =>
          simp at hh; subst hh
          exact .opt _ _ _ (fun e => by cases e) h2
      | int k n => simp only [thaw] at hh; injection hh with hh; subst hh; exact .int k n
      | bool b => simp only [thaw] at hh; injection hh with hh; subst hh; exact .bool b
      | str s => simp only [thaw] at hh; injection hh with hh; subst hh; exact .str s
      | nilp => simp only [thaw] at hh; injection hh with hh; subst hh; exact .nilp
      | nilf => simp only [thaw] at hh; injection hh with hh; subst hh; exact .nilf
      | nili => simp only [thaw] at hh; injection hh with hh; subst hh; exact .nili
      | dead v => simp only [thaw] at hh; injection hh with hh; subst hh; exact .dead _

def thawO (h : AH) (d : Nat) : AOut → Option AOut
  | .ret v => (match thaw h d v with | some v => some (.ret v) | none => none)
  | .panic v => (match thaw h d v with | some v => some (.panic v) | none => none)
theorem thawO_sound {h : AH} {m : Mem} (hs : Shown h m) {d : Nat} {o o' : AOut} (ht : thawO h d o = some o') {e : Ending} (hr : outRel m o e) : outRel m o' e := by
  cases o with
  | ret v =>
    simp only [thawO] at ht
    split at ht
    · next v' hv =>
      injection ht with ht; subst ht
      cases e <;> simp only [outRel] at hr ⊢
      exact thaw_sound hs d v v' hv _ hr
    · cases ht
  | panic v =>
    simp only [thawO] at ht
    split at ht
    · next v' hv =>
      injection ht with ht; subst ht
      cases e <;> simp only [outRel] at hr ⊢
      obtain ⟨c, h1, h2⟩ := hr
      exact ⟨c, h1, thaw_sound hs d v v' hv _ h2⟩
    · cases ht

/-- What is u, in memory in which the boxes of h are known for good, is v. -/
def To0 (h : AH) (u v : AV) : Prop := ∀ m c, Shown h m → VR m u c → VR m v c
theorem To0.refl (h : AH) (v : AV) : To0 h v v := fun _ _ _ x => x
theorem To0.wk {h : AH} {u v : AV} (hw : Wk u v) : To0 h u v := fun m c _ x => hw m c x
theorem To0.thaw {h : AH} {u v : AV} {d : Nat} (ht : AW.thaw h d u = some v) : To0 h u v := fun m c hs x => thaw_sound hs d u v ht c x
theorem To0.trans {h : AH} {a b c : AV} (h1 : To0 h a b) (h2 : To0 h b c) : To0 h a c := fun m x hs r => h2 m x hs (h1 m x hs r)
def To0All (h : AH) (us vs : List AV) : Prop := us.length = vs.length ∧ ∀ (i : Nat) (u v : AV), us[i]? = some u → vs[i]? = some v → To0 h u v
theorem To0All.nil {h : AH} : To0All h [] [] := ⟨rfl, fun i u v h => by simp at h⟩
theorem To0All.cons {h : AH} {u v : AV} {us vs : List AV} (h1 : To0 h u v) (k : To0All h us vs) : To0All h (u :: us) (v :: vs) := by
  refine ⟨by simp [k.1], fun i a b ha hb => ?_⟩
  cases i with
  | zero => simp at ha hb; subst ha hb; exact h1
  | succ i => exact k.2 i a b (by simpa using ha) (by simpa using hb)
theorem To0All.agg {h : AH} {us vs : List AV} (k : To0All h us vs) : To0 h (.agg us) (.agg vs) := by
  intro m c hs hc
  obtain ⟨cs', rfl, h1, h2⟩ := hc.agg_inv
  refine .agg vs cs' (by have := k.1; omega) (fun i v hv => ?_)
  have hlt : i < us.length := by have := (List.getElem?_eq_some_iff.1 hv).1; have := k.1; omega
  exact k.2 i us[i] v (List.getElem?_eq_getElem hlt) hv m _ hs (h2 i _ (List.getElem?_eq_getElem hlt))
theorem To0All.tup {h : AH} {us vs : List AV} (k : To0All h us vs) : To0 h (.tup us) (.tup vs) := by
  intro m c hs hc
  cases hc with
  | tup us' vs' h1 h2 =>
    refine .tup vs vs' (by have := k.1; omega) (fun i v hv => ?_)
    have hlt : i < us.length := by have := (List.getElem?_eq_some_iff.1 hv).1; have := k.1; omega
    exact k.2 i us[i] v (List.getElem?_eq_getElem hlt) hv m _ hs (h2 i _ (List.getElem?_eq_getElem hlt))
/-- A box that is shown is a row. -/
theorem To0.ms {h : AH} {b sz : Nat} {xs rest : List AV} (hb : h.box b = some (xs.flatMap AV.cells ++ rest)) (hl : ∀ (i : Nat) (x : AV), xs[i]? = some x → x.cells.length = sz) (hsz : 0 < sz) (hne : xs ≠ []) : To0 h (.ms b 0 xs.length sz) (.sl .ro sz xs) := by
  intro m c hs hc
  obtain ⟨blk, cap, a, rfl, e1, e2, e3⟩ := hc.ms_inv
  rw [e2 (List.length_pos_iff.2 hne)]
  have hlen := (flatCells_get hsz hl).1
  have bound : ∀ i j : Nat, i < xs.length → j < sz → i * sz + j < xs.length * sz := by
    intro i j h1 h3
    have : (i + 1) * sz ≤ xs.length * sz := Nat.mul_le_mul_right _ (by omega)
    rw [Nat.add_mul] at this; omega
  have key : ∀ (i : Nat) (x : AV), xs[i]? = some x → ∀ (j : Nat) (d : AV), x.cells[j]? = some d → ∃ z, m.K blk (i * sz + j) = some z ∧ VR m d z := by
    intro i x hi j d hd
    have hi' := (List.getElem?_eq_some_iff.1 hi).1
    have hj : j < sz := by have := (List.getElem?_eq_some_iff.1 hd).1; rw [hl i x hi] at this; exact this
    have := bound i j hi' hj
    refine hs b _ blk hb e1 _ d ?_
    rw [List.getElem?_append_left (by omega)]
    exact flatCells_at hl i j x d hi hd
  refine .sl .ro sz xs blk 0 cap (fun i j => (m.K blk (i * sz + j)).getD undef) hsz e3 hl (fun i x hi j hj => ?_) (fun i x hi j d hd => ?_) trivial
  · have hd : x.cells[j]? = some (x.cells[j]'(by rw [hl i x hi]; exact hj)) := List.getElem?_eq_getElem _
    obtain ⟨z, h1, _⟩ := key i x hi j _ hd
    rw [Nat.zero_add, h1]; rfl
  · obtain ⟨z, h1, h2⟩ := key i x hi j d hd
    simp only [h1, Option.getD_some]; exact h2
def Becomes (h : AH) (out out' : AOut) : Prop := ∀ m e, Shown h m → outRel m out e → outRel m out' e
theorem Becomes.thaw {h : AH} {d : Nat} {o o' : AOut} (ht : thawO h d o = some o') : Becomes h o o' := fun _ _ hs hr => thawO_sound hs ht hr
theorem Becomes.ret {h : AH} {u v : AV} (ht : To0 h u v) : Becomes h (.ret u) (.ret v) := by
  intro m e hs hr
  cases e <;> simp only [outRel] at hr ⊢
  exact ht m _ hs hr

/-- A call whose arguments name no box may be looked at in an empty heap. -/
theorem ACalls.apart {P : Program} {f : FuncId} {args : List AV} {R : AOut → AH → Prop} {R' : AOut → Prop} (hu : AV.underL 0 0 args = true) (hc : ACalls P f args AH.none R)
    (hR : ∀ out h', R out h' → ∃ out', Becomes h' out out' ∧ out'.under 0 0 = true ∧ R' out') (h : AH) : ACalls P f args h fun out h' => h' = h ∧ R' out := by
  intro w0 m w args' h1 h2 hW
  let w1 : Base := ⟨w, fun b o => (m.K b o).isSome = true⟩
  let m1 : Mem := ⟨m.K, fun _ => Option.none, fun _ _ => Option.none, m.C⟩
  have hW1 : WR w1 m1 w AH.none := by
    refine ⟨Bel.refl _ _, hW.K, (fun b x hb => by cases hb), (fun b cs hb => by cases hb), (fun t g x ht => by cases ht), (fun t g ht => by cases ht), (fun b cs hb => by cases hb), (fun t g ht => by cases ht),
      (fun t g x g' ht => by cases ht), (fun b b' cs cs' x hb => by cases hb), (fun t t' g g' x x' ht => by cases ht), (fun b t cs g x y hb => by cases hb), fun b o v hk _ => ?_⟩
    show (m.K b o).isSome = true
    have hk' : m.K b o = some v := hk
    rw [hk']; rfl
  have hcut : ∀ {v : AV} {c : Value}, VR m v c → v.under 0 0 = true → VR m1 v c := by
    intro v c hv hun
    have hle0 : (m.cutTo 0 0).le m1 := ⟨fun _ _ _ x => x, (fun b x hb => by simp [Mem.cutTo] at hb), (fun t g x ht => by simp [Mem.cutTo] at ht), fun _ _ _ => rfl⟩
    exact (hv.cutTo hun).mono hle0
  refine (hc w1 m1 w args' h1 (fun i c hi => hcut (h2 i c hi) (underL_iff.1 hu i c hi)) hW1).mono ?_
  rintro e w' ⟨m2, out, h', l2, hout, W2, hq⟩
  obtain ⟨m3, l3, W3, hsh⟩ := W2.freezeAll
  obtain ⟨out', ht, hun, hq'⟩ := hR out h' hq
  have hout' : outRel m3 out' e := by
    refine ht m3 e hsh ?_
    cases out <;> cases e <;> simp only [outRel] at hout ⊢
    · exact hout.mono l3
    · obtain ⟨c, a, b⟩ := hout; exact ⟨c, a, b.mono l3⟩
  let m4 : Mem := ⟨m3.K, m.M, m.T, m.C⟩
  have le4 : m.le m4 := ⟨fun b o v hk => l3.K _ _ _ (l2.K _ _ _ hk), fun _ _ x => x, fun _ _ _ x => x, fun _ _ _ => rfl⟩
  have hold : ∀ b o v, m3.K b o = some v → b < w.heap.size → ∃ v', m.K b o = some v' := by
    intro b o v hk hlt
    have := W3.past b o v hk hlt
    exact Option.isSome_iff_exists.1 this
  have hbel := W3.below
  refine ⟨m4, out', h, le4, ?_, ?_, rfl, hq'⟩
  · have hc4 : ∀ {v : AV} {c : Value}, VR m3 v c → v.under 0 0 = true → VR m4 v c := by
      intro v c hv hun
      have hle0 : (m3.cutTo 0 0).le m4 := ⟨fun _ _ _ x => x, (fun b x hb => by simp [Mem.cutTo] at hb), (fun t g x ht => by simp [Mem.cutTo] at ht), (fun b x hb => by simp [Mem.cutTo] at hb)⟩
      exact (hv.cutTo hun).mono hle0
    cases out' <;> cases e <;> simp only [outRel] at hout' ⊢
    · exact hc4 hout' hun
    · obtain ⟨c, a, b⟩ := hout'; exact ⟨c, a, hc4 b hun⟩
  · refine ⟨hW.below.trans (hbel.mono hW.size_le), W3.K, hW.Mlt, hW.Blt, hW.Tlt, hW.Klt, ?_, ?_, hW.gens, hW.bb, hW.tt, hW.bt, ?_⟩
    · intro b cs hb
      obtain ⟨blk, arr, ty, fr, q1, q2, q3⟩ := hW.box b cs hb
      have hlt : blk < w.heap.size := (Array.getElem?_eq_some_iff.1 q3.here).1
      refine ⟨blk, arr, ty, fr, q1, q2, ⟨by rw [hbel.block _ hlt]; exact q3.here, q3.size, q3.free, fun j c hj => (q3.rel j c hj).mono le4, q3.one, fun o => ?_, q3.cap, q3.nomark⟩⟩
      cases hk : m3.K blk o with
      | none => rfl
      | some v =>
        obtain ⟨v', hv'⟩ := hold blk o v hk hlt
        rw [q3.apart o] at hv'; cases hv'
    · intro t g htk
      obtain ⟨blk, e2, room, arr, ty, fr, q1, q2, q3⟩ := hW.tok t g htk
      have hlt : blk < w.heap.size := (Array.getElem?_eq_some_iff.1 q3.here).1
      refine ⟨blk, e2, room, arr, ty, fr, q1, q2, ⟨by rw [hbel.block _ hlt]; exact q3.here, q3.free, q3.fits, fun o ho => ?_⟩⟩
      cases hk : m3.K blk o with
      | none => rfl
      | some v =>
        obtain ⟨v', hv'⟩ := hold blk o v hk hlt
        rw [q3.apart o ho] at hv'; cases hv'
    · intro b o v hk hlt
      obtain ⟨v', hv'⟩ := hold b o v hk (Nat.lt_of_lt_of_le hlt hW.size_le)
      exact hW.past b o v' hv' hlt

/-- A contract out of a run in an empty heap. -/
theorem Pure.of0 {P : Program} {f : FuncId} {args : List AV} {v : AV} (hf : FOk P f) (hu : AV.underL 0 0 args = true) (hv : v.under 0 0 = true) (hc : ACalls P f args AH.none fun out h2 => ∃ u, out = .ret u ∧ To0 h2 u v) : Pure P f args v :=
  ⟨hf, fun h => (hc.apart (R' := fun out => out = .ret v) hu (by
    rintro out h' ⟨u, rfl, hq⟩
    exact ⟨.ret v, .ret hq, hv, rfl⟩) h).mono (fun out h' ⟨h1, h2⟩ => ⟨h2, h1⟩)⟩
theorem none_nb : AH.none.nb = 0 := rfl
theorem none_nt : AH.none.nt = 0 := rfl
theorem none_box (b : Nat) : AH.none.box b = Option.none := rfl
theorem none_tok (t : Nat) : AH.none.tok t = Option.none := rfl
end Go.Proofs.YtjdocenbfghglaaGreatDoor.AW
