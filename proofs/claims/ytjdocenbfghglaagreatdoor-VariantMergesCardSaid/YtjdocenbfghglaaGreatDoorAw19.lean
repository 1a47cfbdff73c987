/- AW, part 19: the chain rule for drawn regions, its proof. -/
import Derived.Test.YtjdocenbfghglaaGreatDoorAw18
set_option linter.unusedSimpArgs false
set_option linter.unusedVariables false
namespace Go.Proofs.YtjdocenbfghglaaGreatDoor.AW
open Go Go.RowKit

/-- What an operation waits for, through others too: a number whose bits are the places. -/
def bitAt (ms : List Nat) (k : Nat) : Nat := ms.getD k 0
def maskE (ms : List Nat) : List Edge → Nat
  | [] => 0
  | e :: es => bif Region.binds .any e then (2 ^ e.on ||| bitAt ms e.on) ||| maskE ms es else maskE ms es
def masks : List Oper → List Nat → List Nat
  | [], ms => ms
  | o :: rest, ms => masks rest (ms ++ [maskE ms o.after.toList])
def dep (M : List Nat) (j i : Nat) : Bool := Nat.testBit (bitAt M j) i
theorem maskE_bit {ms : List Nat} {i : Nat} : ∀ {es : List Edge}, Nat.testBit (maskE ms es) i = true → ∃ e ∈ es, Region.binds .any e = true ∧ (e.on = i ∨ Nat.testBit (bitAt ms e.on) i = true) := by
  intro es
  induction es with
  | nil => intro h; simp [maskE] at h
  | cons e es ih =>
    intro h
    simp only [maskE] at h
    cases hb : Region.binds .any e with
    | false =>
      rw [hb, cond_false] at h
      obtain ⟨e', h1, h2⟩ := ih h
      exact ⟨e', List.mem_cons_of_mem _ h1, h2⟩
    | true =>
      rw [hb, cond_true, Nat.testBit_or, Nat.testBit_or, Bool.or_eq_true, Bool.or_eq_true] at h
      rcases h with (h | h) | h
      · rw [Nat.testBit_two_pow, decide_eq_true_eq] at h
        exact ⟨e, List.mem_cons_self, hb, .inl h⟩
      · exact ⟨e, List.mem_cons_self, hb, .inr h⟩
      · obtain ⟨e', h1, h2⟩ := ih h
        exact ⟨e', List.mem_cons_of_mem _ h1, h2⟩
theorem masks_spec : ∀ (l : List Oper) (ms : List Nat), ∃ ys, masks l ms = ms ++ ys ∧ ys.length = l.length ∧ ∀ (k : Nat) (o : Oper), l[k]? = some o → ys[k]? = some (maskE (ms ++ ys.take k) o.after.toList) := by
  intro l
  induction l with
  | nil => intro ms; exact ⟨[], by simp [masks], rfl, fun k o h => by simp at h⟩
  | cons q l ih =>
    intro ms
    obtain ⟨ys, h1, h2, h3⟩ := ih (ms ++ [maskE ms q.after.toList])
    refine ⟨maskE ms q.after.toList :: ys, by simp only [masks, h1, List.append_assoc]; rfl, by simp [h2], fun k o ho => ?_⟩
    cases k with
    | zero => simp at ho; subst ho; simp
    | succ k =>
      have := h3 k o (by simpa using ho)
      rw [List.getElem?_cons_succ, this]
      congr 2
      simp
theorem dep_sound {l : List Oper} {D : Nat → Prop} (hD : ∀ (j : Nat) (o : Oper), l[j]? = some o → D j → ∀ e ∈ o.after.toList, Region.binds .any e = true → D e.on) :
    ∀ (j : Nat) (o : Oper) (i : Nat), l[j]? = some o → (∀ e ∈ o.after.toList, Region.binds .any e = true → D e.on) → dep (masks l []) j i = true → D i := by
  obtain ⟨ys, h1, h2, h3⟩ := masks_spec l []
  rw [List.nil_append] at h1
  intro j
  induction j using Nat.strongRecOn with
  | _ j ih =>
    intro o i ho hd hdep
    unfold dep bitAt at hdep
    rw [h1, List.getD_eq_getElem?_getD, h3 j o ho, Option.getD_some, List.nil_append] at hdep
    obtain ⟨e, he, hb, hx⟩ := maskE_bit hdep
    have hon := hd e he hb
    rcases hx with rfl | hx
    · exact hon
    · by_cases hj : e.on < j
      · have hlt : e.on < l.length := by have := (List.getElem?_eq_some_iff.1 ho).1; omega
        have hoe : l[e.on]? = some l[e.on] := List.getElem?_eq_getElem hlt
        refine ih e.on hj _ i hoe (fun e' he' hb' => hD e.on _ hoe hon e' he' hb') ?_
        unfold dep
        unfold bitAt at hx ⊢
        rw [List.getD_eq_getElem?_getD, List.getElem?_take, if_pos hj] at hx
        rw [h1, List.getD_eq_getElem?_getD]; exact hx
      · unfold bitAt at hx
        rw [List.getD_eq_getElem?_getD, List.getElem?_take, if_neg hj] at hx
        simp at hx
def notRead (d : Option Nat) (l : List Nat) : Bool := match d with | some d => !l.contains d | none => true
def dstNe (d e : Option Nat) : Bool := match d, e with | some d, some e => !(d == e) | _, _ => true
def pairOk (M : List Nat) (dsts : List (Option Nat)) (acts : List Nat) (i : Nat) (oi : Oper) (j : Nat) (oj : Oper) : Bool :=
  dstNe oi.dst oj.dst && (dep M j i || (notRead oj.dst (rds dsts oi) && notRead oi.dst (rds dsts oj) &&
    (((cls acts i oi.op == 0) && (cls acts j oj.op == 0)) || ((cls acts i oi.op == 1) && (cls acts j oj.op == 0)) || ((cls acts i oi.op == 0) && (hf oi.op || Nat.ble (cls acts j oj.op) 2)))))
def laterOk (M : List Nat) (dsts : List (Option Nat)) (acts : List Nat) (i : Nat) (o : Oper) : Nat → List Oper → Bool
  | _, [] => true
  | j, p :: rest => pairOk M dsts acts i o j p && laterOk M dsts acts i o (j + 1) rest
def chainM (M : List Nat) (dsts : List (Option Nat)) (acts : List Nat) : Nat → List Oper → Bool
  | _, [] => true
  | i, o :: rest => (o.after.toList.all fun e => !Region.binds .any e || Nat.blt e.on i) && laterOk M dsts acts i o (i + 1) rest && chainM M dsts acts (i + 1) rest
def chainOk (dsts : List (Option Nat)) (acts : List Nat) (i : Nat) (l : List Oper) : Bool := chainM (masks l []) dsts acts i l
theorem laterOk_spec {M : List Nat} {dsts : List (Option Nat)} {acts : List Nat} {i : Nat} {o : Oper} : ∀ (l : List Oper) (j : Nat), laterOk M dsts acts i o j l = true → ∀ (k : Nat) (p : Oper), l[k]? = some p → pairOk M dsts acts i o (j + k) p = true := by
  intro l
  induction l with
  | nil => intro j _ k p hp; cases hp
  | cons q l ih =>
    intro j h k p hp
    simp only [laterOk, Bool.and_eq_true] at h
    cases k with
    | zero => injection hp with hp; subst hp; exact h.1
    | succ k =>
      have := ih (j + 1) h.2 k p hp
      rwa [show j + 1 + k = j + (k + 1) by omega] at this
theorem chainM_spec {M : List Nat} {dsts : List (Option Nat)} {acts : List Nat} : ∀ (l : List Oper) (i : Nat), chainM M dsts acts i l = true →
    (∀ (k : Nat) (o : Oper), l[k]? = some o → ∀ e ∈ o.after.toList, Region.binds .any e = true → e.on < i + k) ∧
    ∀ (k k2 : Nat) (o p : Oper), k < k2 → l[k]? = some o → l[k2]? = some p → pairOk M dsts acts (i + k) o (i + k2) p = true := by
  intro l
  induction l with
  | nil => intro i _; exact ⟨(fun k o ho => by cases ho), (fun k k2 o p _ ho => by cases ho)⟩
  | cons q l ih =>
    intro i h
    simp only [chainM, Bool.and_eq_true] at h
    obtain ⟨⟨h1, h2⟩, h3⟩ := h
    obtain ⟨g1, g2⟩ := ih (i + 1) h3
    refine ⟨fun k o ho e he hb => ?_, fun k k2 o p hk ho hp => ?_⟩
    · cases k with
      | zero =>
        injection ho with ho; subst ho
        have := List.all_eq_true.1 h1 e he
        simp only [hb, Bool.not_true, Bool.false_or] at this
        simp [Nat.blt_eq] at this; omega
      | succ k => have := g1 k o ho e he hb; omega
    · cases k2 with
      | zero => omega
      | succ k2 =>
        cases k with
        | zero =>
          injection ho with ho; subst ho
          have := laterOk_spec l (i + 1) h2 k2 p hp
          rw [show i + 1 + k2 = i + (k2 + 1) by omega] at this
          exact this
        | succ k =>
          have := g2 k k2 o p (by omega) ho hp
          rw [show i + 1 + k = i + (k + 1) by omega, show i + 1 + k2 = i + (k2 + 1) by omega] at this
          exact this

def firstN (p : Nat → Bool) : Nat → Nat → Nat
  | k, 0 => k
  | k, f + 1 => if p k = true then k else firstN p (k + 1) f
theorem firstN_spec (p : Nat → Bool) : ∀ (f k : Nat), k ≤ firstN p k f ∧ firstN p k f ≤ k + f ∧ (∀ j, k ≤ j → j < firstN p k f → p j = false) ∧ (firstN p k f < k + f → p (firstN p k f) = true) := by
  intro f
  induction f with
  | zero => intro k; refine ⟨Nat.le_refl _, Nat.le_refl _, fun j h1 h2 => ?_, fun h => ?_⟩ <;> simp only [firstN] at * <;> omega
  | succ f ih =>
    intro k
    simp only [firstN]
    split
    · next hp => exact ⟨Nat.le_refl _, by omega, fun j h1 h2 => by omega, fun _ => hp⟩
    · next hp =>
      obtain ⟨g1, g2, g3, g4⟩ := ih (k + 1)
      refine ⟨by omega, by omega, fun j h1 h2 => ?_, fun h => g4 (by omega)⟩
      by_cases e : j = k
      · subst e; simpa using hp
      · exact g3 j (by omega) h2
theorem firstN_eq {p : Nat → Bool} {n c : Nat} (hc : c ≤ n) (h1 : ∀ j, j < c → p j = false) (h2 : c < n → p c = true) : firstN p 0 n = c := by
  obtain ⟨_, g2, g3, g4⟩ := firstN_spec p n 0
  rcases Nat.lt_trichotomy (firstN p 0 n) c with h | h | h
  · have := g4 (by omega); rw [h1 _ h] at this; cases this
  · exact h
  · have := g3 c (Nat.zero_le _) h; rw [h2 (by omega)] at this; cases this
theorem firstN_congr {p q : Nat → Bool} (h : ∀ j, p j = q j) (k f : Nat) : firstN p k f = firstN q k f := by
  have : p = q := funext h
  rw [this]
theorem const_run {α : Type} {G : Nat → α} {a : Nat} : ∀ (d : Nat), (∀ j, a ≤ j → j < a + d → G (j + 1) = G j) → G (a + d) = G a := by
  intro d
  induction d with
  | zero => intro _; rfl
  | succ d ih => intro h; rw [show a + (d + 1) = a + d + 1 by omega, h (a + d) (by omega) (by omega)]; exact ih fun j h1 h2 => h j h1 (by omega)
theorem boxLe_run {L : Option LK} {G : Nat → AH} {a : Nat} : ∀ (d : Nat), (∀ j, a ≤ j → j < a + d → BoxLe L (G j) (G (j + 1))) → BoxLe L (G a) (G (a + d)) := by
  intro d
  induction d with
  | zero => intro _ b cs _ h; exact h
  | succ d ih => intro h b cs hin hb; exact h (a + d) (by omega) (by omega) b cs hin (ih (fun j h1 h2 => h j h1 (by omega)) b cs hin hb)

def own (dsts : List (Option Nat)) (t : Nat) : Option Nat := dsts.findIdx? (· == some t)
def sAt (dsts : List (Option Nat)) (V : Nat → AV) (s0 : AS) (p : Nat → Bool) : AS := fun t => match own dsts t with | some i => if p i = true then V i else s0 t | none => s0 t
theorem own_some {dsts : List (Option Nat)} {t i : Nat} (h : own dsts t = some i) : dsts[i]? = some (some t) := by
  unfold own at h
  rw [List.findIdx?_eq_some_iff_getElem] at h
  obtain ⟨h1, h2, _⟩ := h
  rw [List.getElem?_eq_getElem h1]
  simpa using h2
theorem own_of {dsts : List (Option Nat)} {t i : Nat} (h : dsts[i]? = some (some t)) (hu : ∀ j : Nat, j < i → dsts[j]? ≠ some (some t)) : own dsts t = some i := by
  unfold own
  rw [List.findIdx?_eq_some_iff_getElem]
  obtain ⟨h1, h2⟩ := List.getElem?_eq_some_iff.1 h
  refine ⟨h1, by simp [h2], fun j hj => ?_⟩
  have := hu j hj
  rw [List.getElem?_eq_getElem (by omega)] at this
  simpa using this

theorem draw_chainL {P : Program} {te : TE} (Lo : Option LK) (hte : te.ok P) (hm : P.follows .mixedOrders = true) {N : Nat} {ops : Array Oper} {s0 : AS} {h0 : AH} {Q : AQ} (acts : List Nat)
    (hc : chainOk (ops.toList.map (·.dst)) acts 0 ops.toList = true) (hk : aseq P te N (ops.toList.map (·.dst)) Lo acts 0 ops.toList s0 h0 fun s h => Q .normal s h) : DrawOk P te N ops s0 h0 Q := by
  obtain ⟨V, S, G, e1, e2, e3, e4⟩ := aseq_trace _ _ _ _ hk
  unfold chainOk at hc
  obtain ⟨c1, c2⟩ := chainM_spec _ _ hc
  have hds0 := @dep_sound ops.toList
  generalize masks ops.toList [] = M at *
  simp only [Nat.zero_add] at e3 e4 c1 c2
  generalize hds : ops.toList.map (·.dst) = dsts at *
  have hget : ∀ (i : Nat) (o : Oper), ops[i]? = some o → ops.toList[i]? = some o := fun i o h => by simpa using h
  have hdst : ∀ (i : Nat) (o : Oper), ops[i]? = some o → dsts[i]? = some o.dst := fun i o h => by rw [← hds, List.getElem?_map, hget i o h]; rfl
  have hlt : ∀ (i : Nat) (o : Oper), ops[i]? = some o → i < ops.size := fun i o h => (Array.getElem?_eq_some_iff.1 h).1
  have hown : ∀ (i : Nat) (o : Oper) (t : Nat), ops[i]? = some o → o.dst = some t → own dsts t = some i := by
    intro i o t ho hd
    refine own_of (by rw [hdst i o ho, hd]) (fun j hj hx => ?_)
    have hji : j < ops.size := Nat.lt_trans hj (hlt i o ho)
    have hoj := Array.getElem?_eq_getElem hji
    rw [hdst j _ hoj] at hx
    injection hx with hx
    have := c2 j i _ _ hj (hget j _ hoj) (hget i o ho)
    unfold pairOk at this
    simp only [Bool.and_eq_true] at this
    have h1 := this.1
    rw [hx, hd] at h1
    simp [dstNe] at h1
  have hsome : ∀ (t k : Nat), own dsts t = some k → ∃ o, ops[k]? = some o ∧ o.dst = some t := by
    intro t k hx
    have h1 := own_some hx
    rw [← hds, List.getElem?_map] at h1
    cases ho : ops.toList[k]? with
    | none => rw [ho] at h1; cases h1
    | some o => rw [ho] at h1; injection h1 with h1; exact ⟨o, by simpa using ho, h1⟩
  have hput : ∀ (p : Nat → Bool) (i : Nat) (o : Oper), ops[i]? = some o → putD (sAt dsts V s0 p) o.dst (V i) = sAt dsts V s0 (fun j => p j || j == i) := by
    intro p i o ho
    funext t
    cases hd : o.dst with
    | none =>
      show sAt dsts V s0 p t = _
      unfold sAt
      cases hx : own dsts t with
      | none => rfl
      | some k =>
        have hki : ¬ k = i := by
          rintro rfl
          obtain ⟨o2, g1, g2⟩ := hsome t k hx
          rw [ho] at g1; injection g1 with g1; subst g1
          rw [hd] at g2; cases g2
        simp [hki]
    | some d =>
      show upd (sAt dsts V s0 p) d (V i) t = _
      rw [upd_app]
      by_cases e : t = d
      · subst e
        rw [if_pos rfl]
        unfold sAt
        rw [hown i o t ho hd]
        simp
      · rw [if_neg e]
        unfold sAt
        cases hx : own dsts t with
        | none => rfl
        | some k =>
          have hki : ¬ k = i := by
            rintro rfl
            obtain ⟨o2, g1, g2⟩ := hsome t k hx
            rw [ho] at g1; injection g1 with g1; subst g1
            rw [hd] at g2; injection g2 with g2; exact e g2.symm
          simp [hki]
  have hS : ∀ k, k ≤ ops.size → S k = sAt dsts V s0 (fun i => decide (i < k)) := by
    intro k
    induction k with
    | zero =>
      intro _
      rw [e1]
      funext t
      unfold sAt
      cases own dsts t <;> simp
    | succ k ih =>
      intro hle
      have ho := Array.getElem?_eq_getElem (show k < ops.size by omega)
      rw [(e4 k _ (hget k _ ho)).1, ih (by omega), hput _ k _ ho]
      congr 1
      funext i
      rw [Bool.eq_iff_iff]
      simp only [Bool.or_eq_true, decide_eq_true_eq, beq_iff_eq]
      omega
  have hact : ∀ (i : Nat) (o : Oper), ops[i]? = some o → Good P te N dsts Lo (cls acts i o.op) o (S i) (G i) (V i) (G (i + 1)) := fun i o ho => (e4 i o (hget i o ho)).2
  have hdep : ∀ (j : Nat) (o : Oper), ops[j]? = some o → ∀ (i : Nat) (L : Array Bool), (∀ (i : Nat) (o : Oper), ops[i]? = some o → L.getD i false = true → ∀ e ∈ o.after, Region.binds .any e = true → L.getD e.on false = true) →
      (∀ e ∈ o.after, Region.binds .any e = true → L.getD e.on false = true) → dep M j i = true → L.getD i false = true := by
    intro j o ho i L hR h hd
    exact hds0 (D := fun i => L.getD i false = true) (fun j o ho hj e he hb => hR j o (by simpa using ho) hj e (Array.mem_toList_iff.1 he) hb) j o i (hget j o ho) (fun e he hb => h e (Array.mem_toList_iff.1 he) hb) hd
  -- both acts: the later waits for the earlier
  have hacts : ∀ (i j : Nat) (oi oj : Oper), i < j → ops[i]? = some oi → ops[j]? = some oj → cls acts i oi.op ≠ 0 → cls acts j oj.op ≠ 0 → dep M j i = true := by
    intro i j oi oj hij hi hj h1 h2
    have := c2 i j _ _ hij (hget i _ hi) (hget j _ hj)
    unfold pairOk at this
    simp only [Bool.and_eq_true, Bool.or_eq_true, beq_iff_eq] at this
    rcases this.2 with h | ⟨_, (⟨h, _⟩ | ⟨_, h⟩) | ⟨h, _⟩⟩
    · exact h
    · exact absurd h h1
    · exact absurd h h2
    · exact absurd h h1
  let isAct : Nat → Bool := fun i => match ops[i]? with | some o => !(cls acts i o.op == 0) | none => false
  have hisAct : ∀ i o, ops[i]? = some o → (isAct i = true ↔ cls acts i o.op ≠ 0) := by
    intro i o ho
    simp [isAct, ho]
  let p : Array Bool → Nat → Bool := fun L i => isAct i && !L.getD i true
  let R : Array Bool → Prop := fun L => ∀ (i : Nat) (o : Oper), ops[i]? = some o → L.getD i false = true → ∀ e ∈ o.after, Region.binds .any e = true → L.getD e.on false = true
  have hft : ∀ (L : Array Bool) (i : Nat), L.size = ops.size → i < ops.size → L.getD i true = L.getD i false := by
    intro L i hs hi
    simp [Array.getD_eq_getD_getElem?, Array.getElem?_eq_getElem (show i < L.size by omega)]
  have hset : ∀ (L : Array Bool) (i j : Nat), L.size = ops.size → i < ops.size → (L.setIfInBounds i true).getD j false = (L.getD j false || j == i) := by
    intro L i j hs hi
    by_cases e : j = i
    · subst e; simp [Array.getD_eq_getD_getElem?, Array.getElem?_setIfInBounds, hs, hi]
    · rw [getD_set_ne _ (Ne.symm e)]; simp [e]
  refine draw_any hte hm V (fun L => G (firstN (p L) 0 ops.size)) (fun L => sAt dsts V s0 (fun i => L.getD i false)) R ?_ ?_ ?_ (fun i o ho => (hact i o ho).dst) ?_ ?_
  · intro i o ho hx
    exfalso
    have : (Array.replicate ops.size false).getD i false = false := by
      by_cases h : i < ops.size <;> simp [Array.getD_eq_getD_getElem?, h]
    rw [this] at hx; cases hx
  · funext t
    unfold sAt
    cases own dsts t with
    | none => rfl
    | some k =>
      have : (Array.replicate ops.size false).getD k false = false := by
        by_cases h : k < ops.size <;> simp [Array.getD_eq_getD_getElem?, h]
      simp [this]
  · -- the first act's heap is the first one
    obtain ⟨_, g2, g3, g4⟩ := firstN_spec (p (Array.replicate ops.size false)) ops.size 0
    rw [← e2]
    have := const_run (G := G) (a := 0) (firstN (p (Array.replicate ops.size false)) 0 ops.size) (fun j _ hj => by
      have hlt2 : j < ops.size := by omega
      have ho := Array.getElem?_eq_getElem hlt2
      have hz : cls acts j ops[j].op = 0 := by
        have := g3 j (Nat.zero_le _) (by omega)
        simp only [p, isAct, ho, Bool.and_eq_false_iff] at this
        rcases this with h | h
        · simpa using h
        · simp [Array.getD_eq_getD_getElem?, hlt2] at h
      exact ((hact j _ ho).flt hz).1)
    simpa using this
  · intro L hsz hR i hi o ho
    obtain ⟨hf0, o', ho', hdeps⟩ := mem_ready.1 hi
    rw [ho] at ho'; injection ho' with ho'; subst ho'
    have hil := hlt i o ho
    have hfalse : L.getD i false = false := by rw [← hft L i hsz hil]; exact hf0
    -- what it reads is as in the sequence
    have hreads : ∀ t ∈ rds dsts o, sAt dsts V s0 (fun i => L.getD i false) t = S i t := by
      intro t ht
      rw [hS i (by omega)]
      unfold sAt
      cases hx : own dsts t with
      | none => rfl
      | some k =>
        obtain ⟨ok, g1, g2⟩ := hsome t k hx
        simp only
        rcases Nat.lt_trichotomy k i with h | h | h
        · have hp := c2 k i _ _ h (hget k _ g1) (hget i _ ho)
          unfold pairOk at hp
          simp only [Bool.and_eq_true, Bool.or_eq_true] at hp
          rcases hp.2 with hd | ⟨⟨_, hn⟩, _⟩
          · have := hdep i o ho k L hR hdeps hd
            simp [this, h]
          · rw [g2] at hn
            simp only [notRead, Bool.not_eq_true'] at hn
            have : (rds dsts o).contains t = true := by simpa using ht
            rw [hn] at this; cases this
        · subst h; simp [hfalse]
        · have hp := c2 i k _ _ h (hget i _ ho) (hget k _ g1)
          unfold pairOk at hp
          simp only [Bool.and_eq_true, Bool.or_eq_true] at hp
          rcases hp.2 with hd | ⟨⟨hn, _⟩, _⟩
          · have : L.getD k false = false := by
              cases hlk : L.getD k false with
              | false => rfl
              | true =>
                have := hdep k ok g1 i L hR (hR k ok g1 hlk) hd
                rw [hfalse] at this; cases this
            simp only [this, decide_eq_true_eq]
            rw [if_neg (by simp), if_neg (by omega)]
          · rw [g2] at hn
            simp only [notRead, Bool.not_eq_true'] at hn
            have : (rds dsts o).contains t = true := by simpa using ht
            rw [hn] at this; cases this
    refine ⟨?_, ?_, ?_⟩
    · by_cases hcl : cls acts i o.op = 0
      · -- it floats
        have hH : firstN (p (L.setIfInBounds i true)) 0 ops.size = firstN (p L) 0 ops.size := firstN_congr (fun j => by
          by_cases e : j = i
          · subst e
            simp [p, isAct, ho, hcl]
          · show (isAct j && !(L.setIfInBounds i true).getD j true) = (isAct j && !L.getD j true)
            rw [getD_set_ne _ (Ne.symm e)]) _ _
        rw [hds]
        show StepOk P te dsts _ (G (firstN (p L) 0 ops.size)) o (V i) (G (firstN (p (L.setIfInBounds i true)) 0 ops.size))
        rw [hH]
        obtain ⟨_, g2, g3, g4⟩ := firstN_spec (p L) ops.size 0
        refine ((hact i o ho).flt hcl).2 _ _ hreads ?_
        generalize hcc : firstN (p L) 0 ops.size = c at *
        by_cases hhf : hf o.op = true
        · exact .inl hhf
        · refine .inr ?_
          rcases Nat.lt_or_ge c i with hci | hci
          · -- acts before it, not yet done, that leave the boxes
            have hcl2 : c < ops.size := by omega
            have hoc := Array.getElem?_eq_getElem hcl2
            have hpc := g4 (by omega)
            simp only [p, Bool.and_eq_true, Bool.not_eq_true'] at hpc
            have hca := (hisAct c _ hoc).1 hpc.1
            have hcf : L.getD c false = false := by rw [← hft L c hsz hcl2]; exact hpc.2
            have hbox : ∀ b, inL Lo b → (G (c + (i - c))).box b = (G c).box b := fun b hin => const_run (G := fun k => (G k).box b) (a := c) (i - c) (fun j h1 h2 => by
              have hjl : j < ops.size := by omega
              have hoj := Array.getElem?_eq_getElem hjl
              by_cases hz : cls acts j ops[j].op = 0
              · exact congrFun (congrArg AH.box ((hact j _ hoj).flt hz).1) b
              · have hp := c2 j i _ _ (by omega) (hget j _ hoj) (hget i _ ho)
                unfold pairOk at hp
                simp only [Bool.and_eq_true, Bool.or_eq_true, beq_iff_eq] at hp
                rcases hp.2 with hd | ⟨_, (⟨h, _⟩ | ⟨h, _⟩) | ⟨h, _⟩⟩
                · exfalso
                  have hlj := hdep i o ho j L hR hdeps hd
                  rcases Nat.lt_or_ge c j with hcj | hcj
                  · have hdc := hacts c j _ _ hcj hoc hoj hca hz
                    have := hdep j _ hoj c L hR (hR j _ hoj hlj) hdc
                    rw [hcf] at this; cases this
                  · have : j = c := by omega
                    subst this
                    rw [hcf] at hlj; cases hlj
                · exact absurd h hz
                · exact ((hact j _ hoj).one h).get hin
                · exact absurd h hz)
            intro b cs hin hb
            rw [show c + (i - c) = i by omega] at hbox
            rw [← hbox b hin]; exact hb
          · have := boxLe_run (G := G) (a := i) (c - i) (fun j h1 h2 => by
              have hjl : j < ops.size := by omega
              have hoj := Array.getElem?_eq_getElem hjl
              by_cases hz : cls acts j ops[j].op = 0
              · rw [((hact j _ hoj).flt hz).1]; exact fun b cs _ hb => hb
              · have hij : i < j := by
                  rcases Nat.lt_or_ge i j with h | h
                  · exact h
                  · exfalso
                    have : j = i := by omega
                    subst this
                    rw [ho] at hoj; injection hoj with hoj
                    rw [← hoj] at hz; exact hz hcl
                have hpj := g3 j (Nat.zero_le _) (by omega)
                simp only [p, Bool.and_eq_false_iff, Bool.not_eq_false'] at hpj
                have hlj : L.getD j false = true := by
                  rcases hpj with h | h
                  · have := (hisAct j _ hoj).2 hz
                    rw [h] at this; cases this
                  · rw [← hft L j hsz hjl]; exact h
                have hp := c2 i j _ _ hij (hget i _ ho) (hget j _ hoj)
                unfold pairOk at hp
                simp only [Bool.and_eq_true, Bool.or_eq_true, beq_iff_eq] at hp
                rcases hp.2 with hd | ⟨_, (⟨_, h⟩ | ⟨h, _⟩) | ⟨_, h | h⟩⟩
                · exfalso
                  have := hdep j _ hoj i L hR (hR j _ hoj hlj) hd
                  rw [hfalse] at this; cases this
                · exact absurd h hz
                · rw [hcl] at h; cases h
                · exact absurd h hhf
                · have hle := Nat.le_of_ble_eq_true h
                  have : cls acts j ops[j].op = 1 ∨ cls acts j ops[j].op = 2 := by omega
                  rcases this with h | h
                  · intro b cs hin hb
                    rw [((hact j _ hoj).one h).get hin]; exact hb
                  · exact (hact j _ hoj).two h)
            rwa [show i + (c - i) = c by omega] at this
      · -- an act
        have hfi : firstN (p L) 0 ops.size = i := firstN_eq (by omega) (fun j hj => by
          have hoj := Array.getElem?_eq_getElem (show j < ops.size by omega)
          simp only [p, Bool.and_eq_false_iff, Bool.not_eq_false']
          by_cases hz : cls acts j ops[j].op = 0
          · refine .inl ?_
            simp [isAct, hoj, hz]
          · refine .inr ?_
            rw [hft L j hsz (by omega)]
            exact hdep i o ho j L hR hdeps (hacts j i _ _ hj hoj ho hz hcl)) (fun _ => by
          simp only [p, Bool.and_eq_true, Bool.not_eq_true']
          exact ⟨(hisAct i o ho).2 hcl, hf0⟩)
        have hn : G (firstN (p (L.setIfInBounds i true)) 0 ops.size) = G (i + 1) := by
          obtain ⟨_, g2, g3, g4⟩ := firstN_spec (p (L.setIfInBounds i true)) ops.size 0
          generalize firstN (p (L.setIfInBounds i true)) 0 ops.size = c at *
          have hci : i + 1 ≤ c := by
            rcases Nat.lt_or_ge i c with h | h
            · exact h
            · exfalso
              have hpc := g4 (by omega)
              simp only [p, Bool.and_eq_true, Bool.not_eq_true'] at hpc
              have hoc := Array.getElem?_eq_getElem (show c < ops.size by omega)
              have hca := (hisAct c _ hoc).1 hpc.1
              have h3 : (L.setIfInBounds i true).getD c false = false := by
                rw [← hft _ c (by simp [hsz]) (by omega)]; exact hpc.2
              rw [hset L i c hsz hil] at h3
              simp only [Bool.or_eq_false_iff, beq_eq_false_iff_ne] at h3
              have := hdep i o ho c L hR hdeps (hacts c i _ _ (by omega) hoc ho hca hcl)
              rw [h3.1] at this; cases this
          have := const_run (G := G) (a := i + 1) (c - (i + 1)) (fun j h1 h2 => by
            have hjl : j < ops.size := by omega
            have hoj := Array.getElem?_eq_getElem hjl
            by_cases hz : cls acts j ops[j].op = 0
            · exact ((hact j _ hoj).flt hz).1
            · exfalso
              have hpj := g3 j (Nat.zero_le _) (by omega)
              simp only [p, Bool.and_eq_false_iff, Bool.not_eq_false'] at hpj
              have hlj : L.getD j false = true := by
                rcases hpj with h | h
                · have := (hisAct j _ hoj).2 hz
                  rw [h] at this; cases this
                · rw [hft _ j (by simp [hsz]) hjl, hset L i j hsz hil] at h
                  simp only [Bool.or_eq_true, beq_iff_eq] at h
                  rcases h with h | h
                  · exact h
                  · omega
              have := hdep j _ hoj i L hR (hR j _ hoj hlj) (hacts i j _ _ (by omega) ho hoj hcl hz)
              rw [hfalse] at this; cases this)
          rwa [show i + 1 + (c - (i + 1)) = c by omega] at this
        rw [hds]
        show StepOk P te dsts _ (G (firstN (p L) 0 ops.size)) o (V i) (G (firstN (p (L.setIfInBounds i true)) 0 ops.size))
        rw [hn, hfi]
        exact (hact i o ho).act _ hreads
    · intro k ok hok hlk e he hb
      rw [hset L i _ hsz hil] at hlk ⊢
      simp only [Bool.or_eq_true, beq_iff_eq] at hlk ⊢
      rcases hlk with h | h
      · exact .inl (hR k ok hok h e he hb)
      · subst h
        rw [ho] at hok; injection hok with hok; subst hok
        exact .inl (hdeps e he hb)
    · show sAt dsts V s0 _ = putD (sAt dsts V s0 _) o.dst (V i)
      rw [hput _ i o ho]
      congr 1
      funext j
      exact hset L i j hsz hil
  · intro L hsz hR hr
    have hall : ∀ i, i < ops.size → L.getD i false = true := by
      intro i
      induction i using Nat.strongRecOn with
      | ind i ih =>
        intro hi
        cases hx : L.getD i false with
        | true => rfl
        | false =>
          exfalso
          have ho := Array.getElem?_eq_getElem hi
          have : i ∈ Region.ready .any ops L := mem_ready.2 ⟨by rw [hft L i hsz hi]; exact hx, _, ho, fun e he hb => by
            have hlt2 := c1 i _ (hget i _ ho) e (Array.mem_toList_iff.2 he) hb
            exact ih e.on hlt2 (by omega)⟩
          rw [hr] at this; cases this
    have hf : firstN (p L) 0 ops.size = ops.size := firstN_eq (Nat.le_refl _) (fun j hj => by
      simp only [p, Bool.and_eq_false_iff, Bool.not_eq_false']
      exact .inr (by rw [hft L j hsz hj]; exact hall j hj)) (fun h => absurd h (Nat.lt_irrefl _))
    show Q .normal (sAt dsts V s0 _) (G (firstN (p L) 0 ops.size))
    rw [hf]
    have hse : sAt dsts V s0 (fun i => L.getD i false) = S ops.size := by
      rw [hS _ (Nat.le_refl _)]
      funext t
      unfold sAt
      cases hx : own dsts t with
      | none => rfl
      | some k =>
        obtain ⟨o, g1, _⟩ := hsome t k hx
        have := hlt k o g1
        simp [hall k this, this]
    rw [hse]
    simpa using e3
theorem draw_chain {P : Program} {te : TE} (hte : te.ok P) (hm : P.follows .mixedOrders = true) {N : Nat} {ops : Array Oper} {s0 : AS} {h0 : AH} {Q : AQ} (acts : List Nat)
    (hc : chainOk (ops.toList.map (·.dst)) acts 0 ops.toList = true) (hk : aseq P te N (ops.toList.map (·.dst)) none acts 0 ops.toList s0 h0 fun s h => Q .normal s h) : DrawOk P te N ops s0 h0 Q := draw_chainL none hte hm acts hc hk
end Go.Proofs.YtjdocenbfghglaaGreatDoor.AW
