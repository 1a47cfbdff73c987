/- Texts of this claim, part 2: V11, V12, V13, V14, V15, V16, V17, V175, V18, V19, V21, V22, V23, V24, V245, V25, V26, P1, P2, V285. -/
import Derived.Test.YtjdocenbfghglaaGreatDoorMg1
import Derived.Tactics
import Derived.Tactics2
import Derived.Shelf.Strings.FuncGrows
import Derived.Test.YtjdocenbfghglaaGreatDoorAw22
import Derived.Test.YtjdocenbfghglaaGreatDoorAw23
import Derived.Test.YtjdocenbfghglaaGreatDoorAw27
section
set_option linter.unusedSimpArgs false
set_option linter.unusedVariables false
namespace Go.Proofs.YtjdocenbfghglaaGreatDoor.AW
open Go Go.RowKit

def badRune (x : Nat) : Bool := decide ((x : Int) < 32) || decide ((x : Int) > 126)
theorem textfn_pure (x : Nat) : Pure Tryz.prog 164 [.int .i32 x] (.bool (badRune x)) := by
  refine Pure.of ⟨Tryz.f164, Tryz.func164, rfl, by kernel_rfl⟩ rfl (fun h => ?_)
  refine acalls_of te_ok [6, 7] Tryz.func164 (c := _) rfl (Nat.le_of_ble_eq_true rfl) ?_
  simp only [aws, eq_self, implies_true, imp_self, reduceIte, Nat.reduceLT, Nat.reduceBEq, acmpnil, ares1, Tryz.ntmps164, Tryz.results164]
  exact ⟨.refl _, _, rfl, rfl⟩
theorem iter_drawn (w : World) (k : Nat) (s : ByteArray) (pos : Nat) : (w.iterAt k s pos).drawn = w.drawn := rfl
theorem bel_iter {B : Nat} {a w : World} (h : Bel B a w) {k : Nat} (hk : B ≤ k) (s : ByteArray) (pos : Nat) : Bel B a (w.iterAt k s pos) := ⟨Lib.below_iterAt h.toBelow hk s pos, by rw [iter_drawn]; exact h.drawn⟩
theorem textfn_calls (R : Nat) (W : World) : Calls Tryz.prog 164 #[.int .i32 (R : Int)] W fun e w' => e = .returned (.bool (badRune R)) ∧ Bel W.heap.size W w' := by
  refine Calls.mono ((textfn_pure R).calls_below #[.int .i32 R] W rfl (fun i c hi => by
    cases i with
    | zero => simp at hi; subst hi; exact .int _ _
    | succ i => simp at hi)) ?_
  rintro e w' ⟨⟨c, m, rfl, hc⟩, h2⟩
  exact ⟨by rw [hc.bool_inv], h2⟩
set_option maxHeartbeats 2000000 in
set_option maxRecDepth 100000 in
/-- What the search for a bad rune does to the world: an iterator, and draws. -/
theorem index_calls (s : ByteArray) (w : World) : Calls Tryz.prog 234 #[.string s, .func (.func 164) #[] #[], .bool true] w fun e w' => e = .returned (.int .i64 (Lib.idxFunc badRune true s)) ∧ Bel w.heap.size w w' := by
  have enters : ∀ args w, (callFunc 164 args).run Tryz.prog w = .ok (.enter 164 args) w := Go.Proofs.enters_of Tryz.func164 (by kernel_rfl) rfl
  go_enter Tryz.func234, Tryz.ntmps234
  go_wp2
  go_loopg [] s.size (fun left wx => ∃ pos : Nat, wx.heap[w.heap.size]? = some (.stringIter s pos) ∧ Bel w.heap.size w wx ∧ Lib.idxFuncFrom badRune true s left pos = Lib.idxFunc badRune true s ∧ s.size ≤ pos + left)
  case atStart => exact ⟨0, World.iter_heap w s 0, (Bel.refl _ w).alloc (Nat.le_refl _) _, rfl, by omega⟩
  case round =>
    obtain ⟨pos, hit, hbel, hrest, hleft⟩ := hrel
    by_cases hend : pos < s.size
    · obtain ⟨left, rfl⟩ : ∃ n, gk = n + 1 := ⟨gk - 1, by omega⟩
      have hnext : ∀ ty, (Instr.next (.pointer (some ⟨w.heap.size, 0, none⟩)) true ty).run Tryz.prog wr = _ := fun ty => Lib.run_next_any_at wr w.heap.size s pos ty hit hend
      have hwide := Lib.width_pos s pos
      simp only [Lib.idxFuncFrom, hend, if_true] at hrest
      generalize (Utf8.decode s pos).1 = R at hnext hrest
      generalize (Utf8.decode s pos).2 = K at hnext hrest hwide
      have hit' := Lib.iterAt_heap wr w.heap.size s pos (pos + K) hit
      have hbel' := bel_iter hbel (Nat.le_refl _) s (pos + K)
      generalize wr.iterAt w.heap.size s (pos + K) = W at hnext hit' hbel'
      have hlt : w.heap.size < W.heap.size := (Array.getElem?_eq_some_iff.1 hit').1
      have hcall := textfn_calls R W
      cases hb : badRune R <;> rw [hb] at hcall <;> simp only [hb, if_true, Bool.false_eq_true, if_false] at hrest
      · go_wp2_with (go_at_fn 164; refine hcall.mono ?_; rintro e W' ⟨rfl, hc⟩)
        go_roundg left
        case measure => omega
        case rel => exact ⟨pos + K, (hc.block _ hlt).trans hit', hbel'.trans (hc.mono hbel'.size), hrest, by omega⟩
      · go_wp2_with (go_at_fn 164; refine hcall.mono ?_; rintro e W' ⟨rfl, hc⟩)
        go_ret
        exact ⟨by rw [← hrest] <;> rfl, hbel'.trans (hc.mono hbel'.size)⟩
    · have hnext : ∀ ty, (Instr.next (.pointer (some ⟨w.heap.size, 0, none⟩)) true ty).run Tryz.prog wr = _ := fun ty => Lib.run_next_end_at wr w.heap.size s pos ty hit hend
      rw [Lib.idxFuncFrom_end badRune true s gk pos hend] at hrest
      go_wp2
      go_ret
      exact ⟨by rw [← hrest] <;> rfl, hbel⟩
theorem index_pure (s : ByteArray) : Pure Tryz.prog 234 [.str s, .fn (.func 164) [] [], .bool true] (.int .i64 (Lib.idxFunc badRune true s)) := by
  refine Pure.of_calls ⟨Tryz.f234, Tryz.func234, rfl, by kernel_rfl⟩ (fun m w args' hn hr => ?_)
  obtain ⟨l⟩ := args'
  simp only [List.size_toArray, List.length_cons, List.length_nil] at hn
  match l, hn with
  | [a, b, c], _ =>
    have ha := hr 0 _ rfl
    have hb := hr 1 _ rfl
    have hc := hr 2 _ rfl
    obtain rfl := hc.bool_inv
    obtain ⟨first', cap', hb', h1, h2, _, _⟩ := hb.fn_inv
    have ha' : a = .string s := ha.str_inv
    have e1 : first' = #[] := Array.eq_empty_of_size_eq_zero (by simpa using h1)
    have e2 : cap' = #[] := Array.eq_empty_of_size_eq_zero (by simpa using h2)
    have hb2 : b = .func (.func 164) #[] #[] := by rw [e1, e2] at hb'; exact hb'
    subst ha' hb2
    refine (index_calls s w).mono ?_
    rintro e w' ⟨rfl, h3⟩
    exact ⟨⟨_, rfl, .int _ _⟩, h3⟩

theorem get_at {s : ByteArray} {i : Nat} {b : UInt8} (h : s.data.toList[i]? = some b) : s.get! i = b ∧ i < s.size := by
  have hl := (List.getElem?_eq_some_iff.1 h).1
  have hi : i < s.data.size := by simpa using hl
  refine ⟨?_, hi⟩
  have h2 : s.data[i]? = some b := by rw [← Array.getElem?_toList]; exact h
  show s.data[i]! = b
  rw [Array.getElem!_eq_getD, Array.getD_eq_getD_getElem?, h2]; rfl
theorem decode_small {s : ByteArray} {i : Nat} {b : UInt8} (h : s.data.toList[i]? = some b) (hb : b.toNat < 128) : Utf8.decode s i = (b.toNat, 1) := by
  unfold Utf8.decode
  simp only [Nat.add_zero, (get_at h).1]
  rw [if_pos hb]
theorem decode_great {s : ByteArray} {i : Nat} {b : UInt8} (h : s.data.toList[i]? = some b) (hb : 128 ≤ b.toNat) : 128 ≤ (Utf8.decode s i).1 := by
  unfold Utf8.decode
  simp only [Nat.add_zero, (get_at h).1]
  rw [if_neg (by omega)]
  repeat' split
  all_goals simp_all [Utf8.runeError]
  all_goals omega
def textS (s : ByteArray) : Bool := decide ((s.size : Int) ≤ 100) && !decide (Lib.idxFunc badRune true s ≥ 0)
theorem idx_all (s : ByteArray) : ∀ (f pos : Nat), s.size ≤ pos + f → ((s.data.toList.drop pos).all okByte = true ↔ Lib.idxFuncFrom badRune true s f pos < 0) := by
  have hlen : s.data.toList.length = s.size := by simp
  intro f
  induction f with
  | zero =>
    intro pos h
    rw [List.drop_eq_nil_of_le (by omega)]
    simp [Lib.idxFuncFrom]
  | succ f ih =>
    intro pos h
    simp only [Lib.idxFuncFrom]
    by_cases hp : pos < s.size
    · rw [if_pos hp]
      have hpl : pos < s.data.toList.length := by omega
      rw [List.drop_eq_getElem_cons hpl, List.all_cons]
      have hb : s.data.toList[pos]? = some (s.data.toList[pos]) := List.getElem?_eq_getElem hpl
      generalize s.data.toList[pos] = b at *
      by_cases h1 : b.toNat < 128
      · rw [decode_small hb h1]
        simp only
        cases hk : badRune b.toNat with
        | true =>
          simp only [if_true]
          have : okByte b = false := by
            simp only [badRune, Bool.or_eq_true, decide_eq_true_eq] at hk
            rw [Bool.eq_false_iff]
            intro h2
            simp only [okByte, Bool.and_eq_true, decide_eq_true_eq] at h2
            omega
          rw [this]
          simp
        | false =>
          have : okByte b = true := by
            simp only [badRune, Bool.or_eq_false_iff, decide_eq_false_iff_not] at hk
            simp only [okByte, Bool.and_eq_true, decide_eq_true_eq]
            omega
          rw [this]
          simpa using ih (pos + 1) (by omega)
      · have h2 := decode_great hb (by omega)
        have hk : badRune (Utf8.decode s pos).1 = true := by simp only [badRune, Bool.or_eq_true, decide_eq_true_eq]; omega
        rw [hk]
        simp only [if_true]
        have : okByte b = false := by
          rw [Bool.eq_false_iff]
          intro h2
          simp only [okByte, Bool.and_eq_true, decide_eq_true_eq] at h2
          omega
        rw [this]
        simp
    · rw [if_neg hp, List.drop_eq_nil_of_le (by omega)]
      simp
theorem textS_eq (s : ByteArray) : textS s = isText s := by
  have h := idx_all s s.size 0 (by omega)
  rw [List.drop_zero] at h
  unfold textS isText Lib.idxFunc
  rw [Bool.eq_iff_iff]
  simp only [Bool.and_eq_true, decide_eq_true_eq, Bool.not_eq_true', decide_eq_false_iff_not]
  constructor
  · rintro ⟨h1, h2⟩; exact ⟨by omega, h.2 (by omega)⟩
  · rintro ⟨h1, h2⟩; have := h.1 h2; exact ⟨by omega, by omega⟩

theorem indexf_pure (s : ByteArray) : Pure Tryz.prog 202 [.str s, .fn (.func 164) [] []] (.int .i64 (Lib.idxFunc badRune true s)) := by
  refine Pure.of ⟨Tryz.f202, Tryz.func202, rfl, by kernel_rfl⟩ rfl (fun h => ?_)
  refine acalls_of te_ok [] Tryz.func202 (c := _) rfl (Nat.le_of_ble_eq_true rfl) ?_
  simp only [aws, eq_self, reduceIte, Nat.reduceLT, Tryz.ntmps202, Tryz.results202]
  refine ACallV.pure (index_pure s) ?_
  simp only [aws, eq_self, reduceIte, Nat.reduceLT, ares1]
  exact ⟨.refl _, _, rfl, rfl⟩
theorem contains_pure (s : ByteArray) : Pure Tryz.prog 163 [.str s, .fn (.func 164) [] []] (.bool (decide (Lib.idxFunc badRune true s ≥ 0))) := by
  refine Pure.of ⟨Tryz.f163, Tryz.func163, rfl, by kernel_rfl⟩ rfl (fun h => ?_)
  refine acalls_of te_ok [] Tryz.func163 (c := _) rfl (Nat.le_of_ble_eq_true rfl) ?_
  simp only [aws, eq_self, reduceIte, Nat.reduceLT, Tryz.ntmps163, Tryz.results163]
  refine ACallV.pure (indexf_pure s) ?_
  simp only [aws, eq_self, reduceIte, Nat.reduceLT, acmpnil, ares1]
  exact ⟨.refl _, _, rfl, rfl⟩
theorem text_pure (s : ByteArray) : Pure Tryz.prog 127 [.str s] (.bool (isText s)) := by
  rw [← textS_eq]
  refine Pure.of ⟨Tryz.f127, Tryz.func127, rfl, by kernel_rfl⟩ rfl (fun h => ?_)
  refine acalls_of te_ok [] Tryz.func127 (c := _) rfl (Nat.le_of_ble_eq_true rfl) ?_
  simp only [aws, eq_self, implies_true, reduceIte, Nat.reduceLT, acmpnil, teset, Tryz.ntmps127, Tryz.results127]
  cases hc : decide ((s.size : Int) ≤ 100) with
  | false => simp only [aws, eq_self, reduceIte, Nat.reduceLT, ares1]; exact ⟨.refl _, _, rfl, by unfold textS; rw [hc]; rfl⟩
  | true =>
    simp only [aws, eq_self, reduceIte, Nat.reduceLT]
    refine ACallV.pure (contains_pure s) ?_
    simp only [aws, eq_self, implies_true, reduceIte, Nat.reduceLT, ares1]
    exact ⟨.refl _, _, rfl, by unfold textS; rw [hc]; rfl⟩
end Go.Proofs.YtjdocenbfghglaaGreatDoor.AW
end
section
set_option linter.unusedSimpArgs false
set_option linter.unusedVariables false
namespace Go.Proofs.YtjdocenbfghglaaGreatDoor.AW
open Go Go.RowKit

theorem ACallV.det {P : Program} {f : FuncId} {first args cap al : List AV} {v : AV} {h h2 : AH} {dst : Option Nat} {s : AS} {k : AK} {Q : AQ} (hf : FOk P f) (he : first ++ args ++ cap = al) (hc : ACalls P f al h fun out h' => out = .ret v ∧ h' = h2) (hk : k (putD s dst v) h2 Q) :
    ACallV P (.fn (.func f) first cap) args h (callK dst s k Q) := by
  refine .inl ⟨hf, ?_⟩
  rw [he]
  refine hc.mono ?_
  rintro out h' ⟨rfl, rfl⟩
  exact hk
theorem AH.set_set (h : AH) (b : Nat) (x y : List AV) : (h.set b x).set b y = h.set b y := by
  unfold AH.set
  congr 1
  funext z
  simp only [upd]
  split <;> rfl
theorem AH.set_self (h : AH) {b : Nat} {x : List AV} (hb : h.box b = some x) : h.set b x = h := by
  unfold AH.set
  have : upd h.box b (some x) = h.box := by
    funext z
    simp only [upd]
    split
    · next e => rw [e, hb]
    · rfl
  rw [this]

/-- Counting through a list: where it fails, and the count. -/
def rightL (f : Nat → V → Bool × Nat) : Nat → List V → Nat → Int × Nat
  | n, [], _ => (-1, n)
  | n, x :: xs, i => if (f n x).1 = true then rightL f (f n x).2 xs (i + 1) else (i, (f n x).2)
def rightS : Nat → Nat → V → Bool × Nat
  | 0, n, _ => (false, n + 1)
  | L + 1, n, v => if n + 1 > 60 then (false, n + 1) else if shape v = true then (decide ((rightL (rightS L) (n + 1) v.items 0).1 < 0), (rightL (rightS L) (n + 1) v.items 0).2) else (false, n + 1)
def RightAt (L : Nat) (x : V) : Prop := ∀ (n b : Nat) (h : AH), n ≤ 60 → h.box b = some [.int .i64 n] → ACalls Tryz.prog 82 [inj x, .int .i64 L, .ptr b 0] h fun out h' => out = .ret (.bool (rightS L n x).1) ∧ h' = h.set b [.int .i64 (rightS L n x).2]

/-- A function that changes one old box, and else only makes new ones. -/
theorem ACalls.cutSet {P : Program} {f : FuncId} {args : List AV} {h : AH} {v : AV} {b : Nat} {c : List AV} (hv : v.under 0 0 = true) (hc : AV.underL 0 0 c = true)
    (hk : Scoped h → ∀ hb : b < h.nb, ACalls P f args h fun out h2 => out = .ret v ∧ ∃ h1, h.Ext h1 ∧ h2 = h1.set b c) (hb : ∃ x, h.box b = some x) : ACalls P f args h fun out h' => out = .ret v ∧ h' = h.set b c := by
  intro w0 m w args' h1 h2 hW
  have hs := hW.isScoped
  obtain ⟨x, hx⟩ := hb
  have hbn := hs.box b x hx
  refine (ACalls.cut (hk hs hbn) (fun hs out h2 ⟨e, h3, e3, e4⟩ => ?_)) w0 m w args' h1 h2 hW
  refine ⟨out, h.set b c, .inl rfl, ?_, ⟨rfl, rfl, fun z cs hz => ?_, fun t g ht => ?_⟩, e, rfl⟩
  · rw [e]; exact AV.under_mono hv
  · rw [e4]
    rw [set_box] at hz ⊢
    split at hz
    · next e5 =>
      injection hz with hz; subst hz
      rw [if_pos e5]
      exact ⟨rfl, .inr ⟨by rw [e5]; exact hbn, AV.underL_mono hc⟩⟩
    · next e5 =>
      rw [if_neg e5]
      exact ⟨(e3.box z (hs.box z cs hz)).trans hz, .inl hz⟩
  · rw [e4]
    exact ⟨(e3.tok t (hs.tok t g ht)).trans ht, hs.tok t g ht⟩

theorem closure_calls (L : Nat) (x : V) (ih : RightAt L x) (hL : L < 1000) (n b tl tn : Nat) (h : AH) (hn : n ≤ 60) (hb : h.box b = some [.int .i64 n]) (hl : h.box tl = some [.int .i64 ((L + 1 : Nat) : Int)]) (htn : h.box tn = some [.ptr b 0]) :
    ACalls Tryz.prog 129 [inj x, .ptr tl 0, .ptr tn 0] h fun out h' => out = .ret (.bool (!(rightS L n x).1)) ∧ h' = h.set b [.int .i64 (rightS L n x).2] := by
  refine ACalls.cutSet rfl rfl (fun hs hbn => ?_) ⟨_, hb⟩
  have h1 := hs.box _ _ hl
  have h2 := hs.box _ _ htn
  have ne1 : (b = h.nb) = False := by simp only [eq_iff_iff, iff_false]; omega
  have ne2 : (tl = h.nb) = False := by simp only [eq_iff_iff, iff_false]; omega
  have ne3 : (tn = h.nb) = False := by simp only [eq_iff_iff, iff_false]; omega
  have hw : IntKind.i64.wrap (((L + 1 : Nat) : Int) - 1) = (L : Int) := by rw [wrap_i64 (by omega) (by omega)]; omega
  refine acalls_of te_ok [] Tryz.func129 (c := _) rfl (Nat.le_of_ble_eq_true rfl) ?_
  simp only [aws, eq_self, reduceIte, Nat.reduceLT, Nat.reduceLeDiff, acmpnil, teset, Tryz.ntmps129, Tryz.results129, boxR, inj_take, inj_agg, inj_len, inj_one, hl, htn, ne2, ne3, hw]
  refine ACallV.det ⟨Tryz.f82, Tryz.func82, rfl, by kernel_rfl⟩ rfl (ih n b (h.new (inj x).cells) hn (by rw [new_box, if_neg (by omega)]; exact hb)) ?_
  simp only [aws, eq_self, reduceIte, Nat.reduceLT, ares1]
  exact ⟨h.new (inj x).cells, by (repeat (first | exact AH.Ext.refl _ | assumption | refine AH.Ext.set ?_ (by first | omega | (simp only [new_nb, set_nb, kill_nb, newTok_nb, setTok_nb]; omega)) _ | refine AH.Ext.new ?_ _)), rfl⟩

theorem rightL_le (f : Nat → V → Bool × Nat) (hf : ∀ n x, n ≤ 60 → (f n x).1 = true → (f n x).2 ≤ 60) : ∀ (xs : List V) (n i : Nat), n ≤ 60 → (rightL f n xs i).1 < 0 → (rightL f n xs i).2 ≤ 60 := by
  intro xs
  induction xs with
  | nil => intro n i hn _; exact hn
  | cons x xs ih =>
    intro n i hn h
    simp only [rightL] at h ⊢
    split
    · next h1 => rw [if_pos h1] at h; exact ih _ _ (hf n x hn h1) h
    · next h1 => rw [if_neg h1] at h; simp only at h; omega
theorem rightS_le : ∀ (L n : Nat) (v : V), (rightS L n v).1 = true → (rightS L n v).2 ≤ 60 := by
  intro L
  induction L with
  | zero => intro n v h; simp [rightS] at h
  | succ L ih =>
    intro n v h
    simp only [rightS] at h ⊢
    split
    · next h1 => rw [if_pos h1] at h; cases h
    · next h1 =>
      rw [if_neg h1] at h
      split
      · next h2 =>
        rw [if_pos h2] at h
        exact rightL_le _ (fun n x _ hx => ih n x hx) _ _ _ (by omega) (by simpa using h)
      · next h2 => rw [if_neg h2] at h; cases h

theorem indexfn_calls (L : Nat) (hL : L < 1000) (xs : List V) (ih : ∀ x ∈ xs, RightAt L x) (hlen : xs.length < 4611686018427387904) (n b tl tn : Nat) (h : AH) (hn : n ≤ 60) (hb : h.box b = some [.int .i64 n]) (hl : h.box tl = some [.int .i64 ((L + 1 : Nat) : Int)]) (htn : h.box tn = some [.ptr b 0]) (hne1 : tl ≠ b) (hne2 : tn ≠ b) :
    ACalls Tryz.prog 165 [.sl .ro 5 (xs.map inj), .fn (.func 129) [] [.ptr tl 0, .ptr tn 0]] h fun out h' => out = .ret (.int .i64 (rightL (rightS L) n xs 0).1) ∧ h' = h.set b [.int .i64 (rightL (rightS L) n xs 0).2] := by
  have eb : (tl = b) = False := by simp [hne1]
  have eb2 : (tn = b) = False := by simp [hne2]
  refine acalls_of te_ok [] Tryz.func165 (c := _) rfl (Nat.le_of_ble_eq_true rfl) ?_
  simp only [aws, eq_self, reduceIte, Nat.reduceLT, Int.reduceNeg, teset, Tryz.ntmps165, Tryz.results165, List.length_map]
  refine ⟨fun m s' h' => ∃ (j c : Nat), s' 0 = .sl .ro 5 (xs.map inj) ∧ s' 1 = .fn (.func 129) [] [.ptr tl 0, .ptr tn 0] ∧ s' 7 = .int .i64 xs.length ∧ s' 8 = .int .i64 j ∧ h' = h.set b [.int .i64 c] ∧ m + j = xs.length ∧ c ≤ 60 ∧ rightL (rightS L) c (xs.drop j) j = rightL (rightS L) n xs 0, ⟨xs.length, 0, n, ?_⟩, ?_⟩
  · simp only [aws, eq_self, reduceIte, Int.natCast_zero]
    exact ⟨(AH.set_self h hb).symm, hn⟩
  · rintro m s' h' ⟨j, c, e0, e1, e7, e8, hh, hm, hc60, hr⟩
    subst hh
    simp only [aws, eq_self, reduceIte, Nat.reduceLT, Int.reduceNeg, acmpnil, e7, e8]
    cases hc : decide ((j : Int) < (xs.length : Int)) with
    | false =>
      simp only [aws, eq_self, reduceIte, Nat.reduceLT, Int.reduceNeg, ares1]
      simp only [decide_eq_false_iff_not] at hc
      rw [← hr, List.drop_eq_nil_of_le (by omega)]
      exact ⟨rfl, rfl⟩
    | true =>
      simp only [decide_eq_true_eq] at hc
      have hj : j < xs.length := by omega
      have hget : (xs.map inj)[((j : Nat) : Int).toNat]? = some (inj xs[j]) := by simp [hj]
      simp only [aws, eq_self, reduceIte, reduceCtorEq, Nat.reduceLT, Nat.reduceLeDiff, Nat.reduceEqDiff, Int.reduceNeg, teset, e0, e1, e8, inj_take, inj_agg, inj_len, hget, Int.natCast_nonneg]
      refine ACallV.det ⟨Tryz.f129, Tryz.func129, rfl, by kernel_rfl⟩ rfl (closure_calls L xs[j] (ih _ (List.getElem_mem _)) hL c b tl tn (h.set b [.int .i64 c]) hc60 (by rw [set_box, if_pos rfl]) (by rw [set_box, if_neg hne1]; exact hl) (by rw [set_box, if_neg hne2]; exact htn)) ?_
      rw [AH.set_set]
      rw [List.drop_eq_getElem_cons hj, rightL] at hr
      have hle := rightS_le L c xs[j]
      cases hok : (rightS L c xs[j]).1 with
      | false =>
        simp only [aws, eq_self, reduceIte, Nat.reduceLT, Nat.reduceEqDiff, Int.reduceNeg, ares1]
        rw [hok] at hr
        rw [← hr]
        exact ⟨rfl, rfl⟩
      | true =>
        simp only [aws, eq_self, reduceIte, reduceCtorEq, Nat.reduceLT, Nat.reduceEqDiff, Int.reduceNeg, acmpnil, e0, e1, e7, e8]
        rw [hok, if_pos rfl] at hr
        exact ⟨m - 1, by omega, j + 1, _, by rw [wrap_succ (by omega)], rfl, by omega, hle hok, hr⟩
theorem containsfn_calls (L : Nat) (hL : L < 1000) (xs : List V) (ih : ∀ x ∈ xs, RightAt L x) (hlen : xs.length < 4611686018427387904) (n b tl tn : Nat) (h : AH) (hn : n ≤ 60) (hb : h.box b = some [.int .i64 n]) (hl : h.box tl = some [.int .i64 ((L + 1 : Nat) : Int)]) (htn : h.box tn = some [.ptr b 0]) (hne1 : tl ≠ b) (hne2 : tn ≠ b) :
    ACalls Tryz.prog 128 [.sl .ro 5 (xs.map inj), .fn (.func 129) [] [.ptr tl 0, .ptr tn 0]] h fun out h' => out = .ret (.bool (decide ((rightL (rightS L) n xs 0).1 ≥ 0))) ∧ h' = h.set b [.int .i64 (rightL (rightS L) n xs 0).2] := by
  refine acalls_of te_ok [] Tryz.func128 (c := _) rfl (Nat.le_of_ble_eq_true rfl) ?_
  simp only [aws, eq_self, reduceIte, Nat.reduceLT, Tryz.ntmps128, Tryz.results128]
  refine ACallV.det ⟨Tryz.f165, Tryz.func165, rfl, by kernel_rfl⟩ rfl (indexfn_calls L hL xs ih hlen n b tl tn h hn hb hl htn hne1 hne2) ?_
  simp only [aws, eq_self, reduceIte, Nat.reduceLT, acmpnil, ares1]
end Go.Proofs.YtjdocenbfghglaaGreatDoor.AW
end
section
set_option linter.unusedSimpArgs false
set_option linter.unusedVariables false
namespace Go.Proofs.YtjdocenbfghglaaGreatDoor.AW
open Go Go.RowKit

set_option maxHeartbeats 4000000 in
theorem right_calls : ∀ (L : Nat), L < 1000 → ∀ v : V, v.sm → RightAt L v := by
  intro L
  induction L with
  | zero =>
    intro _ v _ n b h hn hb
    refine ACalls.cutSet rfl rfl (fun hs hbn => ?_) ⟨_, hb⟩
    have ne1 : (b = h.nb) = False := by simp only [eq_iff_iff, iff_false]; omega
    have ne2 : (b = h.nb + 1) = False := by simp only [eq_iff_iff, iff_false]; omega
    have ne3 : (b = h.nb + 1 + 1) = False := by simp only [eq_iff_iff, iff_false]; omega
    have ne4 : (h.nb = b) = False := by simp only [eq_iff_iff, iff_false]; omega
    have ne5 : (h.nb + 1 = b) = False := by simp only [eq_iff_iff, iff_false]; omega
    have ne6 : (h.nb + 1 + 1 = b) = False := by simp only [eq_iff_iff, iff_false]; omega
    have hw : IntKind.i64.wrap ((n : Int) + 1) = ((n + 1 : Nat) : Int) := wrap_succ (by omega)
    refine acalls_of te_ok [18, 19, 20, 21] Tryz.func82 (c := _) rfl (Nat.le_of_ble_eq_true rfl) ?_
    simp only [aws, eq_self, implies_true, imp_self, reduceIte, Nat.reduceLT, Nat.reduceLeDiff, Nat.reduceEqDiff, Nat.reduceBEq, Int.reduceLT, Int.reduceNeg, acmpnil, storeB, ares1, teset, Tryz.ntmps82, Tryz.results82, boxR, inj_one, hb, ne1, ne2, ne3, ne5, ne6, hw, Int.natCast_zero]
    exact ⟨rfl, ((h.new (inj v).cells).new [.int .i64 0]).new [.ptr b 0], by (repeat (first | exact AH.Ext.refl _ | assumption | refine AH.Ext.set ?_ (by first | omega | (simp only [new_nb, set_nb, kill_nb, newTok_nb, setTok_nb]; omega)) _ | refine AH.Ext.new ?_ _)), rfl⟩
  | succ L ih =>
    intro hL v hsm n b h hn hb
    obtain ⟨k, i, t, xs, ks⟩ := v
    simp only [V.sm, V.smL_iff] at hsm
    obtain ⟨hxl, hkl, hxs⟩ := hsm
    rw [inj_mk]
    refine ACalls.cutSet rfl rfl (fun hs hbn => ?_) ⟨_, hb⟩
    have ne1 : (b = h.nb) = False := by simp only [eq_iff_iff, iff_false]; omega
    have ne2 : (b = h.nb + 1) = False := by simp only [eq_iff_iff, iff_false]; omega
    have ne3 : (b = h.nb + 1 + 1) = False := by simp only [eq_iff_iff, iff_false]; omega
    have ne4 : (h.nb = b) = False := by simp only [eq_iff_iff, iff_false]; omega
    have ne5 : (h.nb + 1 = b) = False := by simp only [eq_iff_iff, iff_false]; omega
    have ne6 : (h.nb + 1 + 1 = b) = False := by simp only [eq_iff_iff, iff_false]; omega
    have hw : IntKind.i64.wrap ((n : Int) + 1) = ((n + 1 : Nat) : Int) := wrap_succ (by omega)
    have hlev : decide (((L + 1 : Nat) : Int) < 1) = false := by simp; omega
    refine acalls_of te_ok [18, 19, 20, 21, 28, 29, 30, 31, 39, 40, 41, 44, 45, 46, 52, 53, 54, 55, 56, 57, 58, 59, 62, 63, 64, 70, 71, 72, 75, 76, 77, 80, 81, 82, 88, 89, 90, 142, 143, 144] Tryz.func82 (c := _) rfl (Nat.le_of_ble_eq_true rfl) ?_
    simp only [aws, eq_self, implies_true, reduceIte, Nat.reduceLT, Nat.reduceLeDiff, Nat.reduceEqDiff, Nat.reduceBEq, Int.reduceNeg, acmpnil, storeB, teset, Tryz.ntmps82, Tryz.results82, boxR, hb, ne1, ne2, ne3, ne5, ne6, hw, hlev]
    generalize hH : ((h.new [AV.int IntKind.i64 k, AV.int IntKind.i64 i, AV.str t, AV.sl Tag.ro 5 (List.map inj xs), AV.sl Tag.ro 1 (List.map AV.str ks)]).new [.int .i64 ((L + 1 : Nat) : Int)]).new [.ptr b 0] = H
    have g0 : H.box h.nb = some [AV.int IntKind.i64 k, AV.int IntKind.i64 i, AV.str t, AV.sl Tag.ro 5 (List.map inj xs), AV.sl Tag.ro 1 (List.map AV.str ks)] := by rw [← hH, new_box, if_neg (by simp only [new_nb]; omega), new_box, if_neg (by simp only [new_nb]; omega), new_box, if_pos rfl]
    have g1 : H.box (h.nb + 1) = some [.int .i64 ((L + 1 : Nat) : Int)] := by rw [← hH, new_box, if_neg (by simp only [new_nb]; omega), new_box, if_pos (by simp only [new_nb])]
    have g2 : H.box (h.nb + 1 + 1) = some [.ptr b 0] := by rw [← hH]; simp [new_box, new_nb]
    have hext : h.Ext H := by rw [← hH]; (repeat (first | exact AH.Ext.refl _ | assumption | refine AH.Ext.set ?_ (by first | omega | (simp only [new_nb, set_nb, kill_nb, newTok_nb, setTok_nb]; omega)) _ | refine AH.Ext.new ?_ _))
    have badfin : rightS (L + 1) n (.mk k i t xs ks) = (false, n + 1) → AOut.ret (.bool false) = .ret (.bool (rightS (L + 1) n (.mk k i t xs ks)).1) ∧ ∃ h1, h.Ext h1 ∧ H.set b [.int .i64 ((n + 1 : Nat) : Int)] = h1.set b [.int .i64 (rightS (L + 1) n (.mk k i t xs ks)).2] := by
      intro e; rw [e]; exact ⟨rfl, H, hext, rfl⟩
    by_cases hn60 : n + 1 > 60
    · have hq : decide (((n + 1 : Nat) : Int) > 60) = true := by simp; omega
      simp only [aws, eq_self, reduceIte, Nat.reduceLT, Nat.reduceEqDiff, Int.reduceNeg, ares1, hq]
      exact badfin (by simp only [rightS]; rw [if_pos hn60])
    have hq : decide (((n + 1 : Nat) : Int) > 60) = false := by simp; omega
    have hsp : rightS (L + 1) n (.mk k i t xs ks) = if shape (.mk k i t xs ks) = true then (decide ((rightL (rightS L) (n + 1) xs 0).1 < 0), (rightL (rightS L) (n + 1) xs 0).2) else (false, n + 1) := by simp only [rightS, V.items]; rw [if_neg hn60]; rfl
    have leaf : ∀ B : Bool, shape (.mk k i t xs ks) = B → (B = true → xs = []) → AOut.ret (.bool B) = .ret (.bool (rightS (L + 1) n (.mk k i t xs ks)).1) ∧ ∃ h1, h.Ext h1 ∧ H.set b [.int .i64 ((n + 1 : Nat) : Int)] = h1.set b [.int .i64 (rightS (L + 1) n (.mk k i t xs ks)).2] := by
      intro B e1 e2
      rw [hsp, e1]
      cases B with
      | false => exact ⟨rfl, H, hext, rfl⟩
      | true => rw [e2 rfl]; exact ⟨rfl, H, hext, rfl⟩
    simp only [aws, eq_self, implies_true, imp_self, reduceIte, Nat.reduceLT, Nat.reduceEqDiff, Nat.reduceBEq, Int.reduceNeg, acmpnil, teset, hq, List.length_map, g0, ne4]
    by_cases h0 : k = 0
    · have q0 : (k == 0) = true := by simp [h0]
      simp only [aws, eq_self, implies_true, imp_self, reduceIte, Nat.reduceLT, Nat.reduceEqDiff, Nat.reduceBEq, Int.reduceNeg, ares1, teset, q0, g0, ne4]
      refine leaf _ ?_ (fun hB => ?_)
      · subst h0
        rw [shape_0]
        simp only [plainS, V.int, V.text, V.items, V.keys, Bool.false_or]
        generalize ((xs.length : Int) == 0) = x1
        generalize ((ks.length : Int) == 0) = x2
        generalize (t.toList == (⟨#[]⟩ : ByteArray).toList) = x3
        cases x1 <;> cases x2 <;> cases x3 <;> simp
      · simp only [Bool.and_eq_true, beq_iff_eq] at hB
        exact List.eq_nil_of_length_eq_zero (by omega)
    have q0 : (k == 0) = false := by simp [h0]
    by_cases h1 : k = 1
    · have q1 : (k == 1) = true := by simp [h1]
      simp only [aws, eq_self, implies_true, imp_self, reduceIte, Nat.reduceLT, Nat.reduceEqDiff, Nat.reduceBEq, Int.reduceNeg, acmpnil, ares1, teset, q0, q1, g0, ne4]
      refine leaf _ ?_ (fun hB => ?_)
      · subst h1
        rw [shape_1]
        simp only [plainS, V.int, V.text, V.items, V.keys, Bool.false_or, Bool.true_or, Bool.true_and]
        generalize ((xs.length : Int) == 0) = x1
        generalize ((ks.length : Int) == 0) = x2
        generalize (t.toList == (⟨#[]⟩ : ByteArray).toList) = x3
        cases x1 <;> cases x2 <;> cases x3 <;> simp
      · simp only [Bool.and_eq_true, beq_iff_eq] at hB
        exact List.eq_nil_of_length_eq_zero (by omega)
    have q1 : (k == 1) = false := by simp [h1]
    by_cases h2 : k = 2
    · have q2 : (k == 2) = true := by simp [h2]
      simp only [aws, eq_self, implies_true, imp_self, reduceIte, Nat.reduceLT, Nat.reduceEqDiff, Nat.reduceBEq, Int.reduceNeg, acmpnil, ares1, teset, q0, q1, q2, g0, ne4]
      refine leaf _ ?_ (fun hB => ?_)
      · subst h2
        rw [shape_2]
        simp only [plainS, V.int, V.text, V.items, V.keys, Bool.false_or, Bool.true_or, Bool.true_and, ge_iff_le]
        generalize ((xs.length : Int) == 0) = x1
        generalize ((ks.length : Int) == 0) = x2
        generalize (t.toList == (⟨#[]⟩ : ByteArray).toList) = x3
        generalize decide (-1000000000000 ≤ i) = x4
        generalize decide (i ≤ 1000000000000) = x5
        cases x4 <;> cases x5 <;> cases x1 <;> cases x2 <;> cases x3 <;> simp
      · simp only [Bool.and_eq_true, beq_iff_eq] at hB
        exact List.eq_nil_of_length_eq_zero (by omega)
    have q2 : (k == 2) = false := by simp [h2]
    by_cases h3 : k = 3
    · have q3 : (k == 3) = true := by simp [h3]
      simp only [aws, eq_self, implies_true, imp_self, reduceIte, Nat.reduceLT, Nat.reduceEqDiff, Nat.reduceBEq, Int.reduceNeg, acmpnil, teset, q0, q1, q2, q3, g0, ne4]
      have hs3 : shape (.mk k i t xs ks) = (((xs.length : Int) == 0 && (ks.length : Int) == 0 && i == 0) && isText t) := by
        subst h3
        rw [shape_3]
        simp only [plainS, V.int, V.text, V.items, V.keys, Bool.false_or, Bool.true_or]
        generalize ((xs.length : Int) == 0) = x1
        generalize ((ks.length : Int) == 0) = x2
        generalize (i == 0) = x3
        cases x1 <;> cases x2 <;> cases x3 <;> simp
      cases hB : ((xs.length : Int) == 0 && (ks.length : Int) == 0 && i == 0) with
      | false =>
        simp only [aws, eq_self, reduceIte, Nat.reduceLT, Nat.reduceEqDiff, Nat.reduceBEq, ares1]
        exact leaf false (by rw [hs3, hB]; rfl) (fun e => by cases e)
      | true =>
        simp only [aws, eq_self, implies_true, reduceIte, Nat.reduceLT, Nat.reduceEqDiff, Nat.reduceBEq, teset, g0, ne4]
        refine ACallV.pure (text_pure t) ?_
        simp only [aws, eq_self, reduceIte, Nat.reduceLT, Nat.reduceEqDiff, ares1]
        refine leaf _ (by rw [hs3, hB]; rfl) (fun _ => ?_)
        simp only [Bool.and_eq_true, beq_iff_eq] at hB
        exact List.eq_nil_of_length_eq_zero (by omega)
    have q3 : (k == 3) = false := by simp [h3]
    by_cases h5 : k = 5
    · have q5 : (k == 5) = true := by simp [h5]
      simp only [aws, eq_self, reduceIte, Nat.reduceLT, Nat.reduceEqDiff, Int.reduceNeg, acmpnil, teset, q0, q1, q2, q3, q5, g0, ne4, List.length_map]
      have hs5 : shape (.mk k i t xs ks) = ((i == 0 && t.toList == (⟨#[]⟩ : ByteArray).toList) && (ks.length == xs.length && keysOk ks)) := by
        subst h5
        rw [shape_5]
        simp only [plainS, V.int, V.text, V.items, V.keys, Bool.false_or, Bool.true_or, Bool.and_true, Bool.and_assoc]
      cases hk : ((ks.length : Int) != (xs.length : Int)) with
      | true =>
        simp only [aws, eq_self, reduceIte, Nat.reduceLT, Nat.reduceEqDiff, ares1]
        have : (ks.length == xs.length) = false := by rw [beq_eq_false_iff_ne]; simp only [bne_iff_ne] at hk; omega
        exact badfin (by rw [hsp, hs5, this]; simp)
      | false =>
        have hkx : ks.length = xs.length := by simp only [bne_eq_false_iff_eq] at hk; omega
        simp only [aws, eq_self, reduceIte, Nat.reduceLT, Nat.reduceEqDiff, teset, g0, ne4, List.length_map]
        refine ⟨fun m s' h' => ∃ (j : Nat), s' 3 = .ptr h.nb 0 ∧ s' 4 = .ptr (h.nb + 1) 0 ∧ s' 5 = .ptr (h.nb + 1 + 1) 0 ∧ s' 107 = .sl .ro 1 (ks.map .str) ∧ s' 108 = .int .i64 ks.length ∧ s' 109 = .int .i64 j ∧ h' = H.set b [.int .i64 ((n + 1 : Nat) : Int)] ∧ m + j = ks.length ∧ (∀ j', j' < j → keyOk ks j' = true), ⟨ks.length, 0, ?_⟩, ?_⟩
        · simp only [aws, eq_self, reduceIte, Nat.reduceEqDiff, Int.natCast_zero]
          exact fun j' hj' => absurd hj' (Nat.not_lt_zero _)
        · rintro m s' h' ⟨j, e3, e4, e5, e107, e108, e109, hh, hm, hall⟩
          subst hh
          simp only [aws, eq_self, reduceIte, Nat.reduceLT, acmpnil, e108, e109]
          cases hc : decide ((j : Int) < (ks.length : Int)) with
          | false =>
            simp only [decide_eq_false_iff_not] at hc
            have hko : keysOk ks = true := by
              unfold keysOk
              rw [List.all_eq_true]
              intro j' hj'
              exact hall j' (by have := List.mem_range.1 hj'; omega)
            have hnoshape : (i == 0 && t.toList == (⟨#[]⟩ : ByteArray).toList) = false → shape (.mk k i t xs ks) = false := fun e => by rw [hs5, e]; rfl
            have hshape : (i == 0 && t.toList == (⟨#[]⟩ : ByteArray).toList) = true → shape (.mk k i t xs ks) = true := fun e => by rw [hs5, hko, hkx, e]; simp
            simp only [aws, eq_self, implies_true, imp_self, reduceIte, Nat.reduceLT, Nat.reduceEqDiff, Nat.reduceBEq, acmpnil, teset, e3, g0, ne4]
            cases hB : (i == 0 && t.toList == (⟨#[]⟩ : ByteArray).toList) with
            | false =>
              simp only [aws, eq_self, reduceIte, Nat.reduceLT, Nat.reduceEqDiff, Nat.reduceBEq, ares1]
              exact badfin (by rw [hsp, hnoshape hB]; rfl)
            | true =>
              simp only [aws, eq_self, implies_true, reduceIte, Nat.reduceLT, Nat.reduceEqDiff, Nat.reduceBEq, teset, e3, e4, e5, g0, ne4]
              refine ACallV.det ⟨Tryz.f128, Tryz.func128, rfl, by kernel_rfl⟩ rfl (containsfn_calls L (by omega) xs (fun x hx => ih (by omega) x (hxs x hx)) hxl (n + 1) b (h.nb + 1) (h.nb + 1 + 1) (H.set b [.int .i64 ((n + 1 : Nat) : Int)]) (by omega) (by rw [set_box, if_pos rfl]) (by rw [set_box, if_neg (by omega)]; exact g1) (by rw [set_box, if_neg (by omega)]; exact g2) (by omega) (by omega)) ?_
              simp only [aws, eq_self, implies_true, reduceIte, Nat.reduceLT, Nat.reduceEqDiff, Nat.reduceBEq, ares1]
              rw [AH.set_set, hsp, hshape hB]
              refine ⟨?_, H, hext, rfl⟩
              simp only [if_true]
              have : (!decide ((rightL (rightS L) (n + 1) xs 0).1 ≥ 0)) = decide ((rightL (rightS L) (n + 1) xs 0).1 < 0) := by
                rw [Bool.eq_iff_iff]; simp
              rw [this]
          | true =>
            simp only [decide_eq_true_eq] at hc
            have hj : j < ks.length := by omega
            have hget : (ks.map AV.str)[((j : Nat) : Int).toNat]? = some (.str ks[j]) := by simp [hj]
            have hgd : ks.getD j default = ks[j] := by simp [hj]
            have badkey : keyOk ks j = false → shape (.mk k i t xs ks) = false := by
              intro hk
              rw [hs5]
              have : keysOk ks = false := by
                rw [Bool.eq_false_iff]
                intro hq
                unfold keysOk at hq
                rw [List.all_eq_true] at hq
                have := hq j (List.mem_range.2 hj)
                rw [hk] at this; cases this
              rw [this]; simp
            simp only [aws, eq_self, reduceIte, Nat.reduceLT, Nat.reduceEqDiff, teset, e107, e109, hget, Int.natCast_nonneg]
            refine ACallV.pure (text_pure _) ?_
            cases hit : isText ks[j] with
            | false =>
              simp only [aws, eq_self, implies_true, imp_self, reduceIte, Nat.reduceLT, Nat.reduceEqDiff, Nat.reduceBEq, ares1, teset, e3, g0, ne4]
              exact badfin (by rw [hsp, badkey (by unfold keyOk; rw [hgd, hit]; rfl)]; rfl)
            | true =>
              cases j with
              | zero =>
                simp only [aws, eq_self, implies_true, imp_self, reduceIte, Nat.reduceLT, Nat.reduceEqDiff, Nat.reduceBEq, Int.reduceGT, Int.reduceAdd, acmpnil, teset, e3, e4, e5, e107, e108, e109, g0, ne4, Int.natCast_zero]
                have hok : keyOk ks 0 = true := by unfold keyOk; rw [hgd, hit]; rfl
                refine ⟨m - 1, by omega, 1, rfl, by omega, fun j' hj' => ?_⟩
                have : j' = 0 := by omega
                subst this; exact hok
              | succ j =>
                have hpos : decide ((((j + 1 : Nat) : Int)) > 0) = true := by simp
                have hw2 : IntKind.i64.wrap (((j + 1 : Nat) : Int) - 1) = (j : Int) := by rw [wrap_i64 (by omega) (by omega)]; omega
                have hget2 : (ks.map AV.str)[((j : Nat) : Int).toNat]? = some (.str ks[j]) := by simp
                have hgd2 : ks.getD j default = ks[j] := by simp [show j < ks.length by omega]
                have hko : keyOk ks (j + 1) = sless ks[j] ks[j + 1] := by
                  unfold keyOk
                  rw [hgd, hit, Nat.add_sub_cancel, hgd2]
                  simp
                simp only [aws, eq_self, implies_true, reduceIte, Nat.reduceLT, Nat.reduceEqDiff, Nat.reduceBEq, acmpnil, teset, e3, g0, ne4, hget2, hpos, hw2, Int.natCast_nonneg]
                cases hsl : Op.bytesLess ks[j].toList ks[j + 1].toList with
                | false =>
                  simp only [aws, eq_self, reduceIte, Nat.reduceLT, Nat.reduceEqDiff, ares1]
                  exact badfin (by rw [hsp, badkey (by rw [hko]; exact hsl)]; rfl)
                | true =>
                  simp only [aws, eq_self, reduceIte, Nat.reduceLT, Nat.reduceEqDiff, acmpnil, e3, e4, e5, e107, e108, e109]
                  refine ⟨m - 1, by omega, j + 1 + 1, by rw [wrap_succ (by omega)], by omega, fun j' hj' => ?_⟩
                  by_cases e : j' = j + 1
                  · subst e; rw [hko]; exact hsl
                  · exact hall j' (by omega)
    have q5 : (k == 5) = false := by simp [h5]
    by_cases h4 : k = 4
    · have q4 : (k == 4) = true := by simp [h4]
      simp only [aws, eq_self, reduceIte, Nat.reduceLT, Nat.reduceEqDiff, Int.reduceNeg, acmpnil, teset, q0, q1, q2, q3, q4, q5, g0, ne4, List.length_map]
      have hs4 : shape (.mk k i t xs ks) = ((ks.length : Int) == 0 && (i == 0 && t.toList == (⟨#[]⟩ : ByteArray).toList)) := by
        subst h4
        rw [shape_4]
        simp only [plainS, V.int, V.text, V.items, V.keys, Bool.false_or, Bool.true_or]
        generalize ((ks.length : Int) == 0) = x2
        generalize (i == 0) = x3
        cases x2 <;> cases x3 <;> simp
      cases hk : decide ((ks.length : Int) > 0) with
      | true =>
        simp only [aws, eq_self, reduceIte, Nat.reduceLT, Nat.reduceEqDiff, ares1]
        have : ((ks.length : Int) == 0) = false := by rw [beq_eq_false_iff_ne]; simp only [decide_eq_true_eq] at hk; omega
        exact badfin (by rw [hsp, hs4, this]; rfl)
      | false =>
        have hk0 : ((ks.length : Int) == 0) = true := by simp at hk ⊢; exact hk
        have hnoshape : (i == 0 && t.toList == (⟨#[]⟩ : ByteArray).toList) = false → shape (.mk k i t xs ks) = false := fun e => by rw [hs4, hk0, e]; rfl
        have hshape : (i == 0 && t.toList == (⟨#[]⟩ : ByteArray).toList) = true → shape (.mk k i t xs ks) = true := fun e => by rw [hs4, hk0, e]; rfl
        simp only [aws, eq_self, implies_true, imp_self, reduceIte, Nat.reduceLT, Nat.reduceEqDiff, Nat.reduceBEq, acmpnil, teset, g0, ne4]
        cases hB : (i == 0 && t.toList == (⟨#[]⟩ : ByteArray).toList) with
        | false =>
          simp only [aws, eq_self, reduceIte, Nat.reduceLT, Nat.reduceEqDiff, Nat.reduceBEq, ares1]
          exact badfin (by rw [hsp, hnoshape hB]; rfl)
        | true =>
          simp only [aws, eq_self, implies_true, reduceIte, Nat.reduceLT, Nat.reduceEqDiff, Nat.reduceBEq, teset, g0, ne4]
          refine ACallV.det ⟨Tryz.f128, Tryz.func128, rfl, by kernel_rfl⟩ rfl (containsfn_calls L (by omega) xs (fun x hx => ih (by omega) x (hxs x hx)) hxl (n + 1) b (h.nb + 1) (h.nb + 1 + 1) (H.set b [.int .i64 ((n + 1 : Nat) : Int)]) (by omega) (by rw [set_box, if_pos rfl]) (by rw [set_box, if_neg (by omega)]; exact g1) (by rw [set_box, if_neg (by omega)]; exact g2) (by omega) (by omega)) ?_
          simp only [aws, eq_self, implies_true, reduceIte, Nat.reduceLT, Nat.reduceEqDiff, Nat.reduceBEq, ares1]
          rw [AH.set_set, hsp, hshape hB]
          refine ⟨?_, H, hext, rfl⟩
          simp only [if_true]
          have : (!decide ((rightL (rightS L) (n + 1) xs 0).1 ≥ 0)) = decide ((rightL (rightS L) (n + 1) xs 0).1 < 0) := by
            rw [Bool.eq_iff_iff]; simp
          rw [this]
    · have q4 : (k == 4) = false := by simp [h4]
      simp only [aws, eq_self, reduceIte, Nat.reduceLT, Nat.reduceEqDiff, Int.reduceNeg, acmpnil, ares1, q0, q1, q2, q3, q4, q5]
      exact badfin (by rw [hsp, shape_x _ _ _ _ h0 h1 h2 h3 h4 h5]; rfl)
end Go.Proofs.YtjdocenbfghglaaGreatDoor.AW
end
section
set_option linter.unusedSimpArgs false
set_option linter.unusedVariables false
namespace Go.Proofs.YtjdocenbfghglaaGreatDoor.AW
open Go Go.RowKit

theorem nodesF_ge (f : V → Nat) : ∀ (xs : List V) (a : Nat), a ≤ 61 → a ≤ nodesF f a xs := by
  intro xs
  induction xs with
  | nil => intro a _; exact Nat.le_refl _
  | cons x xs ih =>
    intro a ha
    simp only [nodesF]
    split
    · exact ha
    · exact Nat.le_trans (Nat.le_add_right _ _) (ih _ (by omega))
theorem nodesF_many (f : V → Nat) (hf : ∀ x, 1 ≤ f x) : ∀ (xs : List V) (a : Nat), a ≤ 61 → min 61 (a + xs.length) ≤ nodesF f a xs := by
  intro xs
  induction xs with
  | nil => intro a ha; simp only [nodesF, List.length_nil]; omega
  | cons x xs ih =>
    intro a ha
    simp only [nodesF, List.length_cons]
    split
    · omega
    · have h1 := ih (a + f x) (by omega)
      have h2 := hf x
      omega
theorem nodesS_pos (L : Nat) (v : V) : 1 ≤ nodesS L v := by
  cases L with
  | zero => simp [nodesS]
  | succ L =>
    simp only [nodesS]
    split
    · omega
    · split
      · exact nodesF_ge _ _ _ (by omega)
      · omega
theorem rightL_eq (L : Nat) (ih : ∀ n x, n ≤ 60 → ((rightS L n x).1 = true ↔ n + nodesS L x ≤ 60) ∧ ((rightS L n x).1 = true → (rightS L n x).2 = n + nodesS L x)) :
    ∀ (xs : List V) (n a i : Nat), n + a ≤ 60 → ((rightL (rightS L) (n + a) xs i).1 < 0 ↔ n + nodesF (nodesS L) a xs ≤ 60) ∧ ((rightL (rightS L) (n + a) xs i).1 < 0 → (rightL (rightS L) (n + a) xs i).2 = n + nodesF (nodesS L) a xs) := by
  intro xs
  induction xs with
  | nil => intro n a i h; exact ⟨⟨fun _ => h, fun _ => by simp only [rightL]; omega⟩, fun _ => rfl⟩
  | cons x xs ihx =>
    intro n a i h
    obtain ⟨h1, h2⟩ := ih (n + a) x h
    simp only [rightL, nodesF]
    by_cases hok : n + a + nodesS L x ≤ 60
    · have ht : (rightS L (n + a) x).1 = true := h1.2 hok
      rw [if_pos ht, h2 ht, if_neg (by omega), Nat.add_assoc]
      exact ihx n (a + nodesS L x) (i + 1) (by omega)
    · have ht : ¬ (rightS L (n + a) x).1 = true := fun e => hok (h1.1 e)
      rw [if_neg ht]
      have hge : a + nodesS L x ≤ 60 → a + nodesS L x ≤ nodesF (nodesS L) (a + nodesS L x) xs := fun h => nodesF_ge _ _ _ (by omega)
      constructor
      · constructor
        · intro hx; simp only at hx; omega
        · intro hx
          split at hx
          · omega
          · have := hge (by omega); omega
      · intro hx; simp only at hx; omega
theorem right_eq : ∀ (L n : Nat) (v : V), n ≤ 60 → ((rightS L n v).1 = true ↔ n + nodesS L v ≤ 60) ∧ ((rightS L n v).1 = true → (rightS L n v).2 = n + nodesS L v) := by
  intro L
  induction L with
  | zero => intro n v h; simp only [rightS, nodesS]; exact ⟨⟨fun e => (by cases e), fun e => (by omega)⟩, fun e => (by cases e)⟩
  | succ L ih =>
    intro n v h
    have hpos := nodesS_pos (L + 1) v
    simp only [rightS]
    by_cases h1 : n + 1 > 60
    · rw [if_pos h1]
      exact ⟨⟨fun e => (by cases e), fun e => by omega⟩, fun e => (by cases e)⟩
    · rw [if_neg h1]
      have hN : nodesS (L + 1) v = if v.items.length > 60 then 61 else if shape v then nodesF (nodesS L) 1 v.items else 61 := rfl
      generalize nodesS (L + 1) v = N at *
      by_cases hs : shape v = true
      · rw [if_pos hs]
        rw [if_pos hs] at hN
        obtain ⟨g1, g2⟩ := rightL_eq L (fun n x hn => ih n x hn) v.items n 1 0 (by omega)
        have hm := nodesF_many (nodesS L) (nodesS_pos L) v.items 1 (by omega)
        by_cases hl : v.items.length > 60
        · rw [if_pos hl] at hN
          have : ¬ (rightL (rightS L) (n + 1) v.items 0).1 < 0 := by rw [g1]; omega
          simp only [decide_eq_true_eq]
          exact ⟨⟨fun e => absurd e this, fun e => by omega⟩, fun e => absurd e this⟩
        · rw [if_neg hl] at hN
          subst hN
          simp only [decide_eq_true_eq]
          exact ⟨g1, g2⟩
      · rw [if_neg hs]
        rw [if_neg hs] at hN
        have : N = 61 := by rw [hN]; split <;> rfl
        exact ⟨⟨fun e => (by cases e), fun e => by omega⟩, fun e => (by cases e)⟩
theorem valid_eq (v : V) : (rightS 6 0 v).1 = valid v := by
  rw [Bool.eq_iff_iff, (right_eq 6 0 v (by omega)).1]; unfold valid; rw [Nat.zero_add, decide_eq_true_eq]

theorem pvalid_pure (v : V) (hv : v.sm) : Pure Tryz.prog 40 [inj v] (.bool (valid v)) := by
  refine Pure.ofW ⟨Tryz.f40, Tryz.func40, rfl, by kernel_rfl⟩ rfl (fun h hsc => ?_)
  refine acalls_of te_ok [] Tryz.func40 (c := _) rfl (Nat.le_of_ble_eq_true rfl) ?_
  simp only [aws, eq_self, reduceIte, Nat.reduceLT, Nat.reduceLeDiff, storeB, teset, Tryz.ntmps40, Tryz.results40, boxR, inj_take, inj_agg, inj_len, inj_one]
  have hr := right_calls 6 (by omega) v hv 0 (h.nb + 1) (((h.new (inj v).cells).new [.int .i64 0]).set (h.nb + 1) [.int .i64 0]) (by omega) (by rw [set_box, if_pos rfl]; rfl)
  refine ACallV.det ⟨Tryz.f82, Tryz.func82, rfl, by kernel_rfl⟩ rfl hr ?_
  simp only [aws, eq_self, reduceIte, Nat.reduceLT, ares1]
  exact ⟨by (repeat (first | exact AH.Ext.refl _ | assumption | refine AH.Ext.set ?_ (by first | omega | (simp only [new_nb, set_nb, kill_nb, newTok_nb, setTok_nb]; omega)) _ | refine AH.Ext.new ?_ _)), _, rfl, by rw [valid_eq]; exact .refl _⟩
end Go.Proofs.YtjdocenbfghglaaGreatDoor.AW
end
section
set_option linter.unusedSimpArgs false
set_option linter.unusedVariables false
namespace Go.Proofs.YtjdocenbfghglaaGreatDoor.AW
open Go Go.RowKit

theorem wk_nil5 : Wk (.sl .full 0 []) (.sl .ro 5 []) := .nil (by intro a b e; cases e)
theorem wk_nil1 : Wk (.sl .full 0 []) (.sl .ro 1 []) := .nil (by intro a b e; cases e)
end Go.Proofs.YtjdocenbfghglaaGreatDoor.AW
end
section
set_option linter.unusedSimpArgs false
set_option linter.unusedVariables false
namespace Go.Proofs.YtjdocenbfghglaaGreatDoor.AW
open Go Go.RowKit

theorem range0 : List.range 0 = [] := rfl
theorem range1 : List.range 1 = [0] := rfl
theorem range2 : List.range 2 = [0, 1] := rfl
theorem Wk.ro {tag : Tag} {sz : Nat} {xs : List AV} : Wk (.sl tag sz xs) (.sl .ro sz xs) := by
  intro m c h
  cases h with
  | slnil => exact .slnil _ _ (by intro a b e; cases e)
  | slemp _ _ a hz _ => exact .slemp _ _ a hz (by intro a b e; cases e)
  | sl _ _ _ blk o cap f h1 h2 h3 h4 h5 h6 => exact .sl .ro sz xs blk o cap f h1 h2 h3 h4 h5 trivial
theorem AH.Ext.newTok' (h : AH) : h.Ext h.newTok := (AH.Ext.refl h).newTok
theorem clonestr_pure (ks : List ByteArray) (hl : ks.length < 4611686018427) : Pure Tryz.prog 86 [.sl .ro 1 (ks.map .str)] (.sl .ro 1 (ks.map .str)) := by
  refine Pure.ofW ⟨Tryz.f86, Tryz.func86, rfl, by kernel_rfl⟩ ?_ (fun h hsc => ?_)
  · have := inj_under (.mk 0 0 ⟨#[]⟩ [] ks)
    simp only [inj_mk, AV.under, AV.underL, Bool.and_true, Bool.true_and, List.map_nil] at this
    exact this
  · cases ks with
    | nil =>
      refine acalls_of te_ok [] Tryz.func86 (c := _) rfl (Nat.le_of_ble_eq_true rfl) ?_
      simp only [aws, eq_self, reduceIte, Nat.reduceLT, Nat.reduceLeDiff, Nat.reduceMul, acmpnil, appBox, ares1, appendTo, teset, Tryz.ntmps86, Tryz.results86, eqnil, List.isEmpty_nil, range0]
      exact ⟨⟨.refl _, _, rfl, wk_nil1⟩, .refl _, _, rfl, .ro⟩
    | cons k ks =>
      have hb : (ks.length + 1) * 16 ≤ 140737488355328 := by simp only [List.length_cons] at hl; omega
      refine acalls_of te_ok [] Tryz.func86 (c := _) rfl (Nat.le_of_ble_eq_true rfl) ?_
      simp only [aws, eq_self, reduceIte, reduceCtorEq, Nat.reduceLT, Nat.reduceLeDiff, Nat.reduceMul, acmpnil, appBox, ares1, appendTo, teset, Tryz.ntmps86, Tryz.results86, eqnil, List.isEmpty_cons, range0, List.length_map, hb]
      exact .inl ⟨.newTok' _, _, rfl, .ro⟩
end Go.Proofs.YtjdocenbfghglaaGreatDoor.AW
end
section
set_option linter.unusedSimpArgs false
set_option linter.unusedVariables false
namespace Go.Proofs.YtjdocenbfghglaaGreatDoor.AW
open Go Go.RowKit

theorem ACalls.wkOut {P : Program} {f : FuncId} {args : List AV} {h : AH} {R R' : AOut → AH → Prop} (hc : ACalls P f args h R') (hr : ∀ out h', R' out h' → ∃ u v, out = .ret u ∧ Wk u v ∧ R (.ret v) h') : ACalls P f args h R := by
  intro w0 m w cs h1 h2 hW
  refine (hc w0 m w cs h1 h2 hW).mono ?_
  rintro e w' ⟨m', out, h', q1, q2, q3, q4⟩
  obtain ⟨u, v, rfl, hw, hR⟩ := hr out h' q4
  refine ⟨m', .ret v, h', q1, ?_, q3, hR⟩
  cases e with
  | returned c => exact hw _ _ q2
  | panicked c => exact q2.elim
  | outgrown => exact q2.elim

theorem clonevals_calls (xs : List V) (hl : xs.length < 1000000) (h : AH) : ACalls Tryz.prog 88 [.sl .ro 5 (xs.map inj)] h fun out h' =>
    (xs = [] ∧ out = .ret (.sl .ro 5 []) ∧ h' = h) ∨ (xs ≠ [] ∧ out = .ret (.ms h.nb 0 xs.length 5) ∧ h' = h.new ((xs.map inj).flatMap AV.cells)) := by
  cases xs with
  | nil =>
    refine ACalls.wkOut (R' := fun out h' => (out = .ret (.sl .full 0 []) ∨ out = .ret (.sl .full 5 [])) ∧ h' = h) ?_ ?_
    · refine acalls_of te_ok [] Tryz.func88 (c := _) rfl (Nat.le_of_ble_eq_true rfl) ?_
      simp only [aws, eq_self, reduceIte, Nat.reduceLT, Nat.reduceLeDiff, Nat.reduceMul, acmpnil, appBox, ares1, appendTo, teset, Tryz.ntmps88, Tryz.results88, eqnil, List.isEmpty_nil, range0]
    · rintro out h' ⟨rfl | rfl, rfl⟩
      · exact ⟨_, _, rfl, wk_nil5, .inl ⟨rfl, rfl, rfl⟩⟩
      · exact ⟨_, _, rfl, .ro, .inl ⟨rfl, rfl, rfl⟩⟩
  | cons x xs =>
    have hb : (xs.length + 1) * 80 ≤ 140737488355328 := by simp only [List.length_cons] at hl; omega
    refine acalls_of te_ok [] Tryz.func88 (c := _) rfl (Nat.le_of_ble_eq_true rfl) ?_
    simp only [aws, ne_eq, eq_self, reduceIte, reduceCtorEq, Nat.reduceLT, Nat.reduceLeDiff, Nat.reduceMul, acmpnil, appBox, ares1, appendTo, teset, Tryz.ntmps88, Tryz.results88, eqnil, List.isEmpty_cons, range0, List.length_map, hb]
end Go.Proofs.YtjdocenbfghglaaGreatDoor.AW
end
section
set_option linter.unusedSimpArgs false
set_option linter.unusedVariables false
namespace Go.Proofs.YtjdocenbfghglaaGreatDoor.AW
open Go Go.RowKit

theorem cells_split : ∀ (xs : List V) (j : Nat) (hj : j < xs.length), ∃ pre post, (xs.map inj).flatMap AV.cells = pre ++ (inj xs[j]).cells ++ post ∧ pre.length = j * 5 := by
  intro xs
  induction xs with
  | nil => intro j hj; simp at hj
  | cons x xs ih =>
    intro j hj
    cases j with
    | zero => exact ⟨[], (xs.map inj).flatMap AV.cells, by simp, by simp⟩
    | succ j =>
      obtain ⟨pre, post, h1, h2⟩ := ih j (by simpa using hj)
      refine ⟨(inj x).cells ++ pre, post, ?_, ?_⟩
      · simp only [List.map_cons, List.flatMap_cons, h1, List.getElem_cons_succ, List.append_assoc]
      · rw [List.length_append, inj_len, h2]; omega
theorem cells_drop (xs : List V) {j : Nat} (hj : j < xs.length) : ∃ post, List.drop (j * 5) ((xs.map inj).flatMap AV.cells) = (inj xs[j]).cells ++ post := by
  obtain ⟨pre, post, h1, h2⟩ := cells_split xs j hj
  refine ⟨post, ?_⟩
  rw [h1, ← h2]; simp
theorem cells_store (xs : List V) {j : Nat} (hj : j < xs.length) : List.take (j * 5) ((xs.map inj).flatMap AV.cells) ++ (inj xs[j]).cells ++ List.drop (j * 5 + 5) ((xs.map inj).flatMap AV.cells) = (xs.map inj).flatMap AV.cells := by
  obtain ⟨pre, post, h1, h2⟩ := cells_split xs j hj
  rw [h1, ← h2]
  have : pre.length + 5 = (pre ++ (inj xs[j]).cells).length := by rw [List.length_append, inj_len]
  rw [this]
  simp
theorem cells_len (xs : List V) : ((xs.map inj).flatMap AV.cells).length = xs.length * 5 := by
  induction xs with
  | nil => rfl
  | cons x xs ih => rw [List.map_cons, List.flatMap_cons, List.length_append, inj_len, ih, List.length_cons]; omega
end Go.Proofs.YtjdocenbfghglaaGreatDoor.AW
end
section
set_option linter.unusedSimpArgs false
set_option linter.unusedVariables false
namespace Go.Proofs.YtjdocenbfghglaaGreatDoor.AW
open Go Go.RowKit

mutual
/-- Not great in any place. -/
def V.tin : V → Prop
  | .mk _ _ _ xs ks => xs.length < 10000 ∧ ks.length < 10000 ∧ V.tinL xs
def V.tinL : List V → Prop
  | [] => True
  | x :: xs => x.tin ∧ V.tinL xs
end
theorem V.tinL_iff {xs : List V} : V.tinL xs ↔ ∀ x ∈ xs, x.tin := by
  induction xs with
  | nil => simp [V.tinL]
  | cons x xs ih => simp [V.tinL, ih]
theorem Vok.tin {v : V} (h : Vok v) : v.tin := by
  induction v using V.ind with
  | h k i t xs ks ih =>
    have h1 := h.shape.2
    have h2 := h.keys.2
    simp only [V.items, V.keys] at h1 h2
    simp only [V.tin, V.tinL_iff]
    exact ⟨by omega, by omega, fun x hx => ih x hx (h.items x hx)⟩
theorem clone_tin : ∀ v : V, v.tin → Pure Tryz.prog 45 [inj v] (inj v) := by
  intro v
  induction v using V.ind with
  | h k i t xs ks ih =>
    intro hv
    simp only [V.tin, V.tinL_iff] at hv
    have hx60 := hv.1
    have hk60 := hv.2.1
    have hvi := hv.2.2
    have hcl := clonestr_pure ks (by omega)
    have hu := inj_under (.mk k i t xs ks)
    rw [inj_mk] at hu ⊢
    refine Pure.of0 ⟨Tryz.f45, Tryz.func45, rfl, by kernel_rfl⟩ (by simpa [AV.underL] using hu) hu ?_
    refine acalls_of te_ok [] Tryz.func45 (c := _) rfl (Nat.le_of_ble_eq_true rfl) ?_
    simp only [aws, eq_self, reduceIte, Nat.reduceLT, teset, Tryz.ntmps45, Tryz.results45, boxR]
    refine ACallV.pure hcl ?_
    simp only [aws, eq_self, reduceIte, Nat.reduceAdd, Nat.reduceLT, Nat.reduceLeDiff, Nat.reduceEqDiff, storeB, teset]
    refine ACallV.mono ?_ (ACallV.of ⟨Tryz.f88, Tryz.func88, rfl, by kernel_rfl⟩ (clonevals_calls xs (by omega) _))
    rintro out h' (⟨rfl, rfl, rfl⟩ | ⟨hne, rfl, rfl⟩)
    · simp only [aws, eq_self, reduceIte, Nat.reduceLT, Nat.reduceEqDiff, teset]
      refine ⟨fun n s' h' => s' 1 = .ptr 0 0 ∧ s' 2 = .ptr 1 0 ∧ s' 3 = .sl .ro 5 [] ∧ s' 14 = .int .i64 0 ∧ s' 15 = .int .i64 0 ∧ h'.box 0 = some [.int .i64 k, .int .i64 i, .str t, .sl .ro 5 [], .sl .ro 1 (ks.map .str)] ∧ h'.box 1 = some [.int .i64 0, .int .i64 0, .str ⟨#[]⟩, .sl .full 0 [], .sl .full 0 []], ⟨0, ?_⟩, ?_⟩
      · simp only [aws, eq_self, reduceIte, Nat.reduceEqDiff, Int.natCast_zero]
      · rintro n s' h' ⟨e1, e2, e3, e14, e15, b1, b2⟩
        simp only [aws, eq_self, reduceIte, Nat.reduceAdd, Nat.reduceLT, Nat.reduceLeDiff, Nat.reduceEqDiff, Int.reduceLT, acmpnil, storeB, ares1, teset, e1, e2, e3, e14, e15, b1, b2]
        exact ⟨_, rfl, .refl _ _⟩
    · simp only [aws, eq_self, reduceIte, Nat.reduceAdd, Nat.reduceLT, Nat.reduceEqDiff, teset]
      refine ⟨fun n s' h' => ∃ (j : Nat), s' 1 = .ptr 0 0 ∧ s' 2 = .ptr 1 0 ∧ s' 3 = .ms 2 0 xs.length 5 ∧ s' 13 = .ms 2 0 xs.length 5 ∧ s' 14 = .int .i64 xs.length ∧ s' 15 = .int .i64 j ∧ n + j = xs.length ∧ 3 ≤ h'.nb ∧ h'.box 0 = some [.int .i64 k, .int .i64 i, .str t, .sl .ro 5 (xs.map inj), .sl .ro 1 (ks.map .str)] ∧ h'.box 1 = some [.int .i64 0, .int .i64 0, .str ⟨#[]⟩, .sl .full 0 [], .sl .full 0 []] ∧ h'.box 2 = some ((xs.map inj).flatMap AV.cells), ⟨xs.length, 0, ?_⟩, ?_⟩
      · simp only [aws, eq_self, reduceIte, Nat.reduceAdd, Nat.reduceLeDiff, Nat.reduceEqDiff, Int.natCast_zero]
      · rintro n s' h' ⟨j, e1, e2, e3, e13, e14, e15, hn, hnb, b1, b2, b3⟩
        have ne1 : (0 = h'.nb) = False := by simp only [eq_iff_iff, iff_false]; omega
        have ne2 : (1 = h'.nb) = False := by simp only [eq_iff_iff, iff_false]; omega
        have ne3 : (2 = h'.nb) = False := by simp only [eq_iff_iff, iff_false]; omega
        simp only [aws, eq_self, reduceIte, Nat.reduceLT, acmpnil, e14, e15]
        cases hc : decide ((j : Int) < (xs.length : Int)) with
        | false =>
          simp only [aws, eq_self, reduceIte, Nat.reduceAdd, Nat.reduceLT, Nat.reduceLeDiff, Nat.reduceEqDiff, storeB, ares1, teset, e1, e2, e3, b1, b2]
          refine ⟨_, rfl, To0All.agg (.cons (.refl _ _) (.cons (.refl _ _) (.cons (.refl _ _) (.cons ?_ (.cons (.refl _ _) .nil)))))⟩
          have hms := To0.ms (h := (h'.set 0 [AV.int IntKind.i64 k, AV.int IntKind.i64 i, AV.str t, AV.ms 2 0 xs.length 5, AV.sl Tag.ro 1 (ks.map .str)]).set 1 [AV.int IntKind.i64 k, AV.int IntKind.i64 i, AV.str t, AV.ms 2 0 xs.length 5, AV.sl Tag.ro 1 (ks.map .str)]) (b := 2) (sz := 5) (xs := xs.map inj) (rest := [])
            (by rw [set_box, if_neg (by omega), set_box, if_neg (by omega), List.append_nil]; exact b3)
            (fun i x hi => by
              rw [List.getElem?_map] at hi
              cases hx : xs[i]? with
              | none => rw [hx] at hi; cases hi
              | some y => rw [hx] at hi; injection hi with hi; subst hi; exact inj_len y) (by omega) (by simpa using hne)
          rwa [List.length_map] at hms
        | true =>
          simp only [decide_eq_true_eq] at hc
          have hj : j < xs.length := by omega
          obtain ⟨post, hdrop⟩ := cells_drop xs hj
          have hstore := cells_store xs hj
          have htk : List.take 5 ((inj xs[j]).cells ++ post) = (inj xs[j]).cells := by
            have := inj_len xs[j]
            rw [List.take_append_of_le_length (by omega), inj_take]
          have h5 : 5 ≤ ((inj xs[j]).cells ++ post).length := by rw [List.length_append, inj_len]; omega
          simp only [aws, eq_self, reduceIte, Nat.reduceAdd, Nat.reduceLT, Nat.reduceLeDiff, Nat.reduceEqDiff, storeB, teset, e3, e13, e15, b3, inj_take, inj_agg, inj_len, inj_one, hc, Int.natCast_nonneg, Int.toNat_natCast, hdrop, htk, h5]
          have hmem : xs[j] ∈ xs := List.getElem_mem _
          have hfit : j * 5 + 5 ≤ ((xs.map inj).flatMap AV.cells).length := by rw [cells_len]; omega
          refine ACallV.pure (ih xs[j] hmem (hvi _ hmem)) ?_
          simp only [aws, eq_self, reduceIte, Nat.reduceLT, Nat.reduceLeDiff, Nat.reduceEqDiff, acmpnil, storeB, teset, e1, e2, e3, e13, e14, e15, b1, b2, b3, inj_len, inj_one, hc, Int.natCast_nonneg, Int.toNat_natCast, ne1, ne2, ne3, hfit, hstore]
          exact ⟨n - 1, by omega, j + 1, by rw [wrap_succ (by omega)], by omega, by omega⟩
theorem clone_pure (v : V) (hv : Vok v) : Pure Tryz.prog 45 [inj v] (inj v) := clone_tin v hv.tin
end Go.Proofs.YtjdocenbfghglaaGreatDoor.AW
end
section
set_option linter.unusedSimpArgs false
set_option linter.unusedVariables false
namespace Go.Proofs.YtjdocenbfghglaaGreatDoor.AW
open Go Go.RowKit

theorem zero_ok : Vok zeroV := by
  refine ⟨1, ?_⟩
  show (if (0 : Nat) > 60 then 61 else if shape zeroV = true then 1 else 61) ≤ 60
  have : shape zeroV = true := by unfold zeroV; rw [shape_0]; simp [plainS, V.int, V.text, V.items, V.keys]
  rw [this]; decide
theorem injS_under (p : List Stp) : AV.underL 0 0 (p.map injS) = true := by
  induction p with
  | nil => rfl
  | cons s p ih => simp [AV.underL, injS, AV.under, ih]
theorem valid_ok {v : V} (h : valid v = true) : Vok v := ⟨6, by simpa [valid] using h⟩
end Go.Proofs.YtjdocenbfghglaaGreatDoor.AW
end
section
set_option linter.unusedSimpArgs false
set_option linter.unusedVariables false
namespace Go.Proofs.YtjdocenbfghglaaGreatDoor.AW
open Go Go.RowKit

theorem ovl_ext {t tR : Nat} {fi : FuncId} {fn : Func} {tag : Tag} {sz sz' b o n c e s1 b1 : Nat} {z1 : List ZC} {ei : TI} {xs cs : List AV} {h : AH} {R : AOut → AH → Prop} (hi : te t = some ⟨.slice e, s1, b1, z1⟩) (hei : te e = some ei)
    (hf : Tryz.prog.funcs[fi]? = some fn) (hname : (fn.name == "runtime.NumGoroutine") = false) (hbd : fn.body.isNone = true) (hn : Extern.findNext fn = none) (he : Extern.find fn = some (Extern.SlicesOverlaps.overlaps #[t, t] #[tR]))
    (hne : xs ≠ []) (hb : h.box b = some cs) (hR : R (.ret (.bool false)) h) : AExt Tryz.prog fi [.sl tag sz xs, .mc b o n c sz'] h R := by
  refine ⟨_, fun w0 m w args' h1 h2 hW => ?_, hR⟩
  have e0 := h2 0 _ rfl
  have e1 := h2 1 _ rfl
  have hargs : args' = #[args'.getD 0 undef, args'.getD 1 undef] := by
    apply Array.ext_getElem?
    intro i
    match i with
    | 0 => rw [Array.getElem?_eq_getElem (by simp at h1; omega)]; simp [Array.getD_eq_getD_getElem?, Array.getElem?_eq_getElem (show 0 < args'.size by simp at h1; omega)]
    | 1 => rw [Array.getElem?_eq_getElem (by simp at h1; omega)]; simp [Array.getD_eq_getD_getElem?, Array.getElem?_eq_getElem (show 1 < args'.size by simp at h1; omega)]
    | i + 2 => rw [Array.getElem?_eq_none (by simp at h1; omega), Array.getElem?_eq_none (by simp)]
  refine ⟨.bool false, ?_, .bool _⟩
  rw [run_callFunc_extern hf hname hbd hn he, hargs, overlaps_false rfl te_ok hW hi hei hne hb e0 e1]
  rfl
end Go.Proofs.YtjdocenbfghglaaGreatDoor.AW
end
section
set_option linter.unusedSimpArgs false
set_option linter.unusedVariables false
namespace Go.Proofs.YtjdocenbfghglaaGreatDoor.AW
open Go Go.RowKit

set_option maxHeartbeats 2000000 in
set_option maxRecDepth 20000 in
theorem insvals_calls (xs : List AV) (y : AV) (i : Nat) (hx : ∀ x ∈ xs, x.cells.length = 5) (hy : y.cells.length = 5) (hyo : y.cells.all AV.one = true) (hux : AV.underL 0 0 xs = true) (huy : y.under 0 0 = true) (hl : xs.length < 1000000) (hi : i ≤ xs.length) (h : AH) (b : Nat) (hb : h.box b = some (xs.flatMap AV.cells)) (hbn : b < h.nb) :
    ACalls Tryz.prog 87 [.ms b 0 xs.length 5, .int .i64 i, .sl .full 5 [y]] h fun out h' => out = .ret (.sl .ro 5 (xs.take i ++ y :: xs.drop i)) ∧ h' = h.kill b := by
  have hylen : (xs.take i ++ y :: xs.drop i).length = xs.length + 1 := by simp; omega
  obtain ⟨hS, hSl, hSr⟩ := flatCells_split hx i hi
  have hC := flatCells_len hx
  refine ACalls.give (by omega) (by simp) (fun x hm => ?_) ?_ ?_
  · rcases List.mem_append.1 hm with h1 | h1
    · exact hx x (List.mem_of_mem_take h1)
    · rcases List.mem_cons.1 h1 with rfl | h1
      · exact hy
      · exact hx x (List.mem_of_mem_drop h1)
  · refine underL_iff.2 fun j c hj => ?_
    rcases List.mem_append.1 (List.mem_of_getElem? hj) with h1 | h1
    · obtain ⟨k, hk⟩ := List.mem_iff_getElem?.1 (List.mem_of_mem_take h1); exact underL_iff.1 hux k c hk
    · rcases List.mem_cons.1 h1 with rfl | h1
      · exact huy
      · obtain ⟨k, hk⟩ := List.mem_iff_getElem?.1 (List.mem_of_mem_drop h1); exact underL_iff.1 hux k c hk
  refine ACalls.opn hb fun c d hc hcd => ?_
  rw [hC] at hcd
  have nat1 : ((1 : Nat) : Int) = 1 := rfl
  have hfit : c * 5 ≤ (xs.flatMap AV.cells ++ deads d).length := by rw [List.length_append, hC, deads_length]; omega
  have hb1 : (xs.length + 1) * 80 ≤ 140737488355328 := by omega
  have hbne : (b = h.nb) = False := by simp only [eq_iff_iff, iff_false]; omega
  have hys : (xs.take i ++ y :: xs.drop i).flatMap AV.cells = (xs.take i).flatMap AV.cells ++ (y.cells ++ (xs.drop i).flatMap AV.cells) := by rw [List.flatMap_append, List.flatMap_cons]
  have hY : List.flatMap AV.cells [y] = y.cells := by simp
  by_cases hin : i = xs.length
  · have hti : xs.take i = xs := by rw [hin, List.take_length]
    have hdi : (xs.drop i) = [] := by rw [hin, List.drop_length]
    have e1 : ((i : Int) == (xs.length : Int)) = true := by rw [hin]; exact beq_self_eq_true _
    by_cases hcap : xs.length + 1 ≤ c
    · refine acalls_of te_ok [] Tryz.func87 (c := _) rfl (Nat.le_of_ble_eq_true rfl) ?_
      simp only [aws, ne_eq, eq_self, implies_true, reduceIte, reduceCtorEq, Nat.reduceLT, Nat.reduceEqDiff, Int.reduceBEq, acmpnil, ares1, teset, Tryz.ntmps87, Tryz.results87, Int.natCast_nonneg, Int.toNat_natCast, hi, hc, nat1, e1, appMc, appCells, cellsOf, hcap, hb1, hfit, Nat.zero_lt_succ]
      refine ⟨b, (deads d).drop 5, _, rfl, by rw [hylen]; rfl, ?_, .inl rfl, fun b2 h2 hne => by rw [if_neg hne, if_neg hne]⟩
      rw [if_pos rfl, hys, hY]
      congr 1
      rw [List.take_left' hC, ← List.drop_drop, List.drop_left' hC, hdi, hy]
      simp [hti]
    · refine acalls_of te_ok [] Tryz.func87 (c := _) rfl (Nat.le_of_ble_eq_true rfl) ?_
      simp only [aws, ne_eq, eq_self, implies_true, reduceIte, reduceCtorEq, Nat.reduceLT, Nat.reduceEqDiff, Int.reduceBEq, acmpnil, ares1, teset, Tryz.ntmps87, Tryz.results87, Int.natCast_nonneg, Int.toNat_natCast, hi, hc, nat1, e1, appMc, appCells, cellsOf, hcap, hb1, hfit, Nat.zero_lt_succ]
      refine ⟨h.nb, [], _, rfl, by rw [hylen]; rfl, ?_, .inr (Nat.le_refl _), fun b2 h2 hne => by rw [if_neg (by omega), if_neg hne]⟩
      rw [if_pos rfl, hys, hY]
      congr 1
      rw [List.take_left' hC, hdi]
      simp [hti]
  · have hlt : i < xs.length := by omega
    have e1 : ((i : Int) == (xs.length : Int)) = false := by
      rw [beq_eq_false_iff_ne]; omega
    have hw1 : IntKind.i64.wrap ((xs.length : Int) + 1) = ((xs.length + 1 : Nat) : Int) := wrap_succ (by omega)
    by_cases hcap : (c : Int) < ((xs.length + 1 : Nat) : Int)
    · have hw2 : IntKind.i64.wrap (((xs.length + 1 : Nat) : Int) - (i : Int)) = ((xs.length + 1 - i : Nat) : Int) := by rw [IntKind.wrap_i64]; omega
      have hpos : (0 : Int) < ((xs.length + 1 - i : Nat) : Int) := by omega
      have e2 : i + (xs.length + 1 - i) = xs.length + 1 := by omega
      have hic : i ≤ c := by omega
      have hnc : ¬ (xs.length + 1 ≤ c) := by omega
      have hi1 : i ≤ xs.length + 1 := by omega
      have hmin : min 1 (xs.length + 1 - i) = 1 := by omega
      have hw3 : IntKind.i64.wrap ((i : Int) + 1) = ((i + 1 : Nat) : Int) := wrap_succ (by omega)
      have hi2 : i + 1 ≤ xs.length + 1 := by omega
      have e3 : xs.length + 1 - (i + 1) = xs.length - i := by omega
      have hni : (xs.length - i = 0) = False := by simp only [eq_iff_iff, iff_false]; omega
      obtain ⟨Suf, hSf⟩ : ∃ Suf, Suf = (xs.drop i).flatMap AV.cells := ⟨_, rfl⟩
      rw [← hSf] at hSr
      have hmulle : (xs.length - i) * 5 + i * 5 = xs.length * 5 := by rw [← Nat.add_mul]; congr 1 <;> omega
      have hi1s : (i + 1) * 5 = i * 5 + 5 := by rw [Nat.add_mul] <;> omega
      obtain ⟨Z, hZ⟩ : ∃ Z, Z = zeros [.int .i64 0, .int .i64 0, .str ⟨#[]⟩, .sl .full 0 [], .sl .full 0 []] (xs.length + 1 - i) := ⟨_, rfl⟩
      have hZl : Z.length = (xs.length + 1 - i) * 5 := by rw [hZ, zeros_length] <;> rfl
      obtain ⟨Pre, hP⟩ : ∃ Pre, Pre = (xs.take i).flatMap AV.cells := ⟨_, rfl⟩
      rw [← hP] at hSl
      have hB : List.take (i * 5) (xs.flatMap AV.cells ++ deads d) = Pre := by rw [hS, ← hP, List.append_assoc]; exact List.take_left' hSl
      have hBt : List.take (i * 5) (Pre ++ Z) = Pre := List.take_left' hSl
      have hBd : List.drop (i * 5 + 5) (Pre ++ Z) = List.drop 5 Z := by rw [← List.drop_drop, List.drop_left' hSl]
      have hyt : List.take 5 y.cells = y.cells := List.take_of_length_le (by omega)
      have hSuf : List.take ((xs.length - i) * 5) (List.drop (i * 5) (xs.flatMap AV.cells ++ deads d)) = Suf := by rw [hS, ← hP, ← hSf, List.append_assoc, List.drop_left' hSl, List.take_left' hSr]
      have hSt : List.take ((xs.length - i) * 5) Suf = Suf := List.take_of_length_le (by omega)
      have hmin2 : min (xs.length - i) (xs.length - i) = xs.length - i := Nat.min_self _
      have hB2 : List.take ((i + 1) * 5) (Pre ++ y.cells ++ List.drop 5 Z) = Pre ++ y.cells := List.take_left' (by rw [List.length_append, hSl, hy, hi1s])
      have hfz2 : (i + 1) * 5 + (xs.length - i) * 5 ≤ (Pre ++ y.cells ++ List.drop 5 Z).length := by
        have : (xs.length + 1 - i) * 5 = (xs.length - i) * 5 + 5 := by rw [show xs.length + 1 - i = xs.length - i + 1 by omega, Nat.add_mul] <;> omega
        rw [List.length_append, List.length_append, List.length_drop, hSl, hZl, hy]; omega
      have hfz3 : i * 5 + (xs.length - i) * 5 ≤ (xs.flatMap AV.cells ++ deads d).length := by
        have := @List.length_append _ (xs.flatMap AV.cells) (deads d)
        omega
      have hfz : i * 5 + (xs.length + 1 - i) * 5 ≤ (Pre ++ Z).length := by rw [List.length_append, hSl, hZl]; omega
      refine acalls_of te_ok [] Tryz.func87 (c := _) rfl (Nat.le_of_ble_eq_true rfl) ?_
      simp only [aws, ne_eq, eq_self, reduceIte, reduceCtorEq, Nat.reduceLT, Nat.reduceEqDiff, Int.reduceBEq, capR, acmpnil, teset, Tryz.ntmps87, Tryz.results87, Int.natCast_nonneg, Int.toNat_natCast, hi, hc, Nat.zero_le, Nat.le_refl, Nat.sub_zero, Nat.zero_mul, nat1, e1, appMc, appCells, cellsOf, hcap, hb1, hfit, Nat.zero_lt_succ, hw1, hw2, hpos, e2, hic, hnc, hi1, hmin, acopy, hB, ← hZ, hBt, hBd, hY, hy, hyt, hfz, Nat.one_mul]
      refine acode_draw_chain te_ok mixed [] (by kernel_rfl) ?_
      simp only [aws, eq_self, implies_true, reduceIte, reduceCtorEq, Nat.reduceAdd, Nat.reduceLT, Nat.reduceEqDiff, acmpnil, ares1, teset, Int.natCast_nonneg, Int.toNat_natCast, hi, hc, Nat.le_refl, acopy, cellsOf, hw3, hi2, e3, hni, hSuf, hSt, hmin2, hB2, hSr, hfz2, hfz3, hbne]
      refine ⟨h.nb, List.drop ((i + 1) * 5 + (xs.length - i) * 5) (Pre ++ y.cells ++ List.drop 5 Z), _, rfl, by rw [hylen]; rfl, ?_, .inr (Nat.le_refl _), fun b2 h2 hne => by rw [if_neg (by omega), if_neg (by omega), if_neg (by omega), if_neg hne]⟩
      rw [if_pos rfl, hys, ← hP, ← hSf]
      simp only [List.append_assoc]
    · have hcap2 : xs.length + 1 ≤ c := by omega
      have hw3 : IntKind.i64.wrap ((i : Int) + 1) = ((i + 1 : Nat) : Int) := wrap_succ (by omega)
      have hi2 : i + 1 ≤ xs.length + 1 := by omega
      have e3 : xs.length + 1 - (i + 1) = xs.length - i := by omega
      have hni : (xs.length - i = 0) = False := by simp only [eq_iff_iff, iff_false]; omega
      obtain ⟨Suf, hSf⟩ : ∃ Suf, Suf = (xs.drop i).flatMap AV.cells := ⟨_, rfl⟩
      rw [← hSf] at hSr
      have hmulle : (xs.length - i) * 5 + i * 5 = xs.length * 5 := by rw [← Nat.add_mul]; congr 1 <;> omega
      have hi1s : (i + 1) * 5 = i * 5 + 5 := by rw [Nat.add_mul] <;> omega
      refine acalls_of te_ok [] Tryz.func87 (c := _) rfl (Nat.le_of_ble_eq_true rfl) ?_
      simp only [aws, ne_eq, eq_self, reduceIte, reduceCtorEq, Nat.reduceLT, Nat.reduceEqDiff, Int.reduceBEq, capR, acmpnil, teset, Tryz.ntmps87, Tryz.results87, Int.natCast_nonneg, Int.toNat_natCast, hi, hc, Nat.zero_le, Nat.sub_zero, Nat.zero_mul, nat1, e1, hcap, hcap2, Nat.zero_lt_succ, hw1, hw3, hi2, e3]
      obtain ⟨Pre, hP⟩ : ∃ Pre, Pre = (xs.take i).flatMap AV.cells := ⟨_, rfl⟩
      rw [← hP] at hSl
      refine .inr ?_
      show AExt _ _ [_, _] _ _
      refine ovl_ext (t := 22) (tR := 4) (fn := Tryz.f133) (cs := xs.flatMap AV.cells ++ deads d) rfl rfl rfl (by kernel_rfl) (by kernel_rfl) (by kernel_rfl) (by kernel_rfl) (by simp) (by rw [set_box, if_pos rfl]) ?_
      simp only [aws, eq_self, reduceIte, reduceCtorEq, Nat.reduceLT, Nat.reduceEqDiff]
      have hD : i * 5 + (xs.length + 1 - i) * 5 = xs.length * 5 + 5 := by
        rw [← Nat.add_mul, show i + (xs.length + 1 - i) = xs.length + 1 by omega, Nat.add_mul, Nat.one_mul]
      have hd5 : 5 ≤ d := by
        have : (xs.length + 1) * 5 ≤ c * 5 := Nat.mul_le_mul_right _ hcap2
        rw [Nat.add_mul, Nat.one_mul] at this; omega
      have hCD : (xs.flatMap AV.cells ++ deads d).length = xs.length * 5 + d := by rw [List.length_append, hC, deads_length]
      have hf1 : i * 5 + (xs.length + 1 - i) * 5 ≤ (xs.flatMap AV.cells ++ deads d).length := by rw [hD, hCD]; omega
      have hf2 : (i + 1) * 5 + (xs.length - i) * 5 ≤ (xs.flatMap AV.cells ++ deads d).length := by rw [hi1s, hCD]; omega
      have hmin : min (xs.length + 1 - i) (xs.length - i) = xs.length - i := by omega
      have hmin1 : min 1 (xs.length + 1 - i) = 1 := by omega
      have hle5 : (xs.length - i) * 5 ≤ (xs.length + 1 - i) * 5 := Nat.mul_le_mul_right _ (by omega)
      have hT : List.take ((xs.length - i) * 5) (List.take ((xs.length + 1 - i) * 5) (List.drop (i * 5) (xs.flatMap AV.cells ++ deads d))) = Suf := by
        rw [List.take_take, Nat.min_eq_left hle5, hS, ← hP, ← hSf, List.append_assoc, List.drop_left' hSl, List.take_left' hSr]
      obtain ⟨W, hW⟩ : ∃ W, W = List.take ((i + 1) * 5) (xs.flatMap AV.cells ++ deads d) := ⟨_, rfl⟩
      have hWl : W.length = i * 5 + 5 := by rw [hW, List.length_take, hCD, hi1s]; omega
      obtain ⟨R, hR⟩ : ∃ R, R = List.drop ((i + 1) * 5 + (xs.length - i) * 5) (xs.flatMap AV.cells ++ deads d) := ⟨_, rfl⟩
      have hRl : R.length = d - 5 := by rw [hR, List.length_drop, hCD, hi1s]; omega
      have hW1 : List.take (i * 5) (W ++ Suf ++ R) = Pre := by
        rw [List.append_assoc, List.take_append_of_le_length (by omega), hW, List.take_take, Nat.min_eq_left (by omega), hS, ← hP, List.append_assoc, List.take_left' hSl]
      have hW2 : List.drop (i * 5 + 5) (W ++ Suf ++ R) = Suf ++ R := by rw [List.append_assoc, List.drop_left' hWl]
      have hf3 : i * 5 + (xs.length + 1 - i) * 5 ≤ (W ++ Suf ++ R).length := by
        rw [hD, List.length_append, List.length_append, hWl, hSr, hRl]; omega
      have hyt : List.take 5 y.cells = y.cells := List.take_of_length_le (by omega)
      have hi1 : i ≤ xs.length + 1 := by omega
      refine acode_draw_chain te_ok mixed [] (by kernel_rfl) ?_
      simp only [aws, eq_self, implies_true, reduceIte, reduceCtorEq, Nat.reduceAdd, Nat.reduceLT, Nat.reduceEqDiff, acmpnil, ares1, teset, Int.natCast_nonneg, Int.toNat_natCast, Nat.le_refl, nat1, acopy, cellsOf, hw3, hi2, hi1, e3, hni, hcap2, hf1, hf2, hmin, hmin1, hT, hSr, ← hW, ← hR, hW1, hW2, hf3, hyt, hY, hy, Nat.one_mul]
      refine ⟨b, R, _, rfl, by rw [hylen]; rfl, ?_, .inl rfl, fun b2 h2 hne => by rw [if_neg hne, if_neg hne, if_neg hne]⟩
      rw [if_pos rfl, hys, ← hP, ← hSf]
      simp only [List.append_assoc]

end Go.Proofs.YtjdocenbfghglaaGreatDoor.AW
end
section
set_option linter.unusedSimpArgs false
set_option linter.unusedVariables false
namespace Go.Proofs.YtjdocenbfghglaaGreatDoor.AW
open Go Go.RowKit

set_option maxHeartbeats 2000000 in
set_option maxRecDepth 20000 in
theorem insstrs_calls (xs : List AV) (y : AV) (i : Nat) (hx : ∀ x ∈ xs, x.cells.length = 1) (hy : y.cells.length = 1) (hyo : y.cells.all AV.one = true) (hux : AV.underL 0 0 xs = true) (huy : y.under 0 0 = true) (hl : xs.length < 1000000) (hi : i ≤ xs.length) (h : AH) (b : Nat) (hb : h.box b = some (xs.flatMap AV.cells)) (hbn : b < h.nb) :
    ACalls Tryz.prog 85 [.ms b 0 xs.length 1, .int .i64 i, .sl .full 1 [y]] h fun out h' => out = .ret (.sl .ro 1 (xs.take i ++ y :: xs.drop i)) ∧ h' = h.kill b := by
  have hylen : (xs.take i ++ y :: xs.drop i).length = xs.length + 1 := by simp; omega
  obtain ⟨hS, hSl, hSr⟩ := flatCells_split hx i hi
  have hC := flatCells_len hx
  refine ACalls.give (by omega) (by simp) (fun x hm => ?_) ?_ ?_
  · rcases List.mem_append.1 hm with h1 | h1
    · exact hx x (List.mem_of_mem_take h1)
    · rcases List.mem_cons.1 h1 with rfl | h1
      · exact hy
      · exact hx x (List.mem_of_mem_drop h1)
  · refine underL_iff.2 fun j c hj => ?_
    rcases List.mem_append.1 (List.mem_of_getElem? hj) with h1 | h1
    · obtain ⟨k, hk⟩ := List.mem_iff_getElem?.1 (List.mem_of_mem_take h1); exact underL_iff.1 hux k c hk
    · rcases List.mem_cons.1 h1 with rfl | h1
      · exact huy
      · obtain ⟨k, hk⟩ := List.mem_iff_getElem?.1 (List.mem_of_mem_drop h1); exact underL_iff.1 hux k c hk
  refine ACalls.opn hb fun c d hc hcd => ?_
  rw [hC] at hcd
  have nat1 : ((1 : Nat) : Int) = 1 := rfl
  have hfit : c * 1 ≤ (xs.flatMap AV.cells ++ deads d).length := by rw [List.length_append, hC, deads_length]; omega
  have hb1 : (xs.length + 1) * 16 ≤ 140737488355328 := by omega
  have hbne : (b = h.nb) = False := by simp only [eq_iff_iff, iff_false]; omega
  have hys : (xs.take i ++ y :: xs.drop i).flatMap AV.cells = (xs.take i).flatMap AV.cells ++ (y.cells ++ (xs.drop i).flatMap AV.cells) := by rw [List.flatMap_append, List.flatMap_cons]
  have hY : List.flatMap AV.cells [y] = y.cells := by simp
  by_cases hin : i = xs.length
  · have hti : xs.take i = xs := by rw [hin, List.take_length]
    have hdi : (xs.drop i) = [] := by rw [hin, List.drop_length]
    have e1 : ((i : Int) == (xs.length : Int)) = true := by rw [hin]; exact beq_self_eq_true _
    by_cases hcap : xs.length + 1 ≤ c
    · refine acalls_of te_ok [] Tryz.func85 (c := _) rfl (Nat.le_of_ble_eq_true rfl) ?_
      simp only [aws, ne_eq, eq_self, implies_true, reduceIte, reduceCtorEq, Nat.reduceLT, Nat.reduceEqDiff, Int.reduceBEq, acmpnil, ares1, teset, Tryz.ntmps85, Tryz.results85, Int.natCast_nonneg, Int.toNat_natCast, hi, hc, nat1, e1, appMc, appCells, cellsOf, hcap, hb1, hfit, Nat.zero_lt_succ]
      refine ⟨b, (deads d).drop 1, _, rfl, by rw [hylen]; rfl, ?_, .inl rfl, fun b2 h2 hne => by rw [if_neg hne, if_neg hne]⟩
      rw [if_pos rfl, hys, hY]
      congr 1
      rw [List.take_left' hC, ← List.drop_drop, List.drop_left' hC, hdi, hy]
      simp [hti]
    · refine acalls_of te_ok [] Tryz.func85 (c := _) rfl (Nat.le_of_ble_eq_true rfl) ?_
      simp only [aws, ne_eq, eq_self, implies_true, reduceIte, reduceCtorEq, Nat.reduceLT, Nat.reduceEqDiff, Int.reduceBEq, acmpnil, ares1, teset, Tryz.ntmps85, Tryz.results85, Int.natCast_nonneg, Int.toNat_natCast, hi, hc, nat1, e1, appMc, appCells, cellsOf, hcap, hb1, hfit, Nat.zero_lt_succ]
      refine ⟨h.nb, [], _, rfl, by rw [hylen]; rfl, ?_, .inr (Nat.le_refl _), fun b2 h2 hne => by rw [if_neg (by omega), if_neg hne]⟩
      rw [if_pos rfl, hys, hY]
      congr 1
      rw [List.take_left' hC, hdi]
      simp [hti]
  · have hlt : i < xs.length := by omega
    have e1 : ((i : Int) == (xs.length : Int)) = false := by
      rw [beq_eq_false_iff_ne]; omega
    have hw1 : IntKind.i64.wrap ((xs.length : Int) + 1) = ((xs.length + 1 : Nat) : Int) := wrap_succ (by omega)
    by_cases hcap : (c : Int) < ((xs.length + 1 : Nat) : Int)
    · have hw2 : IntKind.i64.wrap (((xs.length + 1 : Nat) : Int) - (i : Int)) = ((xs.length + 1 - i : Nat) : Int) := by rw [IntKind.wrap_i64]; omega
      have hpos : (0 : Int) < ((xs.length + 1 - i : Nat) : Int) := by omega
      have e2 : i + (xs.length + 1 - i) = xs.length + 1 := by omega
      have hic : i ≤ c := by omega
      have hnc : ¬ (xs.length + 1 ≤ c) := by omega
      have hi1 : i ≤ xs.length + 1 := by omega
      have hmin : min 1 (xs.length + 1 - i) = 1 := by omega
      have hw3 : IntKind.i64.wrap ((i : Int) + 1) = ((i + 1 : Nat) : Int) := wrap_succ (by omega)
      have hi2 : i + 1 ≤ xs.length + 1 := by omega
      have e3 : xs.length + 1 - (i + 1) = xs.length - i := by omega
      have hni : (xs.length - i = 0) = False := by simp only [eq_iff_iff, iff_false]; omega
      obtain ⟨Suf, hSf⟩ : ∃ Suf, Suf = (xs.drop i).flatMap AV.cells := ⟨_, rfl⟩
      rw [← hSf] at hSr
      have hmulle : (xs.length - i) * 1 + i * 1 = xs.length * 1 := by rw [← Nat.add_mul]; congr 1 <;> omega
      have hi1s : (i + 1) * 1 = i * 1 + 1 := by rw [Nat.add_mul] <;> omega
      obtain ⟨Z, hZ⟩ : ∃ Z, Z = zeros [.str ⟨#[]⟩] (xs.length + 1 - i) := ⟨_, rfl⟩
      have hZl : Z.length = (xs.length + 1 - i) * 1 := by rw [hZ, zeros_length] <;> rfl
      obtain ⟨Pre, hP⟩ : ∃ Pre, Pre = (xs.take i).flatMap AV.cells := ⟨_, rfl⟩
      rw [← hP] at hSl
      have hB : List.take (i * 1) (xs.flatMap AV.cells ++ deads d) = Pre := by rw [hS, ← hP, List.append_assoc]; exact List.take_left' hSl
      have hBt : List.take (i * 1) (Pre ++ Z) = Pre := List.take_left' hSl
      have hBd : List.drop (i * 1 + 1) (Pre ++ Z) = List.drop 1 Z := by rw [← List.drop_drop, List.drop_left' hSl]
      have hyt : List.take 1 y.cells = y.cells := List.take_of_length_le (by omega)
      have hSuf : List.take ((xs.length - i) * 1) (List.drop (i * 1) (xs.flatMap AV.cells ++ deads d)) = Suf := by rw [hS, ← hP, ← hSf, List.append_assoc, List.drop_left' hSl, List.take_left' hSr]
      have hSt : List.take ((xs.length - i) * 1) Suf = Suf := List.take_of_length_le (by omega)
      have hmin2 : min (xs.length - i) (xs.length - i) = xs.length - i := Nat.min_self _
      have hB2 : List.take ((i + 1) * 1) (Pre ++ y.cells ++ List.drop 1 Z) = Pre ++ y.cells := List.take_left' (by rw [List.length_append, hSl, hy, hi1s])
      have hfz2 : (i + 1) * 1 + (xs.length - i) * 1 ≤ (Pre ++ y.cells ++ List.drop 1 Z).length := by
        have : (xs.length + 1 - i) * 1 = (xs.length - i) * 1 + 1 := by rw [show xs.length + 1 - i = xs.length - i + 1 by omega, Nat.add_mul] <;> omega
        rw [List.length_append, List.length_append, List.length_drop, hSl, hZl, hy]; omega
      have hfz3 : i * 1 + (xs.length - i) * 1 ≤ (xs.flatMap AV.cells ++ deads d).length := by
        have := @List.length_append _ (xs.flatMap AV.cells) (deads d)
        omega
      have hfz : i * 1 + (xs.length + 1 - i) * 1 ≤ (Pre ++ Z).length := by rw [List.length_append, hSl, hZl]; omega
      refine acalls_of te_ok [] Tryz.func85 (c := _) rfl (Nat.le_of_ble_eq_true rfl) ?_
      simp only [aws, ne_eq, eq_self, reduceIte, reduceCtorEq, Nat.reduceLT, Nat.reduceEqDiff, Int.reduceBEq, capR, acmpnil, teset, Tryz.ntmps85, Tryz.results85, Int.natCast_nonneg, Int.toNat_natCast, hi, hc, Nat.zero_le, Nat.le_refl, Nat.sub_zero, Nat.zero_mul, nat1, e1, appMc, appCells, cellsOf, hcap, hb1, hfit, Nat.zero_lt_succ, hw1, hw2, hpos, e2, hic, hnc, hi1, hmin, acopy, hB, ← hZ, hBt, hBd, hY, hy, hyt, hfz, Nat.one_mul]
      refine acode_draw_chain te_ok mixed [] (by kernel_rfl) ?_
      simp only [aws, eq_self, implies_true, reduceIte, reduceCtorEq, Nat.reduceAdd, Nat.reduceLT, Nat.reduceEqDiff, acmpnil, ares1, teset, Int.natCast_nonneg, Int.toNat_natCast, hi, hc, Nat.le_refl, acopy, cellsOf, hw3, hi2, e3, hni, hSuf, hSt, hmin2, hB2, hSr, hfz2, hfz3, hbne]
      refine ⟨h.nb, List.drop ((i + 1) * 1 + (xs.length - i) * 1) (Pre ++ y.cells ++ List.drop 1 Z), _, rfl, by rw [hylen]; rfl, ?_, .inr (Nat.le_refl _), fun b2 h2 hne => by rw [if_neg (by omega), if_neg (by omega), if_neg (by omega), if_neg hne]⟩
      rw [if_pos rfl, hys, ← hP, ← hSf]
      simp only [List.append_assoc]
    · have hcap2 : xs.length + 1 ≤ c := by omega
      have hw3 : IntKind.i64.wrap ((i : Int) + 1) = ((i + 1 : Nat) : Int) := wrap_succ (by omega)
      have hi2 : i + 1 ≤ xs.length + 1 := by omega
      have e3 : xs.length + 1 - (i + 1) = xs.length - i := by omega
      have hni : (xs.length - i = 0) = False := by simp only [eq_iff_iff, iff_false]; omega
      obtain ⟨Suf, hSf⟩ : ∃ Suf, Suf = (xs.drop i).flatMap AV.cells := ⟨_, rfl⟩
      rw [← hSf] at hSr
      have hmulle : (xs.length - i) * 1 + i * 1 = xs.length * 1 := by rw [← Nat.add_mul]; congr 1 <;> omega
      have hi1s : (i + 1) * 1 = i * 1 + 1 := by rw [Nat.add_mul] <;> omega
      refine acalls_of te_ok [] Tryz.func85 (c := _) rfl (Nat.le_of_ble_eq_true rfl) ?_
      simp only [aws, ne_eq, eq_self, reduceIte, reduceCtorEq, Nat.reduceLT, Nat.reduceEqDiff, Int.reduceBEq, capR, acmpnil, teset, Tryz.ntmps85, Tryz.results85, Int.natCast_nonneg, Int.toNat_natCast, hi, hc, Nat.zero_le, Nat.sub_zero, Nat.zero_mul, nat1, e1, hcap, hcap2, Nat.zero_lt_succ, hw1, hw3, hi2, e3]
      obtain ⟨Pre, hP⟩ : ∃ Pre, Pre = (xs.take i).flatMap AV.cells := ⟨_, rfl⟩
      rw [← hP] at hSl
      refine .inr ?_
      show AExt _ _ [_, _] _ _
      refine ovl_ext (t := 23) (tR := 4) (fn := Tryz.f131) (cs := xs.flatMap AV.cells ++ deads d) rfl rfl rfl (by kernel_rfl) (by kernel_rfl) (by kernel_rfl) (by kernel_rfl) (by simp) (by rw [set_box, if_pos rfl]) ?_
      simp only [aws, eq_self, reduceIte, reduceCtorEq, Nat.reduceLT, Nat.reduceEqDiff]
      have hD : i * 1 + (xs.length + 1 - i) * 1 = xs.length * 1 + 1 := by
        rw [← Nat.add_mul, show i + (xs.length + 1 - i) = xs.length + 1 by omega, Nat.add_mul, Nat.one_mul]
      have hd5 : 1 ≤ d := by
        have : (xs.length + 1) * 1 ≤ c * 1 := Nat.mul_le_mul_right _ hcap2
        rw [Nat.add_mul, Nat.one_mul] at this; omega
      have hCD : (xs.flatMap AV.cells ++ deads d).length = xs.length * 1 + d := by rw [List.length_append, hC, deads_length]
      have hf1 : i * 1 + (xs.length + 1 - i) * 1 ≤ (xs.flatMap AV.cells ++ deads d).length := by rw [hD, hCD]; omega
      have hf2 : (i + 1) * 1 + (xs.length - i) * 1 ≤ (xs.flatMap AV.cells ++ deads d).length := by rw [hi1s, hCD]; omega
      have hmin : min (xs.length + 1 - i) (xs.length - i) = xs.length - i := by omega
      have hmin1 : min 1 (xs.length + 1 - i) = 1 := by omega
      have hle5 : (xs.length - i) * 1 ≤ (xs.length + 1 - i) * 1 := Nat.mul_le_mul_right _ (by omega)
      have hT : List.take ((xs.length - i) * 1) (List.take ((xs.length + 1 - i) * 1) (List.drop (i * 1) (xs.flatMap AV.cells ++ deads d))) = Suf := by
        rw [List.take_take, Nat.min_eq_left hle5, hS, ← hP, ← hSf, List.append_assoc, List.drop_left' hSl, List.take_left' hSr]
      obtain ⟨W, hW⟩ : ∃ W, W = List.take ((i + 1) * 1) (xs.flatMap AV.cells ++ deads d) := ⟨_, rfl⟩
      have hWl : W.length = i * 1 + 1 := by rw [hW, List.length_take, hCD, hi1s]; omega
      obtain ⟨R, hR⟩ : ∃ R, R = List.drop ((i + 1) * 1 + (xs.length - i) * 1) (xs.flatMap AV.cells ++ deads d) := ⟨_, rfl⟩
      have hRl : R.length = d - 1 := by rw [hR, List.length_drop, hCD, hi1s]; omega
      have hW1 : List.take (i * 1) (W ++ Suf ++ R) = Pre := by
        rw [List.append_assoc, List.take_append_of_le_length (by omega), hW, List.take_take, Nat.min_eq_left (by omega), hS, ← hP, List.append_assoc, List.take_left' hSl]
      have hW2 : List.drop (i * 1 + 1) (W ++ Suf ++ R) = Suf ++ R := by rw [List.append_assoc, List.drop_left' hWl]
      have hf3 : i * 1 + (xs.length + 1 - i) * 1 ≤ (W ++ Suf ++ R).length := by
        rw [hD, List.length_append, List.length_append, hWl, hSr, hRl]; omega
      have hyt : List.take 1 y.cells = y.cells := List.take_of_length_le (by omega)
      have hi1 : i ≤ xs.length + 1 := by omega
      refine acode_draw_chain te_ok mixed [] (by kernel_rfl) ?_
      simp only [aws, eq_self, implies_true, reduceIte, reduceCtorEq, Nat.reduceAdd, Nat.reduceLT, Nat.reduceEqDiff, acmpnil, ares1, teset, Int.natCast_nonneg, Int.toNat_natCast, Nat.le_refl, nat1, acopy, cellsOf, hw3, hi2, hi1, e3, hni, hcap2, hf1, hf2, hmin, hmin1, hT, hSr, ← hW, ← hR, hW1, hW2, hf3, hyt, hY, hy, Nat.one_mul]
      refine ⟨b, R, _, rfl, by rw [hylen]; rfl, ?_, .inl rfl, fun b2 h2 hne => by rw [if_neg hne, if_neg hne, if_neg hne]⟩
      rw [if_pos rfl, hys, ← hP, ← hSf]
      simp only [List.append_assoc]

end Go.Proofs.YtjdocenbfghglaaGreatDoor.AW
end
section
set_option linter.unusedSimpArgs false
set_option linter.unusedVariables false
namespace Go.Proofs.YtjdocenbfghglaaGreatDoor.AW
open Go Go.RowKit

theorem wk_nil5f : Wk (.sl .full 0 []) (.sl .full 5 []) := fun m c h => h.sz (by omega) (fun _ _ e => by cases e)
theorem wk_nil1f : Wk (.sl .full 0 []) (.sl .full 1 []) := fun m c h => h.sz (by omega) (fun _ _ e => by cases e)
/-- Clone of nothing is nothing. -/
theorem clone5_nil (h : AH) : ACalls Tryz.prog 88 [.sl .ro 5 []] h fun out h' => out = .ret (.sl .full 5 []) ∧ h' = h := by
  refine ACalls.wkOut (R' := fun out h' => (out = .ret (.sl .full 0 []) ∨ out = .ret (.sl .full 5 [])) ∧ h' = h) ?_ ?_
  · refine acalls_of te_ok [] Tryz.func88 (c := _) rfl (Nat.le_of_ble_eq_true rfl) ?_
    simp only [aws, eq_self, reduceIte, Nat.reduceLT, Nat.reduceLeDiff, Nat.reduceMul, acmpnil, appBox, ares1, appendTo, teset, Tryz.ntmps88, Tryz.results88, eqnil, List.isEmpty_nil, range0]
  · rintro out h' ⟨rfl | rfl, rfl⟩
    · exact ⟨_, _, rfl, wk_nil5f, rfl, rfl⟩
    · exact ⟨_, _, rfl, .refl _, rfl, rfl⟩
theorem clone1_nil (h : AH) : ACalls Tryz.prog 86 [.sl .ro 1 []] h fun out h' => out = .ret (.sl .full 1 []) ∧ h' = h := by
  refine ACalls.wkOut (R' := fun out h' => (out = .ret (.sl .full 0 []) ∨ out = .ret (.sl .full 1 [])) ∧ h' = h) ?_ ?_
  · refine acalls_of te_ok [] Tryz.func86 (c := _) rfl (Nat.le_of_ble_eq_true rfl) ?_
    simp only [aws, eq_self, reduceIte, Nat.reduceLT, Nat.reduceLeDiff, Nat.reduceMul, acmpnil, appBox, ares1, appendTo, teset, Tryz.ntmps86, Tryz.results86, eqnil, List.isEmpty_nil, range0]
  · rintro out h' ⟨rfl | rfl, rfl⟩
    · exact ⟨_, _, rfl, wk_nil1f, rfl, rfl⟩
    · exact ⟨_, _, rfl, .refl _, rfl, rfl⟩
/-- .. of something, as a row that may be appended to. -/
theorem clone5_tok (x : AV) (xs : List AV) (hl : xs.length < 1000000) (h : AH) : ACalls Tryz.prog 88 [.sl .ro 5 (x :: xs)] h fun out h' => out = .ret (.sl (.tok h.nt 0) 5 (x :: xs)) ∧ h' = h.newTok := by
  have hb : (xs.length + 1) * 80 ≤ 140737488355328 := by omega
  refine acalls_of te_ok [] Tryz.func88 (c := _) rfl (Nat.le_of_ble_eq_true rfl) ?_
  simp only [aws, eq_self, reduceIte, reduceCtorEq, Nat.reduceLT, Nat.reduceLeDiff, Nat.reduceMul, acmpnil, appBox, ares1, appendTo, teset, Tryz.ntmps88, Tryz.results88, eqnil, List.isEmpty_cons, range0, hb]
/-- .. as a box. -/
theorem clone5_box (x : AV) (xs : List AV) (hl : xs.length < 1000000) (h : AH) : ACalls Tryz.prog 88 [.sl .ro 5 (x :: xs)] h fun out h' => out = .ret (.ms h.nb 0 (x :: xs).length 5) ∧ h' = h.new ((x :: xs).flatMap AV.cells) := by
  have hb : (xs.length + 1) * 80 ≤ 140737488355328 := by omega
  refine acalls_of te_ok [] Tryz.func88 (c := _) rfl (Nat.le_of_ble_eq_true rfl) ?_
  simp only [aws, eq_self, reduceIte, reduceCtorEq, Nat.reduceLT, Nat.reduceLeDiff, Nat.reduceMul, acmpnil, appBox, ares1, appendTo, teset, Tryz.ntmps88, Tryz.results88, eqnil, List.isEmpty_cons, range0, hb]
theorem clone1_box (x : AV) (xs : List AV) (hl : xs.length < 1000000) (h : AH) : ACalls Tryz.prog 86 [.sl .ro 1 (x :: xs)] h fun out h' => out = .ret (.ms h.nb 0 (x :: xs).length 1) ∧ h' = h.new ((x :: xs).flatMap AV.cells) := by
  have hb : (xs.length + 1) * 16 ≤ 140737488355328 := by omega
  refine acalls_of te_ok [] Tryz.func86 (c := _) rfl (Nat.le_of_ble_eq_true rfl) ?_
  simp only [aws, eq_self, reduceIte, reduceCtorEq, Nat.reduceLT, Nat.reduceLeDiff, Nat.reduceMul, acmpnil, appBox, ares1, appendTo, teset, Tryz.ntmps86, Tryz.results86, eqnil, List.isEmpty_cons, range0, hb]
theorem ins5_nil (y : AV) (hy : y.cells.length = 5) (huy : y.under 0 0 = true) : Pure Tryz.prog 87 [.sl .full 5 [], .int .i64 0, .sl .full 5 [y]] (.sl .ro 5 [y]) := by
  have nat1 : ((1 : Nat) : Int) = 1 := rfl
  have hY : List.flatMap AV.cells [y] = y.cells := by simp
  refine Pure.ofW ⟨Tryz.f87, Tryz.func87, rfl, by kernel_rfl⟩ (by simp [AV.under, AV.underL, huy]) (fun h hsc => ?_)
  refine acalls_of te_ok [] Tryz.func87 (c := _) rfl (Nat.le_of_ble_eq_true rfl) ?_
  simp only [aws, eq_self, reduceIte, reduceCtorEq, Nat.reduceLT, Nat.reduceLeDiff, Nat.reduceEqDiff, Nat.reduceMul, Int.reduceBEq, Int.reduceLE, Int.reduceToNat, acmpnil, appBox, ares1, appendTo, teset, Tryz.ntmps87, Tryz.results87, nat1, Int.natCast_zero, Nat.le_refl, hY, Nat.sub_zero]
  exact .inl ⟨.newTok' _, _, rfl, .ro⟩
theorem ins1_nil (y : AV) (hy : y.cells.length = 1) (huy : y.under 0 0 = true) : Pure Tryz.prog 85 [.sl .full 1 [], .int .i64 0, .sl .full 1 [y]] (.sl .ro 1 [y]) := by
  have nat1 : ((1 : Nat) : Int) = 1 := rfl
  have hY : List.flatMap AV.cells [y] = y.cells := by simp
  refine Pure.ofW ⟨Tryz.f85, Tryz.func85, rfl, by kernel_rfl⟩ (by simp [AV.under, AV.underL, huy]) (fun h hsc => ?_)
  refine acalls_of te_ok [] Tryz.func85 (c := _) rfl (Nat.le_of_ble_eq_true rfl) ?_
  simp only [aws, eq_self, reduceIte, reduceCtorEq, Nat.reduceLT, Nat.reduceLeDiff, Nat.reduceEqDiff, Nat.reduceMul, Int.reduceBEq, Int.reduceLE, Int.reduceToNat, acmpnil, appBox, ares1, appendTo, teset, Tryz.ntmps85, Tryz.results85, nat1, Int.natCast_zero, Nat.le_refl, hY, Nat.sub_zero]
  exact .inl ⟨.newTok' _, _, rfl, .ro⟩

theorem skR_act {P : Program} {L : Option LK} {c : Nat} {h h' : AH} {f v : AV} {args : List AV} {k : AV → AH → Prop} (hc : c ≠ 0) (h1 : ACallV P f args h fun out h2 => out = .ret v ∧ h2 = h') (h2 : boxEq L h h') (h3 : k v h') : skR P L c h (.call f args) k := by
  unfold skR; simp only; rw [if_neg hc]; exact ⟨v, h', h1, h2, h3⟩
theorem skR_app1 (P : Program) (L : Option LK) (h : AH) (v : AV) (h' h0 : AH) (n sz : Nat) (cells : List AV) (k : AV → AH → Prop) : skR P L 1 h (.app v h' h0 n sz cells) k = (boxEq L h h' ∧ k v h') := rfl
/-- A value with another item at a place, or with one more. -/
def withV (v : V) (i : Nat) (x : V) : V := .mk v.kind v.int v.text (v.items.take i ++ x :: v.items.drop (min (i + 1) v.items.length)) v.keys
theorem m80a {E : Nat} (h : E + 1 < 1000000) : (1 + (E + 1)) * 80 ≤ 140737488355328 := by omega
theorem m80b {E : Nat} (h : E + 1 < 1000000) : (0 + (E + 1 + 1)) * 80 ≤ 140737488355328 := by omega
theorem m80e {E : Nat} (h : E + 1 < 1000000) : (E + 1 + 1) * 80 ≤ 140737488355328 := by omega
theorem m80d {A : Nat} (h : A < 1000000) : (A + 1 + 1) * 80 ≤ 140737488355328 := by omega
theorem m80c {A E : Nat} (h : E + 1 < 1000000) (h2 : A < 1000000) : (A + 1 + (E + 1 + 1)) * 80 ≤ 140737488355328 := by omega
theorem minlt {a b c : Nat} (h : min a b = c + 1) (hb : b < 1000000) : c < 1000000 := by omega
set_option maxHeartbeats 1000000 in
theorem with_pure (v : V) (i : Nat) (x : V) (hi : i ≤ v.items.length) (hl : v.items.length < 1000000) : Pure Tryz.prog 84 [inj v, .int .i64 i, inj x] (inj (withV v i x)) := by
  have hu := inj_under (withV v i x)
  obtain ⟨k, n, t, xs, ks⟩ := v
  simp only [V.items] at hi hl
  have hu' := hu
  unfold withV at hu' ⊢
  simp only [V.kind, V.int, V.text, V.items, V.keys] at hu' ⊢
  refine Pure.of0 ⟨Tryz.f84, Tryz.func84, rfl, by kernel_rfl⟩ (by simp [AV.underL, inj_under, AV.under]) hu' ?_
  rw [inj_mk, inj_mk]
  have hw1 : IntKind.i64.wrap ((i : Int) + 1) = ((i + 1 : Nat) : Int) := wrap_succ (by omega)
  refine acalls_of te_ok [] Tryz.func84 (c := _) rfl (Nat.le_of_ble_eq_true rfl) ?_
  simp only [aws, eq_self, reduceIte, Nat.reduceAdd, Nat.reduceLT, teset, Tryz.ntmps84, Tryz.results84, boxR, inj_one]
  refine acode_draw_chain te_ok mixed [4] (by kernel_rfl) ?_
  simp only [aws, eq_self, reduceIte, Nat.reduceAdd, Nat.reduceLT, Nat.reduceLeDiff, Nat.reduceEqDiff, Nat.reduceMul, acmpnil, appBox, storeB, appendTo, teset, List.length_map, Int.natCast_nonneg, Int.toNat_natCast, Nat.zero_le, hi, Nat.sub_zero, hw1, ite_self]
  have hmin : (if ((xs.length : Nat) : Int) < ((i + 1 : Nat) : Int) then ((xs.length : Nat) : Int) else ((i + 1 : Nat) : Int)) = ((min (i + 1) xs.length : Nat) : Int) := by
    split <;> omega
  have hml : min (i + 1) xs.length ≤ xs.length := Nat.min_le_right _ _
  have hyo : (inj x).cells.all AV.one = true := inj_one x
  have hxl : (inj x).cells.length = 5 := inj_len x
  obtain ⟨D, hD⟩ : ∃ D, D = (xs.map inj).drop (min (i + 1) xs.length) := ⟨_, rfl⟩
  have hDl : D.length < 1000000 := by rw [hD, List.length_drop, List.length_map]; omega
  have hDt : List.take (xs.length - min (i + 1) xs.length) D = D := List.take_of_length_le (by rw [hD, List.length_drop, List.length_map]; exact Nat.le_refl _)
  have hb1 : (D.length + 1) * 80 ≤ 140737488355328 := by omega
  have hfin : ∀ (u : AV) (h2 : AH), Wk u (.sl .ro 5 ((xs.map inj).take i ++ inj x :: D)) → ∃ u', AOut.ret (.agg [.int .i64 k, .int .i64 n, .str t, u, .sl .ro 1 (ks.map .str)]) = .ret u' ∧ To0 h2 u' (.agg [.int .i64 k, .int .i64 n, .str t, .sl .ro 5 ((xs.take i ++ x :: xs.drop (min (i + 1) xs.length)).map inj), .sl .ro 1 (ks.map .str)]) := by
    intro u h2 hw
    refine ⟨_, rfl, .wk ?_⟩
    rw [List.map_append, List.map_cons, List.map_take, List.map_drop, ← hD]
    exact (WkAll.cons (.refl _) (.cons (.refl _) (.cons (.refl _) (.cons hw (.cons (.refl _) .nil))))).agg
  cases hA : List.take i (xs.map inj) with
  | nil =>
    rw [hA] at hfin
    refine skR_act (by decide) (ACallV.of ⟨Tryz.f88, Tryz.func88, rfl, by kernel_rfl⟩ (clone5_nil _)) (by rfl) ?_
    cases hDc : D with
    | nil =>
      rw [hDc] at hD hDt hfin
      simp only [aws, eq_self, reduceIte, reduceCtorEq, Nat.reduceAdd, Nat.reduceLT, Nat.reduceLeDiff, Nat.reduceEqDiff, Nat.reduceMul, storeB, ares1, teset, inj_take, inj_agg, List.length_map, Int.natCast_nonneg, Int.toNat_natCast, hmin, hml, hyo, hxl, range1, ← hD, hDt, Nat.le_refl, skR_app1]
      (repeat (first | exact hfin _ _ .ro | refine ⟨rfl, ?_⟩))
    | cons e E =>
      rw [hDc] at hD hDt hfin hb1 hDl
      simp only [List.length_cons] at hb1 hDl
      have hb2 := m80a hDl
      have hb3 := m80b hDl
      have hb4 := m80e hDl
      simp only [aws, eq_self, reduceIte, reduceCtorEq, Nat.reduceAdd, Nat.reduceLT, Nat.reduceLeDiff, Nat.reduceEqDiff, storeB, ares1, teset, inj_take, inj_agg, List.length_map, Int.natCast_nonneg, Int.toNat_natCast, hmin, hml, hyo, hxl, range1, ← hD, hDt, Nat.le_refl, skR_app1, hb2, hb4]
      (repeat (first | exact hfin _ _ .ro | refine ⟨rfl, ?_⟩))
  | cons a A =>
    rw [hA] at hfin
    have hAl : A.length < 1000000 := by
      have := congrArg List.length hA
      rw [List.length_take, List.length_map, List.length_cons] at this
      exact minlt this hl
    refine skR_act (by decide) (ACallV.of ⟨Tryz.f88, Tryz.func88, rfl, by kernel_rfl⟩ (clone5_tok a A hAl _)) (by rfl) ?_
    cases hDc : D with
    | nil =>
      rw [hDc] at hD hDt hfin
      have hb2 := m80d hAl
      simp only [aws, eq_self, reduceIte, reduceCtorEq, Nat.reduceAdd, Nat.reduceLT, Nat.reduceLeDiff, Nat.reduceEqDiff, Nat.reduceMul, storeB, ares1, teset, inj_take, inj_agg, List.length_map, Int.natCast_nonneg, Int.toNat_natCast, hmin, hml, hyo, hxl, range1, ← hD, hDt, Nat.le_refl, hb2]
      (repeat (first | exact hfin _ _ .ro | refine ⟨rfl, ?_⟩))
    | cons e E =>
      rw [hDc] at hD hDt hfin hb1 hDl
      simp only [List.length_cons] at hb1 hDl
      have hb2 := m80a hDl
      have hb3 := m80c hDl hAl
      simp only [aws, eq_self, reduceIte, reduceCtorEq, Nat.reduceAdd, Nat.reduceLT, Nat.reduceLeDiff, Nat.reduceEqDiff, storeB, ares1, teset, inj_take, inj_agg, List.length_map, Int.natCast_nonneg, Int.toNat_natCast, hmin, hml, hyo, hxl, range1, ← hD, hDt, Nat.le_refl, hb2, hb3]
      (repeat (first | exact hfin _ _ .ro | refine ⟨rfl, ?_⟩))
end Go.Proofs.YtjdocenbfghglaaGreatDoor.AW
end
section
set_option linter.unusedSimpArgs false
set_option linter.unusedVariables false
namespace Go.Proofs.YtjdocenbfghglaaGreatDoor.AW
open Go Go.RowKit

theorem strs_cells (ks : List ByteArray) : (ks.map AV.str).flatMap AV.cells = ks.map AV.str := by
  induction ks with
  | nil => rfl
  | cons k ks ih => rw [List.map_cons, List.flatMap_cons, ih]; rfl
theorem strs_under (ks : List ByteArray) : AV.underL 0 0 (ks.map AV.str) = true := by
  induction ks with
  | nil => rfl
  | cons k ks ih => simp [AV.underL, AV.under, ih]
theorem injs_under (xs : List V) : AV.underL 0 0 (xs.map inj) = true := by
  induction xs with
  | nil => rfl
  | cons k ks ih => simp [AV.underL, inj_under, ih]
theorem clone1_box' (ks : List ByteArray) (hne : ks ≠ []) (hl : ks.length < 1000000) (h : AH) : ACalls Tryz.prog 86 [.sl .ro 1 (ks.map .str)] h fun out h' => out = .ret (.ms h.nb 0 ks.length 1) ∧ h' = h.new (ks.map .str) := by
  cases ks with
  | nil => exact absurd rfl hne
  | cons k ks =>
    have := clone1_box (.str k) (ks.map .str) (by simp only [List.length_cons] at hl; rw [List.length_map]; omega) h
    have e := strs_cells (k :: ks)
    rw [List.map_cons] at e
    rw [e, List.length_cons, List.length_map] at this
    exact this
theorem clone5_box' (xs : List V) (hne : xs ≠ []) (hl : xs.length < 1000000) (h : AH) : ACalls Tryz.prog 88 [.sl .ro 5 (xs.map inj)] h fun out h' => out = .ret (.ms h.nb 0 xs.length 5) ∧ h' = h.new ((xs.map inj).flatMap AV.cells) := by
  cases xs with
  | nil => exact absurd rfl hne
  | cons x xs =>
    have := clone5_box (inj x) (xs.map inj) (by simp only [List.length_cons] at hl; rw [List.length_map]; omega) h
    rw [List.length_cons, List.length_map] at this
    exact this
theorem ins1_box' (ks : List ByteArray) (key : ByteArray) (i : Nat) (hl : ks.length < 1000000) (hi : i ≤ ks.length) (h : AH) (b : Nat) (hb : h.box b = some (ks.map .str)) (hbn : b < h.nb) :
    ACalls Tryz.prog 85 [.ms b 0 ks.length 1, .int .i64 i, .sl .full 1 [.str key]] h fun out h' => out = .ret (.sl .ro 1 ((ks.take i ++ key :: ks.drop i).map .str)) ∧ h' = h.kill b := by
  have := insstrs_calls (ks.map .str) (.str key) i (fun x hx => by obtain ⟨k, _, rfl⟩ := List.mem_map.1 hx; rfl) rfl rfl (strs_under ks) rfl (by rw [List.length_map]; exact hl) (by rw [List.length_map]; exact hi) h b (by rw [strs_cells]; exact hb) hbn
  rw [List.length_map] at this
  rw [List.map_append, List.map_cons, List.map_take, List.map_drop]
  exact this
theorem ins5_box' (xs : List V) (y : V) (i : Nat) (hl : xs.length < 1000000) (hi : i ≤ xs.length) (h : AH) (b : Nat) (hb : h.box b = some ((xs.map inj).flatMap AV.cells)) (hbn : b < h.nb) :
    ACalls Tryz.prog 87 [.ms b 0 xs.length 5, .int .i64 i, .sl .full 5 [inj y]] h fun out h' => out = .ret (.sl .ro 5 ((xs.take i ++ y :: xs.drop i).map inj)) ∧ h' = h.kill b := by
  have := insvals_calls (xs.map inj) (inj y) i (fun x hx => by obtain ⟨k, _, rfl⟩ := List.mem_map.1 hx; exact inj_len k) (inj_len y) (inj_one y) (injs_under xs) (inj_under y) (by rw [List.length_map]; exact hl) (by rw [List.length_map]; exact hi) h b hb hbn
  rw [List.length_map] at this
  rw [List.map_append, List.map_cons, List.map_take, List.map_drop]
  exact this
theorem boxEq_new {l : Nat} {h : AH} {cs : List AV} (hn : l ≤ h.nb) : boxEq (some (.below l)) h (h.new cs) := fun b (hb : b < l) => by
  rw [new_box, if_neg (by omega)]
theorem boxEq_kill {l b : Nat} {h : AH} (hn : l ≤ b) : boxEq (some (.below l)) h (h.kill b) := fun c (hc : c < l) => by
  rw [kill_box, if_neg (by omega)]
end Go.Proofs.YtjdocenbfghglaaGreatDoor.AW
end
section
set_option linter.unusedSimpArgs false
set_option linter.unusedVariables false
namespace Go.Proofs.YtjdocenbfghglaaGreatDoor.AW
open Go Go.RowKit

def insV (v : V) (i : Nat) (k : ByteArray) (y : V) : V := .mk v.kind v.int v.text (v.items.take i ++ y :: v.items.drop i) (v.keys.take i ++ k :: v.keys.drop i)
def emptyV (k : Int) : V := .mk k 0 ⟨#[]⟩ [] []
def oldV (v : V) (s : Stp) : V := if (itemP v s).2 = true then v.items.getD (itemP v s).1.toNat zeroV else zeroV
def putIn (f : V → V × Int) (s : Stp) (v : V) : V × Int :=
  if (v.items.length : Int) < s.index then (zeroV, 3) else
  if (f (oldV v s)).2 ≠ 0 then (zeroV, (f (oldV v s)).2) else
  if (itemP v s).2 = true ∨ 0 ≤ s.index then (withV v (itemP v s).1.toNat (f (oldV v s)).1, 0) else (insV v (itemP v s).1.toNat s.key (f (oldV v s)).1, 0)
def kindOf (s : Stp) : Int := if s.index < 0 then 5 else 4
def putP : List Stp → V → V → V × Int
  | [], _, x => (x, 0)
  | s :: p, v, x => if v.kind = 0 then putIn (fun old => putP p old x) s (emptyV (kindOf s)) else if v.kind ≠ kindOf s then (zeroV, 8) else putIn (fun old => putP p old x) s v
theorem empty_ok {k : Int} (hk : k = 4 ∨ k = 5) : Vok (emptyV k) := by
  refine ⟨1, ?_⟩
  show (if (0 : Nat) > 60 then 61 else if shape (emptyV k) = true then 1 else 61) ≤ 60
  have : shape (emptyV k) = true := by
    unfold emptyV
    rcases hk with rfl | rfl
    · rw [shape_4]; simp [plainS, V.int, V.text, V.items, V.keys]
    · rw [shape_5]; simp [plainS, V.int, V.text, V.items, V.keys, keysOk]
  rw [this]; decide

theorem wk_empty5 : Wk (.agg [.int .i64 5, .int .i64 0, .str ⟨#[]⟩, .sl .full 0 [], .sl .full 0 []]) (inj (emptyV 5)) := by
  unfold emptyV; rw [inj_mk]
  exact (WkAll.cons (.refl _) (.cons (.refl _) (.cons (.refl _) (.cons wk_nil5 (.cons wk_nil1 .nil))))).agg
theorem wk_empty4 : Wk (.agg [.int .i64 4, .int .i64 0, .str ⟨#[]⟩, .sl .full 0 [], .sl .full 0 []]) (inj (emptyV 4)) := by
  unfold emptyV; rw [inj_mk]
  exact (WkAll.cons (.refl _) (.cons (.refl _) (.cons (.refl _) (.cons wk_nil5 (.cons wk_nil1 .nil))))).agg
set_option maxHeartbeats 4000000 in
theorem put_pure : ∀ (p : List Stp) (v x : V), Wok v → p.length < 1000000 → Pure Tryz.prog 41 [inj v, .sl .ro 2 (p.map injS), inj x] (.tup [inj (putP p v x).1, .int .i64 (putP p v x).2]) := by
  intro p
  induction p with
  | nil =>
    intro v x hv hl
    refine Pure.of0 ⟨Tryz.f41, Tryz.func41, rfl, by kernel_rfl⟩ (by simp [AV.underL, inj_under, AV.under]) (by simp [putP, AV.under, AV.underL, inj_under]) ?_
    refine acalls_of te_ok [] Tryz.func41 (c := _) rfl (Nat.le_of_ble_eq_true rfl) ?_
    simp only [aws, eq_self, reduceIte, Nat.reduceAdd, Nat.reduceLT, Nat.reduceLeDiff, Nat.reduceEqDiff, acmpnil, storeB, ares1, teset, Tryz.ntmps41, Tryz.results41, inj_take, inj_agg, inj_len, inj_one, boxR, Int.natCast_zero]
    exact ⟨_, rfl, .refl _ _⟩
  | cons s p ih =>
    intro v x hv hl
    simp only [List.length_cons] at hl
    refine Pure.of0 ⟨Tryz.f41, Tryz.func41, rfl, by kernel_rfl⟩ (by have := injS_under (s :: p); simp only [AV.underL, inj_under, AV.under, Bool.true_and, Bool.and_true]; exact this) (by simp [AV.under, AV.underL, inj_under]) ?_
    have hl1 : (((p.length + 1 : Nat) : Int) == 0) = false := by rw [beq_eq_false_iff_ne]; omega
    have hsh := hv.shape
    have takep : List.take p.length (p.map injS) = p.map injS := List.take_of_length_le (by simp)
    obtain ⟨ix, key⟩ := s
    obtain ⟨k, n, t, xs, ks⟩ := v
    rw [inj_mk]
    refine acalls_of te_ok [79, 80, 81] Tryz.func41 (c := _) rfl (Nat.le_of_ble_eq_true rfl) ?_
    simp only [aws, eq_self, reduceIte, Nat.reduceAdd, Nat.reduceLT, Nat.reduceLeDiff, Nat.reduceEqDiff, Int.reduceLE, Int.reduceToNat, acmpnil, storeB, teset, Tryz.ntmps41, Tryz.results41, inj_one, List.length_map, boxR, hl1, injS]
    cases hneg : decide (ix < 0) with
    | true =>
      have hneg' : ix < 0 := by simpa using hneg
      have hk5 : kindOf ⟨ix, key⟩ = 5 := if_pos hneg'
      have hge : decide (ix ≥ 0) = false := by rw [decide_eq_false_iff_not]; omega
      have hg0 : decide (ix > 0) = false := by rw [decide_eq_false_iff_not]; omega
      cases h0 : (k == 0) with
      | true =>
        have hk0 : k = 0 := by simpa using h0
        simp only [aws, eq_self, reduceIte, Nat.reduceAdd, Nat.reduceLT, Nat.reduceLeDiff, Nat.reduceEqDiff, acmpnil, storeB, afill, teset, h0, hg0, Int.natCast_zero]
        refine ACallV.pureW (pitem_pure (empty_ok (.inr rfl)) ⟨ix, key⟩) (WkAll.cons wk_empty5 (.cons (.refl _) .nil)) ?_
        rw [itemP_5 hneg' rfl, show lb (emptyV 5).keys key = 0 from rfl, show foundS (emptyV 5).keys key = false from rfl]
        simp only [aws, eq_self, reduceIte, Nat.reduceAdd, Nat.reduceLT, Nat.reduceLeDiff, Nat.reduceEqDiff, storeB, afill, teset, Int.natCast_zero]
        refine acode_draw_chain te_ok mixed [] (by kernel_rfl) ?_
        simp only [aws, eq_self, implies_true, imp_self, reduceIte, reduceCtorEq, Nat.reduceAdd, Nat.reduceLT, Nat.reduceLeDiff, Nat.reduceEqDiff, Int.reduceLE, Int.reduceToNat, acmpnil, storeB, teset, inj_take, inj_agg, inj_len, List.length_map, Nat.add_sub_cancel, takep, Nat.le_refl]
        refine skR_pureW (ih zeroV x zero_ok (by omega)) (WkAll.cons wk_zero (.cons (.refl _) (.cons (.refl _) .nil))) ?_
        have hspec : putP (⟨ix, key⟩ :: p) (.mk k n t xs ks) x = if (putP p zeroV x).2 ≠ 0 then (zeroV, (putP p zeroV x).2) else (insV (emptyV 5) 0 key (putP p zeroV x).1, 0) := by
          simp only [putP, V.kind, hk5]
          rw [if_pos hk0]
          unfold putIn oldV
          rw [itemP_5 hneg' rfl, show lb (emptyV 5).keys key = 0 from rfl, show foundS (emptyV 5).keys key = false from rfl]
          have : ¬ (((emptyV 5).items.length : Int) < ix) := by show ¬ ((0 : Int) < ix); omega
          rw [if_neg this]
          simp only [Bool.false_eq_true, if_false, false_or]
          have h2 : ¬ (0 ≤ ix) := by omega
          rw [if_neg h2]; rfl
        rw [hspec]
        generalize putP p zeroV x = q
        obtain ⟨y, e⟩ := q
        simp only [aws, ne_eq, eq_self, reduceIte, Nat.reduceAdd, Nat.reduceEqDiff, inj_len, inj_one]
        have hbn : (e != 0) = !decide (e = 0) := by by_cases h : e = 0 <;> simp [h]
        by_cases he : e = 0
        · subst he
          simp only [aws, eq_self, implies_true, reduceIte, Nat.reduceAdd, Nat.reduceLT, Nat.reduceEqDiff, Nat.reduceBEq, Int.reduceBNe, acmpnil, teset, hge]
          refine acode_draw_chainL (some (.below 6)) te_ok mixed [2, 7, 10, 14] (by kernel_rfl) ?_
          simp only [aws, eq_self, reduceIte, Nat.reduceAdd, Nat.reduceLT, Nat.reduceLeDiff, Nat.reduceEqDiff, Nat.reduceMul, Nat.reduceBEq, storeB, teset, lowRd_some]
          refine skR_act (by decide) (ACallV.of ⟨Tryz.f86, Tryz.func86, rfl, by kernel_rfl⟩ (ACalls.wk (WkAll.cons wk_nil1 .nil) (clone1_nil _))) (boxEq.refl _ _) ?_
          simp only [aws, eq_self, reduceIte, Nat.reduceAdd, range1]
          refine skR_act (by decide) (ACallV.of ⟨Tryz.f85, Tryz.func85, rfl, by kernel_rfl⟩ ((ins1_nil (.str key) rfl rfl).calls _)) (boxEq.refl _ _) ?_
          simp only [aws, eq_self, reduceIte, Nat.reduceAdd]
          refine skR_act (by decide) (ACallV.of ⟨Tryz.f88, Tryz.func88, rfl, by kernel_rfl⟩ (ACalls.wk (WkAll.cons wk_nil5 .nil) (clone5_nil _))) (boxEq.refl _ _) ?_
          simp only [aws, eq_self, reduceIte, Nat.reduceAdd, Nat.reduceLeDiff, inj_take, inj_agg, inj_len, inj_one, inj_len, inj_one]
          refine skR_act (by decide) (ACallV.of ⟨Tryz.f87, Tryz.func87, rfl, by kernel_rfl⟩ ((ins5_nil (inj y) (inj_len y) (inj_under y)).calls _)) (boxEq.refl _ _) ?_
          simp only [aws, eq_self, reduceIte, Nat.reduceAdd, Nat.reduceLT, Nat.reduceLeDiff, Nat.reduceEqDiff, storeB, ares1, teset]
          refine ⟨_, rfl, ?_⟩
          unfold insV emptyV
          rw [inj_mk]
          exact .refl _ _
        · have he2 : (e != 0) = true := by simpa using he
          simp only [aws, eq_self, reduceIte, Nat.reduceAdd, Nat.reduceLT, Nat.reduceLeDiff, Nat.reduceEqDiff, storeB, ares1, afill, teset, he2]
          refine ⟨_, rfl, ?_⟩
          rw [if_pos he]
          exact .wk (WkAll.cons wk_zero (.cons (.refl _) .nil)).tup
      | false =>
        cases h5 : (k == 5) with
        | false =>
          have hk0 : ¬ k = 0 := by simpa using h0
          have hk5' : ¬ k = 5 := by simpa using h5
          have h5n : (k != 5) = true := by simpa using hk5'
          simp only [aws, eq_self, reduceIte, Nat.reduceAdd, Nat.reduceLT, Nat.reduceLeDiff, Nat.reduceEqDiff, acmpnil, storeB, ares1, afill, teset, h0, h5n]
          refine ⟨_, rfl, ?_⟩
          have : putP (⟨ix, key⟩ :: p) (.mk k n t xs ks) x = (zeroV, 8) := by simp only [putP, V.kind, hk5]; rw [if_neg hk0, if_pos hk5']
          rw [this]
          exact .wk (WkAll.cons wk_zero (.cons (.refl _) .nil)).tup
        | true =>
          have hgx : decide (ix > (xs.length : Int)) = false := by rw [decide_eq_false_iff_not]; omega
          have hk0 : ¬ k = 0 := by simpa using h0
          have hk5' : k = 5 := by simpa using h5
          have h5n : (k != 5) = false := by rw [hk5']; rfl
          simp only [aws, eq_self, reduceIte, Nat.reduceAdd, Nat.reduceLT, Nat.reduceLeDiff, Nat.reduceEqDiff, acmpnil, teset, List.length_map, h0, h5n, hgx]
          subst hk5'
          have hlen : ks.length = xs.length := by
            have h1 := hsh.1
            rw [shape_5] at h1
            simp only [Bool.and_eq_true, beq_iff_eq] at h1
            exact h1.1.2
          have hitem := pitem_pure hv ⟨ix, key⟩
          have hin := itemP_in hv ⟨ix, key⟩
          have hi5 : itemP (.mk 5 n t xs ks) ⟨ix, key⟩ = ((lb ks key : Int), foundS ks key) := itemP_5 hneg' rfl
          have hlb := lb_le ks key
          rw [hi5] at hin
          rw [inj_mk, hi5] at hitem
          simp only [V.items] at hin
          have hspec : putP (⟨ix, key⟩ :: p) (.mk 5 n t xs ks) x = if (putP p (oldV (.mk 5 n t xs ks) ⟨ix, key⟩) x).2 ≠ 0 then (zeroV, (putP p (oldV (.mk 5 n t xs ks) ⟨ix, key⟩) x).2) else if foundS ks key = true then (withV (.mk 5 n t xs ks) (lb ks key) (putP p (oldV (.mk 5 n t xs ks) ⟨ix, key⟩) x).1, 0) else (insV (.mk 5 n t xs ks) (lb ks key) key (putP p (oldV (.mk 5 n t xs ks) ⟨ix, key⟩) x).1, 0) := by
            simp only [putP, V.kind, hk5]
            rw [if_neg (by decide), if_neg (by decide)]
            unfold putIn
            rw [hi5]
            simp only [V.items, Int.toNat_natCast]
            have h2 : ¬ ((xs.length : Int) < ix) := by omega
            have h3 : ¬ (0 ≤ ix) := by omega
            simp only [if_neg h2, h3, or_false]
          rw [hspec]
          refine ACallV.pure hitem ?_
          cases hf : foundS ks key with
          | true =>
            have hltx : lb ks key < xs.length := by have := (hin hf).2; rwa [Int.toNat_natCast] at this
            have hget2 : (xs.map inj)[lb ks key]? = some (inj xs[lb ks key]) := by rw [List.getElem?_map, List.getElem?_eq_getElem hltx]; rfl
            have hold : oldV (.mk 5 n t xs ks) ⟨ix, key⟩ = xs[lb ks key] := by
              unfold oldV; rw [hi5]; simp only [hf, if_true, V.items, Int.toNat_natCast]
              rw [List.getD_eq_getElem?_getD, List.getElem?_eq_getElem hltx]; rfl
            rw [hold]
            have hvo : Wok xs[lb ks key] := hv.items _ (List.getElem_mem _)
            have ih1 := ih xs[lb ks key] x hvo (by omega)
            simp only [aws, ne_eq, eq_self, reduceIte, Nat.reduceAdd, Nat.reduceLT, Nat.reduceLeDiff, Nat.reduceEqDiff, storeB, afill, teset, inj_take, inj_agg, inj_len, inj_one, hget2, Int.natCast_nonneg, Int.toNat_natCast]
            refine acode_draw_chain te_ok mixed [] (by kernel_rfl) ?_
            simp only [aws, eq_self, implies_true, imp_self, reduceIte, reduceCtorEq, Nat.reduceAdd, Nat.reduceLT, Nat.reduceLeDiff, Nat.reduceEqDiff, Int.reduceLE, Int.reduceToNat, acmpnil, storeB, teset, inj_take, inj_agg, inj_len, List.length_map, Nat.add_sub_cancel, takep, Nat.le_refl]
            refine skR_pure ih1 ?_
            have hwp := fun y => with_pure (.mk 5 n t xs ks) (lb ks key) y (Nat.le_of_lt hltx) (by show xs.length < 1000000; have := hsh.2; simp only [V.items] at this; omega)
            rw [inj_mk] at hwp
            generalize putP p xs[lb ks key] x = q
            obtain ⟨y, e⟩ := q
            simp only [aws, eq_self, reduceIte, Nat.reduceAdd, Nat.reduceEqDiff, inj_len, inj_one]
            by_cases he : e = 0
            · subst he
              simp only [aws, eq_self, implies_true, imp_self, reduceIte, Nat.reduceAdd, Nat.reduceLT, Nat.reduceLeDiff, Nat.reduceEqDiff, Nat.reduceBEq, teset, inj_take, inj_agg, inj_len, bne_self_eq_false]
              refine ACallV.pure (hwp y) ?_
              simp only [aws, eq_self, reduceIte, Nat.reduceAdd, Nat.reduceLT, Nat.reduceLeDiff, Nat.reduceEqDiff, storeB, ares1, teset, inj_take, inj_agg, inj_len, inj_one]
              exact ⟨_, rfl, .refl _ _⟩
            · have he2 : (e != 0) = true := by simpa using he
              simp only [aws, eq_self, reduceIte, Nat.reduceAdd, Nat.reduceLT, Nat.reduceLeDiff, Nat.reduceEqDiff, storeB, ares1, afill, teset, he2]
              refine ⟨_, rfl, ?_⟩
              rw [if_pos he]
              exact .wk (WkAll.cons wk_zero (.cons (.refl _) .nil)).tup
          | false =>
            have hold : oldV (.mk 5 n t xs ks) ⟨ix, key⟩ = zeroV := by unfold oldV; rw [hi5]; simp [hf]
            rw [hold]
            simp only [aws, ne_eq, eq_self, reduceIte, Nat.reduceAdd, Nat.reduceLT, Nat.reduceLeDiff, Nat.reduceEqDiff, storeB, afill, teset]
            refine acode_draw_chain te_ok mixed [] (by kernel_rfl) ?_
            simp only [aws, eq_self, implies_true, imp_self, reduceIte, reduceCtorEq, Nat.reduceAdd, Nat.reduceLT, Nat.reduceLeDiff, Nat.reduceEqDiff, Int.reduceLE, Int.reduceToNat, acmpnil, storeB, teset, inj_take, inj_agg, inj_len, List.length_map, Nat.add_sub_cancel, takep, Nat.le_refl]
            refine skR_pureW (ih zeroV x zero_ok (by omega)) (WkAll.cons wk_zero (.cons (.refl _) (.cons (.refl _) .nil))) ?_
            generalize putP p zeroV x = q
            obtain ⟨y, e⟩ := q
            simp only [aws, eq_self, reduceIte, Nat.reduceAdd, Nat.reduceEqDiff, inj_len, inj_one]
            by_cases he : e = 0
            · subst he
              simp only [aws, eq_self, implies_true, reduceIte, Nat.reduceAdd, Nat.reduceLT, Nat.reduceEqDiff, Nat.reduceBEq, acmpnil, teset, hge, bne_self_eq_false]
              refine acode_draw_chainL (some (.below 6)) te_ok mixed [2, 7, 10, 14] (by kernel_rfl) ?_
              simp only [aws, eq_self, reduceIte, Nat.reduceAdd, Nat.reduceLT, Nat.reduceLeDiff, Nat.reduceEqDiff, Nat.reduceMul, Nat.reduceBEq, storeB, teset, lowRd_some]
              have hx6 : xs.length < 1000000 := by have := hsh.2; simp only [V.items] at this; omega
              by_cases hne : ks = []
              · subst hne
                have hxe : xs = [] := List.eq_nil_of_length_eq_zero hlen.symm
                subst hxe
                rw [show lb [] key = 0 from rfl]
                refine skR_act (by decide) (ACallV.of ⟨Tryz.f86, Tryz.func86, rfl, by kernel_rfl⟩ (clone1_nil _)) (boxEq.refl _ _) ?_
                simp only [aws, eq_self, reduceIte, Nat.reduceAdd, range1]
                refine skR_act (by decide) (ACallV.of ⟨Tryz.f85, Tryz.func85, rfl, by kernel_rfl⟩ ((ins1_nil (.str key) rfl rfl).calls _)) (boxEq.refl _ _) ?_
                simp only [aws, eq_self, reduceIte, Nat.reduceAdd]
                refine skR_act (by decide) (ACallV.of ⟨Tryz.f88, Tryz.func88, rfl, by kernel_rfl⟩ (clone5_nil _)) (boxEq.refl _ _) ?_
                simp only [aws, eq_self, reduceIte, Nat.reduceAdd, Nat.reduceLeDiff, inj_take, inj_agg, inj_len, inj_one, inj_len, inj_one]
                refine skR_act (by decide) (ACallV.of ⟨Tryz.f87, Tryz.func87, rfl, by kernel_rfl⟩ ((ins5_nil (inj y) (inj_len y) (inj_under y)).calls _)) (boxEq.refl _ _) ?_
                simp only [aws, eq_self, reduceIte, Nat.reduceAdd, Nat.reduceLT, Nat.reduceLeDiff, Nat.reduceEqDiff, storeB, ares1, teset]
                refine ⟨_, rfl, ?_⟩
                unfold insV
                rw [inj_mk]
                exact .refl _ _
              · have hxe : xs ≠ [] := fun h => hne (List.eq_nil_of_length_eq_zero (by rw [hlen, h]; rfl))
                refine skR_act (by decide) (ACallV.of ⟨Tryz.f86, Tryz.func86, rfl, by kernel_rfl⟩ (clone1_box' ks hne (by omega) _)) (boxEq_new (Nat.le_refl 6)) ?_
                simp only [aws, eq_self, reduceIte, Nat.reduceAdd, range1]
                refine skR_act (by decide) (ACallV.of ⟨Tryz.f85, Tryz.func85, rfl, by kernel_rfl⟩ (ins1_box' ks key (lb ks key) (by omega) hlb _ 6 (by simp only [aws, eq_self, reduceIte, Nat.reduceAdd]) (by simp only [aws, Nat.reduceAdd, Nat.reduceLT]))) (boxEq_kill (Nat.le_refl 6)) ?_
                simp only [aws, eq_self, reduceIte, Nat.reduceAdd]
                refine skR_act (by decide) (ACallV.of ⟨Tryz.f88, Tryz.func88, rfl, by kernel_rfl⟩ (clone5_box' xs hxe hx6 _)) (boxEq_new (Nat.le_succ 6)) ?_
                simp only [aws, eq_self, reduceIte, Nat.reduceAdd, Nat.reduceLeDiff, inj_take, inj_agg, inj_len, inj_one, inj_len, inj_one]
                refine skR_act (by decide) (ACallV.of ⟨Tryz.f87, Tryz.func87, rfl, by kernel_rfl⟩ (ins5_box' xs y (lb ks key) hx6 (by omega) _ 7 (by simp only [aws, eq_self, reduceIte, Nat.reduceAdd]) (by simp only [aws, Nat.reduceAdd, Nat.reduceLT]))) (boxEq_kill (Nat.le_succ 6)) ?_
                simp only [aws, eq_self, reduceIte, Nat.reduceAdd, Nat.reduceLT, Nat.reduceLeDiff, Nat.reduceEqDiff, storeB, ares1, teset]
                refine ⟨_, rfl, ?_⟩
                unfold insV
                rw [inj_mk]
                exact .refl _ _
            · have he2 : (e != 0) = true := by simpa using he
              simp only [aws, eq_self, reduceIte, Nat.reduceAdd, Nat.reduceLT, Nat.reduceLeDiff, Nat.reduceEqDiff, storeB, ares1, afill, teset, he2]
              refine ⟨_, rfl, ?_⟩
              rw [if_pos he]
              exact .wk (WkAll.cons wk_zero (.cons (.refl _) .nil)).tup
    | false =>
      have hneg' : ¬ ix < 0 := by simpa using hneg
      obtain ⟨m, rfl⟩ : ∃ m : Nat, ix = m := ⟨ix.toNat, by omega⟩
      have hk4 : kindOf ⟨(m : Int), key⟩ = 4 := if_neg hneg'
      have hge : decide ((m : Int) ≥ 0) = true := by simp
      cases h0 : (k == 0) with
      | true =>
        have hk0 : k = 0 := by simpa using h0
        have hsp0 : putP (⟨(m : Int), key⟩ :: p) (.mk k n t xs ks) x = putIn (fun old => putP p old x) ⟨(m : Int), key⟩ (emptyV 4) := by
          simp only [putP, V.kind, hk4]
          rw [if_pos hk0]
        by_cases hm : m = 0
        · subst hm
          have hi4 : itemP (emptyV 4) ⟨((0 : Nat) : Int), key⟩ = (0, false) := by rw [itemP_4 (by simp) rfl]; rfl
          have hspec : putP (⟨((0 : Nat) : Int), key⟩ :: p) (.mk k n t xs ks) x = if (putP p zeroV x).2 ≠ 0 then (zeroV, (putP p zeroV x).2) else (withV (emptyV 4) 0 (putP p zeroV x).1, 0) := by
            rw [hsp0]
            unfold putIn oldV
            rw [hi4]
            have : ¬ (((emptyV 4).items.length : Int) < ((0 : Nat) : Int)) := by show ¬ ((0 : Int) < 0); omega
            rw [if_neg this]
            simp
          rw [hspec]
          have hwp := fun y => with_pure (emptyV 4) 0 y (Nat.zero_le _) (by show 0 < 1000000; omega)
          have hg0 : decide ((0 : Int) > 0) = false := rfl
          have hl0 : decide ((0 : Int) < 0) = false := rfl
          have hge0 : decide ((0 : Int) ≥ 0) = true := rfl
          simp only [aws, ne_eq, eq_self, reduceIte, Nat.reduceAdd, Nat.reduceLT, Nat.reduceLeDiff, Nat.reduceEqDiff, Int.reduceGT, acmpnil, storeB, afill, teset, h0, Int.natCast_zero]
          refine ACallV.pureW (pitem_pure (empty_ok (.inl rfl)) ⟨((0 : Nat) : Int), key⟩) (WkAll.cons wk_empty4 (.cons (.refl _) .nil)) ?_
          rw [hi4]
          simp only [aws, eq_self, reduceIte, Nat.reduceAdd, Nat.reduceLT, Nat.reduceLeDiff, Nat.reduceEqDiff, storeB, afill, teset]
          refine acode_draw_chain te_ok mixed [] (by kernel_rfl) ?_
          simp only [aws, eq_self, implies_true, imp_self, reduceIte, reduceCtorEq, Nat.reduceAdd, Nat.reduceLT, Nat.reduceLeDiff, Nat.reduceEqDiff, Int.reduceLE, Int.reduceToNat, acmpnil, storeB, teset, inj_take, inj_agg, inj_len, List.length_map, Nat.add_sub_cancel, takep, Nat.le_refl]
          refine skR_pureW (ih zeroV x zero_ok (by omega)) (WkAll.cons wk_zero (.cons (.refl _) (.cons (.refl _) .nil))) ?_
          generalize putP p zeroV x = q
          obtain ⟨y, e⟩ := q
          simp only [aws, eq_self, reduceIte, Nat.reduceAdd, Nat.reduceEqDiff, inj_len, inj_one]
          by_cases he : e = 0
          · subst he
            simp only [aws, eq_self, implies_true, reduceIte, Nat.reduceAdd, Nat.reduceLT, Nat.reduceLeDiff, Nat.reduceEqDiff, Nat.reduceBEq, Int.reduceGE, acmpnil, teset, inj_take, inj_agg, inj_len, bne_self_eq_false]
            refine ACallV.pureW (hwp y) (WkAll.cons wk_empty4 (.cons (.refl _) (.cons (.refl _) .nil))) ?_
            simp only [aws, eq_self, reduceIte, Nat.reduceAdd, Nat.reduceLT, Nat.reduceLeDiff, Nat.reduceEqDiff, storeB, ares1, teset, inj_take, inj_agg, inj_len, inj_one]
            exact ⟨_, rfl, .refl _ _⟩
          · have he2 : (e != 0) = true := by simpa using he
            simp only [aws, eq_self, reduceIte, Nat.reduceAdd, Nat.reduceLT, Nat.reduceLeDiff, Nat.reduceEqDiff, storeB, ares1, afill, teset, he2]
            refine ⟨_, rfl, ?_⟩
            rw [if_pos he]
            exact .wk (WkAll.cons wk_zero (.cons (.refl _) .nil)).tup
        · have hg0 : decide ((m : Int) > 0) = true := by rw [decide_eq_true_eq]; omega
          simp only [aws, eq_self, reduceIte, Nat.reduceAdd, Nat.reduceLT, Nat.reduceLeDiff, Nat.reduceEqDiff, acmpnil, storeB, ares1, afill, teset, h0, hg0, Int.natCast_zero]
          refine ⟨_, rfl, ?_⟩
          rw [hsp0]
          unfold putIn
          have : (((emptyV 4).items.length : Int) < (m : Int)) := by show ((0 : Int) < m); omega
          rw [if_pos this]
          exact .wk (WkAll.cons wk_zero (.cons (.refl _) .nil)).tup
      | false =>
        have hk0 : ¬ k = 0 := by simpa using h0
        cases h4 : (k == 4) with
        | false =>
          have hk4' : ¬ k = 4 := by simpa using h4
          have h4n : (k != 4) = true := by simpa using hk4'
          simp only [aws, eq_self, reduceIte, Nat.reduceAdd, Nat.reduceLT, Nat.reduceLeDiff, Nat.reduceEqDiff, acmpnil, storeB, ares1, afill, teset, h0, h4n]
          refine ⟨_, rfl, ?_⟩
          have : putP (⟨(m : Int), key⟩ :: p) (.mk k n t xs ks) x = (zeroV, 8) := by simp only [putP, V.kind, hk4]; rw [if_neg hk0, if_pos hk4']
          rw [this]
          exact .wk (WkAll.cons wk_zero (.cons (.refl _) .nil)).tup
        | true =>
          have hk4' : k = 4 := by simpa using h4
          have h4n : (k != 4) = false := by rw [hk4']; rfl
          subst hk4'
          have hsp0 : putP (⟨(m : Int), key⟩ :: p) (.mk 4 n t xs ks) x = putIn (fun old => putP p old x) ⟨(m : Int), key⟩ (.mk 4 n t xs ks) := by
            simp only [putP, V.kind, hk4]
            rw [if_neg (by decide), if_neg (by decide)]
          rw [hsp0]
          unfold putIn
          simp only [V.items]
          by_cases hmx : xs.length < m
          · have hg0 : decide ((m : Int) > (xs.length : Int)) = true := by rw [decide_eq_true_eq]; omega
            simp only [aws, ne_eq, eq_self, reduceIte, Nat.reduceAdd, Nat.reduceLT, Nat.reduceLeDiff, Nat.reduceEqDiff, acmpnil, storeB, ares1, afill, teset, List.length_map, h0, h4n, hg0]
            refine ⟨_, rfl, ?_⟩
            rw [if_pos (by omega)]
            exact .wk (WkAll.cons wk_zero (.cons (.refl _) .nil)).tup
          · have hg0 : decide ((m : Int) > (xs.length : Int)) = false := by rw [decide_eq_false_iff_not]; omega
            rw [if_neg (show ¬ ((xs.length : Int) < (m : Int)) by omega)]
            have hx6 : xs.length < 1000000 := by have := hsh.2; simp only [V.items] at this; omega
            have hitem := pitem_pure hv ⟨(m : Int), key⟩
            have hi4 : itemP (.mk 4 n t xs ks) ⟨(m : Int), key⟩ = ((m : Int), decide ((m : Int) < (xs.length : Int))) := itemP_4 (by simp) rfl
            rw [inj_mk, hi4] at hitem
            rw [hi4]
            have hwp := fun y => with_pure (.mk 4 n t xs ks) m y (by show m ≤ xs.length; omega) hx6
            rw [inj_mk] at hwp
            have hor : ∀ b : Prop, (b ∨ 0 ≤ (m : Int)) = True := fun b => by simp
            simp only [Int.toNat_natCast, hor, if_true]
            simp only [aws, ne_eq, eq_self, reduceIte, Nat.reduceAdd, Nat.reduceLT, Nat.reduceLeDiff, Nat.reduceEqDiff, acmpnil, teset, List.length_map, h0, h4n, hg0]
            refine ACallV.pure hitem ?_
            by_cases hlt : m < xs.length
            · have hd : decide ((m : Int) < (xs.length : Int)) = true := by rw [decide_eq_true_eq]; omega
              have hget2 : (xs.map inj)[m]? = some (inj xs[m]) := by rw [List.getElem?_map, List.getElem?_eq_getElem hlt]; rfl
              have hold : oldV (.mk 4 n t xs ks) ⟨(m : Int), key⟩ = xs[m] := by
                unfold oldV; rw [hi4]; simp only [hd, if_true, V.items, Int.toNat_natCast]
                rw [List.getD_eq_getElem?_getD, List.getElem?_eq_getElem hlt]; rfl
              rw [hold]
              have ih1 := ih xs[m] x (hv.items _ (List.getElem_mem _)) (by omega)
              simp only [aws, eq_self, reduceIte, Nat.reduceAdd, Nat.reduceLT, Nat.reduceLeDiff, Nat.reduceEqDiff, storeB, afill, teset, inj_take, inj_agg, inj_len, inj_one, hd, hget2, Int.natCast_nonneg, Int.toNat_natCast]
              refine acode_draw_chain te_ok mixed [] (by kernel_rfl) ?_
              simp only [aws, eq_self, implies_true, imp_self, reduceIte, reduceCtorEq, Nat.reduceAdd, Nat.reduceLT, Nat.reduceLeDiff, Nat.reduceEqDiff, Int.reduceLE, Int.reduceToNat, acmpnil, storeB, teset, inj_take, inj_agg, inj_len, List.length_map, Nat.add_sub_cancel, takep, Nat.le_refl]
              refine skR_pure ih1 ?_
              generalize putP p xs[m] x = q
              obtain ⟨y, e⟩ := q
              simp only [aws, eq_self, reduceIte, Nat.reduceAdd, Nat.reduceEqDiff, inj_len, inj_one]
              by_cases he : e = 0
              · subst he
                simp only [aws, eq_self, implies_true, imp_self, reduceIte, Nat.reduceAdd, Nat.reduceLT, Nat.reduceLeDiff, Nat.reduceEqDiff, Nat.reduceBEq, teset, inj_take, inj_agg, inj_len, bne_self_eq_false]
                refine ACallV.pure (hwp y) ?_
                simp only [aws, eq_self, reduceIte, Nat.reduceAdd, Nat.reduceLT, Nat.reduceLeDiff, Nat.reduceEqDiff, storeB, ares1, teset, inj_take, inj_agg, inj_len, inj_one]
                exact ⟨_, rfl, .refl _ _⟩
              · have he2 : (e != 0) = true := by simpa using he
                simp only [aws, eq_self, reduceIte, Nat.reduceAdd, Nat.reduceLT, Nat.reduceLeDiff, Nat.reduceEqDiff, storeB, ares1, afill, teset, he2]
                refine ⟨_, rfl, ?_⟩
                rw [if_pos he]
                exact .wk (WkAll.cons wk_zero (.cons (.refl _) .nil)).tup
            · have hd : decide ((m : Int) < (xs.length : Int)) = false := by rw [decide_eq_false_iff_not]; omega
              have hold : oldV (.mk 4 n t xs ks) ⟨(m : Int), key⟩ = zeroV := by unfold oldV; rw [hi4]; simp only [hd, Bool.false_eq_true, if_false]
              rw [hold]
              simp only [aws, eq_self, reduceIte, Nat.reduceAdd, Nat.reduceLT, Nat.reduceLeDiff, Nat.reduceEqDiff, storeB, afill, teset, hd]
              refine acode_draw_chain te_ok mixed [] (by kernel_rfl) ?_
              simp only [aws, eq_self, implies_true, imp_self, reduceIte, reduceCtorEq, Nat.reduceAdd, Nat.reduceLT, Nat.reduceLeDiff, Nat.reduceEqDiff, Int.reduceLE, Int.reduceToNat, acmpnil, storeB, teset, inj_take, inj_agg, inj_len, List.length_map, Nat.add_sub_cancel, takep, Nat.le_refl]
              refine skR_pureW (ih zeroV x zero_ok (by omega)) (WkAll.cons wk_zero (.cons (.refl _) (.cons (.refl _) .nil))) ?_
              generalize putP p zeroV x = q
              obtain ⟨y, e⟩ := q
              simp only [aws, eq_self, reduceIte, Nat.reduceAdd, Nat.reduceEqDiff, inj_len, inj_one]
              by_cases he : e = 0
              · subst he
                simp only [aws, eq_self, implies_true, reduceIte, Nat.reduceAdd, Nat.reduceLT, Nat.reduceLeDiff, Nat.reduceEqDiff, Nat.reduceBEq, acmpnil, teset, inj_take, inj_agg, inj_len, hge, bne_self_eq_false]
                refine ACallV.pure (hwp y) ?_
                simp only [aws, eq_self, reduceIte, Nat.reduceAdd, Nat.reduceLT, Nat.reduceLeDiff, Nat.reduceEqDiff, storeB, ares1, teset, inj_take, inj_agg, inj_len, inj_one]
                exact ⟨_, rfl, .refl _ _⟩
              · have he2 : (e != 0) = true := by simpa using he
                simp only [aws, eq_self, reduceIte, Nat.reduceAdd, Nat.reduceLT, Nat.reduceLeDiff, Nat.reduceEqDiff, storeB, ares1, afill, teset, he2]
                refine ⟨_, rfl, ?_⟩
                rw [if_pos he]
                exact .wk (WkAll.cons wk_zero (.cons (.refl _) .nil)).tup
end Go.Proofs.YtjdocenbfghglaaGreatDoor.AW
end
section
set_option linter.unusedSimpArgs false
set_option linter.unusedVariables false
namespace Go.Proofs.YtjdocenbfghglaaGreatDoor.AW
open Go Go.RowKit

def wholeV (v : V) : V × Int := if valid v = true then (v, 0) else (zeroV, 2)
theorem tup2_under (v : V) (n : Int) : (AV.tup [inj v, .int .i64 n]).under 0 0 = true := by simp [AV.under, AV.underL, inj_under]
theorem whole_pure (v : V) (hv : v.sm) : Pure Tryz.prog 42 [inj v] (.tup [inj (wholeV v).1, .int .i64 (wholeV v).2]) := by
  refine Pure.of0 ⟨Tryz.f42, Tryz.func42, rfl, by kernel_rfl⟩ (by simp [AV.underL, inj_under]) (tup2_under _ _) ?_
  refine acalls_of te_ok [] Tryz.func42 (c := _) rfl (Nat.le_of_ble_eq_true rfl) ?_
  simp only [aws, eq_self, reduceIte, Nat.reduceLT, Nat.reduceLeDiff, teset, Tryz.ntmps42, Tryz.results42, inj_take, inj_agg, inj_len, inj_one, boxR]
  refine ACallV.pure (pvalid_pure v hv) ?_
  cases hval : valid v with
  | false =>
    simp only [aws, eq_self, reduceIte, Nat.reduceAdd, Nat.reduceLT, Nat.reduceLeDiff, storeB, ares1, afill, teset]
    refine ⟨_, rfl, ?_⟩
    have : wholeV v = (zeroV, 2) := by unfold wholeV; rw [hval]; rfl
    rw [this]
    exact .wk (WkAll.cons wk_zero (.cons (.refl _) .nil)).tup
  | true =>
    simp only [aws, eq_self, reduceIte, Nat.reduceLT, Nat.reduceLeDiff, teset, inj_take, inj_agg, inj_len]
    refine ACallV.pure (clone_pure v (valid_ok hval)) ?_
    simp only [aws, eq_self, reduceIte, Nat.reduceAdd, Nat.reduceLT, Nat.reduceLeDiff, storeB, ares1, teset, inj_take, inj_agg, inj_len, inj_one]
    refine ⟨_, rfl, ?_⟩
    have : wholeV v = (v, 0) := by unfold wholeV; rw [hval]; rfl
    rw [this]
    exact .refl _ _
end Go.Proofs.YtjdocenbfghglaaGreatDoor.AW
end
section
set_option linter.unusedSimpArgs false
set_option linter.unusedVariables false
namespace Go.Proofs.YtjdocenbfghglaaGreatDoor.AW
open Go Go.RowKit

theorem ba_ext {x y : ByteArray} (h : x.toList = y.toList) : x = y := by
  rw [ByteArray.toList_eq, ByteArray.toList_eq] at h
  obtain ⟨a⟩ := x
  obtain ⟨b⟩ := y
  congr
  exact Array.toList_inj.1 h
theorem ba_ne {x y : ByteArray} (h : x ≠ y) : (x.toList == y.toList) = false := by
  rw [beq_eq_false_iff_ne]; exact fun e => h (ba_ext e)
instance : DecidableEq Stp := fun a b => by
  obtain ⟨i, k⟩ := a
  obtain ⟨j, l⟩ := b
  by_cases h1 : i = j
  · by_cases h2 : k = l
    · exact isTrue (by rw [h1, h2])
    · exact isFalse (fun e => h2 (by injection e))
  · exact isFalse (fun e => h1 (by injection e))

theorem found_at {ks : List ByteArray} {k : ByteArray} (h : foundS ks k = true) : ks[lb ks k]? = some k := by
  unfold foundS at h
  cases hx : ks[lb ks k]? with
  | none => rw [hx] at h; cases h
  | some x => rw [hx] at h; simp only [beq_iff_eq] at h; rw [ba_ext h]
theorem itemS_no {v : V} {s : Stp} (h5 : ¬ (s.index < 0 ∧ v.kind = 5)) (h4 : ¬ (0 ≤ s.index ∧ v.kind = 4)) : itemS v s = none := by
  unfold itemS
  split
  · rw [if_neg (fun h => h4 ⟨by assumption, h⟩)]
  · rw [if_neg (fun h => h5 ⟨by omega, h⟩)]
end Go.Proofs.YtjdocenbfghglaaGreatDoor.AW
end
section
set_option linter.unusedSimpArgs false
set_option linter.unusedVariables false
namespace Go.Proofs.YtjdocenbfghglaaGreatDoor.AW
open Go Go.RowKit

def delV (v : V) (i : Nat) : V := .mk v.kind v.int v.text (v.items.eraseIdx i) (if v.kind = 5 then v.keys.eraseIdx i else v.keys)
def withoutP : List Stp → V → V
  | [], v => v
  | [s], v => delV v (itemP v s).1.toNat
  | s :: t :: p, v => withV v (itemP v s).1.toNat (withoutP (t :: p) (v.items.getD (itemP v s).1.toNat zeroV))
theorem kinds {k : Int} {s : Stp} (hk : k = kindOf s) : (s.index < 0 ∧ k = 5) ∨ (0 ≤ s.index ∧ k = 4) := by
  unfold kindOf at hk
  by_cases h : s.index < 0
  · rw [if_pos h] at hk; exact .inl ⟨h, hk⟩
  · rw [if_neg h] at hk; exact .inr ⟨by omega, hk⟩
theorem item_found {v o : V} {s : Stp} (hv : Wok v) (h : itemS v s = some o) : (itemP v s).2 = true ∧ v.items[(itemP v s).1.toNat]? = some o := by
  rw [itemP_spec hv] at h
  split at h
  · next hf => exact ⟨hf, h⟩
  · cases h
theorem shape4 {v : V} (hv : Wok v) (h4 : v.kind = 4) : v.int = 0 ∧ v.text = ⟨#[]⟩ ∧ v.keys = [] := by
  obtain ⟨h, _⟩ := hv.shape
  obtain ⟨k, i, t, xs, ks⟩ := v
  simp only [V.kind] at h4
  subst h4
  rw [shape_4] at h
  simp only [plainS, V.int, V.text, V.items, V.keys, Bool.false_or, Bool.true_or, Bool.and_true, Bool.and_eq_true, beq_iff_eq] at h ⊢
  exact ⟨h.1.1, ba_ext h.1.2, List.eq_nil_of_length_eq_zero (by omega)⟩
theorem shape5 {v : V} (hv : Wok v) (h5 : v.kind = 5) : v.int = 0 ∧ v.text = ⟨#[]⟩ ∧ v.keys.length = v.items.length ∧ Asc v.keys := by
  obtain ⟨h, _⟩ := hv.shape
  have ha := shape_asc h h5
  obtain ⟨k, i, t, xs, ks⟩ := v
  simp only [V.kind] at h5
  subst h5
  rw [shape_5] at h
  simp only [plainS, V.int, V.text, V.items, V.keys, Bool.false_or, Bool.true_or, Bool.and_true, Bool.and_eq_true, beq_iff_eq] at h ⊢
  exact ⟨h.1.1.1, ba_ext h.1.1.2, h.1.2, ha⟩
end Go.Proofs.YtjdocenbfghglaaGreatDoor.AW
end
section
set_option linter.unusedSimpArgs false
set_option linter.unusedVariables false
namespace Go.Proofs.YtjdocenbfghglaaGreatDoor.AW
open Go Go.RowKit

end Go.Proofs.YtjdocenbfghglaaGreatDoor.AW
end
