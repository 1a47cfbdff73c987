/- Texts of this claim, part 6: V11, V12, V13, V14, V73, V15, V16, V17, V175, V18. -/
import Derived.Test.YtlbhgoffiigfbaaGreatUb1
import Derived.Tactics
import Derived.Tactics2
import Derived.Shelf.Strings.FuncGrows
import Derived.Test.YtlbhgoffiigfbaaGreatAw22
import Derived.Test.YtlbhgoffiigfbaaGreatAw23
section
set_option linter.unusedSimpArgs false
set_option linter.unusedVariables false
namespace Go.Proofs.YtlbhgoffiigfbaaGreat.AW
open Go Go.RowKit

def badRune (x : Nat) : Bool := decide ((x : Int) < 32) || decide ((x : Int) > 126)
theorem textfn_pure (x : Nat) : Pure Tryz.prog 67 [.int .i32 x] (.bool (badRune x)) := by
  refine Pure.of ⟨Tryz.f67, Tryz.func67, rfl, by kernel_rfl⟩ rfl (fun h => ?_)
  refine acalls_of te_ok [6, 7] Tryz.func67 (c := _) rfl (Nat.le_of_ble_eq_true rfl) ?_
  simp only [aws, eq_self, implies_true, imp_self, reduceIte, Nat.reduceLT, Nat.reduceBEq, acmpnil, ares1, Tryz.ntmps67, Tryz.results67]
  exact ⟨.refl _, _, rfl, rfl⟩
theorem iter_drawn (w : World) (k : Nat) (s : ByteArray) (pos : Nat) : (w.iterAt k s pos).drawn = w.drawn := rfl
theorem bel_iter {B : Nat} {a w : World} (h : Bel B a w) {k : Nat} (hk : B ≤ k) (s : ByteArray) (pos : Nat) : Bel B a (w.iterAt k s pos) := ⟨Lib.below_iterAt h.toBelow hk s pos, by rw [iter_drawn]; exact h.drawn⟩
theorem textfn_calls (R : Nat) (W : World) : Calls Tryz.prog 67 #[.int .i32 (R : Int)] W fun e w' => e = .returned (.bool (badRune R)) ∧ Bel W.heap.size W w' := by
  refine Calls.mono ((textfn_pure R).calls_below #[.int .i32 R] W rfl (fun i c hi => by
    cases i with
    | zero => simp at hi; subst hi; exact .int _ _
    | succ i => simp at hi)) ?_
  rintro e w' ⟨⟨c, m, rfl, hc⟩, h2⟩
  exact ⟨by rw [hc.bool_inv], h2⟩
set_option maxHeartbeats 2000000 in
set_option maxRecDepth 100000 in
/-- What the search for a bad rune does to the world: an iterator, and draws. -/
theorem index_calls (s : ByteArray) (w : World) : Calls Tryz.prog 72 #[.string s, .func (.func 67) #[] #[], .bool true] w fun e w' => e = .returned (.int .i64 (Lib.idxFunc badRune true s)) ∧ Bel w.heap.size w w' := by
  have enters : ∀ args w, (callFunc 67 args).run Tryz.prog w = .ok (.enter 67 args) w := Go.Proofs.enters_of Tryz.func67 (by kernel_rfl) rfl
  go_enter Tryz.func72, Tryz.ntmps72
  go_wp2
  go_loopg [] s.size (fun left wx => ∃ pos : Nat, wx.heap[w.heap.size]? = some (.stringIter s pos) ∧ Bel w.heap.size w wx ∧ Lib.idxFuncFrom badRune true s left pos = Lib.idxFunc badRune true s ∧ s.size ≤ pos + left)
  case atStart => exact ⟨0, World.iter_heap w s 0, (Bel.refl _ w).alloc (Nat.le_refl _) _, rfl, by omega⟩
  case round =>
    obtain ⟨pos, hit, hbel, hrest, hleft⟩ := hrel
    by_cases hend : pos < s.size
    · obtain ⟨left, rfl⟩ : ∃ n, gk = n + 1 := ⟨gk - 1, by omega⟩
      have hnext : ∀ ty, (Instr.next (.pointer (some ⟨w.heap.size, 0, none⟩)) true ty).run Tryz.prog wr = _ := fun ty => Lib.run_next_any_at wr w.heap.size s pos ty hit hend
      have hwide := Lib.width_pos s pos
      simp only [Lib.idxFuncFrom, hend, if_true] at hrest
      generalize (Utf8.decode s pos).1 = R at hnext hrest
      generalize (Utf8.decode s pos).2 = K at hnext hrest hwide
      have hit' := Lib.iterAt_heap wr w.heap.size s pos (pos + K) hit
      have hbel' := bel_iter hbel (Nat.le_refl _) s (pos + K)
      generalize wr.iterAt w.heap.size s (pos + K) = W at hnext hit' hbel'
      have hlt : w.heap.size < W.heap.size := (Array.getElem?_eq_some_iff.1 hit').1
      have hcall := textfn_calls R W
      cases hb : badRune R <;> rw [hb] at hcall <;> simp only [hb, if_true, Bool.false_eq_true, if_false] at hrest
      · go_wp2_with (go_at_fn 67; refine hcall.mono ?_; rintro e W' ⟨rfl, hc⟩)
        go_roundg left
        case measure => omega
        case rel => exact ⟨pos + K, (hc.block _ hlt).trans hit', hbel'.trans (hc.mono hbel'.size), hrest, by omega⟩
      · go_wp2_with (go_at_fn 67; refine hcall.mono ?_; rintro e W' ⟨rfl, hc⟩)
        go_ret
        exact ⟨by rw [← hrest] <;> rfl, hbel'.trans (hc.mono hbel'.size)⟩
    · have hnext : ∀ ty, (Instr.next (.pointer (some ⟨w.heap.size, 0, none⟩)) true ty).run Tryz.prog wr = _ := fun ty => Lib.run_next_end_at wr w.heap.size s pos ty hit hend
      rw [Lib.idxFuncFrom_end badRune true s gk pos hend] at hrest
      go_wp2
      go_ret
      exact ⟨by rw [← hrest] <;> rfl, hbel⟩
theorem index_pure (s : ByteArray) : Pure Tryz.prog 72 [.str s, .fn (.func 67) [] [], .bool true] (.int .i64 (Lib.idxFunc badRune true s)) := by
  refine Pure.of_calls ⟨Tryz.f72, Tryz.func72, rfl, by kernel_rfl⟩ (fun m w args' hn hr => ?_)
  obtain ⟨l⟩ := args'
  simp only [List.size_toArray, List.length_cons, List.length_nil] at hn
  match l, hn with
  | [a, b, c], _ =>
    have ha := hr 0 _ rfl
    have hb := hr 1 _ rfl
    have hc := hr 2 _ rfl
    obtain rfl := hc.bool_inv
    obtain ⟨first', cap', hb', h1, h2, _, _⟩ := hb.fn_inv
    have ha' : a = .string s := ha.str_inv
    have e1 : first' = #[] := Array.eq_empty_of_size_eq_zero (by simpa using h1)
    have e2 : cap' = #[] := Array.eq_empty_of_size_eq_zero (by simpa using h2)
    have hb2 : b = .func (.func 67) #[] #[] := by rw [e1, e2] at hb'; exact hb'
    subst ha' hb2
    refine (index_calls s w).mono ?_
    rintro e w' ⟨rfl, h3⟩
    exact ⟨⟨_, rfl, .int _ _⟩, h3⟩

theorem get_at {s : ByteArray} {i : Nat} {b : UInt8} (h : s.data.toList[i]? = some b) : s.get! i = b ∧ i < s.size := by
  have hl := (List.getElem?_eq_some_iff.1 h).1
  have hi : i < s.data.size := by simpa using hl
  refine ⟨?_, hi⟩
  have h2 : s.data[i]? = some b := by rw [← Array.getElem?_toList]; exact h
  show s.data[i]! = b
  rw [Array.getElem!_eq_getD, Array.getD_eq_getD_getElem?, h2]; rfl
theorem decode_small {s : ByteArray} {i : Nat} {b : UInt8} (h : s.data.toList[i]? = some b) (hb : b.toNat < 128) : Utf8.decode s i = (b.toNat, 1) := by
  unfold Utf8.decode
  simp only [Nat.add_zero, (get_at h).1]
  rw [if_pos hb]
theorem decode_great {s : ByteArray} {i : Nat} {b : UInt8} (h : s.data.toList[i]? = some b) (hb : 128 ≤ b.toNat) : 128 ≤ (Utf8.decode s i).1 := by
  unfold Utf8.decode
  simp only [Nat.add_zero, (get_at h).1]
  rw [if_neg (by omega)]
  repeat' split
  all_goals simp_all [Utf8.runeError]
  all_goals omega
def textS (s : ByteArray) : Bool := decide ((s.size : Int) ≤ 100) && !decide (Lib.idxFunc badRune true s ≥ 0)
theorem idx_all (s : ByteArray) : ∀ (f pos : Nat), s.size ≤ pos + f → ((s.data.toList.drop pos).all okByte = true ↔ Lib.idxFuncFrom badRune true s f pos < 0) := by
  have hlen : s.data.toList.length = s.size := by simp
  intro f
  induction f with
  | zero =>
    intro pos h
    rw [List.drop_eq_nil_of_le (by omega)]
    simp [Lib.idxFuncFrom]
  | succ f ih =>
    intro pos h
    simp only [Lib.idxFuncFrom]
    by_cases hp : pos < s.size
    · rw [if_pos hp]
      have hpl : pos < s.data.toList.length := by omega
      rw [List.drop_eq_getElem_cons hpl, List.all_cons]
      have hb : s.data.toList[pos]? = some (s.data.toList[pos]) := List.getElem?_eq_getElem hpl
      generalize s.data.toList[pos] = b at *
      by_cases h1 : b.toNat < 128
      · rw [decode_small hb h1]
        simp only
        cases hk : badRune b.toNat with
        | true =>
          simp only [if_true]
          have : okByte b = false := by
            simp only [badRune, Bool.or_eq_true, decide_eq_true_eq] at hk
            rw [Bool.eq_false_iff]
            intro h2
            simp only [okByte, Bool.and_eq_true, decide_eq_true_eq] at h2
            omega
          rw [this]
          simp
        | false =>
          have : okByte b = true := by
            simp only [badRune, Bool.or_eq_false_iff, decide_eq_false_iff_not] at hk
            simp only [okByte, Bool.and_eq_true, decide_eq_true_eq]
            omega
          rw [this]
          simpa using ih (pos + 1) (by omega)
      · have h2 := decode_great hb (by omega)
        have hk : badRune (Utf8.decode s pos).1 = true := by simp only [badRune, Bool.or_eq_true, decide_eq_true_eq]; omega
        rw [hk]
        simp only [if_true]
        have : okByte b = false := by
          rw [Bool.eq_false_iff]
          intro h2
          simp only [okByte, Bool.and_eq_true, decide_eq_true_eq] at h2
          omega
        rw [this]
        simp
    · rw [if_neg hp, List.drop_eq_nil_of_le (by omega)]
      simp
theorem textS_eq (s : ByteArray) : textS s = isText s := by
  have h := idx_all s s.size 0 (by omega)
  rw [List.drop_zero] at h
  unfold textS isText Lib.idxFunc
  rw [Bool.eq_iff_iff]
  simp only [Bool.and_eq_true, decide_eq_true_eq, Bool.not_eq_true', decide_eq_false_iff_not]
  constructor
  · rintro ⟨h1, h2⟩; exact ⟨by omega, h.2 (by omega)⟩
  · rintro ⟨h1, h2⟩; have := h.1 h2; exact ⟨by omega, by omega⟩

theorem indexf_pure (s : ByteArray) : Pure Tryz.prog 71 [.str s, .fn (.func 67) [] []] (.int .i64 (Lib.idxFunc badRune true s)) := by
  refine Pure.of ⟨Tryz.f71, Tryz.func71, rfl, by kernel_rfl⟩ rfl (fun h => ?_)
  refine acalls_of te_ok [] Tryz.func71 (c := _) rfl (Nat.le_of_ble_eq_true rfl) ?_
  simp only [aws, eq_self, reduceIte, Nat.reduceLT, Tryz.ntmps71, Tryz.results71]
  refine ACallV.pure (index_pure s) ?_
  simp only [aws, eq_self, reduceIte, Nat.reduceLT, ares1]
  exact ⟨.refl _, _, rfl, rfl⟩
theorem contains_pure (s : ByteArray) : Pure Tryz.prog 66 [.str s, .fn (.func 67) [] []] (.bool (decide (Lib.idxFunc badRune true s ≥ 0))) := by
  refine Pure.of ⟨Tryz.f66, Tryz.func66, rfl, by kernel_rfl⟩ rfl (fun h => ?_)
  refine acalls_of te_ok [] Tryz.func66 (c := _) rfl (Nat.le_of_ble_eq_true rfl) ?_
  simp only [aws, eq_self, reduceIte, Nat.reduceLT, Tryz.ntmps66, Tryz.results66]
  refine ACallV.pure (indexf_pure s) ?_
  simp only [aws, eq_self, reduceIte, Nat.reduceLT, acmpnil, ares1]
  exact ⟨.refl _, _, rfl, rfl⟩
theorem text_pure (s : ByteArray) : Pure Tryz.prog 58 [.str s] (.bool (isText s)) := by
  rw [← textS_eq]
  refine Pure.of ⟨Tryz.f58, Tryz.func58, rfl, by kernel_rfl⟩ rfl (fun h => ?_)
  refine acalls_of te_ok [] Tryz.func58 (c := _) rfl (Nat.le_of_ble_eq_true rfl) ?_
  simp only [aws, eq_self, implies_true, reduceIte, Nat.reduceLT, acmpnil, teset, Tryz.ntmps58, Tryz.results58]
  cases hc : decide ((s.size : Int) ≤ 100) with
  | false => simp only [aws, eq_self, reduceIte, Nat.reduceLT, ares1]; exact ⟨.refl _, _, rfl, by unfold textS; rw [hc]; rfl⟩
  | true =>
    simp only [aws, eq_self, reduceIte, Nat.reduceLT]
    refine ACallV.pure (contains_pure s) ?_
    simp only [aws, eq_self, implies_true, reduceIte, Nat.reduceLT, ares1]
    exact ⟨.refl _, _, rfl, by unfold textS; rw [hc]; rfl⟩
end Go.Proofs.YtlbhgoffiigfbaaGreat.AW
end
section
set_option linter.unusedSimpArgs false
set_option linter.unusedVariables false
namespace Go.Proofs.YtlbhgoffiigfbaaGreat.AW
open Go Go.RowKit

theorem ACallV.det {P : Program} {f : FuncId} {first args cap al : List AV} {v : AV} {h h2 : AH} {dst : Option Nat} {s : AS} {k : AK} {Q : AQ} (hf : FOk P f) (he : first ++ args ++ cap = al) (hc : ACalls P f al h fun out h' => out = .ret v ∧ h' = h2) (hk : k (putD s dst v) h2 Q) :
    ACallV P (.fn (.func f) first cap) args h (callK dst s k Q) := by
  refine .inl ⟨hf, ?_⟩
  rw [he]
  refine hc.mono ?_
  rintro out h' ⟨rfl, rfl⟩
  exact hk
theorem AH.set_set (h : AH) (b : Nat) (x y : List AV) : (h.set b x).set b y = h.set b y := by
  unfold AH.set
  congr 1
  funext z
  simp only [upd]
  split <;> rfl
theorem AH.set_self (h : AH) {b : Nat} {x : List AV} (hb : h.box b = some x) : h.set b x = h := by
  unfold AH.set
  have : upd h.box b (some x) = h.box := by
    funext z
    simp only [upd]
    split
    · next e => rw [e, hb]
    · rfl
  rw [this]

/-- Counting through a list: where it fails, and the count. -/
def rightL (f : Nat → V → Bool × Nat) : Nat → List V → Nat → Int × Nat
  | n, [], _ => (-1, n)
  | n, x :: xs, i => if (f n x).1 = true then rightL f (f n x).2 xs (i + 1) else (i, (f n x).2)
def rightS : Nat → Nat → V → Bool × Nat
  | 0, n, _ => (false, n + 1)
  | L + 1, n, v => if n + 1 > 60 then (false, n + 1) else if shape v = true then (decide ((rightL (rightS L) (n + 1) v.items 0).1 < 0), (rightL (rightS L) (n + 1) v.items 0).2) else (false, n + 1)
def RightAt (L : Nat) (x : V) : Prop := ∀ (n b : Nat) (h : AH), n ≤ 60 → h.box b = some [.int .i64 n] → ACalls Tryz.prog 45 [inj x, .int .i64 L, .ptr b 0] h fun out h' => out = .ret (.bool (rightS L n x).1) ∧ h' = h.set b [.int .i64 (rightS L n x).2]

/-- A function that changes one old box, and else only makes new ones. -/
theorem ACalls.cutSet {P : Program} {f : FuncId} {args : List AV} {h : AH} {v : AV} {b : Nat} {c : List AV} (hv : v.under 0 0 = true) (hc : AV.underL 0 0 c = true)
    (hk : Scoped h → ∀ hb : b < h.nb, ACalls P f args h fun out h2 => out = .ret v ∧ ∃ h1, h.Ext h1 ∧ h2 = h1.set b c) (hb : ∃ x, h.box b = some x) : ACalls P f args h fun out h' => out = .ret v ∧ h' = h.set b c := by
  intro w0 m w args' h1 h2 hW
  have hs := hW.isScoped
  obtain ⟨x, hx⟩ := hb
  have hbn := hs.box b x hx
  refine (ACalls.cut (hk hs hbn) (fun hs out h2 ⟨e, h3, e3, e4⟩ => ?_)) w0 m w args' h1 h2 hW
  refine ⟨out, h.set b c, .inl rfl, ?_, ⟨rfl, rfl, fun z cs hz => ?_, fun t g ht => ?_⟩, e, rfl⟩
  · rw [e]; exact AV.under_mono hv
  · rw [e4]
    rw [set_box] at hz ⊢
    split at hz
    · next e5 =>
      injection hz with hz; subst hz
      rw [if_pos e5]
      exact ⟨rfl, .inr ⟨by rw [e5]; exact hbn, AV.underL_mono hc⟩⟩
    · next e5 =>
      rw [if_neg e5]
      exact ⟨(e3.box z (hs.box z cs hz)).trans hz, .inl hz⟩
  · rw [e4]
    exact ⟨(e3.tok t (hs.tok t g ht)).trans ht, hs.tok t g ht⟩

theorem closure_calls (L : Nat) (x : V) (ih : RightAt L x) (hL : L < 1000) (n b tl tn : Nat) (h : AH) (hn : n ≤ 60) (hb : h.box b = some [.int .i64 n]) (hl : h.box tl = some [.int .i64 ((L + 1 : Nat) : Int)]) (htn : h.box tn = some [.ptr b 0]) :
    ACalls Tryz.prog 59 [inj x, .ptr tl 0, .ptr tn 0] h fun out h' => out = .ret (.bool (!(rightS L n x).1)) ∧ h' = h.set b [.int .i64 (rightS L n x).2] := by
  refine ACalls.cutSet rfl rfl (fun hs hbn => ?_) ⟨_, hb⟩
  have h1 := hs.box _ _ hl
  have h2 := hs.box _ _ htn
  have ne1 : (b = h.nb) = False := by simp only [eq_iff_iff, iff_false]; omega
  have ne2 : (tl = h.nb) = False := by simp only [eq_iff_iff, iff_false]; omega
  have ne3 : (tn = h.nb) = False := by simp only [eq_iff_iff, iff_false]; omega
  have hw : IntKind.i64.wrap (((L + 1 : Nat) : Int) - 1) = (L : Int) := by rw [wrap_i64 (by omega) (by omega)]; omega
  refine acalls_of te_ok [] Tryz.func59 (c := _) rfl (Nat.le_of_ble_eq_true rfl) ?_
  simp only [aws, eq_self, reduceIte, Nat.reduceLT, Nat.reduceLeDiff, acmpnil, teset, Tryz.ntmps59, Tryz.results59, boxR, inj_take, inj_agg, inj_len, inj_one, hl, htn, ne2, ne3, hw]
  refine ACallV.det ⟨Tryz.f45, Tryz.func45, rfl, by kernel_rfl⟩ rfl (ih n b (h.new (inj x).cells) hn (by rw [new_box, if_neg (by omega)]; exact hb)) ?_
  simp only [aws, eq_self, reduceIte, Nat.reduceLT, ares1]
  exact ⟨h.new (inj x).cells, by (repeat (first | exact AH.Ext.refl _ | assumption | refine AH.Ext.set ?_ (by first | omega | (simp only [new_nb, set_nb, kill_nb, newTok_nb, setTok_nb]; omega)) _ | refine AH.Ext.new ?_ _)), rfl⟩

theorem rightL_le (f : Nat → V → Bool × Nat) (hf : ∀ n x, n ≤ 60 → (f n x).1 = true → (f n x).2 ≤ 60) : ∀ (xs : List V) (n i : Nat), n ≤ 60 → (rightL f n xs i).1 < 0 → (rightL f n xs i).2 ≤ 60 := by
  intro xs
  induction xs with
  | nil => intro n i hn _; exact hn
  | cons x xs ih =>
    intro n i hn h
    simp only [rightL] at h ⊢
    split
    · next h1 => rw [if_pos h1] at h; exact ih _ _ (hf n x hn h1) h
    · next h1 => rw [if_neg h1] at h; simp only at h; omega
theorem rightS_le : ∀ (L n : Nat) (v : V), (rightS L n v).1 = true → (rightS L n v).2 ≤ 60 := by
  intro L
  induction L with
  | zero => intro n v h; simp [rightS] at h
  | succ L ih =>
    intro n v h
    simp only [rightS] at h ⊢
    split
    · next h1 => rw [if_pos h1] at h; cases h
    · next h1 =>
      rw [if_neg h1] at h
      split
      · next h2 =>
        rw [if_pos h2] at h
        exact rightL_le _ (fun n x _ hx => ih n x hx) _ _ _ (by omega) (by simpa using h)
      · next h2 => rw [if_neg h2] at h; cases h

theorem indexfn_calls (L : Nat) (hL : L < 1000) (xs : List V) (ih : ∀ x ∈ xs, RightAt L x) (hlen : xs.length < 4611686018427387904) (n b tl tn : Nat) (h : AH) (hn : n ≤ 60) (hb : h.box b = some [.int .i64 n]) (hl : h.box tl = some [.int .i64 ((L + 1 : Nat) : Int)]) (htn : h.box tn = some [.ptr b 0]) (hne1 : tl ≠ b) (hne2 : tn ≠ b) :
    ACalls Tryz.prog 44 [.sl .ro 5 (xs.map inj), .fn (.func 59) [] [.ptr tl 0, .ptr tn 0]] h fun out h' => out = .ret (.int .i64 (rightL (rightS L) n xs 0).1) ∧ h' = h.set b [.int .i64 (rightL (rightS L) n xs 0).2] := by
  have eb : (tl = b) = False := by simp [hne1]
  have eb2 : (tn = b) = False := by simp [hne2]
  refine acalls_of te_ok [] Tryz.func44 (c := _) rfl (Nat.le_of_ble_eq_true rfl) ?_
  simp only [aws, eq_self, reduceIte, Nat.reduceLT, Int.reduceNeg, teset, Tryz.ntmps44, Tryz.results44, List.length_map]
  refine ⟨fun m s' h' => ∃ (j c : Nat), s' 0 = .sl .ro 5 (xs.map inj) ∧ s' 1 = .fn (.func 59) [] [.ptr tl 0, .ptr tn 0] ∧ s' 7 = .int .i64 xs.length ∧ s' 8 = .int .i64 j ∧ h' = h.set b [.int .i64 c] ∧ m + j = xs.length ∧ c ≤ 60 ∧ rightL (rightS L) c (xs.drop j) j = rightL (rightS L) n xs 0, ⟨xs.length, 0, n, ?_⟩, ?_⟩
  · simp only [aws, eq_self, reduceIte, Int.natCast_zero]
    exact ⟨(AH.set_self h hb).symm, hn⟩
  · rintro m s' h' ⟨j, c, e0, e1, e7, e8, hh, hm, hc60, hr⟩
    subst hh
    simp only [aws, eq_self, reduceIte, Nat.reduceLT, Int.reduceNeg, acmpnil, e7, e8]
    cases hc : decide ((j : Int) < (xs.length : Int)) with
    | false =>
      simp only [aws, eq_self, reduceIte, Nat.reduceLT, Int.reduceNeg, ares1]
      simp only [decide_eq_false_iff_not] at hc
      rw [← hr, List.drop_eq_nil_of_le (by omega)]
      exact ⟨rfl, rfl⟩
    | true =>
      simp only [decide_eq_true_eq] at hc
      have hj : j < xs.length := by omega
      have hget : (xs.map inj)[((j : Nat) : Int).toNat]? = some (inj xs[j]) := by simp [hj]
      simp only [aws, eq_self, reduceIte, reduceCtorEq, Nat.reduceLT, Nat.reduceLeDiff, Nat.reduceEqDiff, Int.reduceNeg, teset, e0, e1, e8, inj_take, inj_agg, inj_len, hget, Int.natCast_nonneg]
      refine ACallV.det ⟨Tryz.f59, Tryz.func59, rfl, by kernel_rfl⟩ rfl (closure_calls L xs[j] (ih _ (List.getElem_mem _)) hL c b tl tn (h.set b [.int .i64 c]) hc60 (by rw [set_box, if_pos rfl]) (by rw [set_box, if_neg hne1]; exact hl) (by rw [set_box, if_neg hne2]; exact htn)) ?_
      rw [AH.set_set]
      rw [List.drop_eq_getElem_cons hj, rightL] at hr
      have hle := rightS_le L c xs[j]
      cases hok : (rightS L c xs[j]).1 with
      | false =>
        simp only [aws, eq_self, reduceIte, Nat.reduceLT, Nat.reduceEqDiff, Int.reduceNeg, ares1]
        rw [hok] at hr
        rw [← hr]
        exact ⟨rfl, rfl⟩
      | true =>
        simp only [aws, eq_self, reduceIte, reduceCtorEq, Nat.reduceLT, Nat.reduceEqDiff, Int.reduceNeg, acmpnil, e0, e1, e7, e8]
        rw [hok, if_pos rfl] at hr
        exact ⟨m - 1, by omega, j + 1, _, by rw [wrap_succ (by omega)], rfl, by omega, hle hok, hr⟩
theorem containsfn_calls (L : Nat) (hL : L < 1000) (xs : List V) (ih : ∀ x ∈ xs, RightAt L x) (hlen : xs.length < 4611686018427387904) (n b tl tn : Nat) (h : AH) (hn : n ≤ 60) (hb : h.box b = some [.int .i64 n]) (hl : h.box tl = some [.int .i64 ((L + 1 : Nat) : Int)]) (htn : h.box tn = some [.ptr b 0]) (hne1 : tl ≠ b) (hne2 : tn ≠ b) :
    ACalls Tryz.prog 33 [.sl .ro 5 (xs.map inj), .fn (.func 59) [] [.ptr tl 0, .ptr tn 0]] h fun out h' => out = .ret (.bool (decide ((rightL (rightS L) n xs 0).1 ≥ 0))) ∧ h' = h.set b [.int .i64 (rightL (rightS L) n xs 0).2] := by
  refine acalls_of te_ok [] Tryz.func33 (c := _) rfl (Nat.le_of_ble_eq_true rfl) ?_
  simp only [aws, eq_self, reduceIte, Nat.reduceLT, Tryz.ntmps33, Tryz.results33]
  refine ACallV.det ⟨Tryz.f44, Tryz.func44, rfl, by kernel_rfl⟩ rfl (indexfn_calls L hL xs ih hlen n b tl tn h hn hb hl htn hne1 hne2) ?_
  simp only [aws, eq_self, reduceIte, Nat.reduceLT, acmpnil, ares1]
end Go.Proofs.YtlbhgoffiigfbaaGreat.AW
end
section
set_option linter.unusedSimpArgs false
set_option linter.unusedVariables false
namespace Go.Proofs.YtlbhgoffiigfbaaGreat.AW
open Go Go.RowKit

set_option maxHeartbeats 4000000 in
theorem right_calls : ∀ (L : Nat), L < 1000 → ∀ v : V, v.sm → RightAt L v := by
  intro L
  induction L with
  | zero =>
    intro _ v _ n b h hn hb
    refine ACalls.cutSet rfl rfl (fun hs hbn => ?_) ⟨_, hb⟩
    have ne1 : (b = h.nb) = False := by simp only [eq_iff_iff, iff_false]; omega
    have ne2 : (b = h.nb + 1) = False := by simp only [eq_iff_iff, iff_false]; omega
    have ne3 : (b = h.nb + 1 + 1) = False := by simp only [eq_iff_iff, iff_false]; omega
    have ne4 : (h.nb = b) = False := by simp only [eq_iff_iff, iff_false]; omega
    have ne5 : (h.nb + 1 = b) = False := by simp only [eq_iff_iff, iff_false]; omega
    have ne6 : (h.nb + 1 + 1 = b) = False := by simp only [eq_iff_iff, iff_false]; omega
    have hw : IntKind.i64.wrap ((n : Int) + 1) = ((n + 1 : Nat) : Int) := wrap_succ (by omega)
    refine acalls_of te_ok [18, 19, 20, 21] Tryz.func45 (c := _) rfl (Nat.le_of_ble_eq_true rfl) ?_
    simp only [aws, eq_self, implies_true, imp_self, reduceIte, Nat.reduceLT, Nat.reduceLeDiff, Nat.reduceEqDiff, Nat.reduceBEq, Int.reduceLT, Int.reduceNeg, acmpnil, storeB, ares1, teset, Tryz.ntmps45, Tryz.results45, boxR, inj_one, hb, ne1, ne2, ne3, ne5, ne6, hw, Int.natCast_zero]
    exact ⟨rfl, ((h.new (inj v).cells).new [.int .i64 0]).new [.ptr b 0], by (repeat (first | exact AH.Ext.refl _ | assumption | refine AH.Ext.set ?_ (by first | omega | (simp only [new_nb, set_nb, kill_nb, newTok_nb, setTok_nb]; omega)) _ | refine AH.Ext.new ?_ _)), rfl⟩
  | succ L ih =>
    intro hL v hsm n b h hn hb
    obtain ⟨k, i, t, xs, ks⟩ := v
    simp only [V.sm, V.smL_iff] at hsm
    obtain ⟨hxl, hkl, hxs⟩ := hsm
    rw [inj_mk]
    refine ACalls.cutSet rfl rfl (fun hs hbn => ?_) ⟨_, hb⟩
    have ne1 : (b = h.nb) = False := by simp only [eq_iff_iff, iff_false]; omega
    have ne2 : (b = h.nb + 1) = False := by simp only [eq_iff_iff, iff_false]; omega
    have ne3 : (b = h.nb + 1 + 1) = False := by simp only [eq_iff_iff, iff_false]; omega
    have ne4 : (h.nb = b) = False := by simp only [eq_iff_iff, iff_false]; omega
    have ne5 : (h.nb + 1 = b) = False := by simp only [eq_iff_iff, iff_false]; omega
    have ne6 : (h.nb + 1 + 1 = b) = False := by simp only [eq_iff_iff, iff_false]; omega
    have hw : IntKind.i64.wrap ((n : Int) + 1) = ((n + 1 : Nat) : Int) := wrap_succ (by omega)
    have hlev : decide (((L + 1 : Nat) : Int) < 1) = false := by simp; omega
    refine acalls_of te_ok [18, 19, 20, 21, 28, 29, 30, 31, 39, 40, 41, 44, 45, 46, 52, 53, 54, 55, 56, 57, 58, 59, 62, 63, 64, 70, 71, 72, 75, 76, 77, 80, 81, 82, 88, 89, 90, 142, 143, 144] Tryz.func45 (c := _) rfl (Nat.le_of_ble_eq_true rfl) ?_
    simp only [aws, eq_self, implies_true, reduceIte, Nat.reduceLT, Nat.reduceLeDiff, Nat.reduceEqDiff, Nat.reduceBEq, Int.reduceNeg, acmpnil, storeB, teset, Tryz.ntmps45, Tryz.results45, boxR, hb, ne1, ne2, ne3, ne5, ne6, hw, hlev]
    generalize hH : ((h.new [AV.int IntKind.i64 k, AV.int IntKind.i64 i, AV.str t, AV.sl Tag.ro 5 (List.map inj xs), AV.sl Tag.ro 1 (List.map AV.str ks)]).new [.int .i64 ((L + 1 : Nat) : Int)]).new [.ptr b 0] = H
    have g0 : H.box h.nb = some [AV.int IntKind.i64 k, AV.int IntKind.i64 i, AV.str t, AV.sl Tag.ro 5 (List.map inj xs), AV.sl Tag.ro 1 (List.map AV.str ks)] := by rw [← hH, new_box, if_neg (by simp only [new_nb]; omega), new_box, if_neg (by simp only [new_nb]; omega), new_box, if_pos rfl]
    have g1 : H.box (h.nb + 1) = some [.int .i64 ((L + 1 : Nat) : Int)] := by rw [← hH, new_box, if_neg (by simp only [new_nb]; omega), new_box, if_pos (by simp only [new_nb])]
    have g2 : H.box (h.nb + 1 + 1) = some [.ptr b 0] := by rw [← hH]; simp [new_box, new_nb]
    have hext : h.Ext H := by rw [← hH]; (repeat (first | exact AH.Ext.refl _ | assumption | refine AH.Ext.set ?_ (by first | omega | (simp only [new_nb, set_nb, kill_nb, newTok_nb, setTok_nb]; omega)) _ | refine AH.Ext.new ?_ _))
    have badfin : rightS (L + 1) n (.mk k i t xs ks) = (false, n + 1) → AOut.ret (.bool false) = .ret (.bool (rightS (L + 1) n (.mk k i t xs ks)).1) ∧ ∃ h1, h.Ext h1 ∧ H.set b [.int .i64 ((n + 1 : Nat) : Int)] = h1.set b [.int .i64 (rightS (L + 1) n (.mk k i t xs ks)).2] := by
      intro e; rw [e]; exact ⟨rfl, H, hext, rfl⟩
    by_cases hn60 : n + 1 > 60
    · have hq : decide (((n + 1 : Nat) : Int) > 60) = true := by simp; omega
      simp only [aws, eq_self, reduceIte, Nat.reduceLT, Nat.reduceEqDiff, Int.reduceNeg, ares1, hq]
      exact badfin (by simp only [rightS]; rw [if_pos hn60])
    have hq : decide (((n + 1 : Nat) : Int) > 60) = false := by simp; omega
    have hsp : rightS (L + 1) n (.mk k i t xs ks) = if shape (.mk k i t xs ks) = true then (decide ((rightL (rightS L) (n + 1) xs 0).1 < 0), (rightL (rightS L) (n + 1) xs 0).2) else (false, n + 1) := by simp only [rightS, V.items]; rw [if_neg hn60]; rfl
    have leaf : ∀ B : Bool, shape (.mk k i t xs ks) = B → (B = true → xs = []) → AOut.ret (.bool B) = .ret (.bool (rightS (L + 1) n (.mk k i t xs ks)).1) ∧ ∃ h1, h.Ext h1 ∧ H.set b [.int .i64 ((n + 1 : Nat) : Int)] = h1.set b [.int .i64 (rightS (L + 1) n (.mk k i t xs ks)).2] := by
      intro B e1 e2
      rw [hsp, e1]
      cases B with
      | false => exact ⟨rfl, H, hext, rfl⟩
      | true => rw [e2 rfl]; exact ⟨rfl, H, hext, rfl⟩
    simp only [aws, eq_self, implies_true, imp_self, reduceIte, Nat.reduceLT, Nat.reduceEqDiff, Nat.reduceBEq, Int.reduceNeg, acmpnil, teset, hq, List.length_map, g0, ne4]
    by_cases h0 : k = 0
    · have q0 : (k == 0) = true := by simp [h0]
      simp only [aws, eq_self, implies_true, imp_self, reduceIte, Nat.reduceLT, Nat.reduceEqDiff, Nat.reduceBEq, Int.reduceNeg, ares1, teset, q0, g0, ne4]
      refine leaf _ ?_ (fun hB => ?_)
      · subst h0
        rw [shape_0]
        simp only [plainS, V.int, V.text, V.items, V.keys, Bool.false_or]
        generalize ((xs.length : Int) == 0) = x1
        generalize ((ks.length : Int) == 0) = x2
        generalize (t.toList == (⟨#[]⟩ : ByteArray).toList) = x3
        cases x1 <;> cases x2 <;> cases x3 <;> simp
      · simp only [Bool.and_eq_true, beq_iff_eq] at hB
        exact List.eq_nil_of_length_eq_zero (by omega)
    have q0 : (k == 0) = false := by simp [h0]
    by_cases h1 : k = 1
    · have q1 : (k == 1) = true := by simp [h1]
      simp only [aws, eq_self, implies_true, imp_self, reduceIte, Nat.reduceLT, Nat.reduceEqDiff, Nat.reduceBEq, Int.reduceNeg, acmpnil, ares1, teset, q0, q1, g0, ne4]
      refine leaf _ ?_ (fun hB => ?_)
      · subst h1
        rw [shape_1]
        simp only [plainS, V.int, V.text, V.items, V.keys, Bool.false_or, Bool.true_or, Bool.true_and]
        generalize ((xs.length : Int) == 0) = x1
        generalize ((ks.length : Int) == 0) = x2
        generalize (t.toList == (⟨#[]⟩ : ByteArray).toList) = x3
        cases x1 <;> cases x2 <;> cases x3 <;> simp
      · simp only [Bool.and_eq_true, beq_iff_eq] at hB
        exact List.eq_nil_of_length_eq_zero (by omega)
    have q1 : (k == 1) = false := by simp [h1]
    by_cases h2 : k = 2
    · have q2 : (k == 2) = true := by simp [h2]
      simp only [aws, eq_self, implies_true, imp_self, reduceIte, Nat.reduceLT, Nat.reduceEqDiff, Nat.reduceBEq, Int.reduceNeg, acmpnil, ares1, teset, q0, q1, q2, g0, ne4]
      refine leaf _ ?_ (fun hB => ?_)
      · subst h2
        rw [shape_2]
        simp only [plainS, V.int, V.text, V.items, V.keys, Bool.false_or, Bool.true_or, Bool.true_and, ge_iff_le]
        generalize ((xs.length : Int) == 0) = x1
        generalize ((ks.length : Int) == 0) = x2
        generalize (t.toList == (⟨#[]⟩ : ByteArray).toList) = x3
        generalize decide (-1000000000000 ≤ i) = x4
        generalize decide (i ≤ 1000000000000) = x5
        cases x4 <;> cases x5 <;> cases x1 <;> cases x2 <;> cases x3 <;> simp
      · simp only [Bool.and_eq_true, beq_iff_eq] at hB
        exact List.eq_nil_of_length_eq_zero (by omega)
    have q2 : (k == 2) = false := by simp [h2]
    by_cases h3 : k = 3
    · have q3 : (k == 3) = true := by simp [h3]
      simp only [aws, eq_self, implies_true, imp_self, reduceIte, Nat.reduceLT, Nat.reduceEqDiff, Nat.reduceBEq, Int.reduceNeg, acmpnil, teset, q0, q1, q2, q3, g0, ne4]
      have hs3 : shape (.mk k i t xs ks) = (((xs.length : Int) == 0 && (ks.length : Int) == 0 && i == 0) && isText t) := by
        subst h3
        rw [shape_3]
        simp only [plainS, V.int, V.text, V.items, V.keys, Bool.false_or, Bool.true_or]
        generalize ((xs.length : Int) == 0) = x1
        generalize ((ks.length : Int) == 0) = x2
        generalize (i == 0) = x3
        cases x1 <;> cases x2 <;> cases x3 <;> simp
      cases hB : ((xs.length : Int) == 0 && (ks.length : Int) == 0 && i == 0) with
      | false =>
        simp only [aws, eq_self, reduceIte, Nat.reduceLT, Nat.reduceEqDiff, Nat.reduceBEq, ares1]
        exact leaf false (by rw [hs3, hB]; rfl) (fun e => by cases e)
      | true =>
        simp only [aws, eq_self, implies_true, reduceIte, Nat.reduceLT, Nat.reduceEqDiff, Nat.reduceBEq, teset, g0, ne4]
        refine ACallV.pure (text_pure t) ?_
        simp only [aws, eq_self, reduceIte, Nat.reduceLT, Nat.reduceEqDiff, ares1]
        refine leaf _ (by rw [hs3, hB]; rfl) (fun _ => ?_)
        simp only [Bool.and_eq_true, beq_iff_eq] at hB
        exact List.eq_nil_of_length_eq_zero (by omega)
    have q3 : (k == 3) = false := by simp [h3]
    by_cases h5 : k = 5
    · have q5 : (k == 5) = true := by simp [h5]
      simp only [aws, eq_self, reduceIte, Nat.reduceLT, Nat.reduceEqDiff, Int.reduceNeg, acmpnil, teset, q0, q1, q2, q3, q5, g0, ne4, List.length_map]
      have hs5 : shape (.mk k i t xs ks) = ((i == 0 && t.toList == (⟨#[]⟩ : ByteArray).toList) && (ks.length == xs.length && keysOk ks)) := by
        subst h5
        rw [shape_5]
        simp only [plainS, V.int, V.text, V.items, V.keys, Bool.false_or, Bool.true_or, Bool.and_true, Bool.and_assoc]
      cases hk : ((ks.length : Int) != (xs.length : Int)) with
      | true =>
        simp only [aws, eq_self, reduceIte, Nat.reduceLT, Nat.reduceEqDiff, ares1]
        have : (ks.length == xs.length) = false := by rw [beq_eq_false_iff_ne]; simp only [bne_iff_ne] at hk; omega
        exact badfin (by rw [hsp, hs5, this]; simp)
      | false =>
        have hkx : ks.length = xs.length := by simp only [bne_eq_false_iff_eq] at hk; omega
        simp only [aws, eq_self, reduceIte, Nat.reduceLT, Nat.reduceEqDiff, teset, g0, ne4, List.length_map]
        refine ⟨fun m s' h' => ∃ (j : Nat), s' 3 = .ptr h.nb 0 ∧ s' 4 = .ptr (h.nb + 1) 0 ∧ s' 5 = .ptr (h.nb + 1 + 1) 0 ∧ s' 107 = .sl .ro 1 (ks.map .str) ∧ s' 108 = .int .i64 ks.length ∧ s' 109 = .int .i64 j ∧ h' = H.set b [.int .i64 ((n + 1 : Nat) : Int)] ∧ m + j = ks.length ∧ (∀ j', j' < j → keyOk ks j' = true), ⟨ks.length, 0, ?_⟩, ?_⟩
        · simp only [aws, eq_self, reduceIte, Nat.reduceEqDiff, Int.natCast_zero]
          exact fun j' hj' => absurd hj' (Nat.not_lt_zero _)
        · rintro m s' h' ⟨j, e3, e4, e5, e107, e108, e109, hh, hm, hall⟩
          subst hh
          simp only [aws, eq_self, reduceIte, Nat.reduceLT, acmpnil, e108, e109]
          cases hc : decide ((j : Int) < (ks.length : Int)) with
          | false =>
            simp only [decide_eq_false_iff_not] at hc
            have hko : keysOk ks = true := by
              unfold keysOk
              rw [List.all_eq_true]
              intro j' hj'
              exact hall j' (by have := List.mem_range.1 hj'; omega)
            have hnoshape : (i == 0 && t.toList == (⟨#[]⟩ : ByteArray).toList) = false → shape (.mk k i t xs ks) = false := fun e => by rw [hs5, e]; rfl
            have hshape : (i == 0 && t.toList == (⟨#[]⟩ : ByteArray).toList) = true → shape (.mk k i t xs ks) = true := fun e => by rw [hs5, hko, hkx, e]; simp
            simp only [aws, eq_self, implies_true, imp_self, reduceIte, Nat.reduceLT, Nat.reduceEqDiff, Nat.reduceBEq, acmpnil, teset, e3, g0, ne4]
            cases hB : (i == 0 && t.toList == (⟨#[]⟩ : ByteArray).toList) with
            | false =>
              simp only [aws, eq_self, reduceIte, Nat.reduceLT, Nat.reduceEqDiff, Nat.reduceBEq, ares1]
              exact badfin (by rw [hsp, hnoshape hB]; rfl)
            | true =>
              simp only [aws, eq_self, implies_true, reduceIte, Nat.reduceLT, Nat.reduceEqDiff, Nat.reduceBEq, teset, e3, e4, e5, g0, ne4]
              refine ACallV.det ⟨Tryz.f33, Tryz.func33, rfl, by kernel_rfl⟩ rfl (containsfn_calls L (by omega) xs (fun x hx => ih (by omega) x (hxs x hx)) hxl (n + 1) b (h.nb + 1) (h.nb + 1 + 1) (H.set b [.int .i64 ((n + 1 : Nat) : Int)]) (by omega) (by rw [set_box, if_pos rfl]) (by rw [set_box, if_neg (by omega)]; exact g1) (by rw [set_box, if_neg (by omega)]; exact g2) (by omega) (by omega)) ?_
              simp only [aws, eq_self, implies_true, reduceIte, Nat.reduceLT, Nat.reduceEqDiff, Nat.reduceBEq, ares1]
              rw [AH.set_set, hsp, hshape hB]
              refine ⟨?_, H, hext, rfl⟩
              simp only [if_true]
              have : (!decide ((rightL (rightS L) (n + 1) xs 0).1 ≥ 0)) = decide ((rightL (rightS L) (n + 1) xs 0).1 < 0) := by
                rw [Bool.eq_iff_iff]; simp
              rw [this]
          | true =>
            simp only [decide_eq_true_eq] at hc
            have hj : j < ks.length := by omega
            have hget : (ks.map AV.str)[((j : Nat) : Int).toNat]? = some (.str ks[j]) := by simp [hj]
            have hgd : ks.getD j default = ks[j] := by simp [hj]
            have badkey : keyOk ks j = false → shape (.mk k i t xs ks) = false := by
              intro hk
              rw [hs5]
              have : keysOk ks = false := by
                rw [Bool.eq_false_iff]
                intro hq
                unfold keysOk at hq
                rw [List.all_eq_true] at hq
                have := hq j (List.mem_range.2 hj)
                rw [hk] at this; cases this
              rw [this]; simp
            simp only [aws, eq_self, reduceIte, Nat.reduceLT, Nat.reduceEqDiff, teset, e107, e109, hget, Int.natCast_nonneg]
            refine ACallV.pure (text_pure _) ?_
            cases hit : isText ks[j] with
            | false =>
              simp only [aws, eq_self, implies_true, imp_self, reduceIte, Nat.reduceLT, Nat.reduceEqDiff, Nat.reduceBEq, ares1, teset, e3, g0, ne4]
              exact badfin (by rw [hsp, badkey (by unfold keyOk; rw [hgd, hit]; rfl)]; rfl)
            | true =>
              cases j with
              | zero =>
                simp only [aws, eq_self, implies_true, imp_self, reduceIte, Nat.reduceLT, Nat.reduceEqDiff, Nat.reduceBEq, Int.reduceGT, Int.reduceAdd, acmpnil, teset, e3, e4, e5, e107, e108, e109, g0, ne4, Int.natCast_zero]
                have hok : keyOk ks 0 = true := by unfold keyOk; rw [hgd, hit]; rfl
                refine ⟨m - 1, by omega, 1, rfl, by omega, fun j' hj' => ?_⟩
                have : j' = 0 := by omega
                subst this; exact hok
              | succ j =>
                have hpos : decide ((((j + 1 : Nat) : Int)) > 0) = true := by simp
                have hw2 : IntKind.i64.wrap (((j + 1 : Nat) : Int) - 1) = (j : Int) := by rw [wrap_i64 (by omega) (by omega)]; omega
                have hget2 : (ks.map AV.str)[((j : Nat) : Int).toNat]? = some (.str ks[j]) := by simp
                have hgd2 : ks.getD j default = ks[j] := by simp [show j < ks.length by omega]
                have hko : keyOk ks (j + 1) = sless ks[j] ks[j + 1] := by
                  unfold keyOk
                  rw [hgd, hit, Nat.add_sub_cancel, hgd2]
                  simp
                simp only [aws, eq_self, implies_true, reduceIte, Nat.reduceLT, Nat.reduceEqDiff, Nat.reduceBEq, acmpnil, teset, e3, g0, ne4, hget2, hpos, hw2, Int.natCast_nonneg]
                cases hsl : Op.bytesLess ks[j].toList ks[j + 1].toList with
                | false =>
                  simp only [aws, eq_self, reduceIte, Nat.reduceLT, Nat.reduceEqDiff, ares1]
                  exact badfin (by rw [hsp, badkey (by rw [hko]; exact hsl)]; rfl)
                | true =>
                  simp only [aws, eq_self, reduceIte, Nat.reduceLT, Nat.reduceEqDiff, acmpnil, e3, e4, e5, e107, e108, e109]
                  refine ⟨m - 1, by omega, j + 1 + 1, by rw [wrap_succ (by omega)], by omega, fun j' hj' => ?_⟩
                  by_cases e : j' = j + 1
                  · subst e; rw [hko]; exact hsl
                  · exact hall j' (by omega)
    have q5 : (k == 5) = false := by simp [h5]
    by_cases h4 : k = 4
    · have q4 : (k == 4) = true := by simp [h4]
      simp only [aws, eq_self, reduceIte, Nat.reduceLT, Nat.reduceEqDiff, Int.reduceNeg, acmpnil, teset, q0, q1, q2, q3, q4, q5, g0, ne4, List.length_map]
      have hs4 : shape (.mk k i t xs ks) = ((ks.length : Int) == 0 && (i == 0 && t.toList == (⟨#[]⟩ : ByteArray).toList)) := by
        subst h4
        rw [shape_4]
        simp only [plainS, V.int, V.text, V.items, V.keys, Bool.false_or, Bool.true_or]
        generalize ((ks.length : Int) == 0) = x2
        generalize (i == 0) = x3
        cases x2 <;> cases x3 <;> simp
      cases hk : decide ((ks.length : Int) > 0) with
      | true =>
        simp only [aws, eq_self, reduceIte, Nat.reduceLT, Nat.reduceEqDiff, ares1]
        have : ((ks.length : Int) == 0) = false := by rw [beq_eq_false_iff_ne]; simp only [decide_eq_true_eq] at hk; omega
        exact badfin (by rw [hsp, hs4, this]; rfl)
      | false =>
        have hk0 : ((ks.length : Int) == 0) = true := by simp at hk ⊢; exact hk
        have hnoshape : (i == 0 && t.toList == (⟨#[]⟩ : ByteArray).toList) = false → shape (.mk k i t xs ks) = false := fun e => by rw [hs4, hk0, e]; rfl
        have hshape : (i == 0 && t.toList == (⟨#[]⟩ : ByteArray).toList) = true → shape (.mk k i t xs ks) = true := fun e => by rw [hs4, hk0, e]; rfl
        simp only [aws, eq_self, implies_true, imp_self, reduceIte, Nat.reduceLT, Nat.reduceEqDiff, Nat.reduceBEq, acmpnil, teset, g0, ne4]
        cases hB : (i == 0 && t.toList == (⟨#[]⟩ : ByteArray).toList) with
        | false =>
          simp only [aws, eq_self, reduceIte, Nat.reduceLT, Nat.reduceEqDiff, Nat.reduceBEq, ares1]
          exact badfin (by rw [hsp, hnoshape hB]; rfl)
        | true =>
          simp only [aws, eq_self, implies_true, reduceIte, Nat.reduceLT, Nat.reduceEqDiff, Nat.reduceBEq, teset, g0, ne4]
          refine ACallV.det ⟨Tryz.f33, Tryz.func33, rfl, by kernel_rfl⟩ rfl (containsfn_calls L (by omega) xs (fun x hx => ih (by omega) x (hxs x hx)) hxl (n + 1) b (h.nb + 1) (h.nb + 1 + 1) (H.set b [.int .i64 ((n + 1 : Nat) : Int)]) (by omega) (by rw [set_box, if_pos rfl]) (by rw [set_box, if_neg (by omega)]; exact g1) (by rw [set_box, if_neg (by omega)]; exact g2) (by omega) (by omega)) ?_
          simp only [aws, eq_self, implies_true, reduceIte, Nat.reduceLT, Nat.reduceEqDiff, Nat.reduceBEq, ares1]
          rw [AH.set_set, hsp, hshape hB]
          refine ⟨?_, H, hext, rfl⟩
          simp only [if_true]
          have : (!decide ((rightL (rightS L) (n + 1) xs 0).1 ≥ 0)) = decide ((rightL (rightS L) (n + 1) xs 0).1 < 0) := by
            rw [Bool.eq_iff_iff]; simp
          rw [this]
    · have q4 : (k == 4) = false := by simp [h4]
      simp only [aws, eq_self, reduceIte, Nat.reduceLT, Nat.reduceEqDiff, Int.reduceNeg, acmpnil, ares1, q0, q1, q2, q3, q4, q5]
      exact badfin (by rw [hsp, shape_x _ _ _ _ h0 h1 h2 h3 h4 h5]; rfl)
end Go.Proofs.YtlbhgoffiigfbaaGreat.AW
end
section
set_option linter.unusedSimpArgs false
set_option linter.unusedVariables false
namespace Go.Proofs.YtlbhgoffiigfbaaGreat.AW
open Go Go.RowKit

theorem nodesF_ge (f : V → Nat) : ∀ (xs : List V) (a : Nat), a ≤ 61 → a ≤ nodesF f a xs := by
  intro xs
  induction xs with
  | nil => intro a _; exact Nat.le_refl _
  | cons x xs ih =>
    intro a ha
    simp only [nodesF]
    split
    · exact ha
    · exact Nat.le_trans (Nat.le_add_right _ _) (ih _ (by omega))
theorem nodesF_many (f : V → Nat) (hf : ∀ x, 1 ≤ f x) : ∀ (xs : List V) (a : Nat), a ≤ 61 → min 61 (a + xs.length) ≤ nodesF f a xs := by
  intro xs
  induction xs with
  | nil => intro a ha; simp only [nodesF, List.length_nil]; omega
  | cons x xs ih =>
    intro a ha
    simp only [nodesF, List.length_cons]
    split
    · omega
    · have h1 := ih (a + f x) (by omega)
      have h2 := hf x
      omega
theorem nodesS_pos (L : Nat) (v : V) : 1 ≤ nodesS L v := by
  cases L with
  | zero => simp [nodesS]
  | succ L =>
    simp only [nodesS]
    split
    · omega
    · split
      · exact nodesF_ge _ _ _ (by omega)
      · omega
theorem rightL_eq (L : Nat) (ih : ∀ n x, n ≤ 60 → ((rightS L n x).1 = true ↔ n + nodesS L x ≤ 60) ∧ ((rightS L n x).1 = true → (rightS L n x).2 = n + nodesS L x)) :
    ∀ (xs : List V) (n a i : Nat), n + a ≤ 60 → ((rightL (rightS L) (n + a) xs i).1 < 0 ↔ n + nodesF (nodesS L) a xs ≤ 60) ∧ ((rightL (rightS L) (n + a) xs i).1 < 0 → (rightL (rightS L) (n + a) xs i).2 = n + nodesF (nodesS L) a xs) := by
  intro xs
  induction xs with
  | nil => intro n a i h; exact ⟨⟨fun _ => h, fun _ => by simp only [rightL]; omega⟩, fun _ => rfl⟩
  | cons x xs ihx =>
    intro n a i h
    obtain ⟨h1, h2⟩ := ih (n + a) x h
    simp only [rightL, nodesF]
    by_cases hok : n + a + nodesS L x ≤ 60
    · have ht : (rightS L (n + a) x).1 = true := h1.2 hok
      rw [if_pos ht, h2 ht, if_neg (by omega), Nat.add_assoc]
      exact ihx n (a + nodesS L x) (i + 1) (by omega)
    · have ht : ¬ (rightS L (n + a) x).1 = true := fun e => hok (h1.1 e)
      rw [if_neg ht]
      have hge : a + nodesS L x ≤ 60 → a + nodesS L x ≤ nodesF (nodesS L) (a + nodesS L x) xs := fun h => nodesF_ge _ _ _ (by omega)
      constructor
      · constructor
        · intro hx; simp only at hx; omega
        · intro hx
          split at hx
          · omega
          · have := hge (by omega); omega
      · intro hx; simp only at hx; omega
theorem right_eq : ∀ (L n : Nat) (v : V), n ≤ 60 → ((rightS L n v).1 = true ↔ n + nodesS L v ≤ 60) ∧ ((rightS L n v).1 = true → (rightS L n v).2 = n + nodesS L v) := by
  intro L
  induction L with
  | zero => intro n v h; simp only [rightS, nodesS]; exact ⟨⟨fun e => (by cases e), fun e => (by omega)⟩, fun e => (by cases e)⟩
  | succ L ih =>
    intro n v h
    have hpos := nodesS_pos (L + 1) v
    simp only [rightS]
    by_cases h1 : n + 1 > 60
    · rw [if_pos h1]
      exact ⟨⟨fun e => (by cases e), fun e => by omega⟩, fun e => (by cases e)⟩
    · rw [if_neg h1]
      have hN : nodesS (L + 1) v = if v.items.length > 60 then 61 else if shape v then nodesF (nodesS L) 1 v.items else 61 := rfl
      generalize nodesS (L + 1) v = N at *
      by_cases hs : shape v = true
      · rw [if_pos hs]
        rw [if_pos hs] at hN
        obtain ⟨g1, g2⟩ := rightL_eq L (fun n x hn => ih n x hn) v.items n 1 0 (by omega)
        have hm := nodesF_many (nodesS L) (nodesS_pos L) v.items 1 (by omega)
        by_cases hl : v.items.length > 60
        · rw [if_pos hl] at hN
          have : ¬ (rightL (rightS L) (n + 1) v.items 0).1 < 0 := by rw [g1]; omega
          simp only [decide_eq_true_eq]
          exact ⟨⟨fun e => absurd e this, fun e => by omega⟩, fun e => absurd e this⟩
        · rw [if_neg hl] at hN
          subst hN
          simp only [decide_eq_true_eq]
          exact ⟨g1, g2⟩
      · rw [if_neg hs]
        rw [if_neg hs] at hN
        have : N = 61 := by rw [hN]; split <;> rfl
        exact ⟨⟨fun e => (by cases e), fun e => by omega⟩, fun e => (by cases e)⟩
theorem valid_eq (v : V) : (rightS 6 0 v).1 = valid v := by
  rw [Bool.eq_iff_iff, (right_eq 6 0 v (by omega)).1]; unfold valid; rw [Nat.zero_add, decide_eq_true_eq]

theorem pvalid_pure (v : V) (hv : v.sm) : Pure Tryz.prog 35 [inj v] (.bool (valid v)) := by
  refine Pure.ofW ⟨Tryz.f35, Tryz.func35, rfl, by kernel_rfl⟩ rfl (fun h hsc => ?_)
  refine acalls_of te_ok [] Tryz.func35 (c := _) rfl (Nat.le_of_ble_eq_true rfl) ?_
  simp only [aws, eq_self, reduceIte, Nat.reduceLT, Nat.reduceLeDiff, storeB, teset, Tryz.ntmps35, Tryz.results35, boxR, inj_take, inj_agg, inj_len, inj_one]
  have hr := right_calls 6 (by omega) v hv 0 (h.nb + 1) (((h.new (inj v).cells).new [.int .i64 0]).set (h.nb + 1) [.int .i64 0]) (by omega) (by rw [set_box, if_pos rfl]; rfl)
  refine ACallV.det ⟨Tryz.f45, Tryz.func45, rfl, by kernel_rfl⟩ rfl hr ?_
  simp only [aws, eq_self, reduceIte, Nat.reduceLT, ares1]
  exact ⟨by (repeat (first | exact AH.Ext.refl _ | assumption | refine AH.Ext.set ?_ (by first | omega | (simp only [new_nb, set_nb, kill_nb, newTok_nb, setTok_nb]; omega)) _ | refine AH.Ext.new ?_ _)), _, rfl, by rw [valid_eq]; exact .refl _⟩
end Go.Proofs.YtlbhgoffiigfbaaGreat.AW
end
section
set_option linter.unusedSimpArgs false
set_option linter.unusedVariables false
namespace Go.Proofs.YtlbhgoffiigfbaaGreat.AW
open Go Go.RowKit

def idxV (p : V → Bool) (xs : List V) : Int := match xs.findIdx? p with | some i => i | none => -1
theorem idxV_any (p : V → Bool) (xs : List V) : decide (idxV p xs ≥ 0) = xs.any p := by
  unfold idxV
  cases hf : xs.findIdx? p with
  | none =>
    rw [List.findIdx?_eq_none_iff] at hf
    have : xs.any p = false := by rw [List.any_eq_false]; intro x hx; rw [hf x hx]; decide
    rw [this]; rfl
  | some i =>
    obtain ⟨hi, hp, _⟩ := List.findIdx?_eq_some_iff_getElem.1 hf
    have : xs.any p = true := List.any_eq_true.2 ⟨_, List.getElem_mem hi, hp⟩
    rw [this]; simp
theorem index_vals (g : FuncId) (p : V → Bool) (xs : List V) (hp : ∀ x ∈ xs, Pure Tryz.prog g [inj x] (.bool (p x))) (hl : xs.length < 4611686018427387904) : Pure Tryz.prog 44 [.sl .ro 5 (xs.map inj), .fn (.func g) [] []] (.int .i64 (idxV p xs)) := by
  refine Pure.of ⟨Tryz.f44, Tryz.func44, rfl, by kernel_rfl⟩ rfl (fun h => ?_)
  refine acalls_of te_ok [] Tryz.func44 (c := _) rfl (Nat.le_of_ble_eq_true rfl) ?_
  simp only [aws, eq_self, reduceIte, Nat.reduceLT, Int.reduceNeg, teset, Tryz.ntmps44, Tryz.results44, List.length_map]
  refine ⟨fun n s' h' => ∃ (j : Nat), s' 0 = .sl .ro 5 (xs.map inj) ∧ s' 1 = .fn (.func g) [] [] ∧ s' 7 = .int .i64 xs.length ∧ s' 8 = .int .i64 j ∧ h' = h ∧ n + j = xs.length ∧ (∀ (j' : Nat) s, j' < j → xs[j']? = some s → p s = false), ⟨xs.length, 0, ?_⟩, ?_⟩
  · simp only [aws, eq_self, reduceIte, Int.natCast_zero]
    exact fun j' s hj => absurd hj (Nat.not_lt_zero _)
  · rintro n s' h' ⟨j, e0, e1, e7, e8, hh, hn, hall⟩
    subst hh
    simp only [aws, eq_self, reduceIte, Nat.reduceLT, Int.reduceNeg, acmpnil, e7, e8]
    cases hc : decide ((j : Int) < (xs.length : Int)) with
    | false =>
      simp only [aws, eq_self, reduceIte, Nat.reduceLT, Int.reduceNeg, ares1]
      simp only [decide_eq_false_iff_not] at hc
      refine ⟨.refl _, _, rfl, ?_⟩
      have : xs.findIdx? p = none := by
        rw [List.findIdx?_eq_none_iff]
        intro x hx
        obtain ⟨j', hj'⟩ := List.mem_iff_getElem?.1 hx
        exact hall j' x (by have := (List.getElem?_eq_some_iff.1 hj').1; omega) hj'
      unfold idxV; rw [this]; rfl
    | true =>
      simp only [decide_eq_true_eq] at hc
      have hj : j < xs.length := by omega
      have hget : (xs.map inj)[((j : Nat) : Int).toNat]? = some (inj xs[j]) := by simp [hj]
      simp only [aws, eq_self, reduceIte, reduceCtorEq, Nat.reduceLT, Nat.reduceLeDiff, Nat.reduceEqDiff, Int.reduceNeg, teset, e0, e1, e8, inj_take, inj_agg, inj_len, hget, Int.natCast_nonneg]
      refine ACallV.pure (hp _ (List.getElem_mem hj)) ?_
      cases hk : p xs[j] with
      | true =>
        simp only [aws, eq_self, reduceIte, Nat.reduceLT, Nat.reduceEqDiff, Int.reduceNeg, ares1]
        refine ⟨.refl _, _, rfl, ?_⟩
        have : xs.findIdx? p = some j := by
          rw [List.findIdx?_eq_some_iff_getElem]
          refine ⟨hj, hk, fun j' hj' => ?_⟩
          rw [hall j' (xs[j']'(by omega)) hj' (List.getElem?_eq_getElem (by omega))]; simp
        unfold idxV; rw [this]; rfl
      | false =>
        simp only [aws, eq_self, reduceIte, reduceCtorEq, Nat.reduceLT, Nat.reduceEqDiff, Int.reduceNeg, acmpnil, e0, e1, e7, e8]
        refine ⟨n - 1, by omega, j + 1, by rw [wrap_succ (by omega)], by omega, fun j' s' hj' hs' => ?_⟩
        by_cases e : j' = j
        · subst e; rw [List.getElem?_eq_getElem hj] at hs'; injection hs' with hs'; subst hs'; exact hk
        · exact hall j' s' (by omega) hs'
theorem contains_vals (g : FuncId) (p : V → Bool) (xs : List V) (hp : ∀ x ∈ xs, Pure Tryz.prog g [inj x] (.bool (p x))) (hl : xs.length < 4611686018427387904) : Pure Tryz.prog 33 [.sl .ro 5 (xs.map inj), .fn (.func g) [] []] (.bool (xs.any p)) := by
  refine Pure.of ⟨Tryz.f33, Tryz.func33, rfl, by kernel_rfl⟩ rfl (fun h => ?_)
  refine acalls_of te_ok [] Tryz.func33 (c := _) rfl (Nat.le_of_ble_eq_true rfl) ?_
  simp only [aws, eq_self, reduceIte, Nat.reduceLT, Tryz.ntmps33, Tryz.results33]
  refine ACallV.pure (index_vals g p xs hp hl) ?_
  simp only [aws, eq_self, reduceIte, Nat.reduceLT, acmpnil, ares1]
  exact ⟨.refl _, _, rfl, by rw [← idxV_any]; rfl⟩
theorem validfn_pure (x : V) (hx : x.sm) : Pure Tryz.prog 34 [inj x] (.bool (!valid x)) := by
  have hp := pvalid_pure x hx
  obtain ⟨k, i, t, xs, ks⟩ := x
  rw [inj_mk] at *
  refine Pure.ofW ⟨Tryz.f34, Tryz.func34, rfl, by kernel_rfl⟩ rfl (fun h hsc => ?_)
  refine acalls_of te_ok [] Tryz.func34 (c := _) rfl (Nat.le_of_ble_eq_true rfl) ?_
  simp only [aws, eq_self, reduceIte, Nat.reduceAdd, Nat.reduceLT, Nat.reduceLeDiff, teset, Tryz.ntmps34, Tryz.results34]
  refine ACallV.pure hp ?_
  simp only [aws, eq_self, reduceIte, Nat.reduceLT, ares1]
  exact ⟨by (repeat (first | exact AH.Ext.refl _ | assumption | refine AH.Ext.set ?_ (by first | omega | (simp only [new_nb, set_nb, kill_nb, newTok_nb, setTok_nb]; omega)) _ | refine AH.Ext.new ?_ _)), _, rfl, .refl _⟩
def validL (xs : List V) : Bool := decide (xs.length ≤ 200) && xs.all valid
theorem any_not (xs : List V) : (!xs.any fun x => !valid x) = xs.all valid := by
  induction xs with
  | nil => rfl
  | cons x xs ih => rw [List.any_cons, List.all_cons, Bool.not_or, ih, Bool.not_not]
theorem validL_pure (xs : List V) (hx : ∀ x ∈ xs, x.sm) (hl : xs.length < 4611686018427387904) : Pure Tryz.prog 23 [.sl .ro 5 (xs.map inj)] (.bool (validL xs)) := by
  refine Pure.of ⟨Tryz.f23, Tryz.func23, rfl, by kernel_rfl⟩ rfl (fun h => ?_)
  refine acalls_of te_ok [] Tryz.func23 (c := _) rfl (Nat.le_of_ble_eq_true rfl) ?_
  simp only [aws, eq_self, implies_true, reduceIte, Nat.reduceLT, acmpnil, teset, Tryz.ntmps23, Tryz.results23, List.length_map]
  cases hc : decide ((xs.length : Int) ≤ 200) with
  | false =>
    simp only [aws, eq_self, reduceIte, Nat.reduceLT, ares1]
    simp only [decide_eq_false_iff_not] at hc
    have : decide (xs.length ≤ 200) = false := by simp only [decide_eq_false_iff_not]; omega
    exact ⟨.refl _, _, rfl, by unfold validL; rw [this]; rfl⟩
  | true =>
    simp only [aws, eq_self, reduceIte, Nat.reduceLT]
    simp only [decide_eq_true_eq] at hc
    refine ACallV.pure (contains_vals _ _ xs (fun x h => validfn_pure x (hx x h)) hl) ?_
    simp only [aws, eq_self, implies_true, reduceIte, Nat.reduceLT, ares1]
    have : decide (xs.length ≤ 200) = true := by simp only [decide_eq_true_eq]; omega
    exact ⟨.refl _, _, rfl, by unfold validL; rw [this, ← any_not]; rfl⟩
end Go.Proofs.YtlbhgoffiigfbaaGreat.AW
end
section
set_option linter.unusedSimpArgs false
set_option linter.unusedVariables false
namespace Go.Proofs.YtlbhgoffiigfbaaGreat.AW
open Go Go.RowKit

theorem wk_nil5 : Wk (.sl .full 0 []) (.sl .ro 5 []) := .nil (by intro a b e; cases e)
theorem wk_nil1 : Wk (.sl .full 0 []) (.sl .ro 1 []) := .nil (by intro a b e; cases e)
end Go.Proofs.YtlbhgoffiigfbaaGreat.AW
end
section
set_option linter.unusedSimpArgs false
set_option linter.unusedVariables false
namespace Go.Proofs.YtlbhgoffiigfbaaGreat.AW
open Go Go.RowKit

theorem range0 : List.range 0 = [] := rfl
theorem range1 : List.range 1 = [0] := rfl
theorem Wk.ro {tag : Tag} {sz : Nat} {xs : List AV} : Wk (.sl tag sz xs) (.sl .ro sz xs) := by
  intro m c h
  cases h with
  | slnil => exact .slnil _ _ (by intro a b e; cases e)
  | slemp _ _ a hz _ => exact .slemp _ _ a hz (by intro a b e; cases e)
  | sl _ _ _ blk o cap f h1 h2 h3 h4 h5 h6 => exact .sl .ro sz xs blk o cap f h1 h2 h3 h4 h5 trivial
theorem AH.Ext.newTok' (h : AH) : h.Ext h.newTok := (AH.Ext.refl h).newTok
theorem clonestr_pure (ks : List ByteArray) (hl : ks.length < 4611686018427) : Pure Tryz.prog 52 [.sl .ro 1 (ks.map .str)] (.sl .ro 1 (ks.map .str)) := by
  refine Pure.ofW ⟨Tryz.f52, Tryz.func52, rfl, by kernel_rfl⟩ ?_ (fun h hsc => ?_)
  · have := inj_under (.mk 0 0 ⟨#[]⟩ [] ks)
    simp only [inj_mk, AV.under, AV.underL, Bool.and_true, Bool.true_and, List.map_nil] at this
    exact this
  · cases ks with
    | nil =>
      refine acalls_of te_ok [] Tryz.func52 (c := _) rfl (Nat.le_of_ble_eq_true rfl) ?_
      simp only [aws, eq_self, reduceIte, Nat.reduceLT, Nat.reduceLeDiff, Nat.reduceMul, acmpnil, appBox, ares1, appendTo, teset, Tryz.ntmps52, Tryz.results52, eqnil, List.isEmpty_nil, range0]
      exact ⟨⟨.refl _, _, rfl, wk_nil1⟩, .refl _, _, rfl, .ro⟩
    | cons k ks =>
      have hb : (ks.length + 1) * 16 ≤ 140737488355328 := by simp only [List.length_cons] at hl; omega
      refine acalls_of te_ok [] Tryz.func52 (c := _) rfl (Nat.le_of_ble_eq_true rfl) ?_
      simp only [aws, eq_self, reduceIte, reduceCtorEq, Nat.reduceLT, Nat.reduceLeDiff, Nat.reduceMul, acmpnil, appBox, ares1, appendTo, teset, Tryz.ntmps52, Tryz.results52, eqnil, List.isEmpty_cons, range0, List.length_map, hb]
      exact .inl ⟨.newTok' _, _, rfl, .ro⟩
end Go.Proofs.YtlbhgoffiigfbaaGreat.AW
end
section
set_option linter.unusedSimpArgs false
set_option linter.unusedVariables false
namespace Go.Proofs.YtlbhgoffiigfbaaGreat.AW
open Go Go.RowKit

theorem ACalls.wkOut {P : Program} {f : FuncId} {args : List AV} {h : AH} {R R' : AOut → AH → Prop} (hc : ACalls P f args h R') (hr : ∀ out h', R' out h' → ∃ u v, out = .ret u ∧ Wk u v ∧ R (.ret v) h') : ACalls P f args h R := by
  intro w0 m w cs h1 h2 hW
  refine (hc w0 m w cs h1 h2 hW).mono ?_
  rintro e w' ⟨m', out, h', q1, q2, q3, q4⟩
  obtain ⟨u, v, rfl, hw, hR⟩ := hr out h' q4
  refine ⟨m', .ret v, h', q1, ?_, q3, hR⟩
  cases e with
  | returned c => exact hw _ _ q2
  | panicked c => exact q2.elim
  | outgrown => exact q2.elim

theorem clonevals_calls (xs : List V) (hl : xs.length < 1000000) (h : AH) : ACalls Tryz.prog 53 [.sl .ro 5 (xs.map inj)] h fun out h' =>
    (xs = [] ∧ out = .ret (.sl .ro 5 []) ∧ h' = h) ∨ (xs ≠ [] ∧ out = .ret (.ms h.nb 0 xs.length 5) ∧ h' = h.new ((xs.map inj).flatMap AV.cells)) := by
  cases xs with
  | nil =>
    refine ACalls.wkOut (R' := fun out h' => (out = .ret (.sl .full 0 []) ∨ out = .ret (.sl .full 5 [])) ∧ h' = h) ?_ ?_
    · refine acalls_of te_ok [] Tryz.func53 (c := _) rfl (Nat.le_of_ble_eq_true rfl) ?_
      simp only [aws, eq_self, reduceIte, Nat.reduceLT, Nat.reduceLeDiff, Nat.reduceMul, acmpnil, appBox, ares1, appendTo, teset, Tryz.ntmps53, Tryz.results53, eqnil, List.isEmpty_nil, range0]
    · rintro out h' ⟨rfl | rfl, rfl⟩
      · exact ⟨_, _, rfl, wk_nil5, .inl ⟨rfl, rfl, rfl⟩⟩
      · exact ⟨_, _, rfl, .ro, .inl ⟨rfl, rfl, rfl⟩⟩
  | cons x xs =>
    have hb : (xs.length + 1) * 80 ≤ 140737488355328 := by simp only [List.length_cons] at hl; omega
    refine acalls_of te_ok [] Tryz.func53 (c := _) rfl (Nat.le_of_ble_eq_true rfl) ?_
    simp only [aws, ne_eq, eq_self, reduceIte, reduceCtorEq, Nat.reduceLT, Nat.reduceLeDiff, Nat.reduceMul, acmpnil, appBox, ares1, appendTo, teset, Tryz.ntmps53, Tryz.results53, eqnil, List.isEmpty_cons, range0, List.length_map, hb]
end Go.Proofs.YtlbhgoffiigfbaaGreat.AW
end
section
set_option linter.unusedSimpArgs false
set_option linter.unusedVariables false
namespace Go.Proofs.YtlbhgoffiigfbaaGreat.AW
open Go Go.RowKit

theorem cells_split : ∀ (xs : List V) (j : Nat) (hj : j < xs.length), ∃ pre post, (xs.map inj).flatMap AV.cells = pre ++ (inj xs[j]).cells ++ post ∧ pre.length = j * 5 := by
  intro xs
  induction xs with
  | nil => intro j hj; simp at hj
  | cons x xs ih =>
    intro j hj
    cases j with
    | zero => exact ⟨[], (xs.map inj).flatMap AV.cells, by simp, by simp⟩
    | succ j =>
      obtain ⟨pre, post, h1, h2⟩ := ih j (by simpa using hj)
      refine ⟨(inj x).cells ++ pre, post, ?_, ?_⟩
      · simp only [List.map_cons, List.flatMap_cons, h1, List.getElem_cons_succ, List.append_assoc]
      · rw [List.length_append, inj_len, h2]; omega
theorem cells_drop (xs : List V) {j : Nat} (hj : j < xs.length) : ∃ post, List.drop (j * 5) ((xs.map inj).flatMap AV.cells) = (inj xs[j]).cells ++ post := by
  obtain ⟨pre, post, h1, h2⟩ := cells_split xs j hj
  refine ⟨post, ?_⟩
  rw [h1, ← h2]; simp
theorem cells_store (xs : List V) {j : Nat} (hj : j < xs.length) : List.take (j * 5) ((xs.map inj).flatMap AV.cells) ++ (inj xs[j]).cells ++ List.drop (j * 5 + 5) ((xs.map inj).flatMap AV.cells) = (xs.map inj).flatMap AV.cells := by
  obtain ⟨pre, post, h1, h2⟩ := cells_split xs j hj
  rw [h1, ← h2]
  have : pre.length + 5 = (pre ++ (inj xs[j]).cells).length := by rw [List.length_append, inj_len]
  rw [this]
  simp
theorem cells_len (xs : List V) : ((xs.map inj).flatMap AV.cells).length = xs.length * 5 := by
  induction xs with
  | nil => rfl
  | cons x xs ih => rw [List.map_cons, List.flatMap_cons, List.length_append, inj_len, ih, List.length_cons]; omega
end Go.Proofs.YtlbhgoffiigfbaaGreat.AW
end
section
set_option linter.unusedSimpArgs false
set_option linter.unusedVariables false
namespace Go.Proofs.YtlbhgoffiigfbaaGreat.AW
open Go Go.RowKit

mutual
/-- Not great in any place. -/
def V.tin : V → Prop
  | .mk _ _ _ xs ks => xs.length < 10000 ∧ ks.length < 10000 ∧ V.tinL xs
def V.tinL : List V → Prop
  | [] => True
  | x :: xs => x.tin ∧ V.tinL xs
end
theorem V.tinL_iff {xs : List V} : V.tinL xs ↔ ∀ x ∈ xs, x.tin := by
  induction xs with
  | nil => simp [V.tinL]
  | cons x xs ih => simp [V.tinL, ih]
theorem Vok.tin {v : V} (h : Vok v) : v.tin := by
  induction v using V.ind with
  | h k i t xs ks ih =>
    have h1 := h.shape.2
    have h2 := h.keys.2
    simp only [V.items, V.keys] at h1 h2
    simp only [V.tin, V.tinL_iff]
    exact ⟨by omega, by omega, fun x hx => ih x hx (h.items x hx)⟩
theorem clone_tin : ∀ v : V, v.tin → Pure Tryz.prog 42 [inj v] (inj v) := by
  intro v
  induction v using V.ind with
  | h k i t xs ks ih =>
    intro hv
    simp only [V.tin, V.tinL_iff] at hv
    have hx60 := hv.1
    have hk60 := hv.2.1
    have hvi := hv.2.2
    have hcl := clonestr_pure ks (by omega)
    have hu := inj_under (.mk k i t xs ks)
    rw [inj_mk] at hu ⊢
    refine Pure.of0 ⟨Tryz.f42, Tryz.func42, rfl, by kernel_rfl⟩ (by simpa [AV.underL] using hu) hu ?_
    refine acalls_of te_ok [] Tryz.func42 (c := _) rfl (Nat.le_of_ble_eq_true rfl) ?_
    simp only [aws, eq_self, reduceIte, Nat.reduceLT, teset, Tryz.ntmps42, Tryz.results42, boxR]
    refine ACallV.pure hcl ?_
    simp only [aws, eq_self, reduceIte, Nat.reduceAdd, Nat.reduceLT, Nat.reduceLeDiff, Nat.reduceEqDiff, storeB, teset]
    refine ACallV.mono ?_ (ACallV.of ⟨Tryz.f53, Tryz.func53, rfl, by kernel_rfl⟩ (clonevals_calls xs (by omega) _))
    rintro out h' (⟨rfl, rfl, rfl⟩ | ⟨hne, rfl, rfl⟩)
    · simp only [aws, eq_self, reduceIte, Nat.reduceLT, Nat.reduceEqDiff, teset]
      refine ⟨fun n s' h' => s' 1 = .ptr 0 0 ∧ s' 2 = .ptr 1 0 ∧ s' 3 = .sl .ro 5 [] ∧ s' 14 = .int .i64 0 ∧ s' 15 = .int .i64 0 ∧ h'.box 0 = some [.int .i64 k, .int .i64 i, .str t, .sl .ro 5 [], .sl .ro 1 (ks.map .str)] ∧ h'.box 1 = some [.int .i64 0, .int .i64 0, .str ⟨#[]⟩, .sl .full 0 [], .sl .full 0 []], ⟨0, ?_⟩, ?_⟩
      · simp only [aws, eq_self, reduceIte, Nat.reduceEqDiff, Int.natCast_zero]
      · rintro n s' h' ⟨e1, e2, e3, e14, e15, b1, b2⟩
        simp only [aws, eq_self, reduceIte, Nat.reduceAdd, Nat.reduceLT, Nat.reduceLeDiff, Nat.reduceEqDiff, Int.reduceLT, acmpnil, storeB, ares1, teset, e1, e2, e3, e14, e15, b1, b2]
        exact ⟨_, rfl, .refl _ _⟩
    · simp only [aws, eq_self, reduceIte, Nat.reduceAdd, Nat.reduceLT, Nat.reduceEqDiff, teset]
      refine ⟨fun n s' h' => ∃ (j : Nat), s' 1 = .ptr 0 0 ∧ s' 2 = .ptr 1 0 ∧ s' 3 = .ms 2 0 xs.length 5 ∧ s' 13 = .ms 2 0 xs.length 5 ∧ s' 14 = .int .i64 xs.length ∧ s' 15 = .int .i64 j ∧ n + j = xs.length ∧ 3 ≤ h'.nb ∧ h'.box 0 = some [.int .i64 k, .int .i64 i, .str t, .sl .ro 5 (xs.map inj), .sl .ro 1 (ks.map .str)] ∧ h'.box 1 = some [.int .i64 0, .int .i64 0, .str ⟨#[]⟩, .sl .full 0 [], .sl .full 0 []] ∧ h'.box 2 = some ((xs.map inj).flatMap AV.cells), ⟨xs.length, 0, ?_⟩, ?_⟩
      · simp only [aws, eq_self, reduceIte, Nat.reduceAdd, Nat.reduceLeDiff, Nat.reduceEqDiff, Int.natCast_zero]
      · rintro n s' h' ⟨j, e1, e2, e3, e13, e14, e15, hn, hnb, b1, b2, b3⟩
        have ne1 : (0 = h'.nb) = False := by simp only [eq_iff_iff, iff_false]; omega
        have ne2 : (1 = h'.nb) = False := by simp only [eq_iff_iff, iff_false]; omega
        have ne3 : (2 = h'.nb) = False := by simp only [eq_iff_iff, iff_false]; omega
        simp only [aws, eq_self, reduceIte, Nat.reduceLT, acmpnil, e14, e15]
        cases hc : decide ((j : Int) < (xs.length : Int)) with
        | false =>
          simp only [aws, eq_self, reduceIte, Nat.reduceAdd, Nat.reduceLT, Nat.reduceLeDiff, Nat.reduceEqDiff, storeB, ares1, teset, e1, e2, e3, b1, b2]
          refine ⟨_, rfl, To0All.agg (.cons (.refl _ _) (.cons (.refl _ _) (.cons (.refl _ _) (.cons ?_ (.cons (.refl _ _) .nil)))))⟩
          have hms := To0.ms (h := (h'.set 0 [AV.int IntKind.i64 k, AV.int IntKind.i64 i, AV.str t, AV.ms 2 0 xs.length 5, AV.sl Tag.ro 1 (ks.map .str)]).set 1 [AV.int IntKind.i64 k, AV.int IntKind.i64 i, AV.str t, AV.ms 2 0 xs.length 5, AV.sl Tag.ro 1 (ks.map .str)]) (b := 2) (sz := 5) (xs := xs.map inj) (rest := [])
            (by rw [set_box, if_neg (by omega), set_box, if_neg (by omega), List.append_nil]; exact b3)
            (fun i x hi => by
              rw [List.getElem?_map] at hi
              cases hx : xs[i]? with
              | none => rw [hx] at hi; cases hi
              | some y => rw [hx] at hi; injection hi with hi; subst hi; exact inj_len y) (by omega) (by simpa using hne)
          rwa [List.length_map] at hms
        | true =>
          simp only [decide_eq_true_eq] at hc
          have hj : j < xs.length := by omega
          obtain ⟨post, hdrop⟩ := cells_drop xs hj
          have hstore := cells_store xs hj
          have htk : List.take 5 ((inj xs[j]).cells ++ post) = (inj xs[j]).cells := by
            have := inj_len xs[j]
            rw [List.take_append_of_le_length (by omega), inj_take]
          have h5 : 5 ≤ ((inj xs[j]).cells ++ post).length := by rw [List.length_append, inj_len]; omega
          simp only [aws, eq_self, reduceIte, Nat.reduceAdd, Nat.reduceLT, Nat.reduceLeDiff, Nat.reduceEqDiff, storeB, teset, e3, e13, e15, b3, inj_take, inj_agg, inj_len, inj_one, hc, Int.natCast_nonneg, Int.toNat_natCast, hdrop, htk, h5]
          have hmem : xs[j] ∈ xs := List.getElem_mem _
          have hfit : j * 5 + 5 ≤ ((xs.map inj).flatMap AV.cells).length := by rw [cells_len]; omega
          refine ACallV.pure (ih xs[j] hmem (hvi _ hmem)) ?_
          simp only [aws, eq_self, reduceIte, Nat.reduceLT, Nat.reduceLeDiff, Nat.reduceEqDiff, acmpnil, storeB, teset, e1, e2, e3, e13, e14, e15, b1, b2, b3, inj_len, inj_one, hc, Int.natCast_nonneg, Int.toNat_natCast, ne1, ne2, ne3, hfit, hstore]
          exact ⟨n - 1, by omega, j + 1, by rw [wrap_succ (by omega)], by omega, by omega⟩
theorem clone_pure (v : V) (hv : Vok v) : Pure Tryz.prog 42 [inj v] (inj v) := clone_tin v hv.tin
end Go.Proofs.YtlbhgoffiigfbaaGreat.AW
end
