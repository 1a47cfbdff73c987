/- V, part 65: addValue. -/
import Derived.Test.YtlbhgoffiigfbaaV64
import Derived.Test.YtlbhgoffiigfbaaV2
set_option linter.unusedSimpArgs false
set_option linter.unusedVariables false
namespace Go.Proofs.Ytlbhgoffiigfbaa.AW
open Go Go.RowKit

mutual
/-- The bytes of a value. -/
def valA : V → List AV
  | .mk k i t xs ks => .int .u8 (IntKind.u8.wrap k) :: (if k = 1 then [.int .u8 (IntKind.u8.wrap i)] else if k = 2 then numA (zig i) else if k = 3 then strA t else if k = 4 ∨ k = 5 then numA xs.length ++ valL (k == 5) xs ks else [])
def valL : Bool → List V → List ByteArray → List AV
  | _, [], _ => []
  | true, x :: xs, k :: ks => strA k ++ (valA x ++ valL true xs ks)
  | true, _ :: _, [] => []
  | false, x :: xs, ks => valA x ++ valL false xs ks
end
mutual
/-- How often they are appended to. -/
def valG : V → Nat
  | .mk k i t xs ks => 1 + (if k = 1 then 1 else if k = 2 then (numA (zig i)).length else if k = 3 then strG t else if k = 4 ∨ k = 5 then (numA xs.length).length + valGL (k == 5) xs ks else 0)
def valGL : Bool → List V → List ByteArray → Nat
  | _, [], _ => 0
  | true, x :: xs, k :: ks => strG k + (valG x + valGL true xs ks)
  | true, _ :: _, [] => 0
  | false, x :: xs, ks => valG x + valGL false xs ks
end
mutual
/-- What can be written. -/
def V.wr : V → Prop
  | .mk k i t xs ks => (-1000000000000000000 ≤ i ∧ i ≤ 1000000000000000000) ∧ t.size < 1000000000 ∧ xs.length < 1000000000 ∧ (k = 5 → ks.length = xs.length) ∧ (∀ k ∈ ks, k.size < 1000000000) ∧ V.wrL xs
def V.wrL : List V → Prop
  | [] => True
  | x :: xs => x.wr ∧ V.wrL xs
end
theorem V.wrL_iff {xs : List V} : V.wrL xs ↔ ∀ x ∈ xs, x.wr := by
  induction xs with
  | nil => simp [V.wrL]
  | cons x xs ih => simp [V.wrL, ih]
mutual
theorem V.ind2 {p : V → Prop} (h : ∀ k i t xs ks, (∀ x ∈ xs, p x) → p (.mk k i t xs ks)) : ∀ v, p v
  | .mk k i t xs ks => h k i t xs ks (V.ind2L h xs)
theorem V.ind2L {p : V → Prop} (h : ∀ k i t xs ks, (∀ x ∈ xs, p x) → p (.mk k i t xs ks)) : ∀ xs : List V, ∀ x ∈ xs, p x
  | [], x, hx => by cases hx
  | y :: ys, x, hx => by
    rcases List.mem_cons.1 hx with e | hx
    · rw [e]; exact V.ind2 h y
    · exact V.ind2L h ys x hx
end
/-- A heap that differs from another one in a row's generation and in what is new. -/
structure CutT (h h2 : AH) (t G : Nat) : Prop where
  box : ∀ b, b < h.nb → h2.box b = h.box b
  tok : h2.tok t = some G
  toks : ∀ t', t' ≠ t → h2.tok t' = h.tok t'
theorem under_bytes {nb nt : Nat} : ∀ l : List AV, (∀ x ∈ l, ∃ n, x = .int .u8 n) → AV.underL nb nt l = true
  | [], _ => rfl
  | x :: l, h => by
    obtain ⟨n, rfl⟩ := h x List.mem_cons_self
    simp only [AV.underL, AV.under, Bool.true_and]
    exact under_bytes l fun z hz => h z (List.mem_cons_of_mem _ hz)
theorem ACalls.cutT {P : Program} {f : FuncId} {args : List AV} {h : AH} {t g G : Nat} {ys : List AV} (ht : h.tok t = some g) (hu : ∀ nb nt, AV.underL nb nt ys = true) (hc : ACalls P f args h fun out h2 => out = .ret (.sl (.tok t G) 1 ys) ∧ CutT h h2 t G) :
    ACalls P f args h fun out h' => out = .ret (.sl (.tok t G) 1 ys) ∧ h' = h.setTok t G := by
  refine hc.cut fun hs out h2 ⟨e, hq⟩ => ⟨out, h.setTok t G, .inl rfl, ?_, ⟨rfl, rfl, fun b cs hb => ?_, fun t' g' ht' => ?_⟩, e, rfl⟩
  · rw [e]
    simp only [AOut.under, AV.under, hu, Bool.and_true, decide_eq_true_eq]
    exact hs.tok t g ht
  · have hb' : h.box b = some cs := hb
    exact ⟨by rw [hq.box b (hs.box b cs hb')]; exact hb', .inl hb'⟩
  · rw [setTok_tok] at ht'
    split at ht'
    · next e2 => subst e2; rw [hq.tok]; exact ⟨ht', hs.tok t' g ht⟩
    · next e2 => rw [hq.toks t' e2]; exact ⟨ht', hs.tok t' g' ht'⟩
theorem CutT.leaf {h : AH} {cs : List AV} {t G : Nat} : CutT h ((h.new cs).setTok t G) t G := by
  refine ⟨fun b hb => ?_, ?_, fun t' ht' => ?_⟩
  · rw [setTok_box, new_box, if_neg (by omega)]
  · rw [setTok_tok, if_pos rfl]
  · rw [setTok_tok, if_neg ht', new_tok]
/-- The heap in the loop. -/
structure LoopH (h h' : AH) (cells : List AV) (t G : Nat) : Prop where
  tok : h'.tok t = some G
  box0 : h'.box h.nb = some cells
  box : ∀ b, b < h.nb → h'.box b = h.box b
  toks : ∀ t', t' ≠ t → h'.tok t' = h.tok t'
  nb : h.nb < h'.nb
theorem LoopH.cut {h h' : AH} {cells : List AV} {t G : Nat} (l : LoopH h h' cells t G) : CutT h h' t G := ⟨l.box, l.tok, l.toks⟩
theorem LoopH.start {h : AH} {cells : List AV} {t G : Nat} : LoopH h ((h.new cells).setTok t G) cells t G := by
  refine ⟨?_, ?_, fun b hb => ?_, fun t' ht' => ?_, ?_⟩
  · rw [setTok_tok, if_pos rfl]
  · rw [setTok_box, new_box, if_pos rfl]
  · rw [setTok_box, new_box, if_neg (by omega)]
  · rw [setTok_tok, if_neg ht', new_tok]
  · rw [setTok_nb, new_nb]; omega
theorem LoopH.new {h h' : AH} {cells cs : List AV} {t G : Nat} (l : LoopH h h' cells t G) : LoopH h (h'.new cs) cells t G := by
  have := l.nb
  refine ⟨l.tok, ?_, fun b hb => ?_, l.toks, ?_⟩
  · rw [new_box, if_neg (by omega)]; exact l.box0
  · rw [new_box, if_neg (by omega)]; exact l.box b hb
  · rw [new_nb]; omega
theorem LoopH.set {h h' : AH} {cells cs : List AV} {t G : Nat} (l : LoopH h h' cells t G) {b : Nat} (hb : h.nb < b) : LoopH h (h'.set b cs) cells t G := by
  have := l.nb
  refine ⟨l.tok, ?_, fun c hc => ?_, l.toks, ?_⟩
  · rw [set_box, if_neg (by omega)]; exact l.box0
  · rw [set_box, if_neg (by omega)]; exact l.box c hc
  · rw [set_nb]; omega
theorem LoopH.step {h h' : AH} {cells : List AV} {t G G' : Nat} (l : LoopH h h' cells t G) : LoopH h (h'.setTok t G') cells t G' := by
  refine ⟨?_, l.box0, l.box, fun t' ht' => ?_, l.nb⟩
  · rw [setTok_tok, if_pos rfl]
  · rw [setTok_tok, if_neg ht']; exact l.toks t' ht'
theorem underL_left {nb nt : Nat} {a b : List AV} (h : AV.underL nb nt (a ++ b) = true) : AV.underL nb nt a = true := by
  induction a with
  | nil => rfl
  | cons x a ih =>
    simp only [List.cons_append, AV.underL, Bool.and_eq_true] at h ⊢
    exact ⟨h.1, ih h.2⟩
theorem valL_ks (xs : List V) (a b : List ByteArray) : valL false xs a = valL false xs b := by
  induction xs with
  | nil => simp [valL]
  | cons x xs ih => simp [valL, ih]
theorem valGL_ks (xs : List V) (a b : List ByteArray) : valGL false xs a = valGL false xs b := by
  induction xs with
  | nil => simp [valGL]
  | cons x xs ih => simp [valGL, ih]
theorem valL_f {xs : List V} {j : Nat} (hj : j < xs.length) (a b : List ByteArray) : valL false (xs.drop j) a = valA xs[j] ++ valL false (xs.drop (j + 1)) b := by
  rw [List.drop_eq_getElem_cons hj, valL, valL_ks _ a b]
theorem valGL_f {xs : List V} {j : Nat} (hj : j < xs.length) (a b : List ByteArray) : valGL false (xs.drop j) a = valG xs[j] + valGL false (xs.drop (j + 1)) b := by
  rw [List.drop_eq_getElem_cons hj, valGL, valGL_ks _ a b]
theorem valL_t {xs : List V} {ks : List ByteArray} {j : Nat} (hj : j < xs.length) (hk : j < ks.length) : valL true (xs.drop j) (ks.drop j) = strA ks[j] ++ (valA xs[j] ++ valL true (xs.drop (j + 1)) (ks.drop (j + 1))) := by
  rw [List.drop_eq_getElem_cons hj, List.drop_eq_getElem_cons hk, valL]
theorem valGL_t {xs : List V} {ks : List ByteArray} {j : Nat} (hj : j < xs.length) (hk : j < ks.length) : valGL true (xs.drop j) (ks.drop j) = strG ks[j] + (valG xs[j] + valGL true (xs.drop (j + 1)) (ks.drop (j + 1))) := by
  rw [List.drop_eq_getElem_cons hj, List.drop_eq_getElem_cons hk, valGL]
theorem loopN {n j m : Nat} (h : n + j = m) (hj : j < m) : n - 1 < n ∧ n - 1 + (j + 1) = m := by omega
theorem natLt {a b : Nat} (h : (a : Int) < (b : Int)) : a < b := Int.ofNat_lt.1 h
set_option maxHeartbeats 8000000 in
theorem addvalue_tok : ∀ v : V, v.wr → ∀ (xs0 : List AV) (t g : Nat) (h : AH), h.tok t = some g → (∀ nb nt, AV.underL nb nt (xs0 ++ valA v) = true) → xs0.length + (valA v).length < 1000000000 →
    ACalls Try.prog 74 [.sl (.tok t g) 1 xs0, inj v] h fun out h' => out = .ret (.sl (.tok t (g + valG v)) 1 (xs0 ++ valA v)) ∧ h' = h.setTok t (g + valG v) := by
  intro v
  induction v using V.ind2 with
  | h k i tx xs ks ih =>
    intro hw xs0 t g h ht hu hlen
    simp only [V.wr, V.wrL_iff] at hw
    obtain ⟨⟨hi1, hi2⟩, htx, hxl, hkl, hks, hxs⟩ := hw
    refine ACalls.cutT ht hu ?_
    rw [inj_mk]
    have hb0 : (xs0.length + 1) * 1 ≤ 140737488355328 := by omega
    have hb1 : (xs0.length + 1 + 1) * 1 ≤ 140737488355328 := by omega
    have hx1 : (xs0 ++ [AV.int .u8 (IntKind.u8.wrap k)]).length < 1000000000 := by
      rw [List.length_append]; rw [show valA (.mk k i tx xs ks) = .int .u8 (IntKind.u8.wrap k) :: (if k = 1 then _ else _) by rw [valA]] at hlen; simp only [List.length_cons, List.length_nil] at hlen ⊢; omega
    refine acalls_of te_ok [] Try.func74 (c := _) rfl (Nat.le_of_ble_eq_true rfl) ?_
    simp only [aw0, aw1, aw2, aw3, aw4, aw5, aw6, aw7, ne_eq, eq_self, implies_true, imp_self, reduceIte, reduceCtorEq, Nat.reduceAdd, Nat.reduceLT, Nat.reduceLeDiff, Nat.reduceEqDiff, Nat.reduceSub, Nat.reduceMul, Nat.reduceBEq, Int.reduceBEq, Int.reduceBNe, Int.reduceLT, Int.reduceLE, Int.reduceGT, Int.reduceGE, Int.reduceNeg, Int.reduceEq, Int.reduceNe, Int.reduceToNat, Int.reduceAdd, aconv, acvB, capR, acmpnil, appBox, storeB, ares1, appendTo, afill, aeqL, teset, Try.ntmps74, Try.results74, boxR, inj_take, inj_drop, inj_agg, inj_len, inj_one, List.length_map, rng1, hb0, ht, List.length_cons, List.length_nil, Nat.zero_add]
    cases h1 : (k == 1) with
    | true =>
      simp only [aw0, aw1, aw2, aw3, aw4, aw5, aw6, aw7, ne_eq, eq_self, implies_true, imp_self, reduceIte, reduceCtorEq, Nat.reduceAdd, Nat.reduceLT, Nat.reduceLeDiff, Nat.reduceEqDiff, Nat.reduceSub, Nat.reduceMul, Nat.reduceBEq, Int.reduceBEq, Int.reduceBNe, Int.reduceLT, Int.reduceLE, Int.reduceGT, Int.reduceGE, Int.reduceNeg, Int.reduceEq, Int.reduceNe, Int.reduceToNat, Int.reduceAdd, aconv, acvB, capR, acmpnil, appBox, storeB, ares1, appendTo, afill, aeqL, teset, boxR, inj_take, inj_drop, inj_agg, inj_len, inj_one, List.length_map, rng1, hb0, hb1, ht, List.length_append, List.length_cons, List.length_nil, Nat.zero_add]
      have hk : k = 1 := by simpa using h1
      subst hk
      rw [setTok_setTok]
      have e1 : valA (.mk 1 i tx xs ks) = [.int .u8 (IntKind.u8.wrap 1), .int .u8 (IntKind.u8.wrap i)] := by simp [valA]
      have e2 : g + valG (.mk 1 i tx xs ks) = g + 1 + 1 := by simp only [valG, if_true, Nat.add_assoc]
      rw [e1, e2, List.append_assoc]
      exact ⟨rfl, CutT.leaf⟩
    | false =>
      have hn1 : ¬ k = 1 := by simpa using h1
      simp only [aw0, aw1, aw2, aw3, aw4, aw5, aw6, aw7, ne_eq, eq_self, implies_true, imp_self, reduceIte, reduceCtorEq, Nat.reduceAdd, Nat.reduceLT, Nat.reduceLeDiff, Nat.reduceEqDiff, Nat.reduceSub, Nat.reduceMul, Nat.reduceBEq, Int.reduceBEq, Int.reduceBNe, Int.reduceLT, Int.reduceLE, Int.reduceGT, Int.reduceGE, Int.reduceNeg, Int.reduceEq, Int.reduceNe, Int.reduceToNat, Int.reduceAdd, aconv, acvB, capR, acmpnil, appBox, storeB, ares1, appendTo, afill, aeqL, teset, boxR, inj_take, inj_drop, inj_agg, inj_len, inj_one, List.length_map, rng1, hb0, ht, List.length_append, List.length_cons, List.length_nil, Nat.zero_add]
      cases h2 : (k == 2) with
      | true =>
        have hk : k = 2 := by simpa using h2
        subst hk
        simp only [aw0, aw1, aw2, aw3, aw4, aw5, aw6, aw7, ne_eq, eq_self, implies_true, imp_self, reduceIte, reduceCtorEq, Nat.reduceAdd, Nat.reduceLT, Nat.reduceLeDiff, Nat.reduceEqDiff, Nat.reduceSub, Nat.reduceMul, Nat.reduceBEq, Int.reduceBEq, Int.reduceBNe, Int.reduceLT, Int.reduceLE, Int.reduceGT, Int.reduceGE, Int.reduceNeg, Int.reduceEq, Int.reduceNe, Int.reduceToNat, Int.reduceAdd, aconv, acvB, capR, acmpnil, appBox, storeB, ares1, appendTo, afill, aeqL, teset, boxR, inj_take, inj_drop, inj_agg, inj_len, inj_one, List.length_map, rng1, hb0, ht, List.length_append, List.length_cons, List.length_nil, Nat.zero_add]
        refine ACallV.mono ?_ (ACallV.of ⟨Try.f78, Try.func78, rfl, by kernel_rfl⟩ (addint_tok _ i t (g + 1) hi1 hi2 hx1 _ (by rw [setTok_tok, if_pos rfl])))
        rintro out h' ⟨rfl, rfl⟩
        simp only [aw0, aw1, aw2, aw3, aw4, aw5, aw6, aw7, ne_eq, eq_self, implies_true, imp_self, reduceIte, reduceCtorEq, Nat.reduceAdd, Nat.reduceLT, Nat.reduceLeDiff, Nat.reduceEqDiff, Nat.reduceSub, Nat.reduceMul, Nat.reduceBEq, Int.reduceBEq, Int.reduceBNe, Int.reduceLT, Int.reduceLE, Int.reduceGT, Int.reduceGE, Int.reduceNeg, Int.reduceEq, Int.reduceNe, Int.reduceToNat, Int.reduceAdd, aconv, acvB, capR, acmpnil, appBox, storeB, ares1, appendTo, afill, aeqL, teset, callK_ret]
        rw [setTok_setTok]
        have e1 : valA (.mk 2 i tx xs ks) = .int .u8 (IntKind.u8.wrap 2) :: numA (zig i) := by simp [valA]
        have e2 : g + valG (.mk 2 i tx xs ks) = g + 1 + (numA (zig i)).length := by simp only [valG, if_true, if_neg hn1]; omega
        rw [e1, e2, List.append_assoc]
        exact ⟨rfl, CutT.leaf⟩
      | false =>
        have hn2 : ¬ k = 2 := by simpa using h2
        simp only [aw0, aw1, aw2, aw3, aw4, aw5, aw6, aw7, ne_eq, eq_self, implies_true, imp_self, reduceIte, reduceCtorEq, Nat.reduceAdd, Nat.reduceLT, Nat.reduceLeDiff, Nat.reduceEqDiff, Nat.reduceSub, Nat.reduceMul, Nat.reduceBEq, Int.reduceBEq, Int.reduceBNe, Int.reduceLT, Int.reduceLE, Int.reduceGT, Int.reduceGE, Int.reduceNeg, Int.reduceEq, Int.reduceNe, Int.reduceToNat, Int.reduceAdd, aconv, acvB, capR, acmpnil, appBox, storeB, ares1, appendTo, afill, aeqL, teset, boxR, inj_take, inj_drop, inj_agg, inj_len, inj_one, List.length_map, rng1, hb0, ht, List.length_append, List.length_cons, List.length_nil, Nat.zero_add]
        cases h3 : (k == 3) with
        | true =>
          have hk : k = 3 := by simpa using h3
          subst hk
          simp only [aw0, aw1, aw2, aw3, aw4, aw5, aw6, aw7, ne_eq, eq_self, implies_true, imp_self, reduceIte, reduceCtorEq, Nat.reduceAdd, Nat.reduceLT, Nat.reduceLeDiff, Nat.reduceEqDiff, Nat.reduceSub, Nat.reduceMul, Nat.reduceBEq, Int.reduceBEq, Int.reduceBNe, Int.reduceLT, Int.reduceLE, Int.reduceGT, Int.reduceGE, Int.reduceNeg, Int.reduceEq, Int.reduceNe, Int.reduceToNat, Int.reduceAdd, aconv, acvB, capR, acmpnil, appBox, storeB, ares1, appendTo, afill, aeqL, teset, boxR, inj_take, inj_drop, inj_agg, inj_len, inj_one, List.length_map, rng1, hb0, ht, List.length_append, List.length_cons, List.length_nil, Nat.zero_add]
          refine ACallV.mono ?_ (ACallV.of ⟨Try.f79, Try.func79, rfl, by kernel_rfl⟩ (addtext_tok _ tx t (g + 1) htx hx1 _ (by rw [setTok_tok, if_pos rfl])))
          rintro out h' ⟨rfl, rfl⟩
          simp only [aw0, aw1, aw2, aw3, aw4, aw5, aw6, aw7, ne_eq, eq_self, implies_true, imp_self, reduceIte, reduceCtorEq, Nat.reduceAdd, Nat.reduceLT, Nat.reduceLeDiff, Nat.reduceEqDiff, Nat.reduceSub, Nat.reduceMul, Nat.reduceBEq, Int.reduceBEq, Int.reduceBNe, Int.reduceLT, Int.reduceLE, Int.reduceGT, Int.reduceGE, Int.reduceNeg, Int.reduceEq, Int.reduceNe, Int.reduceToNat, Int.reduceAdd, aconv, acvB, capR, acmpnil, appBox, storeB, ares1, appendTo, afill, aeqL, teset, callK_ret]
          rw [setTok_setTok]
          have e1 : valA (.mk 3 i tx xs ks) = .int .u8 (IntKind.u8.wrap 3) :: strA tx := by simp [valA]
          have e2 : g + valG (.mk 3 i tx xs ks) = g + 1 + strG tx := by simp only [valG, if_true, if_neg hn1, if_neg hn2]; omega
          rw [e1, e2, List.append_assoc]
          exact ⟨rfl, CutT.leaf⟩
        | false =>
          have hn3 : ¬ k = 3 := by simpa using h3
          simp only [aw0, aw1, aw2, aw3, aw4, aw5, aw6, aw7, ne_eq, eq_self, implies_true, imp_self, reduceIte, reduceCtorEq, Nat.reduceAdd, Nat.reduceLT, Nat.reduceLeDiff, Nat.reduceEqDiff, Nat.reduceSub, Nat.reduceMul, Nat.reduceBEq, Int.reduceBEq, Int.reduceBNe, Int.reduceLT, Int.reduceLE, Int.reduceGT, Int.reduceGE, Int.reduceNeg, Int.reduceEq, Int.reduceNe, Int.reduceToNat, Int.reduceAdd, aconv, acvB, capR, acmpnil, appBox, storeB, ares1, appendTo, afill, aeqL, teset, boxR, inj_take, inj_drop, inj_agg, inj_len, inj_one, List.length_map, rng1, hb0, ht, List.length_append, List.length_cons, List.length_nil, Nat.zero_add]
          cases h4 : (k == 4) with
          | true =>
            have hk : k = 4 := by simpa using h4
            have hk45 : k = 4 ∨ k = 5 := .inl hk
            simp only [aw0, aw1, aw2, aw3, aw4, aw5, aw6, aw7, ne_eq, eq_self, implies_true, imp_self, reduceIte, reduceCtorEq, Nat.reduceAdd, Nat.reduceLT, Nat.reduceLeDiff, Nat.reduceEqDiff, Nat.reduceSub, Nat.reduceMul, Nat.reduceBEq, Int.reduceBEq, Int.reduceBNe, Int.reduceLT, Int.reduceLE, Int.reduceGT, Int.reduceGE, Int.reduceNeg, Int.reduceEq, Int.reduceNe, Int.reduceToNat, Int.reduceAdd, aconv, acvB, capR, acmpnil, appBox, storeB, ares1, appendTo, afill, aeqL, teset, boxR, inj_take, inj_drop, inj_agg, inj_len, inj_one, List.length_map, rng1, hb0, ht, List.length_append, List.length_cons, List.length_nil, Nat.zero_add]
            have e1 : valA (.mk k i tx xs ks) = .int .u8 (IntKind.u8.wrap k) :: (numA xs.length ++ valL (k == 5) xs ks) := by rw [valA, if_neg hn1, if_neg hn2, if_neg hn3, if_pos hk45]
            have e2 : g + valG (.mk k i tx xs ks) = g + 1 + (numA xs.length).length + valGL (k == 5) xs ks := by rw [valG, if_neg hn1, if_neg hn2, if_neg hn3, if_pos hk45]; omega
            refine ACallV.mono ?_ (ACallV.of ⟨Try.f22, Try.func22, rfl, by kernel_rfl⟩ (addnum_tok _ xs.length t (g + 1) (by omega) hx1 _ (by rw [setTok_tok, if_pos rfl])))
            rintro out h' ⟨rfl, rfl⟩
            simp only [aw0, aw1, aw2, aw3, aw4, aw5, aw6, aw7, ne_eq, eq_self, implies_true, imp_self, reduceIte, reduceCtorEq, Nat.reduceAdd, Nat.reduceLT, Nat.reduceLeDiff, Nat.reduceEqDiff, Nat.reduceSub, Nat.reduceMul, Nat.reduceBEq, Int.reduceBEq, Int.reduceBNe, Int.reduceLT, Int.reduceLE, Int.reduceGT, Int.reduceGE, Int.reduceNeg, Int.reduceEq, Int.reduceNe, Int.reduceToNat, Int.reduceAdd, aconv, acvB, capR, acmpnil, appBox, storeB, ares1, appendTo, afill, aeqL, teset, callK_ret, boxR, inj_take, inj_drop, inj_agg, inj_len, inj_one, List.length_map]
            generalize hcs : [AV.int IntKind.i64 k, AV.int IntKind.i64 i, AV.str tx, AV.sl Tag.ro 5 (List.map inj xs), AV.sl Tag.ro 1 (List.map AV.str ks)] = cells
            refine ⟨fun n s' h' => ∃ (j G : Nat) (ys : List AV), s' 0 = .sl (.tok t G) 1 (xs0 ++ ys) ∧ s' 3 = .ptr h.nb 0 ∧ s' 44 = .sl .ro 5 (xs.map inj) ∧ s' 45 = .int .i64 xs.length ∧ s' 46 = .int .i64 j ∧ n + j = xs.length ∧ LoopH h h' cells t G ∧ ys ++ valL (k == 5) (xs.drop j) (ks.drop j) = valA (.mk k i tx xs ks) ∧ G + valGL (k == 5) (xs.drop j) (ks.drop j) = g + valG (.mk k i tx xs ks), ⟨xs.length, 0, g + 1 + (numA xs.length).length, .int .u8 (IntKind.u8.wrap k) :: numA xs.length, ?_⟩, ?_⟩
            · simp only [aw0, aw1, aw2, aw3, aw4, aw5, aw6, aw7, ne_eq, eq_self, implies_true, imp_self, reduceIte, reduceCtorEq, Nat.reduceAdd, Nat.reduceLT, Nat.reduceLeDiff, Nat.reduceEqDiff, Nat.reduceSub, Nat.reduceMul, Nat.reduceBEq, Int.reduceBEq, Int.reduceBNe, Int.reduceLT, Int.reduceLE, Int.reduceGT, Int.reduceGE, Int.reduceNeg, Int.reduceEq, Int.reduceNe, Int.reduceToNat, Int.reduceAdd, aconv, acvB, capR, acmpnil, appBox, storeB, ares1, appendTo, afill, aeqL, teset, Int.natCast_zero, List.drop_zero]
              rw [setTok_setTok, e1, e2, List.append_assoc]
              exact ⟨rfl, LoopH.start, rfl, rfl⟩
            · rintro n s' h' ⟨j, G, ys, r0, r3, r44, r45, r46, hn, hL, hv, hg⟩
              simp only [aw0, aw1, aw2, aw3, aw4, aw5, aw6, aw7, ne_eq, eq_self, implies_true, imp_self, reduceIte, reduceCtorEq, Nat.reduceAdd, Nat.reduceLT, Nat.reduceLeDiff, Nat.reduceEqDiff, Nat.reduceSub, Nat.reduceMul, Nat.reduceBEq, Int.reduceBEq, Int.reduceBNe, Int.reduceLT, Int.reduceLE, Int.reduceGT, Int.reduceGE, Int.reduceNeg, Int.reduceEq, Int.reduceNe, Int.reduceToNat, Int.reduceAdd, aconv, acvB, capR, acmpnil, appBox, storeB, ares1, appendTo, afill, aeqL, teset, r0, r3, r44, r45, r46]
              cases hc : decide ((j : Int) < (xs.length : Int)) with
              | false =>
                simp only [aw0, aw1, aw2, aw3, aw4, aw5, aw6, aw7, ne_eq, eq_self, implies_true, imp_self, reduceIte, reduceCtorEq, Nat.reduceAdd, Nat.reduceLT, Nat.reduceLeDiff, Nat.reduceEqDiff, Nat.reduceSub, Nat.reduceMul, Nat.reduceBEq, Int.reduceBEq, Int.reduceBNe, Int.reduceLT, Int.reduceLE, Int.reduceGT, Int.reduceGE, Int.reduceNeg, Int.reduceEq, Int.reduceNe, Int.reduceToNat, Int.reduceAdd, aconv, acvB, capR, acmpnil, appBox, storeB, ares1, appendTo, afill, aeqL, teset, r0, r3, r44, r45, r46]
                simp only [decide_eq_false_iff_not] at hc
                rw [List.drop_eq_nil_of_le (by omega)] at hv hg
                simp only [valL, valGL, List.append_nil, Nat.add_zero] at hv hg
                rw [← hv, ← hg]
                exact ⟨rfl, hL.cut⟩
              | true =>
                simp only [decide_eq_true_eq] at hc
                have hj := natLt hc
                have hget : (xs.map inj)[((j : Nat) : Int).toNat]? = some (inj xs[j]) := by rw [Int.toNat_natCast, List.getElem?_map, List.getElem?_eq_getElem hj]; rfl
                have hb0' := hL.box0
                rw [← hcs] at hb0'
                have hnb := hL.nb
                have ne1 : (h.nb = h'.nb) = False := by simp only [eq_iff_iff, iff_false]; omega
                have ne2 : (h'.nb = h.nb) = False := by simp only [eq_iff_iff, iff_false]; omega
                simp only [aw0, aw1, aw2, aw3, aw4, aw5, aw6, aw7, ne_eq, eq_self, implies_true, imp_self, reduceIte, reduceCtorEq, Nat.reduceAdd, Nat.reduceLT, Nat.reduceLeDiff, Nat.reduceEqDiff, Nat.reduceSub, Nat.reduceMul, Nat.reduceBEq, Int.reduceBEq, Int.reduceBNe, Int.reduceLT, Int.reduceLE, Int.reduceGT, Int.reduceGE, Int.reduceNeg, Int.reduceEq, Int.reduceNe, Int.reduceToNat, Int.reduceAdd, aconv, acvB, capR, acmpnil, appBox, storeB, ares1, appendTo, afill, aeqL, teset, r0, r3, r44, r45, r46, inj_take, inj_drop, inj_agg, inj_len, inj_one, List.length_map, hget, Int.natCast_nonneg, hb0', ne1, ne2]
                cases h5 : (k == 5) with
                | false =>
                  simp only [aw0, aw1, aw2, aw3, aw4, aw5, aw6, aw7, ne_eq, eq_self, implies_true, imp_self, reduceIte, reduceCtorEq, Nat.reduceAdd, Nat.reduceLT, Nat.reduceLeDiff, Nat.reduceEqDiff, Nat.reduceSub, Nat.reduceMul, Nat.reduceBEq, Int.reduceBEq, Int.reduceBNe, Int.reduceLT, Int.reduceLE, Int.reduceGT, Int.reduceGE, Int.reduceNeg, Int.reduceEq, Int.reduceNe, Int.reduceToNat, Int.reduceAdd, aconv, acvB, capR, acmpnil, appBox, storeB, ares1, appendTo, afill, aeqL, teset, r0, r3, r44, r45, r46, inj_take, inj_drop, inj_agg, inj_len, inj_one, List.length_map, hget, Int.natCast_nonneg, hb0', ne1, ne2]
                  rw [h5, valL_f hj _ (ks.drop (j + 1))] at hv
                  rw [h5, valGL_f hj _ (ks.drop (j + 1))] at hg
                  have hL2 := (hL.new (cs := [AV.int IntKind.i64 0, AV.int IntKind.i64 0, AV.str { data := #[] }, AV.sl Tag.full 0 [], AV.sl Tag.full 0 []])).set (cs := (inj xs[j]).cells) hnb
                  refine ACallV.mono ?_ (ACallV.of ⟨Try.f74, Try.func74, rfl, by kernel_rfl⟩ (ih xs[j] (List.getElem_mem hj) (hxs _ (List.getElem_mem hj)) (xs0 ++ ys) t G _ hL2.tok (fun nb nt => ?_) ?_))
                  · rintro out h'' ⟨rfl, rfl⟩
                    simp only [aw0, aw1, aw2, aw3, aw4, aw5, aw6, aw7, ne_eq, eq_self, implies_true, imp_self, reduceIte, reduceCtorEq, Nat.reduceAdd, Nat.reduceLT, Nat.reduceLeDiff, Nat.reduceEqDiff, Nat.reduceSub, Nat.reduceMul, Nat.reduceBEq, Int.reduceBEq, Int.reduceBNe, Int.reduceLT, Int.reduceLE, Int.reduceGT, Int.reduceGE, Int.reduceNeg, Int.reduceEq, Int.reduceNe, Int.reduceToNat, Int.reduceAdd, aconv, acvB, capR, acmpnil, appBox, storeB, ares1, appendTo, afill, aeqL, teset, callK_ret, r0, r3, r44, r45, r46]
                    refine ⟨n - 1, (loopN hn hj).1, j + 1, G + valG xs[j], ys ++ valA xs[j], ?_, ?_, (loopN hn hj).2, hL2.step, ?_, ?_⟩
                    · rw [List.append_assoc]
                    · rw [wrapI hj (by omega)]
                    · rw [← hv, List.append_assoc]
                    · rw [← hg, Nat.add_assoc]
                  · have := hu nb nt
                    rw [← hv, ← List.append_assoc, ← List.append_assoc] at this
                    exact underL_left this
                  · rw [← hv] at hlen
                    simp only [List.length_append] at hlen ⊢
                    omega
                | true =>
                  have hk5 : k = 5 := by simpa using h5
                  have hjk : j < ks.length := by rw [hkl hk5]; exact hj
                  have hgk : (ks.map AV.str)[((j : Nat) : Int).toNat]? = some (.str ks[j]) := by rw [Int.toNat_natCast, List.getElem?_map, List.getElem?_eq_getElem hjk]; rfl
                  rw [h5, valL_t hj hjk] at hv
                  rw [h5, valGL_t hj hjk] at hg
                  have hL2 := (hL.new (cs := [AV.int IntKind.i64 0, AV.int IntKind.i64 0, AV.str { data := #[] }, AV.sl Tag.full 0 [], AV.sl Tag.full 0 []])).set (cs := (inj xs[j]).cells) hnb
                  have hlen2 : (xs0 ++ ys).length + (strA ks[j]).length + (valA xs[j]).length < 1000000000 := by
                    rw [← hv] at hlen
                    simp only [List.length_append] at hlen ⊢
                    omega
                  simp only [aw0, aw1, aw2, aw3, aw4, aw5, aw6, aw7, ne_eq, eq_self, implies_true, imp_self, reduceIte, reduceCtorEq, Nat.reduceAdd, Nat.reduceLT, Nat.reduceLeDiff, Nat.reduceEqDiff, Nat.reduceSub, Nat.reduceMul, Nat.reduceBEq, Int.reduceBEq, Int.reduceBNe, Int.reduceLT, Int.reduceLE, Int.reduceGT, Int.reduceGE, Int.reduceNeg, Int.reduceEq, Int.reduceNe, Int.reduceToNat, Int.reduceAdd, aconv, acvB, capR, acmpnil, appBox, storeB, ares1, appendTo, afill, aeqL, teset, r0, r3, r44, r45, r46, inj_take, inj_drop, inj_agg, inj_len, inj_one, List.length_map, hget, hgk, Int.natCast_nonneg, hb0', ne1, ne2]
                  refine ACallV.mono ?_ (ACallV.of ⟨Try.f79, Try.func79, rfl, by kernel_rfl⟩ (addtext_tok (xs0 ++ ys) ks[j] t G (hks _ (List.getElem_mem hjk)) (by omega) _ hL2.tok))
                  rintro out h'' ⟨rfl, rfl⟩
                  simp only [aw0, aw1, aw2, aw3, aw4, aw5, aw6, aw7, ne_eq, eq_self, implies_true, imp_self, reduceIte, reduceCtorEq, Nat.reduceAdd, Nat.reduceLT, Nat.reduceLeDiff, Nat.reduceEqDiff, Nat.reduceSub, Nat.reduceMul, Nat.reduceBEq, Int.reduceBEq, Int.reduceBNe, Int.reduceLT, Int.reduceLE, Int.reduceGT, Int.reduceGE, Int.reduceNeg, Int.reduceEq, Int.reduceNe, Int.reduceToNat, Int.reduceAdd, aconv, acvB, capR, acmpnil, appBox, storeB, ares1, appendTo, afill, aeqL, teset, callK_ret, r0, r3, r44, r45, r46, inj_take, inj_drop, inj_agg, inj_len, inj_one, List.length_map, ne1, ne2]
                  refine ACallV.mono ?_ (ACallV.of ⟨Try.f74, Try.func74, rfl, by kernel_rfl⟩ (ih xs[j] (List.getElem_mem hj) (hxs _ (List.getElem_mem hj)) (xs0 ++ ys ++ strA ks[j]) t (G + strG ks[j]) _ hL2.step.tok (fun nb nt => ?_) ?_))
                  · rintro out h'' ⟨rfl, rfl⟩
                    simp only [aw0, aw1, aw2, aw3, aw4, aw5, aw6, aw7, ne_eq, eq_self, implies_true, imp_self, reduceIte, reduceCtorEq, Nat.reduceAdd, Nat.reduceLT, Nat.reduceLeDiff, Nat.reduceEqDiff, Nat.reduceSub, Nat.reduceMul, Nat.reduceBEq, Int.reduceBEq, Int.reduceBNe, Int.reduceLT, Int.reduceLE, Int.reduceGT, Int.reduceGE, Int.reduceNeg, Int.reduceEq, Int.reduceNe, Int.reduceToNat, Int.reduceAdd, aconv, acvB, capR, acmpnil, appBox, storeB, ares1, appendTo, afill, aeqL, teset, callK_ret, r0, r3, r44, r45, r46]
                    refine ⟨n - 1, (loopN hn hj).1, j + 1, G + strG ks[j] + valG xs[j], ys ++ strA ks[j] ++ valA xs[j], ?_, ?_, (loopN hn hj).2, hL2.step.step, ?_, ?_⟩
                    · simp only [List.append_assoc]
                    · rw [wrapI hj (by omega)]
                    · rw [← hv]; simp only [List.append_assoc]
                    · rw [← hg]; simp only [Nat.add_assoc]
                  · have := hu nb nt
                    rw [← hv, show xs0 ++ (ys ++ (strA ks[j] ++ (valA xs[j] ++ valL true (xs.drop (j + 1)) (ks.drop (j + 1))))) = (xs0 ++ ys ++ strA ks[j] ++ valA xs[j]) ++ valL true (xs.drop (j + 1)) (ks.drop (j + 1)) by simp only [List.append_assoc]] at this
                    exact underL_left this
                  · simp only [List.length_append] at hlen2 ⊢
                    omega
          | false =>
            have hn4 : ¬ k = 4 := by simpa using h4
            simp only [aw0, aw1, aw2, aw3, aw4, aw5, aw6, aw7, ne_eq, eq_self, implies_true, imp_self, reduceIte, reduceCtorEq, Nat.reduceAdd, Nat.reduceLT, Nat.reduceLeDiff, Nat.reduceEqDiff, Nat.reduceSub, Nat.reduceMul, Nat.reduceBEq, Int.reduceBEq, Int.reduceBNe, Int.reduceLT, Int.reduceLE, Int.reduceGT, Int.reduceGE, Int.reduceNeg, Int.reduceEq, Int.reduceNe, Int.reduceToNat, Int.reduceAdd, aconv, acvB, capR, acmpnil, appBox, storeB, ares1, appendTo, afill, aeqL, teset, boxR, inj_take, inj_drop, inj_agg, inj_len, inj_one, List.length_map, rng1, hb0, ht, List.length_append, List.length_cons, List.length_nil, Nat.zero_add]
            cases h5 : (k == 5) with
            | true =>
              have hk : k = 5 := by simpa using h5
              simp only [aw0, aw1, aw2, aw3, aw4, aw5, aw6, aw7, ne_eq, eq_self, implies_true, imp_self, reduceIte, reduceCtorEq, Nat.reduceAdd, Nat.reduceLT, Nat.reduceLeDiff, Nat.reduceEqDiff, Nat.reduceSub, Nat.reduceMul, Nat.reduceBEq, Int.reduceBEq, Int.reduceBNe, Int.reduceLT, Int.reduceLE, Int.reduceGT, Int.reduceGE, Int.reduceNeg, Int.reduceEq, Int.reduceNe, Int.reduceToNat, Int.reduceAdd, aconv, acvB, capR, acmpnil, appBox, storeB, ares1, appendTo, afill, aeqL, teset, boxR, inj_take, inj_drop, inj_agg, inj_len, inj_one, List.length_map, rng1, hb0, ht, List.length_append, List.length_cons, List.length_nil, Nat.zero_add]
              have hk45 : k = 4 ∨ k = 5 := .inr hk
              have e1 : valA (.mk k i tx xs ks) = .int .u8 (IntKind.u8.wrap k) :: (numA xs.length ++ valL (k == 5) xs ks) := by rw [valA, if_neg hn1, if_neg hn2, if_neg hn3, if_pos hk45]
              have e2 : g + valG (.mk k i tx xs ks) = g + 1 + (numA xs.length).length + valGL (k == 5) xs ks := by rw [valG, if_neg hn1, if_neg hn2, if_neg hn3, if_pos hk45]; omega
              refine ACallV.mono ?_ (ACallV.of ⟨Try.f22, Try.func22, rfl, by kernel_rfl⟩ (addnum_tok _ xs.length t (g + 1) (by omega) hx1 _ (by rw [setTok_tok, if_pos rfl])))
              rintro out h' ⟨rfl, rfl⟩
              simp only [aw0, aw1, aw2, aw3, aw4, aw5, aw6, aw7, ne_eq, eq_self, implies_true, imp_self, reduceIte, reduceCtorEq, Nat.reduceAdd, Nat.reduceLT, Nat.reduceLeDiff, Nat.reduceEqDiff, Nat.reduceSub, Nat.reduceMul, Nat.reduceBEq, Int.reduceBEq, Int.reduceBNe, Int.reduceLT, Int.reduceLE, Int.reduceGT, Int.reduceGE, Int.reduceNeg, Int.reduceEq, Int.reduceNe, Int.reduceToNat, Int.reduceAdd, aconv, acvB, capR, acmpnil, appBox, storeB, ares1, appendTo, afill, aeqL, teset, callK_ret, boxR, inj_take, inj_drop, inj_agg, inj_len, inj_one, List.length_map]
              generalize hcs : [AV.int IntKind.i64 k, AV.int IntKind.i64 i, AV.str tx, AV.sl Tag.ro 5 (List.map inj xs), AV.sl Tag.ro 1 (List.map AV.str ks)] = cells
              refine ⟨fun n s' h' => ∃ (j G : Nat) (ys : List AV), s' 0 = .sl (.tok t G) 1 (xs0 ++ ys) ∧ s' 3 = .ptr h.nb 0 ∧ s' 44 = .sl .ro 5 (xs.map inj) ∧ s' 45 = .int .i64 xs.length ∧ s' 46 = .int .i64 j ∧ n + j = xs.length ∧ LoopH h h' cells t G ∧ ys ++ valL (k == 5) (xs.drop j) (ks.drop j) = valA (.mk k i tx xs ks) ∧ G + valGL (k == 5) (xs.drop j) (ks.drop j) = g + valG (.mk k i tx xs ks), ⟨xs.length, 0, g + 1 + (numA xs.length).length, .int .u8 (IntKind.u8.wrap k) :: numA xs.length, ?_⟩, ?_⟩
              · simp only [aw0, aw1, aw2, aw3, aw4, aw5, aw6, aw7, ne_eq, eq_self, implies_true, imp_self, reduceIte, reduceCtorEq, Nat.reduceAdd, Nat.reduceLT, Nat.reduceLeDiff, Nat.reduceEqDiff, Nat.reduceSub, Nat.reduceMul, Nat.reduceBEq, Int.reduceBEq, Int.reduceBNe, Int.reduceLT, Int.reduceLE, Int.reduceGT, Int.reduceGE, Int.reduceNeg, Int.reduceEq, Int.reduceNe, Int.reduceToNat, Int.reduceAdd, aconv, acvB, capR, acmpnil, appBox, storeB, ares1, appendTo, afill, aeqL, teset, Int.natCast_zero, List.drop_zero]
                rw [setTok_setTok, e1, e2, List.append_assoc]
                exact ⟨rfl, LoopH.start, rfl, rfl⟩
              · rintro n s' h' ⟨j, G, ys, r0, r3, r44, r45, r46, hn, hL, hv, hg⟩
                simp only [aw0, aw1, aw2, aw3, aw4, aw5, aw6, aw7, ne_eq, eq_self, implies_true, imp_self, reduceIte, reduceCtorEq, Nat.reduceAdd, Nat.reduceLT, Nat.reduceLeDiff, Nat.reduceEqDiff, Nat.reduceSub, Nat.reduceMul, Nat.reduceBEq, Int.reduceBEq, Int.reduceBNe, Int.reduceLT, Int.reduceLE, Int.reduceGT, Int.reduceGE, Int.reduceNeg, Int.reduceEq, Int.reduceNe, Int.reduceToNat, Int.reduceAdd, aconv, acvB, capR, acmpnil, appBox, storeB, ares1, appendTo, afill, aeqL, teset, r0, r3, r44, r45, r46]
                cases hc : decide ((j : Int) < (xs.length : Int)) with
                | false =>
                  simp only [aw0, aw1, aw2, aw3, aw4, aw5, aw6, aw7, ne_eq, eq_self, implies_true, imp_self, reduceIte, reduceCtorEq, Nat.reduceAdd, Nat.reduceLT, Nat.reduceLeDiff, Nat.reduceEqDiff, Nat.reduceSub, Nat.reduceMul, Nat.reduceBEq, Int.reduceBEq, Int.reduceBNe, Int.reduceLT, Int.reduceLE, Int.reduceGT, Int.reduceGE, Int.reduceNeg, Int.reduceEq, Int.reduceNe, Int.reduceToNat, Int.reduceAdd, aconv, acvB, capR, acmpnil, appBox, storeB, ares1, appendTo, afill, aeqL, teset, r0, r3, r44, r45, r46]
                  simp only [decide_eq_false_iff_not] at hc
                  rw [List.drop_eq_nil_of_le (by omega)] at hv hg
                  simp only [valL, valGL, List.append_nil, Nat.add_zero] at hv hg
                  rw [← hv, ← hg]
                  exact ⟨rfl, hL.cut⟩
                | true =>
                  simp only [decide_eq_true_eq] at hc
                  have hj := natLt hc
                  have hget : (xs.map inj)[((j : Nat) : Int).toNat]? = some (inj xs[j]) := by rw [Int.toNat_natCast, List.getElem?_map, List.getElem?_eq_getElem hj]; rfl
                  have hb0' := hL.box0
                  rw [← hcs] at hb0'
                  have hnb := hL.nb
                  have ne1 : (h.nb = h'.nb) = False := by simp only [eq_iff_iff, iff_false]; omega
                  have ne2 : (h'.nb = h.nb) = False := by simp only [eq_iff_iff, iff_false]; omega
                  simp only [aw0, aw1, aw2, aw3, aw4, aw5, aw6, aw7, ne_eq, eq_self, implies_true, imp_self, reduceIte, reduceCtorEq, Nat.reduceAdd, Nat.reduceLT, Nat.reduceLeDiff, Nat.reduceEqDiff, Nat.reduceSub, Nat.reduceMul, Nat.reduceBEq, Int.reduceBEq, Int.reduceBNe, Int.reduceLT, Int.reduceLE, Int.reduceGT, Int.reduceGE, Int.reduceNeg, Int.reduceEq, Int.reduceNe, Int.reduceToNat, Int.reduceAdd, aconv, acvB, capR, acmpnil, appBox, storeB, ares1, appendTo, afill, aeqL, teset, r0, r3, r44, r45, r46, inj_take, inj_drop, inj_agg, inj_len, inj_one, List.length_map, hget, Int.natCast_nonneg, hb0', ne1, ne2]
                  cases h5 : (k == 5) with
                  | false =>
                    simp only [aw0, aw1, aw2, aw3, aw4, aw5, aw6, aw7, ne_eq, eq_self, implies_true, imp_self, reduceIte, reduceCtorEq, Nat.reduceAdd, Nat.reduceLT, Nat.reduceLeDiff, Nat.reduceEqDiff, Nat.reduceSub, Nat.reduceMul, Nat.reduceBEq, Int.reduceBEq, Int.reduceBNe, Int.reduceLT, Int.reduceLE, Int.reduceGT, Int.reduceGE, Int.reduceNeg, Int.reduceEq, Int.reduceNe, Int.reduceToNat, Int.reduceAdd, aconv, acvB, capR, acmpnil, appBox, storeB, ares1, appendTo, afill, aeqL, teset, r0, r3, r44, r45, r46, inj_take, inj_drop, inj_agg, inj_len, inj_one, List.length_map, hget, Int.natCast_nonneg, hb0', ne1, ne2]
                    rw [h5, valL_f hj _ (ks.drop (j + 1))] at hv
                    rw [h5, valGL_f hj _ (ks.drop (j + 1))] at hg
                    have hL2 := (hL.new (cs := [AV.int IntKind.i64 0, AV.int IntKind.i64 0, AV.str { data := #[] }, AV.sl Tag.full 0 [], AV.sl Tag.full 0 []])).set (cs := (inj xs[j]).cells) hnb
                    refine ACallV.mono ?_ (ACallV.of ⟨Try.f74, Try.func74, rfl, by kernel_rfl⟩ (ih xs[j] (List.getElem_mem hj) (hxs _ (List.getElem_mem hj)) (xs0 ++ ys) t G _ hL2.tok (fun nb nt => ?_) ?_))
                    · rintro out h'' ⟨rfl, rfl⟩
                      simp only [aw0, aw1, aw2, aw3, aw4, aw5, aw6, aw7, ne_eq, eq_self, implies_true, imp_self, reduceIte, reduceCtorEq, Nat.reduceAdd, Nat.reduceLT, Nat.reduceLeDiff, Nat.reduceEqDiff, Nat.reduceSub, Nat.reduceMul, Nat.reduceBEq, Int.reduceBEq, Int.reduceBNe, Int.reduceLT, Int.reduceLE, Int.reduceGT, Int.reduceGE, Int.reduceNeg, Int.reduceEq, Int.reduceNe, Int.reduceToNat, Int.reduceAdd, aconv, acvB, capR, acmpnil, appBox, storeB, ares1, appendTo, afill, aeqL, teset, callK_ret, r0, r3, r44, r45, r46]
                      refine ⟨n - 1, (loopN hn hj).1, j + 1, G + valG xs[j], ys ++ valA xs[j], ?_, ?_, (loopN hn hj).2, hL2.step, ?_, ?_⟩
                      · rw [List.append_assoc]
                      · rw [wrapI hj (by omega)]
                      · rw [← hv, List.append_assoc]
                      · rw [← hg, Nat.add_assoc]
                    · have := hu nb nt
                      rw [← hv, ← List.append_assoc, ← List.append_assoc] at this
                      exact underL_left this
                    · rw [← hv] at hlen
                      simp only [List.length_append] at hlen ⊢
                      omega
                  | true =>
                    have hk5 : k = 5 := by simpa using h5
                    have hjk : j < ks.length := by rw [hkl hk5]; exact hj
                    have hgk : (ks.map AV.str)[((j : Nat) : Int).toNat]? = some (.str ks[j]) := by rw [Int.toNat_natCast, List.getElem?_map, List.getElem?_eq_getElem hjk]; rfl
                    rw [h5, valL_t hj hjk] at hv
                    rw [h5, valGL_t hj hjk] at hg
                    have hL2 := (hL.new (cs := [AV.int IntKind.i64 0, AV.int IntKind.i64 0, AV.str { data := #[] }, AV.sl Tag.full 0 [], AV.sl Tag.full 0 []])).set (cs := (inj xs[j]).cells) hnb
                    have hlen2 : (xs0 ++ ys).length + (strA ks[j]).length + (valA xs[j]).length < 1000000000 := by
                      rw [← hv] at hlen
                      simp only [List.length_append] at hlen ⊢
                      omega
                    simp only [aw0, aw1, aw2, aw3, aw4, aw5, aw6, aw7, ne_eq, eq_self, implies_true, imp_self, reduceIte, reduceCtorEq, Nat.reduceAdd, Nat.reduceLT, Nat.reduceLeDiff, Nat.reduceEqDiff, Nat.reduceSub, Nat.reduceMul, Nat.reduceBEq, Int.reduceBEq, Int.reduceBNe, Int.reduceLT, Int.reduceLE, Int.reduceGT, Int.reduceGE, Int.reduceNeg, Int.reduceEq, Int.reduceNe, Int.reduceToNat, Int.reduceAdd, aconv, acvB, capR, acmpnil, appBox, storeB, ares1, appendTo, afill, aeqL, teset, r0, r3, r44, r45, r46, inj_take, inj_drop, inj_agg, inj_len, inj_one, List.length_map, hget, hgk, Int.natCast_nonneg, hb0', ne1, ne2]
                    refine ACallV.mono ?_ (ACallV.of ⟨Try.f79, Try.func79, rfl, by kernel_rfl⟩ (addtext_tok (xs0 ++ ys) ks[j] t G (hks _ (List.getElem_mem hjk)) (by omega) _ hL2.tok))
                    rintro out h'' ⟨rfl, rfl⟩
                    simp only [aw0, aw1, aw2, aw3, aw4, aw5, aw6, aw7, ne_eq, eq_self, implies_true, imp_self, reduceIte, reduceCtorEq, Nat.reduceAdd, Nat.reduceLT, Nat.reduceLeDiff, Nat.reduceEqDiff, Nat.reduceSub, Nat.reduceMul, Nat.reduceBEq, Int.reduceBEq, Int.reduceBNe, Int.reduceLT, Int.reduceLE, Int.reduceGT, Int.reduceGE, Int.reduceNeg, Int.reduceEq, Int.reduceNe, Int.reduceToNat, Int.reduceAdd, aconv, acvB, capR, acmpnil, appBox, storeB, ares1, appendTo, afill, aeqL, teset, callK_ret, r0, r3, r44, r45, r46, inj_take, inj_drop, inj_agg, inj_len, inj_one, List.length_map, ne1, ne2]
                    refine ACallV.mono ?_ (ACallV.of ⟨Try.f74, Try.func74, rfl, by kernel_rfl⟩ (ih xs[j] (List.getElem_mem hj) (hxs _ (List.getElem_mem hj)) (xs0 ++ ys ++ strA ks[j]) t (G + strG ks[j]) _ hL2.step.tok (fun nb nt => ?_) ?_))
                    · rintro out h'' ⟨rfl, rfl⟩
                      simp only [aw0, aw1, aw2, aw3, aw4, aw5, aw6, aw7, ne_eq, eq_self, implies_true, imp_self, reduceIte, reduceCtorEq, Nat.reduceAdd, Nat.reduceLT, Nat.reduceLeDiff, Nat.reduceEqDiff, Nat.reduceSub, Nat.reduceMul, Nat.reduceBEq, Int.reduceBEq, Int.reduceBNe, Int.reduceLT, Int.reduceLE, Int.reduceGT, Int.reduceGE, Int.reduceNeg, Int.reduceEq, Int.reduceNe, Int.reduceToNat, Int.reduceAdd, aconv, acvB, capR, acmpnil, appBox, storeB, ares1, appendTo, afill, aeqL, teset, callK_ret, r0, r3, r44, r45, r46]
                      refine ⟨n - 1, (loopN hn hj).1, j + 1, G + strG ks[j] + valG xs[j], ys ++ strA ks[j] ++ valA xs[j], ?_, ?_, (loopN hn hj).2, hL2.step.step, ?_, ?_⟩
                      · simp only [List.append_assoc]
                      · rw [wrapI hj (by omega)]
                      · rw [← hv]; simp only [List.append_assoc]
                      · rw [← hg]; simp only [Nat.add_assoc]
                    · have := hu nb nt
                      rw [← hv, show xs0 ++ (ys ++ (strA ks[j] ++ (valA xs[j] ++ valL true (xs.drop (j + 1)) (ks.drop (j + 1))))) = (xs0 ++ ys ++ strA ks[j] ++ valA xs[j]) ++ valL true (xs.drop (j + 1)) (ks.drop (j + 1)) by simp only [List.append_assoc]] at this
                      exact underL_left this
                    · simp only [List.length_append] at hlen2 ⊢
                      omega
            | false =>
              have hn5 : ¬ k = 5 := by simpa using h5
              simp only [aw0, aw1, aw2, aw3, aw4, aw5, aw6, aw7, ne_eq, eq_self, implies_true, imp_self, reduceIte, reduceCtorEq, Nat.reduceAdd, Nat.reduceLT, Nat.reduceLeDiff, Nat.reduceEqDiff, Nat.reduceSub, Nat.reduceMul, Nat.reduceBEq, Int.reduceBEq, Int.reduceBNe, Int.reduceLT, Int.reduceLE, Int.reduceGT, Int.reduceGE, Int.reduceNeg, Int.reduceEq, Int.reduceNe, Int.reduceToNat, Int.reduceAdd, aconv, acvB, capR, acmpnil, appBox, storeB, ares1, appendTo, afill, aeqL, teset, boxR, inj_take, inj_drop, inj_agg, inj_len, inj_one, List.length_map, rng1, hb0, ht, List.length_append, List.length_cons, List.length_nil, Nat.zero_add]
              have e1 : valA (.mk k i tx xs ks) = [.int .u8 (IntKind.u8.wrap k)] := by simp [valA, hn1, hn2, hn3, hn4, hn5]
              have e2 : g + valG (.mk k i tx xs ks) = g + 1 := by simp [valG, hn1, hn2, hn3, hn4, hn5]
              rw [e1, e2]
              exact ⟨rfl, CutT.leaf⟩
end Go.Proofs.Ytlbhgoffiigfbaa.AW
