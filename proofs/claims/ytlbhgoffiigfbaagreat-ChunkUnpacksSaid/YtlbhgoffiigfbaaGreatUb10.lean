/- Texts of this claim, part 10: V72. -/
import Derived.Test.YtlbhgoffiigfbaaGreatUb1
import Derived.Test.YtlbhgoffiigfbaaGreatUb4
import Derived.Test.YtlbhgoffiigfbaaGreatUb5
import Derived.Test.YtlbhgoffiigfbaaGreatUb6
import Derived.Test.YtlbhgoffiigfbaaGreatUb8
import Derived.Test.YtlbhgoffiigfbaaGreatUb9
import Derived.Shelf.SlSortCmp.WholeK
section
set_option linter.unusedSimpArgs false
set_option linter.unusedVariables false
namespace Go.Proofs.YtlbhgoffiigfbaaGreat.AW
open Go Go.RowKit Go.Sort Go.Lib

theorem zeroV_ok : Vok zeroV := ⟨1, by simp [nodesS, nodesF, zeroV, V.items, shape, V.kind, plainS, V.int, V.text, V.keys]⟩
theorem zero_lies (m : Mem) : Lies m (zeroV, [.int .i64 0, .int .i64 0, .string ⟨#[]⟩, .slice none 0 0, .slice none 0 0]) := by
  refine ⟨zeroV_ok, rfl, ?_, ?_⟩
  · intro v hv
    simp only [List.mem_cons, List.not_mem_nil, or_false] at hv
    rcases hv with rfl | rfl | rfl | rfl | rfl <;> rfl
  · show VR m (inj (.mk 0 0 ⟨#[]⟩ [] [])) _
    rw [inj_mk]
    refine .agg _ _ rfl (fun i c hi => ?_)
    match i, hi with
    | 0, hi => injection hi with hi; subst hi; exact .int _ _
    | 1, hi => injection hi with hi; subst hi; exact .int _ _
    | 2, hi => injection hi with hi; subst hi; exact .str _
    | 3, hi => injection hi with hi; subst hi; exact .slnil _ _ (by intro t g e; cases e)
    | 4, hi => injection hi with hi; subst hi; exact .slnil _ _ (by intro t g e; cases e)
instance elInh (m : Mem) : Inhabited (El m) := ⟨⟨_, zero_lies m⟩⟩
theorem row_els {m : Mem} {w : World} {b blk : Nat} {arr : Array Value} {ty : TypeId} {fr : Nat × Nat} {xs : List V} (hx : ∀ x ∈ xs, Vok x) (hB : BoxAt m w b ((xs.map inj).flatMap AV.cells) blk arr ty fr) :
    ∃ d : Array (El m), d.size = xs.length ∧ (∀ (i : Nat) (hi : i < xs.length), (d[i]!).1.1 = xs[i]) ∧ ∀ i c : Nat, i < xs.length → c < 5 → (encE d[i]!)[c]! = arr.getD (i * 5 + c) undef := by
  have hsz : xs.length * 5 ≤ arr.size := by have := hB.size; rwa [cells_len] at this
  have hlies : ∀ (i : Nat) (hi : i < xs.length), Lies m (xs[i], (List.range 5).map fun c => arr.getD (i * 5 + c) undef) := by
    intro i hi
    refine ⟨hx _ (List.getElem_mem _), by simp, ?_, ?_⟩
    · intro v hv
      simp only [List.mem_map, List.mem_range] at hv
      obtain ⟨c, hc, rfl⟩ := hv
      exact hB.one _ (by omega)
    · show VR m (inj xs[i]) _
      rw [← inj_agg]
      refine .agg _ _ (by rw [inj_len]; simp) (fun c a ha => ?_)
      have hc : c < 5 := by have := (List.getElem?_eq_some_iff.1 ha).1; rwa [inj_len] at this
      have := hB.rel (i * 5 + c) a (by rw [flat_get xs hi hc]; exact ha)
      have e : ((List.range 5).map fun c => arr.getD (i * 5 + c) undef).toArray.getD c undef = arr.getD (i * 5 + c) undef := by
        rw [Array.getD_eq_getD_getElem?]
        simp [hc]
      rw [e]; exact this
  refine ⟨Array.ofFn fun i : Fin xs.length => ⟨_, hlies i.1 i.2⟩, by simp, fun i hi => ?_, fun i c hi hc => ?_⟩
  · rw [getElem!_pos _ i (by simpa using hi), Array.getElem_ofFn]
  · rw [getElem!_pos _ i (by simpa using hi), Array.getElem_ofFn]
    show ((List.range 5).map fun c => arr.getD (i * 5 + c) undef)[c]! = _
    rw [getElem!_pos _ c (by simpa using hc)]
    simp
theorem put_get {F arr : Array Value} {j : Nat} (hj : j < arr.size) : (putCells id 0 F arr).getD j undef = if j < F.size then F[j]! else arr.getD j undef := by
  unfold putCells
  rw [Array.getD_eq_getD_getElem?, Array.getD_eq_getD_getElem?, Array.getElem?_mapIdx, Array.getElem?_eq_getElem hj]
  simp
theorem bel_ahead (w : World) (B n : Nat) : Bel B w (Go.Sort.ahead w n) := ⟨⟨rfl, rfl, rfl, Nat.le_refl _, fun _ _ => rfl⟩, Nat.le_add_right _ _⟩
theorem bel_grown (w : World) (os : Array Obj) : Bel w.heap.size w (grow w os) := ⟨⟨rfl, rfl, rfl, by simp [grow], fun k hk => by simp only [grow]; rw [Array.getElem?_append_left hk]⟩, Nat.le_refl _⟩
set_option maxHeartbeats 1000000 in
theorem sort_calls {xs : List V} (hx : ∀ x ∈ xs, Vok x) (hne : xs ≠ []) (hl : xs.length < 1000000) {b : Nat} {h : AH} (hb : h.box b = some ((xs.map inj).flatMap AV.cells)) :
    ACalls Tryz.prog 123 [.ms b 0 xs.length 5, .fn (.func 113) [] []] h fun out h' => out = .ret (.tup []) ∧ h' = h.set b (((sortV xs).map inj).flatMap AV.cells) := by
  intro w0 m w args' hn hr hW
  obtain ⟨l⟩ := args'
  simp only [List.size_toArray, List.length_cons, List.length_nil] at hn
  match l, hn with
  | [a0, a1], _ =>
    have e0 := hr 0 _ rfl
    have e1 := hr 1 _ rfl
    obtain ⟨blk, arr, ty, fr, hM, hlo, hB⟩ := hW.box b _ hb
    obtain ⟨blk', cap, a, ha0, hM', ha, hcap⟩ := e0.ms_inv
    rw [hM] at hM'; injection hM' with hM'; subst hM'
    have hpos : 0 < xs.length := List.length_pos_iff.2 hne
    have ha' := ha hpos
    have ha2 : a0 = .slice (some ⟨blk, 0, none⟩) xs.length cap := by rw [← ha']; exact ha0
    obtain ⟨first', cap', hf, h1, h2, _, _⟩ := e1.fn_inv
    have q1 : first' = #[] := Array.eq_empty_of_size_eq_zero (by simpa using h1)
    have q2 : cap' = #[] := Array.eq_empty_of_size_eq_zero (by simpa using h2)
    have hf2 : a1 = .func (.func 113) #[] #[] := by rw [q1, q2] at hf; exact hf
    subst ha2 hf2
    obtain ⟨d, hds, hdv, hdc⟩ := row_els hx hB
    have hsz : xs.length * 5 ≤ arr.size := by have := hB.size; rwa [cells_len] at this
    have hblk : blk < w.heap.size := (Array.getElem?_eq_some_iff.1 hB.here).1
    have hflat : ∀ (d2 : Array (El m)) (j : Nat), j < d2.size * 5 → (flatK encE 5 d2)[j]! = (encE d2[j / 5]!)[j % 5]! := fun d2 j hj => get_flatK _ _ _ _ hj
    have hH : HoldsK encE 5 w blk 0 d := by
      intro j hj
      rw [size_flatK, hds] at hj
      rw [hflat d j (by rw [hds]; exact hj), hdc _ _ (by omega) (by omega), show j / 5 * 5 + j % 5 = j by omega, Nat.zero_add]
      have hja : j < arr.size := by omega
      refine ⟨?_, frozen_of_blk hB.here hB.free _ hja⟩
      rw [cell_of_blk hB.here, Array.getD_eq_getD_getElem?, Array.getElem?_eq_getElem hja]; rfl
    have hK : ∀ (mm : Nat) (os : Array Obj) (dk : Array (El m)) (b' o : Nat) (v : Value), m.K b' o = some v → (sortWorldK encE 5 w blk 0 mm dk os).cell? ⟨b', o, none⟩ = some v ∧ v.oneCell' = true := by
      intro mm os dk b' o v hk
      have hbb : b' ≠ blk := by
        rintro rfl
        rw [hB.apart o] at hk; cases hk
      have hlt := hW.Klt' hk
      unfold sortWorldK
      rw [cell?_grow _ _ _ (by rw [size_putRowK]; exact hlt), cell?_putRowK_other _ _ _ _ _ _ _ hbb]
      exact hW.K b' o v hk
    have hrun := AnyQ.slices_SortFunc Tryz.laySort 5 Tryz.isAgg40 Tryz.sizeOf40 (encE (m := m)) (fun x => x.2.2.1) (fun x => x.2.2.2.1) cfE (swoE m) 113 #[] blk 0 cap d w
      (Go.Proofs.enters_of Tryz.func113 (by kernel_rfl) rfl) (fun mm os dk _ x y => order_grows m _ (hK mm os dk) x y) hH hblk (by omega)
    rw [hds] at hrun
    refine Calls.mono hrun ?_
    rintro e w' ⟨rfl, d', nn, os, hp, hs, rfl⟩
    obtain ⟨hps, _, hpp⟩ := hp
    have hd's : d'.size = xs.length := hps.trans hds
    have hys : d'.toList.map (fun x => x.1.1) = sortV xs := by
      have hx1 : d.toList.map (fun x => x.1.1) = xs := by
        apply List.ext_getElem (by simp [hds])
        intro i h1 h2
        have := hdv i h2
        rw [getElem!_pos _ i (by omega)] at this
        simpa using this
      have hperm : (d'.toList.map fun x => x.1.1).Perm xs := by
        rw [← hx1]
        refine List.Perm.map _ ?_
        have e1 : d.extract 0 xs.length = d := by rw [← hds]; simp
        have e2 : d'.extract 0 xs.length = d' := by rw [← hd's]; simp
        rw [e1, e2] at hpp
        exact hpp
      refine sorted_one (fun a ha => hx a (hperm.mem_iff.1 ha)) (hperm.trans (sortV_perm xs).symm) ?_ (sortV_sorted xs)
      rw [List.pairwise_map, List.pairwise_iff_getElem]
      intro i j hi hj hij
      have hi' : i < d'.size := by simpa using hi
      have hj' : j < d'.size := by simpa using hj
      have := hs i j (Nat.zero_le _) hij (by omega)
      rw [getElem!_pos _ i hi', getElem!_pos _ j hj'] at this
      unfold ltOf at this
      rw [cfE_eq] at this
      simp only [decide_eq_false_iff_not] at this
      have han := ordN_anti (d'[i]).1.1 (d'[j]).1.1
      simp only [Array.getElem_toList, leV, decide_eq_true_eq]
      omega
    have hlen : (sortV xs).length = xs.length := sortV_len xs
    have hyi : ∀ (i : Nat) (hi : i < (sortV xs).length), (d'[i]!).1.1 = (sortV xs)[i] := by
      intro i hi
      have hi' : i < d'.size := by omega
      rw [getElem!_pos _ i hi']
      have : (d'.toList.map fun x => x.1.1)[i]? = (sortV xs)[i]? := by rw [hys]
      rw [List.getElem?_eq_getElem hi, List.getElem?_map] at this
      simp [hi'] at this
      exact this
    obtain ⟨A, hA⟩ : ∃ A, A = putCells id 0 (flatK encE 5 d') arr := ⟨_, rfl⟩
    have hAs : A.size = arr.size := by rw [hA]; simp [putCells]
    have hAg : ∀ j, j < arr.size → A.getD j undef = if j < xs.length * 5 then (encE d'[j / 5]!)[j % 5]! else arr.getD j undef := by
      intro j hj
      rw [hA, put_get hj, size_flatK, hd's]
      split
      · next h5 => exact hflat d' j (by rw [hd's]; exact h5)
      · rfl
    have hcell : ∀ j, j < xs.length * 5 → (encE d'[j / 5]!)[j % 5]! = (d'[j / 5]!).1.2.toArray.getD (j % 5) undef := by
      intro j hj
      have h5 := (d'[j / 5]!).2.2.1
      rw [Array.getD_eq_getD_getElem?]
      unfold encE
      rw [getElem!_pos _ _ (by rw [h5]; omega)]
      simp [h5, Nat.mod_lt]
    have hW1 := (hW.later (bel_ahead w w.heap.size nn)).setBox (cs' := ((sortV xs).map inj).flatMap AV.cells) (arr' := A) hb hM (show (Go.Sort.ahead w nn).heap[blk]? = _ from hB.here) hAs
      (by rw [cells_len, cells_len, hlen]) (fun j c hj => by
        have hjl : j < xs.length * 5 := by have := (List.getElem?_eq_some_iff.1 hj).1; rw [cells_len, hlen] at this; exact this
        rw [hAg j (by omega), if_pos hjl, hcell j hjl]
        have hL := (d'[j / 5]!).2.2.2.2
        rw [hyi (j / 5) (by omega), ← inj_agg] at hL
        obtain ⟨cs', he, _, hall⟩ := hL.agg_inv
        injection he with he
        rw [he]
        refine hall _ c ?_
        rw [← flat_get (sortV xs) (i := j / 5) (c := j % 5) (by omega) (Nat.mod_lt _ (by decide)), show j / 5 * 5 + j % 5 = j by omega]
        exact hj)
      (fun j hj => by
        rw [hAg j (by omega)]
        split
        · next h5 =>
          have h6 := (d'[j / 5]!).2.2.1
          unfold encE
          rw [getElem!_pos _ _ (by rw [h6]; omega)]
          exact (d'[j / 5]!).2.2.2.1 _ (List.getElem_mem _)
        · exact hB.one j (by omega))
    have hworld : sortWorldK encE 5 w blk 0 nn d' os = grow (World.putBlk (Go.Sort.ahead w nn) blk (.cells A ty fr)) os := by
      unfold sortWorldK putRowK putRow
      rw [mapBlock_put (show (Go.Sort.ahead w nn).heap[blk]? = _ from hB.here), hA]
    rw [hworld]
    exact ⟨m, .ret (.tup []), _, Mem.le.refl m, .tup [] #[] rfl (fun i c hi => by simp at hi), hW1.later (bel_grown _ os), rfl, rfl⟩
end Go.Proofs.YtlbhgoffiigfbaaGreat.AW
end
