/- Texts of this claim, part 7: P71. -/
import Derived.Test.YtlbhgoffiigfbaaBe1
import Derived.Test.YtlbhgoffiigfbaaBe2
import Derived.Test.YtlbhgoffiigfbaaBe6
import Derived.Sort.Statements
import Derived.Sort.Grow
section
set_option linter.unusedSimpArgs false
set_option linter.unusedVariables false
namespace Go.Proofs.Ytlbhgoffiigfbaa.AW
open Go Go.RowKit Go.Sort

def leV (a b : V) : Bool := decide (ordN a b ≤ 0)
def sortV (xs : List V) : List V := xs.mergeSort leV
theorem leV_trans (a b c : V) : leV a b = true → leV b c = true → leV a c = true := by
  unfold leV
  simp only [decide_eq_true_eq]
  have := ordN_T3 a b c
  unfold T3 at this
  omega
theorem leV_total (a b : V) : (leV a b || leV b a) = true := by
  unfold leV
  simp only [Bool.or_eq_true, decide_eq_true_eq]
  have := ordN_anti a b
  omega
theorem sortV_perm (xs : List V) : (sortV xs).Perm xs := List.mergeSort_perm xs leV
theorem sortV_sorted (xs : List V) : (sortV xs).Pairwise fun a b => leV a b = true := List.pairwise_mergeSort leV_trans leV_total xs
theorem sortV_len (xs : List V) : (sortV xs).length = xs.length := (sortV_perm xs).length_eq
theorem sortV_mem {xs : List V} {x : V} : x ∈ sortV xs ↔ x ∈ xs := (sortV_perm xs).mem_iff
theorem leV_anti {a b : V} (ha : Vok a) (hb : Vok b) (h1 : leV a b = true) (h2 : leV b a = true) : a = b := by
  unfold leV at h1 h2
  simp only [decide_eq_true_eq] at h1 h2
  have := ordN_anti a b
  exact ordN_zero a b ha hb (by omega)
theorem sorted_one : ∀ {l1 l2 : List V}, (∀ a ∈ l1, Vok a) → l1.Perm l2 → (l1.Pairwise fun a b => leV a b = true) → (l2.Pairwise fun a b => leV a b = true) → l1 = l2
  | [], l2, _, hp, _, _ => by rw [List.nil_perm.1 hp]
  | a :: l1, [], _, hp, _, _ => by cases List.perm_nil.1 hp
  | a :: l1, b :: l2, hv, hp, h1, h2 => by
    rw [List.pairwise_cons] at h1 h2
    have hab : a = b := by
      rcases List.mem_cons.1 (hp.mem_iff.1 List.mem_cons_self) with e | ha
      · exact e
      · rcases List.mem_cons.1 (hp.mem_iff.2 (List.mem_cons_self (a := b) (l := l2))) with e | hb
        · exact e.symm
        · exact leV_anti (hv a List.mem_cons_self) (hv b (List.mem_cons_of_mem _ hb)) (h1.1 b hb) (h2.1 a ha)
    subst hab
    rw [sorted_one (fun x hx => hv x (List.mem_cons_of_mem _ hx)) ((List.perm_cons a).1 hp) h1.2 h2.2]
theorem bel_grow {W w' : World} (h : Bel W.heap.size W w') : ∃ q os, w' = grow (W.drewN q) os := by
  refine ⟨w'.drawn - W.drawn, w'.heap.extract W.heap.size w'.heap.size, ?_⟩
  obtain ⟨⟨h1, h2, h3, h4, h5⟩, h6⟩ := h
  have hh : w'.heap = W.heap ++ w'.heap.extract W.heap.size w'.heap.size := by
    apply Array.ext_getElem?
    intro i
    by_cases hi : i < W.heap.size
    · rw [Array.getElem?_append_left hi, h5 i hi]
    · rw [Array.getElem?_append_right (by omega), Array.getElem?_extract]
      by_cases hi2 : i < w'.heap.size
      · rw [if_pos (by omega)]; congr 1; omega
      · rw [if_neg (by omega), Array.getElem?_eq_none (by omega)]
  cases w' with | mk heap tape drawn os output =>
  cases W with | mk heap0 tape0 drawn0 os0 output0 =>
  simp only [grow, World.drewN] at *
  subst h1 h2 h3
  congr 1
  omega
end Go.Proofs.Ytlbhgoffiigfbaa.AW
end
