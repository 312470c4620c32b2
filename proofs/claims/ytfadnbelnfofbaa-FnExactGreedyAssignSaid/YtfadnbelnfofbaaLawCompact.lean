/-
  Plain law: what the library's compact makes of a sorted list. No program in sight. Our own work.
-/
import Derived.Test.YtfadnbelnfofbaaLib
import Derived.Test.YtfadnbelnfofbaaSort
import Derived.Test.YtfadnbelnfofbaaLawPut
namespace Go.Wk
open Go Go.RowKit

theorem sortL_pw (l : List Int) : (sortL l).Pairwise (· ≤ ·) := by
  have := List.pairwise_mergeSort (le := fun x y : Int => decide (x ≤ y)) (fun a b c h1 h2 => by simp at *; omega) (fun a b => by simp; omega) l
  exact this.imp (fun h => by simpa using h)
theorem sortL_mem (l : List Int) (x : Int) : x ∈ sortL l ↔ x ∈ l := (List.mergeSort_perm _ _).mem_iff
theorem sortL_len (l : List Int) : (sortL l).length = l.length := List.length_mergeSort _
theorem compact_mem (zs : List Int) (x : Int) : x ∈ Lib.compact zs ↔ x ∈ zs := by
  unfold Lib.compact Lib.compactUpTo
  rw [List.mem_map]
  constructor
  · rintro ⟨i, hi, rfl⟩
    rw [List.mem_filter, List.mem_range] at hi
    rw [getElem!_pos zs.toArray i (by simpa using hi.1)]
    simp
  · intro hx
    have key : ∀ i, i < zs.length → ∃ j, (j ∈ (List.range zs.length).filter (Lib.keeps zs.toArray)) ∧ zs.toArray[j]! = zs.toArray[i]! := by
      intro i
      induction i with
      | zero => intro hi; exact ⟨0, by rw [List.mem_filter, List.mem_range]; exact ⟨hi, Lib.keeps_lt_one _ 0 (by omega)⟩, rfl⟩
      | succ i ih =>
        intro hi
        by_cases c : zs.toArray[i + 1]! = zs.toArray[i]!
        · obtain ⟨j, h1, h2⟩ := ih (by omega)
          exact ⟨j, h1, by rw [h2, c]⟩
        · exact ⟨i + 1, by rw [List.mem_filter, List.mem_range]; exact ⟨hi, Lib.keeps_pos c⟩, rfl⟩
    obtain ⟨i, hi, e⟩ := List.getElem_of_mem hx
    obtain ⟨j, h1, h2⟩ := key i hi
    refine ⟨j, h1, ?_⟩
    rw [h2, getElem!_pos zs.toArray i (by simpa using hi)]
    simpa using e
theorem get_mono {zs : List Int} (h : zs.Pairwise (· ≤ ·)) {i j : Nat} (hij : i ≤ j) (hj : j < zs.length) : zs.toArray[i]! ≤ zs.toArray[j]! := by
  rw [getElem!_pos zs.toArray i (by rw [List.size_toArray]; omega), getElem!_pos zs.toArray j (by rw [List.size_toArray]; omega)]
  rw [List.getElem_toArray, List.getElem_toArray]
  by_cases e : i = j
  · subst e; exact Int.le_refl _
  · exact List.pairwise_iff_getElem.1 h i j (by omega) hj (by omega)
theorem compact_pw {zs : List Int} (h : zs.Pairwise (· ≤ ·)) : (Lib.compact zs).Pairwise (· < ·) := by
  unfold Lib.compact Lib.compactUpTo
  rw [List.pairwise_map]
  have hp : ((List.range zs.length).filter (Lib.keeps zs.toArray)).Pairwise (· < ·) := List.Pairwise.filter _ List.pairwise_lt_range
  refine List.Pairwise.imp_of_mem (fun {a b} ha hb hab => ?_) hp
  rw [List.mem_filter, List.mem_range] at ha hb
  have hk := hb.2
  unfold Lib.keeps at hk
  rw [decide_eq_true_eq] at hk
  have h1 := get_mono h (show a ≤ b - 1 by omega) (show b - 1 < zs.length by omega)
  have h2 := get_mono h (show b - 1 ≤ b by omega) hb.1
  rcases hk with hk | hk
  · omega
  · omega
/-- Two strictly rising lists with the same members are one. -/
theorem strict_ext {a b : List Int} (ha : a.Pairwise (· < ·)) (hb : b.Pairwise (· < ·)) (h : ∀ x, x ∈ a ↔ x ∈ b) : a = b := by
  have na : a.Nodup := ha.imp (fun h e => by omega)
  have nb : b.Nodup := hb.imp (fun h e => by omega)
  exact sorted_eq_of_perm ((List.perm_ext_iff_of_nodup na nb).2 h) (ha.imp (fun h => Int.le_of_lt h)) (hb.imp (fun h => Int.le_of_lt h))
end Go.Wk
