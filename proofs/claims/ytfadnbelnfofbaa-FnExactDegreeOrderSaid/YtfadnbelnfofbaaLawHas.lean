/-
  Plain laws: whether a slice has an element. No program in sight. Our own work.
-/
import Derived.Test.YtfadnbelnfofbaaLawIndex
import Derived.Test.YtfadnbelnfofbaaLawS
import Derived.Test.YtfadnbelnfofbaaPlainB
namespace Go.Wk
open Go Go.RowKit

def hasN (l : List Int) (x : Int) : Bool := l.any fun y => decide (y = x)
theorem hasSpec_eq (l : List Int) (x : Int) (hl : l.length ≤ 1048576) : m_spec_l00Has l x = some (hasN l x) := by
  unfold m_spec_l00Has
  have key := first_loop l (fun s : Int => m_spec_l00Has_B1 l x s) (fun y => decide (y = x)) (fun _ => true) false (fun k hk => ?_) ?_
  · rw [key]
    unfold hasN
    congr 1
    cases h : l.findIdx? (fun y => decide (y = x)) with
    | none =>
      rw [List.findIdx?_eq_none_iff] at h
      symm; rw [List.any_eq_false]; intro y hy; rw [h y hy]; simp
    | some k =>
      rw [List.findIdx?_eq_some_iff_getElem] at h
      obtain ⟨hk, hp, _⟩ := h
      symm; rw [List.any_eq_true]; exact ⟨l[k], List.getElem_mem hk, hp⟩
  · simp only [m_spec_l00Has_B1, lt_true hk, cond_true, idx_lt_nat hk, Option.bind_some]
    rw [w64_id (by omega) (by omega)]
    by_cases h : l[k] = x
    · have e : (l[k] == x) = true := by simp [h]
      rw [e, decide_eq_true h]; rfl
    · have e : (l[k] == x) = false := by simp [h]
      rw [e, decide_eq_false h]; rfl
  · simp only [m_spec_l00Has_B1, lt_self, cond_false, Option.map_some]
theorem containsN_eq (l : List Int) (x : Int) (hl : l.length ≤ 1048576) : m_slices_Contains_int64_int64 l x = some (hasN l x) := by
  unfold m_slices_Contains_int64_int64
  rw [indexN_eq l x hl, Option.bind_some]
  unfold hasN
  congr 1
  cases h : l.findIdx? (fun y => decide (y = x)) with
  | none =>
    rw [List.findIdx?_eq_none_iff] at h
    have : (l.any fun y => decide (y = x)) = false := by rw [List.any_eq_false]; intro y hy; rw [h y hy]; simp
    rw [this]; rfl
  | some k =>
    rw [List.findIdx?_eq_some_iff_getElem] at h
    obtain ⟨hk, hp, _⟩ := h
    have : (l.any fun y => decide (y = x)) = true := by rw [List.any_eq_true]; exact ⟨l[k], List.getElem_mem hk, hp⟩
    rw [this]; simp
end Go.Wk
