/-
  Plain laws: comparing slices. No program in sight. Our own work.
-/
import Derived.Test.YtipkpdobbeggnaaLawS
namespace Go.Wk
open Go Go.RowKit

theorem sameN (a b : List Int) (h : a.length ≤ 9223372036854775806) : m_spec_l00Same a b = some (decide (a = b)) := by
  unfold m_spec_l00Same
  by_cases hl : a.length = b.length
  · have h1 : ((a.length : Int) != (b.length : Int)) = false := by simp [hl]
    rw [h1, cond_false]
    have := eq_gen (fun x y => some (decide (x = y))) a b h hl (fun _ _ _ _ => rfl)
    rw [← this]
    congr 1
  · have h1 : ((a.length : Int) != (b.length : Int)) = true := by simp; omega
    have h2 : decide (a = b) = false := by simp only [decide_eq_false_iff_not]; intro e; exact hl (by rw [e])
    rw [h1, cond_true, h2]
theorem equalN (a b : List Int) (h : a.length ≤ 9223372036854775806) : m_slices_Equal_int64_int64 a b = some (decide (a = b)) := by
  unfold m_slices_Equal_int64_int64
  by_cases hl : a.length = b.length
  · have h1 : ((a.length : Int) != (b.length : Int)) = false := by simp [hl]
    rw [h1, cond_false]
    have := eq_gen (fun x y => some (decide (x = y))) a b h hl (fun _ _ _ _ => rfl)
    rw [← this]
    congr 1
  · have h1 : ((a.length : Int) != (b.length : Int)) = true := by simp; omega
    have h2 : decide (a = b) = false := by simp only [decide_eq_false_iff_not]; intro e; exact hl (by rw [e])
    rw [h1, cond_true, h2]
end Go.Wk
