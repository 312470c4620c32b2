/-
  Plain laws: slices.Index. No program in sight. Our own work.
-/
import Derived.Test.YtfadnbelnfofbaaLawS
namespace Go.Wk
open Go Go.RowKit

theorem indexN_eq (l : List Int) (x : Int) (hl : l.length ≤ 1048576) : m_slices_Index_int64_int64 l x = some (match l.findIdx? (fun y => decide (y = x)) with | some k => (k : Int) | none => -1) := by
  unfold m_slices_Index_int64_int64
  refine first_loop l (fun s : Int => m_slices_Index_int64_int64_B1 l x s) (fun y => decide (y = x)) (fun k => (k : Int)) (-1) (fun k hk => ?_) ?_
  · simp only [m_slices_Index_int64_int64_B1, lt_true hk, cond_true, idx_lt_nat hk, Option.bind_some]
    rw [w64_id (by omega) (by omega)]
    by_cases h : l[k] = x
    · have e : (x == l[k]) = true := by simp [h]
      rw [e, decide_eq_true h]; rfl
    · have e : (x == l[k]) = false := by simp only [beq_eq_false_iff_ne, ne_eq]; exact fun e => h e.symm
      rw [e, decide_eq_false h]; rfl
  · simp only [m_slices_Index_int64_int64_B1, lt_self, cond_false, Option.map_some]
end Go.Wk
