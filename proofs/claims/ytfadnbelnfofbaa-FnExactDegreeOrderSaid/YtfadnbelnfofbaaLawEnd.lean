/-
  Plain laws: how the laws end whose result is a list of int64. No program in sight. Our own work.
-/
import Derived.Test.YtfadnbelnfofbaaLawMark
namespace Go.Wk
open Go Go.RowKit
/-- What a law does with a result of its own, in one word. -/
theorem held_len (s : List Int) (h : s.length ≤ 1048576) : m_laws_heldInt64S (markL s.length 1) 1 = some (1 + (s.length : Int)) := heldInt64S_eq s.length 1 (by omega) (by omega)
theorem mark_len (s : List Int) (h : s.length ≤ 1048576) : m_laws_markInt64S s 1 = some (1 + (s.length : Int), markL s.length 1) := markInt64S_eq s 1 (by omega) (by omega)
theorem pos_len (s : List Int) : decide (1 + (s.length : Int) < 0) = false := by rw [decide_eq_false_iff_not]; omega
theorem eq_len (s : List Int) (h : s.length ≤ 1048576) : m_laws_eqInt64S s s = some true := by rw [eqInt64S_eq s s (by omega), decide_eq_true rfl]
end Go.Wk
