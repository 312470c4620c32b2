/-
  Plain laws: a number within two bounds. No program in sight. Our own work.
-/
import Derived.Test.YtbhegklilcpbmaaDoorPlain
import Derived.Test.YtbhegklilcpbmaaDoorMod
namespace Go.Wk
open Go Go.RowKit

theorem within_eq (n a b : Int) : m_impl_within n a b = some (decide (a ≤ n ∧ n ≤ b)) := by
  unfold m_impl_within
  by_cases h : a ≤ n <;> simp [h]
theorem in_eq (n a b : Int) : m_spec_l00In n a b = some (decide (a ≤ n ∧ n ≤ b)) := by
  unfold m_spec_l00In
  by_cases h : a ≤ n <;> simp [h]
end Go.Wk
