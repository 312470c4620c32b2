/-
  Plain laws: the room that slices take. No program in sight. Our own work.
-/
import Derived.Test.YtfadnbelnfofbaaLawS
namespace Go.Wk
open Go Go.RowKit

theorem szInt64S_eq (l : List Int) (left : Int) (h0 : 0 ≤ left) (h1 : left ≤ 1048576) (hl : l.length ≤ maxLen) : Left (m_laws_szInt64S l left) left l.length := by
  unfold maxLen at hl
  unfold m_laws_szInt64S Left
  rw [w64_id (by omega) (by omega)]
  by_cases h : left - (l.length : Int) < 0
  · exact ⟨-1, by rw [decide_eq_true h]; rfl, .inl (by omega)⟩
  · exact ⟨_, by rw [decide_eq_false h]; rfl, .inr ⟨by omega, by omega⟩⟩
end Go.Wk
