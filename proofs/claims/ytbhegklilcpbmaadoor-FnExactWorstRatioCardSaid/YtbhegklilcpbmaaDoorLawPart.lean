/-
  Plain laws: a part of a sum of powers. No program in sight. Our own work.
-/
import Derived.Test.YtbhegklilcpbmaaDoorLawLog
namespace Go.Wk
open Go Go.RowKit

/-- A part of a sum of powers. -/
theorem part_both {v : Int} (h0 : -1000000 ≤ v) (h1 : v ≤ 0) : ∃ q : Nat, q ≤ 1000000000 ∧ m_spec_l02Part v = some (q : Int) ∧ m_impl_partOf v = some (q : Int) := by
  unfold m_spec_l02Part m_impl_partOf
  by_cases c : v < -90000
  · rw [decide_eq_true c]; exact ⟨0, by omega, rfl, rfl⟩
  · rw [decide_eq_false c, w64_id (by omega) (by omega)]
    obtain ⟨n, hn⟩ := Int.eq_ofNat_of_zero_le (show 0 ≤ 90000 + v by omega)
    rw [hn]
    refine ⟨pw n, pw_le (d := 9) (by omega), ?_, ?_⟩
    · rw [specPow]; rfl
    · rw [implPow (by omega)]; rfl
end Go.Wk
