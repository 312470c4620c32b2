/-
  Plain law: ServerAt. No program in sight. Our own work.
-/
import Derived.Test.YtdilkjbhbglpbaaLawRasterOk
namespace Go.Wk
open Go Go.RowKit

theorem cell_lt {s n x : Int} (hs : 0 < s) (hx : x ≤ (n - 1) * s) : (2 * x + s) / (2 * s) < n := by
  refine Int.ediv_lt_of_lt_mul (by omega) ?_
  have e : (n - 1) * s = n * s - s := by rw [Int.sub_mul, Int.one_mul]
  have e2 : n * (2 * s) = 2 * (n * s) := by rw [Int.mul_left_comm]
  omega
theorem law_FnExactServerAt (a : GRaster) (p : GPoint) (ka : okGRaster a) (kp : okGPoint p) : m_laws_FnExactServerAt a p = some true := by
  unfold m_laws_FnExactServerAt
  obtain ⟨r, hr, hc⟩ := szRaster_eq a ka 1048576 (by omega) (by omega)
  rw [hr, Option.bind_some]
  rcases hc with hc | ⟨hc, hc2⟩
  · rw [decide_eq_true hc]; rfl
  rw [decide_eq_false (by omega), cond_false]
  have tp : m_laws_toPoint p = some p := rfl
  have e : ∃ c, m_spec_ServerAt a p = some c ∧ m_impl_ServerAt a p = some c := by
    unfold m_spec_ServerAt m_impl_ServerAt
    rw [rasterSpec_eq a (by omega), rasterImpl_eq a (by omega) (by omega)]
    simp only [in_eq, within_eq, Option.bind_some]
    cases ho : rasterOk a with
    | false => exact ⟨_, rfl, rfl⟩
    | true =>
      obtain ⟨hz, hl, hl2⟩ := rasterOk_true ho
      have hw := sizeOkN_true hz
      simp only [Bool.not_true, cond_false]
      rw [w64_id (n := a.Width - 1) (by omega) (by omega), w64_id (n := a.Height - 1) (by omega) (by omega)]
      have m1 : 0 ≤ (a.Width - 1) * a.Step := Int.mul_nonneg (by omega) (by omega)
      have m3 : 0 ≤ (a.Height - 1) * a.Step := Int.mul_nonneg (by omega) (by omega)
      rw [w64_id (n := (a.Width - 1) * a.Step) (by omega) (by omega), w64_id (n := (a.Height - 1) * a.Step) (by omega) (by omega)]
      by_cases h1 : 0 ≤ p.X ∧ p.X ≤ (a.Width - 1) * a.Step
      case neg => rw [decide_eq_false h1]; exact ⟨_, rfl, rfl⟩
      by_cases h2 : 0 ≤ p.Y ∧ p.Y ≤ (a.Height - 1) * a.Step
      case neg => rw [decide_eq_true h1, decide_eq_false h2]; exact ⟨_, rfl, rfl⟩
      rw [decide_eq_true h1, decide_eq_true h2]
      simp only [Bool.not_true, cond_false, Option.bind_some]
      rw [w64_id (n := 2 * p.Y) (by omega) (by omega), w64_id (n := 2 * p.Y + a.Step) (by omega) (by omega), w64_id (n := 2 * a.Step) (by omega) (by omega), w64_id (n := 2 * p.X) (by omega) (by omega), w64_id (n := 2 * p.X + a.Step) (by omega) (by omega)]
      rw [qdiv_pos (by omega) (by omega) (by omega), Option.bind_some, qdiv_pos (by omega) (by omega) (by omega), Option.bind_some]
      rw [Int.tdiv_eq_ediv_of_nonneg (by omega), Int.tdiv_eq_ediv_of_nonneg (by omega)]
      have c1 := cell_lt (s := a.Step) (n := a.Height) (x := p.Y) (by omega) h2.2
      have c2 := cell_lt (s := a.Step) (n := a.Width) (x := p.X) (by omega) h1.2
      have c3 : 0 ≤ (2 * p.Y + a.Step) / (2 * a.Step) := Int.ediv_nonneg (by omega) (by omega)
      have c4 : 0 ≤ (2 * p.X + a.Step) / (2 * a.Step) := Int.ediv_nonneg (by omega) (by omega)
      generalize (2 * p.Y + a.Step) / (2 * a.Step) = y at *
      generalize (2 * p.X + a.Step) / (2 * a.Step) = x at *
      have n1 : 0 ≤ y * a.Width := Int.mul_nonneg (by omega) (by omega)
      have n2 : y * a.Width ≤ (a.Height - 1) * a.Width := Int.mul_le_mul_of_nonneg_right (by omega) (by omega)
      have n3 : (a.Height - 1) * a.Width = a.Width * a.Height - a.Width := by rw [Int.sub_mul, Int.one_mul, Int.mul_comm]
      rw [w64_id (n := y * a.Width) (by omega) (by omega), w64_id (n := y * a.Width + x) (by omega) (by omega)]
      obtain ⟨k, hk⟩ := Int.eq_ofNat_of_zero_le (show 0 ≤ y * a.Width + x by omega)
      have k1 : k < a.Server.length := by omega
      have k2 : k < a.Level.length := by omega
      rw [hk, idx_lt_nat k1, idx_lt_nat k2]
      exact ⟨_, rfl, rfl⟩
  obtain ⟨c, h1, h2⟩ := e
  simp only [toRaster_eq a (by omega) (by omega), eqRaster_self a (by omega) (by omega), tp, h1, h2, Option.bind_some, bne_self, cond_false, Bool.not_true]
end Go.Wk
