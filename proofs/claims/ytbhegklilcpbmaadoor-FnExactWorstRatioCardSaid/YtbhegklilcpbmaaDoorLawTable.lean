/-
  Plain laws: rounding, straight lines and tables. No program in sight. Our own work.
-/
import Derived.Test.YtbhegklilcpbmaaDoorLawIn
namespace Go.Wk
open Go Go.RowKit

/-- The rounded quotient, halves away from zero. -/
def rnd (a b : Int) : Int := if a < 0 then -((b - 2 * a) / (2 * b)) else (2 * a + b) / (2 * b)

theorem div_eq (a b : Int) (hb : 0 < b) (hb2 : b ≤ 1000000000000000000) (ha : -1000000000000000000 ≤ a ∧ a ≤ 1000000000000000000) : m_spec_l01Div a b = some (rnd a b) := by
  unfold m_spec_l01Div rnd
  rw [decide_eq_false (by omega), cond_false, Option.bind_some]
  by_cases h : a < 0
  · rw [decide_eq_true h, cond_true, if_pos h]
    show ((qdiv .i64 (w64 (b - (w64 (2 * a)))) (w64 (2 * b))).bind fun x3 => some (w64 (0 - x3))) = _
    rw [w64_id (n := 2 * a) (by omega) (by omega), w64_id (n := b - 2 * a) (by omega) (by omega), w64_id (n := 2 * b) (by omega) (by omega), qdiv_pos (by omega) (by omega) (by omega), Option.bind_some]
    rw [Int.tdiv_eq_ediv_of_nonneg (by omega)]
    have h1 : 0 ≤ (b - 2 * a) / (2 * b) := Int.ediv_nonneg (by omega) (by omega)
    have h2 : (b - 2 * a) / (2 * b) ≤ b - 2 * a := Int.ediv_le_self _ (by omega)
    rw [w64_id (by omega) (by omega)]
    congr 1; omega
  · rw [decide_eq_false h, cond_false, if_neg h]
    show ((qdiv .i64 (w64 (w64 (2 * a) + b)) (w64 (2 * b))).bind fun x3 => some x3) = _
    rw [w64_id (n := 2 * a) (by omega) (by omega), w64_id (n := 2 * a + b) (by omega) (by omega), w64_id (n := 2 * b) (by omega) (by omega), qdiv_pos (by omega) (by omega) (by omega), Option.bind_some]
    rw [Int.tdiv_eq_ediv_of_nonneg (by omega)]

theorem abs_eq (n : Int) (h : -9223372036854775807 ≤ n ∧ n ≤ 9223372036854775807) : m_impl_abs n = some (if n < 0 then -n else n) := by
  unfold m_impl_abs
  rw [w64_id (n := 0 - n) (by omega) (by omega)]
  congr 1
  by_cases h1 : n < 0
  · rw [if_pos (by omega), if_pos h1]; omega
  · rw [if_neg (by omega), if_neg h1]

/-- Twice a rest compared with the divisor decides how a quotient is rounded. -/
theorem rnd_pos (a b : Int) (hb : 0 < b) (ha : 0 ≤ a) : (2 * a + b) / (2 * b) = if b - a % b ≤ a % b then a / b + 1 else a / b := by
  have e := Int.ediv_mul_add_emod a b
  have r0 := Int.emod_nonneg a (show b ≠ 0 by omega)
  have r1 := Int.emod_lt_of_pos a hb
  generalize a / b = q at *
  generalize a % b = r at *
  have hq : 0 ≤ q := by
    apply Classical.byContradiction; intro hc
    have : q * b ≤ (-1) * b := Int.mul_le_mul_of_nonneg_right (by omega) (by omega)
    omega
  subst e
  by_cases h : b - r ≤ r
  · rw [if_pos h]
    apply Int.ediv_eq_iff_of_pos (by omega) |>.2
    constructor
    · have : (q + 1) * (2 * b) = 2 * (q * b) + 2 * b := by rw [Int.add_mul]; rw [show q * (2 * b) = 2 * (q * b) by rw [Int.mul_left_comm]]; omega
      omega
    · have : (q + 1) * (2 * b) = 2 * (q * b) + 2 * b := by rw [Int.add_mul]; rw [show q * (2 * b) = 2 * (q * b) by rw [Int.mul_left_comm]]; omega
      omega
  · rw [if_neg h]
    apply Int.ediv_eq_iff_of_pos (by omega) |>.2
    constructor
    · have : q * (2 * b) = 2 * (q * b) := by rw [Int.mul_left_comm]
      omega
    · have : q * (2 * b) = 2 * (q * b) := by rw [Int.mul_left_comm]
      omega

theorem divRound_eq (a b : Int) (hb : 0 < b) (hb2 : b ≤ 1000000000000000000) (ha : -1000000000000000000 ≤ a ∧ a ≤ 1000000000000000000) : m_impl_divRound a b = some (rnd a b) := by
  unfold m_impl_divRound rnd rdiv
  rw [qdiv_pos hb (by omega) (by omega), Option.bind_some, if_neg (by omega), Option.bind_some]
  by_cases h : a < 0
  · have hm : a.tmod b = -((-a) % b) := by
      have : a.tmod b = -((-a).tmod b) := by rw [Int.neg_tmod]; omega
      rw [this, Int.tmod_eq_emod_of_nonneg (by omega)]
    have hd : a.tdiv b = -((-a) / b) := by
      rcases tdiv_split a hb with h' | h'
      · omega
      · exact h'.2
    have r0 := Int.emod_nonneg (-a) (show b ≠ 0 by omega)
    have r1 := Int.emod_lt_of_pos (-a) hb
    have q0 : 0 ≤ (-a) / b := Int.ediv_nonneg (by omega) (by omega)
    have q1 : (-a) / b ≤ -a := Int.ediv_le_self _ (by omega)
    have e := rnd_pos (-a) b hb (by omega)
    rw [show 2 * -a + b = b - 2 * a by omega] at e
    rw [hm, hd, abs_eq _ (by omega), Option.bind_some, abs_eq _ (by omega), Option.bind_some, if_pos h, e]
    have e1 : (if -(-a % b) < 0 then - -(-a % b) else -(-a % b)) = -a % b := by split <;> omega
    rw [e1, if_neg (by omega), w64_id (n := b - -a % b) (by omega) (by omega)]
    by_cases h2 : b - -a % b ≤ -a % b
    · rw [decide_eq_true h2, if_pos h2, decide_eq_true h, decide_eq_false (show ¬ b < 0 by omega)]
      rw [w64_id (n := -(-a / b) - 1) (by omega) (by omega)]
      show some _ = _
      congr 1; omega
    · rw [decide_eq_false h2, if_neg h2]; rfl
  · have hm : a.tmod b = a % b := Int.tmod_eq_emod_of_nonneg (by omega)
    have hd : a.tdiv b = a / b := Int.tdiv_eq_ediv_of_nonneg (by omega)
    have r0 := Int.emod_nonneg a (show b ≠ 0 by omega)
    have r1 := Int.emod_lt_of_pos a hb
    have q0 : 0 ≤ a / b := Int.ediv_nonneg (by omega) (by omega)
    have q1 : a / b ≤ a := Int.ediv_le_self _ (by omega)
    have e := rnd_pos a b hb (by omega)
    rw [hm, hd, abs_eq _ (by omega), Option.bind_some, abs_eq _ (by omega), Option.bind_some, if_neg h, e]
    rw [if_neg (show ¬ a % b < 0 by omega), if_neg (show ¬ b < 0 by omega), w64_id (n := b - a % b) (by omega) (by omega)]
    by_cases h2 : b - a % b ≤ a % b
    · rw [decide_eq_true h2, if_pos h2, decide_eq_false h, decide_eq_false (show ¬ b < 0 by omega)]
      rw [w64_id (n := a / b + 1) (by omega) (by omega)]
      rfl
    · rw [decide_eq_false h2, if_neg h2]; rfl

/-- A straight line between two points. -/
def lineN (x0 y0 x1 y1 x : Int) : Int := if x ≤ x0 ∨ x1 ≤ x0 then y0 else if x1 ≤ x then y1 else w64 (y0 + rnd ((y1 - y0) * (x - x0)) (x1 - x0))
def Small (n : Int) : Prop := -300000000 ≤ n ∧ n ≤ 300000000
theorem line_prod {y0 y1 x0 x : Int} (h1 : Small y0) (h2 : Small y1) (h3 : Small x0) (h4 : Small x) : -360000000000000000 ≤ (y1 - y0) * (x - x0) ∧ (y1 - y0) * (x - x0) ≤ 360000000000000000 := by
  unfold Small at *
  have h : ((y1 - y0) * (x - x0)).natAbs ≤ 600000000 * 600000000 := by
    rw [Int.natAbs_mul]; exact Nat.mul_le_mul (by omega) (by omega)
  omega
theorem line_eq (x0 y0 x1 y1 x : Int) (a0 : Small x0) (b0 : Small y0) (a1 : Small x1) (b1 : Small y1) (a2 : Small x) : m_spec_l01Line x0 y0 x1 y1 x = some (lineN x0 y0 x1 y1 x) := by
  unfold m_spec_l01Line lineN
  have hp := line_prod b0 b1 a0 a2
  unfold Small at *
  by_cases h1 : x ≤ x0
  · rw [decide_eq_true h1, if_pos (.inl h1)]; rfl
  · by_cases h2 : x1 ≤ x0
    · rw [decide_eq_false h1, decide_eq_true h2, if_pos (.inr h2)]; rfl
    · rw [decide_eq_false h1, decide_eq_false h2, if_neg (by omega)]
      by_cases h3 : x1 ≤ x
      · rw [decide_eq_true h3, if_pos h3]; rfl
      · rw [decide_eq_false h3, if_neg h3]
        simp only [cond_false, Option.bind_some]
        rw [w64_id (n := y1 - y0) (by omega) (by omega), w64_id (n := x - x0) (by omega) (by omega), w64_id (n := x1 - x0) (by omega) (by omega), w64_id (n := (y1 - y0) * (x - x0)) (by omega) (by omega)]
        rw [div_eq _ _ (by omega) (by omega) (by omega)]
        rfl
theorem blend_eq (x0 y0 x1 y1 x : Int) (a0 : Small x0) (b0 : Small y0) (a1 : Small x1) (b1 : Small y1) (a2 : Small x) : m_impl_blend x0 y0 x1 y1 x = some (lineN x0 y0 x1 y1 x) := by
  unfold m_impl_blend lineN
  have hp := line_prod b0 b1 a0 a2
  unfold Small at *
  by_cases h1 : x ≤ x0
  · rw [decide_eq_true h1, if_pos (.inl h1)]; rfl
  · by_cases h2 : x1 ≤ x0
    · rw [decide_eq_false h1, decide_eq_true h2, if_pos (.inr h2)]; rfl
    · rw [decide_eq_false h1, decide_eq_false h2, if_neg (by omega)]
      by_cases h3 : x1 ≤ x
      · rw [decide_eq_true h3, if_pos h3]; rfl
      · rw [decide_eq_false h3, if_neg h3]
        simp only [cond_false, Option.bind_some]
        rw [w64_id (n := y1 - y0) (by omega) (by omega), w64_id (n := x - x0) (by omega) (by omega), w64_id (n := x1 - x0) (by omega) (by omega), w64_id (n := (y1 - y0) * (x - x0)) (by omega) (by omega)]
        rw [divRound_eq _ _ (by omega) (by omega) (by omega)]
        rfl
end Go.Wk
