/-
  Plain laws: the logarithm in decibels and its inverse; binary search. No program in sight. Our own work.
-/
import Derived.Test.YtbhegklilcpbmaaDoorPlain
import Derived.Test.YtbhegklilcpbmaaDoorMod
import Derived.Test.YtbhegklilcpbmaaDoorLawIn
namespace Go.Wk
open Go Go.RowKit
open Go.Lib (nDigits decDigits)

/-! ### digits -/
theorem nd_div : ∀ (k u : Nat), k < nDigits u → nDigits (u / 10 ^ k) = nDigits u - k
  | 0, u, _ => by simp
  | k + 1, u, h => by
    have ih := nd_div k u (by omega)
    have h10 : ¬ u / 10 ^ k < 10 := fun hc => by rw [Lib.nDigits_small hc] at ih; omega
    rw [Lib.nDigits_big h10] at ih
    have e : u / 10 ^ (k + 1) = u / 10 ^ k / 10 := by rw [Nat.pow_succ, Nat.div_div_eq_div_mul]
    rw [e]
    generalize nDigits (u / 10 ^ k / 10) = q at *
    omega
theorem nd_ge {u k : Nat} (h : k + 1 < nDigits u) : 10 ≤ u / 10 ^ k := by
  have h1 := nd_div k u (by omega)
  by_cases hc : u / 10 ^ k < 10
  · rw [Lib.nDigits_small hc] at h1; omega
  · omega
theorem nd_lt {u : Nat} : u / 10 ^ (nDigits u - 1) < 10 := by
  have h0 := Lib.nDigits_pos u
  have h1 := nd_div (nDigits u - 1) u (by omega)
  by_cases hc : u / 10 ^ (nDigits u - 1) < 10
  · exact hc
  · rw [Lib.nDigits_big hc] at h1
    have := Lib.nDigits_pos (u / 10 ^ (nDigits u - 1) / 10)
    omega
theorem pow_le_nd : ∀ (u : Nat), u ≠ 0 → 10 ^ (nDigits u - 1) ≤ u := by
  intro u
  induction u using Nat.strongRecOn with
  | _ u ih =>
    intro h0
    by_cases h : u < 10
    · rw [Lib.nDigits_small h]; simp; omega
    · have h1 := ih (u / 10) (by omega) (by omega)
      have h2 := Lib.nDigits_pos (u / 10)
      rw [Lib.nDigits_big h, show nDigits (u / 10) + 1 - 1 = (nDigits (u / 10) - 1) + 1 by omega, Nat.pow_succ]
      omega
theorem nd_le {u k : Nat} (h : u < 10 ^ k) (hk : 1 ≤ k) : nDigits u ≤ k := by
  by_cases h0 : u = 0
  · subst h0; rw [Lib.nDigits_small (by omega)]; exact hk
  · have h1 := pow_le_nd u h0
    by_cases hc : nDigits u ≤ k
    · exact hc
    · have : 10 ^ k ≤ 10 ^ (nDigits u - 1) := Nat.pow_le_pow_right (by omega) (by omega)
      omega
theorem nd_gt {u k : Nat} (h : 10 ^ k ≤ u) : k < nDigits u := by
  have h1 := Lib.lt_pow_nDigits u
  by_cases hc : k < nDigits u
  · exact hc
  · have : 10 ^ nDigits u ≤ 10 ^ k := Nat.pow_le_pow_right (by omega) (by omega)
    omega

/-! ### products of numbers below 10^9 that stand for 1 to 10 -/
def mulT (a b : Nat) : Nat × Nat := if 1000000000 ≤ a * b / 100000000 then (a * b / 100000000 / 10, 1) else (a * b / 100000000, 0)
theorem mulT_lt {a b : Nat} (ha : a < 1000000000) (hb : b < 1000000000) : (mulT a b).1 < 1000000000 ∧ (mulT a b).2 ≤ 1 := by
  have hc : a * b < 1000000000 * 1000000000 := Nat.mul_lt_mul'' ha hb
  unfold mulT
  generalize a * b = c at *
  split <;> constructor <;> simp only <;> omega
theorem specTimes {a b : Nat} (ha : a < 1000000000) (hb : b < 1000000000) : m_spec_l02Times (a : Int) (b : Int) = some (((mulT a b).1 : Int), ((mulT a b).2 : Int)) := by
  have hc : a * b < 1000000000 * 1000000000 := Nat.mul_lt_mul'' ha hb
  have e : (a : Int) * (b : Int) = ((a * b : Nat) : Int) := by simp
  unfold m_spec_l02Times mulT
  rw [e]
  generalize a * b = c at *
  have t1 : ((c : Int)).tdiv 100000000 = ((c / 100000000 : Nat) : Int) := by rw [Int.tdiv_eq_ediv_of_nonneg (by omega)]; omega
  rw [w64_id (n := (c : Int)) (by omega) (by omega), t1, w64_id (n := ((c / 100000000 : Nat) : Int)) (by omega) (by omega)]
  generalize hd : c / 100000000 = d
  have hd' : d < 10000000000 := by omega
  have t2 : ((d : Int)).tdiv 10 = ((d / 10 : Nat) : Int) := by rw [Int.tdiv_eq_ediv_of_nonneg (by omega)]; omega
  rw [t2, w64_id (n := ((d / 10 : Nat) : Int)) (by omega) (by omega)]
  by_cases h : 1000000000 ≤ d
  · rw [decide_eq_true (by omega), if_pos h]; rfl
  · rw [decide_eq_false (by omega), if_neg h]; rfl
theorem implTimes {a b e f : Nat} (ha : a < 1000000000) (hb : b < 1000000000) (he : e ≤ 100) (hf : f ≤ 100) : m_impl_scaled_times ⟨(a : Int), (e : Int)⟩ ⟨(b : Int), (f : Int)⟩ = some ⟨((mulT a b).1 : Int), ((e + f + (mulT a b).2 : Nat) : Int)⟩ := by
  have hc : a * b < 1000000000 * 1000000000 := Nat.mul_lt_mul'' ha hb
  have e1 : (a : Int) * (b : Int) = ((a * b : Nat) : Int) := by simp
  unfold m_impl_scaled_times mulT
  simp only [e1]
  generalize a * b = c at *
  have t1 : ((c : Int)).tdiv 100000000 = ((c / 100000000 : Nat) : Int) := by rw [Int.tdiv_eq_ediv_of_nonneg (by omega)]; omega
  rw [w64_id (n := (c : Int)) (by omega) (by omega), t1, w64_id (n := ((c / 100000000 : Nat) : Int)) (by omega) (by omega), w64_id (n := (e : Int) + (f : Int)) (by omega) (by omega)]
  generalize hd : c / 100000000 = d
  have hd' : d < 10000000000 := by omega
  have t2 : ((d : Int)).tdiv 10 = ((d / 10 : Nat) : Int) := by rw [Int.tdiv_eq_ediv_of_nonneg (by omega)]; omega
  rw [t2, w64_id (n := ((d / 10 : Nat) : Int)) (by omega) (by omega), w64_id (n := (e : Int) + (f : Int) + 1) (by omega) (by omega)]
  by_cases h : 1000000000 ≤ d
  · rw [decide_eq_true (by omega), if_pos h]; rfl
  · rw [decide_eq_false (by omega), if_neg h]; rfl
theorem sumT {a b c d : Nat} (ha : a ≤ 1) (hb : b ≤ 1) (hc : c ≤ 1) (hd : d ≤ 1) : w64 (w64 (2 * w64 (w64 (w64 (2 * (a : Int)) + (b : Int)) + (c : Int))) + (d : Int)) = ((2 * (2 * a + b + c) + d : Nat) : Int) := by
  rw [w64_id (n := 2 * (a : Int)) (by omega) (by omega), w64_id (n := 2 * (a : Int) + (b : Int)) (by omega) (by omega), w64_id (n := 2 * (a : Int) + (b : Int) + (c : Int)) (by omega) (by omega)]
  rw [w64_id (n := 2 * (2 * (a : Int) + (b : Int) + (c : Int))) (by omega) (by omega), w64_id (by omega) (by omega)]
  omega
def tenT (x : Nat) : Nat × Nat := ((mulT (mulT (mulT (mulT x x).1 (mulT x x).1).1 x).1 (mulT (mulT (mulT x x).1 (mulT x x).1).1 x).1).1,
  2 * (2 * (mulT x x).2 + (mulT (mulT x x).1 (mulT x x).1).2 + (mulT (mulT (mulT x x).1 (mulT x x).1).1 x).2) + (mulT (mulT (mulT (mulT x x).1 (mulT x x).1).1 x).1 (mulT (mulT (mulT x x).1 (mulT x x).1).1 x).1).2)
theorem ten_facts {x : Nat} (h : x < 1000000000) : (tenT x).1 < 1000000000 ∧ (tenT x).2 ≤ 9 := by
  have h2 := mulT_lt h h
  have h4 := mulT_lt h2.1 h2.1
  have h5 := mulT_lt h4.1 h
  have h10 := mulT_lt h5.1 h5.1
  unfold tenT
  exact ⟨h10.1, by simp only; omega⟩
theorem specTenth {x : Nat} (h : x < 1000000000) : m_spec_l02Tenth (x : Int) = some (((tenT x).1 : Int), ((tenT x).2 : Int)) := by
  have h2 := mulT_lt h h
  have h4 := mulT_lt h2.1 h2.1
  have h5 := mulT_lt h4.1 h
  have h10 := mulT_lt h5.1 h5.1
  unfold m_spec_l02Tenth tenT
  simp only [specTimes h h, Option.bind_some, specTimes h2.1 h2.1, specTimes h4.1 h, specTimes h5.1 h5.1]
  rw [sumT h2.2 h4.2 h5.2 h10.2]

/-! ### the logarithm -/
/-- The number, brought to nine digits. -/
def scaleT (u : Nat) : Nat := u * 10 ^ (8 - (nDigits u - 1)) / 10 ^ (nDigits u - 1 - 8)
theorem mul_pow_lt {u j : Nat} (h : nDigits u - 1 + j ≤ 8) : u * 10 ^ j < 1000000000 := by
  have h1 := Lib.lt_pow_nDigits u
  have h0 := Lib.nDigits_pos u
  have h2 : u * 10 ^ j < 10 ^ nDigits u * 10 ^ j := Nat.mul_lt_mul_of_pos_right h1 (Nat.pow_pos (by omega))
  rw [← Nat.pow_add] at h2
  have h3 : 10 ^ (nDigits u + j) ≤ 10 ^ 9 := Nat.pow_le_pow_right (by omega) (by omega)
  omega
theorem scaleT_lt (u : Nat) : scaleT u < 1000000000 := by
  unfold scaleT
  by_cases h : nDigits u - 1 ≤ 8
  · rw [show nDigits u - 1 - 8 = 0 by omega, Nat.pow_zero, Nat.div_one]
    exact mul_pow_lt (by omega)
  · rw [show 8 - (nDigits u - 1) = 0 by omega, Nat.pow_zero, Nat.mul_one]
    rw [Nat.div_lt_iff_lt_mul (Nat.pow_pos (by omega))]
    have h1 := Lib.lt_pow_nDigits u
    have e : 1000000000 * 10 ^ (nDigits u - 1 - 8) = 10 ^ nDigits u := by
      rw [show (1000000000 : Nat) = 10 ^ 9 from rfl, ← Nat.pow_add]
      congr 1; omega
    omega
def logSt (u : Nat) : Nat → Nat × Nat
  | 0 => (nDigits u - 1, scaleT u)
  | k + 1 => (10 * (logSt u k).1 + (tenT (logSt u k).2).2, (tenT (logSt u k).2).1)
theorem logSt_facts (u : Nat) : ∀ k, (logSt u k).2 < 1000000000 ∧ (logSt u k).1 + 1 ≤ 10 ^ k * nDigits u ∧ 10 ^ k * (nDigits u - 1) ≤ (logSt u k).1
  | 0 => ⟨scaleT_lt u, by have := Lib.nDigits_pos u; simp [logSt]; omega, by simp [logSt]⟩
  | k + 1 => by
    obtain ⟨h1, h2, h3⟩ := logSt_facts u k
    have ht := ten_facts h1
    refine ⟨ht.1, ?_, ?_⟩
    · show 10 * (logSt u k).1 + (tenT (logSt u k).2).2 + 1 ≤ _
      rw [Nat.pow_succ, Nat.mul_right_comm]; omega
    · show _ ≤ 10 * (logSt u k).1 + (tenT (logSt u k).2).2
      rw [Nat.pow_succ, Nat.mul_right_comm]; omega
def lg (u : Nat) : Nat := (logSt u 4).1
theorem lg_bounds (u : Nat) : lg u + 1 ≤ 10000 * nDigits u ∧ 10000 * (nDigits u - 1) ≤ lg u := by
  obtain ⟨_, h2, h3⟩ := logSt_facts u 4
  exact ⟨h2, h3⟩

theorem specLog {u : Nat} (hu : u ≤ 9223372036854775807) : m_spec_l02Log (u : Int) = some (lg u : Int) := by
  have hd19 : nDigits u ≤ 19 := nd_le (by omega) (by omega)
  have hd1 := Lib.nDigits_pos u
  have s1 : loopM (fun s : (Int × Int) => m_spec_l02Log_B2 s.1 s.2) ((0 : Int), (u : Int)) = some ((nDigits u - 1 : Nat) : Int) := by
    have := loop_for (body := fun s : (Int × Int) => m_spec_l02Log_B2 s.1 s.2) (r := ((nDigits u - 1 : Nat) : Int)) (nDigits u - 1) (fun k => ((k : Int), ((u / 10 ^ k : Nat) : Int))) (fun k hk => ?_) ?_
    · simpa using this
    · have h10 := nd_ge (u := u) (k := k) (by omega)
      have hle : u / 10 ^ k ≤ u := Nat.div_le_self _ _
      have t : (((u / 10 ^ k : Nat) : Int)).tdiv 10 = ((u / 10 ^ (k + 1) : Nat) : Int) := by
        rw [Nat.pow_succ, ← Nat.div_div_eq_div_mul, Int.tdiv_eq_ediv_of_nonneg (by omega)]; omega
      have hle2 : u / 10 ^ (k + 1) ≤ u := Nat.div_le_self _ _
      simp only [m_spec_l02Log_B2]
      generalize u / 10 ^ (k + 1) = q2 at *
      generalize u / 10 ^ k = q1 at *
      rw [decide_eq_true (by omega), cond_true, t, w64_id (by omega) (by omega), w64_id (by omega) (by omega)]
      rfl
    · have h10 := nd_lt (u := u)
      simp only [m_spec_l02Log_B2]
      rw [decide_eq_false (by omega)]
      rfl
  have s2 : loopM (fun s : (Int × Int) => m_spec_l02Log_B8 s.1 s.2) ((u : Int), ((nDigits u - 1 : Nat) : Int)) = some ((u * 10 ^ (8 - (nDigits u - 1)) : Nat) : Int) := by
    have := loop_for (body := fun s : (Int × Int) => m_spec_l02Log_B8 s.1 s.2) (r := ((u * 10 ^ (8 - (nDigits u - 1)) : Nat) : Int)) (8 - (nDigits u - 1)) (fun k => (((u * 10 ^ k : Nat) : Int), ((nDigits u - 1 + k : Nat) : Int))) (fun k hk => ?_) ?_
    · simpa using this
    · have hb := mul_pow_lt (u := u) (j := k + 1) (by omega)
      rw [Nat.pow_succ, ← Nat.mul_assoc] at hb
      simp only [m_spec_l02Log_B8]
      rw [decide_eq_true (by omega), cond_true, w64_id (by omega) (by omega), w64_id (by omega) (by omega)]
      congr 3
      · rw [Nat.pow_succ, ← Nat.mul_assoc]; omega
    · simp only [m_spec_l02Log_B8]
      rw [decide_eq_false (by omega)]
      rfl
  have hm : u * 10 ^ (8 - (nDigits u - 1)) ≤ 9223372036854775807 := by
    by_cases h : nDigits u - 1 ≤ 8
    · have := mul_pow_lt (u := u) (j := 8 - (nDigits u - 1)) (by omega); omega
    · rw [show 8 - (nDigits u - 1) = 0 by omega]; simpa using hu
  have s3 : loopM (fun s : (Int × Int) => m_spec_l02Log_B14 s.1 s.2) (((u * 10 ^ (8 - (nDigits u - 1)) : Nat) : Int), ((nDigits u - 1 : Nat) : Int)) = some (scaleT u : Int) := by
    unfold scaleT
    generalize u * 10 ^ (8 - (nDigits u - 1)) = m at *
    have := loop_for (body := fun s : (Int × Int) => m_spec_l02Log_B14 s.1 s.2) (r := ((m / 10 ^ (nDigits u - 1 - 8) : Nat) : Int)) (nDigits u - 1 - 8) (fun k => (((m / 10 ^ k : Nat) : Int), ((nDigits u - 1 - k : Nat) : Int))) (fun k hk => ?_) ?_
    · simpa using this
    · have hle : m / 10 ^ k ≤ m := Nat.div_le_self _ _
      have hle2 : m / 10 ^ (k + 1) ≤ m := Nat.div_le_self _ _
      have t : (((m / 10 ^ k : Nat) : Int)).tdiv 10 = ((m / 10 ^ (k + 1) : Nat) : Int) := by
        rw [Nat.pow_succ, ← Nat.div_div_eq_div_mul]; generalize m / 10 ^ k = q; rw [Int.tdiv_eq_ediv_of_nonneg (by omega)]; omega
      simp only [m_spec_l02Log_B14]
      generalize m / 10 ^ (k + 1) = q2 at *
      generalize m / 10 ^ k = q1 at *
      rw [decide_eq_true (by omega), cond_true, t, w64_id (by omega) (by omega), w64_id (by omega) (by omega)]
      congr 3; omega
    · simp only [m_spec_l02Log_B14]
      rw [decide_eq_false (by omega)]
      rfl
  have s4 : loopM (fun s : (Int × Int × Int) => m_spec_l02Log_B20 s.1 s.2.1 s.2.2) (((nDigits u - 1 : Nat) : Int), (scaleT u : Int), (0 : Int)) = some (lg u : Int) := by
    refine loop_for (body := fun s : (Int × Int × Int) => m_spec_l02Log_B20 s.1 s.2.1 s.2.2) (r := (lg u : Int)) 4 (fun k => (((logSt u k).1 : Int), ((logSt u k).2 : Int), (k : Int))) (fun k hk => ?_) ?_
    · obtain ⟨h1, h2, h3⟩ := logSt_facts u k
      have ht := ten_facts h1
      have hp : 10 ^ k * nDigits u ≤ 10 ^ 3 * 19 := Nat.mul_le_mul (Nat.pow_le_pow_right (by omega) (by omega)) hd19
      simp only [m_spec_l02Log_B20]
      rw [decide_eq_true (by omega), cond_true, specTenth h1, Option.bind_some, w64_id (n := 10 * _) (by omega) (by omega)]
      rw [w64_id (by omega) (by omega), w64_id (by omega) (by omega)]
      rfl
    · rfl
  unfold m_spec_l02Log
  rw [s1, Option.bind_some, s2, Option.bind_some, s3, Option.bind_some, s4, Option.bind_some]

theorem implDecimal {n : Int} (h0 : -9223372036854775808 ≤ n) (h1 : n ≤ 9223372036854775807) : m_impl_Decimal n = some ⟨(Lib.itoa n).toArray⟩ := by
  unfold m_impl_Decimal m_strconv_FormatInt fmtM
  rw [if_pos ⟨rfl, h0, h1⟩]
  rfl
theorem implLog {u : Nat} (hu : u ≤ 9223372036854775807) : m_impl_LogDb (u : Int) = some (lg u : Int) := by
  by_cases h0 : u = 0
  · subst h0
    unfold m_impl_LogDb
    rw [decide_eq_true (by omega), cond_true]
    have : lg 0 = 0 := by
      have e : nDigits 0 = 1 := Lib.nDigits_small (by omega)
      have e0 : scaleT 0 = 0 := by unfold scaleT; simp
      have et : tenT 0 = (0, 0) := by decide
      unfold lg logSt logSt logSt logSt logSt
      rw [e, e0]
      simp [et]
    rw [this]; rfl
  have hd19 : nDigits u ≤ 19 := nd_le (by omega) (by omega)
  have hd1 := Lib.nDigits_pos u
  have hsz : (⟨(Lib.itoa (u : Int)).toArray⟩ : ByteArray).size = nDigits u := by
    have : (⟨(Lib.itoa (u : Int)).toArray⟩ : ByteArray).size = (Lib.itoa (u : Int)).length := rfl
    rw [this]
    unfold Lib.itoa
    rw [if_neg (by omega), Int.toNat_natCast, Lib.decDigits_length]
  have s2 : loopM (fun s : (Int × Int) => m_impl_LogDb_B3 ⟨(Lib.itoa (u : Int)).toArray⟩ s.1 s.2) ((u : Int), (0 : Int)) = some ((u * 10 ^ (8 - (nDigits u - 1)) : Nat) : Int) := by
    have := loop_for (body := fun s : (Int × Int) => m_impl_LogDb_B3 ⟨(Lib.itoa (u : Int)).toArray⟩ s.1 s.2) (r := ((u * 10 ^ (8 - (nDigits u - 1)) : Nat) : Int)) (8 - (nDigits u - 1)) (fun k => (((u * 10 ^ k : Nat) : Int), (k : Int))) (fun k hk => ?_) ?_
    · simpa using this
    · have hb := mul_pow_lt (u := u) (j := k + 1) (by omega)
      rw [Nat.pow_succ, ← Nat.mul_assoc] at hb
      simp only [m_impl_LogDb_B3, hsz]
      rw [w64_id (n := (nDigits u : Int) - 1) (by omega) (by omega), w64_id (n := 8 - _) (by omega) (by omega), if_neg (by omega), decide_eq_true (by omega), cond_true, w64_id (by omega) (by omega), w64_id (by omega) (by omega)]
      congr 3
      · rw [Nat.pow_succ, ← Nat.mul_assoc]; omega
    · simp only [m_impl_LogDb_B3, hsz]
      rw [w64_id (n := (nDigits u : Int) - 1) (by omega) (by omega), w64_id (n := 8 - _) (by omega) (by omega), decide_eq_false (by split <;> omega)]
      rfl
  have hm : u * 10 ^ (8 - (nDigits u - 1)) ≤ 9223372036854775807 := by
    by_cases h : nDigits u - 1 ≤ 8
    · have := mul_pow_lt (u := u) (j := 8 - (nDigits u - 1)) (by omega); omega
    · rw [show 8 - (nDigits u - 1) = 0 by omega]; simpa using hu
  have s3 : loopM (fun s : (Int × Int) => m_impl_LogDb_B9 ⟨(Lib.itoa (u : Int)).toArray⟩ s.1 s.2) (((u * 10 ^ (8 - (nDigits u - 1)) : Nat) : Int), (0 : Int)) = some (scaleT u : Int) := by
    unfold scaleT
    generalize u * 10 ^ (8 - (nDigits u - 1)) = m at *
    have := loop_for (body := fun s : (Int × Int) => m_impl_LogDb_B9 ⟨(Lib.itoa (u : Int)).toArray⟩ s.1 s.2) (r := ((m / 10 ^ (nDigits u - 1 - 8) : Nat) : Int)) (nDigits u - 1 - 8) (fun k => (((m / 10 ^ k : Nat) : Int), (k : Int))) (fun k hk => ?_) ?_
    · simpa using this
    · have hle : m / 10 ^ k ≤ m := Nat.div_le_self _ _
      have hle2 : m / 10 ^ (k + 1) ≤ m := Nat.div_le_self _ _
      have t : (((m / 10 ^ k : Nat) : Int)).tdiv 10 = ((m / 10 ^ (k + 1) : Nat) : Int) := by
        rw [Nat.pow_succ, ← Nat.div_div_eq_div_mul]; generalize m / 10 ^ k = q; rw [Int.tdiv_eq_ediv_of_nonneg (by omega)]; omega
      simp only [m_impl_LogDb_B9, hsz]
      generalize m / 10 ^ (k + 1) = q2 at *
      generalize m / 10 ^ k = q1 at *
      rw [w64_id (n := (nDigits u : Int) - 1) (by omega) (by omega), w64_id (n := _ - 8) (by omega) (by omega), if_neg (by omega), decide_eq_true (by omega), cond_true, t, w64_id (by omega) (by omega), w64_id (by omega) (by omega)]
      rfl
    · simp only [m_impl_LogDb_B9, hsz]
      rw [w64_id (n := (nDigits u : Int) - 1) (by omega) (by omega), w64_id (n := _ - 8) (by omega) (by omega), decide_eq_false (by split <;> omega)]
      rfl
  have s4 : loopM (fun s : (Int × Int × Int) => m_impl_LogDb_B15 s.1 s.2.1 s.2.2) (((nDigits u - 1 : Nat) : Int), (scaleT u : Int), (0 : Int)) = some (lg u : Int) := by
    refine loop_for (body := fun s : (Int × Int × Int) => m_impl_LogDb_B15 s.1 s.2.1 s.2.2) (r := (lg u : Int)) 4 (fun k => (((logSt u k).1 : Int), ((logSt u k).2 : Int), (k : Int))) (fun k hk => ?_) ?_
    · obtain ⟨h, h2, h3⟩ := logSt_facts u k
      have ht := ten_facts h
      have hp : 10 ^ k * nDigits u ≤ 10 ^ 3 * 19 := Nat.mul_le_mul (Nat.pow_le_pow_right (by omega) (by omega)) hd19
      have g2 := mulT_lt h h
      have g4 := mulT_lt g2.1 g2.1
      have g5 := mulT_lt g4.1 h
      have e1 := implTimes (e := 0) (f := 0) h h (by omega) (by omega)
      have e2 := implTimes (e := 0 + 0 + (mulT (logSt u k).2 (logSt u k).2).2) (f := 0 + 0 + (mulT (logSt u k).2 (logSt u k).2).2) g2.1 g2.1 (by omega) (by omega)
      have e3 := fun e he => implTimes (e := e) (f := 0) g4.1 h he (by omega)
      have e4 := fun e he => implTimes (e := e) (f := e) g5.1 g5.1 he he
      simp only [m_impl_LogDb_B15]
      rw [decide_eq_true (by omega), cond_true, show ((0 : Int)) = ((0 : Nat) : Int) from rfl, e1, Option.bind_some, e2, Option.bind_some, e3 _ (by omega), Option.bind_some, e4 _ (by omega), Option.bind_some]
      simp only
      rw [w64_id (n := 10 * _) (by omega) (by omega)]
      have hx : (10 * ((logSt u k).1 : Int) + ((0 + 0 + (mulT (logSt u k).2 (logSt u k).2).2 + (0 + 0 + (mulT (logSt u k).2 (logSt u k).2).2) + (mulT (mulT (logSt u k).2 (logSt u k).2).1 (mulT (logSt u k).2 (logSt u k).2).1).2 + 0 + (mulT (mulT (mulT (logSt u k).2 (logSt u k).2).1 (mulT (logSt u k).2 (logSt u k).2).1).1 (logSt u k).2).2 + (0 + 0 + (mulT (logSt u k).2 (logSt u k).2).2 + (0 + 0 + (mulT (logSt u k).2 (logSt u k).2).2) + (mulT (mulT (logSt u k).2 (logSt u k).2).1 (mulT (logSt u k).2 (logSt u k).2).1).2 + 0 + (mulT (mulT (mulT (logSt u k).2 (logSt u k).2).1 (mulT (logSt u k).2 (logSt u k).2).1).1 (logSt u k).2).2) + (mulT (mulT (mulT (mulT (logSt u k).2 (logSt u k).2).1 (mulT (logSt u k).2 (logSt u k).2).1).1 (logSt u k).2).1 (mulT (mulT (mulT (logSt u k).2 (logSt u k).2).1 (mulT (logSt u k).2 (logSt u k).2).1).1 (logSt u k).2).1).2 : Nat) : Int)) = ((10 * (logSt u k).1 + (tenT (logSt u k).2).2 : Nat) : Int) := by
        unfold tenT; simp only; omega
      rw [hx, w64_id (by omega) (by omega), w64_id (by omega) (by omega)]
      rfl
    · rfl
  unfold m_impl_LogDb
  rw [decide_eq_false (by omega), cond_false, implDecimal (by omega) (by omega), Option.bind_some, s2, Option.bind_some, s3, Option.bind_some, hsz, w64_id (by omega) (by omega), show (nDigits u : Int) - 1 = ((nDigits u - 1 : Nat) : Int) by omega, s4, Option.bind_some]

/-! ### binary search -/
def bs (ok : Nat → Bool) (lo hi : Nat) : Nat := if lo < hi then (if ok ((lo + hi) / 2) then bs ok lo ((lo + hi) / 2) else bs ok ((lo + hi) / 2 + 1) hi) else lo
termination_by hi - lo
decreasing_by all_goals omega
theorem bs_loop {body : Int × Int → Option ((Int × Int) ⊕ Int)} {ok : Nat → Bool} {M : Nat} (hstep : ∀ lo hi : Nat, lo < hi → hi ≤ M → body ((lo : Int), (hi : Int)) = some (.inl (if ok ((lo + hi) / 2) then ((lo : Int), (((lo + hi) / 2 : Nat) : Int)) else ((((lo + hi) / 2 + 1 : Nat) : Int), (hi : Int)))))
    (hend : ∀ lo : Nat, lo ≤ M → body ((lo : Int), (lo : Int)) = some (.inr (lo : Int))) (lo hi : Nat) (hl : lo ≤ hi) (hh : hi ≤ M) : loopM body ((lo : Int), (hi : Int)) = some (bs ok lo hi : Int) := by
  have key : ∀ (n lo hi : Nat), hi - lo ≤ n → lo ≤ hi → hi ≤ M → loopM body ((lo : Int), (hi : Int)) = some (bs ok lo hi : Int) := by
    intro n
    induction n with
    | zero =>
      intro lo hi h1 h2 h3
      have e : lo = hi := by omega
      subst e
      unfold bs
      rw [if_neg (by omega)]
      exact loopM_inr (hend lo h3)
    | succ n ih =>
      intro lo hi h1 h2 h3
      by_cases hlt : lo < hi
      · have hs := hstep lo hi hlt h3
        unfold bs
        rw [if_pos hlt]
        by_cases hok : ok ((lo + hi) / 2) = true
        · rw [if_pos hok] at hs ⊢
          rw [loopM_inl hs]
          exact ih _ _ (by omega) (by omega) (by omega)
        · rw [if_neg hok] at hs ⊢
          rw [loopM_inl hs]
          exact ih _ _ (by omega) (by omega) (by omega)
      · have e : lo = hi := by omega
        subst e
        unfold bs
        rw [if_neg (by omega)]
        exact loopM_inr (hend lo h3)
  exact key _ lo hi (Nat.le_refl _) hl hh
theorem bs_le {ok : Nat → Bool} {c : Nat} (hc : ∀ m, c ≤ m → ok m = true) : ∀ (n lo hi : Nat), hi - lo ≤ n → lo ≤ c → bs ok lo hi ≤ c := by
  intro n
  induction n with
  | zero => intro lo hi h1 h2; unfold bs; rw [if_neg (by omega)]; exact h2
  | succ n ih =>
    intro lo hi h1 h2
    unfold bs
    by_cases hlt : lo < hi
    · rw [if_pos hlt]
      by_cases hok : ok ((lo + hi) / 2) = true
      · rw [if_pos hok]; exact ih _ _ (by omega) h2
      · rw [if_neg hok]
        refine ih _ _ (by omega) ?_
        by_cases h : c ≤ (lo + hi) / 2
        · exact absurd (hc _ h) hok
        · omega
    · rw [if_neg hlt]; exact h2
theorem bs_in {ok : Nat → Bool} : ∀ (n lo hi : Nat), hi - lo ≤ n → lo ≤ hi → lo ≤ bs ok lo hi ∧ bs ok lo hi ≤ hi := by
  intro n
  induction n with
  | zero => intro lo hi h1 h2; unfold bs; rw [if_neg (by omega)]; omega
  | succ n ih =>
    intro lo hi h1 h2
    unfold bs
    by_cases hlt : lo < hi
    · rw [if_pos hlt]
      by_cases hok : ok ((lo + hi) / 2) = true
      · rw [if_pos hok]; have := ih lo ((lo + hi) / 2) (by omega) (by omega); omega
      · rw [if_neg hok]; have := ih ((lo + hi) / 2 + 1) hi (by omega) (by omega); omega
    · rw [if_neg hlt]; omega

/-! ### the power -/
def pw (v : Nat) : Nat := bs (fun m => decide (v ≤ lg m)) 1 1000000000000000000
theorem pw_pos (v : Nat) : 1 ≤ pw v ∧ pw v ≤ 1000000000000000000 := bs_in _ _ _ (Nat.le_refl _) (by omega)
theorem pw_le {v d : Nat} (h : v ≤ 10000 * d) : pw v ≤ 10 ^ d := by
  refine bs_le (fun m hm => ?_) _ _ _ (Nat.le_refl _) (Nat.one_le_pow _ _ (by omega))
  have h1 := nd_gt hm
  have h2 := (lg_bounds m).2
  simp only [decide_eq_true_eq]
  omega
theorem specPow (v : Nat) : m_spec_l02Pow (v : Int) = some (pw v : Int) := by
  have := bs_loop (body := fun s : (Int × Int) => m_spec_l02Pow_B2 (v : Int) s.1 s.2) (ok := fun m => decide (v ≤ lg m)) (M := 1000000000000000000) (fun lo hi h1 h2 => ?_) (fun lo h1 => ?_) 1 1000000000000000000 (by omega) (by omega)
  · unfold m_spec_l02Pow
    show (loopM (fun s : (Int × Int) => m_spec_l02Pow_B2 (v : Int) s.1 s.2) (((1 : Nat) : Int), ((1000000000000000000 : Nat) : Int))).bind _ = _
    rw [this]
    rfl
  · have t : ((lo : Int) + (hi : Int)).tdiv 2 = (((lo + hi) / 2 : Nat) : Int) := by rw [Int.tdiv_eq_ediv_of_nonneg (by omega)]; omega
    simp only [m_spec_l02Pow_B2]
    rw [decide_eq_true (by omega), cond_true, w64_id (n := (lo : Int) + (hi : Int)) (by omega) (by omega), t, w64_id (n := (((lo + hi) / 2 : Nat) : Int)) (by omega) (by omega), specLog (by omega), Option.bind_some, w64_id (by omega) (by omega)]
    by_cases h : v ≤ lg ((lo + hi) / 2)
    · rw [decide_eq_true (by omega)]; simp [h]
    · rw [decide_eq_false (by omega)]; simp [h]
  · simp only [m_spec_l02Pow_B2]
    rw [decide_eq_false (by omega)]
    rfl
theorem implPow {v : Nat} (hv : v ≤ 180000) : m_impl_PowDb (v : Int) = some (pw v : Int) := by
  have := bs_loop (body := fun s : (Int × Int) => m_impl_PowDb_B3 (v : Int) s.1 s.2) (ok := fun m => decide (v ≤ lg m)) (M := 1000000000000000000) (fun lo hi h1 h2 => ?_) (fun lo h1 => ?_) 1 1000000000000000000 (by omega) (by omega)
  · unfold m_impl_PowDb
    rw [within_eq, Option.bind_some, decide_eq_true (by omega), Bool.not_true, cond_false]
    show (loopM (fun s : (Int × Int) => m_impl_PowDb_B3 (v : Int) s.1 s.2) (((1 : Nat) : Int), ((1000000000000000000 : Nat) : Int))).bind _ = _
    rw [this]
    rfl
  · have t : ((hi : Int) - (lo : Int)).tdiv 2 = (((lo + hi) / 2 : Nat) : Int) - (lo : Int) := by rw [Int.tdiv_eq_ediv_of_nonneg (by omega)]; omega
    simp only [m_impl_PowDb_B3]
    rw [decide_eq_true (by omega), cond_true, w64_id (n := (hi : Int) - (lo : Int)) (by omega) (by omega), t, w64_id (n := (((lo + hi) / 2 : Nat) : Int) - (lo : Int)) (by omega) (by omega), show (lo : Int) + ((((lo + hi) / 2 : Nat) : Int) - (lo : Int)) = (((lo + hi) / 2 : Nat) : Int) by omega, w64_id (n := (((lo + hi) / 2 : Nat) : Int)) (by omega) (by omega), implLog (by omega), Option.bind_some, w64_id (by omega) (by omega)]
    by_cases h : v ≤ lg ((lo + hi) / 2)
    · rw [decide_eq_true (by omega)]; simp [h]
    · rw [decide_eq_false (by omega)]; simp [h]
  · simp only [m_impl_PowDb_B3]
    rw [decide_eq_false (by omega)]
    rfl
end Go.Wk
