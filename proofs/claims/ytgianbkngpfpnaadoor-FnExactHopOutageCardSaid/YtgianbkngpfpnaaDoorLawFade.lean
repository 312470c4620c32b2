/-
  Plain laws: the outage by fading. No program in sight. Our own work.
-/
import Derived.Test.YtgianbkngpfpnaaDoorLawLog
namespace Go.Wk
open Go Go.RowKit
open Go.Lib (nDigits decDigits)

theorem specMax (a b : Int) : m_spec_l00Max a b = some (if b < a then a else b) := by
  unfold m_spec_l00Max
  by_cases h : b < a
  · rw [decide_eq_true h, if_pos h]; rfl
  · rw [decide_eq_false h, if_neg h]; rfl
theorem specMin (a b : Int) : m_spec_l00Min a b = some (if a < b then a else b) := by
  unfold m_spec_l00Min
  by_cases h : a < b
  · rw [decide_eq_true h, if_pos h]; rfl
  · rw [decide_eq_false h, if_neg h]; rfl

def fadeX (f d c m : Nat) : Int := (lg c : Int) + (lg (max (f / 1000) 1) : Int) + 3 * (lg d : Int) - 142218 - (m : Int)
def fadeN (f d c m : Nat) : Nat := if fadeX f d c m < 0 then 0 else min (pw (fadeX f d c m).toNat) 1000000
theorem fadeN_le (f d c m : Nat) : fadeN f d c m ≤ 1000000 := by unfold fadeN; split <;> omega
theorem lg_le {u k : Nat} (h : u < 10 ^ k) (hk : 1 ≤ k) : lg u + 1 ≤ 10000 * k := by
  have h1 := nd_le h hk
  have h2 := (lg_bounds u).1
  omega
theorem fade_bounds {f d c : Nat} (hf : f ≤ 100000000) (hd : d ≤ 283000) (hc : c ≤ 400) : lg c ≤ 29999 ∧ lg (max (f / 1000) 1) ≤ 59999 ∧ lg d ≤ 59999 := by
  have h1 := lg_le (u := c) (k := 3) (by omega) (by omega)
  have h2 := lg_le (u := max (f / 1000) 1) (k := 6) (by omega) (by omega)
  have h3 := lg_le (u := d) (k := 6) (by omega) (by omega)
  omega
section
variable {f d c m : Nat} (hf : f ≤ 100000000) (hd : d ≤ 283000) (hc : c ≤ 400) (hm : m ≤ 100000)
include hf hd hc hm
theorem fade_arith : w64 (w64 (w64 (w64 ((lg c : Int) + (lg (max (f / 1000) 1) : Int)) + w64 (3 * (lg d : Int))) - 142218) - (m : Int)) = fadeX f d c m := by
  obtain ⟨h1, h2, h3⟩ := fade_bounds hf hd hc
  unfold fadeX
  generalize lg c = a at *
  generalize lg (max (f / 1000) 1) = b at *
  generalize lg d = e at *
  rw [w64_id (n := (a : Int) + (b : Int)) (by omega) (by omega), w64_id (n := 3 * (e : Int)) (by omega) (by omega), w64_id (n := (a : Int) + (b : Int) + 3 * (e : Int)) (by omega) (by omega), w64_id (n := (a : Int) + (b : Int) + 3 * (e : Int) - 142218) (by omega) (by omega), w64_id (by omega) (by omega)]
omit hm in
theorem fadeX_le : fadeX f d c m ≤ 180000 := by
  obtain ⟨h1, h2, h3⟩ := fade_bounds hf hd hc
  unfold fadeX; omega
theorem specFade : m_spec_l13Fade (f : Int) (d : Int) (c : Int) (m : Int) = some (fadeN f d c m : Int) := by
  have ht : ((f : Int)).tdiv 1000 = ((f / 1000 : Nat) : Int) := by rw [Int.tdiv_eq_ediv_of_nonneg (by omega)]; omega
  have hx : (if w64 ((f / 1000 : Nat) : Int) < 1 then (1 : Int) else w64 ((f / 1000 : Nat) : Int)) = ((max (f / 1000) 1 : Nat) : Int) := by
    rw [w64_id (by omega) (by omega)]; split <;> omega
  unfold m_spec_l13Fade
  rw [specLog (by omega), Option.bind_some, specMax, Option.bind_some, ht, hx, specLog (by omega), Option.bind_some, specLog (by omega), Option.bind_some, fade_arith hf hd hc hm]
  have hle := fadeX_le (m := m) hf hd hc
  unfold fadeN
  generalize fadeX f d c m = x at *
  by_cases h : x < 0
  · rw [decide_eq_true h, if_pos h]; rfl
  · rw [decide_eq_false h, if_neg h, cond_false]
    obtain ⟨n, rfl⟩ := Int.eq_ofNat_of_zero_le (show 0 ≤ x by omega)
    rw [specPow, Option.bind_some, specMin, Option.bind_some, Int.toNat_natCast]
    congr 1
    split <;> omega
theorem implFade : m_impl_outageOf (f : Int) (d : Int) (c : Int) (m : Int) = some (fadeN f d c m : Int) := by
  have ht : ((f : Int)).tdiv 1000 = ((f / 1000 : Nat) : Int) := by rw [Int.tdiv_eq_ediv_of_nonneg (by omega)]; omega
  have hx : (if (1 : Int) > w64 ((f / 1000 : Nat) : Int) then (1 : Int) else w64 ((f / 1000 : Nat) : Int)) = ((max (f / 1000) 1 : Nat) : Int) := by
    rw [w64_id (by omega) (by omega)]; split <;> omega
  unfold m_impl_outageOf
  rw [implLog (by omega), Option.bind_some, ht, hx, implLog (by omega), Option.bind_some, implLog (by omega), Option.bind_some, fade_arith hf hd hc hm]
  have hle := fadeX_le (m := m) hf hd hc
  unfold fadeN
  generalize fadeX f d c m = x at *
  by_cases h : x < 0
  · rw [decide_eq_true h, if_pos h]; rfl
  · rw [decide_eq_false h, if_neg h, cond_false]
    obtain ⟨n, rfl⟩ := Int.eq_ofNat_of_zero_le (show 0 ≤ x by omega)
    rw [implPow (by omega), Option.bind_some, Int.toNat_natCast]
    congr 1
    split <;> omega
end

/-- What both ask of a hop's frequency, length and climate. -/
def hopOk (f d c : Int) : Bool := decide ((1 ≤ f ∧ f ≤ 100000000) ∧ (1 ≤ d ∧ d ≤ 283000) ∧ (25 ≤ c ∧ c ≤ 400))
theorem specAsk3 (f d c : Int) (E : Option Bool) : ((m_spec_l09Frequency f).bind fun x2 => (bif (!x2) then some true else ((m_spec_l09Distance d).bind fun x4 => (bif (!x4) then some true else ((m_spec_l13Climate c).bind fun x6 => (bif (!x6) then some true else E)))))) = bif hopOk f d c then E else some true := by
  unfold m_spec_l09Frequency m_spec_l09Distance m_spec_l13Climate hopOk
  simp only [in_eq, Option.bind_some]
  by_cases h1 : 1 ≤ f ∧ f ≤ 100000000 <;> by_cases h2 : 1 ≤ d ∧ d ≤ 283000 <;> by_cases h3 : 25 ≤ c ∧ c ≤ 400 <;> simp [h1, h2, h3]
theorem implAsk3 (f d c : Int) : m_impl_fadingOk f d c = some (hopOk f d c) := by
  unfold m_impl_fadingOk m_impl_frequencyOk m_impl_distanceOk hopOk
  simp only [within_eq, Option.bind_some]
  by_cases h1 : 1 ≤ f ∧ f ≤ 100000000 <;> by_cases h2 : 1 ≤ d ∧ d ≤ 283000 <;> by_cases h3 : 25 ≤ c ∧ c ≤ 400 <;> simp [h1, h2, h3]
theorem hopOk_nat {f d c : Int} (h : hopOk f d c = true) : ∃ f' d' c' : Nat, f = f' ∧ d = d' ∧ c = c' ∧ f' ≤ 100000000 ∧ d' ≤ 283000 ∧ c' ≤ 400 ∧ 1 ≤ f' ∧ 1 ≤ d' := by
  unfold hopOk at h
  simp only [decide_eq_true_eq] at h
  obtain ⟨h1, h2, h3⟩ := h
  exact ⟨f.toNat, d.toNat, c.toNat, by omega, by omega, by omega, by omega, by omega, by omega, by omega, by omega⟩
end Go.Wk
