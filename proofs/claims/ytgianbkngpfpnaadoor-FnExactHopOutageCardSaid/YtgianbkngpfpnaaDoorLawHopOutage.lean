/-
  Plain law: HopOutage. No program in sight. Our own work.
-/
import Derived.Test.YtgianbkngpfpnaaDoorLawRainOutage
namespace Go.Wk
open Go Go.RowKit

theorem series_two {a b : Int} (ha : 0 ≤ a ∧ a ≤ 1000000) (hb : 0 ≤ b ∧ b ≤ 1000000) : ∃ r, m_spec_l13Series [a, b] = some r ∧ m_impl_seriesOutage [a, b] = some r := by
  have same : m_impl_seriesOutage [a, b] = m_spec_l13Series [a, b] := rfl
  have i0 : idx [a, b] (((0 : Nat) : Int)) = some a := rfl
  have i1 : idx [a, b] (((1 : Nat) : Int)) = some b := rfl
  have hl : (([a, b] : List Int).length : Int) = 2 := rfl
  have : ∃ v, loopM (fun s : (Int × Int) => m_spec_l13Series_B2 [a, b] s.1 s.2) ((1000000 : Int), (0 : Int)) = some v := by
    refine ⟨w64 ((w64 ((w64 ((w64 (1000000 * (w64 (1000000 - a)))).tdiv 1000000)) * (w64 (1000000 - b)))).tdiv 1000000), ?_⟩
    rw [loopM_inl (s' := (w64 ((w64 (1000000 * (w64 (1000000 - a)))).tdiv 1000000), ((1 : Nat) : Int))) (by
      show m_spec_l13Series_B2 [a, b] 1000000 ((0 : Nat) : Int) = _
      simp only [m_spec_l13Series_B2, hl]
      rw [decide_eq_true (by omega), cond_true, i0, Option.bind_some, w64_id (n := ((0 : Nat) : Int) + 1) (by omega) (by omega)]
      rfl)]
    rw [loopM_inl (s' := (w64 ((w64 ((w64 ((w64 (1000000 * (w64 (1000000 - a)))).tdiv 1000000)) * (w64 (1000000 - b)))).tdiv 1000000), ((2 : Nat) : Int))) (by
      simp only [m_spec_l13Series_B2, hl]
      rw [decide_eq_true (by omega), cond_true, i1, Option.bind_some, w64_id (n := ((1 : Nat) : Int) + 1) (by omega) (by omega)]
      rfl)]
    refine loopM_inr ?_
    simp only [m_spec_l13Series_B2, hl]
    rw [decide_eq_false (by omega)]
    rfl
  obtain ⟨v, hv⟩ := this
  have h : ∃ r, m_spec_l13Series [a, b] = some r := ⟨_, by unfold m_spec_l13Series; rw [hv]; rfl⟩
  obtain ⟨r, hr⟩ := h
  exact ⟨r, hr, same.trans hr⟩

theorem law_FnExactHopOutage (f d c m : Int) : m_laws_FnExactHopOutage f d c m = some true := by
  unfold m_laws_FnExactHopOutage m_spec_HopOutage m_impl_HopOutage m_spec_l13Margin m_impl_marginOk
  rw [specAsk3, implAsk3, Option.bind_some]
  simp only [in_eq, within_eq, Option.bind_some]
  cases hh : hopOk f d c
  · simp only [cond_false, Bool.not_false, cond_true, Option.bind_some, bne_self]
  · simp only [cond_true, Bool.not_true, cond_false]
    by_cases hm : 0 ≤ m ∧ m ≤ 100000
    · obtain ⟨f', d', c', rfl, rfl, rfl, hf, hd, hc, _⟩ := hopOk_nat hh
      obtain ⟨m', rfl⟩ := Int.eq_ofNat_of_zero_le hm.1
      obtain ⟨r, r0, r1, rs, ri⟩ := rainOut_both (f := f') (d := d') (m := (m' : Int)) hf hd
      have hl := fadeN_le f' d' c' m'
      obtain ⟨s, ss, si⟩ := series_two (a := (fadeN f' d' c' m' : Int)) (b := r) (by omega) (by omega)
      have hs : m_spec_l13Hop (f' : Int) (d' : Int) (c' : Int) (m' : Int) = some s := by
        unfold m_spec_l13Hop
        rw [specFade hf hd hc (show m' ≤ 100000 by omega), Option.bind_some, rs, Option.bind_some, ss]; rfl
      have hi : m_impl_hopOutage (f' : Int) (d' : Int) (c' : Int) (m' : Int) = some s := by
        unfold m_impl_hopOutage
        rw [implFade hf hd hc (show m' ≤ 100000 by omega), Option.bind_some, ri, Option.bind_some, si]; rfl
      simp only [decide_eq_true hm, Bool.not_true, cond_false, Option.bind_some, hs, hi, bne_self]
    · simp only [decide_eq_false hm, Bool.not_false, cond_true, Option.bind_some, bne_self, cond_false]
end Go.Wk
