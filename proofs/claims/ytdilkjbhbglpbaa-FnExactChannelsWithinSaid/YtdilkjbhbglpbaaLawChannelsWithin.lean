/-
  Plain law: ChannelsWithin. No program in sight. Our own work.
-/
import Derived.Test.YtdilkjbhbglpbaaLawBandOk
import Derived.Test.YtdilkjbhbglpbaaLawMark
import Derived.Test.YtdilkjbhbglpbaaPlainD
namespace Go.Wk
open Go Go.RowKit

def bandIn (a : GBand) (low high : Int) (k : Nat) : Bool := decide (low ≤ a.Low + (k : Int) * a.Raster) && decide (a.Low + ((k : Int) + 1) * a.Raster ≤ high)
def bandChs (a : GBand) (low high : Int) : List Int := ((List.range' 0 (bandN a).toNat).filter (bandIn a low high)).map fun (k : Nat) => (k : Int)

theorem band_mul (a : GBand) (h : bandNums a = true) (k : Nat) (hk : (k : Int) ≤ bandN a) : 0 ≤ (k : Int) * a.Raster ∧ (k : Int) * a.Raster ≤ a.High - a.Low := by
  have hq := bandNums_true h
  refine ⟨Int.mul_nonneg (by omega) (by omega), ?_⟩
  have h1 : (k : Int) * a.Raster ≤ bandN a * a.Raster := Int.mul_le_mul_of_nonneg_right hk (by omega)
  have e : bandN a = (a.High - a.Low) / a.Raster := Int.tdiv_eq_ediv_of_nonneg (by omega)
  have h2 := Int.mul_ediv_self_le (x := a.High - a.Low) (k := a.Raster) (by omega)
  rw [Int.mul_comm] at h2
  rw [e] at h1
  omega

theorem within_body (a : GBand) (low high : Int) (h : bandNums a = true) (k : Nat) (hk : (k : Int) < bandN a) :
    w64 (a.Low + w64 ((k : Int) * a.Raster)) = a.Low + (k : Int) * a.Raster ∧ w64 ((k : Int) + 1) = (((k + 1 : Nat)) : Int) ∧ w64 (a.Low + w64 (w64 ((k : Int) + 1) * a.Raster)) = a.Low + ((k : Int) + 1) * a.Raster := by
  have hq := bandNums_true h
  have h1 := band_mul a h k (by omega)
  have h2 := band_mul a h (k + 1) (by omega)
  have hn : bandN a ≤ 1000 := by unfold bandN; omega
  have e : (((k + 1 : Nat)) : Int) = (k : Int) + 1 := by omega
  rw [e] at h2
  refine ⟨?_, ?_, ?_⟩
  · rw [w64_id (n := (k : Int) * a.Raster) (by omega) (by omega), w64_id (by omega) (by omega)]
  · rw [w64_id (by omega) (by omega), e]
  · rw [w64_id (n := (k : Int) + 1) (by omega) (by omega), w64_id (n := ((k : Int) + 1) * a.Raster) (by omega) (by omega), w64_id (by omega) (by omega)]

theorem withinSpec_eq (a : GBand) (low high : Int) (h : bandNums a = true) : m_spec_l15Within a low high = some (bandChs a low high) := by
  have hq := bandNums_true h
  have hn : 1 ≤ bandN a ∧ bandN a ≤ 1000 := by unfold bandN; omega
  unfold m_spec_l15Within
  have := app_loop (bandN a).toNat 0 0 (bandIn a low high) (fun (k : Nat) => (k : Int)) (fun s : (Int × (List Int)) => m_spec_l15Within_B4 a low high s.1 s.2) [] (by omega) (by simp) (fun k _ hk acc hacc => ?_) (fun acc => ?_)
  · rw [Nat.sub_zero] at this
    exact (congrArg (fun o => Option.bind o fun x => some x) this).trans rfl
  · obtain ⟨e1, e2, e3⟩ := within_body a low high h k (by omega)
    have hlt : decide ((k : Int) < bandN a) = true := by simp; omega
    simp only [m_spec_l15Within_B4, countSpec_eq a h, Option.bind_some, hlt, cond_true, e1, e3]
    unfold bandIn
    cases h1 : decide (low ≤ a.Low + (k : Int) * a.Raster) with
    | false => simp only [cond_false, Option.bind_some, Bool.false_and, e2]; rfl
    | true =>
      simp only [cond_true, Option.bind_some, Bool.true_and]
      cases h2 : decide (a.Low + ((k : Int) + 1) * a.Raster ≤ high) with
      | false => simp only [cond_false, Option.bind_some, e2]; rfl
      | true =>
        rw [appL_of (by simp at hacc ⊢; omega)]
        simp only [cond_true, Option.bind_some, e2]; rfl
  · have e0 : (((bandN a).toNat : Nat) : Int) = bandN a := by omega
    rw [e0]
    have hlt : decide (bandN a < bandN a) = false := by simp
    simp only [m_spec_l15Within_B4, countSpec_eq a h, Option.bind_some, hlt, cond_false]
    rfl

theorem withinImpl_eq (a : GBand) (low high : Int) (h : bandNums a = true) : loopM (fun s : (Int × (List Int)) => m_impl_ChannelsWithin_B7 a low high (bandN a) s.1 s.2) ((0 : Int), ([] : (List Int))) = some (bandChs a low high) := by
  have hq := bandNums_true h
  have hn : 1 ≤ bandN a ∧ bandN a ≤ 1000 := by unfold bandN; omega
  have := app_loop (bandN a).toNat 0 0 (bandIn a low high) (fun (k : Nat) => (k : Int)) (fun s : (Int × (List Int)) => m_impl_ChannelsWithin_B7 a low high (bandN a) s.1 s.2) [] (by omega) (by simp) (fun k _ hk acc hacc => ?_) (fun acc => ?_)
  · rw [Nat.sub_zero] at this
    exact this
  · obtain ⟨e1, e2, e3⟩ := within_body a low high h k (by omega)
    have hlt : decide ((k : Int) < bandN a) = true := by simp; omega
    simp only [m_impl_ChannelsWithin_B7, m_impl_Band_begin, Option.bind_some, hlt, cond_true, e1, e3]
    unfold bandIn
    cases h1 : decide (low ≤ a.Low + (k : Int) * a.Raster) with
    | false => simp only [cond_false, Option.bind_some, Bool.false_and, e2]; rfl
    | true =>
      simp only [cond_true, Option.bind_some, Bool.true_and]
      cases h2 : decide (a.Low + ((k : Int) + 1) * a.Raster ≤ high) with
      | false => simp only [cond_false, Option.bind_some, e2]; rfl
      | true =>
        rw [appL_of (by simp at hacc ⊢; omega)]
        simp only [cond_true, Option.bind_some, e2]; rfl
  · have e0 : (((bandN a).toNat : Nat) : Int) = bandN a := by omega
    rw [e0]
    have hlt : decide (bandN a < bandN a) = false := by simp
    simp only [m_impl_ChannelsWithin_B7, hlt, cond_false]
    rfl

theorem channelsWithin_same (a : GBand) (low high : Int) : ∃ l c, m_spec_ChannelsWithin a low high = some (l, c) ∧ m_impl_ChannelsWithin a low high = some (l, c) ∧ l.length ≤ 1000 := by
  unfold m_spec_ChannelsWithin m_impl_ChannelsWithin
  simp only [okSpec_eq, okImpl_eq, Option.bind_some]
  cases hb : bandOk a with
  | false => exact ⟨[], 1, rfl, rfl, by simp⟩
  | true =>
    simp only [Bool.not_true, cond_false]
    cases h1 : decide (high < low) with
    | true => exact ⟨[], 2, rfl, rfl, by simp⟩
    | false =>
      have hb' := bandOk_nums hb
      have hq := bandNums_true hb'
      have hn : 1 ≤ bandN a ∧ bandN a ≤ 1000 := by unfold bandN; omega
      simp only [cond_false, countImpl_eq a hb', withinSpec_eq a low high hb', Option.bind_some, withinImpl_eq a low high hb']
      refine ⟨_, 0, rfl, rfl, ?_⟩
      unfold bandChs
      rw [List.length_map]
      refine Nat.le_trans (List.length_filter_le _ _) ?_
      rw [List.length_range']; omega

theorem law_FnExactChannelsWithin (a : GBand) (low high : Int) (k : okGBand a) (_ : (Lit.int .i64 low).wf = true) (_ : (Lit.int .i64 high).wf = true) : m_laws_FnExactChannelsWithin a low high = some true := by
  unfold m_laws_FnExactChannelsWithin
  obtain ⟨r, hr, hr1, hr2⟩ := szBand_eq a 1048576 (by omega) (by omega) k.1
  rw [hr, Option.bind_some]
  rcases hr2 with h | ⟨h, _⟩
  · rw [decide_eq_true h]; rfl
  · have hn : ¬ r < 0 := by omega
    rw [decide_eq_false hn, cond_false]
    obtain ⟨l, c, h1, h2, h3⟩ := channelsWithin_same a low high
    have hh := heldInt64S_eq l.length 1 (by omega) (by omega)
    simp only [toBand_eq, Option.bind_some, h1, h2, eqInt64S_eq l l (by omega), decide_true, Bool.not_true, cond_false, bne_self, markInt64S_eq l 1 (by omega) (by omega), hh, lt_false (show ¬ (1 + (l.length : Int) < 0) by omega)]
end Go.Wk
