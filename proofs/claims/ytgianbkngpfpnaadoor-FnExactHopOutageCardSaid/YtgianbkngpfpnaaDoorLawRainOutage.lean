/-
  Plain law: RainOutage. No program in sight. Our own work.
-/
import Derived.Test.YtgianbkngpfpnaaDoorLawRain
namespace Go.Wk
open Go Go.RowKit

def exP : List Int := [(0 : Int), (8 : Int), (30 : Int), (60 : Int), (100 : Int), (150 : Int), (200 : Int)]
def exV : List Int := [(50000 : Int), (10000 : Int), (1000 : Int), (100 : Int), (10 : Int), (1 : Int), (0 : Int)]
theorem fitE : TabFit exP exV 0 50000 := fit_of (by decide) (by decide)
theorem ex_row {k : Nat} (hk : k < 7) : idx (rowsOf exP exV) (k : Int) = some [exP.getD k 0, exV.getD k 0] := rowsOf_idx (P := exP) (V := exV) rfl hk
theorem exceed_both {x : Nat} (hx : x ≤ 200) : ∃ r, 0 ≤ r ∧ r ≤ 50000 ∧ m_spec_l13Exceed (x : Int) = some r ∧ m_impl_exceedanceOf (x : Int) = some r := by
  obtain ⟨K, h1, h2, h3, h4⟩ := seg_exists (fun k => exP.getD k 0) (x : Int) _ 1 6 rfl (by omega)
  have hb := line_between (x0 := exP.getD (K - 1) 0) (x1 := exP.getD K 0) (x := (x : Int)) fitE.lohi (fitE.vs (K - 1) (by show _ < 7; omega)) (fitE.vs K (by show _ < 7; omega))
  refine ⟨_, hb.1, hb.2, ?_, ?_⟩
  · unfold m_spec_l13Exceed
    show ((m_spec_l11Table (x : Int) exP exV).bind fun x1 => some x1) = _
    rw [tab_spec fitE (by unfold Small; omega) h1 h2 h3 h4]
    rfl
  · have f0 : ∀ a b : Int, idx [a, b] (0 : Int) = some a := fun _ _ => rfl
    have f1 : ∀ a b : Int, idx [a, b] (1 : Int) = some b := fun _ _ => rfl
    have bd : ∀ k : Int, m_impl_exceedanceOf_B4 (x : Int) k = (((bif (decide (k < (6 : Int))) then ((idx (rowsOf exP exV) k).bind fun x9 => ((idx x9 (0 : Int)).bind fun x10 => some (decide (x10 < (x : Int))))) else some false) : Option Bool).bind fun x7 => (bif x7 then some (Sum.inl (w64 (k + (1 : Int)))) else Option.map Sum.inr (some k))) := fun _ => rfl
    have lp : loopM (fun s : Int => m_impl_exceedanceOf_B4 (x : Int) s) (1 : Int) = some (K : Int) := by
      refine seg_loop (p := fun k => exP.getD k 0) (x := (x : Int)) (last := 6) h1 h2 h3 (fun k a b c => ?_) ?_
      · simp only [bd]
        rw [decide_eq_true (by omega), cond_true, ex_row (by omega), Option.bind_some, f0, Option.bind_some, decide_eq_true c, Option.bind_some, cond_true, w64_id (by omega) (by omega)]
        rfl
      · simp only [bd]
        by_cases hK : K = 6
        · rw [decide_eq_false (by omega), cond_false, Option.bind_some, cond_false]; rfl
        · have hx := h4.resolve_left hK
          rw [decide_eq_true (by omega), cond_true, ex_row (by omega), Option.bind_some, f0, Option.bind_some, decide_eq_false (by omega), Option.bind_some, cond_false]
          rfl
    have um : m_impl_exceedanceOf (x : Int) = (((loopM (fun s : Int => m_impl_exceedanceOf_B4 (x : Int) s) (1 : Int)) : Option Int).bind fun x3 => ((idx (rowsOf exP exV) (w64 (x3 - (1 : Int)))).bind fun x13 => ((idx x13 (0 : Int)).bind fun x14 => ((idx (rowsOf exP exV) (w64 (x3 - (1 : Int)))).bind fun x15 => ((idx x15 (1 : Int)).bind fun x16 => ((idx (rowsOf exP exV) x3).bind fun x17 => ((idx x17 (0 : Int)).bind fun x18 => ((idx (rowsOf exP exV) x3).bind fun x19 => ((idx x19 (1 : Int)).bind fun x20 => ((m_impl_blend x14 x16 x18 x20 (x : Int)).bind fun x21 => some x21)))))))))) := rfl
    rw [um, lp, Option.bind_some, w64_id (n := (K : Int) - 1) (by omega) (by omega), show (K : Int) - 1 = ((K - 1 : Nat) : Int) by omega]
    rw [ex_row (by omega), ex_row (by omega)]
    simp only [Option.bind_some, f0, f1]
    rw [blend_eq _ _ _ _ _ (fitE.ps _ (by show _ < 7; omega)) (by have := fitE.vs (K - 1) (by show _ < 7; omega); unfold Small; omega) (fitE.ps _ (by show _ < 7; omega)) (by have := fitE.vs K (by show _ < 7; omega); unfold Small; omega) (by unfold Small; omega)]
    rfl

/-- Both search the rates of rain from below. -/
theorem rainOut_both {f d : Nat} {m : Int} (hf : f ≤ 100000000) (hd : d ≤ 283000) : ∃ r, 0 ≤ r ∧ r ≤ 1000000 ∧ m_spec_l13Rain (f : Int) (d : Int) m = some r ∧ m_impl_rainOutage (f : Int) (d : Int) m = some r := by
  have key : ∀ (n k : Nat), k + n = 201 → ∃ r, 0 ≤ r ∧ r ≤ 1000000 ∧ loopM (fun s : Int => m_spec_l13Rain_B1 (f : Int) (d : Int) m s) (k : Int) = some r ∧ ((loopM (fun s : Int => m_impl_least_B1 200 (fun x => m_impl_rainOutage_1 x (f : Int) (d : Int) m) s) (k : Int)).bind fun x1 => (bif (!x1.2) then some (0 : Int) else ((m_impl_exceedanceOf x1.1).bind fun x2 => some x2))) = some r := by
    intro n
    induction n with
    | zero =>
      intro k hk
      refine ⟨0, by omega, by omega, loopM_inr ?_, ?_⟩
      · simp only [m_spec_l13Rain_B1]
        rw [decide_eq_false (by omega)]; rfl
      · rw [loopM_inr (r := ((0 : Int), false)) (by simp only [m_impl_least_B1]; rw [decide_eq_false (by omega)]; rfl)]
        rfl
    | succ n ih =>
      intro k hk
      obtain ⟨x, xs, xi⟩ := wet_both (rain := k) hf (by omega) hd
      by_cases h : m < x
      · obtain ⟨r, r0, r1, rs, ri⟩ := exceed_both (x := k) (by omega)
        refine ⟨r, r0, by omega, loopM_inr ?_, ?_⟩
        · simp only [m_spec_l13Rain_B1]
          rw [decide_eq_true (by omega), cond_true, xs, Option.bind_some, decide_eq_true h, cond_true, rs]; rfl
        · rw [loopM_inr (r := ((k : Int), true)) (by simp only [m_impl_least_B1, m_impl_rainOutage_1]; rw [decide_eq_true (by omega), cond_true, xi, Option.bind_some, decide_eq_true h]; rfl)]
          rw [Option.bind_some, Bool.not_true, cond_false, ri]; rfl
      · obtain ⟨r, r0, r1, h1, h2⟩ := ih (k + 1) (by omega)
        refine ⟨r, r0, r1, ?_, ?_⟩
        · rw [loopM_inl (s' := ((k + 1 : Nat) : Int)) (by simp only [m_spec_l13Rain_B1]; rw [decide_eq_true (by omega), cond_true, xs, Option.bind_some, decide_eq_false h, cond_false, w64_id (by omega) (by omega)]; rfl)]
          exact h1
        · rw [loopM_inl (s' := ((k + 1 : Nat) : Int)) (by simp only [m_impl_least_B1, m_impl_rainOutage_1]; rw [decide_eq_true (by omega), cond_true, xi, Option.bind_some, decide_eq_false h, Option.bind_some, cond_false, w64_id (by omega) (by omega)]; rfl)]
          exact h2
  obtain ⟨r, r0, r1, h1, h2⟩ := key 201 0 rfl
  refine ⟨r, r0, r1, h1, ?_⟩
  unfold m_impl_rainOutage m_impl_least
  exact h2

theorem law_FnExactRainOutage (f d m : Int) : m_laws_FnExactRainOutage f d m = some true := by
  unfold m_laws_FnExactRainOutage m_spec_RainOutage m_impl_RainOutage m_spec_l09Frequency m_spec_l09Distance m_spec_l13Margin m_impl_frequencyOk m_impl_distanceOk m_impl_marginOk
  simp only [in_eq, within_eq, Option.bind_some]
  by_cases h1 : 1 ≤ f ∧ f ≤ 100000000
  · by_cases h2 : 1 ≤ d ∧ d ≤ 283000
    · by_cases h3 : 0 ≤ m ∧ m ≤ 100000
      · obtain ⟨f', rfl⟩ := Int.eq_ofNat_of_zero_le (show 0 ≤ f by omega)
        obtain ⟨d', rfl⟩ := Int.eq_ofNat_of_zero_le (show 0 ≤ d by omega)
        obtain ⟨r, _, _, rs, ri⟩ := rainOut_both (f := f') (d := d') (m := m) (by omega) (by omega)
        simp only [decide_eq_true h1, decide_eq_true h2, decide_eq_true h3, Bool.not_true, cond_false, Option.bind_some, rs, ri, bne_self]
      · simp only [decide_eq_true h1, decide_eq_true h2, decide_eq_false h3, Bool.not_true, cond_false, Bool.not_false, cond_true, Option.bind_some, bne_self]
    · simp only [decide_eq_true h1, decide_eq_false h2, Bool.not_true, cond_false, Bool.not_false, cond_true, Option.bind_some, bne_self]
  · simp only [decide_eq_false h1, Bool.not_false, cond_true, Option.bind_some, bne_self, cond_false]
end Go.Wk
