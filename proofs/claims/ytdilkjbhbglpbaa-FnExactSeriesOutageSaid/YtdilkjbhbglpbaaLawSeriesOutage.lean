/-
  Plain law: SeriesOutage. No program in sight. Our own work.
-/
import Derived.Test.YtdilkjbhbglpbaaLawOut
import Derived.Test.YtdilkjbhbglpbaaLawS
namespace Go.Wk
open Go Go.RowKit

def serIt : Int → List Int → Int
  | v, [] => v
  | v, x :: l => serIt ((v * (1000000 - x)).tdiv 1000000) l
theorem ser_loop (body : Int × Int → Option ((Int × Int) ⊕ Int)) (l : List Int) (hx : ∀ (k : Nat) (hk : k < l.length), 0 ≤ l[k] ∧ l[k] ≤ 1000000)
    (hstep : ∀ (k : Nat) (hk : k < l.length) (v : Int), 0 ≤ v → v ≤ 1000000 → body (v, (k : Int)) = some (.inl ((v * (1000000 - l[k])).tdiv 1000000, ((k + 1 : Nat) : Int)))) (hend : ∀ v, body (v, (l.length : Int)) = some (.inr v)) :
    loopM body (1000000, 0) = some (serIt 1000000 l) := by
  have key : ∀ (n : Nat) (k : Nat) (v : Int), k + n = l.length → 0 ≤ v → v ≤ 1000000 → loopM body (v, (k : Int)) = some (serIt v (l.drop k)) := by
    intro n
    induction n with
    | zero =>
      intro k v hk _ _
      have e : k = l.length := by omega
      subst e
      rw [List.drop_length]
      exact loopM_inr (hend v)
    | succ n ih =>
      intro k v hk h0 h1
      have hk' : k < l.length := by omega
      have hxk := hx k hk'
      rw [loopM_inl (hstep k hk' v h0 h1), List.drop_eq_getElem_cons hk', serIt]
      have hm : 0 ≤ v * (1000000 - l[k]) := Int.mul_nonneg h0 (by omega)
      have hm2 : v * (1000000 - l[k]) ≤ 1000000 * 1000000 := Int.mul_le_mul h1 (by omega) (by omega) (by omega)
      have ht := tdiv_split (v * (1000000 - l[k])) (b := 1000000) (by omega)
      exact ih (k + 1) _ (by omega) (by omega) (by omega)
  exact key l.length 0 1000000 (by omega) (by omega) (by omega)
theorem series_same (l : List Int) : m_impl_seriesOutage l = m_spec_l13Series l := rfl
theorem series_some (l : List Int) (h64 : l.length ≤ 64) (hx : ∀ (k : Nat) (hk : k < l.length), 0 ≤ l[k] ∧ l[k] ≤ 1000000) : ∃ r, m_spec_l13Series l = some r := by
  have s1 : loopM (fun s : (Int × Int) => m_spec_l13Series_B2 l s.1 s.2) ((1000000 : Int), (0 : Int)) = some (serIt 1000000 l) := by
    refine ser_loop _ l hx (fun k hk v h0 h2 => ?_) (fun v => ?_)
    · have hxk := hx k hk
      have hm : 0 ≤ v * (1000000 - l[k]) := Int.mul_nonneg h0 (by omega)
      have hm2 : v * (1000000 - l[k]) ≤ 1000000 * 1000000 := Int.mul_le_mul h2 (by omega) (by omega) (by omega)
      simp only [m_spec_l13Series_B2, lt_true hk, cond_true, idx_lt_nat hk, Option.bind_some]
      rw [w64_id (n := 1000000 - l[k]) (by omega) (by omega), w64_id (n := v * (1000000 - l[k])) (by omega) (by omega)]
      have ht := tdiv_split (v * (1000000 - l[k])) (b := 1000000) (by omega)
      rw [w64_id (n := Int.tdiv _ _) (by omega) (by omega), w64_id (n := (k : Int) + 1) (by omega) (by omega)]
      rfl
    · simp only [m_spec_l13Series_B2, lt_self, cond_false, Option.map_some]
  unfold m_spec_l13Series
  rw [s1]
  exact ⟨_, rfl⟩

theorem law_FnExactSeriesOutage (l : List Int) : m_laws_FnExactSeriesOutage l = some true := by
  unfold m_laws_FnExactSeriesOutage
  by_cases h1 : (1048576 : Int) < (l.length : Int)
  · rw [decide_eq_true h1]; rfl
  rw [decide_eq_false h1]
  have hl : l.length ≤ 1048576 := by omega
  simp only [cond_false, toInt64S_eq l hl, Option.bind_some, eqInt64S_eq l l (by omega), m_spec_SeriesOutage, m_impl_SeriesOutage, askSpec_eq, codeImpl_eq, series_same]
  by_cases hc : outCode l = 0
  · have e : (outCode l != 0) = false := by simp [hc]
    obtain ⟨h64, hx⟩ := outCode_zero hc
    obtain ⟨r, hr⟩ := series_some l h64 hx
    simp only [e, cond_false, hr, Option.bind_some, bne_self, decide_true, Bool.not_true]
  · have e : (outCode l != 0) = true := by simp [hc]
    simp only [e, cond_true, Option.bind_some, bne_self, cond_false, decide_true, Bool.not_true]
end Go.Wk
