/-
  Plain laws: the outage by rain. No program in sight. Our own work.
-/
import Derived.Test.YtgianbkngpfpnaaDoorLawSeg
import Derived.Test.YtgianbkngpfpnaaDoorLawFade
import Derived.Test.YtgianbkngpfpnaaDoorPlainB
namespace Go.Wk
open Go Go.RowKit

/-- Rows of two numbers. -/
def rowsOf (P V : List Int) : List (List Int) := P.zipWith (fun a b => [a, b]) V
theorem rowsOf_len {P V : List Int} (h : V.length = P.length) : (rowsOf P V).length = P.length := by unfold rowsOf; simp [h]
theorem rowsOf_idx {P V : List Int} (h : V.length = P.length) {k : Nat} (hk : k < P.length) : idx (rowsOf P V) (k : Int) = some [P.getD k 0, V.getD k 0] := by
  have hk2 : k < (rowsOf P V).length := by rw [rowsOf_len h]; exact hk
  rw [idx_lt_nat hk2]
  have e : (rowsOf P V)[k] = [P[k], V[k]'(by omega)] := by unfold rowsOf; exact List.getElem_zipWith
  rw [e]
  simp [hk, h]
theorem idx_D {P : List Int} {k : Nat} (hk : k < P.length) : idx P (k : Int) = some (P.getD k 0) := by rw [idx_lt_nat hk]; simp [hk]

/-- What is asked of a table. -/
structure TabFit (P V : List Int) (lo hi : Int) : Prop where
  len : V.length = P.length
  two : 2 ≤ P.length
  many : P.length ≤ 1000000
  ps : ∀ k, k < P.length → Small (P.getD k 0)
  vs : ∀ k, k < P.length → lo ≤ V.getD k 0 ∧ V.getD k 0 ≤ hi
  lohi : -300000000 ≤ lo ∧ hi ≤ 300000000
  up : ∀ i j, i < j → j < P.length → P.getD i 0 < P.getD j 0

theorem tab_spec {P V : List Int} {lo hi x : Int} (h : TabFit P V lo hi) (hx : Small x) {K : Nat} (h1 : 1 ≤ K) (h2 : K ≤ P.length - 1) (h3 : ∀ j, 1 ≤ j → j < K → P.getD j 0 < x) (h4 : K = P.length - 1 ∨ x ≤ P.getD K 0) :
    m_spec_l11Table x P V = some (lineN (P.getD (K - 1) 0) (V.getD (K - 1) 0) (P.getD K 0) (V.getD K 0) x) := by
  obtain ⟨len, two, many, ps, vs, lohi, up⟩ := h
  have sm : ∀ k, k < P.length → Small (V.getD k 0) := fun k hk => by have := vs k hk; unfold Small; omega
  have el : w64 ((P.length : Int) - 1) = ((P.length - 1 : Nat) : Int) := by rw [w64_id (by omega) (by omega)]; omega
  have st : ∀ k : Nat, 1 ≤ k → k ≤ P.length - 1 → P.getD k 0 < x → m_spec_l11Table_B3 x P V (k : Int) = some (.inl ((k + 1 : Nat) : Int)) := by
    intro k hk1 hk2 hkx
    simp only [m_spec_l11Table_B3, el]
    rw [decide_eq_true (by omega), cond_true, idx_D (by omega), Option.bind_some, decide_eq_false (by omega), cond_false, w64_id (by omega) (by omega)]
    rfl
  unfold m_spec_l11Table
  have i0 : idx P 0 = some (P.getD 0 0) := idx_D (k := 0) (by omega)
  have i1 : idx V 0 = some (V.getD 0 0) := idx_D (k := 0) (by omega)
  rw [i0, Option.bind_some, i1]
  by_cases h0 : x ≤ P.getD 0 0
  · rw [decide_eq_true h0, cond_true, Option.bind_some]
    have hK : K = 1 ∨ 2 ≤ K := by omega
    rcases hK with rfl | hK
    · unfold lineN; rw [if_pos (.inl h0)]
    · -- the first place is not below x, the second is: the rows fall; the line begins beyond
      have := h3 1 (Nat.le_refl _) (by omega)
      have := up 0 1 (by omega) (by omega)
      omega
  · rw [decide_eq_false h0, cond_false]
    by_cases hxK : x ≤ P.getD K 0
    · refine seg_loop (p := fun k => P.getD k 0) (x := x) (last := P.length - 1) h1 h2 h3 (fun k a b c => st k a (by omega) c) ?_
      simp only [m_spec_l11Table_B3, el]
      rw [decide_eq_true (by omega), cond_true, idx_D (by omega), Option.bind_some, decide_eq_true hxK, cond_true]
      rw [w64_id (n := (K : Int) - 1) (by omega) (by omega), show (K : Int) - 1 = ((K - 1 : Nat) : Int) by omega, idx_D (by omega), Option.bind_some, idx_D (by omega), Option.bind_some, Option.bind_some, idx_D (by omega), Option.bind_some]
      rw [line_eq _ _ _ _ _ (ps _ (by omega)) (sm _ (by omega)) (ps _ (by omega)) (sm _ (by omega)) hx]
      rfl
    · have hKl : K = P.length - 1 := h4.resolve_right hxK
      have := loop_for (body := fun s : Int => m_spec_l11Table_B3 x P V s) (r := V.getD (P.length - 1) 0) K (fun k => ((k + 1 : Nat) : Int)) (fun k hk => ?_) ?_
      · simp only [Nat.zero_add] at this
        rw [show ((1 : Nat) : Int) = 1 from rfl] at this
        rw [this]
        unfold lineN
        rw [hKl] at hxK ⊢
        have := up (P.length - 1 - 1) (P.length - 1) (by omega) (by omega)
        rw [if_neg (by omega), if_pos (by omega)]
      · refine st (k + 1) (by omega) (by omega) ?_
        by_cases e : k + 1 = K
        · rw [e]; omega
        · exact h3 _ (by omega) (by omega)
      · simp only [m_spec_l11Table_B3, el]
        rw [decide_eq_false (by omega), cond_false, idx_D (by omega)]
        rfl
theorem tab_rows {P V : List Int} {lo hi : Int} {f : Nat} (h : TabFit P V lo hi) (hf : f ≤ 100000000) {K : Nat} (h1 : 1 ≤ K) (h2 : K ≤ P.length - 1) (h3 : ∀ j, 1 ≤ j → j < K → P.getD j 0 < ((f / 1000 : Nat) : Int)) (h4 : K = P.length - 1 ∨ ((f / 1000 : Nat) : Int) ≤ P.getD K 0) :
    m_impl_rowsAt (rowsOf P V) (f : Int) = some (lineN (P.getD (K - 1) 0) (V.getD (K - 1) 0) (P.getD K 0) (V.getD K 0) ((f / 1000 : Nat) : Int)) := by
  obtain ⟨len, two, many, ps, vs, lohi, up⟩ := h
  have sm : ∀ k, k < P.length → Small (V.getD k 0) := fun k hk => by have := vs k hk; unfold Small; omega
  have el : w64 (((rowsOf P V).length : Int) - 1) = ((P.length - 1 : Nat) : Int) := by rw [rowsOf_len len, w64_id (by omega) (by omega)]; omega
  have ex : w64 ((f : Int).tdiv 1000) = ((f / 1000 : Nat) : Int) := by
    have e : (f : Int).tdiv 1000 = ((f / 1000 : Nat) : Int) := by rw [Int.tdiv_eq_ediv_of_nonneg (by omega)]; omega
    rw [e, w64_id (by omega) (by omega)]
  have f0 : ∀ a b : Int, idx (fit 2 (0 : Int) [a, b]) (0 : Int) = some a := fun _ _ => rfl
  have f1 : ∀ a b : Int, idx (fit 2 (0 : Int) [a, b]) (1 : Int) = some b := fun _ _ => rfl
  have lp : loopM (fun s : Int => m_impl_rowsAt_B2 (rowsOf P V) (f : Int) s) (1 : Int) = some (K : Int) := by
    refine seg_loop (p := fun k => P.getD k 0) (x := ((f / 1000 : Nat) : Int)) (last := P.length - 1) h1 h2 h3 (fun k a b c => ?_) ?_
    · simp only [m_impl_rowsAt_B2, el, ex]
      rw [decide_eq_true (by omega), cond_true, rowsOf_idx len (by omega), Option.bind_some, f0, Option.bind_some, decide_eq_true c, Option.bind_some, cond_true, w64_id (by omega) (by omega)]
      rfl
    · simp only [m_impl_rowsAt_B2, el, ex]
      by_cases hK : K = P.length - 1
      · rw [decide_eq_false (by omega), cond_false, Option.bind_some, cond_false]; rfl
      · have hx := h4.resolve_left hK
        rw [decide_eq_true (by omega), cond_true, rowsOf_idx len (by omega), Option.bind_some, f0, Option.bind_some, decide_eq_false (by omega), Option.bind_some, cond_false]
        rfl
  unfold m_impl_rowsAt
  rw [lp, Option.bind_some, w64_id (n := (K : Int) - 1) (by omega) (by omega), show (K : Int) - 1 = ((K - 1 : Nat) : Int) by omega]
  rw [rowsOf_idx len (by omega), rowsOf_idx len (by omega), ex]
  simp only [Option.bind_some, f0, f1]
  rw [blend_eq _ _ _ _ _ (ps _ (by omega)) (sm _ (by omega)) (ps _ (by omega)) (sm _ (by omega)) (by unfold Small; omega)]
  rfl
/-- A table read by both. -/
theorem tab_both {P V : List Int} {lo hi : Int} {f : Nat} (h : TabFit P V lo hi) (hf : f ≤ 100000000) : ∃ r, lo ≤ r ∧ r ≤ hi ∧ m_spec_l11Table ((f / 1000 : Nat) : Int) P V = some r ∧ m_impl_rowsAt (rowsOf P V) (f : Int) = some r := by
  have h' := h
  obtain ⟨len, two, many, ps, vs, lohi, up⟩ := h'
  obtain ⟨K, h1, h2, h3, h4⟩ := seg_exists (fun k => P.getD k 0) ((f / 1000 : Nat) : Int) _ 1 (P.length - 1) rfl (by omega)
  have hb := line_between (x0 := P.getD (K - 1) 0) (x1 := P.getD K 0) (x := ((f / 1000 : Nat) : Int)) lohi (vs (K - 1) (by omega)) (vs K (by omega))
  exact ⟨_, hb.1, hb.2, tab_spec h (by unfold Small; omega) h1 h2 h3 h4, tab_rows h hf h1 h2 h3 h4⟩

def rnP : List Int := [(1000 : Int), (6000 : Int), (10000 : Int), (20000 : Int), (40000 : Int), (80000 : Int), (100000 : Int)]
def rnK : List Int := [(-42000 : Int), (-28000 : Int), (-19500 : Int), (-11200 : Int), (-4000 : Int), (500 : Int), (900 : Int)]
def rnA : List Int := [(950 : Int), (1300 : Int), (1250 : Int), (1070 : Int), (920 : Int), (740 : Int), (700 : Int)]
theorem up_of {P : List Int} (h : ((List.range P.length).all fun i => (List.range P.length).all fun j => !decide (i < j) || decide (P.getD i 0 < P.getD j 0)) = true) : ∀ i j, i < j → j < P.length → P.getD i 0 < P.getD j 0 := by
  intro i j hij hj
  have h1 := range_all_true h i (by omega)
  have h2 := range_all_true h1 j hj
  simpa [hij] using h2
theorem fit_of {P V : List Int} {lo hi : Int} (h1 : (decide (V.length = P.length) && decide (2 ≤ P.length) && decide (P.length ≤ 1000000) && decide (-300000000 ≤ lo ∧ hi ≤ 300000000) && (List.range P.length).all fun k => decide (-300000000 ≤ P.getD k 0 ∧ P.getD k 0 ≤ 300000000 ∧ lo ≤ V.getD k 0 ∧ V.getD k 0 ≤ hi)) = true)
    (h2 : ((List.range P.length).all fun i => (List.range P.length).all fun j => !decide (i < j) || decide (P.getD i 0 < P.getD j 0)) = true) : TabFit P V lo hi := by
  simp only [Bool.and_eq_true, decide_eq_true_eq] at h1
  obtain ⟨⟨⟨⟨a, b⟩, c⟩, d⟩, e⟩ := h1
  have e' : ∀ k, k < P.length → -300000000 ≤ P.getD k 0 ∧ P.getD k 0 ≤ 300000000 ∧ lo ≤ V.getD k 0 ∧ V.getD k 0 ≤ hi := fun k hk => by simpa using range_all_true e k hk
  exact ⟨a, b, c, fun k hk => ⟨(e' k hk).1, (e' k hk).2.1⟩, fun k hk => (e' k hk).2.2, d, up_of h2⟩
theorem fitK : TabFit rnP rnK (-42000) 900 := fit_of (by decide) (by decide)
theorem fitA : TabFit rnP rnA 700 1300 := fit_of (by decide) (by decide)

/-- The loss by rain per length. -/
theorem rain_both {f rain : Nat} (hf : f ≤ 100000000) (hr : rain ≤ 200) : ∃ r : Nat, r ≤ 10000000 ∧ m_spec_l11Rain (f : Int) (rain : Int) = some (r : Int) ∧ m_impl_rainSpecific (f : Int) (rain : Int) = some (r : Int) := by
  obtain ⟨k, k0, k1, ks, ki⟩ := tab_both fitK hf
  obtain ⟨a, a0, a1, as, ai⟩ := tab_both fitA hf
  have ex : w64 ((f : Int).tdiv 1000) = ((f / 1000 : Nat) : Int) := by
    have e : (f : Int).tdiv 1000 = ((f / 1000 : Nat) : Int) := by rw [Int.tdiv_eq_ediv_of_nonneg (by omega)]; omega
    rw [e, w64_id (by omega) (by omega)]
  have hlg := lg_le (u := rain) (k := 3) (by omega) (by omega)
  have hm0 : 0 ≤ a * (lg rain : Int) := Int.mul_nonneg (by omega) (by omega)
  have hm1 : a * (lg rain : Int) ≤ 1300 * 29999 := Int.mul_le_mul a1 (by omega) (by omega) (by omega)
  have hq0 : 0 ≤ (2 * (a * (lg rain : Int)) + 1000) / (2 * 1000) := Int.ediv_nonneg (by omega) (by omega)
  have hd : rnd (a * (lg rain : Int)) 1000 = (2 * (a * (lg rain : Int)) + 1000) / (2 * 1000) := by unfold rnd; rw [if_neg (by omega)]
  have hd1 : rnd (a * (lg rain : Int)) 1000 ≤ 39000 := by rw [hd]; omega
  have hd0 : 0 ≤ rnd (a * (lg rain : Int)) 1000 := by rw [hd]; exact hq0
  have hsum : w64 (w64 (k + 30000) + rnd (a * (lg rain : Int)) 1000) = k + 30000 + rnd (a * (lg rain : Int)) 1000 := by rw [w64_id (n := k + 30000) (by omega) (by omega), w64_id (by omega) (by omega)]
  have hs : m_spec_l11Rain (f : Int) (rain : Int) = (bif ((rain : Int) == (0 : Int)) then some (0 : Int) else (bif decide (k + 30000 + rnd (a * (lg rain : Int)) 1000 < 0) then some (0 : Int) else (m_spec_l02Pow (k + 30000 + rnd (a * (lg rain : Int)) 1000)))) := by
    unfold m_spec_l11Rain
    show (bif _ then _ else (m_spec_l11Table (w64 ((f : Int).tdiv 1000)) rnP rnK).bind fun x1 => (m_spec_l11Table (w64 ((f : Int).tdiv 1000)) rnP rnA).bind _) = _
    rw [ex, ks, Option.bind_some, as, Option.bind_some, specLog (by omega), Option.bind_some, w64_id (n := a * (lg rain : Int)) (by omega) (by omega), div_eq _ _ (by omega) (by omega) (by omega), Option.bind_some, hsum]
    cases m_spec_l02Pow (k + 30000 + rnd (a * (lg rain : Int)) 1000) <;> rfl
  have hi : m_impl_rainSpecific (f : Int) (rain : Int) = (bif ((rain : Int) == (0 : Int)) then some (0 : Int) else (bif decide (k + 30000 + rnd (a * (lg rain : Int)) 1000 < 0) then some (0 : Int) else (m_impl_PowDb (k + 30000 + rnd (a * (lg rain : Int)) 1000)))) := by
    unfold m_impl_rainSpecific
    show ((m_impl_rowsAt (rowsOf rnP rnK) (f : Int)).bind fun x1 => (m_impl_rowsAt (rowsOf rnP rnA) (f : Int)).bind _) = _
    rw [ki, Option.bind_some, ai, Option.bind_some, implLog (by omega), Option.bind_some, w64_id (n := a * (lg rain : Int)) (by omega) (by omega), divRound_eq _ _ (by omega) (by omega) (by omega), Option.bind_some, hsum]
    cases ((rain : Int) == (0 : Int))
    · simp only [cond_false, Option.bind_some]
      cases decide (k + 30000 + rnd (a * (lg rain : Int)) 1000 < 0)
      · simp only [cond_false]
        cases m_impl_PowDb (k + 30000 + rnd (a * (lg rain : Int)) 1000) <;> rfl
      · rfl
    · rfl
  rw [hs, hi]
  cases ((rain : Int) == (0 : Int))
  · by_cases hn : k + 30000 + rnd (a * (lg rain : Int)) 1000 < 0
    · exact ⟨0, by omega, by rw [decide_eq_true hn]; rfl, by rw [decide_eq_true hn]; rfl⟩
    · obtain ⟨v, hv⟩ := Int.eq_ofNat_of_zero_le (show 0 ≤ k + 30000 + rnd (a * (lg rain : Int)) 1000 by omega)
      rw [decide_eq_false hn, hv]
      refine ⟨pw v, ?_, ?_, ?_⟩
      · have := pw_le (v := v) (d := 7) (by omega)
        omega
      · rw [specPow]; rfl
      · rw [implPow (by omega)]; rfl
  · exact ⟨0, by omega, rfl, rfl⟩

/-- The loss by rain. -/
theorem wet_both {f rain d : Nat} (hf : f ≤ 100000000) (hr : rain ≤ 200) (hd : d ≤ 283000) : ∃ r, m_spec_l11Wet (f : Int) (rain : Int) (d : Int) = some r ∧ m_impl_rainLoss (f : Int) (rain : Int) (d : Int) = some r := by
  obtain ⟨x, hx, xs, xi⟩ := rain_both hf hr
  have e1 : w64 ((1000 : Int) + w64 ((15 : Int) * (rain : Int))) = 1000 + 15 * (rain : Int) := by rw [w64_id (n := (15 : Int) * (rain : Int)) (by omega) (by omega), w64_id (by omega) (by omega)]
  have he : rnd 35000000 (1000 + 15 * (rain : Int)) = (2 * 35000000 + (1000 + 15 * (rain : Int))) / (2 * (1000 + 15 * (rain : Int))) := by unfold rnd; rw [if_neg (by omega)]
  have he0 : 0 ≤ rnd 35000000 (1000 + 15 * (rain : Int)) := by rw [he]; exact Int.ediv_nonneg (by omega) (by omega)
  have he1 : rnd 35000000 (1000 + 15 * (rain : Int)) ≤ 36000 := by
    rw [he]
    have : (2 * 35000000 + (1000 + 15 * (rain : Int))) / (2 * (1000 + 15 * (rain : Int))) < 36001 := by
      rw [Int.ediv_lt_iff_lt_mul (by omega)]; omega
    omega
  have hepos : 1 ≤ rnd 35000000 (1000 + 15 * (rain : Int)) := by
    rw [he, Int.le_ediv_iff_mul_le (by omega)]; omega
  generalize hee : rnd 35000000 (1000 + 15 * (rain : Int)) = e at *
  have m0 : 0 ≤ (x : Int) * (d : Int) := Int.mul_nonneg (by omega) (by omega)
  have m1 : (x : Int) * (d : Int) ≤ 10000000 * 283000 := Int.mul_le_mul (by omega) (by omega) (by omega) (by omega)
  have n0 : 0 ≤ (x : Int) * (d : Int) * e := Int.mul_nonneg m0 (by omega)
  have n1 : (x : Int) * (d : Int) * e ≤ 10000000 * 283000 * 36000 := Int.mul_le_mul m1 he1 (by omega) (by omega)
  have e2 : w64 (w64 ((x : Int) * (d : Int)) * e) = (x : Int) * (d : Int) * e := by rw [w64_id (n := (x : Int) * (d : Int)) (by omega) (by omega), w64_id (by omega) (by omega)]
  have e3 : w64 ((1000 : Int) * w64 ((d : Int) + e)) = 1000 * ((d : Int) + e) := by rw [w64_id (n := (d : Int) + e) (by omega) (by omega), w64_id (by omega) (by omega)]
  refine ⟨rnd ((x : Int) * (d : Int) * e) (1000 * ((d : Int) + e)), ?_, ?_⟩
  · unfold m_spec_l11Wet
    rw [e1, div_eq _ _ (by omega) (by omega) (by omega), Option.bind_some, xs, Option.bind_some, hee, e2, e3, div_eq _ _ (by omega) (by omega) (by omega)]
    rfl
  · unfold m_impl_rainLoss
    rw [e1, divRound_eq _ _ (by omega) (by omega) (by omega), Option.bind_some, xi, Option.bind_some, hee, e2, e3, divRound_eq _ _ (by omega) (by omega) (by omega)]
    rfl
end Go.Wk
