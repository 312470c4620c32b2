/-
  Plain laws: valid rasters. No program in sight. Our own work.
-/
import Derived.Test.YtdilkjbhbglpbaaLawRaster
namespace Go.Wk
open Go Go.RowKit

def sizeOkN (s w h : Int) : Bool := decide (1 ≤ s ∧ s ≤ 10000 ∧ 2 ≤ w ∧ w ≤ 24 ∧ 2 ≤ h ∧ h ≤ 24 ∧ (w - 1) * s ≤ 200000 ∧ (h - 1) * s ≤ 200000)
def cellOkN (a : GRaster) (k : Nat) : Bool := decide (-1 ≤ a.Server.getD k 0 ∧ a.Server.getD k 0 ≤ 23 ∧ -300000 ≤ a.Level.getD k 0 ∧ a.Level.getD k 0 ≤ 300000 ∧ (a.Server.getD k 0 < 0 → a.Level.getD k 0 = -300000))
def rasterOk (a : GRaster) : Bool := sizeOkN a.Step a.Width a.Height && (decide ((a.Server.length : Int) = a.Width * a.Height ∧ a.Level.length = a.Server.length) && (List.range a.Server.length).all (cellOkN a))

theorem sizeSpec_eq (s w h : Int) : m_spec_l04Size s w h = some (sizeOkN s w h) := by
  unfold m_spec_l04Size sizeOkN
  simp only [in_eq, Option.bind_some]
  by_cases h1 : 1 ≤ s ∧ s ≤ 10000
  case neg => simp only [decide_eq_false h1, cond_false, Option.bind_some]; congr 1; symm; simp only [decide_eq_false_iff_not]; omega
  by_cases h2 : 2 ≤ w ∧ w ≤ 24
  case neg => simp only [decide_eq_true h1, decide_eq_false h2, cond_false, cond_true, Option.bind_some]; congr 1; symm; simp only [decide_eq_false_iff_not]; omega
  by_cases h3 : 2 ≤ h ∧ h ≤ 24
  case neg => simp only [decide_eq_true h1, decide_eq_true h2, decide_eq_false h3, cond_false, cond_true, Option.bind_some]; congr 1; symm; simp only [decide_eq_false_iff_not]; omega
  simp only [decide_eq_true h1, decide_eq_true h2, decide_eq_true h3, cond_true]
  have m1 : 0 ≤ (w - 1) * s := Int.mul_nonneg (by omega) (by omega)
  have m2 : (w - 1) * s ≤ 23 * 10000 := Int.mul_le_mul (by omega) (by omega) (by omega) (by omega)
  have m3 : 0 ≤ (h - 1) * s := Int.mul_nonneg (by omega) (by omega)
  have m4 : (h - 1) * s ≤ 23 * 10000 := Int.mul_le_mul (by omega) (by omega) (by omega) (by omega)
  rw [w64_id (n := w - 1) (by omega) (by omega), w64_id (n := h - 1) (by omega) (by omega), w64_id (n := (w - 1) * s) (by omega) (by omega), w64_id (n := (h - 1) * s) (by omega) (by omega)]
  by_cases h4 : (w - 1) * s ≤ 200000
  · simp only [decide_eq_true h4, cond_true, Option.bind_some]; congr 1; rw [Bool.eq_iff_iff]; simp only [decide_eq_true_eq]; omega
  · simp only [decide_eq_false h4, cond_false, Option.bind_some]; congr 1; symm; simp only [decide_eq_false_iff_not]; omega
theorem sizeImpl_eq (s w h : Int) : m_impl_sizeOk s w h = some (sizeOkN s w h) := by
  unfold m_impl_sizeOk sizeOkN
  simp only [within_eq, Option.bind_some]
  by_cases h1 : 1 ≤ s ∧ s ≤ 10000
  case neg => simp only [decide_eq_false h1, cond_false, Option.bind_some]; congr 1; symm; simp only [decide_eq_false_iff_not]; omega
  by_cases h2 : 2 ≤ w ∧ w ≤ 24
  case neg => simp only [decide_eq_true h1, decide_eq_false h2, cond_false, cond_true, Option.bind_some]; congr 1; symm; simp only [decide_eq_false_iff_not]; omega
  by_cases h3 : 2 ≤ h ∧ h ≤ 24
  case neg => simp only [decide_eq_true h1, decide_eq_true h2, decide_eq_false h3, cond_false, cond_true, Option.bind_some]; congr 1; symm; simp only [decide_eq_false_iff_not]; omega
  simp only [decide_eq_true h1, decide_eq_true h2, decide_eq_true h3, cond_true]
  have m1 : 0 ≤ (w - 1) * s := Int.mul_nonneg (by omega) (by omega)
  have m2 : (w - 1) * s ≤ 23 * 10000 := Int.mul_le_mul (by omega) (by omega) (by omega) (by omega)
  have m3 : 0 ≤ (h - 1) * s := Int.mul_nonneg (by omega) (by omega)
  have m4 : (h - 1) * s ≤ 23 * 10000 := Int.mul_le_mul (by omega) (by omega) (by omega) (by omega)
  rw [w64_id (n := w - 1) (by omega) (by omega), w64_id (n := h - 1) (by omega) (by omega)]
  by_cases hm : h - 1 > w - 1
  · have : (w - 1) * s ≤ (h - 1) * s := Int.mul_le_mul_of_nonneg_right (by omega) (by omega)
    rw [if_pos hm, w64_id (n := (h - 1) * s) (by omega) (by omega), Option.bind_some]; congr 1; rw [Bool.eq_iff_iff]; simp only [decide_eq_true_eq]; omega
  · have : (h - 1) * s ≤ (w - 1) * s := Int.mul_le_mul_of_nonneg_right (by omega) (by omega)
    rw [if_neg hm, w64_id (n := (w - 1) * s) (by omega) (by omega), Option.bind_some]; congr 1; rw [Bool.eq_iff_iff]; simp only [decide_eq_true_eq]; omega
theorem sizeOkN_true {s w h : Int} (k : sizeOkN s w h = true) : 1 ≤ s ∧ s ≤ 10000 ∧ 2 ≤ w ∧ w ≤ 24 ∧ 2 ≤ h ∧ h ≤ 24 ∧ (w - 1) * s ≤ 200000 ∧ (h - 1) * s ≤ 200000 := by
  simpa [sizeOkN] using k

theorem rasterSpec_eq (a : GRaster) (hs : a.Server.length ≤ 1048576) : m_spec_l20Ok a = some (rasterOk a) := by
  unfold m_spec_l20Ok rasterOk
  rw [sizeSpec_eq, Option.bind_some]
  cases hz : sizeOkN a.Step a.Width a.Height with
  | false => rfl
  | true =>
    have hw := sizeOkN_true hz
    have m1 : 0 ≤ a.Width * a.Height := Int.mul_nonneg (by omega) (by omega)
    have m2 : a.Width * a.Height ≤ 24 * 24 := Int.mul_le_mul (by omega) (by omega) (by omega) (by omega)
    simp only [Bool.not_true, cond_false, Bool.true_and]
    rw [w64_id (n := a.Width * a.Height) (by omega) (by omega)]
    by_cases h1 : (a.Server.length : Int) = a.Width * a.Height
    case neg =>
      have e1 : ((a.Server.length : Int) != a.Width * a.Height) = true := by simp [h1]
      rw [e1, decide_eq_false (by omega)]; rfl
    have e1 : ((a.Server.length : Int) != a.Width * a.Height) = false := by simp [h1]
    by_cases h2 : a.Level.length = a.Server.length
    case neg =>
      have e2 : ((a.Level.length : Int) != (a.Server.length : Int)) = true := by simp; omega
      rw [e1, e2, decide_eq_false (by omega)]; rfl
    have e2 : ((a.Level.length : Int) != (a.Server.length : Int)) = false := by simp; omega
    rw [e1, e2, decide_eq_true (by omega)]
    simp only [cond_false, Option.bind_some, Bool.true_and]
    refine all_loop_n a.Server.length _ _ (fun k hk => ?_) ?_
    · have hk2 : k < a.Level.length := by omega
      simp only [m_spec_l20Ok_B6, m_spec_l02Level, lt_true hk, cond_true, idx_lt_nat hk, idx_lt_nat hk2, in_eq, Option.bind_some]
      rw [w64_id (by omega) (by omega)]
      have g1 : a.Server.getD k 0 = a.Server[k] := by simp [hk]
      have g2 : a.Level.getD k 0 = a.Level[k] := by simp [hk2]
      unfold cellOkN
      rw [g1, g2]
      by_cases c1 : -1 ≤ a.Server[k] ∧ a.Server[k] ≤ 23
      case neg => rw [decide_eq_false c1, decide_eq_false (show ¬ (-1 ≤ a.Server[k] ∧ a.Server[k] ≤ 23 ∧ _) by omega)]; rfl
      by_cases c2 : -300000 ≤ a.Level[k] ∧ a.Level[k] ≤ 300000
      case neg => rw [decide_eq_true c1, decide_eq_false c2, decide_eq_false (show ¬ (-1 ≤ a.Server[k] ∧ a.Server[k] ≤ 23 ∧ _) by omega)]; rfl
      rw [decide_eq_true c1, decide_eq_true c2]
      by_cases c3 : a.Server[k] < 0
      · by_cases c4 : a.Level[k] = -300000
        · have e4 : (a.Level[k] != -300000) = false := by simp [c4]
          rw [decide_eq_true c3, e4, decide_eq_true (show (-1 ≤ a.Server[k] ∧ a.Server[k] ≤ 23 ∧ _) by omega)]; rfl
        · have e4 : (a.Level[k] != -300000) = true := by simp [c4]
          rw [decide_eq_true c3, e4, decide_eq_false (show ¬ (-1 ≤ a.Server[k] ∧ a.Server[k] ≤ 23 ∧ _) by omega)]; rfl
      · rw [decide_eq_false c3, decide_eq_true (show (-1 ≤ a.Server[k] ∧ a.Server[k] ≤ 23 ∧ _) by omega)]; rfl
    · simp only [m_spec_l20Ok_B6, lt_self, cond_false, Option.map_some]

theorem rasterImpl_eq (a : GRaster) (hs : a.Server.length ≤ 1048576) (hs2 : a.Level.length ≤ 1048576) : m_impl_ValidRaster a = some (rasterOk a) := by
  unfold m_impl_ValidRaster rasterOk
  rw [sizeImpl_eq, Option.bind_some]
  cases hz : sizeOkN a.Step a.Width a.Height with
  | false => rfl
  | true =>
    have hw := sizeOkN_true hz
    have m1 : 0 ≤ a.Width * a.Height := Int.mul_nonneg (by omega) (by omega)
    have m2 : a.Width * a.Height ≤ 24 * 24 := Int.mul_le_mul (by omega) (by omega) (by omega) (by omega)
    simp only [Bool.not_true, cond_false, Bool.true_and]
    rw [w64_id (n := a.Width * a.Height) (by omega) (by omega)]
    by_cases h1 : (a.Server.length : Int) = a.Width * a.Height
    case neg =>
      have e1 : ((a.Server.length : Int) != a.Width * a.Height) = true := by simp [h1]
      rw [e1, decide_eq_false (by omega)]; rfl
    have e1 : ((a.Server.length : Int) != a.Width * a.Height) = false := by simp [h1]
    by_cases h2 : a.Level.length = a.Server.length
    case neg =>
      have e2 : ((a.Level.length : Int) != (a.Server.length : Int)) = true := by simp; omega
      rw [e1, e2, decide_eq_false (by omega)]; rfl
    have e2 : ((a.Level.length : Int) != (a.Server.length : Int)) = false := by simp; omega
    rw [e1, e2, decide_eq_true (by omega)]
    simp only [cond_false, Option.bind_some, Bool.true_and, allWithin_eq _ _ _ (show a.Server.length ≤ 9223372036854775806 by omega), allWithin_eq _ _ _ (show a.Level.length ≤ 9223372036854775806 by omega)]
    have hg1 : ∀ k, k < a.Server.length → ∃ h : k < a.Server.length, a.Server.getD k 0 = a.Server[k] := fun k hk => ⟨hk, by simp [hk]⟩
    have hg2 : ∀ k, k < a.Server.length → ∃ h : k < a.Level.length, a.Level.getD k 0 = a.Level[k] := fun k hk => ⟨by omega, by simp [show k < a.Level.length by omega]⟩
    by_cases c1 : (a.Server.all fun x => decide (-1 ≤ x ∧ x ≤ 23)) = true
    case neg =>
      rw [Bool.not_eq_true] at c1
      rw [c1]
      have : (List.range a.Server.length).all (cellOkN a) = false := by
        rw [List.all_eq_false] at c1 ⊢
        obtain ⟨x, hx, hp⟩ := c1
        obtain ⟨k, hk, e⟩ := List.getElem_of_mem hx
        refine ⟨k, by simpa using hk, ?_⟩
        obtain ⟨_, g⟩ := hg1 k hk
        unfold cellOkN
        rw [g, e]
        simp only [decide_eq_true_eq] at hp ⊢
        omega
      rw [this]; rfl
    by_cases c2 : (a.Level.all fun x => decide (-300000 ≤ x ∧ x ≤ 300000)) = true
    case neg =>
      rw [Bool.not_eq_true] at c2
      rw [c1, c2]
      have : (List.range a.Server.length).all (cellOkN a) = false := by
        rw [List.all_eq_false] at c2 ⊢
        obtain ⟨x, hx, hp⟩ := c2
        obtain ⟨k, hk, e⟩ := List.getElem_of_mem hx
        refine ⟨k, by simp; omega, ?_⟩
        obtain ⟨_, g⟩ := hg2 k (by omega)
        unfold cellOkN
        rw [g, e]
        simp only [decide_eq_true_eq] at hp ⊢
        omega
      rw [this]; rfl
    rw [c1, c2]
    simp only [Bool.not_true, cond_false, Option.bind_some]
    rw [List.all_eq_true] at c1 c2
    refine all_loop_n a.Server.length _ _ (fun k hk => ?_) ?_
    · have hk2 : k < a.Level.length := by omega
      have d1 := c1 _ (List.getElem_mem hk)
      have d2 := c2 _ (List.getElem_mem hk2)
      simp only [decide_eq_true_eq] at d1 d2
      simp only [m_impl_ValidRaster_B10, lt_true hk, cond_true, idx_lt_nat hk, idx_lt_nat hk2, Option.bind_some]
      rw [w64_id (by omega) (by omega)]
      obtain ⟨_, g1⟩ := hg1 k hk
      obtain ⟨_, g2⟩ := hg2 k hk
      unfold cellOkN
      rw [g1, g2]
      by_cases c3 : a.Server[k] < 0
      · by_cases c4 : a.Level[k] = -300000
        · have e4 : (a.Level[k] != -300000) = false := by simp [c4]
          rw [decide_eq_true c3, e4, decide_eq_true (show (-1 ≤ a.Server[k] ∧ a.Server[k] ≤ 23 ∧ _) by omega)]; rfl
        · have e4 : (a.Level[k] != -300000) = true := by simp [c4]
          rw [decide_eq_true c3, e4, decide_eq_false (show ¬ (-1 ≤ a.Server[k] ∧ a.Server[k] ≤ 23 ∧ _) by omega)]; rfl
      · rw [decide_eq_false c3, decide_eq_true (show (-1 ≤ a.Server[k] ∧ a.Server[k] ≤ 23 ∧ _) by omega)]; rfl
    · simp only [m_impl_ValidRaster_B10, lt_self, cond_false, Option.map_some]
theorem rasterOk_true {a : GRaster} (h : rasterOk a = true) : sizeOkN a.Step a.Width a.Height = true ∧ (a.Server.length : Int) = a.Width * a.Height ∧ a.Level.length = a.Server.length := by
  unfold rasterOk at h
  simp only [Bool.and_eq_true, decide_eq_true_eq] at h
  exact ⟨h.1, h.2.1.1, h.2.1.2⟩
end Go.Wk
