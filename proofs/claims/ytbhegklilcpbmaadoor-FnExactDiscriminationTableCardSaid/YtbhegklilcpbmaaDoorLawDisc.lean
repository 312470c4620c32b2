/-
  Plain laws: discrimination of masks. No program in sight. Our own work.
-/
import Derived.Test.YtbhegklilcpbmaaDoorLawMask
import Derived.Test.YtbhegklilcpbmaaDoorLawSeg
import Derived.Test.YtbhegklilcpbmaaDoorLawLog
import Derived.Test.YtbhegklilcpbmaaDoorLawSz
namespace Go.Wk
open Go Go.RowKit

def FitsMask (m : GMask) : Prop := m.Offsets.length ≤ 1048576 ∧ m.Losses.length ≤ 1048576
theorem szMask_eq (m : GMask) (k : okGMask m) (left : Int) (h0 : 0 ≤ left) (hl : left ≤ 1048576) : LeftQ (m_laws_szMask m left) left (FitsMask m) := by
  unfold m_laws_szMask
  obtain ⟨r, hr, h1⟩ := szInt64S_eq m.Offsets left h0 hl k.1.1
  rw [hr, Option.bind_some]
  rcases h1 with h1 | ⟨h1, h1'⟩
  · rw [decide_eq_true h1]; exact ⟨-1, rfl, .inl (by omega)⟩
  rw [decide_eq_false (by omega), cond_false]
  obtain ⟨r2, hr2, h2⟩ := szInt64S_eq m.Losses r (by omega) (by omega) k.2.1
  rw [hr2, Option.bind_some]
  rcases h2 with h2 | ⟨h2, h2'⟩
  · rw [decide_eq_true h2]; exact ⟨-1, rfl, .inl (by omega)⟩
  rw [decide_eq_false (by omega), cond_false]
  exact ⟨r2, rfl, .inr ⟨h2, by omega, by omega, by omega⟩⟩
theorem toMask_eq {m : GMask} (h : FitsMask m) : m_laws_toMask m = some m := by
  unfold m_laws_toMask
  rw [toInt64S_eq _ h.1, Option.bind_some, toInt64S_eq _ h.2]; rfl
theorem eqMask_self {m : GMask} (h : FitsMask m) : m_laws_eqMask m m = some true := by
  have h1 := h.1
  have h2 := h.2
  unfold m_laws_eqMask
  rw [eqInt64S_eq _ _ (by omega), eqInt64S_eq _ _ (by omega), decide_eq_true rfl, decide_eq_true rfl]; rfl

/-- The loss of a mask, wherever it is asked. -/
theorem loss_any {m : GMask} (h : MaskOk m) {x : Int} (hx : -2000000 ≤ x ∧ x ≤ 2000000) : ∃ v, 0 ≤ v ∧ v ≤ 120000 ∧ m_spec_l08Loss m x = some v ∧ m_impl_Mask_loss m x = some v := by
  have hn := h.n1
  have hn2 := h.n2
  have hlen := h.len
  obtain ⟨y, hy⟩ : ∃ y : Int, y = if x < 0 then -x else x := ⟨_, rfl⟩
  have hy0 : 0 ≤ y ∧ y ≤ 2000000 := by rw [hy]; split <;> omega
  obtain ⟨K, h1, h2, h3, h4⟩ := seg_exists (fun k => m.Offsets.getD k 0) y _ 1 (m.Offsets.length - 1) rfl (by omega)
  have a0 := h.obd (K - 1) (by omega)
  have a1 := h.lbd (K - 1) (by omega)
  have a2 := h.obd K (by omega)
  have a3 := h.lbd K (by omega)
  have hb := line_between (x0 := m.Offsets.getD (K - 1) 0) (x1 := m.Offsets.getD K 0) (x := y) (lo := 0) (hi := 120000) (by omega) a1 a3
  have sm : Small (m.Offsets.getD (K - 1) 0) ∧ Small (m.Losses.getD (K - 1) 0) ∧ Small (m.Offsets.getD K 0) ∧ Small (m.Losses.getD K 0) ∧ Small y := by unfold Small; omega
  refine ⟨_, hb.1, hb.2, ?_, ?_⟩
  · unfold m_spec_l08Loss
    have e0 : (bif decide (x < 0) then some (w64 (0 - x)) else some x) = some y := by
      by_cases c : x < 0
      · rw [decide_eq_true c, cond_true, w64_id (by omega) (by omega), hy, if_pos c]; congr 1; omega
      · rw [decide_eq_false c, cond_false, hy, if_neg c]
    rw [e0, Option.bind_some]
    have st : ∀ k : Nat, 1 ≤ k → k ≤ m.Offsets.length - 1 → m.Offsets.getD k 0 < y → m_spec_l08Loss_B3 m y (k : Int) = some (.inl ((k + 1 : Nat) : Int)) := by
      intro k hk1 hk2 hky
      have hk : k < m.Offsets.length := by omega
      simp only [m_spec_l08Loss_B3, lt_true hk, cond_true, idx_getD 0 hk, Option.bind_some, decide_eq_false (show ¬ y ≤ m.Offsets.getD k 0 by omega), cond_false]
      rw [w64_id (by omega) (by omega)]
      rfl
    by_cases hyK : y ≤ m.Offsets.getD K 0
    · refine seg_loop (p := fun k => m.Offsets.getD k 0) (x := y) (last := m.Offsets.length - 1) h1 h2 h3 (fun k a b c => st k a (by omega) c) ?_
      have k2 : K < m.Offsets.length := by omega
      have hw : w64 ((K : Int) - 1) = ((K - 1 : Nat) : Int) := by rw [w64_id (by omega) (by omega)]; omega
      have el := line_eq (m.Offsets.getD (K - 1) 0) (m.Losses.getD (K - 1) 0) (m.Offsets.getD K 0) (m.Losses.getD K 0) y sm.1 sm.2.1 sm.2.2.1 sm.2.2.2.1 sm.2.2.2.2
      simp only [m_spec_l08Loss_B3, lt_true k2, cond_true, idx_getD 0 k2, Option.bind_some, decide_eq_true hyK, hw, idx_getD 0 (show K - 1 < m.Offsets.length by omega), idx_getD 0 (show K - 1 < m.Losses.length by omega), idx_getD 0 (show K < m.Losses.length by omega), el, Option.map_some]
    · have hKl : K = m.Offsets.length - 1 := h4.resolve_right hyK
      have := loop_for (body := fun s : Int => m_spec_l08Loss_B3 m y s) (r := m.Losses.getD (m.Losses.length - 1) 0) K (fun k => ((k + 1 : Nat) : Int)) (fun k hk => ?_) ?_
      · simp only [Nat.zero_add] at this
        rw [show ((1 : Nat) : Int) = 1 from rfl] at this
        rw [this]
        have hr := h.rise K (by omega) (by omega)
        unfold lineN
        rw [if_neg (by omega), if_pos (by omega), hlen, hKl]
      · refine st (k + 1) (by omega) (by omega) ?_
        by_cases e : k + 1 = K
        · rw [e]; omega
        · exact h3 _ (by omega) (by omega)
      · have ew : w64 ((m.Losses.length : Int) - 1) = ((m.Losses.length - 1 : Nat) : Int) := by rw [w64_id (by omega) (by omega)]; omega
        simp only [m_spec_l08Loss_B3, ew]
        rw [decide_eq_false (by omega), cond_false, idx_getD 0 (by omega)]
        rfl
  · unfold m_impl_Mask_loss
    have ea : m_impl_abs x = some y := by rw [abs_eq x (by omega), hy]
    have hwn : w64 ((m.Offsets.length : Int) - 1) = (m.Offsets.length : Int) - 1 := w64_id (by omega) (by omega)
    have lp : loopM (fun s : Int => m_impl_Mask_loss_B3 m y s) (1 : Int) = some (K : Int) := by
      refine seg_loop (p := fun k => m.Offsets.getD k 0) (x := y) (last := m.Offsets.length - 1) h1 h2 h3 (fun k a b c => ?_) ?_
      · simp only [m_impl_Mask_loss_B3, hwn]
        rw [decide_eq_true (by omega), cond_true, idx_getD 0 (by omega), Option.bind_some, decide_eq_true c, Option.bind_some, cond_true, w64_id (by omega) (by omega)]
        rfl
      · simp only [m_impl_Mask_loss_B3, hwn]
        by_cases hK : K = m.Offsets.length - 1
        · rw [decide_eq_false (by omega), cond_false, Option.bind_some, cond_false]; rfl
        · have hx' := h4.resolve_left hK
          rw [decide_eq_true (by omega), cond_true, idx_getD 0 (by omega), Option.bind_some, decide_eq_false (by omega), Option.bind_some, cond_false]
          rfl
    have hw : w64 ((K : Int) - 1) = ((K - 1 : Nat) : Int) := by rw [w64_id (by omega) (by omega)]; omega
    have el := blend_eq (m.Offsets.getD (K - 1) 0) (m.Losses.getD (K - 1) 0) (m.Offsets.getD K 0) (m.Losses.getD K 0) y sm.1 sm.2.1 sm.2.2.1 sm.2.2.2.1 sm.2.2.2.2
    simp only [ea, lp, Option.bind_some, hw, idx_getD 0 (show K < m.Offsets.length by omega), idx_getD 0 (show K - 1 < m.Offsets.length by omega), idx_getD 0 (show K - 1 < m.Losses.length by omega), idx_getD 0 (show K < m.Losses.length by omega), el]

/-- A part of a sum of powers. -/
theorem part_both {v : Int} (h0 : -1000000 ≤ v) (h1 : v ≤ 0) : ∃ q : Nat, q ≤ 1000000000 ∧ m_spec_l02Part v = some (q : Int) ∧ m_impl_partOf v = some (q : Int) := by
  unfold m_spec_l02Part m_impl_partOf
  by_cases c : v < -90000
  · rw [decide_eq_true c]; exact ⟨0, by omega, rfl, rfl⟩
  · rw [decide_eq_false c, w64_id (by omega) (by omega)]
    obtain ⟨n, hn⟩ := Int.eq_ofNat_of_zero_le (show 0 ≤ 90000 + v by omega)
    rw [hn]
    refine ⟨pw n, pw_le (d := 9) (by omega), ?_, ?_⟩
    · rw [specPow]; rfl
    · rw [implPow (by omega)]; rfl

/-- The discrimination of two masks at a shift. -/
theorem disc_both {e f : GMask} (he : MaskOk e) (hf : MaskOk f) {s : Int} (hs : -1000000 ≤ s ∧ s ≤ 1000000) : ∃ v, -1000000 ≤ v ∧ v ≤ 1000000 ∧ m_spec_l08Discrimination e f s = some v ∧ m_impl_discrimination e f s = some v := by
  have hn := he.n1
  have hn2 := he.n2
  have hw : w64 ((e.Offsets.length : Int) - 1) = ((e.Offsets.length - 1 : Nat) : Int) := by rw [w64_id (by omega) (by omega)]; omega
  have hi : idx e.Offsets ((e.Offsets.length - 1 : Nat) : Int) = some (e.Offsets.getD (e.Offsets.length - 1) 0) := idx_getD 0 (by omega)
  have hbw := he.obd (e.Offsets.length - 1) (by omega)
  generalize hwd : e.Offsets.getD (e.Offsets.length - 1) 0 = w at *
  -- the sums, step by step
  have key : ∀ (n k a l : Nat), k + n = 65 → a ≤ k * 1000000000 → l ≤ k * 1000000000 → ∃ a' l' : Nat, a' ≤ 65000000000 ∧ l' ≤ 65000000000 ∧
      loopM (fun q : (Int × Int × Int) => m_spec_l08Discrimination_B3 e f s w q.1 q.2.1 q.2.2) ((a : Int), (l : Int), (k : Int)) = some ((a' : Int), (l' : Int)) ∧
      loopM (fun q : (Int × Int × Int) => m_impl_discrimination_B3 e f s w q.1 q.2.1 q.2.2) ((a : Int), (l : Int), (k : Int)) = some ((a' : Int), (l' : Int)) := by
    intro n
    induction n with
    | zero =>
      intro k a l hk ha hl
      refine ⟨a, l, by omega, by omega, loopM_inr ?_, loopM_inr ?_⟩
      · simp only [m_spec_l08Discrimination_B3]; rw [decide_eq_false (by omega)]; rfl
      · simp only [m_impl_discrimination_B3]; rw [decide_eq_false (by omega)]; rfl
    | succ n ih =>
      intro k a l hk ha hl
      have hp0 : 0 ≤ 2 * w * (k : Int) := Int.mul_nonneg (by omega) (by omega)
      have hp1 : 2 * w * (k : Int) ≤ 200000 * 64 := Int.mul_le_mul (by omega) (by omega) (by omega) (by omega)
      have hr := (rnd_bound (a := 2 * w) (b := (k : Int)) (c := 64) (by omega) (by omega) (by omega)).1 (by omega)
      have ew : w64 (w64 ((2 : Int) * w) * (k : Int)) = 2 * w * (k : Int) := by rw [w64_id (n := (2 : Int) * w) (by omega) (by omega), w64_id (by omega) (by omega)]
      have ed := div_eq (2 * w * (k : Int)) 64 (by omega) (by omega) (by omega)
      have ei := divRound_eq (2 * w * (k : Int)) 64 (by omega) (by omega) (by omega)
      generalize rnd (2 * w * (k : Int)) 64 = x8 at *
      have ex : w64 (x8 - w) = x8 - w := w64_id (by omega) (by omega)
      have exs : w64 (x8 - w - s) = x8 - w - s := w64_id (by omega) (by omega)
      obtain ⟨v1, b0, b1, vs1, vi1⟩ := loss_any he (x := x8 - w) (by omega)
      obtain ⟨v2, c0, c1, vs2, vi2⟩ := loss_any hf (x := x8 - w - s) (by omega)
      have en : w64 (0 - v1) = -v1 := by rw [w64_id (by omega) (by omega)]; omega
      have en2 : w64 (-v1 - v2) = -v1 - v2 := w64_id (by omega) (by omega)
      obtain ⟨q1, d1, qs1, qi1⟩ := part_both (v := -v1) (by omega) (by omega)
      obtain ⟨q2, d2, qs2, qi2⟩ := part_both (v := -v1 - v2) (by omega) (by omega)
      obtain ⟨a', l', g1, g2, g3, g4⟩ := ih (k + 1) (a + q1) (l + q2) (by omega) (by omega) (by omega)
      refine ⟨a', l', g1, g2, ?_, ?_⟩
      · rw [loopM_inl (s' := (((a + q1 : Nat) : Int), ((l + q2 : Nat) : Int), ((k + 1 : Nat) : Int))) (by
          simp only [m_spec_l08Discrimination_B3]
          rw [decide_eq_true (by omega), cond_true, ew, ed, Option.bind_some, ex, vs1, Option.bind_some, en, qs1, Option.bind_some, exs, vs2, Option.bind_some, en2, qs2, Option.bind_some, w64_id (by omega) (by omega), w64_id (by omega) (by omega), w64_id (by omega) (by omega)]
          rfl)]
        exact g3
      · rw [loopM_inl (s' := (((a + q1 : Nat) : Int), ((l + q2 : Nat) : Int), ((k + 1 : Nat) : Int))) (by
          simp only [m_impl_discrimination_B3]
          rw [decide_eq_true (by omega), cond_true, ew, ei, Option.bind_some, ex, vi1, Option.bind_some, en, qi1, Option.bind_some, exs, vi2, Option.bind_some, en2, qi2, Option.bind_some, w64_id (by omega) (by omega), w64_id (by omega) (by omega), w64_id (by omega) (by omega)]
          rfl)]
        exact g4
  obtain ⟨a', l', g1, g2, g3, g4⟩ := key 65 0 0 0 rfl (by omega) (by omega)
  have g3' : loopM (fun q : (Int × Int × Int) => m_spec_l08Discrimination_B3 e f s w q.1 q.2.1 q.2.2) ((0 : Int), (0 : Int), (0 : Int)) = some ((a' : Int), (l' : Int)) := g3
  have g4' : loopM (fun q : (Int × Int × Int) => m_impl_discrimination_B3 e f s w q.1 q.2.1 q.2.2) ((0 : Int), (0 : Int), (0 : Int)) = some ((a' : Int), (l' : Int)) := g4
  have la := (lg_bounds a').1
  have ll := (lg_bounds l').1
  have na := nd_le (u := a') (k := 11) (by omega) (by omega)
  have nl := nd_le (u := l') (k := 11) (by omega) (by omega)
  unfold m_spec_l08Discrimination m_impl_discrimination m_impl_Mask_end
  rw [hw, hi, Option.bind_some, Option.bind_some, Option.bind_some, g3', g4', Option.bind_some, Option.bind_some]
  by_cases c : (l' : Int) = 0
  · have cb : ((l' : Int) == 0) = true := by simpa using c
    simp only [cb, cond_true]
    exact ⟨120000, by omega, by omega, rfl, rfl⟩
  · have cb : ((l' : Int) == 0) = false := by simpa using c
    simp only [cb, cond_false]
    rw [specLog (by omega), specLog (by omega), implLog (by omega), implLog (by omega)]
    refine ⟨(lg a' : Int) - (lg l' : Int), by omega, by omega, ?_, ?_⟩
    · show some (w64 ((lg a' : Int) - (lg l' : Int))) = _; rw [w64_id (by omega) (by omega)]
    · show some (w64 ((lg a' : Int) - (lg l' : Int))) = _; rw [w64_id (by omega) (by omega)]

/-- Both masks are asked in the same way. -/
theorem askSpec2 (e f : GMask) (he : FitsMask e) (hf : FitsMask f) : ((m_spec_l08Ok e).bind fun x2 => (bif (!x2) then some true else ((m_spec_l08Ok f).bind fun x4 => some (!x4)))) = some (!(mOk e && mOk f)) := by
  rw [maskSpec_eq _ he.1 he.2, maskSpec_eq _ hf.1 hf.2]
  cases mOk e <;> cases mOk f <;> rfl
theorem askImpl2 (e f : GMask) (he : FitsMask e) (hf : FitsMask f) : ((m_impl_ValidMask e).bind fun x2 => (bif (!x2) then some true else ((m_impl_ValidMask f).bind fun x4 => some (!x4)))) = some (!(mOk e && mOk f)) := by
  rw [maskImpl_eq _ he.1 he.2, maskImpl_eq _ hf.1 hf.2]
  cases mOk e <;> cases mOk f <;> rfl
end Go.Wk
