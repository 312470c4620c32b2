/-
  Plain law: WidthAt. No program in sight. Our own work.
-/
import Derived.Test.YtipkpdobbeggnaaLawMask
import Derived.Test.YtipkpdobbeggnaaLawSz
import Derived.Test.YtipkpdobbeggnaaLawRepeat
namespace Go.Wk
open Go Go.RowKit

def FitsMask (m : GMask) : Prop := m.Offsets.length ≤ 1048576 ∧ m.Losses.length ≤ 1048576
theorem szMask_eq (m : GMask) (k : okGMask m) : LeftQ (m_laws_szMask m 1048576) 1048576 (FitsMask m) := by
  unfold m_laws_szMask
  obtain ⟨r, hr, h1⟩ := szInt64S_eq m.Offsets 1048576 (by omega) (by omega) k.1.1
  rw [hr, Option.bind_some]
  rcases h1 with h1 | ⟨h1, h1'⟩
  · rw [decide_eq_true h1]; exact ⟨-1, rfl, .inl (by omega)⟩
  rw [decide_eq_false (by omega), cond_false]
  obtain ⟨r2, hr2, h2⟩ := szInt64S_eq m.Losses r (by omega) (by omega) k.2.1
  rw [hr2, Option.bind_some]
  rcases h2 with h2 | ⟨h2, h2'⟩
  · rw [decide_eq_true h2]; exact ⟨-1, rfl, .inl (by omega)⟩
  rw [decide_eq_false (by omega), cond_false]
  exact ⟨r2, rfl, .inr ⟨h2, by omega, by omega, by omega⟩⟩

/-- The loss of a mask, as one number. -/
noncomputable def lossF (m : GMask) (x : Int) : Int := (m_spec_l08Loss m x).getD 0
theorem lossF_eq (m : GMask) (h : MaskOk m) (x : Int) (hx : 0 ≤ x ∧ x ≤ m.Offsets.getD (m.Offsets.length - 1) 0) : m_spec_l08Loss m x = some (lossF m x) ∧ m_impl_Mask_loss m x = some (lossF m x) ∧ ∃ k, Seg m x k ∧ lossF m x = lossV m k x := by
  have hn := h.n1
  have hb := h.obd (m.Offsets.length - 1) (by omega)
  obtain ⟨k, hk⟩ := seg_ex m h x hx.2
  have e1 := lossSpec_eq m h x (by omega) k hk
  have e : lossF m x = lossV m k x := by unfold lossF; rw [e1]; rfl
  exact ⟨by rw [e]; exact e1, by rw [e]; exact lossImpl_eq m h x (by omega) k hk, k, hk, e⟩
theorem lossF_mono (m : GMask) (h : MaskOk m) {x y : Int} (h0 : 0 ≤ x) (hxy : x ≤ y) (hy : y ≤ m.Offsets.getD (m.Offsets.length - 1) 0) : lossF m x ≤ lossF m y := by
  obtain ⟨_, _, k, hk, e1⟩ := lossF_eq m h x ⟨h0, by omega⟩
  obtain ⟨_, _, j, hj, e2⟩ := lossF_eq m h y ⟨by omega, hy⟩
  rw [e1, e2]
  exact loss_mono m h hxy hk hj
theorem lossF_zero (m : GMask) (h : MaskOk m) : lossF m 0 = 0 := by
  have hn := h.n1
  have hb := h.obd (m.Offsets.length - 1) (by omega)
  obtain ⟨_, _, k, ⟨k1, k2, k3, k4⟩, e⟩ := lossF_eq m h 0 ⟨by omega, hb.1⟩
  have hk : k = 1 := by
    by_cases c : k = 1
    · exact c
    · have a := k4 1 (by omega) (by omega)
      have b := h.obd 1 (by omega)
      omega
  subst hk
  rw [e]
  unfold lossV lineN
  rw [if_pos (.inl (by rw [h.o0]; exact Int.le_refl _))]
  exact h.l0

/-- The search of the reference. -/
theorem widthS (m : GMask) (h : MaskOk m) (loss : Int) : ∀ (d : Nat) (low high : Int), (high - low).toNat ≤ d → 0 ≤ low → low < high → high ≤ m.Offsets.getD (m.Offsets.length - 1) 0 → lossF m low ≤ loss → loss < lossF m high →
    ∃ r : Int, loopM (fun s : (Int × Int) => m_spec_WidthAt_B6 m loss s.1 s.2) (low, high) = some r ∧ low ≤ r ∧ r + 1 ≤ high ∧ lossF m r ≤ loss ∧ loss < lossF m (r + 1) := by
  have hn := h.n1
  have hb := h.obd (m.Offsets.length - 1) (by omega)
  intro d
  induction d with
  | zero => intro low high hd; omega
  | succ d ih =>
    intro low high hd h0 hlt hhi hl hh
    have w1 : w64 (high - low) = high - low := w64_id (by omega) (by omega)
    by_cases c : 1 < high - low
    · have w2 : w64 (low + high) = low + high := w64_id (by omega) (by omega)
      have t : (low + high).tdiv 2 = (low + high) / 2 := Int.tdiv_eq_ediv_of_nonneg (by omega)
      have w3 : w64 ((low + high) / 2) = (low + high) / 2 := w64_id (by omega) (by omega)
      obtain ⟨e1, _, _⟩ := lossF_eq m h ((low + high) / 2) ⟨by omega, by omega⟩
      by_cases cl : lossF m ((low + high) / 2) ≤ loss
      · obtain ⟨r, r1, r2, r3, r4, r5⟩ := ih ((low + high) / 2) high (by omega) (by omega) (by omega) hhi cl hh
        refine ⟨r, (loopM_inl (s' := ((low + high) / 2, high)) ?_).trans r1, by omega, r3, r4, r5⟩
        simp only [m_spec_WidthAt_B6, w1, decide_eq_true c, cond_true, w2, t, w3, e1, Option.bind_some, decide_eq_true cl]
      · obtain ⟨r, r1, r2, r3, r4, r5⟩ := ih low ((low + high) / 2) (by omega) (by omega) (by omega) (by omega) hl (by omega)
        refine ⟨r, (loopM_inl (s' := (low, (low + high) / 2)) ?_).trans r1, r2, by omega, r4, r5⟩
        simp only [m_spec_WidthAt_B6, w1, decide_eq_true c, cond_true, w2, t, w3, e1, Option.bind_some, decide_eq_false cl, cond_false]
    · have e : high = low + 1 := by omega
      refine ⟨low, loopM_inr ?_, Int.le_refl _, by omega, hl, by rw [← e]; exact hh⟩
      simp only [m_spec_WidthAt_B6, w1, lt_false c, cond_false, Option.map_some]

theorem shr1 {s : Int} (h0 : 0 ≤ s) (h1 : s < 9223372036854775808) : bitOp .shr .u64 (IntKind.wrap .u64 s) (1 : Int) = some (s / 2) := by
  rw [wrapU h0 (by omega)]
  have e : bitOp .shr .u64 s (1 : Int) = some (s.fdiv 2) := rfl
  rw [e, Int.fdiv_eq_ediv_of_nonneg _ (by omega)]

/-- The search of the library: the first place with a property that no later place loses. -/
theorem widthI (m : GMask) (h : MaskOk m) (loss : Int) : ∀ (d : Nat) (i j : Int), (j - i).toNat ≤ d → 0 ≤ i → i ≤ j → j ≤ m.Offsets.getD (m.Offsets.length - 1) 0 + 1 → (i = 0 ∨ lossF m (i - 1) ≤ loss) → (j = m.Offsets.getD (m.Offsets.length - 1) 0 + 1 ∨ loss < lossF m j) →
    ∃ r : Int, loopM (fun s : (Int × Int) => m_sort_Search_B2 (fun x => m_impl_firstIn_1 x (fun x => m_impl_WidthAt_1 x m loss) 0) s.1 s.2) (i, j) = some r ∧ 0 ≤ r ∧ r ≤ m.Offsets.getD (m.Offsets.length - 1) 0 + 1 ∧ (r = 0 ∨ lossF m (r - 1) ≤ loss) ∧ (r = m.Offsets.getD (m.Offsets.length - 1) 0 + 1 ∨ loss < lossF m r) := by
  have hn := h.n1
  have hb := h.obd (m.Offsets.length - 1) (by omega)
  have base : ∀ (i j : Int), 0 ≤ i → i ≤ j → ¬ i < j → j ≤ m.Offsets.getD (m.Offsets.length - 1) 0 + 1 → (i = 0 ∨ lossF m (i - 1) ≤ loss) → (j = m.Offsets.getD (m.Offsets.length - 1) 0 + 1 ∨ loss < lossF m j) →
      ∃ r : Int, loopM (fun s : (Int × Int) => m_sort_Search_B2 (fun x => m_impl_firstIn_1 x (fun x => m_impl_WidthAt_1 x m loss) 0) s.1 s.2) (i, j) = some r ∧ 0 ≤ r ∧ r ≤ m.Offsets.getD (m.Offsets.length - 1) 0 + 1 ∧ (r = 0 ∨ lossF m (r - 1) ≤ loss) ∧ (r = m.Offsets.getD (m.Offsets.length - 1) 0 + 1 ∨ loss < lossF m r) := by
    intro i j h0 h1 hc h2 h3 h4
    have e : i = j := by omega
    subst e
    refine ⟨i, loopM_inr ?_, h0, h2, h3, h4⟩
    simp only [m_sort_Search_B2, lt_false hc, cond_false, Option.map_some]
  intro d
  induction d with
  | zero =>
    intro i j hd h0 h1 h2 h3 h4
    exact base i j h0 h1 (by omega) h2 h3 h4
  | succ d ih =>
    intro i j hd h0 h1 h2 h3 h4
    by_cases c : i < j
    · have w1 : w64 (i + j) = i + j := w64_id (by omega) (by omega)
      have w2 : w64 ((i + j) / 2) = (i + j) / 2 := w64_id (by omega) (by omega)
      have w3 : w64 ((i + j) / 2 + 1) = (i + j) / 2 + 1 := w64_id (by omega) (by omega)
      have w4 : w64 (0 + (i + j) / 2) = (i + j) / 2 := by rw [Int.zero_add]; exact w2
      obtain ⟨_, e1, _⟩ := lossF_eq m h ((i + j) / 2) ⟨by omega, by omega⟩
      have ef : m_impl_firstIn_1 ((i + j) / 2) (fun x => m_impl_WidthAt_1 x m loss) 0 = some (decide (loss < lossF m ((i + j) / 2))) := by
        unfold m_impl_firstIn_1
        rw [w4]
        unfold m_impl_WidthAt_1
        simp only [e1, Option.bind_some]
      by_cases cl : loss < lossF m ((i + j) / 2)
      · rw [decide_eq_true cl] at ef
        obtain ⟨r, r1, r2⟩ := ih i ((i + j) / 2) (by omega) h0 (by omega) (by omega) h3 (.inr cl)
        refine ⟨r, (loopM_inl (s' := (i, (i + j) / 2)) ?_).trans r1, r2⟩
        simp only [m_sort_Search_B2, decide_eq_true c, cond_true, w1, shr1 (show 0 ≤ i + j by omega) (by omega), Option.bind_some, w2, ef, Bool.not_true, cond_false]
      · rw [decide_eq_false cl] at ef
        obtain ⟨r, r1, r2⟩ := ih ((i + j) / 2 + 1) j (by omega) (by omega) (by omega) h2 (.inr (by rw [Int.add_sub_cancel]; omega)) h4
        refine ⟨r, (loopM_inl (s' := ((i + j) / 2 + 1, j)) ?_).trans r1, r2⟩
        simp only [m_sort_Search_B2, decide_eq_true c, cond_true, w1, shr1 (show 0 ≤ i + j by omega) (by omega), Option.bind_some, w2, ef, Bool.not_false, w3]
    · exact base i j h0 h1 c h2 h3 h4

theorem width_same (m : GMask) (hf : FitsMask m) (loss : Int) : ∃ v c, m_spec_WidthAt m loss = some (v, c) ∧ m_impl_WidthAt m loss = some (v, c) := by
  unfold m_spec_WidthAt m_impl_WidthAt
  rw [maskSpec_eq m hf.1 hf.2, maskImpl_eq m hf.1 hf.2, in_eq, within_eq]
  cases ho : mOk m with
  | false => exact ⟨0, 1, rfl, rfl⟩
  | true =>
    cases hl : decide ((0 : Int) ≤ loss ∧ loss ≤ 120000) with
    | false => exact ⟨0, 2, rfl, rfl⟩
    | true =>
      have h := mOk_true ho
      have hl := of_decide_eq_true hl
      have hn := h.n1
      have hn2 := h.n2
      have hb := h.obd (m.Offsets.length - 1) (by omega)
      have hz := lossF_zero m h
      have hw : w64 ((m.Offsets.length : Int) - 1) = ((m.Offsets.length - 1 : Nat) : Int) := by rw [w64_id (by omega) (by omega)]; omega
      have hi : idx m.Offsets ((m.Offsets.length - 1 : Nat) : Int) = some (m.Offsets.getD (m.Offsets.length - 1) 0) := idx_getD 0 (by omega)
      obtain ⟨eL, _, _⟩ := lossF_eq m h _ ⟨hb.1, Int.le_refl _⟩
      have wn : w64 (w64 (m.Offsets.getD (m.Offsets.length - 1) 0 - 0) + 1) = m.Offsets.getD (m.Offsets.length - 1) 0 + 1 := by
        rw [Int.sub_zero, w64_id (n := m.Offsets.getD (m.Offsets.length - 1) 0) (by omega) (by omega), w64_id (by omega) (by omega)]
      obtain ⟨r, r1, r2, r3, r4, r5⟩ := widthI m h loss (m.Offsets.getD (m.Offsets.length - 1) 0 + 1 - 0).toNat 0 (m.Offsets.getD (m.Offsets.length - 1) 0 + 1) (Nat.le_refl _) (Int.le_refl _) (by omega) (Int.le_refl _) (.inl rfl) (.inl rfl)
      have eI : m_impl_firstIn 0 (m.Offsets.getD (m.Offsets.length - 1) 0) (fun x => m_impl_WidthAt_1 x m loss) = some (r, decide (r < m.Offsets.getD (m.Offsets.length - 1) 0 + 1)) := by
        unfold m_impl_firstIn m_sort_Search
        rw [wn, r1]
        simp only [Option.bind_some]
        rw [Int.zero_add, w64_id (n := r) (by omega) (by omega)]
      have eE : m_impl_Mask_end m = some (m.Offsets.getD (m.Offsets.length - 1) 0) := by
        unfold m_impl_Mask_end; rw [hw, hi]; rfl
      simp only [Option.bind_some, Bool.not_true, cond_false, hw, hi, eL, eE, eI]
      by_cases c : lossF m (m.Offsets.getD (m.Offsets.length - 1) 0) ≤ loss
      · -- nothing lies above the loss
        have hr : r = m.Offsets.getD (m.Offsets.length - 1) 0 + 1 := by
          rcases r5 with r5 | r5
          · exact r5
          · by_cases hc : r = m.Offsets.getD (m.Offsets.length - 1) 0 + 1
            · exact hc
            · have := lossF_mono m h r2 (show r ≤ m.Offsets.getD (m.Offsets.length - 1) 0 by omega) (Int.le_refl _)
              omega
        rw [decide_eq_true c, lt_false (show ¬ r < m.Offsets.getD (m.Offsets.length - 1) 0 + 1 by omega)]
        exact ⟨0, 3, rfl, rfl⟩
      · have hrl : r ≠ m.Offsets.getD (m.Offsets.length - 1) 0 + 1 := by
          intro e
          rcases r4 with r4 | r4
          · omega
          · rw [e, Int.add_sub_cancel] at r4; omega
        have hr5 : loss < lossF m r := r5.resolve_left hrl
        have hr0 : r ≠ 0 := by intro e; rw [e, hz] at hr5; omega
        have hr4 : lossF m (r - 1) ≤ loss := r4.resolve_left hr0
        have hpos : 0 < m.Offsets.getD (m.Offsets.length - 1) 0 := by omega
        obtain ⟨q, q1, q2, q3, q4, q5⟩ := widthS m h loss (m.Offsets.getD (m.Offsets.length - 1) 0 - 0).toNat 0 _ (Nat.le_refl _) (Int.le_refl _) hpos (Int.le_refl _) (by omega) (by omega)
        have hq : q = r - 1 := by
          rcases Int.lt_trichotomy q (r - 1) with hc | hc | hc
          · have := lossF_mono m h (show 0 ≤ q + 1 by omega) (show q + 1 ≤ r - 1 by omega) (by omega)
            omega
          · exact hc
          · have := lossF_mono m h r2 (show r ≤ q by omega) (by omega)
            omega
        rw [decide_eq_false c, decide_eq_true (show r < m.Offsets.getD (m.Offsets.length - 1) 0 + 1 by omega), w64_id (n := r - 1) (by omega) (by omega)]
        simp only [cond_false, q1, Option.bind_some]
        rw [hq]
        exact ⟨_, 0, rfl, rfl⟩

theorem law_FnExactWidthAt (m : GMask) (loss : Int) (k : okGMask m) (_kl : (Lit.int .i64 loss).wf = true) : m_laws_FnExactWidthAt m loss = some true := by
  unfold m_laws_FnExactWidthAt
  obtain ⟨r, hr, hc⟩ := szMask_eq m k
  rw [hr, Option.bind_some]
  rcases hc with hc | ⟨hc, hc2, hf⟩
  · rw [decide_eq_true hc]; rfl
  rw [decide_eq_false (by omega), cond_false]
  obtain ⟨v, c, e1, e2⟩ := width_same m hf loss
  have h1 := hf.1
  have h2 := hf.2
  have et : m_laws_toMask m = some m := by
    unfold m_laws_toMask
    rw [toInt64S_eq _ h1, Option.bind_some, toInt64S_eq _ h2]; rfl
  have ee : m_laws_eqMask m m = some true := by
    unfold m_laws_eqMask
    rw [eqInt64S_eq _ _ (by omega), eqInt64S_eq _ _ (by omega), decide_eq_true rfl, decide_eq_true rfl]; rfl
  simp only [et, ee, e1, e2, Option.bind_some, bne_self, cond_false, Bool.not_true]
end Go.Wk
