/-
  Plain laws: masks and their losses. No program in sight. Our own work.
-/
import Derived.Test.YtbhegklilcpbmaaDoorLawRises
import Derived.Test.YtbhegklilcpbmaaDoorLawTabOk
import Derived.Test.YtbhegklilcpbmaaDoorLawTable
import Derived.Test.YtbhegklilcpbmaaDoorPlainE
namespace Go.Wk
open Go Go.RowKit

def mOk (m : GMask) : Bool := decide (2 ≤ m.Offsets.length ∧ m.Offsets.length ≤ 12 ∧ m.Losses.length = m.Offsets.length) && (decide (m.Offsets.getD 0 0 = 0) && (decide (m.Losses.getD 0 0 = 0) && (((List.range m.Offsets.length).all (risesN m.Offsets) && m.Offsets.all fun x => decide ((0 : Int) ≤ x ∧ x ≤ 100000)) && ((List.range m.Losses.length).all (ndN m.Losses) && m.Losses.all fun x => decide ((0 : Int) ≤ x ∧ x ≤ 120000)))))

theorem rises_nd {l : List Int} (h : (List.range l.length).all (risesN l) = true) : (List.range l.length).all (ndN l) = true := by
  rw [List.all_eq_true] at h ⊢
  intro k hk
  have := h k hk
  unfold risesN at this
  unfold ndN
  rw [decide_eq_true_eq] at this ⊢
  omega
theorem nd_mono {l : List Int} (h : (List.range l.length).all (ndN l) = true) : ∀ (j i : Nat), i ≤ j → j < l.length → l.getD i 0 ≤ l.getD j 0 := by
  intro j
  induction j with
  | zero => intro i hi _; have : i = 0 := by omega
            subst this; exact Int.le_refl _
  | succ j ih =>
    intro i hi hj
    by_cases e : i = j + 1
    · subst e; exact Int.le_refl _
    · have h1 := ih i (by omega) (by omega)
      have := range_all_true h (j + 1) hj
      unfold ndN at this
      rw [decide_eq_true_eq, Nat.add_sub_cancel] at this
      omega
/-- Of a list that does not fall and begins with 0 the last number bounds all. -/
theorem nd_all {l : List Int} (h : (List.range l.length).all (ndN l) = true) (h0 : l.getD 0 0 = 0) (hn : 1 ≤ l.length) (top : Int) : (l.all fun x => decide ((0 : Int) ≤ x ∧ x ≤ top)) = decide (l.getD (l.length - 1) 0 ≤ top) := by
  rw [Bool.eq_iff_iff, List.all_eq_true, decide_eq_true_eq]
  constructor
  · intro hh
    have := hh (l.getD (l.length - 1) 0) (by rw [getD_lt 0 (by omega)]; exact List.getElem_mem _)
    rw [decide_eq_true_eq] at this
    exact this.2
  · intro hh x hx
    obtain ⟨k, hk, rfl⟩ := List.getElem_of_mem hx
    have a1 := nd_mono h k 0 (by omega) hk
    have a2 := nd_mono h (l.length - 1) k (by omega) (by omega)
    rw [getD_lt 0 hk] at a1 a2
    rw [decide_eq_true_eq]; omega

theorem maskSpec_eq (m : GMask) (hO : m.Offsets.length ≤ 1048576) (hL : m.Losses.length ≤ 1048576) : m_spec_l08Ok m = some (mOk m) := by
  unfold m_spec_l08Ok mOk
  by_cases c1 : 2 ≤ m.Offsets.length
  case neg => rw [decide_eq_true (show (m.Offsets.length : Int) < 2 by omega), decide_eq_false (show ¬ (2 ≤ m.Offsets.length ∧ m.Offsets.length ≤ 12 ∧ m.Losses.length = m.Offsets.length) by omega)]; rfl
  by_cases c2 : m.Offsets.length ≤ 12
  case neg => rw [lt_false (show ¬ (m.Offsets.length : Int) < 2 by omega), decide_eq_true (show (12 : Int) < (m.Offsets.length : Int) by omega), decide_eq_false (show ¬ (2 ≤ m.Offsets.length ∧ m.Offsets.length ≤ 12 ∧ m.Losses.length = m.Offsets.length) by omega)]; rfl
  by_cases c3 : m.Losses.length = m.Offsets.length
  case neg =>
    have e : ((m.Losses.length : Int) != (m.Offsets.length : Int)) = true := by simp only [bne_iff_ne, ne_eq]; omega
    rw [lt_false (show ¬ (m.Offsets.length : Int) < 2 by omega), lt_false (show ¬ (12 : Int) < (m.Offsets.length : Int) by omega), e, decide_eq_false (show ¬ (2 ≤ m.Offsets.length ∧ m.Offsets.length ≤ 12 ∧ m.Losses.length = m.Offsets.length) by omega)]; rfl
  have e3 : ((m.Losses.length : Int) != (m.Offsets.length : Int)) = false := by rw [c3]; exact bne_self _
  have i0 : idx m.Offsets (0 : Int) = some (m.Offsets.getD 0 0) := idx_getD (k := 0) 0 (by omega)
  have i1 : idx m.Losses (0 : Int) = some (m.Losses.getD 0 0) := idx_getD (k := 0) 0 (by omega)
  rw [lt_false (show ¬ (m.Offsets.length : Int) < 2 by omega), lt_false (show ¬ (12 : Int) < (m.Offsets.length : Int) by omega), e3, decide_eq_true (show (2 ≤ m.Offsets.length ∧ m.Offsets.length ≤ 12 ∧ m.Losses.length = m.Offsets.length) from ⟨c1, c2, c3⟩), i0, i1, risesSpec_eq _ hO]
  simp only [cond_false, Option.bind_some, Bool.true_and]
  have b0 : (m.Offsets.getD 0 0 != 0) = !decide (m.Offsets.getD 0 0 = 0) := by rw [Bool.eq_iff_iff]; simp
  have b1 : (m.Losses.getD 0 0 != 0) = !decide (m.Losses.getD 0 0 = 0) := by rw [Bool.eq_iff_iff]; simp
  rw [b0, b1]
  cases decide (m.Offsets.getD 0 0 = 0) with
  | false => rfl
  | true =>
  cases decide (m.Losses.getD 0 0 = 0) with
  | false => rfl
  | true =>
  cases ((List.range m.Offsets.length).all (risesN m.Offsets) && m.Offsets.all fun x => decide ((0 : Int) ≤ x ∧ x ≤ 100000)) with
  | false => rfl
  | true =>
    simp only [Bool.not_true, cond_false, Bool.true_and, Option.bind_some]
    have key := all_loop_g m.Offsets.length (fun s : Int => m_spec_l08Ok_B11 m s) (fun k => ndN m.Losses k && decide ((0 : Int) ≤ m.Losses.getD k 0 ∧ m.Losses.getD k 0 ≤ 120000)) true false 0 (by omega) (fun j h => absurd h (by omega)) (fun k _ hk hp => ?_) (fun _ => ?_)
    · rw [← c3, all_range_and, all_range_get m.Losses 0 (fun x => decide ((0 : Int) ≤ x ∧ x ≤ 120000)), if_bool] at key
      exact key
    · have hkl : k < m.Losses.length := by omega
      simp only [m_spec_l08Ok_B11, lt_true hk, cond_true, idx_getD 0 hkl, Option.bind_some, in_eq]
      rw [w64_id (n := (k : Int) + 1) (by omega) (by omega)]
      by_cases c1 : (0 : Int) ≤ m.Losses.getD k 0 ∧ m.Losses.getD k 0 ≤ 120000
      case neg => rw [decide_eq_false c1, Bool.and_false]; rfl
      rw [decide_eq_true c1, Bool.and_true]
      unfold ndN
      by_cases c2 : 0 < k
      · have hk1 : k - 1 < m.Losses.length := by omega
        have e : w64 ((k : Int) - 1) = ((k - 1 : Nat) : Int) := by rw [w64_id (by omega) (by omega)]; omega
        rw [e, idx_getD 0 hk1, decide_eq_true (show (0 : Int) < (k : Int) by omega)]
        by_cases c3 : m.Losses.getD k 0 < m.Losses.getD (k - 1) 0
        · rw [decide_eq_false (show ¬ (k = 0 ∨ m.Losses.getD (k - 1) 0 ≤ m.Losses.getD k 0) by omega)]
          simp only [Bool.not_true, cond_false, cond_true, Option.bind_some, decide_eq_true c3]; rfl
        · rw [decide_eq_true (show (k = 0 ∨ m.Losses.getD (k - 1) 0 ≤ m.Losses.getD k 0) by omega)]
          simp only [Bool.not_true, cond_false, cond_true, Option.bind_some, decide_eq_false c3]; rfl
      · rw [decide_eq_false (show ¬ (0 : Int) < (k : Int) by omega), decide_eq_true (show (k = 0 ∨ m.Losses.getD (k - 1) 0 ≤ m.Losses.getD k 0) by omega)]
        rfl
    · simp only [m_spec_l08Ok_B11, lt_self, cond_false, Option.map_some]

theorem maskImpl_eq (m : GMask) (hO : m.Offsets.length ≤ 1048576) (hL : m.Losses.length ≤ 1048576) : m_impl_ValidMask m = some (mOk m) := by
  unfold m_impl_ValidMask mOk
  by_cases c1 : 2 ≤ m.Offsets.length
  case neg => rw [decide_eq_true (show (m.Offsets.length : Int) < 2 by omega), decide_eq_false (show ¬ (2 ≤ m.Offsets.length ∧ m.Offsets.length ≤ 12 ∧ m.Losses.length = m.Offsets.length) by omega)]; rfl
  by_cases c2 : m.Offsets.length ≤ 12
  case neg => rw [lt_false (show ¬ (m.Offsets.length : Int) < 2 by omega), decide_eq_true (show (12 : Int) < (m.Offsets.length : Int) by omega), decide_eq_false (show ¬ (2 ≤ m.Offsets.length ∧ m.Offsets.length ≤ 12 ∧ m.Losses.length = m.Offsets.length) by omega)]; rfl
  by_cases c3 : m.Losses.length = m.Offsets.length
  case neg =>
    have e : ((m.Losses.length : Int) != (m.Offsets.length : Int)) = true := by simp only [bne_iff_ne, ne_eq]; omega
    rw [lt_false (show ¬ (m.Offsets.length : Int) < 2 by omega), lt_false (show ¬ (12 : Int) < (m.Offsets.length : Int) by omega), e, decide_eq_false (show ¬ (2 ≤ m.Offsets.length ∧ m.Offsets.length ≤ 12 ∧ m.Losses.length = m.Offsets.length) by omega)]; rfl
  have e3 : ((m.Losses.length : Int) != (m.Offsets.length : Int)) = false := by rw [c3]; exact bne_self _
  have i0 : idx m.Offsets (0 : Int) = some (m.Offsets.getD 0 0) := idx_getD (k := 0) 0 (by omega)
  have i1 : idx m.Losses (0 : Int) = some (m.Losses.getD 0 0) := idx_getD (k := 0) 0 (by omega)
  have hw : w64 ((m.Offsets.length : Int) - 1) = ((m.Offsets.length - 1 : Nat) : Int) := by rw [w64_id (by omega) (by omega)]; omega
  have j0 : idx m.Offsets ((m.Offsets.length - 1 : Nat) : Int) = some (m.Offsets.getD (m.Offsets.length - 1) 0) := idx_getD 0 (by omega)
  have j1 : idx m.Losses ((m.Offsets.length - 1 : Nat) : Int) = some (m.Losses.getD (m.Losses.length - 1) 0) := by rw [c3]; exact idx_getD 0 (by omega)
  rw [lt_false (show ¬ (m.Offsets.length : Int) < 2 by omega), lt_false (show ¬ (12 : Int) < (m.Offsets.length : Int) by omega), e3, decide_eq_true (show (2 ≤ m.Offsets.length ∧ m.Offsets.length ≤ 12 ∧ m.Losses.length = m.Offsets.length) from ⟨c1, c2, c3⟩), i0, i1, hw, j0, j1, incImpl_eq _ (by omega) hO, sorted_eq _ (by omega) hL]
  simp only [cond_false, Option.bind_some, Bool.true_and]
  have b0 : (m.Offsets.getD 0 0 != 0) = !decide (m.Offsets.getD 0 0 = 0) := by rw [Bool.eq_iff_iff]; simp
  have b1 : (m.Losses.getD 0 0 != 0) = !decide (m.Losses.getD 0 0 = 0) := by rw [Bool.eq_iff_iff]; simp
  rw [b0, b1]
  by_cases z0 : m.Offsets.getD 0 0 = 0
  case neg => rw [decide_eq_false z0]; rfl
  by_cases z1 : m.Losses.getD 0 0 = 0
  case neg => rw [decide_eq_true z0, decide_eq_false z1]; rfl
  rw [decide_eq_true z0, decide_eq_true z1]
  cases hr : (List.range m.Offsets.length).all (risesN m.Offsets) with
  | false => rfl
  | true =>
    rw [nd_all (rises_nd hr) z0 (by omega)]
    cases decide (m.Offsets.getD (m.Offsets.length - 1) 0 ≤ 100000) with
    | false => rfl
    | true =>
      cases hs : (List.range m.Losses.length).all (ndN m.Losses) with
      | false => rfl
      | true =>
        rw [nd_all hs z1 (by omega)]; rfl

structure MaskOk (m : GMask) : Prop where
  n1 : 2 ≤ m.Offsets.length
  n2 : m.Offsets.length ≤ 12
  len : m.Losses.length = m.Offsets.length
  o0 : m.Offsets.getD 0 0 = 0
  l0 : m.Losses.getD 0 0 = 0
  rise : ∀ k, 0 < k → k < m.Offsets.length → m.Offsets.getD (k - 1) 0 < m.Offsets.getD k 0
  obd : ∀ k, k < m.Offsets.length → 0 ≤ m.Offsets.getD k 0 ∧ m.Offsets.getD k 0 ≤ 100000
  lmono : ∀ j i, i ≤ j → j < m.Offsets.length → m.Losses.getD i 0 ≤ m.Losses.getD j 0
  lbd : ∀ k, k < m.Offsets.length → 0 ≤ m.Losses.getD k 0 ∧ m.Losses.getD k 0 ≤ 120000
theorem mOk_true {m : GMask} (h : mOk m = true) : MaskOk m := by
  unfold mOk at h
  simp only [Bool.and_eq_true, decide_eq_true_eq] at h
  obtain ⟨⟨h1, h2, h3⟩, h4, h5, ⟨h6, h7⟩, h8, h9⟩ := h
  refine ⟨h1, h2, h3, h4, h5, fun k hk hkn => ?_, fun k hk => ?_, fun j i hij hj => nd_mono h8 j i hij (by omega), fun k hk => ?_⟩
  · have := range_all_true h6 k hkn
    unfold risesN at this
    rw [decide_eq_true_eq] at this
    omega
  · have := List.all_eq_true.1 h7 (m.Offsets.getD k 0) (by rw [getD_lt 0 hk]; exact List.getElem_mem _)
    rwa [decide_eq_true_eq] at this
  · have := List.all_eq_true.1 h9 (m.Losses.getD k 0) (by rw [getD_lt 0 (show k < m.Losses.length by omega)]; exact List.getElem_mem _)
    rwa [decide_eq_true_eq] at this

/-! ### the loss at an offset -/
/-- The first place whose offset reaches x. -/
def Seg (m : GMask) (x : Int) (k : Nat) : Prop := 1 ≤ k ∧ k < m.Offsets.length ∧ x ≤ m.Offsets.getD k 0 ∧ ∀ j, 1 ≤ j → j < k → m.Offsets.getD j 0 < x
theorem seg_ex (m : GMask) (h : MaskOk m) (x : Int) (hx : x ≤ m.Offsets.getD (m.Offsets.length - 1) 0) : ∃ k, Seg m x k := by
  have hn := h.n1
  have key : ∀ (d i : Nat), i + d = m.Offsets.length - 1 → 1 ≤ i → (∀ j, 1 ≤ j → j < i → m.Offsets.getD j 0 < x) → ∃ k, Seg m x k := by
    intro d
    induction d with
    | zero => intro i hi h1 hj; exact ⟨i, h1, by omega, by rw [show i = m.Offsets.length - 1 by omega]; exact hx, hj⟩
    | succ d ih =>
      intro i hi h1 hj
      by_cases c : x ≤ m.Offsets.getD i 0
      · exact ⟨i, h1, by omega, c, hj⟩
      · refine ih (i + 1) (by omega) (by omega) (fun j h1 h2 => ?_)
        by_cases e : j = i
        · subst e; omega
        · exact hj j h1 (by omega)
  exact key (m.Offsets.length - 2) 1 (by omega) (by omega) (fun j h1 h2 => by omega)
def lossV (m : GMask) (k : Nat) (x : Int) : Int := lineN (m.Offsets.getD (k - 1) 0) (m.Losses.getD (k - 1) 0) (m.Offsets.getD k 0) (m.Losses.getD k 0) x

theorem lossSpec_eq (m : GMask) (h : MaskOk m) (x : Int) (hx : 0 ≤ x ∧ x ≤ 100000) (k : Nat) (hs : Seg m x k) : m_spec_l08Loss m x = some (lossV m k x) := by
  obtain ⟨k1, k2, k3, k4⟩ := hs
  have hn := h.n2
  have hlen := h.len
  unfold m_spec_l08Loss
  rw [lt_false (show ¬ x < 0 by omega), cond_false, Option.bind_some]
  have key : ∀ (d i : Nat), i + d = k → 1 ≤ i → loopM (fun s : Int => m_spec_l08Loss_B3 m x s) (i : Int) = some (lossV m k x) := by
    intro d
    induction d with
    | zero =>
      intro i hi h1
      have e : i = k := by omega
      subst e
      refine loopM_inr ?_
      have hw : w64 ((i : Int) - 1) = ((i - 1 : Nat) : Int) := by rw [w64_id (by omega) (by omega)]; omega
      have a0 := h.obd (i - 1) (by omega)
      have a1 := h.lbd (i - 1) (by omega)
      have a2 := h.obd i k2
      have a3 := h.lbd i k2
      have el : m_spec_l01Line (m.Offsets.getD (i - 1) 0) (m.Losses.getD (i - 1) 0) (m.Offsets.getD i 0) (m.Losses.getD i 0) x = some (lossV m i x) := line_eq _ _ _ _ _ (by unfold Small; omega) (by unfold Small; omega) (by unfold Small; omega) (by unfold Small; omega) (by unfold Small; omega)
      simp only [m_spec_l08Loss_B3, lt_true k2, cond_true, idx_getD 0 k2, Option.bind_some, decide_eq_true k3, hw, idx_getD 0 (show i - 1 < m.Offsets.length by omega), idx_getD 0 (show i - 1 < m.Losses.length by omega), idx_getD 0 (show i < m.Losses.length by omega), el, Option.map_some]
    | succ d ih =>
      intro i hi h1
      have hik : i < m.Offsets.length := by omega
      have c := k4 i h1 (by omega)
      refine (loopM_inl (s' := ((i + 1 : Nat) : Int)) ?_).trans (ih (i + 1) (by omega) (by omega))
      simp only [m_spec_l08Loss_B3, lt_true hik, cond_true, idx_getD 0 hik, Option.bind_some, decide_eq_false (show ¬ x ≤ m.Offsets.getD i 0 by omega), cond_false]
      rw [w64_id (by omega) (by omega)]; rfl
  exact key (k - 1) 1 (by omega) (by omega)

theorem lossImpl_eq (m : GMask) (h : MaskOk m) (x : Int) (hx : 0 ≤ x ∧ x ≤ 100000) (k : Nat) (hs : Seg m x k) : m_impl_Mask_loss m x = some (lossV m k x) := by
  obtain ⟨k1, k2, k3, k4⟩ := hs
  have hn := h.n2
  have hlen := h.len
  unfold m_impl_Mask_loss
  rw [abs_eq x (by omega), if_neg (by omega), Option.bind_some]
  have hwn : w64 ((m.Offsets.length : Int) - 1) = (m.Offsets.length : Int) - 1 := w64_id (by omega) (by omega)
  have key : ∀ (d i : Nat), i + d = k → 1 ≤ i → loopM (fun s : Int => m_impl_Mask_loss_B3 m x s) (i : Int) = some (k : Int) := by
    intro d
    induction d with
    | zero =>
      intro i hi h1
      have e : i = k := by omega
      subst e
      refine loopM_inr ?_
      simp only [m_impl_Mask_loss_B3, hwn]
      by_cases c : (i : Int) < (m.Offsets.length : Int) - 1
      · rw [decide_eq_true c, cond_true, idx_getD 0 k2, Option.bind_some, decide_eq_false (show ¬ m.Offsets.getD i 0 < x by omega)]; rfl
      · rw [decide_eq_false c]; rfl
    | succ d ih =>
      intro i hi h1
      have hik : i < m.Offsets.length := by omega
      have c := k4 i h1 (by omega)
      refine (loopM_inl (s' := ((i + 1 : Nat) : Int)) ?_).trans (ih (i + 1) (by omega) (by omega))
      simp only [m_impl_Mask_loss_B3, hwn, decide_eq_true (show (i : Int) < (m.Offsets.length : Int) - 1 by omega), cond_true, idx_getD 0 hik, Option.bind_some, decide_eq_true c]
      rw [w64_id (by omega) (by omega)]; rfl
  have l1 : loopM (fun s : Int => m_impl_Mask_loss_B3 m x s) (1 : Int) = some (k : Int) := key (k - 1) 1 (by omega) (by omega)
  have hw : w64 ((k : Int) - 1) = ((k - 1 : Nat) : Int) := by rw [w64_id (by omega) (by omega)]; omega
  have a0 := h.obd (k - 1) (by omega)
  have a1 := h.lbd (k - 1) (by omega)
  have a2 := h.obd k k2
  have a3 := h.lbd k k2
  have el : m_impl_blend (m.Offsets.getD (k - 1) 0) (m.Losses.getD (k - 1) 0) (m.Offsets.getD k 0) (m.Losses.getD k 0) x = some (lossV m k x) := blend_eq _ _ _ _ _ (by unfold Small; omega) (by unfold Small; omega) (by unfold Small; omega) (by unfold Small; omega) (by unfold Small; omega)
  simp only [l1, Option.bind_some, hw, idx_getD 0 k2, idx_getD 0 (show k - 1 < m.Offsets.length by omega), idx_getD 0 (show k - 1 < m.Losses.length by omega), idx_getD 0 (show k < m.Losses.length by omega), el]

/-! ### a loss does not fall -/
theorem rnd_bd {a b d : Int} (hb : 0 < b) (ha : 0 ≤ a) (hd : a ≤ d * b) : 0 ≤ rnd a b ∧ rnd a b ≤ d := by
  unfold rnd
  rw [if_neg (by omega)]
  refine ⟨Int.ediv_nonneg (by omega) (by omega), ?_⟩
  have : (2 * a + b) / (2 * b) < d + 1 := Int.ediv_lt_of_lt_mul (by omega) (by
    have e : (d + 1) * (2 * b) = 2 * (d * b) + 2 * b := by rw [Int.add_mul, Int.one_mul, Int.mul_left_comm]
    rw [e]; omega)
  omega
theorem rnd_mono {a a' b : Int} (hb : 0 < b) (ha : 0 ≤ a) (h : a ≤ a') : rnd a b ≤ rnd a' b := by
  unfold rnd
  rw [if_neg (by omega), if_neg (by omega)]
  exact Int.ediv_le_ediv (by omega) (by omega)
theorem line_in {x0 y0 x1 y1 x : Int} (h1 : x0 < x1) (h2 : y0 ≤ y1) (hy0 : 0 ≤ y0) (hy1 : y1 ≤ 120000) (hx : x0 < x) (hx1 : x < x1) : lineN x0 y0 x1 y1 x = y0 + rnd ((y1 - y0) * (x - x0)) (x1 - x0) ∧ 0 ≤ rnd ((y1 - y0) * (x - x0)) (x1 - x0) ∧ rnd ((y1 - y0) * (x - x0)) (x1 - x0) ≤ y1 - y0 := by
  have hb := rnd_bd (a := (y1 - y0) * (x - x0)) (b := x1 - x0) (d := y1 - y0) (by omega) (Int.mul_nonneg (by omega) (by omega)) (Int.mul_le_mul_of_nonneg_left (by omega) (by omega))
  refine ⟨?_, hb⟩
  unfold lineN
  rw [if_neg (by omega), if_neg (by omega), w64_id (by omega) (by omega)]
theorem line_bd {x0 y0 x1 y1 x : Int} (h1 : x0 < x1) (h2 : y0 ≤ y1) (hy0 : 0 ≤ y0) (hy1 : y1 ≤ 120000) : y0 ≤ lineN x0 y0 x1 y1 x ∧ lineN x0 y0 x1 y1 x ≤ y1 := by
  by_cases c1 : x ≤ x0
  · unfold lineN; rw [if_pos (.inl c1)]; omega
  · by_cases c2 : x1 ≤ x
    · unfold lineN; rw [if_neg (by omega), if_pos c2]; omega
    · obtain ⟨e, a, b⟩ := line_in h1 h2 hy0 hy1 (show x0 < x by omega) (show x < x1 by omega)
      rw [e]; omega
theorem line_mono {x0 y0 x1 y1 x x' : Int} (h1 : x0 < x1) (h2 : y0 ≤ y1) (hy0 : 0 ≤ y0) (hy1 : y1 ≤ 120000) (hx : x ≤ x') : lineN x0 y0 x1 y1 x ≤ lineN x0 y0 x1 y1 x' := by
  have b1 := line_bd (x := x) h1 h2 hy0 hy1
  have b2 := line_bd (x := x') h1 h2 hy0 hy1
  by_cases c1 : x ≤ x0
  · have e : lineN x0 y0 x1 y1 x = y0 := by unfold lineN; rw [if_pos (.inl c1)]
    omega
  · by_cases c2 : x1 ≤ x'
    · have e : lineN x0 y0 x1 y1 x' = y1 := by unfold lineN; rw [if_neg (by omega), if_pos c2]
      omega
    · obtain ⟨e, _, _⟩ := line_in h1 h2 hy0 hy1 (show x0 < x by omega) (show x < x1 by omega)
      obtain ⟨e', _, _⟩ := line_in h1 h2 hy0 hy1 (show x0 < x' by omega) (show x' < x1 by omega)
      have := rnd_mono (a := (y1 - y0) * (x - x0)) (a' := (y1 - y0) * (x' - x0)) (b := x1 - x0) (by omega) (Int.mul_nonneg (by omega) (by omega)) (Int.mul_le_mul_of_nonneg_left (by omega) (by omega))
      rw [e, e']; omega
theorem loss_mono (m : GMask) (h : MaskOk m) {x y : Int} (hxy : x ≤ y) {k j : Nat} (hk : Seg m x k) (hj : Seg m y j) : lossV m k x ≤ lossV m j y := by
  obtain ⟨k1, k2, k3, k4⟩ := hk
  obtain ⟨j1, j2, j3, j4⟩ := hj
  have rk := h.rise k (by omega) k2
  have rj := h.rise j (by omega) j2
  have mk := h.lmono k (k - 1) (by omega) k2
  have mj := h.lmono j (j - 1) (by omega) j2
  have bk := line_bd (x := x) rk mk (h.lbd (k - 1) (by omega)).1 (h.lbd k k2).2
  have bj := line_bd (x := y) rj mj (h.lbd (j - 1) (by omega)).1 (h.lbd j j2).2
  rcases Nat.lt_trichotomy k j with c | c | c
  · have := h.lmono (j - 1) k (by omega) (by omega)
    unfold lossV
    omega
  · subst c
    exact line_mono rk mk (h.lbd (k - 1) (by omega)).1 (h.lbd k k2).2 hxy
  · have := k4 j j1 c
    omega
end Go.Wk
