/-
  Plain laws: the library's merge in place of two sorted parts. No program in sight. Our own work.
-/
import Derived.Test.YtfadnbelnfofbaaLawSwapR
import Derived.Test.YtfadnbelnfofbaaMore
namespace Go.Wk
open Go Go.RowKit

/-- The half of a sum, as the library takes it. -/
theorem half_eq {i j : Nat} (h : i + j ≤ 100000) : bitOp .shr .u64 (IntKind.wrap .u64 (w64 ((i : Int) + (j : Int)))) (1 : Int) = some (((i + j) / 2 : Nat) : Int) := by
  have hw : IntKind.wrap .u64 (w64 ((i : Int) + (j : Int))) = ((i + j : Nat) : Int) := by
    rw [w64_id (by omega) (by omega)]
    have := IntWalk.u64_in ((i : Int) + (j : Int)) ⟨by omega, by omega⟩
    rw [this]; omega
  rw [hw]
  simp only [bitOp]
  rw [if_neg (by omega)]
  congr 1
  have e : min (1 : Int).toNat IntKind.u64.bits = 1 := by decide
  rw [e, Int.fdiv_eq_ediv_of_nonneg _ (by decide)]
  omega

/-- x comes ahead of y: a greater degree, or the same and a smaller number. -/
def Prec (d : Int → Int) (x y : Int) : Prop := d y < d x ∨ (d x = d y ∧ x < y)
theorem Prec.trans {d : Int → Int} {x y z : Int} (h1 : Prec d x y) (h2 : Prec d y z) : Prec d x z := by
  unfold Prec at *; omega
theorem Prec.ne {d : Int → Int} {x y : Int} (h : Prec d x y) : ¬ Prec d y x := by unfold Prec at *; omega
theorem prec_right {d : Int → Int} {x y : Int} (h : x < y) : d x < d y ↔ Prec d y x := by unfold Prec; omega
theorem prec_left {d : Int → Int} {x y : Int} (h : x < y) : ¬ d x < d y ↔ Prec d x y := by unfold Prec; omega

/-- A search by halves. -/
theorem bin_loop (body : Int × Int → Option ((Int × Int) ⊕ Int)) (q : Nat → Bool) (lo hi : Nat) (hlh : lo ≤ hi)
    (hstep : ∀ i j : Nat, lo ≤ i → i < j → j ≤ hi → body ((i : Int), (j : Int)) = some (.inl (if q ((i + j) / 2) then ((((i + j) / 2 + 1 : Nat) : Int), (j : Int)) else ((i : Int), (((i + j) / 2 : Nat) : Int)))))
    (hend : ∀ i : Nat, body ((i : Int), (i : Int)) = some (.inr (i : Int))) (mono : ∀ c c', lo ≤ c → c < c' → c' < hi → q c' = true → q c = true) :
    ∃ s : Nat, lo ≤ s ∧ s ≤ hi ∧ loopM body ((lo : Int), (hi : Int)) = some (s : Int) ∧ (∀ c, lo ≤ c → c < s → q c = true) ∧ (∀ c, s ≤ c → c < hi → q c = false) := by
  have key : ∀ (K i j : Nat), j - i ≤ K → lo ≤ i → i ≤ j → j ≤ hi → (∀ c, lo ≤ c → c < i → q c = true) → (∀ c, j ≤ c → c < hi → q c = false) →
      ∃ s : Nat, lo ≤ s ∧ s ≤ hi ∧ loopM body ((i : Int), (j : Int)) = some (s : Int) ∧ (∀ c, lo ≤ c → c < s → q c = true) ∧ (∀ c, s ≤ c → c < hi → q c = false) := by
    intro K
    induction K with
    | zero =>
      intro i j hK h1 h2 h3 h4 h5
      have e : i = j := by omega
      subst e
      exact ⟨i, h1, h3, loopM_inr (hend i), h4, h5⟩
    | succ K ih =>
      intro i j hK h1 h2 h3 h4 h5
      by_cases e : i = j
      · subst e
        exact ⟨i, h1, h3, loopM_inr (hend i), h4, h5⟩
      · have hs := hstep i j h1 (by omega) h3
        cases hq : q ((i + j) / 2) with
        | true =>
          obtain ⟨s, r1, r2, r3, r4, r5⟩ := ih ((i + j) / 2 + 1) j (by omega) (by omega) (by omega) h3 (fun c hc1 hc2 => by
            by_cases e : c = (i + j) / 2
            · rw [e]; exact hq
            · exact mono c ((i + j) / 2) hc1 (by omega) (by omega) hq) h5
          refine ⟨s, r1, r2, ?_, r4, r5⟩
          rw [hq, if_pos rfl] at hs
          rw [loopM_inl hs]; exact r3
        | false =>
          obtain ⟨s, r1, r2, r3, r4, r5⟩ := ih i ((i + j) / 2) (by omega) h1 (by omega) (by omega) h4 (fun c hc1 hc2 => by
            by_cases e : c = (i + j) / 2
            · rw [e]; exact hq
            · cases hqc : q c with
              | false => rfl
              | true => exact absurd (mono ((i + j) / 2) c (by omega) (by omega) hc2 hqc) (by rw [hq]; decide))
          refine ⟨s, r1, r2, ?_, r4, r5⟩
          rw [hq] at hs
          rw [loopM_inl hs]; exact r3
  exact key (hi - lo) lo hi (Nat.le_refl _) (Nat.le_refl _) hlh (Nat.le_refl _) (fun c h1 h2 => by omega) (fun c h1 h2 => by omega)

/-- Two sorted parts, the left one's elements of smaller numbers. -/
structure Two (d : Int → Int) (S : Int → Prop) (f : Nat → Int) (a m b : Nat) : Prop where
  sl : ∀ i j, a ≤ i → i < j → j < m → Prec d (f i) (f j)
  sr : ∀ i j, m ≤ i → i < j → j < b → Prec d (f i) (f j)
  lt : ∀ i j, a ≤ i → i < m → m ≤ j → j < b → f i < f j
  s : ∀ i, a ≤ i → i < b → S (f i)
/-- The part is sorted, of the same elements; the rest is as it was. -/
structure Mrg (d : Int → Int) (f : Nat → Int) (a b : Nat) (g : Nat → Int) : Prop where
  so : ∀ i j, a ≤ i → i < j → j < b → Prec d (g i) (g j)
  ou : ∀ t, ¬ (a ≤ t ∧ t < b) → g t = f t
  inn : ∀ t, a ≤ t → t < b → ∃ u, a ≤ u ∧ u < b ∧ g t = f u
def CmpOk (d : Int → Int) (S : Int → Prop) (cmp : (Int × Int) → Option Int) : Prop := ∀ x y, S x → S y → ∃ c, cmp (x, y) = some c ∧ (c < 0 ↔ d y < d x)
theorem CmpOk.dec {d : Int → Int} {S : Int → Prop} {cmp : (Int × Int) → Option Int} (h : CmpOk d S cmp) {x y : Int} (hx : S x) (hy : S y) : ∃ c, cmp (x, y) = some c ∧ decide (c < 0) = decide (d y < d x) := by
  obtain ⟨c, h1, h2⟩ := h x y hx hy
  exact ⟨c, h1, by rw [Bool.eq_iff_iff, decide_eq_true_eq, decide_eq_true_eq]; exact h2⟩

/-- One element goes up to place s - 1. -/
theorem up_loop (v : List Int) (a s : Nat) (hN : v.length ≤ 1000) (has : a < s) (hs : s ≤ v.length) : ∀ (m k : Nat) (w : List Int), k + m + 1 = s → a ≤ k → w.length = v.length → (∀ t, ga w t = if a ≤ t ∧ t < k then ga v (t + 1) else if t = k then ga v a else ga v t) →
    ∃ v', loopM (fun z : (Int × (List Int)) => m_slices_symMergeCmpFunc_int64_B15 (s : Int) z.1 z.2) ((k : Int), w) = some v' ∧ v'.length = v.length ∧ ∀ t, ga v' t = if a ≤ t ∧ t < s - 1 then ga v (t + 1) else if t = s - 1 then ga v a else ga v t := by
  have e1 : w64 ((s : Int) - 1) = ((s - 1 : Nat) : Int) := by rw [w64_id (by omega) (by omega)]; omega
  intro m
  induction m with
  | zero =>
    intro k w hk hak hw hf
    have e : k = s - 1 := by omega
    subst e
    refine ⟨w, loopM_inr ?_, hw, hf⟩
    simp only [m_slices_symMergeCmpFunc_int64_B15, e1]; rw [decide_eq_false (by omega)]; rfl
  | succ m ih =>
    intro k w hk hak hw hf
    have e2 : w64 ((k : Int) + 1) = ((k + 1 : Nat) : Int) := by rw [w64_id (by omega) (by omega)]; omega
    have h1 : k + 1 < w.length := by omega
    have h0 : k < w.length := by omega
    have h2 : k + 1 < (w.set k (ga w (k + 1))).length := by rw [List.length_set]; exact h1
    obtain ⟨v', k1, k2, k3⟩ := ih (k + 1) ((w.set k (ga w (k + 1))).set (k + 1) (ga w k)) (by omega) (by omega) (by rw [List.length_set, List.length_set]; exact hw) (fun t => by
      rw [ga_swap _ _ h0 h1, hf t, hf k, hf (k + 1)]
      repeat' split
      all_goals exact congrArg (ga v) (by omega))
    refine ⟨v', ?_, k2, k3⟩
    rw [loopM_inl ?_]
    · exact k1
    · simp only [m_slices_symMergeCmpFunc_int64_B15, e1, decide_eq_true (show (k : Int) < ((s - 1 : Nat) : Int) by omega), cond_true, e2, idx_ga h1, idx_ga h0, inB_nat h0, inB_nat h2, Option.bind_some, Int.toNat_natCast]
/-- One element goes down to place s. -/
theorem down_loop (v : List Int) (m s : Nat) (hN : v.length ≤ 1000) (hsm : s ≤ m) (hm : m < v.length) : ∀ (q k : Nat) (w : List Int), s + q = k → k ≤ m → w.length = v.length → (∀ t, ga w t = if k < t ∧ t ≤ m then ga v (t - 1) else if t = k then ga v m else ga v t) →
    ∃ v', loopM (fun z : (Int × (List Int)) => m_slices_symMergeCmpFunc_int64_B39 (s : Int) z.1 z.2) ((k : Int), w) = some v' ∧ v'.length = v.length ∧ ∀ t, ga v' t = if s < t ∧ t ≤ m then ga v (t - 1) else if t = s then ga v m else ga v t := by
  intro q
  induction q with
  | zero =>
    intro k w hk hkm hw hf
    have e : k = s := by omega
    subst e
    refine ⟨w, loopM_inr ?_, hw, hf⟩
    simp only [m_slices_symMergeCmpFunc_int64_B39]; rw [decide_eq_false (by omega)]; rfl
  | succ q ih =>
    intro k w hk hkm hw hf
    have e2 : w64 ((k : Int) - 1) = ((k - 1 : Nat) : Int) := by rw [w64_id (by omega) (by omega)]; omega
    have h1 : k - 1 < w.length := by omega
    have h0 : k < w.length := by omega
    have h2 : k - 1 < (w.set k (ga w (k - 1))).length := by rw [List.length_set]; exact h1
    obtain ⟨v', k1, k2, k3⟩ := ih (k - 1) ((w.set k (ga w (k - 1))).set (k - 1) (ga w k)) (by omega) (by omega) (by rw [List.length_set, List.length_set]; exact hw) (fun t => by
      rw [ga_swap _ _ h0 h1, hf t, hf k, hf (k - 1)]
      repeat' split
      all_goals exact congrArg (ga v) (by omega))
    refine ⟨v', ?_, k2, k3⟩
    rw [loopM_inl ?_]
    · exact k1
    · simp only [m_slices_symMergeCmpFunc_int64_B39, decide_eq_true (show (s : Int) < (k : Int) by omega), cond_true, e2, idx_ga h1, idx_ga h0, inB_nat h0, inB_nat h2, Option.bind_some, Int.toNat_natCast]

noncomputable abbrev FM : (((List Int) × Int × Int × Int × ((Int × Int) → Option Int)) → Option (List Int)) → ((List Int) × Int × Int × Int × ((Int × Int) → Option Int)) → Option (List Int) := fun self (a : ((List Int) × Int × Int × Int × ((Int × Int) → Option Int))) => mf_slices_symMergeCmpFunc_int64 self a.1 a.2.1 a.2.2.1 a.2.2.2.1 a.2.2.2.2

section
variable {d : Int → Int} {S : Int → Prop} {cmp : (Int × Int) → Option Int}

/-- One element to the left. -/
theorem sym_one (hc : CmpOk d S cmp) (v : List Int) (a b : Nat) (hN : v.length ≤ 1000) (hab : a + 1 < b) (hb : b ≤ v.length) (h : Two d S (ga v) a (a + 1) b) :
    ∃ v', (∀ self, mf_slices_symMergeCmpFunc_int64 self v (a : Int) ((a + 1 : Nat) : Int) (b : Int) cmp = some v') ∧ v'.length = v.length ∧ Mrg d (ga v) a b (ga v') := by
  have e0 : (w64 (((a + 1 : Nat) : Int) - (a : Int)) == (1 : Int)) = true := by rw [beq_iff_eq, w64_id (by omega) (by omega)]; omega
  obtain ⟨s, s1, s2, s3, s4, s5⟩ := bin_loop (fun z : (Int × Int) => m_slices_symMergeCmpFunc_int64_B3 v (a : Int) cmp z.1 z.2) (fun t => decide (d (ga v a) < d (ga v t))) (a + 1) b (by omega)
    (fun i j h1 h2 h3 => by
      obtain ⟨c, c1, c2⟩ := hc.dec (h.s ((i + j) / 2) (by omega) (by omega)) (h.s a (by omega) (by omega))
      have w1 : w64 (((i + j) / 2 : Nat) : Int) = (((i + j) / 2 : Nat) : Int) := n64 (by omega)
      have w2 : w64 ((((i + j) / 2 : Nat) : Int) + 1) = (((i + j) / 2 + 1 : Nat) : Int) := by rw [w64_id (by omega) (by omega)]; omega
      simp only [m_slices_symMergeCmpFunc_int64_B3, decide_eq_true (show (i : Int) < (j : Int) by omega), cond_true, half_eq (show i + j ≤ 100000 by omega), Option.bind_some, w1, idx_ga (show (i + j) / 2 < v.length by omega), idx_ga (show a < v.length by omega), c1, c2, w2]
      cases decide (d (ga v a) < d (ga v ((i + j) / 2))) <;> rfl)
    (fun i => by simp only [m_slices_symMergeCmpFunc_int64_B3, lt_self, cond_false, Option.map_some])
    (fun c c' h1 h2 h3 hq => by
      rw [decide_eq_true_eq] at hq ⊢
      have := h.sr c c' h1 h2 h3
      unfold Prec at this; omega)
  obtain ⟨v', k1, k2, k3⟩ := up_loop v a s hN (by omega) (by omega) (s - 1 - a) a v (by omega) (Nat.le_refl _) rfl (fun t => by
    repeat' split
    all_goals exact congrArg (ga v) (by omega))
  have low : ∀ t, a + 1 ≤ t → t < s → Prec d (ga v t) (ga v a) := fun t h1 h2 => by
    have := s4 t h1 h2
    rw [decide_eq_true_eq] at this
    exact .inl this
  have high : ∀ t, s ≤ t → t < b → Prec d (ga v a) (ga v t) := fun t h1 h2 => by
    have := s5 t h1 h2
    rw [decide_eq_false_iff_not] at this
    have hl := h.lt a t (Nat.le_refl _) (by omega) (by omega) h2
    exact (prec_left hl).1 this
  refine ⟨v', fun self => ?_, k2, ⟨fun i j h1 h2 h3 => ?_, fun t ht => ?_, fun t h1 h2 => ?_⟩⟩
  · unfold mf_slices_symMergeCmpFunc_int64
    rw [e0, cond_true, s3, Option.bind_some, k1]; rfl
  · rw [k3 i, k3 j]
    by_cases c1 : j < s - 1
    · rw [if_pos ⟨h1, by omega⟩, if_pos ⟨by omega, c1⟩]; exact h.sr _ _ (by omega) (by omega) (by omega)
    · by_cases c2 : j = s - 1
      · rw [if_pos ⟨h1, by omega⟩, if_neg (by omega), if_pos c2]; exact low _ (by omega) (by omega)
      · rw [if_neg (show ¬ (a ≤ j ∧ j < s - 1) by omega), if_neg c2]
        by_cases c3 : i < s - 1
        · rw [if_pos ⟨h1, c3⟩]; exact h.sr _ _ (by omega) (by omega) h3
        · by_cases c4 : i = s - 1
          · rw [if_neg (by omega), if_pos c4]; exact high _ (by omega) h3
          · rw [if_neg (by omega), if_neg c4]; exact h.sr _ _ (by omega) h2 h3
  · rw [k3 t, if_neg (by omega), if_neg (by omega)]
  · rw [k3 t]
    by_cases c1 : a ≤ t ∧ t < s - 1
    · rw [if_pos c1]; exact ⟨t + 1, by omega, by omega, rfl⟩
    · rw [if_neg c1]
      by_cases c2 : t = s - 1
      · rw [if_pos c2]; exact ⟨a, by omega, by omega, rfl⟩
      · rw [if_neg c2]; exact ⟨t, h1, h2, rfl⟩

/-- One element to the right. -/
theorem sym_last (hc : CmpOk d S cmp) (v : List Int) (a m : Nat) (hN : v.length ≤ 1000) (ham : a + 1 < m) (hb : m + 1 ≤ v.length) (h : Two d S (ga v) a m (m + 1)) :
    ∃ v', (∀ self, mf_slices_symMergeCmpFunc_int64 self v (a : Int) (m : Int) ((m + 1 : Nat) : Int) cmp = some v') ∧ v'.length = v.length ∧ Mrg d (ga v) a (m + 1) (ga v') := by
  have e0 : (w64 ((m : Int) - (a : Int)) == (1 : Int)) = false := by rw [beq_eq_false_iff_ne, w64_id (by omega) (by omega)]; omega
  have e1 : (w64 (((m + 1 : Nat) : Int) - (m : Int)) == (1 : Int)) = true := by rw [beq_iff_eq, w64_id (by omega) (by omega)]; omega
  obtain ⟨s, s1, s2, s3, s4, s5⟩ := bin_loop (fun z : (Int × Int) => m_slices_symMergeCmpFunc_int64_B27 v (m : Int) cmp z.1 z.2) (fun t => !decide (d (ga v t) < d (ga v m))) a m (by omega)
    (fun i j h1 h2 h3 => by
      obtain ⟨c, c1, c2⟩ := hc.dec (h.s m (by omega) (by omega)) (h.s ((i + j) / 2) (by omega) (by omega))
      have w1 : w64 (((i + j) / 2 : Nat) : Int) = (((i + j) / 2 : Nat) : Int) := n64 (by omega)
      have w2 : w64 ((((i + j) / 2 : Nat) : Int) + 1) = (((i + j) / 2 + 1 : Nat) : Int) := by rw [w64_id (by omega) (by omega)]; omega
      simp only [m_slices_symMergeCmpFunc_int64_B27, decide_eq_true (show (i : Int) < (j : Int) by omega), cond_true, half_eq (show i + j ≤ 100000 by omega), Option.bind_some, w1, idx_ga (show (i + j) / 2 < v.length by omega), idx_ga (show m < v.length by omega), c1, c2, w2]
      cases decide (d (ga v ((i + j) / 2)) < d (ga v m)) <;> rfl)
    (fun i => by simp only [m_slices_symMergeCmpFunc_int64_B27, lt_self, cond_false, Option.map_some])
    (fun c c' h1 h2 h3 hq => by
      rw [Bool.not_eq_true', decide_eq_false_iff_not] at hq ⊢
      have := h.sl c c' h1 h2 h3
      unfold Prec at this; omega)
  obtain ⟨v', k1, k2, k3⟩ := down_loop v m s hN s2 (by omega) (m - s) m v (by omega) (Nat.le_refl _) rfl (fun t => by
    repeat' split
    all_goals exact congrArg (ga v) (by omega))
  have low : ∀ t, a ≤ t → t < s → Prec d (ga v t) (ga v m) := fun t h1 h2 => by
    have := s4 t h1 h2
    rw [Bool.not_eq_true', decide_eq_false_iff_not] at this
    exact (prec_left (h.lt t m h1 (by omega) (Nat.le_refl _) (by omega))).1 this
  have high : ∀ t, s ≤ t → t < m → Prec d (ga v m) (ga v t) := fun t h1 h2 => by
    have := s5 t h1 h2
    rw [Bool.not_eq_false', decide_eq_true_eq] at this
    exact .inl this
  refine ⟨v', fun self => ?_, k2, ⟨fun i j h1 h2 h3 => ?_, fun t ht => ?_, fun t h1 h2 => ?_⟩⟩
  · unfold mf_slices_symMergeCmpFunc_int64
    rw [e0, cond_false, e1, cond_true, s3, Option.bind_some, k1]; rfl
  · rw [k3 i, k3 j]
    by_cases c1 : s < i
    · rw [if_pos ⟨c1, by omega⟩, if_pos ⟨by omega, by omega⟩]; exact h.sl _ _ (by omega) (by omega) (by omega)
    · by_cases c2 : i = s
      · rw [if_neg (by omega), if_pos c2, if_pos ⟨by omega, by omega⟩]; exact high _ (by omega) (by omega)
      · rw [if_neg (show ¬ (s < i ∧ i ≤ m) by omega), if_neg c2]
        by_cases c3 : s < j
        · rw [if_pos ⟨c3, by omega⟩]; exact h.sl _ _ h1 (by omega) (by omega)
        · by_cases c4 : j = s
          · rw [if_neg (by omega), if_pos c4]; exact low _ h1 (by omega)
          · rw [if_neg (by omega), if_neg c4]; exact h.sl _ _ h1 h2 (by omega)
  · rw [k3 t, if_neg (by omega), if_neg (by omega)]
  · rw [k3 t]
    by_cases c1 : s < t ∧ t ≤ m
    · rw [if_pos c1]; exact ⟨t - 1, by omega, by omega, rfl⟩
    · rw [if_neg c1]
      by_cases c2 : t = s
      · rw [if_pos c2]; exact ⟨m, by omega, by omega, rfl⟩
      · rw [if_neg c2]; exact ⟨t, h1, h2, rfl⟩
end
end Go.Wk
