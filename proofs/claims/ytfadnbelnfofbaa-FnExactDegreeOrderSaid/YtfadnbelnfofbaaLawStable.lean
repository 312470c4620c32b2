/-
  Plain laws: the library's stable sort of a rising list of at most 39 numbers. No program in sight. Our own work.
-/
import Derived.Test.YtfadnbelnfofbaaLawSymG
namespace Go.Wk
open Go Go.RowKit

theorem ins_inner {d : Int → Int} {S : Int → Prop} {cmp : (Int × Int) → Option Int} (hc : CmpOk d S cmp) (v : List Int) (a i : Nat) (hN : v.length ≤ 1000) (hai : a ≤ i) (hi : i < v.length) (hS : ∀ t, a ≤ t → t ≤ i → S (ga v t)) :
    ∀ (q j : Nat) (w : List Int), a + q = j → j ≤ i → w.length = v.length → (∀ t, ga w t = if j < t ∧ t ≤ i then ga v (t - 1) else if t = j then ga v i else ga v t) → (∀ t, j ≤ t → t < i → d (ga v t) < d (ga v i)) →
      ∃ (s : Nat) (w' : List Int), loopM (fun z : (Int × (List Int)) => m_slices_insertionSortCmpFunc_int64_B8 (a : Int) cmp z.1 z.2) ((j : Int), w) = some w' ∧ a ≤ s ∧ s ≤ i ∧ w'.length = v.length ∧ (∀ t, ga w' t = if s < t ∧ t ≤ i then ga v (t - 1) else if t = s then ga v i else ga v t) ∧ (∀ t, s ≤ t → t < i → d (ga v t) < d (ga v i)) ∧ (a < s → ¬ d (ga v (s - 1)) < d (ga v i)) := by
  intro q
  induction q with
  | zero =>
    intro j w hj hji hw hf hd
    refine ⟨j, w, loopM_inr ?_, by omega, hji, hw, hf, hd, fun h => by omega⟩
    simp only [m_slices_insertionSortCmpFunc_int64_B8]; rw [decide_eq_false (by omega)]; rfl
  | succ q ih =>
    intro j w hj hji hw hf hd
    have e2 : w64 ((j : Int) - 1) = ((j - 1 : Nat) : Int) := by rw [w64_id (by omega) (by omega)]; omega
    have h1 : j - 1 < w.length := by omega
    have h0 : j < w.length := by omega
    have h2 : j - 1 < (w.set j (ga w (j - 1))).length := by rw [List.length_set]; exact h1
    have x0 : ga w j = ga v i := by rw [hf j, if_neg (by omega), if_pos rfl]
    have x1 : ga w (j - 1) = ga v (j - 1) := by rw [hf (j - 1), if_neg (by omega), if_neg (by omega)]
    obtain ⟨c, c1, c2⟩ := hc.dec (hS i hai (Nat.le_refl _)) (hS (j - 1) (by omega) (by omega))
    by_cases hq : d (ga v (j - 1)) < d (ga v i)
    · obtain ⟨s, w', k1, k2, k3, k4, k5, k6, k7⟩ := ih (j - 1) ((w.set j (ga w (j - 1))).set (j - 1) (ga w j)) (by omega) (by omega) (by rw [List.length_set, List.length_set]; exact hw) (fun t => by
        rw [ga_swap _ _ h0 h1, x0, x1, hf t]
        repeat' split
        all_goals exact congrArg (ga v) (by omega)) (fun t ht1 ht2 => by
        by_cases e : t = j - 1
        · rw [e]; exact hq
        · exact hd t (by omega) ht2)
      refine ⟨s, w', ?_, k2, k3, k4, k5, k6, k7⟩
      rw [loopM_inl ?_]
      · exact k1
      · simp only [m_slices_insertionSortCmpFunc_int64_B8, decide_eq_true (show (a : Int) < (j : Int) by omega), cond_true, e2, idx_ga h1, idx_ga h0, x0, x1, c1, Option.bind_some, c2, decide_eq_true hq, inB_nat h0, Int.toNat_natCast]
        rw [← x1, inB_nat h2, Option.bind_some]
    · refine ⟨j, w, loopM_inr ?_, by omega, hji, hw, hf, hd, fun _ => hq⟩
      simp only [m_slices_insertionSortCmpFunc_int64_B8, decide_eq_true (show (a : Int) < (j : Int) by omega), cond_true, e2, idx_ga h1, idx_ga h0, x0, x1, c1, Option.bind_some, c2, decide_eq_false hq, cond_false, Option.map_some]

/-- Rising numbers in the part. -/
def Rise (f : Nat → Int) (a b : Nat) : Prop := ∀ i j, a ≤ i → i < j → j < b → f i < f j
theorem ins_outer {d : Int → Int} {S : Int → Prop} {cmp : (Int × Int) → Option Int} (hc : CmpOk d S cmp) (v : List Int) (a b : Nat) (hN : v.length ≤ 1000) (hb : b ≤ v.length) (hr : Rise (ga v) a b) (hS : ∀ t, a ≤ t → t < b → S (ga v t)) :
    ∀ (m i : Nat) (w : List Int), i + m = b → a < i → w.length = v.length → Mrg d (ga v) a i (ga w) → ∃ w', loopM (fun z : (Int × (List Int)) => m_slices_insertionSortCmpFunc_int64_B3 (a : Int) (b : Int) cmp z.1 z.2) ((i : Int), w) = some w' ∧ w'.length = v.length ∧ Mrg d (ga v) a b (ga w') := by
  intro m
  induction m with
  | zero =>
    intro i w hi hai hw hm
    have e : i = b := by omega
    subst e
    refine ⟨w, loopM_inr ?_, hw, hm⟩
    simp only [m_slices_insertionSortCmpFunc_int64_B3, lt_self, cond_false, Option.map_some]
  | succ m ih =>
    intro i w hi hai hw hm
    have e2 : w64 ((i : Int) + 1) = ((i + 1 : Nat) : Int) := by rw [w64_id (by omega) (by omega)]; omega
    have hwi : ga w i = ga v i := hm.ou i (by omega)
    have hlt : ∀ t, a ≤ t → t < i → ga w t < ga w i := fun t h1 h2 => by
      obtain ⟨u, u1, u2, u3⟩ := hm.inn t h1 h2
      rw [u3, hwi]; exact hr u i u1 u2 (by omega)
    have hSw : ∀ t, a ≤ t → t ≤ i → S (ga w t) := fun t h1 h2 => by
      by_cases e : t = i
      · rw [e, hwi]; exact hS i (by omega) (by omega)
      · obtain ⟨u, u1, u2, u3⟩ := hm.inn t h1 (by omega)
        rw [u3]; exact hS u u1 (by omega)
    obtain ⟨s, w', k1, k2, k3, k4, k5, k6, k7⟩ := ins_inner hc w a i (by omega) (by omega) (by omega) hSw (i - a) i w (by omega) (Nat.le_refl _) rfl (fun t => by
      repeat' split
      all_goals exact congrArg (ga w) (by omega)) (fun t h1 h2 => by omega)
    have low : ∀ t, a ≤ t → t < s → Prec d (ga w t) (ga w i) := fun t h1 h2 => by
      have p1 := (prec_left (hlt (s - 1) (by omega) (by omega))).1 (k7 (by omega))
      by_cases e : t = s - 1
      · rw [e]; exact p1
      · exact (hm.so t (s - 1) h1 (by omega) (by omega)).trans p1
    have high : ∀ t, s ≤ t → t < i → Prec d (ga w i) (ga w t) := fun t h1 h2 => .inl (k6 t h1 h2)
    obtain ⟨w2, r1, r2, r3⟩ := ih (i + 1) w' (by omega) (by omega) (by omega) ⟨fun p q h1 h2 h3 => by
        rw [k5 p, k5 q]
        by_cases c1 : s < p
        · rw [if_pos ⟨c1, by omega⟩, if_pos ⟨by omega, by omega⟩]; exact hm.so _ _ (by omega) (by omega) (by omega)
        · by_cases c2 : p = s
          · rw [if_neg (by omega), if_pos c2, if_pos ⟨by omega, by omega⟩]; exact high _ (by omega) (by omega)
          · rw [if_neg (show ¬ (s < p ∧ p ≤ i) by omega), if_neg c2]
            by_cases c3 : s < q
            · rw [if_pos ⟨c3, by omega⟩]; exact hm.so _ _ h1 (by omega) (by omega)
            · by_cases c4 : q = s
              · rw [if_neg (by omega), if_pos c4]; exact low _ h1 (by omega)
              · rw [if_neg (by omega), if_neg c4]; exact hm.so _ _ h1 h2 (by omega),
      fun t ht => by rw [k5 t, if_neg (by omega), if_neg (by omega)]; exact hm.ou t (by omega),
      fun t h1 h2 => by
        have iw : ∀ u, a ≤ u → u < i + 1 → ∃ x, a ≤ x ∧ x < i + 1 ∧ ga w u = ga v x := fun u u1 u2 => by
          by_cases e : u = i
          · exact ⟨i, by omega, by omega, by rw [e, hwi]⟩
          · obtain ⟨x, x1, x2, x3⟩ := hm.inn u u1 (by omega)
            exact ⟨x, x1, by omega, x3⟩
        rw [k5 t]
        by_cases c1 : s < t ∧ t ≤ i
        · rw [if_pos c1]; exact iw _ (by omega) (by omega)
        · rw [if_neg c1]
          by_cases c2 : t = s
          · rw [if_pos c2]; exact iw _ (by omega) (by omega)
          · rw [if_neg c2]; exact iw _ h1 h2⟩
    refine ⟨w2, ?_, r2, r3⟩
    rw [loopM_inl ?_]
    · exact r1
    · simp only [m_slices_insertionSortCmpFunc_int64_B3, decide_eq_true (show (i : Int) < (b : Int) by omega), cond_true, k1, Option.bind_some, e2]
theorem insertion_eq {d : Int → Int} {S : Int → Prop} {cmp : (Int × Int) → Option Int} (hc : CmpOk d S cmp) (v : List Int) (a b : Nat) (hN : v.length ≤ 1000) (hab : a ≤ b) (hb : b ≤ v.length) (hr : Rise (ga v) a b) (hS : ∀ t, a ≤ t → t < b → S (ga v t)) :
    ∃ w', m_slices_insertionSortCmpFunc_int64 v (a : Int) (b : Int) cmp = some w' ∧ w'.length = v.length ∧ Mrg d (ga v) a b (ga w') := by
  have e2 : w64 ((a : Int) + 1) = ((a + 1 : Nat) : Int) := by rw [w64_id (by omega) (by omega)]; omega
  unfold m_slices_insertionSortCmpFunc_int64
  rw [e2]
  by_cases c : a < b
  · obtain ⟨w', k1, k2, k3⟩ := ins_outer hc v a b hN hb hr hS (b - (a + 1)) (a + 1) v (by omega) (by omega) rfl ⟨fun i j h1 h2 h3 => by omega, fun _ _ => rfl, fun t h1 h2 => ⟨t, h1, h2, rfl⟩⟩
    rw [k1]
    exact ⟨w', rfl, k2, k3⟩
  · refine ⟨v, ?_, rfl, ⟨fun i j h1 h2 h3 => by omega, fun _ _ => rfl, fun t h1 h2 => ⟨t, h1, h2, rfl⟩⟩⟩
    rw [loopM_inr (r := v) ?_]
    · rfl
    · simp only [m_slices_insertionSortCmpFunc_int64_B3]
      rw [decide_eq_false (by omega)]; rfl

/-- The stable sort of rising numbers. -/
theorem stable_eq {d : Int → Int} {S : Int → Prop} {cmp : (Int × Int) → Option Int} (hc : CmpOk d S cmp) (v : List Int) (hN : v.length < 40) (hr : Rise (ga v) 0 v.length) (hS : ∀ t, t < v.length → S (ga v t)) :
    ∃ w', m_slices_SortStableFunc_int64_int64 v cmp = some w' ∧ w'.length = v.length ∧ Mrg d (ga v) 0 v.length (ga w') := by
  unfold m_slices_SortStableFunc_int64_int64 m_slices_stableCmpFunc_int64
  have e40 : w64 ((20 : Int) + 20) = 40 := w64_id (by omega) (by omega)
  have e2 : w64 ((2 : Int) * 20) = 40 := w64_id (by omega) (by omega)
  have e3 : w64 ((20 : Int) * 2) = 40 := w64_id (by omega) (by omega)
  by_cases c : v.length < 20
  · obtain ⟨w', k1, k2, k3⟩ := insertion_eq hc v 0 v.length (by omega) (Nat.zero_le _) (Nat.le_refl _) hr (fun t _ h => hS t h)
    have k1 : m_slices_insertionSortCmpFunc_int64 v (0 : Int) (v.length : Int) cmp = some w' := k1
    refine ⟨w', ?_, k2, k3⟩
    rw [loopM_inr (r := ((0 : Int), v)) ?_]
    · simp only [Option.bind_some, k1]
      rw [loopM_inr (r := w') ?_]
      · rfl
      · simp only [m_slices_stableCmpFunc_int64_B14]
        rw [decide_eq_false (by omega)]; rfl
    · simp only [m_slices_stableCmpFunc_int64_B3]
      rw [decide_eq_false (by omega)]; rfl
  · obtain ⟨v1, k1, k2, k3⟩ := insertion_eq hc v 0 20 (by omega) (by omega) (by omega) (fun i j h1 h2 h3 => hr i j h1 h2 (by omega)) (fun t _ h => hS t (by omega))
    have o1 : ∀ t, 20 ≤ t → ga v1 t = ga v t := fun t ht => k3.ou t (by omega)
    obtain ⟨v2, r1, r2, r3⟩ := insertion_eq hc v1 20 v1.length (by omega) (by omega) (Nat.le_refl _) (fun i j h1 h2 h3 => by rw [o1 i h1, o1 j (by omega)]; exact hr i j (by omega) h2 (by omega)) (fun t h1 h2 => by rw [o1 t h1]; exact hS t (by omega))
    have k1 : m_slices_insertionSortCmpFunc_int64 v (0 : Int) (20 : Int) cmp = some v1 := k1
    have r1 : m_slices_insertionSortCmpFunc_int64 v1 (20 : Int) (v1.length : Int) cmp = some v2 := r1
    rw [k2] at r1 r3
    rw [loopM_inl (s' := ((20 : Int), (40 : Int), v1)) ?_]
    rotate_left
    · simp only [m_slices_stableCmpFunc_int64_B3, decide_eq_true (show (20 : Int) ≤ (v.length : Int) by omega), cond_true, k1, Option.bind_some, e40]
    rw [loopM_inr (r := ((20 : Int), v1)) ?_]
    rotate_left
    · simp only [m_slices_stableCmpFunc_int64_B3]
      rw [decide_eq_false (by omega)]; rfl
    simp only [Option.bind_some, r1]
    have in1 : ∀ t, t < 20 → ∃ u, u < 20 ∧ ga v2 t = ga v u := fun t ht => by
      obtain ⟨u, _, u2, u3⟩ := k3.inn t (by omega) ht
      exact ⟨u, u2, by rw [r3.ou t (by omega), u3]⟩
    have in2 : ∀ t, 20 ≤ t → t < v.length → ∃ u, 20 ≤ u ∧ u < v.length ∧ ga v2 t = ga v u := fun t h1 h2 => by
      obtain ⟨u, u1, u2, u3⟩ := r3.inn t h1 h2
      exact ⟨u, u1, u2, by rw [u3, o1 u u1]⟩
    by_cases c2 : 20 < v.length
    · obtain ⟨v3, q1, q2, q3⟩ := symMerge_eq hc v2 0 20 v.length (by omega) c2 (by omega) (by omega) ⟨fun i j h1 h2 h3 => by rw [r3.ou i (by omega), r3.ou j (by omega)]; exact k3.so i j h1 h2 h3,
          fun i j h1 h2 h3 => r3.so i j h1 h2 h3,
          fun i j h1 h2 h3 h4 => by
            obtain ⟨u, u1, u2⟩ := in1 i h2
            obtain ⟨x, x1, x2, x3⟩ := in2 j h3 h4
            rw [u2, x3]; exact hr u x (Nat.zero_le _) (by omega) x2,
          fun i h1 h2 => by
            by_cases e : i < 20
            · obtain ⟨u, u1, u2⟩ := in1 i e
              rw [u2]; exact hS u (by omega)
            · obtain ⟨x, x1, x2, x3⟩ := in2 i (by omega) h2
              rw [x3]; exact hS x x2⟩
      have q1 : m_slices_symMergeCmpFunc_int64 v2 (0 : Int) (20 : Int) (v.length : Int) cmp = some v3 := q1
      refine ⟨v3, ?_, by omega, ⟨q3.so, fun t ht => ?_, fun t h1 h2 => ?_⟩⟩
      · rw [loopM_inl (s' := ((40 : Int), v3)) ?_]
        · rw [loopM_inr (r := v3) ?_]
          · rfl
          · simp only [m_slices_stableCmpFunc_int64_B14]
            rw [decide_eq_false (by omega)]; rfl
        · simp only [m_slices_stableCmpFunc_int64_B14, decide_eq_true (show (20 : Int) < (v.length : Int) by omega), cond_true, e2, e3]
          rw [loopM_inr (r := ((0 : Int), v2)) ?_]
          · have e20 : w64 ((0 : Int) + 20) = 20 := w64_id (by omega) (by omega)
            simp only [Option.bind_some, e20, decide_eq_true (show (20 : Int) < (v.length : Int) by omega), cond_true, q1]
          · simp only [m_slices_stableCmpFunc_int64_B19]
            rw [decide_eq_false (by omega)]; rfl
      · rw [q3.ou t ht, r3.ou t (by omega), o1 t (by omega)]
      · obtain ⟨u, u1, u2, u3⟩ := q3.inn t h1 h2
        rw [u3]
        by_cases e : u < 20
        · obtain ⟨x, x1, x2⟩ := in1 u e
          exact ⟨x, Nat.zero_le _, by omega, x2⟩
        · obtain ⟨x, x1, x2, x3⟩ := in2 u (by omega) u2
          exact ⟨x, Nat.zero_le _, x2, x3⟩
    · refine ⟨v2, ?_, by omega, ⟨fun i j h1 h2 h3 => ?_, fun t ht => ?_, fun t h1 h2 => ?_⟩⟩
      · rw [loopM_inr (r := v2) ?_]
        · rfl
        · simp only [m_slices_stableCmpFunc_int64_B14]
          rw [decide_eq_false (by omega)]; rfl
      · rw [r3.ou i (by omega), r3.ou j (by omega)]; exact k3.so i j h1 h2 (by omega)
      · rw [r3.ou t (by omega), o1 t (by omega)]
      · obtain ⟨x, x1, x2⟩ := in1 t (by omega)
        exact ⟨x, Nat.zero_le _, by omega, x2⟩
end Go.Wk
