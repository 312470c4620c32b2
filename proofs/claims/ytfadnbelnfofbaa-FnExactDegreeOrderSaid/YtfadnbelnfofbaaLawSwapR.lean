/-
  Plain laws: parts of a list swapped and turned round, by their places. No program in sight. Our own work.
-/
import Derived.Test.YtfadnbelnfofbaaMod
import Derived.Test.YtfadnbelnfofbaaPlainD
namespace Go.Wk
open Go Go.RowKit

/-- An element by its place. -/
def ga (v : List Int) (t : Nat) : Int := v.getD t 0
theorem idx_ga {v : List Int} {t : Nat} (h : t < v.length) : idx v (t : Int) = some (ga v t) := idx_getD 0 h
theorem ga_set {v : List Int} {i : Nat} (x : Int) (h : i < v.length) (t : Nat) : ga (v.set i x) t = if t = i then x else ga v t := by
  unfold ga
  rw [List.getD_eq_getElem?_getD, List.getElem?_set, List.getD_eq_getElem?_getD]
  by_cases e : t = i
  · subst e; rw [if_pos rfl, if_pos rfl, if_pos h]; rfl
  · rw [if_neg (Ne.symm e), if_neg e]
theorem ga_swap {v : List Int} {i j : Nat} (x y : Int) (hi : i < v.length) (hj : j < v.length) (t : Nat) : ga ((v.set i x).set j y) t = if t = j then y else if t = i then x else ga v t := by
  rw [ga_set y (by rw [List.length_set]; exact hj), ga_set x hi]
theorem ga_ext {u v : List Int} (hl : u.length = v.length) (h : ∀ t, ga u t = ga v t) : u = v := by
  apply List.ext_getElem hl
  intro i h1 h2
  have := h i
  unfold ga at this
  rwa [getD_lt 0 h1, getD_lt 0 h2] at this
theorem n64 {n : Nat} (h : n ≤ 1000000) : w64 (n : Int) = (n : Int) := w64_id (by omega) (by omega)

def swpF (f : Nat → Int) (a b n t : Nat) : Int := if a ≤ t ∧ t < a + n then f (b + (t - a)) else if b ≤ t ∧ t < b + n then f (a + (t - b)) else f t
theorem swap_loop (v : List Int) (a b n : Nat) (hN : v.length ≤ 1000) (h1 : a + n ≤ b) (h2 : b + n ≤ v.length) : ∀ (m i : Nat) (w : List Int), i + m = n → w.length = v.length → (∀ t, ga w t = swpF (ga v) a b i t) →
    ∃ v', loopM (fun s : (Int × (List Int)) => m_slices_swapRangeCmpFunc_int64_B3 (a : Int) (b : Int) (n : Int) s.1 s.2) ((i : Int), w) = some v' ∧ v'.length = v.length ∧ ∀ t, ga v' t = swpF (ga v) a b n t := by
  intro m
  induction m with
  | zero =>
    intro i w hi hw hf
    have e : i = n := by omega
    subst e
    refine ⟨w, loopM_inr ?_, hw, hf⟩
    simp only [m_slices_swapRangeCmpFunc_int64_B3]; rw [decide_eq_false (by omega)]; rfl
  | succ m ih =>
    intro i w hi hw hf
    have hi2 : i < n := by omega
    have e1 : w64 ((b : Int) + (i : Int)) = ((b + i : Nat) : Int) := by rw [← Int.natCast_add]; exact n64 (by omega)
    have e2 : w64 ((a : Int) + (i : Int)) = ((a + i : Nat) : Int) := by rw [← Int.natCast_add]; exact n64 (by omega)
    have e3 : w64 ((i : Int) + 1) = ((i + 1 : Nat) : Int) := by rw [w64_id (by omega) (by omega)]; omega
    have hb : b + i < w.length := by omega
    have ha : a + i < w.length := by omega
    have hb2 : b + i < (w.set (a + i) (ga w (b + i))).length := by rw [List.length_set]; exact hb
    obtain ⟨v', k1, k2, k3⟩ := ih (i + 1) ((w.set (a + i) (ga w (b + i))).set (b + i) (ga w (a + i))) (by omega) (by rw [List.length_set, List.length_set]; exact hw) (fun t => by
      rw [ga_swap _ _ ha hb, hf t, hf (a + i), hf (b + i)]
      unfold swpF
      repeat' split
      all_goals exact congrArg (ga v) (by omega))
    refine ⟨v', ?_, k2, k3⟩
    rw [loopM_inl ?_]
    · exact k1
    · simp only [m_slices_swapRangeCmpFunc_int64_B3, lt_true hi2, cond_true, e1, e2, e3, idx_ga hb, idx_ga ha, inB_nat ha, inB_nat hb2, Option.bind_some, Int.toNat_natCast]
theorem swapRange_eq (v : List Int) (a b n : Nat) (cmp : (Int × Int) → Option Int) (hN : v.length ≤ 1000) (h1 : a + n ≤ b) (h2 : b + n ≤ v.length) :
    ∃ v', m_slices_swapRangeCmpFunc_int64 v (a : Int) (b : Int) (n : Int) cmp = some v' ∧ v'.length = v.length ∧ ∀ t, ga v' t = swpF (ga v) a b n t := by
  obtain ⟨v', k1, k2, k3⟩ := swap_loop v a b n hN h1 h2 n 0 v (by omega) rfl (fun t => by
    unfold swpF
    repeat' split
    all_goals exact congrArg (ga v) (by omega))
  refine ⟨v', ?_, k2, k3⟩
  unfold m_slices_swapRangeCmpFunc_int64
  have k1 : loopM (fun s : (Int × (List Int)) => m_slices_swapRangeCmpFunc_int64_B3 (a : Int) (b : Int) (n : Int) s.1 s.2) ((0 : Int), v) = some v' := k1
  rw [k1]; rfl

/-- [m, b) comes to a, [a, m) behind it. -/
def rotF (f : Nat → Int) (a m b t : Nat) : Int := if a ≤ t ∧ t < a + (b - m) then f (m + (t - a)) else if a + (b - m) ≤ t ∧ t < b then f (t - (b - m)) else f t
theorem rot_loop (len m : Nat) (cmp : (Int × Int) → Option Int) (hN : len ≤ 1000) : ∀ (K i j : Nat) (w : List Int), i + j ≤ K → 0 < i → 0 < j → i ≤ m → m + j ≤ len → w.length = len →
    ∃ (i' : Nat) (w' : List Int), loopM (fun s : (Int × Int × (List Int)) => m_slices_rotateCmpFunc_int64_B3 (m : Int) cmp s.1 s.2.1 s.2.2) ((i : Int), (j : Int), w) = some ((i' : Int), w') ∧ w'.length = len ∧ 0 < i' ∧ i' ≤ m ∧ m + i' ≤ len ∧ ∀ t, rotF (ga w') (m - i') m (m + i') t = rotF (ga w) (m - i) m (m + j) t := by
  intro K
  induction K with
  | zero => intro i j w h1 h2; omega
  | succ K ih =>
    intro i j w hK hi hj hm hl hw
    by_cases e : i = j
    · subst e
      refine ⟨i, w, loopM_inr ?_, hw, hi, hm, hl, fun t => rfl⟩
      have e0 : ((i : Int) != (i : Int)) = false := bne_self_eq_false _
      simp only [m_slices_rotateCmpFunc_int64_B3, e0, cond_false, Option.map_some]
    · have e0 : ((i : Int) != (j : Int)) = true := bne_iff_ne.2 (by omega)
      have e1 : w64 ((m : Int) - (i : Int)) = ((m - i : Nat) : Int) := by rw [w64_id (by omega) (by omega)]; omega
      by_cases c : j < i
      · obtain ⟨w', k1, k2, k3⟩ := swapRange_eq w (m - i) m j cmp (by omega) (by omega) (by omega)
        obtain ⟨i', w2, r1, r2, r3, r4, r5, r6⟩ := ih (i - j) j w' (by omega) (by omega) hj (by omega) hl (by omega)
        refine ⟨i', w2, ?_, r2, r3, r4, r5, fun t => ?_⟩
        · rw [loopM_inl ?_]
          · exact r1
          · have e2 : w64 ((i : Int) - (j : Int)) = ((i - j : Nat) : Int) := by rw [w64_id (by omega) (by omega)]; omega
            simp only [m_slices_rotateCmpFunc_int64_B3, e0, cond_true, decide_eq_true (show (j : Int) < (i : Int) by omega), e1, k1, Option.bind_some, e2]
        · rw [r6 t]
          simp only [rotF, k3, swpF]
          repeat' split
          all_goals exact congrArg (ga w) (by omega)
      · obtain ⟨w', k1, k2, k3⟩ := swapRange_eq w (m - i) (m + j - i) i cmp (by omega) (by omega) (by omega)
        obtain ⟨i', w2, r1, r2, r3, r4, r5, r6⟩ := ih i (j - i) w' (by omega) hi (by omega) hm (by omega) (by omega)
        refine ⟨i', w2, ?_, r2, r3, r4, r5, fun t => ?_⟩
        · rw [loopM_inl ?_]
          · exact r1
          · have e2 : w64 ((j : Int) - (i : Int)) = ((j - i : Nat) : Int) := by rw [w64_id (by omega) (by omega)]; omega
            have e3 : w64 ((m : Int) + (j : Int)) = ((m + j : Nat) : Int) := by rw [← Int.natCast_add]; exact n64 (by omega)
            have e4 : w64 (((m + j : Nat) : Int) - (i : Int)) = ((m + j - i : Nat) : Int) := by rw [w64_id (by omega) (by omega)]; omega
            simp only [m_slices_rotateCmpFunc_int64_B3, e0, cond_true, decide_eq_false (show ¬ (j : Int) < (i : Int) by omega), cond_false, e1, e3, e4, k1, Option.bind_some, e2]
        · rw [r6 t]
          simp only [rotF, k3, swpF]
          repeat' split
          all_goals exact congrArg (ga w) (by omega)
theorem rotate_eq (v : List Int) (a m b : Nat) (cmp : (Int × Int) → Option Int) (hN : v.length ≤ 1000) (h1 : a < m) (h2 : m < b) (h3 : b ≤ v.length) :
    ∃ v', m_slices_rotateCmpFunc_int64 v (a : Int) (m : Int) (b : Int) cmp = some v' ∧ v'.length = v.length ∧ ∀ t, ga v' t = rotF (ga v) a m b t := by
  have e1 : w64 ((m : Int) - (a : Int)) = ((m - a : Nat) : Int) := by rw [w64_id (by omega) (by omega)]; omega
  have e2 : w64 ((b : Int) - (m : Int)) = ((b - m : Nat) : Int) := by rw [w64_id (by omega) (by omega)]; omega
  obtain ⟨i, w, r1, r2, r3, r4, r5, r6⟩ := rot_loop v.length m cmp hN (b - a) (m - a) (b - m) v (by omega) (by omega) (by omega) (by omega) (by omega) rfl
  obtain ⟨w', k1, k2, k3⟩ := swapRange_eq w (m - i) m i cmp (by omega) (by omega) (by omega)
  have e3 : w64 ((m : Int) - (i : Int)) = ((m - i : Nat) : Int) := by rw [w64_id (by omega) (by omega)]; omega
  refine ⟨w', ?_, by omega, fun t => ?_⟩
  · unfold m_slices_rotateCmpFunc_int64
    rw [e1, e2, r1]
    simp only [Option.bind_some, e3, k1]
  · have e4 : m - (m - a) = a := by omega
    have e5 : m + (b - m) = b := by omega
    have := r6 t
    rw [e4, e5] at this
    rw [← this, k3 t]
    unfold rotF swpF
    repeat' split
    all_goals exact congrArg (ga w) (by omega)
end Go.Wk
