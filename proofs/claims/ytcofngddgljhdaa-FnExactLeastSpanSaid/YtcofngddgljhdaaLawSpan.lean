/-
  Plain laws: the span of a list. No program in sight. Our own work.
-/
import Derived.Test.YtcofngddgljhdaaLawS
import Derived.Test.YtcofngddgljhdaaLawWithin
import Derived.Test.YtcofngddgljhdaaLawMax
import Derived.Test.YtcofngddgljhdaaLawMinS
import Derived.Test.YtcofngddgljhdaaLawMaxS
namespace Go.Wk
open Go Go.RowKit

def mnN : Int → List Int → Int
  | v, [] => v
  | v, x :: l => mnN (if x < v then x else v) l
theorem min_loop (l : List Int) (hl : l.length ≤ 1048576) (v : Int) (k : Nat) (hk : k ≤ l.length) : loopM (fun s : (Int × Int) => m_slices_Min_int64_int64_B5 l s.1 s.2) (v, (k : Int)) = some (mnN v (l.drop k)) := by
  have key : ∀ (n : Nat) (k : Nat) (v : Int), k + n = l.length → loopM (fun s : (Int × Int) => m_slices_Min_int64_int64_B5 l s.1 s.2) (v, (k : Int)) = some (mnN v (l.drop k)) := by
    intro n
    induction n with
    | zero =>
      intro k v hk
      have e : k = l.length := by omega
      subst e
      rw [List.drop_length]
      refine loopM_inr ?_
      simp only [m_slices_Min_int64_int64_B5, lt_self, cond_false, Option.map_some, mnN]
    | succ n ih =>
      intro k v hk
      have hk' : k < l.length := by omega
      have e : m_slices_Min_int64_int64_B5 l v (k : Int) = some (.inl ((if l[k] < v then l[k] else v), ((k + 1 : Nat) : Int))) := by
        simp only [m_slices_Min_int64_int64_B5, lt_true hk', cond_true, idx_lt_nat hk', Option.bind_some]
        rw [w64_id (by omega) (by omega)]; rfl
      rw [List.drop_eq_getElem_cons hk', mnN]
      exact (loopM_inl e).trans (ih (k + 1) _ (by omega))
  exact key (l.length - k) k v (by omega)
theorem span_loop (l : List Int) (hl : l.length ≤ 1048576) : ∀ (n : Nat) (k : Nat) (v w : Int), k + n = l.length → loopM (fun s : (Int × Int × Int) => m_spec_SpanOf_B3 l s.1 s.2.1 s.2.2) (v, w, (k : Int)) = some (if (l.drop k).all chOk then w64 (mxN w (l.drop k) - mnN v (l.drop k)) else 0) := by
  intro n
  induction n with
  | zero =>
    intro k v w hk
    have e : k = l.length := by omega
    subst e
    rw [List.drop_length]
    refine loopM_inr ?_
    simp only [m_spec_SpanOf_B3, lt_self, cond_false, Option.map_some, mnN, mxN, List.all_nil, if_true]
  | succ n ih =>
    intro k v w hk
    have hk' : k < l.length := by omega
    rw [List.drop_eq_getElem_cons hk', mxN, mnN, List.all_cons]
    by_cases hc : 0 ≤ l[k] ∧ l[k] ≤ 999
    · have e : m_spec_SpanOf_B3 l v w (k : Int) = some (.inl ((if l[k] < v then l[k] else v), (if l[k] > w then l[k] else w), ((k + 1 : Nat) : Int))) := by
        simp only [m_spec_SpanOf_B3, lt_true hk', cond_true, idx_lt_nat hk', Option.bind_some, in_eq, decide_eq_true hc, Bool.not_true, cond_false, minS_eq, maxS_eq]
        rw [w64_id (by omega) (by omega)]; rfl
      have e2 : chOk l[k] = true := decide_eq_true hc
      rw [e2, Bool.true_and]
      exact (loopM_inl e).trans (ih (k + 1) _ _ (by omega))
    · have e : m_spec_SpanOf_B3 l v w (k : Int) = some (.inr 0) := by
        simp only [m_spec_SpanOf_B3, lt_true hk', cond_true, idx_lt_nat hk', Option.bind_some, in_eq, decide_eq_false hc, Bool.not_false, Option.map_some]
      have e2 : chOk l[k] = false := decide_eq_false hc
      rw [e2, Bool.false_and]
      exact loopM_inr e
theorem span_same (l : List Int) (hl : l.length ≤ 1048576) : ∃ c, m_spec_SpanOf l = some c ∧ m_impl_SpanOf l = some c := by
  unfold m_spec_SpanOf m_impl_SpanOf
  cases hq : l with
  | nil => exact ⟨_, rfl, rfl⟩
  | cons x t =>
    have e1 : (((x :: t).length : Int) == 0) = false := by simp; omega
    have h0 : idx (x :: t) (0 : Int) = some x := rfl
    subst hq
    have hs := span_loop (x :: t) hl (x :: t).length 0 x x (by omega)
    rw [e1, cond_false, h0, Option.bind_some, Option.bind_some]
    refine ⟨_, hs, ?_⟩
    rw [cond_false, allWithin_eq _ _ _ (by omega), Option.bind_some, Option.bind_some]
    have e2 : ((x :: t).all fun x => decide ((0 : Int) ≤ x ∧ x ≤ 999)) = (x :: t).all chOk := rfl
    rw [e2, List.drop_zero]
    cases (x :: t).all chOk with
    | false => rfl
    | true =>
      have n1 : decide (((x :: t).length : Int) < 1) = false := by simp; omega
      have m1 : m_slices_Max_int64_int64 (x :: t) = some (mxN x t) := by
        unfold m_slices_Max_int64_int64
        rw [n1, cond_false, Option.bind_some, h0, Option.bind_some]
        have := max_loop (x :: t) hl x 1 (by simp)
        exact (congrArg (fun o => Option.bind o fun y => some y) this).trans rfl
      have m2 : m_slices_Min_int64_int64 (x :: t) = some (mnN x t) := by
        unfold m_slices_Min_int64_int64
        rw [n1, cond_false, Option.bind_some, h0, Option.bind_some]
        have := min_loop (x :: t) hl x 1 (by simp)
        exact (congrArg (fun o => Option.bind o fun y => some y) this).trans rfl
      rw [m1, m2, mxN, mnN, if_neg (show ¬ x > x by omega)]
      rfl
theorem mnN_mem (l : List Int) : ∀ v, mnN v l = v ∨ mnN v l ∈ l := by
  induction l with
  | nil => intro v; exact .inl rfl
  | cons x l ih =>
    intro v
    unfold mnN
    rcases ih (if x < v then x else v) with h | h
    · rw [h]
      split
      · exact .inr (by simp)
      · exact .inl rfl
    · exact .inr (List.mem_cons_of_mem _ h)
/-- The span of channels is at most 999. -/
theorem span_le (l : List Int) (hl : l.length ≤ 1048576) (hc : ∀ x ∈ l, 0 ≤ x ∧ x ≤ 999) : ∃ c, m_impl_SpanOf l = some c ∧ c ≤ 999 := by
  obtain ⟨c, h1, h2⟩ := span_same l hl
  refine ⟨c, h2, ?_⟩
  unfold m_spec_SpanOf at h1
  cases hq : l with
  | nil => subst hq; have : (0 : Int) = c := by simpa using h1
           omega
  | cons x t =>
    have e1 : (((x :: t).length : Int) == 0) = false := by simp; omega
    have h0 : idx (x :: t) (0 : Int) = some x := rfl
    subst hq
    have hs := span_loop (x :: t) hl (x :: t).length 0 x x (by omega)
    have hs : loopM (fun s : (Int × Int × Int) => m_spec_SpanOf_B3 (x :: t) s.1 s.2.1 s.2.2) (x, x, (0 : Int)) = _ := hs
    rw [e1, cond_false, h0, Option.bind_some, Option.bind_some, hs] at h1
    have hx := hc x (by simp)
    have m1 : mxN x (x :: t) ≤ 999 := by
      rcases mxN_mem (x :: t) x with h | h
      · omega
      · exact (hc _ h).2
    have m2 : 0 ≤ mnN x (x :: t) := by
      rcases mnN_mem (x :: t) x with h | h
      · omega
      · exact (hc _ h).1
    have m3 := (mxN_ge (x :: t) x).1
    have m4 : mnN x (x :: t) ≤ 999 := by
      rcases mnN_mem (x :: t) x with h | h
      · omega
      · exact (hc _ h).2
    simp only [List.drop_zero, Option.some.injEq] at h1
    split at h1
    · rw [w64_id (by omega) (by omega)] at h1; omega
    · omega
end Go.Wk
