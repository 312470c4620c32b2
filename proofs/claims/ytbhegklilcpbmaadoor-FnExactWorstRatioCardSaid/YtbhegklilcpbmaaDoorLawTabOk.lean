/-
  Plain laws: a table that does not fall. No program in sight. Our own work.
-/
import Derived.Test.YtbhegklilcpbmaaDoorLawWithin
import Derived.Test.YtbhegklilcpbmaaDoorPlainB
namespace Go.Wk
open Go Go.RowKit

def ndN (l : List Int) (k : Nat) : Bool := decide (k = 0 ∨ l.getD (k - 1) 0 ≤ l.getD k 0)
def tabOk (l : List Int) : Bool := (decide (1 ≤ l.length ∧ l.length ≤ 64) && decide (l.getD 0 0 = 0)) && ((List.range l.length).all (ndN l) && l.all fun x => decide ((0 : Int) ≤ x ∧ x ≤ 120000))

theorem tabSpec_eq (l : List Int) (hl : l.length ≤ 1048576) : m_spec_l08Table l = some (tabOk l) := by
  unfold m_spec_l08Table tabOk
  have key := all_loop_g l.length (fun s : Int => m_spec_l08Table_B1 l s) (fun k => ndN l k && decide ((0 : Int) ≤ l.getD k 0 ∧ l.getD k 0 ≤ 120000)) (decide (1 ≤ l.length ∧ l.length ≤ 64) && decide (l.getD 0 0 = 0)) false 0 (by omega) (fun j h => absurd h (by omega)) (fun k _ hk hp => ?_) (fun _ => ?_)
  · rw [all_range_and, all_range_get l 0 (fun x => decide ((0 : Int) ≤ x ∧ x ≤ 120000))] at key
    refine key.trans ?_
    cases ((List.range l.length).all (ndN l) && l.all fun x => decide ((0 : Int) ≤ x ∧ x ≤ 120000)) <;> cases (decide (1 ≤ l.length ∧ l.length ≤ 64) && decide (l.getD 0 0 = 0)) <;> rfl
  · simp only [m_spec_l08Table_B1, lt_true hk, cond_true, idx_getD 0 hk, Option.bind_some, in_eq]
    rw [w64_id (n := (k : Int) + 1) (by omega) (by omega)]
    by_cases c1 : (0 : Int) ≤ l.getD k 0 ∧ l.getD k 0 ≤ 120000
    case neg => rw [decide_eq_false c1, Bool.and_false]; rfl
    rw [decide_eq_true c1, Bool.and_true]
    unfold ndN
    by_cases c2 : 0 < k
    · have hk1 : k - 1 < l.length := by omega
      have e : w64 ((k : Int) - 1) = ((k - 1 : Nat) : Int) := by rw [w64_id (by omega) (by omega)]; omega
      rw [e, idx_getD 0 hk1, decide_eq_true (show (0 : Int) < (k : Int) by omega)]
      by_cases c3 : l.getD k 0 < l.getD (k - 1) 0
      · rw [decide_eq_false (show ¬ (k = 0 ∨ l.getD (k - 1) 0 ≤ l.getD k 0) by omega)]
        simp only [Bool.not_true, cond_false, cond_true, Option.bind_some, decide_eq_true c3]; rfl
      · rw [decide_eq_true (show (k = 0 ∨ l.getD (k - 1) 0 ≤ l.getD k 0) by omega)]
        simp only [Bool.not_true, cond_false, cond_true, Option.bind_some, decide_eq_false c3]; rfl
    · rw [decide_eq_false (show ¬ (0 : Int) < (k : Int) by omega), decide_eq_true (show (k = 0 ∨ l.getD (k - 1) 0 ≤ l.getD k 0) by omega)]
      rfl
  · simp only [m_spec_l08Table_B1, lt_self, cond_false]
    by_cases h : (0 : Int) < (l.length : Int)
    · have e0 : idx l (0 : Int) = some (l.getD 0 0) := idx_getD (k := 0) 0 (by omega)
      rw [decide_eq_true h, e0]
      have e2 : (l.getD 0 0 == (0 : Int)) = decide (l.getD 0 0 = 0) := by rw [Bool.eq_iff_iff]; simp
      by_cases h2 : (l.length : Int) ≤ 64
      · rw [decide_eq_true h2, decide_eq_true (show (1 ≤ l.length ∧ l.length ≤ 64) by omega), ← e2]; rfl
      · rw [decide_eq_false h2, decide_eq_false (show ¬ (1 ≤ l.length ∧ l.length ≤ 64) by omega)]; rfl
    · rw [decide_eq_false h, decide_eq_false (show ¬ (1 ≤ l.length ∧ l.length ≤ 64) by omega)]; rfl

theorem sorted_loop (l : List Int) (hl : l.length ≤ 1048576) : ∀ (n : Nat), n < l.length → loopM (fun s : Int => m_slices_IsSorted_int64_int64_B1 l s) (n : Int) = some ((List.range (n + 1)).all (ndN l)) := by
  intro n
  induction n with
  | zero =>
    intro _
    refine loopM_inr ?_
    simp only [m_slices_IsSorted_int64_int64_B1]
    rfl
  | succ n ih =>
    intro h
    have e : w64 (((n + 1 : Nat) : Int) - 1) = (n : Int) := by rw [w64_id (by omega) (by omega)]; omega
    have hs : m_slices_IsSorted_int64_int64_B1 l ((n + 1 : Nat) : Int) = if l.getD (n + 1) 0 < l.getD n 0 then some (.inr false) else some (.inl (n : Int)) := by
      simp only [m_slices_IsSorted_int64_int64_B1, decide_eq_true (show (0 : Int) < ((n + 1 : Nat) : Int) by omega), cond_true, idx_getD 0 h, e, idx_getD 0 (show n < l.length by omega), Option.bind_some, m_cmp_Less_int64, m_cmp_isNaN_int64, bne_self]
      by_cases c : l.getD (n + 1) 0 < l.getD n 0
      · rw [if_pos c, decide_eq_true c]; rfl
      · rw [if_neg c, decide_eq_false c]; rfl
    have e2 : (List.range (n + 1 + 1)).all (ndN l) = ((List.range (n + 1)).all (ndN l) && ndN l (n + 1)) := by
      rw [List.range_succ (n := n + 1), List.all_append]; simp
    rw [e2]
    by_cases c : l.getD (n + 1) 0 < l.getD n 0
    · rw [if_pos c] at hs
      rw [loopM_inr (body := fun s : Int => m_slices_IsSorted_int64_int64_B1 l s) hs]
      have : ndN l (n + 1) = false := by unfold ndN; rw [decide_eq_false_iff_not]; simp only [Nat.add_sub_cancel]; omega
      rw [this, Bool.and_false]
    · rw [if_neg c] at hs
      rw [loopM_inl (body := fun s : Int => m_slices_IsSorted_int64_int64_B1 l s) hs, ih (by omega)]
      have : ndN l (n + 1) = true := by unfold ndN; rw [decide_eq_true_eq]; simp only [Nat.add_sub_cancel]; omega
      rw [this, Bool.and_true]

theorem sorted_eq (l : List Int) (h0 : 1 ≤ l.length) (hl : l.length ≤ 1048576) : m_slices_IsSorted_int64_int64 l = some ((List.range l.length).all (ndN l)) := by
  unfold m_slices_IsSorted_int64_int64
  have e : w64 ((l.length : Int) - 1) = ((l.length - 1 : Nat) : Int) := by rw [w64_id (by omega) (by omega)]; omega
  rw [e]
  have := sorted_loop l hl (l.length - 1) (by omega)
  rw [Nat.sub_add_cancel h0] at this
  exact this

theorem tabImpl_eq (l : List Int) (hl : l.length ≤ 1048576) : m_impl_tableOk l = some (tabOk l) := by
  unfold m_impl_tableOk tabOk
  by_cases h1 : (1 : Int) ≤ (l.length : Int)
  case neg => rw [decide_eq_false h1, decide_eq_false (show ¬ (1 ≤ l.length ∧ l.length ≤ 64) by omega)]; rfl
  by_cases h2 : (l.length : Int) ≤ 64
  case neg => rw [decide_eq_true h1, decide_eq_false h2, decide_eq_false (show ¬ (1 ≤ l.length ∧ l.length ≤ 64) by omega)]; rfl
  have e0 : idx l (0 : Int) = some (l.getD 0 0) := idx_getD (k := 0) 0 (by omega)
  have e2 : (l.getD 0 0 == (0 : Int)) = decide (l.getD 0 0 = 0) := by rw [Bool.eq_iff_iff]; simp
  rw [decide_eq_true h1, decide_eq_true h2, decide_eq_true (show (1 ≤ l.length ∧ l.length ≤ 64) by omega), e0, sorted_eq l (by omega) hl, allWithin_eq _ _ _ (by omega)]
  simp only [cond_true, Option.bind_some, e2, Bool.true_and]
  cases decide (l.getD 0 0 = 0) with
  | false => rfl
  | true => cases (List.range l.length).all (ndN l) <;> rfl
end Go.Wk
