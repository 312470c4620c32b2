/-
  Plain laws: states of a problem. No program in sight. Our own work.
-/
import Derived.Test.YtfadnbelnfofbaaLawProbOk
import Derived.Test.YtfadnbelnfofbaaPlainC
import Derived.Test.YtfadnbelnfofbaaLawSz
namespace Go.Wk
open Go Go.RowKit

/-- Each item has a channel between 0 and 999. -/
def stateN (p : GProblem) (l : List Int) : Bool := decide (l.length = p.Domains.length) && l.all fun x => decide ((0 : Int) ≤ x ∧ x ≤ 999)
theorem stateN_true {p : GProblem} {l : List Int} (h : stateN p l = true) : l.length = p.Domains.length ∧ ∀ k, k < l.length → 0 ≤ l.getD k 0 ∧ l.getD k 0 ≤ 999 := by
  unfold stateN at h
  simp only [Bool.and_eq_true, decide_eq_true_eq, List.all_eq_true] at h
  exact ⟨h.1, fun k hk => by rw [getD_lt 0 hk]; exact h.2 _ (List.getElem_mem hk)⟩
theorem stateSpec_eq (p : GProblem) (l : List Int) (hl : l.length ≤ 1048576) : m_spec_l19State p l = some (stateN p l) := by
  unfold m_spec_l19State stateN
  by_cases c : l.length = p.Domains.length
  case neg =>
    have e : ((l.length : Int) != (p.Domains.length : Int)) = true := by simp only [bne_iff_ne, ne_eq]; omega
    rw [e, decide_eq_false c]; rfl
  have e : ((l.length : Int) != (p.Domains.length : Int)) = false := by rw [c]; exact bne_self _
  rw [e, decide_eq_true c, cond_false, Bool.true_and]
  refine all_loop l _ _ (fun k hk => ?_) ?_
  · simp only [m_spec_l19State_B1, lt_true hk, cond_true, idx_lt_nat hk, Option.bind_some, in_eq]
    rw [w64_id (n := (k : Int) + 1) (by omega) (by omega)]
    cases decide ((0 : Int) ≤ l[k] ∧ l[k] ≤ 999) <;> rfl
  · simp only [m_spec_l19State_B1, lt_self, cond_false, Option.map_some]
def askN (p : GProblem) (l : List Int) (items : List Int) : Int := if probOk p then if stateN p l then if items.all (fun i => decide (0 ≤ i ∧ i ≤ (l.length : Int) - 1)) then 0 else 2 else 6 else 1
theorem askSpec_eq' (p : GProblem) (hf : FitsP p) (l : List Int) (hl : l.length ≤ 1048576) (i : Int) : m_spec_l19Ask p l i = some (askN p l [i]) := by
  unfold m_spec_l19Ask m_spec_ValidProblem askN
  rw [probSpec_eq _ hf, stateSpec_eq _ _ hl, w64_id (n := (l.length : Int) - 1) (by omega) (by omega), in_eq]
  simp only [List.all_cons, List.all_nil, Bool.and_true]
  cases probOk p <;> cases stateN p l <;> cases decide (0 ≤ i ∧ i ≤ (l.length : Int) - 1) <;> rfl
theorem stateCode_eq (p : GProblem) (hf : FitsP p) (l : List Int) (hl : l.length ≤ 1048576) (items : List Int) (hi : items.length ≤ 1048576) : m_impl_stateCode p l items = some (askN p l items) := by
  unfold m_impl_stateCode askN
  rw [probImpl_eq _ hf, w64_id (n := (l.length : Int) - 1) (by omega) (by omega), allWithin_eq _ _ _ (by omega), allWithin_eq _ _ _ (by omega)]
  cases probOk p with
  | false => rfl
  | true =>
    unfold stateN
    by_cases c : l.length = p.Domains.length
    case neg =>
      have e : ((l.length : Int) != (p.Domains.length : Int)) = true := by simp only [bne_iff_ne, ne_eq]; omega
      rw [e, decide_eq_false c]; rfl
    have e : ((l.length : Int) != (p.Domains.length : Int)) = false := by rw [c]; exact bne_self _
    rw [e, decide_eq_true c]
    cases (l.all fun x => decide ((0 : Int) ≤ x ∧ x ≤ 999)) <;> cases (items.all fun i => decide (0 ≤ i ∧ i ≤ (l.length : Int) - 1)) <;> rfl
theorem askN_zero {p : GProblem} {l items : List Int} (h : askN p l items = 0) : probOk p = true ∧ stateN p l = true ∧ ∀ i ∈ items, 0 ≤ i ∧ i ≤ (l.length : Int) - 1 := by
  unfold askN at h
  cases h1 : probOk p with
  | false => simp [h1] at h
  | true =>
    cases h2 : stateN p l with
    | false => simp [h1, h2] at h
    | true =>
      cases h3 : items.all (fun i => decide (0 ≤ i ∧ i ≤ (l.length : Int) - 1)) with
      | false => rw [h1, h2, h3] at h; simp at h
      | true =>
        rw [List.all_eq_true] at h3
        exact ⟨rfl, rfl, fun i hi => by simpa using h3 i hi⟩
end Go.Wk
