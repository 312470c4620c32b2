/-
  Plain laws: states of a problem and the conflicts of an item. No program in sight. Our own work.
-/
import Derived.Test.YtcofngddgljhdaaLawProbOk
import Derived.Test.YtcofngddgljhdaaPlainC
import Derived.Test.YtcofngddgljhdaaLawSz
namespace Go.Wk
open Go Go.RowKit

/-- Each item has a channel between 0 and 999. -/
def stateN (p : GProblem) (l : List Int) : Bool := decide (l.length = p.Domains.length) && l.all fun x => decide ((0 : Int) ≤ x ∧ x ≤ 999)
theorem stateN_true {p : GProblem} {l : List Int} (h : stateN p l = true) : l.length = p.Domains.length ∧ ∀ k, k < l.length → 0 ≤ l.getD k 0 ∧ l.getD k 0 ≤ 999 := by
  unfold stateN at h
  simp only [Bool.and_eq_true, decide_eq_true_eq, List.all_eq_true] at h
  exact ⟨h.1, fun k hk => by rw [getD_lt 0 hk]; exact h.2 _ (List.getElem_mem hk)⟩
theorem stateSpec_eq (p : GProblem) (l : List Int) (hl : l.length ≤ 1048576) : m_spec_l19State p l = some (stateN p l) := by
  unfold m_spec_l19State stateN
  by_cases c : l.length = p.Domains.length
  case neg =>
    have e : ((l.length : Int) != (p.Domains.length : Int)) = true := by simp only [bne_iff_ne, ne_eq]; omega
    rw [e, decide_eq_false c]; rfl
  have e : ((l.length : Int) != (p.Domains.length : Int)) = false := by rw [c]; exact bne_self _
  rw [e, decide_eq_true c, cond_false, Bool.true_and]
  refine all_loop l _ _ (fun k hk => ?_) ?_
  · simp only [m_spec_l19State_B1, lt_true hk, cond_true, idx_lt_nat hk, Option.bind_some, in_eq]
    rw [w64_id (n := (k : Int) + 1) (by omega) (by omega)]
    cases decide ((0 : Int) ≤ l[k] ∧ l[k] ≤ 999) <;> rfl
  · simp only [m_spec_l19State_B1, lt_self, cond_false, Option.map_some]
def askN (p : GProblem) (l : List Int) (items : List Int) : Int := if probOk p then if stateN p l then if items.all (fun i => decide (0 ≤ i ∧ i ≤ (l.length : Int) - 1)) then 0 else 2 else 6 else 1
theorem askSpec_eq' (p : GProblem) (hf : FitsP p) (l : List Int) (hl : l.length ≤ 1048576) (i : Int) : m_spec_l19Ask p l i = some (askN p l [i]) := by
  unfold m_spec_l19Ask m_spec_ValidProblem askN
  rw [probSpec_eq _ hf, stateSpec_eq _ _ hl, w64_id (n := (l.length : Int) - 1) (by omega) (by omega), in_eq]
  simp only [List.all_cons, List.all_nil, Bool.and_true]
  cases probOk p <;> cases stateN p l <;> cases decide (0 ≤ i ∧ i ≤ (l.length : Int) - 1) <;> rfl
theorem stateCode_eq (p : GProblem) (hf : FitsP p) (l : List Int) (hl : l.length ≤ 1048576) (items : List Int) (hi : items.length ≤ 1048576) : m_impl_stateCode p l items = some (askN p l items) := by
  unfold m_impl_stateCode askN
  rw [probImpl_eq _ hf, w64_id (n := (l.length : Int) - 1) (by omega) (by omega), allWithin_eq _ _ _ (by omega), allWithin_eq _ _ _ (by omega)]
  cases probOk p with
  | false => rfl
  | true =>
    unfold stateN
    by_cases c : l.length = p.Domains.length
    case neg =>
      have e : ((l.length : Int) != (p.Domains.length : Int)) = true := by simp only [bne_iff_ne, ne_eq]; omega
      rw [e, decide_eq_false c]; rfl
    have e : ((l.length : Int) != (p.Domains.length : Int)) = false := by rw [c]; exact bne_self _
    rw [e, decide_eq_true c]
    cases (l.all fun x => decide ((0 : Int) ≤ x ∧ x ≤ 999)) <;> cases (items.all fun i => decide (0 ≤ i ∧ i ≤ (l.length : Int) - 1)) <;> rfl
theorem askN_zero {p : GProblem} {l items : List Int} (h : askN p l items = 0) : probOk p = true ∧ stateN p l = true ∧ ∀ i ∈ items, 0 ≤ i ∧ i ≤ (l.length : Int) - 1 := by
  unfold askN at h
  cases h1 : probOk p with
  | false => simp [h1] at h
  | true =>
    cases h2 : stateN p l with
    | false => simp [h1, h2] at h
    | true =>
      cases h3 : items.all (fun i => decide (0 ≤ i ∧ i ≤ (l.length : Int) - 1)) with
      | false => rw [h1, h2, h3] at h; simp at h
      | true =>
        rw [List.all_eq_true] at h3
        exact ⟨rfl, rfl, fun i hi => by simpa using h3 i hi⟩
def closeN (p : GProblem) (l : List Int) (i : Nat) (c : Int) (j : Nat) : Bool := decide (j ≠ i) && decide (c - l.getD j 0 < apartAt p i j ∧ l.getD j 0 - c < apartAt p i j)
def confN (p : GProblem) (l : List Int) (i : Nat) (c : Int) : Int := (List.range l.length).foldl (fun v j => if closeN p l i c j then w64 (v + 1) else v) 0
theorem nearS_eq (a b c : Int) (ha : -1 ≤ a ∧ a ≤ 999) (hb : -1 ≤ b ∧ b ≤ 999) : m_spec_l19Near a b c = some (decide (a - b < c ∧ b - a < c)) := by
  unfold m_spec_l19Near
  rw [w64_id (n := a - b) (by omega) (by omega), w64_id (n := b - a) (by omega) (by omega)]
  by_cases h : a - b < c
  · rw [decide_eq_true h]
    simp only [cond_true, Option.bind_some]; congr 1; rw [Bool.eq_iff_iff]; simp only [decide_eq_true_eq]; omega
  · rw [decide_eq_false h]
    simp only [cond_false, Option.bind_some]; congr 1; symm; simp only [decide_eq_false_iff_not]; omega
theorem nearI_eq (a b c : Int) (ha : -1 ≤ a ∧ a ≤ 999) (hb : -1 ≤ b ∧ b ≤ 999) : (m_impl_abs (w64 (a - b))).map (fun x => decide (x < c)) = some (decide (a - b < c ∧ b - a < c)) := by
  unfold m_impl_abs
  rw [w64_id (n := a - b) (by omega) (by omega), w64_id (n := 0 - (a - b)) (by omega) (by omega), Option.map_some]
  congr 1
  rw [Bool.eq_iff_iff]; simp only [decide_eq_true_eq]
  split <;> omega
theorem confSpec_eq (p : GProblem) (h : ProbOk p) (l : List Int) (hc : l.length = p.Domains.length) (hr : ∀ k, k < l.length → -1 ≤ l.getD k 0 ∧ l.getD k 0 ≤ 999) (i : Nat) (hi : i < l.length) (c : Int) (hcc : -1 ≤ c ∧ c ≤ 999) : m_spec_l19Conflicts p l (i : Int) c = some (confN p l i c) := by
  have hn := h.n2
  have hl := h.len
  unfold m_spec_l19Conflicts
  have key := fold_loop (List.range l.length) (fun v j => if closeN p l i c j then w64 (v + 1) else v) (fun v : Int => v) (fun s : (Int × Int) => m_spec_l19Conflicts_B2 p l (i : Int) c s.1 s.2) (fun j hj v => ?_) (fun v => ?_) 0
  · exact (congrArg (fun o => Option.bind o fun x => some x) key).trans rfl
  · rw [List.length_range] at hj
    rw [List.getElem_range]
    have hia : i < p.Apart.length := by omega
    have hrr := h.row i (by omega)
    have hj2 : j < (p.Apart.getD i []).length := by omega
    simp only [m_spec_l19Conflicts_B2, lt_true hj, cond_true]
    rw [w64_id (n := (j : Int) + 1) (by omega) (by omega)]
    unfold closeN
    by_cases hji : j = i
    · have e : ((j : Int) != (i : Int)) = false := by rw [hji]; exact bne_self _
      rw [e, decide_eq_false (show ¬ j ≠ i from fun h => h hji)]; rfl
    · have e : ((j : Int) != (i : Int)) = true := by simp only [bne_iff_ne, ne_eq]; omega
      rw [e, decide_eq_true hji]
      simp only [cond_true, idx_getD 0 hj, idx_getD [] hia, idx_getD 0 hj2, Option.bind_some, nearS_eq c _ _ hcc (hr j hj), Bool.true_and]
      have en : decide (c - l.getD j 0 < (p.Apart.getD i []).getD j 0 ∧ l.getD j 0 - c < (p.Apart.getD i []).getD j 0) = decide (c - l.getD j 0 < apartAt p i j ∧ l.getD j 0 - c < apartAt p i j) := rfl
      rw [en]
      cases decide (c - l.getD j 0 < apartAt p i j ∧ l.getD j 0 - c < apartAt p i j) <;> rfl
  · rw [List.length_range]
    simp only [m_spec_l19Conflicts_B2, lt_self, cond_false, Option.map_some]
theorem confImpl_eq (p : GProblem) (h : ProbOk p) (l : List Int) (hc : l.length = p.Domains.length) (hr : ∀ k, k < l.length → -1 ≤ l.getD k 0 ∧ l.getD k 0 ≤ 999) (i : Nat) (hi : i < l.length) (c : Int) (hcc : -1 ≤ c ∧ c ≤ 999) : m_impl_Problem_conflicts p l (i : Int) c = some (confN p l i c) := by
  have hn := h.n2
  have hl := h.len
  unfold m_impl_Problem_conflicts
  have key := fold_loop (List.range l.length) (fun v j => if closeN p l i c j then w64 (v + 1) else v) (fun v : Int => v) (fun s : (Int × Int) => m_impl_Problem_conflicts_B2 p l (i : Int) c s.1 s.2) (fun j hj v => ?_) (fun v => ?_) 0
  · exact (congrArg (fun o => Option.bind o fun x => some x) key).trans rfl
  · rw [List.length_range] at hj
    rw [List.getElem_range]
    have hia : i < p.Apart.length := by omega
    have hrr := h.row i (by omega)
    have hj2 : j < (p.Apart.getD i []).length := by omega
    simp only [m_impl_Problem_conflicts_B2, lt_true hj, cond_true]
    rw [w64_id (n := (j : Int) + 1) (by omega) (by omega)]
    unfold closeN
    by_cases hji : j = i
    · have e : ((j : Int) != (i : Int)) = false := by rw [hji]; exact bne_self _
      rw [e, decide_eq_false (show ¬ j ≠ i from fun h => h hji), idx_getD 0 hj]; rfl
    · have e : ((j : Int) != (i : Int)) = true := by simp only [bne_iff_ne, ne_eq]; omega
      rw [e, decide_eq_true hji]
      obtain ⟨x, hx, hx2⟩ := Option.map_eq_some_iff.1 (nearI_eq c (l.getD j 0) ((p.Apart.getD i []).getD j 0) hcc (hr j hj))
      simp only [cond_true, idx_getD 0 hj, idx_getD [] hia, idx_getD 0 hj2, Option.bind_some, hx, hx2, Bool.true_and]
      have en : decide (c - l.getD j 0 < (p.Apart.getD i []).getD j 0 ∧ l.getD j 0 - c < (p.Apart.getD i []).getD j 0) = decide (c - l.getD j 0 < apartAt p i j ∧ l.getD j 0 - c < apartAt p i j) := rfl
      rw [en]
      cases decide (c - l.getD j 0 < apartAt p i j ∧ l.getD j 0 - c < apartAt p i j) <;> rfl
  · rw [List.length_range]
    simp only [m_impl_Problem_conflicts_B2, lt_self, cond_false, Option.map_some]
end Go.Wk
