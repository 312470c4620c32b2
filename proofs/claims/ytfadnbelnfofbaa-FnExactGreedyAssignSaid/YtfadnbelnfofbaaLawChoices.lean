/-
  Plain laws: the choices of an item. No program in sight. Our own work.
-/
import Derived.Test.YtfadnbelnfofbaaLawNear
import Derived.Test.YtfadnbelnfofbaaPlainE
namespace Go.Wk
open Go Go.RowKit

/-- The elements with a property, appended one after the other. -/
theorem filt_loop (d : List Int) (q : Int → Bool) (body : Int × List Int → Option ((Int × List Int) ⊕ List Int))
    (hstep : ∀ (k : Nat) (h : k < d.length) (acc : List Int), acc.length ≤ k → body ((k : Int), acc) = some (.inl (((k + 1 : Nat) : Int), if q d[k] then acc ++ [d[k]] else acc))) (hend : ∀ acc, body ((d.length : Int), acc) = some (.inr acc)) :
    loopM body ((0 : Int), []) = some (d.filter q) := by
  have key : ∀ (n k : Nat) (acc : List Int), k + n = d.length → acc.length ≤ k → loopM body ((k : Int), acc) = some (acc ++ (d.drop k).filter q) := by
    intro n
    induction n with
    | zero =>
      intro k acc hk _
      have e : k = d.length := by omega
      subst e
      rw [loopM_inr (hend acc), List.drop_length]; simp
    | succ n ih =>
      intro k acc hk ha
      have hk' : k < d.length := by omega
      rw [loopM_inl (hstep k hk' acc ha), ih (k + 1) _ (by omega) (by split <;> (try simp only [List.length_append, List.length_singleton]) <;> omega), List.drop_eq_getElem_cons hk', List.filter_cons]
      cases q d[k] <;> simp
  have := key d.length 0 [] (by omega) (by simp)
  simpa using this
theorem foldl_or {n : Nat} (q : Nat → Bool) : ∀ (l : List Nat) (v : Bool), l.foldl (fun v j => if q j then true else v) v = (v || l.any q) := by
  intro l
  induction l with
  | nil => intro v; simp
  | cons x l ih =>
    intro v
    rw [List.foldl_cons, ih, List.any_cons]
    cases q x <;> cases v <;> simp

def clashN (p : GProblem) (l : List Int) (i : Nat) (c : Int) (j : Nat) : Bool := decide (j ≠ i) && (decide (0 ≤ l.getD j 0) && decide (c - l.getD j 0 < apartAt p i j ∧ l.getD j 0 - c < apartAt p i j))
def freeN (p : GProblem) (l : List Int) (i : Nat) (c : Int) : Bool := (List.range l.length).all fun j => !clashN p l i c j
def choN (p : GProblem) (l : List Int) (i : Nat) : List Int := (p.Domains.getD i []).filter (freeN p l i)
structure PartA (p : GProblem) (l : List Int) : Prop where
  len : l.length ≤ p.Domains.length
  rng : ∀ k, k < l.length → -1 ≤ l.getD k 0 ∧ l.getD k 0 ≤ 999

theorem choN_len {p : GProblem} (h : ProbOk p) {i : Nat} (hi : i < p.Domains.length) (l : List Int) : (choN p l i).length ≤ 32 := by
  unfold choN
  exact Nat.le_trans (List.length_filter_le _ _) (dom_len h hi)
theorem choN_mem {p : GProblem} {l : List Int} {i : Nat} {c : Int} (h : c ∈ choN p l i) : c ∈ p.Domains.getD i [] ∧ freeN p l i c = true := by
  unfold choN at h
  exact List.mem_filter.1 h

theorem freeSpec_eq (p : GProblem) (h : ProbOk p) (l : List Int) (hl : PartA p l) (i : Nat) (hi : i < p.Domains.length) (c : Int) (hc : -1 ≤ c ∧ c ≤ 999) : m_spec_l18Free p l (i : Int) c = some (freeN p l i c) := by
  have hn := h.n2
  have hlen := hl.len
  unfold m_spec_l18Free freeN
  refine all_loop_n l.length _ (fun j => !clashN p l i c j) (fun j hj => ?_) ?_
  · have hia : i < p.Apart.length := by have := h.len; omega
    have hj2 : j < (p.Apart.getD i []).length := by have := h.row i hi; omega
    simp only [m_spec_l18Free_B1, lt_true hj, cond_true]
    rw [w64_id (n := (j : Int) + 1) (by omega) (by omega)]
    unfold clashN
    by_cases hji : j = i
    · have e : ((j : Int) != (i : Int)) = false := by rw [hji]; exact bne_self _
      rw [e, decide_eq_false (show ¬ j ≠ i from fun h => h hji)]; rfl
    · have e : ((j : Int) != (i : Int)) = true := by simp only [bne_iff_ne, ne_eq]; omega
      rw [e, decide_eq_true hji]
      simp only [cond_true, idx_getD 0 hj, Option.bind_some, Bool.true_and]
      cases h0 : decide (0 ≤ l.getD j 0) with
      | false => rfl
      | true =>
        simp only [cond_true, idx_getD [] hia, idx_getD 0 hj2, Option.bind_some, near_spec c _ _ hc (hl.rng j hj), Bool.true_and]
        have en : decide (c - l.getD j 0 < (p.Apart.getD i []).getD j 0 ∧ l.getD j 0 - c < (p.Apart.getD i []).getD j 0) = decide (c - l.getD j 0 < apartAt p i j ∧ l.getD j 0 - c < apartAt p i j) := rfl
        rw [en]
        cases decide (c - l.getD j 0 < apartAt p i j ∧ l.getD j 0 - c < apartAt p i j) <;> rfl
  · simp only [m_spec_l18Free_B1, lt_self, cond_false, Option.map_some]

theorem choSpec_eq (p : GProblem) (h : ProbOk p) (l : List Int) (hl : PartA p l) (i : Nat) (hi : i < p.Domains.length) : m_spec_l18Choices p l (i : Int) = some (choN p l i) := by
  unfold m_spec_l18Choices choN
  have hd := dom_len h hi
  have key := filt_loop (p.Domains.getD i []) (freeN p l i) (fun s : (Int × (List Int)) => m_spec_l18Choices_B4 p l (i : Int) s.1 s.2) (fun k hk acc ha => ?_) (fun acc => ?_)
  · exact (congrArg (fun o => Option.bind o fun x => some x) key).trans rfl
  · have hm := dom_rng h hi (List.getElem_mem hk)
    simp only [m_spec_l18Choices_B4, idx_getD [] hi, Option.bind_some, lt_true hk, cond_true, idx_lt_nat hk, freeSpec_eq p h l hl i hi _ (show -1 ≤ (p.Domains.getD i [])[k] ∧ (p.Domains.getD i [])[k] ≤ 999 by omega)]
    rw [w64_id (n := (k : Int) + 1) (by omega) (by omega)]
    cases freeN p l i (p.Domains.getD i [])[k] with
    | false => rfl
    | true =>
      rw [cond_true, appL_of (by simp only [List.length_singleton]; omega)]
      rfl
  · simp only [m_spec_l18Choices_B4, idx_getD [] hi, Option.bind_some, lt_self, cond_false, Option.map_some]

theorem choImpl_eq (p : GProblem) (h : ProbOk p) (l : List Int) (hl : PartA p l) (i : Nat) (hi : i < p.Domains.length) : m_impl_Problem_choices p l (i : Int) = some (choN p l i) := by
  have hn := h.n2
  have hlen := hl.len
  unfold m_impl_Problem_choices choN
  rw [idx_getD [] hi, Option.bind_some]
  have hd := dom_len h hi
  have key := filt_loop (p.Domains.getD i []) (freeN p l i) (fun s : (Int × (List Int)) => m_impl_Problem_choices_B4 p l (i : Int) (p.Domains.getD i []) s.1 s.2) (fun k hk acc ha => ?_) (fun acc => ?_)
  · exact (congrArg (fun o => Option.bind o fun x => some x) key).trans rfl
  · have hm := dom_rng h hi (List.getElem_mem hk)
    have inner : loopM (fun s : (Bool × Int) => m_impl_Problem_choices_B10 p l (i : Int) (p.Domains.getD i [])[k] s.1 s.2) (false, (0 : Int)) = some (!freeN p l i (p.Domains.getD i [])[k]) := by
      have key := fold_loop (List.range l.length) (fun v j => if clashN p l i (p.Domains.getD i [])[k] j then true else v) (fun v : Bool => v) (fun s : (Bool × Int) => m_impl_Problem_choices_B10 p l (i : Int) (p.Domains.getD i [])[k] s.1 s.2) (fun j hj v => ?_) (fun v => ?_) false
      · rw [key, foldl_or (n := 0)]
        unfold freeN
        congr 1
        rw [Bool.false_or]
        rw [Bool.eq_iff_iff, Bool.not_eq_true', List.any_eq_true, List.all_eq_false]
        simp
      · rw [List.length_range] at hj
        rw [List.getElem_range]
        have hia : i < p.Apart.length := by have := h.len; omega
        have hj2 : j < (p.Apart.getD i []).length := by have := h.row i hi; omega
        simp only [m_impl_Problem_choices_B10, lt_true hj, cond_true, idx_getD 0 hj, Option.bind_some]
        rw [w64_id (n := (j : Int) + 1) (by omega) (by omega)]
        unfold clashN
        by_cases hji : j = i
        · have e : ((j : Int) != (i : Int)) = false := by rw [hji]; exact bne_self _
          rw [e, decide_eq_false (show ¬ j ≠ i from fun h => h hji)]; rfl
        · have e : ((j : Int) != (i : Int)) = true := by simp only [bne_iff_ne, ne_eq]; omega
          rw [e, decide_eq_true hji]
          simp only [cond_true, Bool.true_and]
          cases h0 : decide (0 ≤ l.getD j 0) with
          | false => rfl
          | true =>
            obtain ⟨x, hx, hx2⟩ := Option.map_eq_some_iff.1 (near_impl (p.Domains.getD i [])[k] (l.getD j 0) ((p.Apart.getD i []).getD j 0) (by omega) (hl.rng j hj))
            simp only [cond_true, idx_getD [] hia, idx_getD 0 hj2, Option.bind_some, hx, hx2, Bool.true_and]
            have en : decide ((p.Domains.getD i [])[k] - l.getD j 0 < (p.Apart.getD i []).getD j 0 ∧ l.getD j 0 - (p.Domains.getD i [])[k] < (p.Apart.getD i []).getD j 0) = decide ((p.Domains.getD i [])[k] - l.getD j 0 < apartAt p i j ∧ l.getD j 0 - (p.Domains.getD i [])[k] < apartAt p i j) := rfl
            rw [en]
            cases decide ((p.Domains.getD i [])[k] - l.getD j 0 < apartAt p i j ∧ l.getD j 0 - (p.Domains.getD i [])[k] < apartAt p i j) <;> rfl
      · rw [List.length_range]
        simp only [m_impl_Problem_choices_B10, lt_self, cond_false, Option.map_some]
    simp only [m_impl_Problem_choices_B4, lt_true hk, cond_true, idx_lt_nat hk, Option.bind_some, inner, Bool.not_not]
    rw [w64_id (n := (k : Int) + 1) (by omega) (by omega)]
    cases freeN p l i (p.Domains.getD i [])[k] with
    | false => rfl
    | true =>
      rw [cond_true, appL_of (by simp only [List.length_singleton]; omega)]
      rfl
  · simp only [m_impl_Problem_choices_B4, lt_self, cond_false, Option.map_some]
end Go.Wk
