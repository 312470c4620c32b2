/-
  Plain laws: the channels of an item without conflicts. No program in sight. Our own work.
-/
import Derived.Test.YtmaahfokhfmmnaaLawChoices
import Derived.Test.YtmaahfokhfmmnaaLawState
namespace Go.Wk
open Go Go.RowKit

theorem cnt_fold (q : Nat → Bool) : ∀ (l : List Nat) (v : Int), 0 ≤ v → v + l.length ≤ 4611686018427387904 → l.foldl (fun v j => if q j then w64 (v + 1) else v) v = v + (l.filter q).length := by
  intro l
  induction l with
  | nil => intro v _ _; simp
  | cons x l ih =>
    intro v h0 h1
    simp only [List.length_cons] at h1
    rw [List.foldl_cons, List.filter_cons]
    cases hq : q x with
    | true =>
      simp only [if_true]
      rw [w64_id (by omega) (by omega), ih _ (by omega) (by omega)]
      simp only [List.length_cons]; omega
    | false => simp only [Bool.false_eq_true, if_false]; exact ih v h0 (by omega)
theorem confN_cnt (p : GProblem) (l : List Int) (hl : l.length ≤ 1048576) (i : Nat) (c : Int) : confN p l i c = ((List.range l.length).filter (closeN p l i c)).length := by
  unfold confN
  rw [cnt_fold _ _ 0 (by omega) (by simp; omega)]; omega
theorem conf_free (p : GProblem) (l : List Int) (hl : l.length ≤ 1048576) (hs : ∀ k, k < l.length → 0 ≤ l.getD k 0) (i : Nat) (c : Int) : (confN p l i c == 0) = freeN p l i c := by
  rw [confN_cnt p l hl, Bool.eq_iff_iff]
  unfold freeN
  simp only [beq_iff_eq, List.all_eq_true, Bool.not_eq_true']
  have e : ∀ j, j < l.length → clashN p l i c j = closeN p l i c j := by
    intro j hj
    unfold clashN closeN
    rw [decide_eq_true (hs j hj), Bool.true_and]
  constructor
  · intro h j hj
    have hj' : j < l.length := by simpa using hj
    rw [e j hj']
    have h0 : ((List.range l.length).filter (closeN p l i c)) = [] := List.eq_nil_of_length_eq_zero (by omega)
    have := List.filter_eq_nil_iff.1 h0 j hj
    simpa using this
  · intro h
    have : ((List.range l.length).filter (closeN p l i c)) = [] := List.filter_eq_nil_iff.2 fun j hj => by
      have hj' : j < l.length := by simpa using hj
      rw [← e j hj', h j hj]; simp
    rw [this]; rfl
theorem l19Free_eq (p : GProblem) (h : ProbOk p) (l : List Int) (hs : stateN p l = true) (i : Nat) (hi : i < p.Domains.length) : m_spec_l19Free p l (i : Int) = some (choN p l i) := by
  have hs' := stateN_true hs
  have hn := h.n2
  have hr : ∀ k, k < l.length → -1 ≤ l.getD k 0 ∧ l.getD k 0 ≤ 999 := fun k hk => by have := hs'.2 k hk; omega
  unfold m_spec_l19Free choN
  have hd := dom_len h hi
  have key := filt_loop (p.Domains.getD i []) (freeN p l i) (fun s : (Int × (List Int)) => m_spec_l19Free_B4 p l (i : Int) s.1 s.2) (fun k hk acc ha => ?_) (fun acc => ?_)
  · exact (congrArg (fun o => Option.bind o fun x => some x) key).trans rfl
  · have hm := dom_rng h hi (List.getElem_mem hk)
    simp only [m_spec_l19Free_B4, idx_getD [] hi, Option.bind_some, lt_true hk, cond_true, idx_lt_nat hk, confSpec_eq p h l hs'.1 hr i (by omega) _ (show -1 ≤ (p.Domains.getD i [])[k] ∧ (p.Domains.getD i [])[k] ≤ 999 by omega), conf_free p l (by omega) (fun k hk => (hs'.2 k hk).1)]
    rw [w64_id (n := (k : Int) + 1) (by omega) (by omega)]
    cases freeN p l i (p.Domains.getD i [])[k] with
    | false => rfl
    | true =>
      rw [cond_true, appL_of (by simp only [List.length_singleton]; omega)]
      rfl
  · simp only [m_spec_l19Free_B4, idx_getD [] hi, Option.bind_some, lt_self, cond_false, Option.map_some]
theorem state_part {p : GProblem} {l : List Int} (hs : stateN p l = true) : PartA p l := by
  have hs' := stateN_true hs
  exact ⟨by omega, fun k hk => by have := hs'.2 k hk; omega⟩
end Go.Wk
