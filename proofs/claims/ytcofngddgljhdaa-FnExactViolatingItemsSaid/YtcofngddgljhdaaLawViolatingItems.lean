/-
  Plain law: ViolatingItems. No program in sight. Our own work.
-/
import Derived.Test.YtcofngddgljhdaaLawBad
import Derived.Test.YtcofngddgljhdaaLawDelete
import Derived.Test.YtcofngddgljhdaaLawMarkP
import Derived.Test.YtcofngddgljhdaaLawEnd
import Derived.Test.YtcofngddgljhdaaPlainF
namespace Go.Wk
open Go Go.RowKit

theorem badImpl_eq (p : GProblem) (h : ProbOk p) (l : List Int) (hs : StA p l) (i : Nat) (hi : i < l.length) : m_impl_Problem_badness p l (i : Int) = some (badN p l i) := by
  have hn := h.n2
  have hl := hs.len
  unfold m_impl_Problem_badness badN
  have hd := dom_len h (k := i) (by omega)
  simp only [idx_getD 0 hi, idx_getD [] (show i < p.Domains.length by omega), Option.bind_some, confImpl_eq p h l hl hs.wide i hi _ (hs.wide i hi), containsN_eq _ _ (show (p.Domains.getD i []).length ≤ 1048576 by omega)]
  cases hasN (p.Domains.getD i []) (l.getD i 0) <;> rfl

theorem items_eq (p : GProblem) (hn : p.Domains.length ≤ 1048576) : m_impl_Problem_items p = some ((List.range p.Domains.length).map fun k : Nat => (k : Int)) := by
  unfold m_impl_Problem_items
  rw [mkL_nat (bytes := 8) (0 : Int) (by omega), Option.bind_some]
  have := fill_loop p.Domains.length (fun k : Nat => (k : Int)) (0 : Int) (fun s : (Int × (List Int)) => m_impl_Problem_items_B5 (List.replicate p.Domains.length (0 : Int)) s.1 s.2) (fun k hk v hv => ?_) (fun v hv => ?_)
  · rw [this]; rfl
  · have hk' : k < v.length := by omega
    simp only [m_impl_Problem_items_B5, List.length_replicate, lt_true hk, cond_true, inB_nat hk', Option.bind_some, Int.toNat_natCast]
    rw [w64_id (by omega) (by omega)]; rfl
  · simp only [m_impl_Problem_items_B5, List.length_replicate, lt_self, cond_false, Option.map_some]

theorem bad_pos (p : GProblem) (h : ProbOk p) (l : List Int) (hs : StA p l) (i : Nat) : 0 ≤ badN p l i := by
  have hn := h.n2
  have hlen := hs.len
  have h1 := conf_cnt p l (by omega) i
  have h2 := List.length_filter_le (closeN p l i (l.getD i 0)) (List.range l.length)
  rw [List.length_range] at h2
  unfold badN
  split
  · omega
  · rw [w64_id (by omega) (by omega)]; omega

theorem ask_none (a : GProblem) (l : List Int) : askN a l [0] = askN a l [] := by
  unfold askN
  cases ho : probOk a with
  | false => rfl
  | true =>
    cases hst : stateN a l with
    | false => rfl
    | true =>
      have h1 := (probOk_true ho).n1
      have h2 := (stateN_true hst).1
      have : [0].all (fun i : Int => decide (0 ≤ i ∧ i ≤ (l.length : Int) - 1)) = true := by
        simp only [List.all_cons, List.all_nil, Bool.and_true, decide_eq_true_eq]; omega
      rw [this]; rfl

theorem violItems_same (a : GProblem) (ha : FitsP a) (l : List Int) (hl : l.length ≤ 1048576) : ∃ r c, m_spec_ViolatingItems a l = some (r, c) ∧ m_impl_ViolatingItems a l = some (r, c) ∧ r.length ≤ 1048576 := by
  unfold m_spec_ViolatingItems m_impl_ViolatingItems
  rw [askSpec_eq' _ ha _ hl, stateCode_eq _ ha _ hl _ (by simp), ask_none, Option.bind_some, Option.bind_some]
  by_cases h0 : askN a l [] = 0
  case neg =>
    have e : (askN a l [] != 0) = true := by simp only [bne_iff_ne, ne_eq]; exact h0
    rw [e]
    exact ⟨[], _, rfl, rfl, by simp⟩
  obtain ⟨ho, hst, _⟩ := askN_zero h0
  have hp := probOk_true ho
  have hn := hp.n2
  have hs0 := stateN_true hst
  have hs : StA a l := ⟨hs0.1, hs0.2⟩
  have e : (askN a l [] != 0) = false := by rw [h0]; rfl
  have hlen := hs.len
  have key := app_loop l.length 0 0 (fun i => decide (0 < badN a l i)) (fun i : Nat => (i : Int)) (fun s : (Int × (List Int)) => m_spec_ViolatingItems_B6 a l s.1 s.2) [] (by omega) (by simp) (fun k _ hk acc hacc => ?_) (fun acc => ?_)
  · have key : loopM (fun s : (Int × (List Int)) => m_spec_ViolatingItems_B6 a l s.1 s.2) ((0 : Int), ([] : (List Int))) = _ := key
    have hdel := delete_eq ((List.range a.Domains.length).map fun k : Nat => (k : Int)) (by simp; omega) (fun x => m_impl_ViolatingItems_1 x a l) (fun x => badN a l x.toNat == 0) (fun x hx => by
      obtain ⟨k, hk, rfl⟩ := List.mem_map.1 hx
      have hk' : k < l.length := by have := List.mem_range.1 hk; omega
      unfold m_impl_ViolatingItems_1
      rw [badImpl_eq a hp l hs k hk', Option.bind_some, Int.toNat_natCast])
    rw [e]
    simp only [cond_false, key, Option.bind_some, items_eq a (by omega), hdel]
    refine ⟨_, 0, rfl, ?_, ?_⟩
    · congr 2
      rw [List.filter_map, List.nil_append, ← hlen, Nat.sub_zero, ← List.range_eq_range']
      congr 1
      refine List.filter_congr fun i hi => ?_
      have := bad_pos a hp l hs i
      show (!(badN a l (Int.toNat (i : Int)) == 0)) = decide (0 < badN a l i)
      rw [Int.toNat_natCast, Bool.eq_iff_iff]
      simp only [Bool.not_eq_true', beq_eq_false_iff_ne, ne_eq, decide_eq_true_eq]
      omega
    · rw [List.nil_append, List.length_map]
      have := List.length_filter_le (fun i => decide (0 < badN a l i)) (List.range' 0 (l.length - 0))
      rw [List.length_range'] at this
      omega
  · simp only [m_spec_ViolatingItems_B6, lt_true hk, cond_true, badSpec_eq a hp l hs k hk, Option.bind_some]
    rw [w64_id (n := (k : Int) + 1) (by omega) (by omega)]
    cases decide (0 < badN a l k) with
    | false => rfl
    | true =>
      rw [cond_true, appL_of (by simp only [List.length_singleton]; omega)]
      rfl
  · simp only [m_spec_ViolatingItems_B6, lt_self, cond_false, Option.map_some]

theorem law_FnExactViolatingItems (a : GProblem) (l : List Int) (k : okGProblem a) (_kl : l.length ≤ maxLen ∧ ∀ x ∈ l, ((Lit.int .i64 x).wf = true)) : m_laws_FnExactViolatingItems a l = some true := by
  unfold m_laws_FnExactViolatingItems
  by_cases h1 : (1048576 : Int) < (l.length : Int)
  · rw [decide_eq_true h1]; rfl
  rw [decide_eq_false h1, cond_false]
  obtain ⟨r, hr, hc⟩ := szProblem_eq a k 1048576 (by omega) (by omega)
  rw [hr, Option.bind_some]
  rcases hc with hc | ⟨hc, hc2, ha⟩
  · rw [decide_eq_true hc]; rfl
  rw [decide_eq_false (by omega), cond_false]
  obtain ⟨s, c, e1, e2, e3⟩ := violItems_same a ha l (by omega)
  have h2 := fits_tot ha.1
  have h3 := fits_tot ha.2
  simp only [toProblem_eq _ ha, eqProblem_self _ ha, toInt64S_eq l (by omega), eq_len l (by omega), e1, e2, eq_len s (by omega), Option.bind_some, bne_self, cond_false, Bool.not_true, markProblem_eq a ha 1 (by omega) (by omega), markInt64S_eq l (1 + (tot a.Domains : Int) + (tot a.Apart : Int)) (by omega) (by omega), lt_false (show ¬ (1 + (tot a.Domains : Int) + (tot a.Apart : Int) + (l.length : Int) < 0) by omega), mark_len s (by omega), held_len s (by omega), pos_len s]
end Go.Wk
