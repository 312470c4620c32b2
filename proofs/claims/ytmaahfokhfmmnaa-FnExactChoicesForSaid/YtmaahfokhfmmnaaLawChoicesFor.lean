/-
  Plain law: ChoicesFor. No program in sight. Our own work.
-/
import Derived.Test.YtmaahfokhfmmnaaLawChoices
import Derived.Test.YtmaahfokhfmmnaaLawItem
import Derived.Test.YtmaahfokhfmmnaaLawMarkP
import Derived.Test.YtmaahfokhfmmnaaLawEnd
namespace Go.Wk
open Go Go.RowKit

def partN (p : GProblem) (l : List Int) : Bool := decide (l.length = p.Domains.length) && (List.range l.length).all fun k => decide (l.getD k 0 = -1) || hasN (p.Domains.getD k []) (l.getD k 0)
theorem partN_true {p : GProblem} (h : ProbOk p) {l : List Int} (hl : partN p l = true) : l.length = p.Domains.length ∧ PartA p l := by
  unfold partN at hl
  simp only [Bool.and_eq_true, decide_eq_true_eq] at hl
  refine ⟨hl.1, by omega, fun k hk => ?_⟩
  have := range_all_true hl.2 k hk
  simp only [Bool.or_eq_true, decide_eq_true_eq] at this
  rcases this with h1 | h1
  · omega
  · have := dom_rng h (show k < p.Domains.length by omega) (has_mem h1); omega

theorem partSpec_eq (p : GProblem) (h : ProbOk p) (l : List Int) : m_spec_l18Part p l = some (partN p l) := by
  have hn := h.n2
  unfold m_spec_l18Part partN
  by_cases hl : l.length = p.Domains.length
  case neg =>
    have e : ((l.length : Int) != (p.Domains.length : Int)) = true := by simp only [bne_iff_ne, ne_eq]; omega
    rw [e, cond_true, decide_eq_false hl, Bool.false_and]
  have e : ((l.length : Int) != (p.Domains.length : Int)) = false := by rw [hl]; exact bne_self _
  rw [e, cond_false, decide_eq_true hl, Bool.true_and]
  refine all_loop_n l.length _ _ (fun k hk => ?_) ?_
  · have hd := dom_len h (show k < p.Domains.length by omega)
    simp only [m_spec_l18Part_B1, lt_true hk, cond_true, idx_getD 0 hk, Option.bind_some]
    rw [w64_id (n := (k : Int) + 1) (by omega) (by omega)]
    by_cases h1 : l.getD k 0 = -1
    · have e1 : (l.getD k 0 != -1) = false := by rw [h1]; rfl
      rw [e1, decide_eq_true h1]; rfl
    · have e1 : (l.getD k 0 != -1) = true := by simp only [bne_iff_ne, ne_eq]; exact h1
      rw [e1, decide_eq_false h1]
      simp only [cond_true, idx_getD [] (show k < p.Domains.length by omega), Option.bind_some, hasSpec_eq _ _ (show (p.Domains.getD k []).length ≤ 1048576 by omega), Bool.false_or]
      cases hasN (p.Domains.getD k []) (l.getD k 0) <;> rfl
  · simp only [m_spec_l18Part_B1, lt_self, cond_false, Option.map_some]

theorem choices_same (a : GProblem) (ha : FitsP a) (l : List Int) (hl : l.length ≤ 1048576) (i : Int) : ∃ r c, m_spec_ChoicesFor a l i = some (r, c) ∧ m_impl_ChoicesFor a l i = some (r, c) ∧ r.length ≤ 32 := by
  unfold m_spec_ChoicesFor m_impl_ChoicesFor
  rw [probSpec_eq _ ha, probImpl_eq _ ha, Option.bind_some, Option.bind_some]
  cases ho : probOk a with
  | false => exact ⟨[], 1, rfl, rfl, by simp⟩
  | true =>
    have hp := probOk_true ho
    have hn := hp.n2
    simp only [Bool.not_true, cond_false, itemSpec_eq a (show a.Domains.length ≤ 1048576 by omega), itemImpl_eq a (show a.Domains.length ≤ 1048576 by omega), Option.bind_some]
    cases hi : itemIn a i with
    | false => exact ⟨[], 2, rfl, rfl, by simp⟩
    | true =>
      obtain ⟨n, rfl, hnl⟩ := itemIn_true hi
      simp only [Bool.not_true, cond_false, partSpec_eq a hp, Option.bind_some]
      by_cases h1 : l.length = a.Domains.length
      case neg =>
        have e : ((l.length : Int) != (a.Domains.length : Int)) = true := by simp only [bne_iff_ne, ne_eq]; omega
        have e2 : partN a l = false := by unfold partN; rw [decide_eq_false h1, Bool.false_and]
        rw [e, e2]
        exact ⟨[], 6, rfl, rfl, by simp⟩
      have e : ((l.length : Int) != (a.Domains.length : Int)) = false := by rw [h1]; exact bne_self _
      rw [e, cond_false]
      by_cases hpt : PartA a l
      case neg =>
        -- then some number is no channel
        have e2 : partN a l = false := by
          cases hb : partN a l with
          | false => rfl
          | true => exact absurd (partN_true hp hb).2 hpt
        have hq : (List.range l.length).all (fun k => decide (l.getD k 0 = -1) || hasN (a.Domains.getD k []) (l.getD k 0)) = false := by
          unfold partN at e2
          rwa [decide_eq_true h1, Bool.true_and] at e2
        refine ⟨[], 6, by rw [e2]; rfl, ?_, by simp⟩
        have := all_loop_g l.length (fun s : Int => m_impl_ChoicesFor_B6 a l (n : Int) s) (fun k => decide (l.getD k 0 = -1) || hasN (a.Domains.getD k []) (l.getD k 0)) (([] : List Int), (0 : Int)) (([] : List Int), (6 : Int)) 0 (by omega) (fun j hj => absurd hj (by omega)) (fun k _ hk _ => ?_) (fun hall => ?_)
        · rw [hq] at this
          exact this
        · have hd := dom_len hp (show k < a.Domains.length by omega)
          simp only [m_impl_ChoicesFor_B6, lt_true hk, cond_true, idx_getD 0 hk, Option.bind_some]
          rw [w64_id (n := (k : Int) + 1) (by omega) (by omega)]
          by_cases h1 : l.getD k 0 = -1
          · have e1 : (l.getD k 0 != -1) = false := by rw [h1]; rfl
            rw [e1, decide_eq_true h1]; rfl
          · have e1 : (l.getD k 0 != -1) = true := by simp only [bne_iff_ne, ne_eq]; exact h1
            rw [e1, decide_eq_false h1]
            simp only [cond_true, idx_getD [] (show k < a.Domains.length by omega), Option.bind_some, containsN_eq _ _ (show (a.Domains.getD k []).length ≤ 1048576 by omega), Bool.false_or]
            cases hasN (a.Domains.getD k []) (l.getD k 0) <;> rfl
        · exfalso
          have : (List.range l.length).all (fun k => decide (l.getD k 0 = -1) || hasN (a.Domains.getD k []) (l.getD k 0)) = true := by
            rw [List.all_eq_true]; intro k hk; exact hall k (by simpa using hk)
          rw [hq] at this; simp at this
      have key := all_loop_g l.length (fun s : Int => m_impl_ChoicesFor_B6 a l (n : Int) s) (fun k => decide (l.getD k 0 = -1) || hasN (a.Domains.getD k []) (l.getD k 0)) (choN a l n, (0 : Int)) (([] : List Int), (6 : Int)) 0 (by omega) (fun j hj => absurd hj (by omega)) (fun k _ hk _ => ?_) (fun hall => ?_)
      · have key : loopM (fun s : Int => m_impl_ChoicesFor_B6 a l (n : Int) s) (0 : Int) = _ := key
        rw [key]
        have e3 : partN a l = (List.range l.length).all (fun k => decide (l.getD k 0 = -1) || hasN (a.Domains.getD k []) (l.getD k 0)) := by
          unfold partN; rw [decide_eq_true h1, Bool.true_and]
        rw [← e3]
        cases hb : partN a l with
        | false => exact ⟨[], 6, rfl, rfl, by simp⟩
        | true =>
          simp only [Bool.not_true, cond_false, choSpec_eq a hp l hpt n hnl, Option.bind_some]
          exact ⟨choN a l n, 0, rfl, rfl, choN_len hp hnl l⟩
      · have hd := dom_len hp (show k < a.Domains.length by omega)
        simp only [m_impl_ChoicesFor_B6, lt_true hk, cond_true, idx_getD 0 hk, Option.bind_some]
        rw [w64_id (n := (k : Int) + 1) (by omega) (by omega)]
        by_cases h1 : l.getD k 0 = -1
        · have e1 : (l.getD k 0 != -1) = false := by rw [h1]; rfl
          rw [e1, decide_eq_true h1]; rfl
        · have e1 : (l.getD k 0 != -1) = true := by simp only [bne_iff_ne, ne_eq]; exact h1
          rw [e1, decide_eq_false h1]
          simp only [cond_true, idx_getD [] (show k < a.Domains.length by omega), Option.bind_some, containsN_eq _ _ (show (a.Domains.getD k []).length ≤ 1048576 by omega), Bool.false_or]
          cases hasN (a.Domains.getD k []) (l.getD k 0) <;> rfl
      · simp only [m_impl_ChoicesFor_B6, lt_self, cond_false, choImpl_eq a hp l hpt n hnl, Option.bind_some, Option.map_some]

theorem law_FnExactChoicesFor (a : GProblem) (l : List Int) (i : Int) (k : okGProblem a) (_kl : l.length ≤ maxLen ∧ ∀ x ∈ l, ((Lit.int .i64 x).wf = true)) (_ki : (Lit.int .i64 i).wf = true) : m_laws_FnExactChoicesFor a l i = some true := by
  unfold m_laws_FnExactChoicesFor
  by_cases h1 : (1048576 : Int) < (l.length : Int)
  · rw [decide_eq_true h1]; rfl
  rw [decide_eq_false h1, cond_false]
  obtain ⟨r, hr, hc⟩ := szProblem_eq a k 1048576 (by omega) (by omega)
  rw [hr, Option.bind_some]
  rcases hc with hc | ⟨hc, hc2, ha⟩
  · rw [decide_eq_true hc]; rfl
  rw [decide_eq_false (by omega), cond_false]
  obtain ⟨s, c, e1, e2, e3⟩ := choices_same a ha l (by omega) i
  have h2 := fits_tot ha.1
  have h3 := fits_tot ha.2
  simp only [toProblem_eq _ ha, eqProblem_self _ ha, toInt64S_eq l (by omega), eq_len l (by omega), e1, e2, eq_len s (by omega), Option.bind_some, bne_self, cond_false, Bool.not_true, markProblem_eq a ha 1 (by omega) (by omega), markInt64S_eq l (1 + (tot a.Domains : Int) + (tot a.Apart : Int)) (by omega) (by omega), lt_false (show ¬ (1 + (tot a.Domains : Int) + (tot a.Apart : Int) + (l.length : Int) < 0) by omega), mark_len s (by omega), held_len s (by omega), pos_len s]
end Go.Wk
