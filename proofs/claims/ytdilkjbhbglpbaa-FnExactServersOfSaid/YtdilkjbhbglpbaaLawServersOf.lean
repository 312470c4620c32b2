/-
  Plain law: ServersOf. No program in sight. Our own work.
-/
import Derived.Test.YtdilkjbhbglpbaaLawRows
import Derived.Test.YtdilkjbhbglpbaaLawServer
import Derived.Test.YtdilkjbhbglpbaaLawMarkSS
import Derived.Test.YtdilkjbhbglpbaaPlainD
namespace Go.Wk
open Go Go.RowKit

/-- A list is built by appending what each element yields. -/
theorem map_loop {α : Type} (l : List α) (f : α → Option Int) (hl : l.length ≤ 1048576) (hf : ∀ x ∈ l, ∃ y, f x = some y) :
    ∃ r : List Int, r.length = l.length ∧ (∀ (j : Nat) (h : j < l.length), f l[j] = r[j]?) ∧ ∀ (n j : Nat) (acc : List Int), j + n = l.length → acc = r.take j → loopM (fun s : (Int × (List Int)) => bif decide (s.1 < (l.length : Int)) then (idx l s.1).bind fun x => (f x).bind fun y => (appL 8 s.2 ([y] : List Int)).bind fun z => some (Sum.inl (w64 (s.1 + (1 : Int)), z)) else Option.map Sum.inr (some s.2)) ((j : Int), acc) = some r := by
  have hr : ∃ r : List Int, r.length = l.length ∧ ∀ (j : Nat) (h : j < l.length), f l[j] = r[j]? := by
    clear hl
    induction l with
    | nil => exact ⟨[], rfl, fun j h => by simp at h⟩
    | cons x l ih =>
      obtain ⟨y, hy⟩ := hf x (List.mem_cons_self ..)
      obtain ⟨r, h1, h2⟩ := ih (fun x hx => hf x (List.mem_cons_of_mem _ hx))
      refine ⟨y :: r, by simp [h1], fun j h => ?_⟩
      cases j with
      | zero => simpa using hy
      | succ j => simpa using h2 j (by simpa using h)
  obtain ⟨r, h1, h2⟩ := hr
  refine ⟨r, h1, h2, fun n => ?_⟩
  induction n with
  | zero =>
    intro j acc hj ha
    have e : j = l.length := by omega
    subst e
    refine loopM_inr ?_
    simp only [lt_self, cond_false, Option.map_some]
    rw [ha, List.take_of_length_le (by omega)]
  | succ n ih =>
    intro j acc hj ha
    have hj' : j < l.length := by omega
    have hjr : j < r.length := by omega
    have hfj := h2 j hj'
    rw [List.getElem?_eq_getElem hjr] at hfj
    refine (loopM_inl (s' := (((j + 1 : Nat) : Int), r.take (j + 1))) ?_).trans (ih (j + 1) _ (by omega) rfl)
    have hal : acc.length = j := by rw [ha, List.length_take]; omega
    simp only [lt_true hj', cond_true, idx_lt_nat hj', Option.bind_some, hfj]
    rw [appL_of (by simp; omega), Option.bind_some, w64_id (by omega) (by omega), ha, List.take_append_getElem hjr]
    rfl

theorem servers_same (l : List (List Int)) (hl : FitsSS l) : ∃ r c, m_spec_ServersOf l = some (r, c) ∧ m_impl_ServersOf l = some (r, c) ∧ r.length ≤ 1048576 := by
  unfold m_spec_ServersOf m_impl_ServersOf
  rw [rowsSpec_eq l hl, rowsImpl_eq l hl, Option.bind_some, Option.bind_some]
  cases hr : rowsOk l with
  | false => exact ⟨[], 1, rfl, rfl, by simp⟩
  | true =>
    simp only [Bool.not_true, cond_false]
    have hpos : ∀ x ∈ l, 0 < x.length := by
      intro x hx
      unfold rowsOk at hr
      simp only [Bool.and_eq_true, List.all_eq_true] at hr
      have := (hr.2 x hx).1
      unfold rowOkN at this
      simp only [Bool.and_eq_true, decide_eq_true_eq] at this
      omega
    obtain ⟨r, h1, h2, h3⟩ := map_loop l m_spec_l16Server hl.1 (fun x hx => let ⟨k, h, _⟩ := srv_same x (hpos x hx) (hl.2 x hx); ⟨_, h⟩)
    obtain ⟨r', h1', h2', h3'⟩ := map_loop l m_impl_serverOf hl.1 (fun x hx => let ⟨k, _, h, _⟩ := srv_same x (hpos x hx) (hl.2 x hx); ⟨_, h⟩)
    have e : r = r' := by
      refine List.ext_getElem (by omega) fun j hj hj' => ?_
      have hj0 : j < l.length := by omega
      obtain ⟨k, g1, g2, _⟩ := srv_same l[j] (hpos _ (List.getElem_mem hj0)) (hl.2 _ (List.getElem_mem hj0))
      have a1 := h2 j hj0
      have a2 := h2' j hj0
      rw [g1, List.getElem?_eq_getElem hj] at a1
      rw [g2, List.getElem?_eq_getElem hj'] at a2
      have a1 := Option.some.inj a1
      have a2 := Option.some.inj a2
      rw [← a1, ← a2]
    subst e
    have l1 := h3 l.length 0 [] (by omega) (by simp)
    have l2 := h3' l.length 0 [] (by omega) (by simp)
    refine ⟨r, 0, ?_, ?_, by have := hl.1; omega⟩
    · exact (congrArg (fun o => (Option.bind o fun x5 => some (x5, (0 : Int)))) l1).trans rfl
    · exact (congrArg (fun o => (Option.bind o fun x4 => some (x4, (0 : Int)))) l2).trans rfl

theorem law_FnExactServersOf (l : List (List Int)) (k : l.length ≤ maxLen ∧ ∀ x ∈ l, (x.length ≤ maxLen ∧ ∀ xy ∈ x, ((Lit.int .i64 xy).wf = true))) : m_laws_FnExactServersOf l = some true := by
  unfold m_laws_FnExactServersOf
  obtain ⟨r, hr, hc⟩ := szInt64SS_eq l 1048576 (by omega) (by omega) k.1 (fun x hx => (k.2 x hx).1)
  rw [hr, Option.bind_some]
  rcases hc with hc | ⟨hc, hc2, ha⟩
  · rw [decide_eq_true hc]; rfl
  rw [decide_eq_false (by omega), cond_false]
  obtain ⟨s, c, h1, h2, h3⟩ := servers_same l ha
  have hh := heldInt64S_eq s.length 1 (by omega) (by omega)
  have ht := tot_le l 1048576 ha.2
  have hl := ha.1
  have ht2 : l.length * 1048576 ≤ 1048576 * 1048576 := Nat.mul_le_mul_right _ hl
  simp only [toInt64SS_eq _ ha, Option.bind_some, h1, h2, eqInt64S_eq s s (by omega), decide_true, Bool.not_true, cond_false, bne_self, eqInt64SS_eq _ _ ha, markInt64SS_eq l 1 (by omega) (by omega) (by omega), lt_false (show ¬ (1 + (tot l : Int) < 0) by omega), markInt64S_eq s 1 (by omega) (by omega), hh, lt_false (show ¬ (1 + (s.length : Int) < 0) by omega)]
end Go.Wk
