/-
  Plain laws: a number put to its place among rising ones; sorted lists. No program in sight. Our own work.
-/
import Derived.Test.YtfadnbelnfofbaaPlainD
import Derived.Test.YtfadnbelnfofbaaMod
namespace Go.Wk
open Go Go.RowKit

def put : List Int → Int → List Int
  | [], n => [n]
  | x :: l, n => if x < n then x :: put l n else if n < x then n :: x :: l else x :: l
theorem put_len (l : List Int) (n : Int) : (put l n).length ≤ l.length + 1 := by
  induction l with
  | nil => simp [put]
  | cons x l ih => unfold put; split; (· simp only [List.length_cons]; omega); split <;> simp
theorem put_mem (l : List Int) (n y : Int) : y ∈ put l n ↔ y = n ∨ y ∈ l := by
  induction l with
  | nil => simp [put]
  | cons x l ih =>
    unfold put
    split
    · rw [List.mem_cons, ih, List.mem_cons]
      exact ⟨fun h => h.elim (fun h => .inr (.inl h)) (fun h => h.elim .inl (fun h => .inr (.inr h))), fun h => h.elim (fun h => .inr (.inl h)) (fun h => h.elim .inl (fun h => .inr (.inr h)))⟩
    · split
      · rw [List.mem_cons]
      · have e : x = n := by omega
        subst e
        constructor
        · exact .inr
        · rintro (h | h)
          · rw [h]; exact List.mem_cons_self
          · exact h
theorem put_sorted {l : List Int} (n : Int) (h : l.Pairwise (· < ·)) : (put l n).Pairwise (· < ·) := by
  induction l with
  | nil => simp [put]
  | cons x l ih =>
    have hx := List.pairwise_cons.1 h
    unfold put
    split
    · refine List.pairwise_cons.2 ⟨fun y hy => ?_, ih hx.2⟩
      rcases (put_mem l n y).1 hy with e | e
      · omega
      · exact hx.1 y e
    · split
      · refine List.pairwise_cons.2 ⟨fun y hy => ?_, h⟩
        rcases List.mem_cons.1 hy with e | e
        · omega
        · have := hx.1 y e; omega
      · exact h
theorem put_perm {l : List Int} {n : Int} (h : n ∉ l) : (put l n).Perm (n :: l) := by
  induction l with
  | nil => exact List.Perm.refl _
  | cons x l ih =>
    unfold put
    rw [List.mem_cons, not_or] at h
    split
    · exact (List.Perm.cons x (ih h.2)).trans (List.Perm.swap _ _ _)
    · split
      · exact List.Perm.refl _
      · exact absurd (show n = x by omega) h.1

theorem putSpec_eq (l : List Int) (n : Int) (hl : l.length ≤ 1048576) : m_spec_l00Put l n = some (put l n) := by
  -- behind the place
  have tail : ∀ (m k : Nat) (out : List Int), k + m = l.length → out.length ≤ k + 1 → loopM (fun s : (Bool × Int × (List Int)) => m_spec_l00Put_B4 l n s.1 s.2.1 s.2.2) (true, (k : Int), out) = some (true, out ++ l.drop k) := by
    intro m
    induction m with
    | zero =>
      intro k out hk ho
      refine loopM_inr ?_
      simp only [m_spec_l00Put_B4]
      rw [decide_eq_false (by omega), List.drop_eq_nil_of_le (by omega), List.append_nil]
      rfl
    | succ m ih =>
      intro k out hk ho
      have hkl : k < l.length := by omega
      rw [loopM_inl (s' := (true, ((k + 1 : Nat) : Int), out ++ [l[k]])) (by
        simp only [m_spec_l00Put_B4, lt_true hkl, cond_true, Bool.not_true, cond_false, Option.bind_some, idx_lt_nat hkl]
        rw [appL_of (by rw [List.length_singleton]; omega), Option.bind_some, w64_id (by omega) (by omega)]
        rfl)]
      rw [ih (k + 1) _ (by omega) (by rw [List.length_append, List.length_singleton]; omega), List.append_assoc]
      congr 3
      rw [List.drop_eq_getElem_cons hkl]; rfl
  have key : ∀ (m k : Nat) (out : List Int), k + m = l.length → out.length = k → ∃ d o, loopM (fun s : (Bool × Int × (List Int)) => m_spec_l00Put_B4 l n s.1 s.2.1 s.2.2) (false, (k : Int), out) = some (d, o) ∧ o.length ≤ l.length + 1 ∧ (bif d then o else o ++ [n]) = out ++ put (l.drop k) n ∧ (d = false → o.length = l.length) := by
    intro m
    induction m with
    | zero =>
      intro k out hk ho
      refine ⟨false, out, loopM_inr ?_, by omega, ?_, fun _ => by omega⟩
      · simp only [m_spec_l00Put_B4]
        rw [decide_eq_false (by omega)]
        rfl
      · rw [List.drop_eq_nil_of_le (by omega)]; rfl
    | succ m ih =>
      intro k out hk ho
      have hkl : k < l.length := by omega
      have hd : l.drop k = l[k] :: l.drop (k + 1) := List.drop_eq_getElem_cons hkl
      by_cases c1 : n ≤ l[k]
      · by_cases c2 : n < l[k]
        · have hs : m_spec_l00Put_B4 l n false (k : Int) out = some (.inl (true, ((k + 1 : Nat) : Int), out ++ [n] ++ [l[k]])) := by
            simp only [m_spec_l00Put_B4, lt_true hkl, cond_true, Bool.not_false, Option.bind_some, idx_lt_nat hkl, decide_eq_true c1, decide_eq_true c2]
            rw [appL_of (by rw [List.length_singleton]; omega), Option.bind_some, Option.bind_some, Option.bind_some]
            simp only
            rw [appL_of (by rw [List.length_append, List.length_singleton, List.length_singleton]; omega), Option.bind_some, w64_id (by omega) (by omega)]
            rfl
          refine ⟨true, _, (loopM_inl hs).trans (tail m (k + 1) _ (by omega) (by simp [ho])), ?_, ?_, fun h => by cases h⟩
          · simp; omega
          · rw [hd, put, if_neg (by omega), if_pos c2]; simp
        · have hs : m_spec_l00Put_B4 l n false (k : Int) out = some (.inl (true, ((k + 1 : Nat) : Int), out ++ [l[k]])) := by
            simp only [m_spec_l00Put_B4, lt_true hkl, cond_true, Bool.not_false, Option.bind_some, idx_lt_nat hkl, decide_eq_true c1, decide_eq_false c2, cond_false]
            rw [appL_of (by rw [List.length_singleton]; omega), Option.bind_some, w64_id (by omega) (by omega)]
            rfl
          refine ⟨true, _, (loopM_inl hs).trans (tail m (k + 1) _ (by omega) (by simp [ho])), ?_, ?_, fun h => by cases h⟩
          · simp; omega
          · rw [hd, put, if_neg (by omega), if_neg c2]; simp
      · have hs : m_spec_l00Put_B4 l n false (k : Int) out = some (.inl (false, ((k + 1 : Nat) : Int), out ++ [l[k]])) := by
          simp only [m_spec_l00Put_B4, lt_true hkl, cond_true, Bool.not_false, Option.bind_some, idx_lt_nat hkl, decide_eq_false c1, cond_false]
          rw [appL_of (by rw [List.length_singleton]; omega), Option.bind_some, w64_id (by omega) (by omega)]
          rfl
        obtain ⟨d, o, h1, h2, h3, h4⟩ := ih (k + 1) (out ++ [l[k]]) (by omega) (by simp [ho])
        refine ⟨d, o, (loopM_inl hs).trans h1, h2, ?_, h4⟩
        rw [h3, hd, put, if_pos (by omega)]; simp
  obtain ⟨d, o, h1, h2, h3, h4⟩ := key l.length 0 [] (by omega) rfl
  have h1' : loopM (fun s : (Bool × Int × (List Int)) => m_spec_l00Put_B4 l n s.1 s.2.1 s.2.2) (false, (0 : Int), ([] : List Int)) = some (d, o) := h1
  unfold m_spec_l00Put
  rw [h1', Option.bind_some]
  rw [List.drop_zero, List.nil_append] at h3
  cases d with
  | true =>
    simp only [Bool.not_true, cond_false, Option.bind_some]
    rw [← h3]; rfl
  | false =>
    have := h4 rfl
    simp only [Bool.not_false, cond_true]
    rw [appL_of (by rw [List.length_singleton]; omega), Option.bind_some, Option.bind_some, ← h3]
    rfl
/-- Rising lists with the same elements are the same. -/
theorem sorted_eq_of_perm {a b : List Int} (h : a.Perm b) (ha : a.Pairwise (· ≤ ·)) (hb : b.Pairwise (· ≤ ·)) : a = b :=
  List.Perm.eq_of_pairwise (fun x y _ _ h1 h2 => Int.le_antisymm h1 h2) ha hb h
end Go.Wk
