/-
  Plain laws: the greatest number of a list. No program in sight. Our own work.
-/
import Derived.Test.YtbhegklilcpbmaaDoorLawS
namespace Go.Wk
open Go Go.RowKit

def mxN : Int → List Int → Int
  | v, [] => v
  | v, x :: l => mxN (if x > v then x else v) l
theorem max_loop (l : List Int) (hl : l.length ≤ 1048576) (v : Int) (k : Nat) (hk : k ≤ l.length) : loopM (fun s : (Int × Int) => m_slices_Max_int64_int64_B5 l s.1 s.2) (v, (k : Int)) = some (mxN v (l.drop k)) := by
  have key : ∀ (n : Nat) (k : Nat) (v : Int), k + n = l.length → loopM (fun s : (Int × Int) => m_slices_Max_int64_int64_B5 l s.1 s.2) (v, (k : Int)) = some (mxN v (l.drop k)) := by
    intro n
    induction n with
    | zero =>
      intro k v hk
      have e : k = l.length := by omega
      subst e
      rw [List.drop_length]
      refine loopM_inr ?_
      simp only [m_slices_Max_int64_int64_B5, lt_self, cond_false, Option.map_some, mxN]
    | succ n ih =>
      intro k v hk
      have hk' : k < l.length := by omega
      have e : m_slices_Max_int64_int64_B5 l v (k : Int) = some (.inl ((if l[k] > v then l[k] else v), ((k + 1 : Nat) : Int))) := by
        simp only [m_slices_Max_int64_int64_B5, lt_true hk', cond_true, idx_lt_nat hk', Option.bind_some]
        rw [w64_id (by omega) (by omega)]; rfl
      rw [List.drop_eq_getElem_cons hk', mxN]
      exact (loopM_inl e).trans (ih (k + 1) _ (by omega))
  exact key (l.length - k) k v (by omega)

theorem mxN_ge (l : List Int) : ∀ v, v ≤ mxN v l ∧ ∀ x ∈ l, x ≤ mxN v l := by
  induction l with
  | nil => intro v; simp [mxN]
  | cons y l ih =>
    intro v
    simp only [mxN]
    obtain ⟨h1, h2⟩ := ih (if y > v then y else v)
    have h3 : v ≤ (if y > v then y else v) ∧ y ≤ (if y > v then y else v) := by split <;> omega
    refine ⟨by omega, fun x hx => ?_⟩
    rcases List.mem_cons.1 hx with rfl | hx
    · omega
    · exact h2 x hx
theorem mxN_mem (l : List Int) : ∀ v, mxN v l = v ∨ mxN v l ∈ l := by
  induction l with
  | nil => intro v; simp [mxN]
  | cons y l ih =>
    intro v
    simp only [mxN]
    rcases ih (if y > v then y else v) with h | h
    · rw [h]
      split
      · exact .inr (List.mem_cons_self ..)
      · exact .inl rfl
    · exact .inr (List.mem_cons_of_mem _ h)
theorem maxL_eq (l : List Int) (h0 : 0 < l.length) (hl : l.length ≤ 1048576) : ∃ m, m_slices_Max_int64_int64 l = some m ∧ m ∈ l ∧ ∀ x ∈ l, x ≤ m := by
  unfold m_slices_Max_int64_int64
  rw [decide_eq_false (by omega), cond_false, Option.bind_some]
  have h1 : idx l (0 : Int) = some l[0] := idx_lt_nat (k := 0) h0
  rw [h1, Option.bind_some]
  have hm := max_loop l hl l[0] 1 (by omega)
  refine ⟨mxN l[0] (l.drop 1), ?_, ?_, ?_⟩
  · exact (congrArg (fun o => (Option.bind o fun x4 => some x4)) hm).trans rfl
  · rcases mxN_mem (l.drop 1) l[0] with h | h
    · rw [h]; exact List.getElem_mem h0
    · exact List.mem_of_mem_drop h
  · intro x hx
    obtain ⟨g1, g2⟩ := mxN_ge (l.drop 1) l[0]
    have e : l = l[0] :: l.drop 1 := by cases l with | nil => simp at h0 | cons a l => rfl
    rw [e] at hx
    rcases List.mem_cons.1 hx with rfl | hx
    · exact g1
    · exact g2 x hx
end Go.Wk
