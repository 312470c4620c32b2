/-
  Plain laws: copies of lists of lists. No program in sight. Our own work.
-/
import Derived.Test.YtipkpdobbeggnaaLawEndP
namespace Go.Wk
open Go Go.RowKit

/-- A list is copied by appending its elements. -/
theorem copy_loop {α : Type} {bytes : Nat} (l : List α) (hl : l.length * (bytes + 1) ≤ 140737488355328) (hl2 : l.length ≤ 1048576) (body : Int × List α → Option ((Int × List α) ⊕ List α))
    (hstep : ∀ (k : Nat) (hk : k < l.length) (acc : List α), body ((k : Int), acc) = (appL bytes acc [l[k]]).bind fun z => some (Sum.inl (((k + 1 : Nat) : Int), z))) (hend : ∀ acc, body ((l.length : Int), acc) = some (.inr acc)) :
    loopM body ((0 : Int), []) = some l := by
  have := loop_for (body := body) (r := l) l.length (fun k => ((k : Int), l.take k)) (fun k hk => ?_) ?_
  · simpa using this
  · rw [hstep k hk, take_app hk hl]; rfl
  · rw [List.take_length]; exact hend _

theorem ownLists_eq (l : List (List Int)) (h : FitsSS l) : m_spec_l17OwnLists l = some l := by
  have h1 := h.1
  unfold m_spec_l17OwnLists
  have := copy_loop (bytes := 24) l (by omega) h1 (fun s : (Int × (List (List Int))) => m_spec_l17OwnLists_B4 l s.1 s.2) (fun k hk acc => ?_) (fun acc => ?_)
  · exact (congrArg (fun o => Option.bind o fun x => some x) this).trans rfl
  · simp only [m_spec_l17OwnLists_B4, lt_true hk, cond_true, idx_lt_nat hk, Option.bind_some, m_spec_l00Own, own_eq _ (h.2 _ (List.getElem_mem hk))]
    rw [w64_id (by omega) (by omega)]; rfl
  · simp only [m_spec_l17OwnLists_B4, lt_self, cond_false, Option.map_some]
theorem cloneLists_eq (l : List (List Int)) (h : FitsSS l) : m_impl_cloneLists l = some l := by
  have h1 := h.1
  unfold m_impl_cloneLists
  have := copy_loop (bytes := 24) l (by omega) h1 (fun s : (Int × (List (List Int))) => m_impl_cloneLists_B3 l s.1 s.2) (fun k hk acc => ?_) (fun acc => ?_)
  · exact (congrArg (fun o => Option.bind o fun x => some x) this).trans rfl
  · simp only [m_impl_cloneLists_B3, lt_true hk, cond_true, idx_lt_nat hk, Option.bind_some, m_slices_Clone_int64_int64, own_eq _ (h.2 _ (List.getElem_mem hk))]
    rw [w64_id (by omega) (by omega)]; rfl
  · simp only [m_impl_cloneLists_B3, lt_self, cond_false, Option.map_some]

end Go.Wk
