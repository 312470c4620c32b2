/-
  Plain Lean: a list built by appending. No program in sight. Our own work.
-/
import Derived.Test.YtipkpdobbeggnaaPlainE
namespace Go.Wk
open Go Go.RowKit

/-- A list of the values of a function is built by appending. -/
theorem build_loop {α : Type} {bytes : Nat} (n : Nat) (e : Nat → α) (hl : n * (bytes + 1) ≤ 140737488355328) (body : Int × List α → Option ((Int × List α) ⊕ List α))
    (hstep : ∀ (k : Nat) (_ : k < n) (acc : List α), body ((k : Int), acc) = (appL bytes acc [e k]).bind fun z => some (Sum.inl (((k + 1 : Nat) : Int), z))) (hend : ∀ acc, body ((n : Int), acc) = some (.inr acc)) :
    loopM body ((0 : Int), []) = some ((List.range n).map e) := by
  have := loop_for (body := body) (r := (List.range n).map e) n (fun k => ((k : Int), (List.range k).map e)) (fun k hk => ?_) (hend _)
  · simpa using this
  · rw [hstep k hk, appL_of, List.range_succ, List.map_append]; · rfl
    simp only [List.length_map, List.length_range, List.length_singleton]
    exact Nat.le_trans (Nat.mul_le_mul_right _ (by omega)) hl
end Go.Wk
