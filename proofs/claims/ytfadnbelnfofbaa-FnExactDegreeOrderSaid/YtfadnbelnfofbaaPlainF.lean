/-
  Plain Lean: a list built by appending. No program in sight. Our own work.
-/
import Derived.Test.YtfadnbelnfofbaaPlainE
namespace Go.Wk
open Go Go.RowKit

/-- A list of the values of a function is built by appending. -/
theorem build_loop {α : Type} {bytes : Nat} (n : Nat) (e : Nat → α) (hl : n * (bytes + 1) ≤ 140737488355328) (body : Int × List α → Option ((Int × List α) ⊕ List α))
    (hstep : ∀ (k : Nat) (_ : k < n) (acc : List α), body ((k : Int), acc) = (appL bytes acc [e k]).bind fun z => some (Sum.inl (((k + 1 : Nat) : Int), z))) (hend : ∀ acc, body ((n : Int), acc) = some (.inr acc)) :
    loopM body ((0 : Int), []) = some ((List.range n).map e) := by
  have := loop_for (body := body) (r := (List.range n).map e) n (fun k => ((k : Int), (List.range k).map e)) (fun k hk => ?_) (hend _)
  · simpa using this
  · rw [hstep k hk, appL_of, List.range_succ, List.map_append]; · rfl
    simp only [List.length_map, List.length_range, List.length_singleton]
    exact Nat.le_trans (Nat.mul_le_mul_right _ (by omega)) hl

/-- A list of a fixed length is filled from its start on. -/
theorem fill_loop {α : Type} (n : Nat) (e : Nat → α) (z : α) (body : Int × List α → Option ((Int × List α) ⊕ List α))
    (hstep : ∀ (k : Nat) (_ : k < n) (v : List α), v.length = n → body ((k : Int), v) = some (Sum.inl (((k + 1 : Nat) : Int), v.set k (e k)))) (hend : ∀ v : List α, v.length = n → body ((n : Int), v) = some (.inr v)) :
    loopM body ((0 : Int), List.replicate n z) = some ((List.range n).map e) := by
  have := loop_for (body := body) (r := (List.range n).map e) n (fun k => ((k : Int), (List.range k).map e ++ List.replicate (n - k) z)) (fun k hk => ?_) ?_
  · simpa using this
  · rw [hstep k hk _ (by simp; omega)]
    congr 3
    have e1 : List.replicate (n - k) z = z :: List.replicate (n - (k + 1)) z := by
      rw [show n - k = (n - (k + 1)) + 1 by omega]; rfl
    rw [e1, List.set_append_right _ _ (by simp), List.range_succ, List.map_append, List.append_assoc]
    simp
  · rw [Nat.sub_self, List.replicate_zero, List.append_nil]
    exact hend _ (by simp)
end Go.Wk
