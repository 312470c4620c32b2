/-
  Plain lemmas: loops that fold a list. No program in sight. Our own work.
-/
import Derived.Test.YtbhegklilcpbmaaDoorPlainB
namespace Go.Wk
open Go Go.RowKit

theorem fold_loop {α σ β : Type} (l : List α) (f : σ → α → σ) (g : σ → β) (body : σ × Int → Option ((σ × Int) ⊕ β))
    (hstep : ∀ (k : Nat) (h : k < l.length) (v : σ), body (v, (k : Int)) = some (.inl (f v l[k], ((k + 1 : Nat) : Int)))) (hend : ∀ v, body (v, (l.length : Int)) = some (.inr (g v))) (v : σ) :
    loopM body (v, 0) = some (g (l.foldl f v)) := by
  have key : ∀ (n : Nat) (k : Nat) (v : σ), k + n = l.length → loopM body (v, (k : Int)) = some (g ((l.drop k).foldl f v)) := by
    intro n
    induction n with
    | zero =>
      intro k v hk
      have e : k = l.length := by omega
      subst e
      rw [List.drop_length]
      exact loopM_inr (hend v)
    | succ n ih =>
      intro k v hk
      have hk' : k < l.length := by omega
      rw [loopM_inl (hstep k hk' v), List.drop_eq_getElem_cons hk', List.foldl_cons]
      exact ih (k + 1) _ (by omega)
  exact key l.length 0 v (by omega)
end Go.Wk
