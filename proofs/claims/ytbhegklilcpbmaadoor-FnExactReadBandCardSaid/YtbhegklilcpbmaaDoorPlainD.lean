/-
  Plain lemmas: loops that append to a list. No program in sight. Our own work.
-/
import Derived.Test.YtbhegklilcpbmaaDoorPlainC
namespace Go.Wk
open Go Go.RowKit

theorem app_loop {α : Type} (n k0 B : Nat) (q : Nat → Bool) (e : Nat → α) (body : Int × List α → Option ((Int × List α) ⊕ List α)) (acc : List α) (hk0 : k0 ≤ n) (hacc : acc.length ≤ B + k0)
    (hstep : ∀ k, k0 ≤ k → k < n → ∀ acc, acc.length ≤ B + k → body ((k : Int), acc) = some (.inl (((k + 1 : Nat) : Int), if q k then acc ++ [e k] else acc))) (hend : ∀ acc, body ((n : Int), acc) = some (.inr acc)) :
    loopM body ((k0 : Int), acc) = some (acc ++ ((List.range' k0 (n - k0)).filter q).map e) := by
  have key : ∀ (m : Nat) (k : Nat) (acc : List α), k + m = n → k0 ≤ k → acc.length ≤ B + k → loopM body ((k : Int), acc) = some (acc ++ ((List.range' k m).filter q).map e) := by
    intro m
    induction m with
    | zero =>
      intro k acc hk _ _
      have hkn : k = n := by omega
      subst hkn
      rw [loopM_inr (hend acc)]
      simp
    | succ m ih =>
      intro k acc hk hkk hb
      rw [loopM_inl (hstep k hkk (by omega) acc hb), ih (k + 1) _ (by omega) (by omega) (by split <;> first | (rw [List.length_append, List.length_singleton]; omega) | omega)]
      rw [List.range'_succ, List.filter_cons]
      cases q k <;> simp
  exact key (n - k0) k0 acc (by omega) (by omega) hacc
theorem flat_loop {α : Type} (n k0 B c : Nat) (g : Nat → List α) (body : Int × List α → Option ((Int × List α) ⊕ List α)) (acc : List α) (hk0 : k0 ≤ n) (hacc : acc.length ≤ B + c * k0) (hg : ∀ k, k < n → (g k).length ≤ c)
    (hstep : ∀ k, k0 ≤ k → k < n → ∀ acc, acc.length ≤ B + c * k → body ((k : Int), acc) = some (.inl (((k + 1 : Nat) : Int), acc ++ g k))) (hend : ∀ acc, body ((n : Int), acc) = some (.inr acc)) :
    loopM body ((k0 : Int), acc) = some (acc ++ (List.range' k0 (n - k0)).flatMap g) := by
  have key : ∀ (m : Nat) (k : Nat) (acc : List α), k + m = n → k0 ≤ k → acc.length ≤ B + c * k → loopM body ((k : Int), acc) = some (acc ++ (List.range' k m).flatMap g) := by
    intro m
    induction m with
    | zero =>
      intro k acc hk _ _
      have hkn : k = n := by omega
      subst hkn
      rw [loopM_inr (hend acc)]
      simp
    | succ m ih =>
      intro k acc hk hkk hb
      have hgk := hg k (by omega)
      rw [loopM_inl (hstep k hkk (by omega) acc hb), ih (k + 1) _ (by omega) (by omega) (by rw [List.length_append, Nat.mul_add]; omega)]
      rw [List.range'_succ, List.flatMap_cons, List.append_assoc]
  exact key (n - k0) k0 acc (by omega) (by omega) hacc
theorem appL_of {α : Type} {bytes : Nat} {l m : List α} (h : (l.length + m.length) * (bytes + 1) ≤ 140737488355328) : appL bytes l m = some (l ++ m) := by
  unfold appL; rw [if_pos h]
end Go.Wk
