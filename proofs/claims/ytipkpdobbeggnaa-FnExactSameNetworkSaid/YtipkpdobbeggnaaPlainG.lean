/-
  Plain Lean: two lists compared pair by pair. No program in sight. Our own work.
-/
import Derived.Test.YtipkpdobbeggnaaPlainE
namespace Go.Wk
open Go Go.RowKit

def pairOk {α : Type} (q : α → α → Bool) (a b : List α) : Bool := decide (a.length = b.length) && (a.zip b).all fun x => q x.1 x.2
theorem pairOk_self {α : Type} {q : α → α → Bool} {a : List α} (h : ∀ x ∈ a, q x x = true) : pairOk q a a = true := by
  unfold pairOk
  rw [decide_eq_true rfl, Bool.true_and, List.all_eq_true]
  intro x hx
  obtain ⟨k, hk, rfl⟩ := List.getElem_of_mem hx
  rw [List.getElem_zip]
  exact h _ (List.getElem_mem _)

/-- Pairs are compared one after the other; behind the last stands E. -/
theorem pair_chain {α : Type} (eq : α → α → Option Bool) (q : α → α → Bool) (a b : List α) (E : Option Bool) (g : Bool) (hab : a.length = b.length) (hl : a.length ≤ 9223372036854775806) (h : ∀ x ∈ a, ∀ y ∈ b, eq x y = some (q x y)) (hE : E = some g) :
    loopM (fun s : Int => bif decide (s < (a.length : Int)) then (idx a s).bind fun x => (idx b s).bind fun y => (eq x y).bind fun c => bif !c then Option.map Sum.inr (some false) else some (Sum.inl (w64 (s + (1 : Int)))) else Option.map Sum.inr E) (0 : Int) = some (pairOk q a b && g) := by
  have hz : (a.zip b).length = a.length := by rw [List.length_zip]; omega
  have key := first_loop (a.zip b) (fun s : Int => bif decide (s < (a.length : Int)) then (idx a s).bind fun x => (idx b s).bind fun y => (eq x y).bind fun c => bif !c then Option.map Sum.inr (some false) else some (Sum.inl (w64 (s + (1 : Int)))) else Option.map Sum.inr E) (fun x => !q x.1 x.2) (fun _ => false) g (fun k hk => ?_) ?_
  · rw [key]
    unfold pairOk
    rw [decide_eq_true hab, Bool.true_and]
    cases hf : (a.zip b).findIdx? (fun x => !q x.1 x.2) with
    | none =>
      rw [List.findIdx?_eq_none_iff] at hf
      have : (a.zip b).all (fun x => q x.1 x.2) = true := by
        rw [List.all_eq_true]; intro x hx; simpa using hf x hx
      rw [this, Bool.true_and]
    | some k =>
      rw [List.findIdx?_eq_some_iff_getElem] at hf
      obtain ⟨hk, hp, _⟩ := hf
      have : (a.zip b).all (fun x => q x.1 x.2) = false := by
        rw [List.all_eq_false]; exact ⟨(a.zip b)[k], List.getElem_mem hk, by simpa using hp⟩
      rw [this, Bool.false_and]
  · have hka : k < a.length := by omega
    have hkb : k < b.length := by omega
    simp only [lt_true hka, cond_true, idx_lt_nat hka, idx_lt_nat hkb, Option.bind_some, h _ (List.getElem_mem hka) _ (List.getElem_mem hkb), List.getElem_zip]
    rw [w64_id (by omega) (by omega)]
    cases q a[k] b[k] <;> rfl
  · rw [hz]
    simp only [lt_self, cond_false, hE, Option.map_some]
theorem pair_eq {α : Type} (eq : α → α → Option Bool) (q : α → α → Bool) (a b : List α) (hl : a.length ≤ 9223372036854775806) (h : ∀ x ∈ a, ∀ y ∈ b, eq x y = some (q x y)) :
    (bif ((a.length : Int) != (b.length : Int)) then some false else loopM (fun s : Int => bif decide (s < (a.length : Int)) then (idx a s).bind fun x => (idx b s).bind fun y => (eq x y).bind fun c => bif !c then Option.map Sum.inr (some false) else some (Sum.inl (w64 (s + (1 : Int)))) else Option.map Sum.inr (some true)) (0 : Int)) = some (pairOk q a b) := by
  by_cases hab : a.length = b.length
  · have h1 : ((a.length : Int) != (b.length : Int)) = false := by rw [hab]; exact bne_self _
    rw [h1, cond_false, pair_chain eq q a b _ true hab hl h rfl, Bool.and_true]
  · have h1 : ((a.length : Int) != (b.length : Int)) = true := by simp only [bne_iff_ne, ne_eq]; omega
    rw [h1]
    unfold pairOk
    rw [decide_eq_false hab]; rfl
end Go.Wk
