/-
  Plain lemmas: the room that lists take, lists that are copied and compared. No program in sight. Our own work.
-/
import Derived.Test.YtfadnbelnfofbaaPlainD
namespace Go.Wk
open Go Go.RowKit

def LeftQ (o : Option Int) (left : Int) (P : Prop) : Prop := ∃ r, o = some r ∧ (r < 0 ∨ 0 ≤ r ∧ r ≤ left ∧ P)
/-- The room that a list takes, element by element. -/
theorem sz_gen {α : Type} (szf : α → Int → Option Int) (l : List α) (left : Int) (Q : α → Prop) (h0 : 0 ≤ left) (h1 : left ≤ 1048576) (hl : l.length ≤ maxLen) (hq : ∀ x ∈ l, ∀ v, 0 ≤ v → v ≤ left → LeftQ (szf x v) v (Q x)) :
    LeftQ (bif decide (w64 (left - (l.length : Int)) < (0 : Int)) then some (-1 : Int) else loopM (fun s : Int × Int => bif decide (s.2 < (l.length : Int)) then (idx l s.2).bind fun x => (szf x s.1).bind fun r => bif decide (r < (0 : Int)) then Option.map Sum.inr (some (-1 : Int)) else some (Sum.inl (r, w64 (s.2 + (1 : Int)))) else Option.map Sum.inr (some s.1)) (w64 (left - (l.length : Int)), (0 : Int)))
      left (l.length ≤ 1048576 ∧ ∀ x ∈ l, Q x) := by
  unfold maxLen at hl
  rw [w64_id (by omega) (by omega)]
  by_cases h : left - (l.length : Int) < 0
  · exact ⟨-1, by rw [decide_eq_true h]; rfl, .inl (by omega)⟩
  rw [decide_eq_false h, cond_false]
  have key : ∀ (n : Nat) (k : Nat) (v : Int), k + n = l.length → 0 ≤ v → v ≤ left → (∀ (j : Nat) (hj : j < l.length), j < k → Q l[j]) →
      LeftQ (loopM (fun s : Int × Int => bif decide (s.2 < (l.length : Int)) then (idx l s.2).bind fun x => (szf x s.1).bind fun r => bif decide (r < (0 : Int)) then Option.map Sum.inr (some (-1 : Int)) else some (Sum.inl (r, w64 (s.2 + (1 : Int)))) else Option.map Sum.inr (some s.1)) (v, (k : Int))) left (l.length ≤ 1048576 ∧ ∀ x ∈ l, Q x) := by
    intro n
    induction n with
    | zero =>
      intro k v hk h2 h3 hf
      have e : k = l.length := by omega
      subst e
      refine ⟨v, loopM_inr ?_, .inr ⟨h2, h3, by omega, fun x hx => ?_⟩⟩
      · simp only [lt_self, cond_false, Option.map_some]
      · obtain ⟨j, hj, e⟩ := List.getElem_of_mem hx
        rw [← e]; exact hf j hj hj
    | succ n ih =>
      intro k v hk h2 h3 hf
      have hk' : k < l.length := by omega
      obtain ⟨r, hr, hc⟩ := hq l[k] (List.getElem_mem hk') v h2 h3
      rcases hc with hc | ⟨hc, hc2, hc3⟩
      · refine ⟨-1, loopM_inr ?_, .inl (by omega)⟩
        simp only [lt_true hk', cond_true, idx_lt_nat hk', Option.bind_some, hr, decide_eq_true hc, Option.map_some]
      · have hn : ¬ r < 0 := by omega
        rw [loopM_inl (s' := (r, ((k + 1 : Nat) : Int)))]
        · refine ih (k + 1) r (by omega) hc (by omega) (fun j hj hjk => ?_)
          by_cases hjk' : j < k
          · exact hf j hj hjk'
          · have : j = k := by omega
            subst this
            exact hc3
        · simp only [lt_true hk', cond_true, idx_lt_nat hk', Option.bind_some, hr, decide_eq_false hn, cond_false]
          rw [w64_id (by omega) (by omega)]; rfl
  exact key l.length 0 (left - l.length) (by omega) (by omega) (by omega) (fun j _ h => absurd h (by omega))

theorem mkL_nat {α : Type} {bytes n : Nat} (z : α) (h : n * bytes ≤ 140737488355328) : mkL bytes (n : Int) z = some (List.replicate n z) := by
  unfold mkL
  rw [if_pos ⟨by omega, by have : ((n * bytes : Nat) : Int) = (n : Int) * bytes := by simp
                           omega⟩]
  simp

theorem to_list {α : Type} (conv : α → Option α) (l : List α) (z : α) (bytes : Nat) (hl : l.length ≤ 9223372036854775806) (hb : l.length * bytes ≤ 140737488355328) (h : ∀ x ∈ l, conv x = some x) :
    (mkL bytes (l.length : Int) z).bind (fun x1 => (loopM (fun s : Int × List α => bif decide (s.1 < (l.length : Int)) then (idx l s.1).bind fun x => (conv x).bind fun y => (inB s.2 s.1).bind fun _ => some (Sum.inl (w64 (s.1 + 1), s.2.set s.1.toNat y)) else Option.map Sum.inr (some s.2)) ((0 : Int), x1)).bind fun x4 => some x4) = some l := by
  rw [mkL_nat _ hb, Option.bind_some, to_gen conv l z hl h]; rfl

theorem eq_list {α : Type} [DecidableEq α] (eq : α → α → Option Bool) (a b : List α) (hl : a.length ≤ 9223372036854775806) (h : ∀ x ∈ a, ∀ y ∈ b, eq x y = some (decide (x = y))) :
    (bif ((a.length : Int) != (b.length : Int)) then some false else loopM (fun s : Int => bif decide (s < (a.length : Int)) then (idx a s).bind fun x => (idx b s).bind fun y => (eq x y).bind fun c => bif !c then Option.map Sum.inr (some false) else some (Sum.inl (w64 (s + 1))) else Option.map Sum.inr (some true)) 0) = some (decide (a = b)) := by
  by_cases hab : a.length = b.length
  · have h1 : ((a.length : Int) != (b.length : Int)) = false := by simp [hab]
    rw [h1, cond_false]
    exact eq_gen eq a b hl hab h
  · have h1 : ((a.length : Int) != (b.length : Int)) = true := by simp; omega
    have h2 : decide (a = b) = false := by simp only [decide_eq_false_iff_not]; intro e; exact hab (by rw [e])
    rw [h1, cond_true, h2]

/-- The first place of a list where p holds, found by a loop. -/
theorem find_list {α β : Type} (l : List α) (hl : l.length ≤ 9223372036854775806) (f : α → Option Bool) (p : α → Bool) (hf : ∀ x ∈ l, f x = some (p x)) (out : Int → β) (e : β) :
    loopM (fun s : Int => bif decide (s < (l.length : Int)) then (idx l s).bind fun x => (f x).bind fun c => bif c then Option.map Sum.inr (some (out s)) else some (Sum.inl (w64 (s + (1 : Int)))) else Option.map Sum.inr (some e)) (0 : Int) = some (match l.findIdx? p with | some k => out (k : Int) | none => e) := by
  refine first_loop l _ p (fun k => out (k : Int)) e (fun k h => ?_) ?_
  · simp only [lt_true h, cond_true, idx_lt_nat h, Option.bind_some, hf _ (List.getElem_mem h)]
    rw [w64_id (by omega) (by omega)]
    cases p l[k] <;> rfl
  · simp only [lt_self, cond_false, Option.map_some]
theorem lt_false {a b : Int} (h : ¬ a < b) : decide (a < b) = false := by simpa using h
end Go.Wk
