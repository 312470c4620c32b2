/-
  Plain laws: slices of slices. No program in sight. Our own work.
-/
import Derived.Test.YtfadnbelnfofbaaLawSz
namespace Go.Wk
open Go Go.RowKit

def LeftP (o : Option Int) (left : Int) (P : Prop) : Prop := ∃ r, o = some r ∧ (r < 0 ∨ 0 ≤ r ∧ r ≤ left ∧ P)
def FitsSS (l : List (List Int)) : Prop := l.length ≤ 1048576 ∧ ∀ x ∈ l, x.length ≤ 1048576
theorem szInt64SS_eq (l : List (List Int)) (left : Int) (h0 : 0 ≤ left) (h1 : left ≤ 1048576) (hl : l.length ≤ maxLen) (hx : ∀ x ∈ l, x.length ≤ maxLen) : LeftP (m_laws_szInt64SS l left) left (FitsSS l) := by
  have hl' := hl
  unfold maxLen at hl'
  unfold m_laws_szInt64SS
  rw [w64_id (by omega) (by omega)]
  by_cases h : left - (l.length : Int) < 0
  · exact ⟨-1, by rw [decide_eq_true h]; rfl, .inl (by omega)⟩
  rw [decide_eq_false h, cond_false]
  have key : ∀ (n : Nat) (k : Nat) (v : Int), k + n = l.length → 0 ≤ v → v ≤ left → (∀ (j : Nat) (hj : j < l.length), j < k → l[j].length ≤ 1048576) → LeftP (loopM (fun s : (Int × Int) => m_laws_szInt64SS_B1 l s.1 s.2) (v, (k : Int))) left (FitsSS l) := by
    intro n
    induction n with
    | zero =>
      intro k v hk h2 h3 hf
      have e : k = l.length := by omega
      subst e
      refine ⟨v, loopM_inr ?_, .inr ⟨h2, h3, by omega, fun x hx => ?_⟩⟩
      · simp only [m_laws_szInt64SS_B1, lt_self, cond_false, Option.map_some]
      · obtain ⟨j, hj, e⟩ := List.getElem_of_mem hx
        rw [← e]; exact hf j hj hj
    | succ n ih =>
      intro k v hk h2 h3 hf
      have hk' : k < l.length := by omega
      obtain ⟨r, hr, hc⟩ := szInt64S_eq l[k] v h2 (by omega) (hx _ (List.getElem_mem hk'))
      rcases hc with hc | ⟨hc, hc2⟩
      · have e : m_laws_szInt64SS_B1 l v (k : Int) = some (.inr (-1)) := by
          simp only [m_laws_szInt64SS_B1, lt_true hk', cond_true, idx_lt_nat hk', Option.bind_some, hr, decide_eq_true hc, Option.map_some]
        exact ⟨-1, loopM_inr e, .inl (by omega)⟩
      · have e : m_laws_szInt64SS_B1 l v (k : Int) = some (.inl (r, ((k + 1 : Nat) : Int))) := by
          have hn : ¬ r < 0 := by omega
          simp only [m_laws_szInt64SS_B1, lt_true hk', cond_true, idx_lt_nat hk', Option.bind_some, hr, decide_eq_false hn, cond_false]
          rw [w64_id (by omega) (by omega)]; rfl
        have e' : loopM (fun s : (Int × Int) => m_laws_szInt64SS_B1 l s.1 s.2) (v, (k : Int)) = loopM (fun s : (Int × Int) => m_laws_szInt64SS_B1 l s.1 s.2) (r, ((k + 1 : Nat) : Int)) := loopM_inl e
        rw [e']
        refine ih (k + 1) r (by omega) hc (by omega) (fun j hj hjk => ?_)
        by_cases hjk' : j < k
        · exact hf j hj hjk'
        · have : j = k := by omega
          subst this
          omega
  exact key l.length 0 (left - l.length) (by omega) (by omega) (by omega) (fun j _ h => absurd h (by omega))
theorem toInt64SS_eq (l : List (List Int)) (h : FitsSS l) : m_laws_toInt64SS l = some l := by
  unfold m_laws_toInt64SS
  have h1 := h.1
  rw [mkL_len _ (by omega), Option.bind_some]
  have := to_gen m_laws_toInt64S l [] (by omega) (fun x hx => toInt64S_eq x (h.2 x hx))
  exact (congrArg (fun o => Option.bind o fun x => some x) this).trans rfl
theorem eqSS_gen (f : List Int → List Int → Option Bool) (hf : ∀ a b, a.length ≤ 1048576 → f a b = some (decide (a = b))) (a b : List (List Int)) (h : FitsSS a) : (bif ((a.length : Int) != (b.length : Int)) then some false else loopM (fun s : Int => bif decide (s < (a.length : Int)) then (idx a s).bind fun x => (idx b s).bind fun y => (f x y).bind fun c => bif !c then Option.map Sum.inr (some false) else some (Sum.inl (w64 (s + 1))) else Option.map Sum.inr (some true)) 0) = some (decide (a = b)) := by
  have hh := h.1
  by_cases hl : a.length = b.length
  · have h1 : ((a.length : Int) != (b.length : Int)) = false := by simp [hl]
    rw [h1, cond_false]
    exact eq_gen f a b (by omega) hl (fun x hx y _ => hf x y (h.2 x hx))
  · have h1 : ((a.length : Int) != (b.length : Int)) = true := by simp; omega
    have h2 : decide (a = b) = false := by simp only [decide_eq_false_iff_not]; intro e; exact hl (by rw [e])
    rw [h1, cond_true, h2]
theorem eqInt64SS_eq (a b : List (List Int)) (h : FitsSS a) : m_laws_eqInt64SS a b = some (decide (a = b)) :=
  eqSS_gen m_laws_eqInt64S (fun a b h => eqInt64S_eq a b (by omega)) a b h
end Go.Wk
