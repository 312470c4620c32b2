/-
  Plain laws: the strongest sector of a row. No program in sight. Our own work.
-/
import Derived.Test.YtbhegklilcpbmaaDoorLawMax
import Derived.Test.YtbhegklilcpbmaaDoorLawIndex
namespace Go.Wk
open Go Go.RowKit

/-- The first place of the greatest number. -/
def IsSrv (l : List Int) (k : Nat) : Prop := ∃ h : k < l.length, (∀ x ∈ l, x ≤ l[k]) ∧ ∀ (j : Nat) (hj : j < k), l[j] < l[k]
theorem IsSrv.same {l : List Int} {k k' : Nat} (h : IsSrv l k) (h' : IsSrv l k') : k = k' := by
  obtain ⟨h1, h2, h3⟩ := h
  obtain ⟨h1', h2', h3'⟩ := h'
  rcases Nat.lt_trichotomy k k' with hk | hk | hk
  · have := h3' k hk; have := h2 l[k'] (List.getElem_mem h1'); omega
  · exact hk
  · have := h3 k' hk; have := h2' l[k] (List.getElem_mem h1); omega

theorem srvImpl (l : List Int) (h0 : 0 < l.length) (hl : l.length ≤ 1048576) : ∃ k : Nat, m_impl_serverOf l = some (k : Int) ∧ IsSrv l k := by
  unfold m_impl_serverOf
  obtain ⟨m, hm, hm1, hm2⟩ := maxL_eq l h0 hl
  rw [hm, Option.bind_some, indexN_eq l m hl, Option.bind_some]
  cases hf : l.findIdx? (fun y => decide (y = m)) with
  | none =>
    rw [List.findIdx?_eq_none_iff] at hf
    have := hf m hm1
    simp at this
  | some k =>
    obtain ⟨hk, hp, hmin⟩ := List.findIdx?_eq_some_iff_getElem.1 hf
    have hp : l[k] = m := by simpa using hp
    refine ⟨k, rfl, hk, fun x hx => by rw [hp]; exact hm2 x hx, fun j hj => ?_⟩
    have h1 := hmin j hj
    have h2 := hm2 l[j] (List.getElem_mem (by omega))
    have h3 : l[j] ≠ m := by simpa using h1
    omega

theorem srvSpec (l : List Int) (h0 : 0 < l.length) (hl : l.length ≤ 1048576) : ∃ k : Nat, m_spec_l16Server l = some (k : Int) ∧ IsSrv l k := by
  unfold m_spec_l16Server
  have key : ∀ (n i b : Nat) (_ : i + n = l.length) (_ : b < i), (∀ (j : Nat) (hj : j < i), l[j]'(by omega) ≤ l[b]'(by omega)) → (∀ (j : Nat) (hj : j < b), l[j]'(by omega) < l[b]'(by omega)) →
      ∃ k : Nat, loopM (fun s : (Int × Int) => m_spec_l16Server_B2 l s.1 s.2) ((b : Int), (i : Int)) = some (k : Int) ∧ IsSrv l k := by
    intro n
    induction n with
    | zero =>
      intro i b hi hb h1 h2
      have e : i = l.length := by omega
      subst e
      refine ⟨b, loopM_inr ?_, by omega, fun x hx => ?_, h2⟩
      · simp only [m_spec_l16Server_B2, lt_self, cond_false, Option.map_some]
      · obtain ⟨j, hj, rfl⟩ := List.getElem_of_mem hx
        exact h1 j hj
    | succ n ih =>
      intro i b hi hb h1 h2
      have hi' : i < l.length := by omega
      have hb' : b < l.length := by omega
      have e1 : w64 ((i : Int) + 1) = ((i + 1 : Nat) : Int) := by rw [w64_id (by omega) (by omega)]; rfl
      by_cases hlt : l[b] < l[i]
      · have hs : m_spec_l16Server_B2 l (b : Int) (i : Int) = some (.inl ((i : Int), ((i + 1 : Nat) : Int))) := by
          simp only [m_spec_l16Server_B2, lt_true hi', cond_true, idx_lt_nat hi', idx_lt_nat hb', Option.bind_some, decide_eq_true hlt, e1]
        rw [loopM_inl hs]
        refine ih (i + 1) i (by omega) (by omega) (fun j hj => ?_) (fun j hj => ?_)
        · by_cases hji : j = i
          · subst hji; exact Int.le_refl _
          · have := h1 j (by omega); omega
        · have := h1 j hj; omega
      · have hs : m_spec_l16Server_B2 l (b : Int) (i : Int) = some (.inl ((b : Int), ((i + 1 : Nat) : Int))) := by
          simp only [m_spec_l16Server_B2, lt_true hi', cond_true, idx_lt_nat hi', idx_lt_nat hb', Option.bind_some, decide_eq_false hlt, cond_false, e1]
        rw [loopM_inl hs]
        refine ih (i + 1) b (by omega) (by omega) (fun j hj => ?_) h2
        by_cases hji : j = i
        · subst hji; omega
        · exact h1 j (by omega)
  obtain ⟨k, hk, hs⟩ := key (l.length - 1) 1 0 (by omega) (by omega) (fun j hj => by have : j = 0 := by omega
                                                                                     subst this; exact Int.le_refl _) (fun j hj => absurd hj (by omega))
  refine ⟨k, ?_, hs⟩
  exact (congrArg (fun o => (Option.bind o fun x1 => some x1)) hk).trans rfl

theorem srv_same (l : List Int) (h0 : 0 < l.length) (hl : l.length ≤ 1048576) : ∃ k : Nat, m_spec_l16Server l = some (k : Int) ∧ m_impl_serverOf l = some (k : Int) ∧ IsSrv l k := by
  obtain ⟨k, h1, h2⟩ := srvImpl l h0 hl
  obtain ⟨k', h1', h2'⟩ := srvSpec l h0 hl
  have := h2.same h2'
  subst this
  exact ⟨k, h1', h1, h2⟩
end Go.Wk
