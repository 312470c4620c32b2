/-
  Plain law: WorstRatio. No program in sight. Our own work.
-/
import Derived.Test.YtbhegklilcpbmaaDoorLawSig
import Derived.Test.YtbhegklilcpbmaaDoorLawServer
namespace Go.Wk
open Go Go.RowKit

theorem rowsN_true {l : List (List Int)} (h : rowsOk l = true) : (1 ≤ l.length ∧ l.length ≤ 32) ∧ ∀ k (hk : k < l.length), rowOkN l[k] = true ∧ l[k].length = (l.getD 0 []).length := by
  unfold rowsOk at h
  rw [Bool.and_eq_true, decide_eq_true_eq, List.all_eq_true] at h
  refine ⟨h.1, fun k hk => ?_⟩
  have := h.2 l[k] (List.getElem_mem _)
  rwa [Bool.and_eq_true, decide_eq_true_eq] at this
theorem worst_loop {R : List (List Int)} {C T : List Int} (hR : rowsOk R = true) (hC : chansOk C (R.getD 0 []).length = true) (hT : tabOk T = true) :
    ∀ (n k : Nat) (a b : Int), k + n = R.length → ∃ v w c : Int, loopM (fun s : (Int × Int × Int) => m_spec_WorstRatio_B9 R C T s.1 s.2.1 s.2.2) (a, b, (k : Int)) = some (v, w, c) ∧ loopM (fun s : (Int × Int × Int) => m_impl_WorstRatio_B9 R C T s.1 s.2.1 s.2.2) (a, b, (k : Int)) = some (v, w, c) := by
  obtain ⟨hn, hrow⟩ := rowsN_true hR
  have hc := chans_get hC
  intro n
  induction n with
  | zero =>
    intro k a b hk
    refine ⟨a, b, 0, loopM_inr ?_, loopM_inr ?_⟩
    · simp only [m_spec_WorstRatio_B9]; rw [decide_eq_false (by omega)]; rfl
    · simp only [m_impl_WorstRatio_B9]; rw [decide_eq_false (by omega)]; rfl
  | succ n ih =>
    intro k a b hk
    have hkl : k < R.length := by omega
    obtain ⟨hr, hl⟩ := hrow k hkl
    have hl1 := (row_get hr).1
    obtain ⟨s, s1, s2, hs, _⟩ := srv_same R[k] (by omega) (by omega)
    have hsc : s < C.length := by omega
    by_cases hneg : C.getD s 0 < 0
    · refine ⟨0, 0, 6, loopM_inr ?_, loopM_inr ?_⟩
      · simp only [m_spec_WorstRatio_B9, lt_true hkl, cond_true, idx_lt_nat hkl, Option.bind_some, s1, idx_getD 0 hsc, decide_eq_true hneg]; rfl
      · simp only [m_impl_WorstRatio_B9, lt_true hkl, cond_true, idx_lt_nat hkl, Option.bind_some, s2, idx_getD 0 hsc, decide_eq_true hneg]; rfl
    · obtain ⟨v, _, _, vs, vi⟩ := ratio_both hr (by rw [hl]; exact hC) hT hs
      obtain ⟨p, hp⟩ : ∃ p : Int × Int, p = if a < 0 ∨ v < b then ((k : Int), v) else (a, b) := ⟨_, rfl⟩
      obtain ⟨x, w, c, g1, g2⟩ := ih (k + 1) p.1 p.2 (by omega)
      have eb : (((bif (decide (a < (0 : Int))) then some true else some (decide (v < b))) : Option Bool).bind fun x19 => (((bif x19 then some ((k : Int), v) else some (a, b)) : Option (Int × Int)).bind fun x22 => some (Sum.inl (x22.1, x22.2, (w64 ((k : Int) + (1 : Int))))))) = (some (Sum.inl (p.1, p.2, ((k + 1 : Nat) : Int))) : Option ((Int × Int × Int) ⊕ (Int × Int × Int))) := by
        rw [w64_id (by omega) (by omega), hp]
        by_cases c1 : a < 0
        · rw [decide_eq_true c1, if_pos (.inl c1)]; rfl
        · by_cases c2 : v < b
          · rw [decide_eq_false c1, decide_eq_true c2, if_pos (.inr c2)]; rfl
          · rw [decide_eq_false c1, decide_eq_false c2, if_neg (by omega)]; rfl
      refine ⟨x, w, c, ?_, ?_⟩
      · rw [loopM_inl (s' := (p.1, p.2, ((k + 1 : Nat) : Int))) (by
          simp only [m_spec_WorstRatio_B9, lt_true hkl, cond_true, idx_lt_nat hkl, Option.bind_some, s1, idx_getD 0 hsc, decide_eq_false hneg, cond_false, vs]
          exact eb)]
        exact g1
      · rw [loopM_inl (s' := (p.1, p.2, ((k + 1 : Nat) : Int))) (by
          simp only [m_impl_WorstRatio_B9, lt_true hkl, cond_true, idx_lt_nat hkl, Option.bind_some, s2, idx_getD 0 hsc, decide_eq_false hneg, cond_false, vi]
          exact eb)]
        exact g2
theorem worst_same {R : List (List Int)} {C T : List Int} (hR : FitsSS R) (hC : C.length ≤ 1048576) (hT : T.length ≤ 1048576) : ∃ v w c, m_spec_WorstRatio R C T = some (v, w, c) ∧ m_impl_WorstRatio R C T = some (v, w, c) := by
  unfold m_spec_WorstRatio m_impl_WorstRatio
  simp only [rowsSpec_eq R hR, rowsImpl_eq R hR, tabSpec_eq T hT, tabImpl_eq T hT, Option.bind_some]
  cases h1 : rowsOk R
  · exact ⟨0, 0, 1, rfl, rfl⟩
  have h0 : 0 < R.length := by have := (rowsN_true h1).1; omega
  have i0 : idx R (0 : Int) = some (R.getD 0 []) := idx_getD (k := 0) [] h0
  simp only [i0, Option.bind_some, chSpec_eq C hC, chImpl_eq C hC]
  cases h2 : chansOk C (R.getD 0 []).length
  · cases h3 : tabOk T <;> exact ⟨0, 0, 1, rfl, rfl⟩
  cases h3 : tabOk T
  · exact ⟨0, 0, 1, rfl, rfl⟩
  exact worst_loop h1 h2 h3 R.length 0 (-1) 0 (by omega)
theorem law_FnExactWorstRatio (R : List (List Int)) (C T : List Int) (k : R.length ≤ maxLen ∧ ∀ x ∈ R, (x.length ≤ maxLen ∧ ∀ xy ∈ x, ((Lit.int .i64 xy).wf = true))) (_kC : C.length ≤ maxLen ∧ ∀ x ∈ C, ((Lit.int .i64 x).wf = true)) (_kT : T.length ≤ maxLen ∧ ∀ x ∈ T, ((Lit.int .i64 x).wf = true)) : m_laws_FnExactWorstRatio R C T = some true := by
  unfold m_laws_FnExactWorstRatio
  by_cases h2 : (1048576 : Int) < (C.length : Int)
  · rw [decide_eq_true h2]; rfl
  by_cases h3 : (1048576 : Int) < (T.length : Int)
  · rw [decide_eq_false h2, decide_eq_true h3]; rfl
  rw [decide_eq_false h2, decide_eq_false h3, cond_false, cond_false]
  obtain ⟨r, hr, hc⟩ := szInt64SS_eq R 1048576 (by omega) (by omega) k.1 (fun x hx => (k.2 x hx).1)
  rw [hr, Option.bind_some]
  rcases hc with hc | ⟨hc, hc2, hR⟩
  · rw [decide_eq_true hc]; rfl
  rw [decide_eq_false (by omega), cond_false]
  obtain ⟨v, w, c, e1, e2⟩ := worst_same (R := R) (C := C) (T := T) hR (by omega) (by omega)
  simp only [toInt64SS_eq _ hR, eqInt64SS_eq R R hR, toInt64S_eq C (by omega), toInt64S_eq T (by omega), Option.bind_some, e1, e2, bne_self, eqInt64S_eq C C (by omega), eqInt64S_eq T T (by omega), decide_true, Bool.not_true, cond_false]
end Go.Wk
