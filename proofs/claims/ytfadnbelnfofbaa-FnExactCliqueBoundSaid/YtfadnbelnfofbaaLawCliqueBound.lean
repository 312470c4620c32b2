/-
  Plain law: CliqueBound. No program in sight. Our own work.
-/
import Derived.Test.YtfadnbelnfofbaaLawClique
import Derived.Test.YtfadnbelnfofbaaLawVals
import Derived.Test.YtfadnbelnfofbaaLawCompact
import Derived.Test.YtfadnbelnfofbaaLawEqP
namespace Go.Wk
open Go Go.RowKit

/-- What the program sorts and thins is nought ahead of the reference's values. -/
theorem vals_same (p : GProblem) (h : ProbOk p) : ∃ V, m_spec_l17Values p = some V ∧ (m_slices_Concat_int64_int64 p.Apart).bind (fun x3 => (m_slices_Sort_int64_int64 x3).bind fun x6 => (m_slices_Compact_int64_int64 x6)) = some (0 :: V) ∧ V.length ≤ 1048576 ∧ ∀ x ∈ V, 1 ≤ x ∧ x ≤ 100 := by
  obtain ⟨V, r1, r2, r3, r4⟩ := val_all p h
  have h1 := h.n1
  have hs := apart_small p h
  have hb := flat_bd hs p.Apart.length
  rw [List.take_length] at hb
  refine ⟨V, r1, ?_, r3, fun x hx => ?_⟩
  · rw [concat_eq _ hs, Option.bind_some]
    unfold m_slices_Sort_int64_int64 sortM m_slices_Compact_int64_int64 compactM
    rw [if_pos (by omega), Option.bind_some]
    congr 1
    refine strict_ext (compact_pw (sortL_pw _)) ?_ (fun x => ?_)
    · rw [List.pairwise_cons]
      refine ⟨fun y hy => ?_, r2⟩
      obtain ⟨_, _, _, _, _, hy0⟩ := (r4 y).1 hy
      exact hy0
    · rw [compact_mem, sortL_mem, List.mem_cons]
      constructor
      · intro hx
        obtain ⟨i, j, hi, hj, e⟩ := apart_out p h hx
        have hr := h.rng i j hi hj
        by_cases c : x = 0
        · exact .inl c
        · right
          rw [r4]
          by_cases hij : j < i
          · exact ⟨i, j, hij, hi, e, by omega⟩
          · by_cases hji : i < j
            · exact ⟨j, i, hji, hj, by rw [e]; exact h.sym i j hi hj, by omega⟩
            · have e2 : i = j := by omega
              subst e2
              exact absurd (e.trans (h.diag i hi)) c
      · rintro (hx | hx)
        · rw [hx, ← h.diag 0 (by omega)]
          exact apart_in p h (by omega) (by omega)
        · obtain ⟨a, b, hab, ha, e, _⟩ := (r4 x).1 hx
          rw [e]
          exact apart_in p h ha (by omega)
  · obtain ⟨a, b, hab, ha, e, h0⟩ := (r4 x).1 hx
    have := h.rng a b ha (by omega)
    omega

/-- Both search for a largest clique alike. -/
theorem clique_core (a : GProblem) (ha : FitsP a) (ho : probOk a = true) {B : Int} (hB : 1 ≤ B ∧ B ≤ 20000) {ap : Int} (hap : 1 ≤ ap ∧ ap ≤ 100) :
    ∃ s : GL17Search, m_spec_l17Clique a ap B = some s ∧ s.best.length ≤ 24 ∧ ((s.nodes ≤ B ∧ m_impl_MaxClique a ap B = some (s.best, 0)) ∨ (B < s.nodes ∧ m_impl_MaxClique a ap B = some ([], 5))) := by
  have hp := probOk_true ho
  obtain ⟨ok, best', nodes', r1, r2, r3, r4⟩ := visit_same a hp ap B hB.2 (a.Domains.length + 1) [] [] 0 0 (by omega) (by omega) (by simp) (by simp) (.inl ⟨rfl, rfl⟩) (by simp) (by omega) (by omega)
  have s1 : m_spec_l17Search_visit (GL17Search.mk a ap ([] : (List Int)) ([] : (List Int)) (0 : Int) B) (0 : Int) = some (ok, [], best', nodes') := recM_of (F := FS) (a.Domains.length + 1) fun n hn => (r1 n hn).1
  have s2 : m_impl_cliqueSearch_visit (GCliqueSearch.mk a ap B ([] : (List Int)) ([] : (List Int))) = some (B - nodes', [], best') := by
    have := recM_of (F := FI) (s := GCliqueSearch.mk a ap (B - 0) (castL []) []) (a.Domains.length + 1) fun n hn => (r1 n hn).2
    rw [Int.sub_zero] at this
    exact this
  refine ⟨GL17Search.mk a ap [] best' nodes' B, ?_, r2, ?_⟩
  · unfold m_spec_l17Clique
    rw [s1]; rfl
  · unfold m_impl_MaxClique m_impl_budgetValid
    rw [probImpl_eq _ ha, ho, within_eq, within_eq, decide_eq_true hB, decide_eq_true hap]
    simp only [Option.bind_some, Bool.not_true, cond_false, s2]
    rcases r4 with ⟨r4, _⟩ | ⟨r4, _⟩
    · left
      rw [lt_false (show ¬ B - nodes' < 0 by omega)]
      exact ⟨r4, rfl⟩
    · right
      rw [decide_eq_true (show B - nodes' < 0 by omega)]
      exact ⟨by show B < nodes'; omega, rfl⟩

theorem bound_loop (a : GProblem) (ha : FitsP a) (ho : probOk a = true) {B : Int} (hB : 1 ≤ B ∧ B ≤ 20000) (V : List Int) (hl : V.length ≤ 1048576) (hV : ∀ x ∈ V, 1 ≤ x ∧ x ≤ 100) :
    ∀ (m k : Nat) (v : Int), k + m = V.length → ∃ r, loopM (fun s : (Int × Int) => m_spec_CliqueBound_B4 a B V s.1 s.2) (v, (k : Int)) = some r ∧ loopM (fun s : (Int × Int) => m_impl_CliqueBound_B11 a B (0 :: V) s.1 s.2) (v, ((k + 1 : Nat) : Int)) = some r := by
  intro m
  induction m with
  | zero =>
    intro k v hk
    refine ⟨(v, 0), loopM_inr ?_, loopM_inr ?_⟩
    · simp only [m_spec_CliqueBound_B4]; rw [decide_eq_false (by omega)]; rfl
    · simp only [m_impl_CliqueBound_B11]; rw [decide_eq_false (by rw [List.length_cons]; omega)]; rfl
  | succ m ih =>
    intro k v hk
    have hkl : k < V.length := by omega
    have hx := hV V[k] (List.getElem_mem hkl)
    have ew : w64 ((k : Int) + 1) = ((k + 1 : Nat) : Int) := by rw [w64_id (by omega) (by omega)]; omega
    have ew2 : w64 (((k + 1 : Nat) : Int) + 1) = ((k + 1 + 1 : Nat) : Int) := by rw [w64_id (by omega) (by omega)]; omega
    have e1 : idx V (k : Int) = some V[k] := idx_lt_nat hkl
    have hk1 : k + 1 < (0 :: V).length := by rw [List.length_cons]; omega
    have e2 : idx (0 :: V) ((k + 1 : Nat) : Int) = some V[k] := by rw [idx_lt_nat hk1]; rfl
    have e3 : (V[k] == (0 : Int)) = false := beq_eq_false_iff_ne.2 (by omega)
    obtain ⟨s, s1, s2, s3⟩ := clique_core a ha ho hB hx
    rcases s3 with ⟨s3, s4⟩ | ⟨s3, s4⟩
    · have em : m_spec_l00Max v (w64 (V[k] * w64 ((s.best.length : Int) - 1))) = some (if (w64 (V[k] * w64 ((s.best.length : Int) - 1))) > v then w64 (V[k] * w64 ((s.best.length : Int) - 1)) else v) := by
        unfold m_spec_l00Max
        by_cases c : w64 (V[k] * w64 ((s.best.length : Int) - 1)) < v
        · rw [decide_eq_true c, cond_true, if_neg (by omega)]
        · rw [decide_eq_false c, cond_false]
          split
          · rfl
          · congr 1; omega
      obtain ⟨r, k1, k2⟩ := ih (k + 1) (if (w64 (V[k] * w64 ((s.best.length : Int) - 1))) > v then w64 (V[k] * w64 ((s.best.length : Int) - 1)) else v) (by omega)
      refine ⟨r, ?_, ?_⟩
      · rw [loopM_inl ?_]
        · exact k1
        · simp only [m_spec_CliqueBound_B4, lt_true hkl, cond_true, e1, Option.bind_some, s1, lt_false (show ¬ B < s.nodes by omega), cond_false, em, ew]
      · rw [loopM_inl ?_]
        · exact k2
        · simp only [m_impl_CliqueBound_B11, lt_true hk1, cond_true, e2, Option.bind_some, e3, cond_false, s4, bne_self_eq_false, ew2]
    · refine ⟨(0, 5), loopM_inr ?_, loopM_inr ?_⟩
      · simp only [m_spec_CliqueBound_B4, lt_true hkl, cond_true, e1, Option.bind_some, s1, decide_eq_true (show B < s.nodes from s3), Option.map_some]
      · simp only [m_impl_CliqueBound_B11, lt_true hk1, cond_true, e2, Option.bind_some, e3, cond_false, s4, show ((5 : Int) != 0) = true from rfl, Option.map_some]

theorem bound_same (a : GProblem) (ha : FitsP a) (B : Int) : ∃ r c, m_spec_CliqueBound a B = some (r, c) ∧ m_impl_CliqueBound a B = some (r, c) := by
  unfold m_spec_CliqueBound m_impl_CliqueBound m_impl_budgetValid
  rw [probSpec_eq _ ha, probImpl_eq _ ha, in_eq, within_eq]
  cases ho : probOk a with
  | false => exact ⟨0, 1, rfl, rfl⟩
  | true =>
    cases hb : decide ((1 : Int) ≤ B ∧ B ≤ 20000) with
    | false => exact ⟨0, 2, rfl, rfl⟩
    | true =>
      have hp := probOk_true ho
      have hB := of_decide_eq_true hb
      obtain ⟨V, v1, v2, v3, v4⟩ := vals_same a hp
      obtain ⟨r, k1, k2⟩ := bound_loop a ha ho hB V v3 v4 V.length 0 0 (by omega)
      obtain ⟨x3, y1, v2⟩ := Option.bind_eq_some_iff.1 v2
      obtain ⟨x6, y2, v2⟩ := Option.bind_eq_some_iff.1 v2
      have k2' : loopM (fun s : (Int × Int) => m_impl_CliqueBound_B11 a B (0 :: V) s.1 s.2) ((0 : Int), (0 : Int)) = some r := by
        rw [loopM_inl (s' := ((0 : Int), ((0 + 1 : Nat) : Int))) ?_]
        · exact k2
        · simp only [m_impl_CliqueBound_B11]
          rw [decide_eq_true (by rw [List.length_cons]; omega)]
          have e0 : idx (0 :: V) (0 : Int) = some 0 := rfl
          simp only [cond_true, e0, Option.bind_some, beq_self_eq_true]
          rw [w64_id (by omega) (by omega)]; rfl
      have k1' : loopM (fun s : (Int × Int) => m_spec_CliqueBound_B4 a B V s.1 s.2) ((0 : Int), (0 : Int)) = some r := k1
      refine ⟨r.1, r.2, ?_, ?_⟩
      · simp only [Option.bind_some, Bool.not_true, cond_false, v1, k1']
      · simp only [Option.bind_some, Bool.not_true, cond_false, y1, y2, v2, k2']

theorem law_FnExactCliqueBound (a : GProblem) (B : Int) (k : okGProblem a) (_kb : (Lit.int .i64 B).wf = true) : m_laws_FnExactCliqueBound a B = some true := by
  unfold m_laws_FnExactCliqueBound
  obtain ⟨r, hr, hc⟩ := szProblem_eq a k 1048576 (by omega) (by omega)
  rw [hr, Option.bind_some]
  rcases hc with hc | ⟨hc, hc2, ha⟩
  · rw [decide_eq_true hc]; rfl
  rw [decide_eq_false (by omega), cond_false]
  obtain ⟨s, c, e1, e2⟩ := bound_same a ha B
  simp only [toProblem_eq _ ha, eqProblem_self _ ha, e1, e2, Option.bind_some, bne_self, cond_false, Bool.not_true]
end Go.Wk
