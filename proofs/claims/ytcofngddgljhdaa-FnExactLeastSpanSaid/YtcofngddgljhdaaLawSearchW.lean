/-
  Plain laws: the searches for assignments within a span. No program in sight. Our own work.
-/
import Derived.Test.YtcofngddgljhdaaLawSearch
namespace Go.Wk
open Go Go.RowKit

theorem search_span (p : GProblem) (h : ProbOk p) (B ws : Int) (hB : B ≤ 20000) (hws : 0 ≤ ws) (stop : Bool) : ∀ (D : Nat) (cs : List Int) (nodes count : Int) (first : List Int), p.Domains.length - cs.length + 1 ≤ D → cs.length ≤ p.Domains.length → (∀ c ∈ cs, 0 ≤ c ∧ c ≤ 999) → 0 ≤ nodes → nodes ≤ B → 0 ≤ count → count ≤ nodes → (stop = true → count = 0) →
    ∃ (ok : Bool) (nodes' count' : Int) (first' lst : List Int), (∀ N, D ≤ N → iterM GS N (GL18Search.mk p (fullL p.Domains.length cs) ws nodes B count first stop, (cs.length : Int)) = some (ok, fullL p.Domains.length cs, nodes', count', first') ∧ iterM GI N (GAssignSearch.mk p (B - nodes) stop ws cs count) = some (B - nodes', lst, count')) ∧ 0 ≤ nodes' ∧ 0 ≤ count' ∧ count' ≤ nodes' ∧ EndA B stop cs ok nodes' count' first' lst := by
  have hn := h.n2
  intro D
  induction D with
  | zero => intro cs nodes count first hD; omega
  | succ D ihD =>
    intro cs nodes count first hD hcl hcs hn0 hnB hc0 hcn hst
    have w1 : w64 (nodes + 1) = nodes + 1 := w64_id (by omega) (by omega)
    have w2 : w64 (B - nodes - 1) = B - nodes - 1 := w64_id (by omega) (by omega)
    have hfl : (fullL p.Domains.length cs).length = p.Domains.length := fullL_len hcl
    by_cases hbud : nodes = B
    · refine ⟨false, B + 1, count, first, cs, fun N hN => ?_, by omega, hc0, by omega, .inl ⟨rfl, rfl⟩⟩
      obtain ⟨N', rfl⟩ : ∃ N', N = N' + 1 := Nat.exists_eq_succ_of_ne_zero (by omega)
      constructor
      · show mf_spec_l18Search_visit (iterM GS N') _ _ = _
        unfold mf_spec_l18Search_visit
        simp only [w1, decide_eq_true (show B < nodes + 1 by omega), cond_true]
        rw [hbud]
      · show mf_impl_assignSearch_visit (iterM GI N') _ = _
        unfold mf_impl_assignSearch_visit
        simp only [w2, decide_eq_true (show B - nodes - 1 < 0 by omega), cond_true]
        rw [hbud]; congr 2; omega
    have hb1 : decide (B < nodes + 1) = false := lt_false (by omega)
    have hb2 : decide (B - nodes - 1 < 0) = false := lt_false (by omega)
    by_cases hleaf : cs.length = p.Domains.length
    · -- a leaf
      have wc : w64 (count + 1) = count + 1 := w64_id (by omega) (by omega)
      have efull : fullL p.Domains.length cs = cs := by unfold fullL; rw [hleaf, Nat.sub_self]; simp
      have q1 : ((cs.length : Int) == ((fullL p.Domains.length cs).length : Int)) = true := by rw [hfl, hleaf]; exact beq_self_eq_true _
      have q2 : ((cs.length : Int) == (p.Domains.length : Int)) = true := by rw [hleaf]; exact beq_self_eq_true _
      have hown : m_spec_l00Own cs = some cs := by unfold m_spec_l00Own; rw [own_eq cs (by omega)]; rfl
      refine ⟨!stop, nodes + 1, count + 1, if count = 0 then cs else first, cs, fun N hN => ?_, by omega, by omega, by omega, ?_⟩
      · obtain ⟨N', rfl⟩ : ∃ N', N = N' + 1 := Nat.exists_eq_succ_of_ne_zero (by omega)
        constructor
        · show mf_spec_l18Search_visit (iterM GS N') _ _ = _
          unfold mf_spec_l18Search_visit
          simp only [w1, hb1, cond_false, q1, cond_true]
          rw [efull]
          by_cases c0 : count = 0
          · have e : (count == 0) = true := by rw [c0]; rfl
            simp only [e, cond_true, hown, Option.bind_some, wc, if_pos c0]
          · have e : (count == 0) = false := by simp only [beq_eq_false_iff_ne, ne_eq]; exact c0
            simp only [e, cond_false, Option.bind_some, wc, if_neg c0]
        · show mf_impl_assignSearch_visit (iterM GI N') _ = _
          unfold mf_impl_assignSearch_visit
          simp only [w2, hb2, cond_false, q2, cond_true, wc]
          congr 2; omega
      · cases hs : stop with
        | false => exact .inr (.inl ⟨by omega, rfl, rfl, fun hh => by simp at hh⟩)
        | true =>
          have c0 := hst hs
          exact .inr (.inr ⟨by omega, rfl, rfl, by omega, by rw [if_pos c0], by omega⟩)
    -- an inner node
    have hlt : cs.length < p.Domains.length := by omega
    have q1 : ((cs.length : Int) == ((fullL p.Domains.length cs).length : Int)) = false := by rw [hfl]; simp only [beq_eq_false_iff_ne, ne_eq]; omega
    have q2 : ((cs.length : Int) == (p.Domains.length : Int)) = false := by simp only [beq_eq_false_iff_ne, ne_eq]; omega
    have pa1 : PartA p (fullL p.Domains.length cs) := ⟨by omega, fun k hk => by
      rw [fullL_get (by omega)]
      split
      · rename_i hk2
        have := hcs (cs.getD k 0) (by rw [getD_lt 0 hk2]; exact List.getElem_mem _)
        omega
      · omega⟩
    have pa2 : PartA p cs := ⟨hcl, fun k hk => by
      have := hcs (cs.getD k 0) (by rw [getD_lt 0 hk]; exact List.getElem_mem _)
      omega⟩
    have eS := choSpec_eq p h (fullL p.Domains.length cs) pa1 cs.length hlt
    rw [cho_full p cs cs.length hcl] at eS
    have eI := choImpl_eq p h cs pa2 cs.length hlt
    have hLl := choN_len h hlt cs
    have hLm : ∀ c ∈ choN p cs cs.length, 0 ≤ c ∧ c ≤ 999 := fun c hc => dom_rng h hlt (choN_mem hc).1
    generalize hL : choN p cs cs.length = L at eS eI hLl hLm
    have loop : ∀ (m j : Nat) (nodes count : Int) (first : List Int), j + m = L.length → 0 ≤ nodes → nodes ≤ B → 0 ≤ count → count ≤ nodes → (stop = true → count = 0) →
        ∃ (ok : Bool) (nodes' count' : Int) (first' lst : List Int), (∀ N, D ≤ N → ∀ (x : GL18Search) (y : GAssignSearch), x.p = p → x.span = ws → x.budget = B → x.stop = stop → y.problem = p → y.first = stop → y.span = ws → y.list = cs →
          loopM (fun s : (Int × Int × Int × (List Int) × (List Int)) => m_spec_l18Search_visit_B14 (iterM GS N) x (cs.length : Int) L s.1 s.2.1 s.2.2.1 s.2.2.2.1 s.2.2.2.2) ((j : Int), nodes, count, fullL p.Domains.length cs, first) = some (ok, fullL p.Domains.length cs, nodes', count', first') ∧
          loopM (fun s : (Int × Int × Int × (List Int)) => m_impl_assignSearch_visit_B7 (iterM GI N) y L s.1 s.2.1 s.2.2.1 s.2.2.2) ((j : Int), B - nodes, count, cs) = some (B - nodes', lst, count')) ∧ 0 ≤ nodes' ∧ 0 ≤ count' ∧ count' ≤ nodes' ∧ EndA B stop cs ok nodes' count' first' lst := by
      intro m
      induction m with
      | zero =>
        intro j nodes count first hj hn0 hnB hc0 hcn hst
        have e : j = L.length := by omega
        subst e
        refine ⟨true, nodes, count, first, cs, fun N hN x y x1 x2 x3 x4 y1 y2 y3 y4 => ⟨loopM_inr ?_, loopM_inr ?_⟩, hn0, hc0, hcn, .inr (.inl ⟨hnB, rfl, rfl, hst⟩)⟩
        · simp only [m_spec_l18Search_visit_B14, lt_self, cond_false, Option.map_some]
        · simp only [m_impl_assignSearch_visit_B7, lt_self, cond_false, Option.map_some]
      | succ m ihm =>
        intro j nodes count first hj hn0 hnB hc0 hcn hst
        have hjl : j < L.length := by omega
        have hw : w64 ((j : Int) + 1) = ((j + 1 : Nat) : Int) := by rw [w64_id (by omega) (by omega)]; omega
        have hwk : w64 ((cs.length : Int) + 1) = ((cs ++ [L[j]]).length : Int) := by rw [List.length_append, List.length_singleton, w64_id (by omega) (by omega)]; omega
        have hcj := hLm L[j] (List.getElem_mem hjl)
        have hcs' : ∀ c ∈ cs ++ [L[j]], 0 ≤ c ∧ c ≤ 999 := fun c hc => by
          rcases List.mem_append.1 hc with hc | hc
          · exact hcs c hc
          · rw [List.mem_singleton.1 hc]; exact hcj
        obtain ⟨ok1, nodes1, count1, first1, lst1, q1', k1, k2, k3, k4⟩ := ihD (cs ++ [L[j]]) nodes count first (by rw [List.length_append, List.length_singleton]; omega) (by rw [List.length_append, List.length_singleton]; omega) hcs' hn0 hnB hc0 hcn hst
        have happ : appL 8 cs [L[j]] = some (cs ++ [L[j]]) := appL_of (by rw [List.length_singleton]; omega)
        obtain ⟨sp, sp0, sp1⟩ := span_same (cs ++ [L[j]]) (by rw [List.length_append, List.length_singleton]; omega)
        have hib1 : inB (fullL p.Domains.length cs) (cs.length : Int) = some () := inB_nat (by omega)
        have hib2 : inB (fullL p.Domains.length (cs ++ [L[j]])) (cs.length : Int) = some () := inB_nat (by rw [fullL_len (by rw [List.length_append, List.length_singleton]; omega)]; omega)
        have hneg : decide (ws < 0) = false := lt_false (by omega)
        have hfl1 : (fullL p.Domains.length (cs ++ [L[j]])).length = p.Domains.length := fullL_len (by rw [List.length_append, List.length_singleton]; omega)
        have hcutS : cutB (fullL p.Domains.length (cs ++ [L[j]])) ((cs ++ [L[j]]).length : Int) = some () := by
          unfold cutB; rw [if_pos (by rw [List.length_append, List.length_singleton]; omega)]
        have htkS : (fullL p.Domains.length (cs ++ [L[j]])).take (cs ++ [L[j]]).length = cs ++ [L[j]] := by
          unfold fullL; exact List.take_left' rfl
        have hcut0 : cutB (cs ++ [L[j]]) (cs.length : Int) = some () := by
          unfold cutB; rw [if_pos (by rw [List.length_append, List.length_singleton]; omega)]
        by_cases sp2 : sp ≤ ws
        case neg =>
          -- the span is too great: the next channel
          obtain ⟨ok, nodes', count', first', lst, r1, r2, r3, r4, r5⟩ := ihm (j + 1) nodes count first (by omega) hn0 hnB hc0 hcn hst
          refine ⟨ok, nodes', count', first', lst, fun N hN x y x1 x2 x3 x4 y1 y2 y3 y4 => ?_, r2, r3, r4, r5⟩
          obtain ⟨a1, a2⟩ := r1 N hN x y x1 x2 x3 x4 y1 y2 y3 y4
          refine ⟨(loopM_inl (s' := (((j + 1 : Nat) : Int), nodes, count, fullL p.Domains.length cs, first)) ?_).trans a1, (loopM_inl (s' := (((j + 1 : Nat) : Int), B - nodes, count, cs)) ?_).trans a2⟩
          · simp only [m_spec_l18Search_visit_B14, lt_true hjl, cond_true, idx_lt_nat hjl, Option.bind_some, hib1, x2, hneg, cond_false, Int.toNat_natCast, fullL_set hlt, hwk, hcutS, htkS, sp0, decide_eq_false sp2, hib2, Bool.not_true, fullL_unset hlt, hw]
          · have hcond : ((bif (decide (B - nodes < (0 : Int))) then some true else (bif stop then some (decide ((0 : Int) < count)) else some false)) : Option Bool) = some false := by
              rw [lt_false (show ¬ B - nodes < 0 by omega)]
              cases hs : stop with
              | false => rfl
              | true => rw [hst hs]; rfl
            simp only [m_impl_assignSearch_visit_B7, lt_true hjl, cond_true, idx_lt_nat hjl, Option.bind_some, happ, sp1, y3, decide_eq_false sp2, cond_false, y2, hcond, y4, hcut0, Int.toNat_natCast, List.take_left', hw]
        rcases k4 with ⟨e1, rfl⟩ | ⟨e1, rfl, rfl, e2⟩ | ⟨e1, rfl, e2, e3, e4, e5⟩
        · -- above the budget
          refine ⟨false, nodes1, count1, first1, lst1, fun N hN x y x1 x2 x3 x4 y1 y2 y3 y4 => ?_, k1, k2, k3, .inl ⟨e1, rfl⟩⟩
          obtain ⟨b1, b2⟩ := q1' N hN
          refine ⟨loopM_inr ?_, loopM_inr ?_⟩
          · simp only [m_spec_l18Search_visit_B14, lt_true hjl, cond_true, idx_lt_nat hjl, Option.bind_some, hib1, x2, hneg, cond_false, Int.toNat_natCast, fullL_set hlt, x1, x3, x4, hwk, hcutS, htkS, sp0, decide_eq_true sp2, b1, hib2, Bool.not_false, fullL_unset hlt, Option.map_some]
          · simp only [m_impl_assignSearch_visit_B7, lt_true hjl, cond_true, idx_lt_nat hjl, Option.bind_some, happ, sp1, y3, decide_eq_true sp2, y1, y2, b2, decide_eq_true (show B - nodes1 < 0 by omega), Option.map_some]
        · -- on
          obtain ⟨ok, nodes', count', first', lst, r1, r2, r3, r4, r5⟩ := ihm (j + 1) nodes1 count1 first1 (by omega) k1 e1 k2 k3 e2
          refine ⟨ok, nodes', count', first', lst, fun N hN x y x1 x2 x3 x4 y1 y2 y3 y4 => ?_, r2, r3, r4, r5⟩
          obtain ⟨b1, b2⟩ := q1' N hN
          obtain ⟨a1, a2⟩ := r1 N hN x y x1 x2 x3 x4 y1 y2 y3 y4
          refine ⟨(loopM_inl (s' := (((j + 1 : Nat) : Int), nodes1, count1, fullL p.Domains.length cs, first1)) ?_).trans a1, (loopM_inl (s' := (((j + 1 : Nat) : Int), B - nodes1, count1, cs)) ?_).trans a2⟩
          · simp only [m_spec_l18Search_visit_B14, lt_true hjl, cond_true, idx_lt_nat hjl, Option.bind_some, hib1, x2, hneg, cond_false, Int.toNat_natCast, fullL_set hlt, x1, x3, x4, hwk, hcutS, htkS, sp0, decide_eq_true sp2, b1, hib2, Bool.not_true, cond_false, fullL_unset hlt, hw]
          · have hcond : ((bif (decide (B - nodes1 < (0 : Int))) then some true else (bif stop then some (decide ((0 : Int) < count1)) else some false)) : Option Bool) = some false := by
              rw [lt_false (show ¬ B - nodes1 < 0 by omega)]
              cases hs : stop with
              | false => rfl
              | true => rw [e2 hs]; rfl
            have hcut : cutB (cs ++ [L[j]]) (cs.length : Int) = some () := by
              unfold cutB; rw [if_pos (by rw [List.length_append, List.length_singleton]; omega)]
            simp only [m_impl_assignSearch_visit_B7, lt_true hjl, cond_true, idx_lt_nat hjl, Option.bind_some, happ, sp1, y3, decide_eq_true sp2, y1, y2, b2, hcond, cond_false, y4, hcut, Int.toNat_natCast, List.take_left', hw]
        · -- stopped
          refine ⟨false, nodes1, count1, first1, lst1, fun N hN x y x1 x2 x3 x4 y1 y2 y3 y4 => ?_, k1, k2, k3, .inr (.inr ⟨e1, rfl, e2, e3, e4, e5⟩)⟩
          obtain ⟨b1, b2⟩ := q1' N hN
          refine ⟨loopM_inr ?_, loopM_inr ?_⟩
          · simp only [m_spec_l18Search_visit_B14, lt_true hjl, cond_true, idx_lt_nat hjl, Option.bind_some, hib1, x2, hneg, cond_false, Int.toNat_natCast, fullL_set hlt, x1, x3, x4, hwk, hcutS, htkS, sp0, decide_eq_true sp2, b1, hib2, Bool.not_false, fullL_unset hlt, Option.map_some]
          · have hcond : ((bif (decide (B - nodes1 < (0 : Int))) then some true else (bif stop then some (decide ((0 : Int) < count1)) else some false)) : Option Bool) = some true := by
              rw [lt_false (show ¬ B - nodes1 < 0 by omega), e2, decide_eq_true e3]; rfl
            simp only [m_impl_assignSearch_visit_B7, lt_true hjl, cond_true, idx_lt_nat hjl, Option.bind_some, happ, sp1, y3, decide_eq_true sp2, y1, y2, b2, hcond, Option.map_some]
    obtain ⟨ok, nodes', count', first', lst, r1, r2, r3, r4, r5⟩ := loop L.length 0 (nodes + 1) count first (by omega) (by omega) (by omega) hc0 (by omega) hst
    refine ⟨ok, nodes', count', first', lst, fun N hN => ?_, r2, r3, r4, r5⟩
    obtain ⟨N', rfl⟩ : ∃ N', N = N' + 1 := Nat.exists_eq_succ_of_ne_zero (by omega)
    obtain ⟨a1, a2⟩ := r1 N' (by omega) (GL18Search.mk p (fullL p.Domains.length cs) ws nodes B count first stop) (GAssignSearch.mk p (B - nodes) stop ws cs count) rfl rfl rfl rfl rfl rfl rfl rfl
    constructor
    · show mf_spec_l18Search_visit (iterM GS N') _ _ = _
      unfold mf_spec_l18Search_visit
      simp only [w1, hb1, cond_false, q1, eS, Option.bind_some]
      exact a1
    · show mf_impl_assignSearch_visit (iterM GI N') _ = _
      unfold mf_impl_assignSearch_visit
      simp only [w2, hb2, cond_false, q2, eI, Option.bind_some]
      have e3 : B - (nodes + 1) = B - nodes - 1 := by omega
      rw [e3] at a2
      exact a2

end Go.Wk
