/-
  Plain laws: the searches for assignments. No program in sight. Our own work.
-/
import Derived.Test.YtcofngddgljhdaaLawChoices
import Derived.Test.YtcofngddgljhdaaLawSpan
import Derived.Test.YtcofngddgljhdaaPlainF
import Derived.Test.YtcofngddgljhdaaLawMarkP
namespace Go.Wk
open Go Go.RowKit

theorem empty_eq (n : Nat) (hn : n ≤ 1048576) : m_spec_l18Empty (n : Int) = some (List.replicate n (-1)) := by
  unfold m_spec_l18Empty
  have := build_loop (bytes := 8) n (fun _ => (-1 : Int)) (by omega) (fun s : (Int × (List Int)) => m_spec_l18Empty_B4 (n : Int) s.1 s.2) (fun k hk acc => ?_) (fun acc => ?_)
  · rw [this, Option.bind_some]
    congr 1
    apply List.ext_getElem?
    intro i
    by_cases hi : i < n
    · rw [List.getElem?_map, List.getElem?_range hi, List.getElem?_replicate, if_pos hi]; rfl
    · rw [List.getElem?_eq_none (by rw [List.length_map, List.length_range]; omega), List.getElem?_eq_none (by rw [List.length_replicate]; omega)]
  · simp only [m_spec_l18Empty_B4, lt_true hk, cond_true]
    rw [w64_id (by omega) (by omega)]; rfl
  · simp only [m_spec_l18Empty_B4, lt_self, cond_false, Option.map_some]

/-- The items ahead have channels, all others none. -/
def fullL (n : Nat) (cs : List Int) : List Int := cs ++ List.replicate (n - cs.length) (-1)
theorem fullL_len {n : Nat} {cs : List Int} (h : cs.length ≤ n) : (fullL n cs).length = n := by unfold fullL; simp; omega
theorem fullL_set {n : Nat} {cs : List Int} (h : cs.length < n) (c : Int) : (fullL n cs).set cs.length c = fullL n (cs ++ [c]) := by
  unfold fullL
  have e : List.replicate (n - cs.length) (-1 : Int) = -1 :: List.replicate (n - (cs ++ [c]).length) (-1) := by
    rw [show n - cs.length = (n - (cs ++ [c]).length) + 1 by simp; omega]; rfl
  rw [e, List.set_append_right _ _ (Nat.le_refl _), Nat.sub_self, List.append_assoc]; rfl
theorem fullL_unset {n : Nat} {cs : List Int} (h : cs.length < n) (c : Int) : (fullL n (cs ++ [c])).set cs.length (-1) = fullL n cs := by
  rw [← fullL_set h c, List.set_set]
  unfold fullL
  have e : List.replicate (n - cs.length) (-1 : Int) = -1 :: List.replicate (n - cs.length - 1) (-1) := by
    rw [show n - cs.length = (n - cs.length - 1) + 1 by omega]; rfl
  rw [e, List.set_append_right _ _ (Nat.le_refl _), Nat.sub_self]; rfl
theorem fullL_get {n : Nat} {cs : List Int} {j : Nat} (hj : j < n) : (fullL n cs).getD j 0 = if j < cs.length then cs.getD j 0 else -1 := by
  unfold fullL
  rw [List.getD_eq_getElem?_getD]
  by_cases h : j < cs.length
  · rw [if_pos h, List.getElem?_append_left h, List.getD_eq_getElem?_getD]
  · rw [if_neg h, List.getElem?_append_right (by omega), List.getElem?_replicate, if_pos (by omega)]; rfl

theorem cho_full (p : GProblem) (cs : List Int) (i : Nat) (h : cs.length ≤ p.Domains.length) : choN p (fullL p.Domains.length cs) i = choN p cs i := by
  unfold choN
  refine List.filter_congr fun c _ => ?_
  unfold freeN
  rw [fullL_len h, Bool.eq_iff_iff]
  simp only [List.all_eq_true, List.mem_range, Bool.not_eq_true']
  constructor
  · intro hh j hj
    have := hh j (by omega)
    unfold clashN at this ⊢
    rw [fullL_get (by omega), if_pos hj] at this
    exact this
  · intro hh j hj
    unfold clashN
    rw [fullL_get hj]
    by_cases hjc : j < cs.length
    · rw [if_pos hjc]
      exact hh j hjc
    · rw [if_neg hjc]
      have : decide ((0 : Int) ≤ -1) = false := rfl
      rw [this, Bool.false_and, Bool.and_false]

noncomputable abbrev GS : ((GL18Search × Int) → Option (Bool × (List Int) × Int × Int × (List Int))) → (GL18Search × Int) → Option (Bool × (List Int) × Int × Int × (List Int)) := fun self (a : (GL18Search × Int)) => mf_spec_l18Search_visit self a.1 a.2
noncomputable abbrev GI : (GAssignSearch → Option (Int × (List Int) × Int)) → GAssignSearch → Option (Int × (List Int) × Int) := fun self (a : GAssignSearch) => mf_impl_assignSearch_visit self a

/-- How a search ends: above the budget; done without a stop; stopped at a solution. -/
def EndA (B : Int) (stop : Bool) (cs : List Int) (ok : Bool) (nodes count : Int) (first lst : List Int) : Prop :=
  (nodes = B + 1 ∧ ok = false) ∨ (nodes ≤ B ∧ ok = true ∧ lst = cs ∧ (stop = true → count = 0)) ∨ (nodes ≤ B ∧ ok = false ∧ stop = true ∧ 0 < count ∧ first = lst ∧ lst.length ≤ 24)

theorem search_same (p : GProblem) (h : ProbOk p) (B : Int) (hB : B ≤ 20000) (stop : Bool) : ∀ (D : Nat) (cs : List Int) (nodes count : Int) (first : List Int), p.Domains.length - cs.length + 1 ≤ D → cs.length ≤ p.Domains.length → (∀ c ∈ cs, 0 ≤ c ∧ c ≤ 999) → 0 ≤ nodes → nodes ≤ B → 0 ≤ count → count ≤ nodes → (stop = true → count = 0) →
    ∃ (ok : Bool) (nodes' count' : Int) (first' lst : List Int), (∀ N, D ≤ N → iterM GS N (GL18Search.mk p (fullL p.Domains.length cs) (-1) nodes B count first stop, (cs.length : Int)) = some (ok, fullL p.Domains.length cs, nodes', count', first') ∧ iterM GI N (GAssignSearch.mk p (B - nodes) stop 999 cs count) = some (B - nodes', lst, count')) ∧ 0 ≤ nodes' ∧ 0 ≤ count' ∧ count' ≤ nodes' ∧ EndA B stop cs ok nodes' count' first' lst := by
  have hn := h.n2
  intro D
  induction D with
  | zero => intro cs nodes count first hD; omega
  | succ D ihD =>
    intro cs nodes count first hD hcl hcs hn0 hnB hc0 hcn hst
    have w1 : w64 (nodes + 1) = nodes + 1 := w64_id (by omega) (by omega)
    have w2 : w64 (B - nodes - 1) = B - nodes - 1 := w64_id (by omega) (by omega)
    have hfl : (fullL p.Domains.length cs).length = p.Domains.length := fullL_len hcl
    by_cases hbud : nodes = B
    · refine ⟨false, B + 1, count, first, cs, fun N hN => ?_, by omega, hc0, by omega, .inl ⟨rfl, rfl⟩⟩
      obtain ⟨N', rfl⟩ : ∃ N', N = N' + 1 := Nat.exists_eq_succ_of_ne_zero (by omega)
      constructor
      · show mf_spec_l18Search_visit (iterM GS N') _ _ = _
        unfold mf_spec_l18Search_visit
        simp only [w1, decide_eq_true (show B < nodes + 1 by omega), cond_true]
        rw [hbud]
      · show mf_impl_assignSearch_visit (iterM GI N') _ = _
        unfold mf_impl_assignSearch_visit
        simp only [w2, decide_eq_true (show B - nodes - 1 < 0 by omega), cond_true]
        rw [hbud]; congr 2; omega
    have hb1 : decide (B < nodes + 1) = false := lt_false (by omega)
    have hb2 : decide (B - nodes - 1 < 0) = false := lt_false (by omega)
    by_cases hleaf : cs.length = p.Domains.length
    · -- a leaf
      have wc : w64 (count + 1) = count + 1 := w64_id (by omega) (by omega)
      have efull : fullL p.Domains.length cs = cs := by unfold fullL; rw [hleaf, Nat.sub_self]; simp
      have q1 : ((cs.length : Int) == ((fullL p.Domains.length cs).length : Int)) = true := by rw [hfl, hleaf]; exact beq_self_eq_true _
      have q2 : ((cs.length : Int) == (p.Domains.length : Int)) = true := by rw [hleaf]; exact beq_self_eq_true _
      have hown : m_spec_l00Own cs = some cs := by unfold m_spec_l00Own; rw [own_eq cs (by omega)]; rfl
      refine ⟨!stop, nodes + 1, count + 1, if count = 0 then cs else first, cs, fun N hN => ?_, by omega, by omega, by omega, ?_⟩
      · obtain ⟨N', rfl⟩ : ∃ N', N = N' + 1 := Nat.exists_eq_succ_of_ne_zero (by omega)
        constructor
        · show mf_spec_l18Search_visit (iterM GS N') _ _ = _
          unfold mf_spec_l18Search_visit
          simp only [w1, hb1, cond_false, q1, cond_true]
          rw [efull]
          by_cases c0 : count = 0
          · have e : (count == 0) = true := by rw [c0]; rfl
            simp only [e, cond_true, hown, Option.bind_some, wc, if_pos c0]
          · have e : (count == 0) = false := by simp only [beq_eq_false_iff_ne, ne_eq]; exact c0
            simp only [e, cond_false, Option.bind_some, wc, if_neg c0]
        · show mf_impl_assignSearch_visit (iterM GI N') _ = _
          unfold mf_impl_assignSearch_visit
          simp only [w2, hb2, cond_false, q2, cond_true, wc]
          congr 2; omega
      · cases hs : stop with
        | false => exact .inr (.inl ⟨by omega, rfl, rfl, fun hh => by simp at hh⟩)
        | true =>
          have c0 := hst hs
          exact .inr (.inr ⟨by omega, rfl, rfl, by omega, by rw [if_pos c0], by omega⟩)
    -- an inner node
    have hlt : cs.length < p.Domains.length := by omega
    have q1 : ((cs.length : Int) == ((fullL p.Domains.length cs).length : Int)) = false := by rw [hfl]; simp only [beq_eq_false_iff_ne, ne_eq]; omega
    have q2 : ((cs.length : Int) == (p.Domains.length : Int)) = false := by simp only [beq_eq_false_iff_ne, ne_eq]; omega
    have pa1 : PartA p (fullL p.Domains.length cs) := ⟨by omega, fun k hk => by
      rw [fullL_get (by omega)]
      split
      · rename_i hk2
        have := hcs (cs.getD k 0) (by rw [getD_lt 0 hk2]; exact List.getElem_mem _)
        omega
      · omega⟩
    have pa2 : PartA p cs := ⟨hcl, fun k hk => by
      have := hcs (cs.getD k 0) (by rw [getD_lt 0 hk]; exact List.getElem_mem _)
      omega⟩
    have eS := choSpec_eq p h (fullL p.Domains.length cs) pa1 cs.length hlt
    rw [cho_full p cs cs.length hcl] at eS
    have eI := choImpl_eq p h cs pa2 cs.length hlt
    have hLl := choN_len h hlt cs
    have hLm : ∀ c ∈ choN p cs cs.length, 0 ≤ c ∧ c ≤ 999 := fun c hc => dom_rng h hlt (choN_mem hc).1
    generalize hL : choN p cs cs.length = L at eS eI hLl hLm
    have loop : ∀ (m j : Nat) (nodes count : Int) (first : List Int), j + m = L.length → 0 ≤ nodes → nodes ≤ B → 0 ≤ count → count ≤ nodes → (stop = true → count = 0) →
        ∃ (ok : Bool) (nodes' count' : Int) (first' lst : List Int), (∀ N, D ≤ N → ∀ (x : GL18Search) (y : GAssignSearch), x.p = p → x.span = -1 → x.budget = B → x.stop = stop → y.problem = p → y.first = stop → y.span = 999 → y.list = cs →
          loopM (fun s : (Int × Int × Int × (List Int) × (List Int)) => m_spec_l18Search_visit_B14 (iterM GS N) x (cs.length : Int) L s.1 s.2.1 s.2.2.1 s.2.2.2.1 s.2.2.2.2) ((j : Int), nodes, count, fullL p.Domains.length cs, first) = some (ok, fullL p.Domains.length cs, nodes', count', first') ∧
          loopM (fun s : (Int × Int × Int × (List Int)) => m_impl_assignSearch_visit_B7 (iterM GI N) y L s.1 s.2.1 s.2.2.1 s.2.2.2) ((j : Int), B - nodes, count, cs) = some (B - nodes', lst, count')) ∧ 0 ≤ nodes' ∧ 0 ≤ count' ∧ count' ≤ nodes' ∧ EndA B stop cs ok nodes' count' first' lst := by
      intro m
      induction m with
      | zero =>
        intro j nodes count first hj hn0 hnB hc0 hcn hst
        have e : j = L.length := by omega
        subst e
        refine ⟨true, nodes, count, first, cs, fun N hN x y x1 x2 x3 x4 y1 y2 y3 y4 => ⟨loopM_inr ?_, loopM_inr ?_⟩, hn0, hc0, hcn, .inr (.inl ⟨hnB, rfl, rfl, hst⟩)⟩
        · simp only [m_spec_l18Search_visit_B14, lt_self, cond_false, Option.map_some]
        · simp only [m_impl_assignSearch_visit_B7, lt_self, cond_false, Option.map_some]
      | succ m ihm =>
        intro j nodes count first hj hn0 hnB hc0 hcn hst
        have hjl : j < L.length := by omega
        have hw : w64 ((j : Int) + 1) = ((j + 1 : Nat) : Int) := by rw [w64_id (by omega) (by omega)]; omega
        have hwk : w64 ((cs.length : Int) + 1) = ((cs ++ [L[j]]).length : Int) := by rw [List.length_append, List.length_singleton, w64_id (by omega) (by omega)]; omega
        have hcj := hLm L[j] (List.getElem_mem hjl)
        have hcs' : ∀ c ∈ cs ++ [L[j]], 0 ≤ c ∧ c ≤ 999 := fun c hc => by
          rcases List.mem_append.1 hc with hc | hc
          · exact hcs c hc
          · rw [List.mem_singleton.1 hc]; exact hcj
        obtain ⟨ok1, nodes1, count1, first1, lst1, q1', k1, k2, k3, k4⟩ := ihD (cs ++ [L[j]]) nodes count first (by rw [List.length_append, List.length_singleton]; omega) (by rw [List.length_append, List.length_singleton]; omega) hcs' hn0 hnB hc0 hcn hst
        have happ : appL 8 cs [L[j]] = some (cs ++ [L[j]]) := appL_of (by rw [List.length_singleton]; omega)
        obtain ⟨sp, sp1, sp2⟩ := span_le (cs ++ [L[j]]) (by rw [List.length_append, List.length_singleton]; omega) hcs'
        have hib1 : inB (fullL p.Domains.length cs) (cs.length : Int) = some () := inB_nat (by omega)
        have hib2 : inB (fullL p.Domains.length (cs ++ [L[j]])) (cs.length : Int) = some () := inB_nat (by rw [fullL_len (by rw [List.length_append, List.length_singleton]; omega)]; omega)
        have hneg : decide ((-1 : Int) < 0) = true := rfl
        rcases k4 with ⟨e1, rfl⟩ | ⟨e1, rfl, rfl, e2⟩ | ⟨e1, rfl, e2, e3, e4, e5⟩
        · -- above the budget
          refine ⟨false, nodes1, count1, first1, lst1, fun N hN x y x1 x2 x3 x4 y1 y2 y3 y4 => ?_, k1, k2, k3, .inl ⟨e1, rfl⟩⟩
          obtain ⟨b1, b2⟩ := q1' N hN
          refine ⟨loopM_inr ?_, loopM_inr ?_⟩
          · simp only [m_spec_l18Search_visit_B14, lt_true hjl, cond_true, idx_lt_nat hjl, Option.bind_some, hib1, x2, hneg, Int.toNat_natCast, fullL_set hlt, x1, x3, x4, hwk, b1, hib2, Bool.not_false, fullL_unset hlt, Option.map_some]
          · simp only [m_impl_assignSearch_visit_B7, lt_true hjl, cond_true, idx_lt_nat hjl, Option.bind_some, happ, sp1, y3, decide_eq_true sp2, y1, y2, b2, decide_eq_true (show B - nodes1 < 0 by omega), Option.map_some]
        · -- on
          obtain ⟨ok, nodes', count', first', lst, r1, r2, r3, r4, r5⟩ := ihm (j + 1) nodes1 count1 first1 (by omega) k1 e1 k2 k3 e2
          refine ⟨ok, nodes', count', first', lst, fun N hN x y x1 x2 x3 x4 y1 y2 y3 y4 => ?_, r2, r3, r4, r5⟩
          obtain ⟨b1, b2⟩ := q1' N hN
          obtain ⟨a1, a2⟩ := r1 N hN x y x1 x2 x3 x4 y1 y2 y3 y4
          refine ⟨(loopM_inl (s' := (((j + 1 : Nat) : Int), nodes1, count1, fullL p.Domains.length cs, first1)) ?_).trans a1, (loopM_inl (s' := (((j + 1 : Nat) : Int), B - nodes1, count1, cs)) ?_).trans a2⟩
          · simp only [m_spec_l18Search_visit_B14, lt_true hjl, cond_true, idx_lt_nat hjl, Option.bind_some, hib1, x2, hneg, Int.toNat_natCast, fullL_set hlt, x1, x3, x4, hwk, b1, hib2, Bool.not_true, cond_false, fullL_unset hlt, hw]
          · have hcond : ((bif (decide (B - nodes1 < (0 : Int))) then some true else (bif stop then some (decide ((0 : Int) < count1)) else some false)) : Option Bool) = some false := by
              rw [lt_false (show ¬ B - nodes1 < 0 by omega)]
              cases hs : stop with
              | false => rfl
              | true => rw [e2 hs]; rfl
            have hcut : cutB (cs ++ [L[j]]) (cs.length : Int) = some () := by
              unfold cutB; rw [if_pos (by rw [List.length_append, List.length_singleton]; omega)]
            simp only [m_impl_assignSearch_visit_B7, lt_true hjl, cond_true, idx_lt_nat hjl, Option.bind_some, happ, sp1, y3, decide_eq_true sp2, y1, y2, b2, hcond, cond_false, y4, hcut, Int.toNat_natCast, List.take_left', hw]
        · -- stopped
          refine ⟨false, nodes1, count1, first1, lst1, fun N hN x y x1 x2 x3 x4 y1 y2 y3 y4 => ?_, k1, k2, k3, .inr (.inr ⟨e1, rfl, e2, e3, e4, e5⟩)⟩
          obtain ⟨b1, b2⟩ := q1' N hN
          refine ⟨loopM_inr ?_, loopM_inr ?_⟩
          · simp only [m_spec_l18Search_visit_B14, lt_true hjl, cond_true, idx_lt_nat hjl, Option.bind_some, hib1, x2, hneg, Int.toNat_natCast, fullL_set hlt, x1, x3, x4, hwk, b1, hib2, Bool.not_false, fullL_unset hlt, Option.map_some]
          · have hcond : ((bif (decide (B - nodes1 < (0 : Int))) then some true else (bif stop then some (decide ((0 : Int) < count1)) else some false)) : Option Bool) = some true := by
              rw [lt_false (show ¬ B - nodes1 < 0 by omega), e2, decide_eq_true e3]; rfl
            simp only [m_impl_assignSearch_visit_B7, lt_true hjl, cond_true, idx_lt_nat hjl, Option.bind_some, happ, sp1, y3, decide_eq_true sp2, y1, y2, b2, hcond, Option.map_some]
    obtain ⟨ok, nodes', count', first', lst, r1, r2, r3, r4, r5⟩ := loop L.length 0 (nodes + 1) count first (by omega) (by omega) (by omega) hc0 (by omega) hst
    refine ⟨ok, nodes', count', first', lst, fun N hN => ?_, r2, r3, r4, r5⟩
    obtain ⟨N', rfl⟩ : ∃ N', N = N' + 1 := Nat.exists_eq_succ_of_ne_zero (by omega)
    obtain ⟨a1, a2⟩ := r1 N' (by omega) (GL18Search.mk p (fullL p.Domains.length cs) (-1) nodes B count first stop) (GAssignSearch.mk p (B - nodes) stop 999 cs count) rfl rfl rfl rfl rfl rfl rfl rfl
    constructor
    · show mf_spec_l18Search_visit (iterM GS N') _ _ = _
      unfold mf_spec_l18Search_visit
      simp only [w1, hb1, cond_false, q1, eS, Option.bind_some]
      exact a1
    · show mf_impl_assignSearch_visit (iterM GI N') _ = _
      unfold mf_impl_assignSearch_visit
      simp only [w2, hb2, cond_false, q2, eI, Option.bind_some]
      have e3 : B - (nodes + 1) = B - nodes - 1 := by omega
      rw [e3] at a2
      exact a2

/-- Both searches from the start. -/
theorem search_start (p : GProblem) (h : ProbOk p) (B : Int) (hB : 1 ≤ B ∧ B ≤ 20000) (stop : Bool) : ∃ (ok : Bool) (nodes' count' : Int) (first' lst : List Int), m_spec_l18Search_visit (GL18Search.mk p (List.replicate p.Domains.length (-1)) (-1) 0 B 0 [] stop) 0 = some (ok, List.replicate p.Domains.length (-1), nodes', count', first') ∧
    m_impl_assignSearch_visit (GAssignSearch.mk p B stop 999 [] 0) = some (B - nodes', lst, count') ∧ 0 ≤ count' ∧ EndA B stop [] ok nodes' count' first' lst := by
  obtain ⟨ok, nodes', count', first', lst, r1, r2, r3, r4, r5⟩ := search_same p h B hB.2 stop (p.Domains.length + 1) [] 0 0 [] (by simp) (by simp) (by simp) (by omega) (by omega) (by omega) (by omega) (fun _ => rfl)
  refine ⟨ok, nodes', count', first', lst, ?_, ?_, r3, r5⟩
  · have e : fullL p.Domains.length [] = List.replicate p.Domains.length (-1) := by unfold fullL; simp
    have := recM_of (F := GS) (p.Domains.length + 1) fun n hn => (r1 n hn).1
    rw [e] at this
    exact this
  · have := recM_of (F := GI) (s := GAssignSearch.mk p (B - 0) stop 999 [] 0) (p.Domains.length + 1) fun n hn => (r1 n hn).2
    rw [Int.sub_zero] at this
    exact this
end Go.Wk
