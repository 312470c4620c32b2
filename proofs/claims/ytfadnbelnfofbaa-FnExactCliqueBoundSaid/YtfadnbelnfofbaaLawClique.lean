/-
  Plain laws: the search for a largest clique. No program in sight. Our own work.
-/
import Derived.Test.YtfadnbelnfofbaaLawProbOk
import Derived.Test.YtfadnbelnfofbaaLawEnd
import Derived.Test.YtfadnbelnfofbaaPlainC
import Derived.Test.YtfadnbelnfofbaaLawMarkP
namespace Go.Wk
open Go Go.RowKit

def castL (cs : List Nat) : List Int := cs.map fun k : Nat => (k : Int)
theorem castL_len (cs : List Nat) : (castL cs).length = cs.length := by unfold castL; simp
theorem castL_get {cs : List Nat} {k : Nat} (h : k < (castL cs).length) : (castL cs)[k] = ((cs[k]'(by rw [castL_len] at h; exact h) : Nat) : Int) := List.getElem_map (fun k : Nat => (k : Int))
theorem castL_app (cs : List Nat) (i : Nat) : castL (cs ++ [i]) = castL cs ++ [(i : Int)] := by unfold castL; simp
/-- Is an item far enough from all chosen ones. -/
def farQ (p : GProblem) (ap : Int) (cs : List Nat) (i : Nat) : Bool := cs.all fun c => decide (ap ≤ apartAt p i c)

theorem farS (p : GProblem) (h : ProbOk p) (ap : Int) (x : GL17Search) (hp : x.p = p) (ha : x.apart = ap) (cs : List Nat) (hc : ∀ c ∈ cs, c < p.Domains.length) (hcl : cs.length ≤ 24) (i : Nat) (hi : i < p.Domains.length) :
    loopM (fun s : (Bool × Int) => m_spec_l17Search_visit_B17 x (i : Int) (castL cs) s.1 s.2) (true, (0 : Int)) = some (farQ p ap cs i) := by
  have hl := h.len
  have key := fold_loop (castL cs) (fun (v : Bool) (c : Int) => if v then decide (ap ≤ apartAt p i c.toNat) else false) (fun v => v) (fun s : (Bool × Int) => m_spec_l17Search_visit_B17 x (i : Int) (castL cs) s.1 s.2) (fun k hk v => ?_) (fun v => ?_) true
  · have key : loopM (fun s : (Bool × Int) => m_spec_l17Search_visit_B17 x (i : Int) (castL cs) s.1 s.2) (true, (0 : Int)) = _ := key
    rw [key]
    congr 1
    unfold farQ castL
    have gen : ∀ (l : List Nat) (v : Bool), (l.map fun k : Nat => (k : Int)).foldl (fun (v : Bool) (c : Int) => if v then decide (ap ≤ apartAt p i c.toNat) else false) v = (v && l.all fun c => decide (ap ≤ apartAt p i c)) := by
      intro l
      induction l with
      | nil => intro v; simp
      | cons c l ih =>
        intro v
        rw [List.map_cons, List.foldl_cons, ih, List.all_cons, Int.toNat_natCast]
        cases v <;> simp
    rw [gen, Bool.true_and]
  · have hkc : k < cs.length := by rw [castL_len] at hk; exact hk
    have hck := hc cs[k] (List.getElem_mem hkc)
    have hrow := h.row i hi
    have hia : i < p.Apart.length := by omega
    simp only [m_spec_l17Search_visit_B17, lt_true hk, cond_true, hp, ha]
    rw [w64_id (n := (k : Int) + 1) (by omega) (by rw [castL_len] at hk; omega)]
    cases v with
    | false => rfl
    | true =>
      simp only [cond_true, idx_getD [] hia, idx_lt_nat hk, castL_get hk, Option.bind_some, idx_getD 0 (show cs[k] < (p.Apart.getD i []).length by omega), Int.toNat_natCast, if_true]
      rfl
  · simp only [m_spec_l17Search_visit_B17, lt_self, cond_false, Option.map_some]

theorem farI (p : GProblem) (h : ProbOk p) (ap : Int) (x : GCliqueSearch) (hp : x.problem = p) (ha : x.apart = ap) (cs : List Nat) (hc : ∀ c ∈ cs, c < p.Domains.length) (hcl : cs.length ≤ 24) (i : Nat) (hi : i < p.Domains.length) :
    m_slices_ContainsFunc_int64_int64 (castL cs) (fun y => m_impl_cliqueSearch_visit_1 y x (i : Int)) = some (!farQ p ap cs i) := by
  have hl := h.len
  rw [containsFunc_eq (castL cs) _ (fun c => !decide (ap ≤ apartAt p i c.toNat)) (fun c hcm => ?_) (by rw [castL_len]; omega)]
  · congr 1
    unfold farQ castL
    rw [List.any_map, List.not_all_eq_any_not]
    congr 1
  · unfold castL at hcm
    obtain ⟨k, hk, rfl⟩ := List.mem_map.1 hcm
    have hkc := hc k hk
    have hrow := h.row k hkc
    have hka : k < p.Apart.length := by omega
    unfold m_impl_cliqueSearch_visit_1
    rw [hp, ha, idx_getD [] hka, Option.bind_some, idx_getD 0 (show i < (p.Apart.getD k []).length by omega), Option.bind_some, Int.toNat_natCast, h.sym i k hi hkc]
    congr 1
    unfold apartAt
    rw [Bool.eq_iff_iff]
    simp only [decide_eq_true_eq, Bool.not_eq_true', decide_eq_false_iff_not]
    omega

noncomputable abbrev FS : ((GL17Search × Int) → Option (Bool × (List Int) × (List Int) × Int)) → (GL17Search × Int) → Option (Bool × (List Int) × (List Int) × Int) := fun self (a : (GL17Search × Int)) => mf_spec_l17Search_visit self a.1 a.2
noncomputable abbrev FI : (GCliqueSearch → Option (Int × (List Int) × (List Int))) → GCliqueSearch → Option (Int × (List Int) × (List Int)) := fun self (a : GCliqueSearch) => mf_impl_cliqueSearch_visit self a

/-- How a search ends: within the budget, or one node above it. -/
def EndOk (B : Int) (ok : Bool) (nodes : Int) : Prop := (nodes ≤ B ∧ ok = true) ∨ (nodes = B + 1 ∧ ok = false)

theorem visit_same (p : GProblem) (h : ProbOk p) (ap B : Int) (hB : B ≤ 20000) : ∀ (D : Nat) (cs : List Nat) (best : List Int) (nodes : Int) (fr : Nat), p.Domains.length - fr + 1 ≤ D → fr ≤ p.Domains.length → (∀ c ∈ cs, c < p.Domains.length) → cs.length ≤ fr → ((cs = [] ∧ fr = 0) ∨ ∃ ds k, cs = ds ++ [k] ∧ fr = k + 1) → best.length ≤ 24 → 0 ≤ nodes → nodes ≤ B →
    ∃ (ok : Bool) (best' : List Int) (nodes' : Int), (∀ N, D ≤ N → iterM FS N (GL17Search.mk p ap (castL cs) best nodes B, (fr : Int)) = some (ok, castL cs, best', nodes') ∧ iterM FI N (GCliqueSearch.mk p ap (B - nodes) (castL cs) best) = some (B - nodes', castL cs, best')) ∧ best'.length ≤ 24 ∧ 0 ≤ nodes' ∧ EndOk B ok nodes' := by
  have hn := h.n2
  intro D
  induction D with
  | zero => intro cs best nodes fr hD; omega
  | succ D ihD =>
    intro cs best nodes fr hD hfr hcs hcl hst hbest hn0 hnB
    have w1 : w64 (nodes + 1) = nodes + 1 := w64_id (by omega) (by omega)
    have w2 : w64 (B - nodes - 1) = B - nodes - 1 := w64_id (by omega) (by omega)
    by_cases hbud : nodes = B
    · refine ⟨false, best, B + 1, fun N hN => ?_, hbest, by omega, .inr ⟨rfl, rfl⟩⟩
      obtain ⟨N', rfl⟩ : ∃ N', N = N' + 1 := Nat.exists_eq_succ_of_ne_zero (by clear hst; omega)
      constructor
      · show mf_spec_l17Search_visit (iterM FS N') _ _ = _
        unfold mf_spec_l17Search_visit
        simp only [w1, decide_eq_true (show B < nodes + 1 by omega), cond_true]
        rw [hbud]
      · show mf_impl_cliqueSearch_visit (iterM FI N') _ = _
        unfold mf_impl_cliqueSearch_visit
        simp only [w2, decide_eq_true (show B - nodes - 1 < 0 by omega), cond_true]
        rw [hbud]; congr 2; omega
    · -- the loop over the items
      have loop : ∀ (m i : Nat) (best : List Int) (nodes : Int), i + m = p.Domains.length → fr ≤ i → best.length ≤ 24 → 0 ≤ nodes → nodes ≤ B →
          ∃ (ok : Bool) (best' : List Int) (nodes' : Int), (∀ N, D ≤ N → ∀ (x : GL17Search) (y : GCliqueSearch), x.p = p → x.apart = ap → x.budget = B → y.problem = p → y.apart = ap →
            loopM (fun s : (Int × Int × (List Int) × (List Int)) => m_spec_l17Search_visit_B10 (iterM FS N) x s.1 s.2.1 s.2.2.1 s.2.2.2) ((i : Int), nodes, castL cs, best) = some (ok, castL cs, best', nodes') ∧
            loopM (fun s : (Int × Int × (List Int) × (List Int)) => m_impl_cliqueSearch_visit_B17 (iterM FI N) y s.1 s.2.1 s.2.2.1 s.2.2.2) ((i : Int), B - nodes, castL cs, best) = some (B - nodes', castL cs, best')) ∧ best'.length ≤ 24 ∧ 0 ≤ nodes' ∧ EndOk B ok nodes' := by
        intro m
        induction m with
        | zero =>
          intro i best nodes hi hfi hbest hn0 hnB
          have e : i = p.Domains.length := by omega
          subst e
          refine ⟨true, best, nodes, fun N hN x y x1 x2 x3 y1 y2 => ⟨loopM_inr ?_, loopM_inr ?_⟩, hbest, hn0, .inl ⟨hnB, rfl⟩⟩
          · simp only [m_spec_l17Search_visit_B10, x1, lt_self, cond_false, Option.map_some]
          · simp only [m_impl_cliqueSearch_visit_B17, y1, lt_self, cond_false, Option.map_some]
        | succ m ihm =>
          intro i best nodes hi hfi hbest hn0 hnB
          have hil : i < p.Domains.length := by omega
          have hw : w64 ((i : Int) + 1) = ((i + 1 : Nat) : Int) := by rw [w64_id (by omega) (by omega)]; omega
          cases hfar : farQ p ap cs i with
          | false =>
            obtain ⟨ok, best', nodes', r1, r2, r3, r4⟩ := ihm (i + 1) best nodes (by omega) (by omega) hbest hn0 hnB
            refine ⟨ok, best', nodes', fun N hN x y x1 x2 x3 y1 y2 => ?_, r2, r3, r4⟩
            obtain ⟨a1, a2⟩ := r1 N hN x y x1 x2 x3 y1 y2
            have f1 := farS p h ap x x1 x2 cs hcs (by omega) i hil
            refine ⟨(loopM_inl (s' := (((i + 1 : Nat) : Int), nodes, castL cs, best)) ?_).trans a1, (loopM_inl (s' := (((i + 1 : Nat) : Int), B - nodes, castL cs, best)) ?_).trans a2⟩
            · simp only [m_spec_l17Search_visit_B10, x1, lt_true hil, cond_true, f1, hfar, Option.bind_some, Bool.not_false, hw]
            · have f2 := farI p h ap (GCliqueSearch.mk y.problem y.apart (B - nodes) (castL cs) best) y1 y2 cs hcs (by omega) i hil
              simp only [m_impl_cliqueSearch_visit_B17, y1, lt_true hil, cond_true]
              rw [y1] at f2
              simp only [f2, hfar, Option.bind_some, Bool.not_false, cond_true, hw]
          | true =>
            obtain ⟨ok1, best1, nodes1, q1, q2, q3, q4⟩ := ihD (cs ++ [i]) best nodes (i + 1) (by omega) (by omega) (fun c hc => by
              rcases List.mem_append.1 hc with hc | hc
              · exact hcs c hc
              · rw [List.mem_singleton.1 hc]; exact hil) (by rw [List.length_append, List.length_singleton]; omega) (.inr ⟨cs, i, rfl, rfl⟩) hbest hn0 hnB
            have happ : appL 8 (castL cs) [(i : Int)] = some (castL (cs ++ [i])) := by
              rw [castL_app, appL_of]; rw [castL_len, List.length_singleton]; omega
            have hlen : w64 (((castL (cs ++ [i])).length : Int) - 1) = (cs.length : Int) := by
              rw [castL_len, List.length_append, List.length_singleton, w64_id (by omega) (by omega)]; omega
            have hcut : cutB (castL (cs ++ [i])) (cs.length : Int) = some () := by
              unfold cutB; rw [if_pos (by rw [castL_len, List.length_append, List.length_singleton]; omega)]
            have htake : (castL (cs ++ [i])).take cs.length = castL cs := by
              rw [castL_app, List.take_left' (castL_len cs)]
            rcases q4 with ⟨q4, rfl⟩ | ⟨q4, rfl⟩
            · obtain ⟨ok, best', nodes', r1, r2, r3, r4⟩ := ihm (i + 1) best1 nodes1 (by omega) (by omega) q2 q3 q4
              refine ⟨ok, best', nodes', fun N hN x y x1 x2 x3 y1 y2 => ?_, r2, r3, r4⟩
              obtain ⟨a1, a2⟩ := r1 N hN x y x1 x2 x3 y1 y2
              obtain ⟨b1, b2⟩ := q1 N hN
              have f1 := farS p h ap x x1 x2 cs hcs (by omega) i hil
              refine ⟨(loopM_inl (s' := (((i + 1 : Nat) : Int), nodes1, castL cs, best1)) ?_).trans a1, (loopM_inl (s' := (((i + 1 : Nat) : Int), B - nodes1, castL cs, best1)) ?_).trans a2⟩
              · simp only [m_spec_l17Search_visit_B10, x1, lt_true hil, cond_true, f1, hfar, Option.bind_some, Bool.not_true, cond_false, happ, x2, x3, hw, b1, hlen, hcut, Int.toNat_natCast, htake]
              · have f2 := farI p h ap (GCliqueSearch.mk y.problem y.apart (B - nodes) (castL cs) best) y1 y2 cs hcs (by omega) i hil
                rw [y1] at f2
                simp only [m_impl_cliqueSearch_visit_B17, y1, lt_true hil, cond_true, f2, hfar, Option.bind_some, Bool.not_true, cond_false, happ]
                rw [y2]
                simp only [b2, Option.bind_some, hlen, hcut, lt_false (show ¬ B - nodes1 < 0 by omega), cond_false, hw, Int.toNat_natCast, htake]
            · refine ⟨false, best1, nodes1, fun N hN x y x1 x2 x3 y1 y2 => ?_, q2, q3, .inr ⟨q4, rfl⟩⟩
              obtain ⟨b1, b2⟩ := q1 N hN
              have f1 := farS p h ap x x1 x2 cs hcs (by omega) i hil
              refine ⟨loopM_inr ?_, loopM_inr ?_⟩
              · simp only [m_spec_l17Search_visit_B10, x1, lt_true hil, cond_true, f1, hfar, Option.bind_some, Bool.not_true, cond_false, happ, x2, x3, hw, b1, hlen, hcut, Bool.not_false, Int.toNat_natCast, htake, Option.map_some]
              · have f2 := farI p h ap (GCliqueSearch.mk y.problem y.apart (B - nodes) (castL cs) best) y1 y2 cs hcs (by omega) i hil
                rw [y1] at f2
                simp only [m_impl_cliqueSearch_visit_B17, y1, lt_true hil, cond_true, f2, hfar, Option.bind_some, Bool.not_true, cond_false, happ]
                rw [y2]
                simp only [b2, Option.bind_some, hlen, hcut, decide_eq_true (show B - nodes1 < 0 by omega), cond_true, Int.toNat_natCast, htake, Option.map_some]
      -- the node itself
      have hcl24 : (castL cs).length ≤ 24 := by rw [castL_len]; omega
      obtain ⟨ok, best', nodes', r1, r2, r3, r4⟩ := loop (p.Domains.length - fr) fr (if best.length < (castL cs).length then castL cs else best) (nodes + 1) (Nat.add_sub_cancel' hfr) (Nat.le_refl _) (by split <;> assumption) (by clear hst; omega) (by clear hst; omega)
      refine ⟨ok, best', nodes', fun N hN => ?_, r2, r3, r4⟩
      obtain ⟨N', rfl⟩ : ∃ N', N = N' + 1 := Nat.exists_eq_succ_of_ne_zero (by clear hst; omega)
      have hown : appL 8 ([] : List Int) (castL cs) = some (castL cs) := own_eq _ (by omega)
      obtain ⟨a1, a2⟩ := r1 N' (by omega) (GL17Search.mk p ap (castL cs) best nodes B) (GCliqueSearch.mk p ap (B - nodes) (castL cs) best) rfl rfl rfl rfl rfl
      have ebest : ∀ k : List Int → Option (List Int), k (castL cs) = some (castL cs) → (bif (decide ((best.length : Int) < ((castL cs).length : Int))) then (k (castL cs)).bind fun x5 => some x5 else some best) = some (if best.length < (castL cs).length then castL cs else best) := by
        intro k hk
        by_cases c : best.length < (castL cs).length
        · rw [decide_eq_true (show (best.length : Int) < ((castL cs).length : Int) by omega), if_pos c, hk]; rfl
        · rw [decide_eq_false (show ¬ (best.length : Int) < ((castL cs).length : Int) by omega), if_neg c]; rfl
      constructor
      · show mf_spec_l17Search_visit (iterM FS N') _ _ = _
        unfold mf_spec_l17Search_visit
        simp only [w1, lt_false (show ¬ B < nodes + 1 by omega), cond_false]
        have e1 := ebest m_spec_l00Own (by unfold m_spec_l00Own; rw [hown]; rfl)
        simp only [e1, Option.bind_some]
        exact a1
      · show mf_impl_cliqueSearch_visit (iterM FI N') _ = _
        unfold mf_impl_cliqueSearch_visit
        simp only [w2, lt_false (show ¬ B - nodes - 1 < 0 by omega), cond_false]
        have e1 := ebest m_slices_Clone_int64_int64 (by unfold m_slices_Clone_int64_int64; rw [hown]; rfl)
        have e2 : ((bif (decide ((0 : Int) < ((castL cs).length : Int))) then ((idx (castL cs) (w64 (((castL cs).length : Int) - (1 : Int)))).bind fun x14 => some (w64 (x14 + (1 : Int)))) else some (0 : Int)) : Option Int) = some (fr : Int) := by
          rcases hst with ⟨e1, e2⟩ | ⟨ds, k, e1, e2⟩
          · subst e1; rw [e2]; rfl
          · subst e1
            have hl : (castL (ds ++ [k])).length = ds.length + 1 := by rw [castL_len, List.length_append, List.length_singleton]
            have hk : k < p.Domains.length := hcs k (by simp)
            have hw : w64 (((castL (ds ++ [k])).length : Int) - 1) = (ds.length : Int) := by rw [hl, w64_id (by omega) (by rw [List.length_append, List.length_singleton] at hcl; omega)]; omega
            have hg : idx (castL (ds ++ [k])) (ds.length : Int) = some (k : Int) := by
              rw [idx_lt_nat (by omega), castL_get (by omega)]; simp
            rw [decide_eq_true (show (0 : Int) < ((castL (ds ++ [k])).length : Int) by omega), hw, hg]
            simp only [cond_true, Option.bind_some]
            rw [w64_id (by omega) (by omega), e2]; rfl
        simp only [e1, e2, Option.bind_some]
        have e3 : B - (nodes + 1) = B - nodes - 1 := by omega
        rw [e3] at a2
        exact a2

end Go.Wk
