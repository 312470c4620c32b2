/-
  Plain law: ProblemOf. No program in sight. Our own work.
-/
import Derived.Test.YtipkpdobbeggnaaLawNeed
import Derived.Test.YtipkpdobbeggnaaLawTabOk
import Derived.Test.YtipkpdobbeggnaaLawRatios
import Derived.Test.YtipkpdobbeggnaaLawDom
import Derived.Test.YtipkpdobbeggnaaLawClone
import Derived.Test.YtipkpdobbeggnaaLawEnd
namespace Go.Wk
open Go Go.RowKit

theorem ratM_sqr (l : List (List Int)) (h : RowsOk l) : Sqr (ratM l) := by
  have := h.c2
  unfold Sqr ratM
  rw [matOf_len]
  refine ⟨this, fun i hi => ?_⟩
  rw [matOf_get hi]; simp

theorem probOf_same (R : List (List Int)) (hR : FitsSS R) (t : Int) (T : List Int) (hT : T.length ≤ 1048576) (D : List (List Int)) (hD : FitsSS D) : ∃ r c, m_spec_ProblemOf R t T D = some (r, c) ∧ m_impl_ProblemOf R t T D = some (r, c) ∧ FitsP r := by
  have hnil : FitsP (GProblem.mk [] []) := ⟨⟨by simp, by simp⟩, ⟨by simp, by simp⟩⟩
  have hD1 := hD.1
  unfold m_spec_ProblemOf m_impl_ProblemOf
  rw [rowsSpec_eq R hR, rowsImpl_eq R hR, tabSpec_eq T hT, tabImpl_eq T hT]
  cases hr : rowsOk R with
  | false => exact ⟨_, 1, rfl, rfl, hnil⟩
  | true =>
    cases tabOk T with
    | false => exact ⟨_, 1, rfl, rfl, hnil⟩
    | true =>
      have ho := rowsOk_true hr
      have hn1 := ho.n1
      have i0 : idx R (0 : Int) = some (R.getD 0 []) := idx_getD (k := 0) [] (by omega)
      have hc : m_slices_ContainsFunc_SSint64_int64 D (fun x => m_impl_ProblemOf_1 x) = some (D.any fun d => !domOk d) := containsFuncS_eq D _ (fun d => !domOk d) (fun d _ => by unfold m_impl_ProblemOf_1; rw [domImpl_eq]; rfl) (by omega)
      -- what both answer where all domains are right
      have key : ∃ rr : GProblem × Int, ((m_spec_l00In t (-200000 : Int) (200000 : Int)).bind fun x18 => (bif (!x18) then some ((GProblem.mk ([] : (List (List Int))) ([] : (List (List Int)))), (2 : Int)) else ((idx R (0 : Int)).bind fun x22 => (bif ((D.length : Int) != (x22.length : Int)) then some ((GProblem.mk ([] : (List (List Int))) ([] : (List (List Int)))), (6 : Int)) else ((m_spec_l17OwnLists D).bind fun x26 => ((m_spec_l16Pairs R).bind fun x29 => ((m_spec_l16Need x29 t T).bind fun x30 => some ((GProblem.mk x26 x30), (0 : Int))))))))) = some rr ∧
          ((m_impl_ratioOk t).bind fun x12 => (bif (!x12) then some ((GProblem.mk ([] : (List (List Int))) ([] : (List (List Int)))), (2 : Int)) else ((idx R (0 : Int)).bind fun x16 => (bif ((D.length : Int) != (x16.length : Int)) then some ((GProblem.mk ([] : (List (List Int))) ([] : (List (List Int)))), (6 : Int)) else ((m_impl_cloneLists D).bind fun x20 => ((m_impl_pairRatios R).bind fun x23 => ((m_impl_needMatrix x23 t T).bind fun x24 => some ((GProblem.mk x20 x24), (0 : Int))))))))) = some rr ∧ FitsP rr.1 := by
        unfold m_impl_ratioOk
        rw [in_eq, within_eq, i0]
        cases decide ((-200000 : Int) ≤ t ∧ t ≤ 200000) with
        | false => exact ⟨_, rfl, rfl, hnil⟩
        | true =>
          simp only [Option.bind_some, Bool.not_true, cond_false]
          cases ((D.length : Int) != ((R.getD 0 []).length : Int)) with
          | true => exact ⟨_, rfl, rfl, hnil⟩
          | false =>
            have hs := ratM_sqr R ho
            simp only [cond_false, ownLists_eq D hD, cloneLists_eq D hD, ratSpec_eq R ho, ratImpl_eq R ho, Option.bind_some, needSpec_eq (ratM R) hs t T hT, needImpl_eq (ratM R) hs t T hT]
            exact ⟨_, rfl, rfl, hD, needM_fits _ t T hs.1⟩
      obtain ⟨⟨r, c⟩, k1, k2, k3⟩ := key
      have spec := all_loop_g D.length (fun s : Int => m_spec_ProblemOf_B10 R t T D s) (fun k => domOk (D.getD k [])) (r, c) (GProblem.mk [] [], 1) 0 (by omega) (fun j h => absurd h (by omega)) (fun k _ hk hp => ?_) (fun _ => ?_)
      · rw [all_range_get D [] domOk] at spec
        have hany : (D.any fun d => !domOk d) = !(D.all domOk) := by
          rw [List.not_all_eq_any_not]
        simp only [Option.bind_some, Bool.not_true, cond_false, hc, hany, k2]
        have spec : loopM (fun s : Int => m_spec_ProblemOf_B10 R t T D s) (0 : Int) = _ := spec
        rw [spec]
        cases D.all domOk with
        | false => exact ⟨_, 1, rfl, rfl, hnil⟩
        | true => exact ⟨r, c, rfl, rfl, k3⟩
      · simp only [m_spec_ProblemOf_B10, lt_true hk, cond_true, idx_getD [] hk, Option.bind_some, domSpec_eq]
        rw [w64_id (n := (k : Int) + 1) (by omega) (by omega)]
        cases domOk (D.getD k []) <;> rfl
      · simp only [m_spec_ProblemOf_B10, lt_self, cond_false]
        rw [k1]; rfl

theorem law_FnExactProblemOf (R : List (List Int)) (t : Int) (T : List Int) (D : List (List Int)) (kR : R.length ≤ maxLen ∧ ∀ x ∈ R, (x.length ≤ maxLen ∧ ∀ xy ∈ x, ((Lit.int .i64 xy).wf = true))) (_kt : (Lit.int .i64 t).wf = true) (_kT : T.length ≤ maxLen ∧ ∀ x ∈ T, ((Lit.int .i64 x).wf = true)) (kD : D.length ≤ maxLen ∧ ∀ x ∈ D, (x.length ≤ maxLen ∧ ∀ xy ∈ x, ((Lit.int .i64 xy).wf = true))) : m_laws_FnExactProblemOf R t T D = some true := by
  unfold m_laws_FnExactProblemOf
  by_cases hT : T.length ≤ 1048576
  case neg => rw [decide_eq_true (show (1048576 : Int) < (T.length : Int) by omega)]; rfl
  rw [decide_eq_false (show ¬ (1048576 : Int) < (T.length : Int) by omega), cond_false]
  obtain ⟨r, hr, hc⟩ := szInt64SS_eq R 1048576 (by omega) (by omega) kR.1 (fun x hx => (kR.2 x hx).1)
  rw [hr, Option.bind_some]
  rcases hc with hc | ⟨hc, hc2, hR⟩
  · rw [decide_eq_true hc]; rfl
  rw [decide_eq_false (by omega), cond_false]
  obtain ⟨r2, hr2, hc'⟩ := szInt64SS_eq D r hc (by omega) kD.1 (fun x hx => (kD.2 x hx).1)
  rw [hr2, Option.bind_some]
  rcases hc' with hc' | ⟨hc', hc2', hD⟩
  · rw [decide_eq_true hc']; rfl
  rw [decide_eq_false (by omega), cond_false]
  obtain ⟨s, c, e1, e2, e3⟩ := probOf_same R hR t T hT D hD
  have h2 := fits_tot hR
  have h3 := fits_tot hD
  have h4 := hD.1
  simp only [toInt64SS_eq _ hR, toInt64SS_eq _ hD, toInt64S_eq _ hT, eqSS_self R hR, eqSS_self D hD, eq_len T hT, e1, e2, eqProblem_self s e3, Option.bind_some, bne_self, cond_false, Bool.not_true, markSS_1 R hR, markInt64S_eq T (1 + (tot R : Int)) (by omega) (by omega), markInt64SS_eq D (1 + (tot R : Int) + (T.length : Int)) (by omega) (by omega) (by omega), lt_false (show ¬ (1 + (tot R : Int) + (T.length : Int) + (tot D : Int) < 0) by omega), markP_1 s e3, heldP_1 s e3, pos_P s]
end Go.Wk
