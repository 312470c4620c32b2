/-
  The functions as pure Lean. Printed by our own program.
-/
import Derived.Test.YtmaahfokhfmmnaaMore
namespace Go.Wk
open Go Go.RowKit Go.Wk
set_option linter.unusedVariables false
structure GProblem where
  Domains : (List (List Int))
  Apart : (List (List Int))
abbrev cGProblem (b : GProblem) : List Pd := [(pSl 1 (cSl 1 (cK .i64)) b.Domains), (pSl 1 (cSl 1 (cK .i64)) b.Apart)]
abbrev okGProblem (b : GProblem) : Prop := (b.Domains.length ≤ maxLen ∧ ∀ x ∈ b.Domains, (x.length ≤ maxLen ∧ ∀ xy ∈ x, ((Lit.int .i64 xy).wf = true))) ∧ (b.Apart.length ≤ maxLen ∧ ∀ x ∈ b.Apart, (x.length ≤ maxLen ∧ ∀ xy ∈ x, ((Lit.int .i64 xy).wf = true)))
noncomputable def m_laws_toInt64S_B5 (a_0 : (List Int)) (v6 : Int) (v7 : (List Int)) : Option ((Int × (List Int)) ⊕ (List Int)) :=
  (bif (decide (v6 < (a_0.length : Int))) then ((idx a_0 v6).bind fun x9 => ((inB v7 v6).bind fun u10 => some (Sum.inl ((w64 (v6 + (1 : Int))), (v7.set (v6).toNat x9))))) else Option.map Sum.inr (some v7))
noncomputable def m_laws_toInt64S (a_0 : (List Int)) : Option (List Int) :=
  ((mkL 8 (a_0.length : Int) (0 : Int)).bind fun x1 => (((loopM (fun s : (Int × (List Int)) => m_laws_toInt64S_B5 a_0 s.1 s.2) ((0 : Int), x1)) : Option (List Int)).bind fun x4 => some x4))

noncomputable def m_spec_l00In (n_0 : Int) (low_1 : Int) (high_2 : Int) : Option Bool :=
  (((bif (decide (low_1 ≤ n_0)) then some (decide (n_0 ≤ high_2)) else some false) : Option Bool).bind fun x1 => some x1)

noncomputable def m_spec_l00Min (a_0 : Int) (b_1 : Int) : Option Int :=
  (bif (decide (a_0 < b_1)) then some a_0 else some b_1)

noncomputable def m_spec_l00Max (a_0 : Int) (b_1 : Int) : Option Int :=
  (bif (decide (b_1 < a_0)) then some a_0 else some b_1)

noncomputable def m_spec_SpanOf_B3 (list_0 : (List Int)) (v4 : Int) (v5 : Int) (v6 : Int) : Option ((Int × Int × Int) ⊕ Int) :=
  (bif (decide (v6 < (list_0.length : Int))) then ((idx list_0 v6).bind fun x8 => ((m_spec_l00In x8 (0 : Int) (999 : Int)).bind fun x9 => (bif (!x9) then Option.map Sum.inr (some (0 : Int)) else ((idx list_0 v6).bind fun x10 => ((m_spec_l00Min v4 x10).bind fun x11 => ((idx list_0 v6).bind fun x12 => ((m_spec_l00Max v5 x12).bind fun x13 => some (Sum.inl (x11, x13, (w64 (v6 + (1 : Int)))))))))))) else Option.map Sum.inr (some (w64 (v5 - v4))))
noncomputable def m_spec_SpanOf (list_0 : (List Int)) : Option Int :=
  (bif ((list_0.length : Int) == (0 : Int)) then some (0 : Int) else ((idx list_0 (0 : Int)).bind fun x1 => ((idx list_0 (0 : Int)).bind fun x2 => (loopM (fun s : (Int × Int × Int) => m_spec_SpanOf_B3 list_0 s.1 s.2.1 s.2.2) (x1, x2, (0 : Int))))))

noncomputable def m_impl_within (n_0 : Int) (low_1 : Int) (high_2 : Int) : Option Bool :=
  (((bif (decide (low_1 ≤ n_0)) then some (decide (n_0 ≤ high_2)) else some false) : Option Bool).bind fun x1 => some x1)

noncomputable def m_impl_allWithin_1 (n_0 : Int) (a_1 : Int) (a_2 : Int) : Option Bool :=
  ((m_impl_within n_0 a_1 a_2).bind fun x1 => some (!x1))

noncomputable def m_slices_IndexFunc_int64_int64_B1 (s_0 : (List Int)) (f_1 : (Int → Option Bool)) (v2 : Int) : Option (Int ⊕ Int) :=
  (bif (decide (v2 < (s_0.length : Int))) then ((idx s_0 v2).bind fun x4 => ((f_1 x4).bind fun x5 => (bif x5 then Option.map Sum.inr (some v2) else some (Sum.inl (w64 (v2 + (1 : Int))))))) else Option.map Sum.inr (some (-1 : Int)))
noncomputable def m_slices_IndexFunc_int64_int64 (s_0 : (List Int)) (f_1 : (Int → Option Bool)) : Option Int :=
  (loopM (fun s : Int => m_slices_IndexFunc_int64_int64_B1 s_0 f_1 s) (0 : Int))

noncomputable def m_slices_ContainsFunc_int64_int64 (s_0 : (List Int)) (f_1 : (Int → Option Bool)) : Option Bool :=
  ((m_slices_IndexFunc_int64_int64 s_0 f_1).bind fun x1 => some (decide ((0 : Int) ≤ x1)))

noncomputable def m_impl_allWithin (list_0 : (List Int)) (low_1 : Int) (high_2 : Int) : Option Bool :=
  ((m_slices_ContainsFunc_int64_int64 list_0 (fun x => m_impl_allWithin_1 x low_1 high_2)).bind fun x1 => some (!x1))

noncomputable def m_slices_Max_int64_int64_B5 (x_0 : (List Int)) (v6 : Int) (v7 : Int) : Option ((Int × Int) ⊕ Int) :=
  (bif (decide (v7 < (x_0.length : Int))) then ((idx x_0 v7).bind fun x9 => some (Sum.inl ((if x9 > v6 then x9 else v6), (w64 (v7 + (1 : Int)))))) else Option.map Sum.inr (some v6))
noncomputable def m_slices_Max_int64_int64 (x_0 : (List Int)) : Option Int :=
  (((bif (decide ((x_0.length : Int) < (1 : Int))) then (none : Option Unit) else some ()) : Option Unit).bind fun x1 => ((idx x_0 (0 : Int)).bind fun x3 => (((loopM (fun s : (Int × Int) => m_slices_Max_int64_int64_B5 x_0 s.1 s.2) (x3, (1 : Int))) : Option Int).bind fun x4 => some x4)))

noncomputable def m_slices_Min_int64_int64_B5 (x_0 : (List Int)) (v6 : Int) (v7 : Int) : Option ((Int × Int) ⊕ Int) :=
  (bif (decide (v7 < (x_0.length : Int))) then ((idx x_0 v7).bind fun x9 => some (Sum.inl ((if x9 < v6 then x9 else v6), (w64 (v7 + (1 : Int)))))) else Option.map Sum.inr (some v6))
noncomputable def m_slices_Min_int64_int64 (x_0 : (List Int)) : Option Int :=
  (((bif (decide ((x_0.length : Int) < (1 : Int))) then (none : Option Unit) else some ()) : Option Unit).bind fun x1 => ((idx x_0 (0 : Int)).bind fun x3 => (((loopM (fun s : (Int × Int) => m_slices_Min_int64_int64_B5 x_0 s.1 s.2) (x3, (1 : Int))) : Option Int).bind fun x4 => some x4)))

noncomputable def m_impl_SpanOf (list_0 : (List Int)) : Option Int :=
  (((bif ((list_0.length : Int) == (0 : Int)) then some true else ((m_impl_allWithin list_0 (0 : Int) (999 : Int)).bind fun x3 => some (!x3))) : Option Bool).bind fun x1 => (bif x1 then some (0 : Int) else ((m_slices_Max_int64_int64 list_0).bind fun x5 => ((m_slices_Min_int64_int64 list_0).bind fun x6 => some (w64 (x5 - x6))))))

noncomputable def m_laws_eqInt64S_B1 (a_0 : (List Int)) (b_1 : (List Int)) (v2 : Int) : Option (Int ⊕ Bool) :=
  (bif (decide (v2 < (a_0.length : Int))) then ((idx a_0 v2).bind fun x4 => ((idx b_1 v2).bind fun x5 => (bif (x4 != x5) then Option.map Sum.inr (some false) else some (Sum.inl (w64 (v2 + (1 : Int))))))) else Option.map Sum.inr (some true))
noncomputable def m_laws_eqInt64S (a_0 : (List Int)) (b_1 : (List Int)) : Option Bool :=
  (bif ((a_0.length : Int) != (b_1.length : Int)) then some false else (loopM (fun s : Int => m_laws_eqInt64S_B1 a_0 b_1 s) (0 : Int)))

noncomputable def m_laws_FnExactSpanOf (aList_0 : (List Int)) : Option Bool :=
  (bif (decide ((1048576 : Int) < (aList_0.length : Int))) then some true else ((m_laws_toInt64S aList_0).bind fun x1 => ((m_spec_SpanOf x1).bind fun x2 => ((m_laws_toInt64S aList_0).bind fun x3 => ((m_impl_SpanOf x3).bind fun x4 => (bif (x4 != x2) then some false else ((m_laws_toInt64S aList_0).bind fun x5 => ((m_laws_eqInt64S x3 x5).bind fun x6 => (bif (!x6) then some false else some true)))))))))

noncomputable def m_laws_szInt64S (a_0 : (List Int)) (left_1 : Int) : Option Int :=
  (bif (decide ((w64 (left_1 - (a_0.length : Int))) < (0 : Int))) then some (-1 : Int) else some (w64 (left_1 - (a_0.length : Int))))

noncomputable def m_laws_szInt64SS_B1 (a_0 : (List (List Int))) (v2 : Int) (v3 : Int) : Option ((Int × Int) ⊕ Int) :=
  (bif (decide (v3 < (a_0.length : Int))) then ((idx a_0 v3).bind fun x5 => ((m_laws_szInt64S x5 v2).bind fun x6 => (bif (decide (x6 < (0 : Int))) then Option.map Sum.inr (some (-1 : Int)) else some (Sum.inl (x6, (w64 (v3 + (1 : Int)))))))) else Option.map Sum.inr (some v2))
noncomputable def m_laws_szInt64SS (a_0 : (List (List Int))) (left_1 : Int) : Option Int :=
  (bif (decide ((w64 (left_1 - (a_0.length : Int))) < (0 : Int))) then some (-1 : Int) else (loopM (fun s : (Int × Int) => m_laws_szInt64SS_B1 a_0 s.1 s.2) ((w64 (left_1 - (a_0.length : Int))), (0 : Int))))

noncomputable def m_laws_szProblem (a_0 : GProblem) (left_1 : Int) : Option Int :=
  ((m_laws_szInt64SS a_0.Domains left_1).bind fun x1 => (bif (decide (x1 < (0 : Int))) then some (-1 : Int) else ((m_laws_szInt64SS a_0.Apart x1).bind fun x2 => (bif (decide (x2 < (0 : Int))) then some (-1 : Int) else some x2))))

noncomputable def m_laws_toInt64SS_B5 (a_0 : (List (List Int))) (v6 : Int) (v7 : (List (List Int))) : Option ((Int × (List (List Int))) ⊕ (List (List Int))) :=
  (bif (decide (v6 < (a_0.length : Int))) then ((idx a_0 v6).bind fun x9 => ((m_laws_toInt64S x9).bind fun x10 => ((inB v7 v6).bind fun u13 => some (Sum.inl ((w64 (v6 + (1 : Int))), (v7.set (v6).toNat x10)))))) else Option.map Sum.inr (some v7))
noncomputable def m_laws_toInt64SS (a_0 : (List (List Int))) : Option (List (List Int)) :=
  ((mkL 24 (a_0.length : Int) ([] : (List Int))).bind fun x1 => (((loopM (fun s : (Int × (List (List Int))) => m_laws_toInt64SS_B5 a_0 s.1 s.2) ((0 : Int), x1)) : Option (List (List Int))).bind fun x4 => some x4))

noncomputable def m_laws_toProblem (a_0 : GProblem) : Option GProblem :=
  ((m_laws_toInt64SS a_0.Domains).bind fun x3 => ((m_laws_toInt64SS a_0.Apart).bind fun x7 => some (GProblem.mk x3 x7)))

noncomputable def m_spec_l00Same_B1 (a_0 : (List Int)) (b_1 : (List Int)) (v2 : Int) : Option (Int ⊕ Bool) :=
  (bif (decide (v2 < (a_0.length : Int))) then ((idx a_0 v2).bind fun x4 => ((idx b_1 v2).bind fun x5 => (bif (x4 != x5) then Option.map Sum.inr (some false) else some (Sum.inl (w64 (v2 + (1 : Int))))))) else Option.map Sum.inr (some true))
noncomputable def m_spec_l00Same (a_0 : (List Int)) (b_1 : (List Int)) : Option Bool :=
  (bif ((a_0.length : Int) != (b_1.length : Int)) then some false else (loopM (fun s : Int => m_spec_l00Same_B1 a_0 b_1 s) (0 : Int)))

noncomputable def m_spec_l17Lists_B1 (a_0 : (List (List Int))) (b_1 : (List (List Int))) (v2 : Int) : Option (Int ⊕ Bool) :=
  (bif (decide (v2 < (a_0.length : Int))) then ((idx a_0 v2).bind fun x4 => ((idx b_1 v2).bind fun x5 => ((m_spec_l00Same x4 x5).bind fun x6 => (bif (!x6) then Option.map Sum.inr (some false) else some (Sum.inl (w64 (v2 + (1 : Int)))))))) else Option.map Sum.inr (some true))
noncomputable def m_spec_l17Lists (a_0 : (List (List Int))) (b_1 : (List (List Int))) : Option Bool :=
  (bif ((a_0.length : Int) != (b_1.length : Int)) then some false else (loopM (fun s : Int => m_spec_l17Lists_B1 a_0 b_1 s) (0 : Int)))

noncomputable def m_spec_SameProblem (a_0 : GProblem) (b_1 : GProblem) : Option Bool :=
  ((((m_spec_l17Lists a_0.Domains b_1.Domains).bind fun x2 => (bif x2 then ((m_spec_l17Lists a_0.Apart b_1.Apart).bind fun x4 => some x4) else some false)) : Option Bool).bind fun x1 => some x1)

noncomputable def m_slices_EqualFunc_SSint64_SSint64_int64_int64_B1 (s1_0 : (List (List Int))) (s2_1 : (List (List Int))) (eq_2 : (((List Int) × (List Int)) → Option Bool)) (v2 : Int) : Option (Int ⊕ Bool) :=
  (bif (decide (v2 < (s1_0.length : Int))) then ((idx s1_0 v2).bind fun x4 => ((idx s2_1 v2).bind fun x5 => ((eq_2 (x4, x5)).bind fun x6 => (bif (!x6) then Option.map Sum.inr (some false) else some (Sum.inl (w64 (v2 + (1 : Int)))))))) else Option.map Sum.inr (some true))
noncomputable def m_slices_EqualFunc_SSint64_SSint64_int64_int64 (s1_0 : (List (List Int))) (s2_1 : (List (List Int))) (eq_2 : (((List Int) × (List Int)) → Option Bool)) : Option Bool :=
  (bif ((s1_0.length : Int) != (s2_1.length : Int)) then some false else (loopM (fun s : Int => m_slices_EqualFunc_SSint64_SSint64_int64_int64_B1 s1_0 s2_1 eq_2 s) (0 : Int)))

noncomputable def m_slices_Equal_int64_int64_B1 (s1_0 : (List Int)) (s2_1 : (List Int)) (v2 : Int) : Option (Int ⊕ Bool) :=
  (bif (decide (v2 < (s1_0.length : Int))) then ((idx s1_0 v2).bind fun x4 => ((idx s2_1 v2).bind fun x5 => (bif (x4 != x5) then Option.map Sum.inr (some false) else some (Sum.inl (w64 (v2 + (1 : Int))))))) else Option.map Sum.inr (some true))
noncomputable def m_slices_Equal_int64_int64 (s1_0 : (List Int)) (s2_1 : (List Int)) : Option Bool :=
  (bif ((s1_0.length : Int) != (s2_1.length : Int)) then some false else (loopM (fun s : Int => m_slices_Equal_int64_int64_B1 s1_0 s2_1 s) (0 : Int)))

noncomputable def m_impl_SameProblem (a_0 : GProblem) (b_1 : GProblem) : Option Bool :=
  ((((m_slices_EqualFunc_SSint64_SSint64_int64_int64 a_0.Domains b_1.Domains (fun x => m_slices_Equal_int64_int64 x.1 x.2)).bind fun x2 => (bif x2 then ((m_slices_EqualFunc_SSint64_SSint64_int64_int64 a_0.Apart b_1.Apart (fun x => m_slices_Equal_int64_int64 x.1 x.2)).bind fun x4 => some x4) else some false)) : Option Bool).bind fun x1 => some x1)

noncomputable def m_laws_eqInt64SS_B1 (a_0 : (List (List Int))) (b_1 : (List (List Int))) (v2 : Int) : Option (Int ⊕ Bool) :=
  (bif (decide (v2 < (a_0.length : Int))) then ((idx a_0 v2).bind fun x4 => ((idx b_1 v2).bind fun x5 => ((m_laws_eqInt64S x4 x5).bind fun x6 => (bif (!x6) then Option.map Sum.inr (some false) else some (Sum.inl (w64 (v2 + (1 : Int)))))))) else Option.map Sum.inr (some true))
noncomputable def m_laws_eqInt64SS (a_0 : (List (List Int))) (b_1 : (List (List Int))) : Option Bool :=
  (bif ((a_0.length : Int) != (b_1.length : Int)) then some false else (loopM (fun s : Int => m_laws_eqInt64SS_B1 a_0 b_1 s) (0 : Int)))

noncomputable def m_laws_eqProblem (a_0 : GProblem) (b_1 : GProblem) : Option Bool :=
  ((m_laws_eqInt64SS a_0.Domains b_1.Domains).bind fun x1 => (bif (!x1) then some false else ((m_laws_eqInt64SS a_0.Apart b_1.Apart).bind fun x2 => (bif (!x2) then some false else some true))))

noncomputable def m_laws_FnExactSameProblem (aA_0 : GProblem) (aB_1 : GProblem) : Option Bool :=
  ((m_laws_szProblem aA_0 (1048576 : Int)).bind fun x1 => (bif (decide (x1 < (0 : Int))) then some true else ((m_laws_szProblem aB_1 x1).bind fun x2 => (bif (decide (x2 < (0 : Int))) then some true else ((m_laws_toProblem aA_0).bind fun x3 => ((m_laws_toProblem aB_1).bind fun x4 => ((m_spec_SameProblem x3 x4).bind fun x5 => ((m_laws_toProblem aA_0).bind fun x6 => ((m_laws_toProblem aB_1).bind fun x9 => ((m_impl_SameProblem x6 x9).bind fun x12 => (bif (x12 != x5) then some false else ((m_laws_toProblem aA_0).bind fun x13 => ((m_laws_eqProblem x6 x13).bind fun x14 => (bif (!x14) then some false else ((m_laws_toProblem aB_1).bind fun x15 => ((m_laws_eqProblem x9 x15).bind fun x16 => (bif (!x16) then some false else some true)))))))))))))))))

noncomputable def m_spec_l00Rises_B1 (list_0 : (List Int)) (low_1 : Int) (high_2 : Int) (v2 : Int) : Option (Int ⊕ Bool) :=
  (bif (decide (v2 < (list_0.length : Int))) then ((((idx list_0 v2).bind fun x5 => ((m_spec_l00In x5 low_1 high_2).bind fun x6 => (bif (!x6) then some true else (bif (decide ((0 : Int) < v2)) then ((idx list_0 (w64 (v2 - (1 : Int)))).bind fun x9 => ((idx list_0 v2).bind fun x10 => some (decide (x10 ≤ x9)))) else some false)))) : Option Bool).bind fun x4 => (bif x4 then Option.map Sum.inr (some false) else some (Sum.inl (w64 (v2 + (1 : Int)))))) else Option.map Sum.inr (some true))
noncomputable def m_spec_l00Rises (list_0 : (List Int)) (low_1 : Int) (high_2 : Int) : Option Bool :=
  (loopM (fun s : Int => m_spec_l00Rises_B1 list_0 low_1 high_2 s) (0 : Int))

noncomputable def m_spec_l17Domain (list_0 : (List Int)) : Option Bool :=
  (((bif (decide ((0 : Int) < (list_0.length : Int))) then (bif (decide ((list_0.length : Int) ≤ (32 : Int))) then ((m_spec_l00Rises list_0 (0 : Int) (999 : Int)).bind fun x4 => some x4) else some false) else some false) : Option Bool).bind fun x1 => some x1)

noncomputable def m_spec_l17Ok_B17 (a_0 : GProblem) (v6 : Int) (v18 : Int) : Option (Int ⊕ (Int ⊕ Bool)) :=
  (bif (decide (v18 < (a_0.Domains.length : Int))) then ((((idx a_0.Apart v6).bind fun x21 => ((idx x21 v18).bind fun x22 => ((m_spec_l00In x22 (0 : Int) (100 : Int)).bind fun x23 => (bif (!x23) then some true else (bif (decide (v18 < v6)) then ((idx a_0.Apart v18).bind fun x26 => ((idx x26 v6).bind fun x27 => ((idx a_0.Apart v6).bind fun x28 => ((idx x28 v18).bind fun x29 => some (x27 != x29))))) else some false))))) : Option Bool).bind fun x20 => (bif x20 then Option.map Sum.inr (Option.map Sum.inr (some false)) else some (Sum.inl (w64 (v18 + (1 : Int)))))) else Option.map Sum.inr (some (Sum.inl (w64 (v6 + (1 : Int))))))
noncomputable def m_spec_l17Ok_B5 (a_0 : GProblem) (v6 : Int) : Option (Int ⊕ Bool) :=
  (bif (decide (v6 < (a_0.Domains.length : Int))) then ((((idx a_0.Domains v6).bind fun x9 => ((m_spec_l17Domain x9).bind fun x10 => (bif (!x10) then some true else ((idx a_0.Apart v6).bind fun x12 => (bif ((x12.length : Int) != (a_0.Domains.length : Int)) then some true else ((idx a_0.Apart v6).bind fun x14 => ((idx x14 v6).bind fun x15 => some (x15 != (0 : Int))))))))) : Option Bool).bind fun x8 => (bif x8 then Option.map Sum.inr (some false) else (loopM (fun s : Int => m_spec_l17Ok_B17 a_0 v6 s) (0 : Int)))) else Option.map Sum.inr (some true))
noncomputable def m_spec_l17Ok (a_0 : GProblem) : Option Bool :=
  (((bif (decide ((a_0.Domains.length : Int) < (1 : Int))) then some true else (bif (decide ((24 : Int) < (a_0.Domains.length : Int))) then some true else some ((a_0.Apart.length : Int) != (a_0.Domains.length : Int)))) : Option Bool).bind fun x1 => (bif x1 then some false else (loopM (fun s : Int => m_spec_l17Ok_B5 a_0 s) (0 : Int))))

noncomputable def m_spec_ValidProblem (p_0 : GProblem) : Option Bool :=
  ((m_spec_l17Ok p_0).bind fun x1 => some x1)

noncomputable def m_slices_IndexFunc_SSint64_int64_B1 (s_0 : (List (List Int))) (f_1 : ((List Int) → Option Bool)) (v2 : Int) : Option (Int ⊕ Int) :=
  (bif (decide (v2 < (s_0.length : Int))) then ((idx s_0 v2).bind fun x4 => ((f_1 x4).bind fun x5 => (bif x5 then Option.map Sum.inr (some v2) else some (Sum.inl (w64 (v2 + (1 : Int))))))) else Option.map Sum.inr (some (-1 : Int)))
noncomputable def m_slices_IndexFunc_SSint64_int64 (s_0 : (List (List Int))) (f_1 : ((List Int) → Option Bool)) : Option Int :=
  (loopM (fun s : Int => m_slices_IndexFunc_SSint64_int64_B1 s_0 f_1 s) (0 : Int))

noncomputable def m_slices_ContainsFunc_SSint64_int64 (s_0 : (List (List Int))) (f_1 : ((List Int) → Option Bool)) : Option Bool :=
  ((m_slices_IndexFunc_SSint64_int64 s_0 f_1).bind fun x1 => some (decide ((0 : Int) ≤ x1)))

noncomputable def m_impl_increasing_B1 (list_0 : (List Int)) (v2 : Int) : Option (Int ⊕ Bool) :=
  (bif (decide (v2 < (list_0.length : Int))) then ((idx list_0 v2).bind fun x4 => ((idx list_0 (w64 (v2 - (1 : Int)))).bind fun x5 => (bif (decide (x4 ≤ x5)) then Option.map Sum.inr (some false) else some (Sum.inl (w64 (v2 + (1 : Int))))))) else Option.map Sum.inr (some true))
noncomputable def m_impl_increasing (list_0 : (List Int)) : Option Bool :=
  (loopM (fun s : Int => m_impl_increasing_B1 list_0 s) (1 : Int))

noncomputable def m_impl_domainOk (domain_0 : (List Int)) : Option Bool :=
  (((bif (decide ((1 : Int) ≤ (domain_0.length : Int))) then (bif (decide ((domain_0.length : Int) ≤ (32 : Int))) then ((m_impl_increasing domain_0).bind fun x4 => (bif x4 then ((m_impl_allWithin domain_0 (0 : Int) (999 : Int)).bind fun x6 => some x6) else some false)) else some false) else some false) : Option Bool).bind fun x1 => some x1)

noncomputable def m_impl_domainsOk_1 (d_0 : (List Int)) : Option Bool :=
  ((m_impl_domainOk d_0).bind fun x1 => some (!x1))

noncomputable def m_impl_domainsOk (domains_0 : (List (List Int))) : Option Bool :=
  (((bif (decide ((1 : Int) ≤ (domains_0.length : Int))) then (bif (decide ((domains_0.length : Int) ≤ (24 : Int))) then ((m_slices_ContainsFunc_SSint64_int64 domains_0 (fun x => m_impl_domainsOk_1 x)).bind fun x4 => some (!x4)) else some false) else some false) : Option Bool).bind fun x1 => some x1)

noncomputable def m_impl_ValidProblem_B15 (p_0 : GProblem) (v6 : Int) (x8 : (List Int)) (v16 : Int) : Option (Int ⊕ (Int ⊕ Bool)) :=
  (bif (decide (v16 < v6)) then ((idx x8 v16).bind fun x18 => ((idx p_0.Apart v16).bind fun x19 => ((idx x19 v6).bind fun x20 => (bif (x18 != x20) then Option.map Sum.inr (Option.map Sum.inr (some false)) else some (Sum.inl (w64 (v16 + (1 : Int)))))))) else Option.map Sum.inr (some (Sum.inl (w64 (v6 + (1 : Int))))))
noncomputable def m_impl_ValidProblem_B5 (p_0 : GProblem) (v6 : Int) : Option (Int ⊕ Bool) :=
  (bif (decide (v6 < (p_0.Apart.length : Int))) then ((idx p_0.Apart v6).bind fun x8 => (((bif ((x8.length : Int) != (p_0.Domains.length : Int)) then some true else ((m_impl_allWithin x8 (0 : Int) (100 : Int)).bind fun x11 => (bif (!x11) then some true else ((idx x8 v6).bind fun x13 => some (x13 != (0 : Int)))))) : Option Bool).bind fun x9 => (bif x9 then Option.map Sum.inr (some false) else (loopM (fun s : Int => m_impl_ValidProblem_B15 p_0 v6 x8 s) (0 : Int))))) else Option.map Sum.inr (some true))
noncomputable def m_impl_ValidProblem (p_0 : GProblem) : Option Bool :=
  ((((m_impl_domainsOk p_0.Domains).bind fun x2 => (bif (!x2) then some true else some ((p_0.Apart.length : Int) != (p_0.Domains.length : Int)))) : Option Bool).bind fun x1 => (bif x1 then some false else (loopM (fun s : Int => m_impl_ValidProblem_B5 p_0 s) (0 : Int))))

noncomputable def m_laws_FnExactValidProblem (aP_0 : GProblem) : Option Bool :=
  ((m_laws_szProblem aP_0 (1048576 : Int)).bind fun x1 => (bif (decide (x1 < (0 : Int))) then some true else ((m_laws_toProblem aP_0).bind fun x2 => ((m_spec_ValidProblem x2).bind fun x3 => ((m_laws_toProblem aP_0).bind fun x4 => ((m_impl_ValidProblem x4).bind fun x7 => (bif (x7 != x3) then some false else ((m_laws_toProblem aP_0).bind fun x8 => ((m_laws_eqProblem x4 x8).bind fun x9 => (bif (!x9) then some false else some true))))))))))

noncomputable def m_spec_l17Item (p_0 : GProblem) (item_1 : Int) : Option Bool :=
  ((m_spec_l00In item_1 (0 : Int) (w64 ((p_0.Domains.length : Int) - (1 : Int)))).bind fun x1 => some x1)

noncomputable def m_spec_l17Degree_B2 (p_0 : GProblem) (item_1 : Int) (v3 : Int) (v4 : Int) : Option ((Int × Int) ⊕ Int) :=
  (bif (decide (v4 < (p_0.Apart.length : Int))) then ((idx p_0.Apart item_1).bind fun x6 => ((idx x6 v4).bind fun x7 => some (Sum.inl ((w64 (v3 + x7)), (w64 (v4 + (1 : Int))))))) else Option.map Sum.inr (some v3))
noncomputable def m_spec_l17Degree (p_0 : GProblem) (item_1 : Int) : Option Int :=
  (((loopM (fun s : (Int × Int) => m_spec_l17Degree_B2 p_0 item_1 s.1 s.2) ((0 : Int), (0 : Int))) : Option Int).bind fun x1 => some x1)

noncomputable def m_spec_DegreeOf (p_0 : GProblem) (item_1 : Int) : Option (Int × Int) :=
  ((m_spec_l17Ok p_0).bind fun x1 => (bif (!x1) then some ((0 : Int), (1 : Int)) else ((m_spec_l17Item p_0 item_1).bind fun x2 => (bif (!x2) then some ((0 : Int), (2 : Int)) else ((m_spec_l17Degree p_0 item_1).bind fun x3 => some (x3, (0 : Int)))))))

noncomputable def m_impl_indexValid_int64 (list_0 : (List (List Int))) (k_1 : Int) : Option Bool :=
  ((m_impl_within k_1 (0 : Int) (w64 ((list_0.length : Int) - (1 : Int)))).bind fun x1 => some x1)

noncomputable def m_impl_Problem_hasItem (p_0 : GProblem) (i_1 : Int) : Option Bool :=
  ((m_impl_indexValid_int64 p_0.Domains i_1).bind fun x1 => some x1)

noncomputable def m_impl_Problem_degree_B3 (x1 : (List Int)) (v4 : Int) (v5 : Int) : Option ((Int × Int) ⊕ Int) :=
  (bif (decide (v5 < (x1.length : Int))) then ((idx x1 v5).bind fun x7 => some (Sum.inl ((w64 (v4 + x7)), (w64 (v5 + (1 : Int)))))) else Option.map Sum.inr (some v4))
noncomputable def m_impl_Problem_degree (p_0 : GProblem) (item_1 : Int) : Option Int :=
  ((idx p_0.Apart item_1).bind fun x1 => (((loopM (fun s : (Int × Int) => m_impl_Problem_degree_B3 x1 s.1 s.2) ((0 : Int), (0 : Int))) : Option Int).bind fun x2 => some x2))

noncomputable def m_impl_DegreeOf (p_0 : GProblem) (item_1 : Int) : Option (Int × Int) :=
  ((m_impl_ValidProblem p_0).bind fun x1 => (bif (!x1) then some ((0 : Int), (1 : Int)) else ((m_impl_Problem_hasItem p_0 item_1).bind fun x2 => (bif (!x2) then some ((0 : Int), (2 : Int)) else ((m_impl_Problem_degree p_0 item_1).bind fun x3 => some (x3, (0 : Int)))))))

noncomputable def m_laws_FnExactDegreeOf (aP_0 : GProblem) (aItem_1 : Int) : Option Bool :=
  ((m_laws_szProblem aP_0 (1048576 : Int)).bind fun x1 => (bif (decide (x1 < (0 : Int))) then some true else ((m_laws_toProblem aP_0).bind fun x2 => ((m_spec_DegreeOf x2 aItem_1).bind fun x3 => ((m_laws_toProblem aP_0).bind fun x4 => ((m_impl_DegreeOf x4 aItem_1).bind fun x7 => (((bif (x7.1 != x3.1) then some true else some (x7.2 != x3.2)) : Option Bool).bind fun x8 => (bif x8 then some false else ((m_laws_toProblem aP_0).bind fun x11 => ((m_laws_eqProblem x4 x11).bind fun x12 => (bif (!x12) then some false else some true)))))))))))

noncomputable def m_spec_l00Own (list_0 : (List Int)) : Option (List Int) :=
  ((appL 8 ([] : (List Int)) list_0).bind fun x3 => some x3)

noncomputable def m_spec_l17OwnLists_B4 (a_0 : (List (List Int))) (v5 : Int) (v6 : (List (List Int))) : Option ((Int × (List (List Int))) ⊕ (List (List Int))) :=
  (bif (decide (v5 < (a_0.length : Int))) then ((idx a_0 v5).bind fun x8 => ((m_spec_l00Own x8).bind fun x9 => ((appL 24 v6 [x9]).bind fun x14 => some (Sum.inl ((w64 (v5 + (1 : Int))), x14))))) else Option.map Sum.inr (some v6))
noncomputable def m_spec_l17OwnLists (a_0 : (List (List Int))) : Option (List (List Int)) :=
  (((loopM (fun s : (Int × (List (List Int))) => m_spec_l17OwnLists_B4 a_0 s.1 s.2) ((0 : Int), ([] : (List (List Int))))) : Option (List (List Int))).bind fun x3 => some x3)

noncomputable def m_spec_MakeProblem_B29 (a_0 : (List (List Int))) (a_1 : (List (List Int))) (x6 : (List (List Int))) (v30 : Int) (v31 : (List (List Int))) : Option ((Int × (List (List Int))) ⊕ (GProblem × Int)) :=
  (bif (decide (v30 < (a_1.length : Int))) then ((idx a_1 v30).bind fun x33 => (((bif ((x33.length : Int) != (3 : Int)) then some true else ((idx x33 (0 : Int)).bind fun x36 => ((m_spec_l00In x36 (0 : Int) (w64 ((a_0.length : Int) - (1 : Int)))).bind fun x37 => (bif (!x37) then some true else ((idx x33 (1 : Int)).bind fun x39 => ((m_spec_l00In x39 (0 : Int) (w64 ((a_0.length : Int) - (1 : Int)))).bind fun x40 => (bif (!x40) then some true else ((idx x33 (0 : Int)).bind fun x42 => ((idx x33 (1 : Int)).bind fun x43 => (bif (x42 == x43) then some true else ((idx x33 (2 : Int)).bind fun x45 => ((m_spec_l00In x45 (0 : Int) (100 : Int)).bind fun x46 => some (!x46))))))))))))) : Option Bool).bind fun x34 => (bif x34 then Option.map Sum.inr (some ((GProblem.mk ([] : (List (List Int))) ([] : (List (List Int)))), (2 : Int))) else ((idx x33 (2 : Int)).bind fun x51 => ((idx x33 (0 : Int)).bind fun x52 => ((idx v31 x52).bind fun x53 => ((idx x33 (1 : Int)).bind fun x54 => ((idx x53 x54).bind fun x55 => ((m_spec_l00Max x51 x55).bind fun x56 => ((idx x33 (0 : Int)).bind fun x57 => ((idx v31 x57).bind fun x58 => ((idx x33 (1 : Int)).bind fun x59 => ((inB x58 x59).bind fun u60 => ((idx x33 (1 : Int)).bind fun x62 => ((idx (v31.set (x57).toNat (x58.set (x59).toNat x56)) x62).bind fun x63 => ((idx x33 (0 : Int)).bind fun x64 => ((inB x63 x64).bind fun u65 => some (Sum.inl ((w64 (v30 + (1 : Int))), ((v31.set (x57).toNat (x58.set (x59).toNat x56)).set (x62).toNat (x63.set (x64).toNat x56))))))))))))))))))))) else Option.map Sum.inr (some ((GProblem.mk x6 v31), (0 : Int))))
noncomputable def m_spec_MakeProblem_B12 (a_0 : (List (List Int))) (a_1 : (List (List Int))) (x6 : (List (List Int))) (v13 : Int) (v14 : (List (List Int))) : Option ((Int × (List (List Int))) ⊕ (GProblem × Int)) :=
  (bif (decide (v13 < (a_0.length : Int))) then ((idx a_0 v13).bind fun x16 => ((m_spec_l17Domain x16).bind fun x17 => (bif (!x17) then Option.map Sum.inr (some ((GProblem.mk ([] : (List (List Int))) ([] : (List (List Int)))), (1 : Int))) else ((mkL 8 (a_0.length : Int) (0 : Int)).bind fun x21 => ((appL 24 v14 [x21]).bind fun x26 => some (Sum.inl ((w64 (v13 + (1 : Int))), x26))))))) else Option.map Sum.inr ((loopM (fun s : (Int × (List (List Int))) => m_spec_MakeProblem_B29 a_0 a_1 x6 s.1 s.2) ((0 : Int), v14))))
noncomputable def m_spec_MakeProblem (a_0 : (List (List Int))) (a_1 : (List (List Int))) : Option (GProblem × Int) :=
  ((m_spec_l00In (a_0.length : Int) (1 : Int) (24 : Int)).bind fun x2 => (bif (!x2) then some ((GProblem.mk ([] : (List (List Int))) ([] : (List (List Int)))), (1 : Int)) else ((m_spec_l17OwnLists a_0).bind fun x6 => (loopM (fun s : (Int × (List (List Int))) => m_spec_MakeProblem_B12 a_0 a_1 x6 s.1 s.2) ((0 : Int), ([] : (List (List Int))))))))

noncomputable def m_slices_Clone_int64_int64 (s_0 : (List Int)) : Option (List Int) :=
  ((appL 8 ([] : (List Int)) s_0).bind fun x4 => some x4)

noncomputable def m_impl_cloneLists_B3 (lists_0 : (List (List Int))) (v4 : Int) (v5 : (List (List Int))) : Option ((Int × (List (List Int))) ⊕ (List (List Int))) :=
  (bif (decide (v4 < (lists_0.length : Int))) then ((idx lists_0 v4).bind fun x7 => ((m_slices_Clone_int64_int64 x7).bind fun x8 => ((appL 24 v5 [x8]).bind fun x13 => some (Sum.inl ((w64 (v4 + (1 : Int))), x13))))) else Option.map Sum.inr (some v5))
noncomputable def m_impl_cloneLists (lists_0 : (List (List Int))) : Option (List (List Int)) :=
  (((loopM (fun s : (Int × (List (List Int))) => m_impl_cloneLists_B3 lists_0 s.1 s.2) ((0 : Int), ([] : (List (List Int))))) : Option (List (List Int))).bind fun x2 => some x2)

noncomputable def m_impl_Problem_tighten (p_0 : GProblem) (a_1 : Int) (b_2 : Int) (apart_3 : Int) : Option (List (List Int)) :=
  ((idx p_0.Apart a_1).bind fun x3 => ((idx p_0.Apart a_1).bind fun x4 => ((idx x4 b_2).bind fun x5 => ((inB x3 b_2).bind fun u6 => ((idx (p_0.Apart.set (a_1).toNat (x3.set (b_2).toNat (if apart_3 > x5 then apart_3 else x5))) b_2).bind fun x8 => ((idx (p_0.Apart.set (a_1).toNat (x3.set (b_2).toNat (if apart_3 > x5 then apart_3 else x5))) a_1).bind fun x9 => ((idx x9 b_2).bind fun x10 => ((inB x8 a_1).bind fun u11 => some ((p_0.Apart.set (a_1).toNat (x3.set (b_2).toNat (if apart_3 > x5 then apart_3 else x5))).set (b_2).toNat (x8.set (a_1).toNat x10))))))))))

noncomputable def m_impl_MakeProblem_B13 (a_0 : (List (List Int))) (v14 : Int) (v15 : (List (List Int))) : Option ((Int × (List (List Int))) ⊕ (List (List Int))) :=
  (bif (decide (v14 < (a_0.length : Int))) then ((mkL 8 (a_0.length : Int) (0 : Int)).bind fun x17 => ((appL 24 v15 [x17]).bind fun x22 => some (Sum.inl ((w64 (v14 + (1 : Int))), x22)))) else Option.map Sum.inr (some v15))
noncomputable def m_impl_MakeProblem_B26 (a_1 : (List (List Int))) (x6 : (List (List Int))) (v27 : Int) (v28 : (List (List Int))) : Option ((Int × (List (List Int))) ⊕ (GProblem × Int)) :=
  (bif (decide (v27 < (a_1.length : Int))) then ((idx a_1 v27).bind fun x30 => (((bif ((x30.length : Int) != (3 : Int)) then some true else ((idx x30 (0 : Int)).bind fun x33 => ((m_impl_Problem_hasItem (GProblem.mk x6 v28) x33).bind fun x34 => (bif (!x34) then some true else ((idx x30 (1 : Int)).bind fun x36 => ((m_impl_Problem_hasItem (GProblem.mk x6 v28) x36).bind fun x37 => (bif (!x37) then some true else ((idx x30 (0 : Int)).bind fun x39 => ((idx x30 (1 : Int)).bind fun x40 => (bif (x39 == x40) then some true else ((idx x30 (2 : Int)).bind fun x42 => ((m_impl_within x42 (0 : Int) (100 : Int)).bind fun x43 => some (!x43))))))))))))) : Option Bool).bind fun x31 => (bif x31 then Option.map Sum.inr (some ((GProblem.mk ([] : (List (List Int))) ([] : (List (List Int)))), (2 : Int))) else ((idx x30 (0 : Int)).bind fun x48 => ((idx x30 (1 : Int)).bind fun x49 => ((idx x30 (2 : Int)).bind fun x50 => ((m_impl_Problem_tighten (GProblem.mk x6 v28) x48 x49 x50).bind fun x51 => some (Sum.inl ((w64 (v27 + (1 : Int))), x51))))))))) else Option.map Sum.inr (some ((GProblem.mk x6 v28), (0 : Int))))
noncomputable def m_impl_MakeProblem (a_0 : (List (List Int))) (a_1 : (List (List Int))) : Option (GProblem × Int) :=
  ((m_impl_domainsOk a_0).bind fun x2 => (bif (!x2) then some ((GProblem.mk ([] : (List (List Int))) ([] : (List (List Int)))), (1 : Int)) else ((m_impl_cloneLists a_0).bind fun x6 => (((loopM (fun s : (Int × (List (List Int))) => m_impl_MakeProblem_B13 a_0 s.1 s.2) ((0 : Int), ([] : (List (List Int))))) : Option (List (List Int))).bind fun x12 => (loopM (fun s : (Int × (List (List Int))) => m_impl_MakeProblem_B26 a_1 x6 s.1 s.2) ((0 : Int), x12))))))

noncomputable def m_laws_markInt64S_B3  (v4 : Int) (v5 : Int) (v6 : (List Int)) : Option ((Int × Int × (List Int)) ⊕ (Int × (List Int))) :=
  (bif (decide (v5 < (v6.length : Int))) then ((inB v6 v5).bind fun u8 => some (Sum.inl ((w64 (v4 + (1 : Int))), (w64 (v5 + (1 : Int))), (v6.set (v5).toNat v4)))) else Option.map Sum.inr (some (v4, v6)))
noncomputable def m_laws_markInt64S (a_0 : (List Int)) (k_1 : Int) : Option (Int × (List Int)) :=
  (((loopM (fun s : (Int × Int × (List Int)) => m_laws_markInt64S_B3  s.1 s.2.1 s.2.2) (k_1, (0 : Int), a_0)) : Option (Int × (List Int))).bind fun x2 => some (x2.1, x2.2))

noncomputable def m_laws_markInt64SS_B3  (v4 : Int) (v5 : Int) (v6 : (List (List Int))) : Option ((Int × Int × (List (List Int))) ⊕ (Int × (List (List Int)))) :=
  (bif (decide (v5 < (v6.length : Int))) then ((idx v6 v5).bind fun x8 => ((m_laws_markInt64S x8 v4).bind fun x10 => some (Sum.inl (x10.1, (w64 (v5 + (1 : Int))), (v6.set (v5).toNat x10.2))))) else Option.map Sum.inr (some (v4, v6)))
noncomputable def m_laws_markInt64SS (a_0 : (List (List Int))) (k_1 : Int) : Option (Int × (List (List Int))) :=
  (((loopM (fun s : (Int × Int × (List (List Int))) => m_laws_markInt64SS_B3  s.1 s.2.1 s.2.2) (k_1, (0 : Int), a_0)) : Option (Int × (List (List Int)))).bind fun x2 => some (x2.1, x2.2))

noncomputable def m_laws_markProblem (a_0 : GProblem) (k_1 : Int) : Option (Int × (List (List Int)) × (List (List Int))) :=
  ((m_laws_markInt64SS a_0.Domains k_1).bind fun x4 => ((m_laws_markInt64SS a_0.Apart x4.1).bind fun x6 => some (x6.1, x4.2, x6.2)))

noncomputable def m_laws_heldInt64S_B1 (a_0 : (List Int)) (v2 : Int) (v3 : Int) : Option ((Int × Int) ⊕ Int) :=
  (bif (decide (v3 < (a_0.length : Int))) then ((idx a_0 v3).bind fun x5 => (bif (x5 != v2) then Option.map Sum.inr (some (-1 : Int)) else some (Sum.inl ((w64 (v2 + (1 : Int))), (w64 (v3 + (1 : Int))))))) else Option.map Sum.inr (some v2))
noncomputable def m_laws_heldInt64S (a_0 : (List Int)) (k_1 : Int) : Option Int :=
  (loopM (fun s : (Int × Int) => m_laws_heldInt64S_B1 a_0 s.1 s.2) (k_1, (0 : Int)))

noncomputable def m_laws_heldInt64SS_B1 (a_0 : (List (List Int))) (v2 : Int) (v3 : Int) : Option ((Int × Int) ⊕ Int) :=
  (bif (decide (v3 < (a_0.length : Int))) then ((idx a_0 v3).bind fun x5 => ((m_laws_heldInt64S x5 v2).bind fun x6 => (bif (decide (x6 < (0 : Int))) then Option.map Sum.inr (some (-1 : Int)) else some (Sum.inl (x6, (w64 (v3 + (1 : Int)))))))) else Option.map Sum.inr (some v2))
noncomputable def m_laws_heldInt64SS (a_0 : (List (List Int))) (k_1 : Int) : Option Int :=
  (loopM (fun s : (Int × Int) => m_laws_heldInt64SS_B1 a_0 s.1 s.2) (k_1, (0 : Int)))

noncomputable def m_laws_heldProblem (a_0 : GProblem) (k_1 : Int) : Option Int :=
  ((m_laws_heldInt64SS a_0.Domains k_1).bind fun x1 => (bif (decide (x1 < (0 : Int))) then some (-1 : Int) else ((m_laws_heldInt64SS a_0.Apart x1).bind fun x2 => (bif (decide (x2 < (0 : Int))) then some (-1 : Int) else some x2))))

noncomputable def m_laws_FnExactMakeProblem (a_0 : (List (List Int))) (a_1 : (List (List Int))) : Option Bool :=
  ((m_laws_szInt64SS a_0 (1048576 : Int)).bind fun x1 => (bif (decide (x1 < (0 : Int))) then some true else ((m_laws_szInt64SS a_1 x1).bind fun x2 => (bif (decide (x2 < (0 : Int))) then some true else ((m_laws_toInt64SS a_0).bind fun x3 => ((m_laws_toInt64SS a_1).bind fun x4 => ((m_spec_MakeProblem x3 x4).bind fun x5 => ((m_laws_toInt64SS a_0).bind fun x8 => ((m_laws_toInt64SS a_1).bind fun x11 => ((m_impl_MakeProblem x8 x11).bind fun x14 => ((((m_laws_eqProblem x14.1 x5.1).bind fun x21 => (bif (!x21) then some true else some (x14.2 != x5.2))) : Option Bool).bind fun x20 => (bif x20 then some false else ((m_laws_toInt64SS a_0).bind fun x24 => ((m_laws_eqInt64SS x8 x24).bind fun x25 => (bif (!x25) then some false else ((m_laws_toInt64SS a_1).bind fun x26 => ((m_laws_eqInt64SS x11 x26).bind fun x27 => (bif (!x27) then some false else ((m_laws_markInt64SS x8 (1 : Int)).bind fun x28 => ((m_laws_markInt64SS x11 x28.1).bind fun x30 => (((bif (decide (x30.1 < (0 : Int))) then some true else ((m_laws_eqProblem x14.1 x5.1).bind fun x34 => (bif (!x34) then some true else some (x14.2 != x5.2)))) : Option Bool).bind fun x32 => (bif x32 then some false else ((m_laws_markProblem x14.1 (1 : Int)).bind fun x37 => ((m_laws_heldProblem (GProblem.mk x37.2.1 x37.2.2) (1 : Int)).bind fun x39 => (bif (decide (x39 < (0 : Int))) then some false else (bif (x39 != x37.1) then some false else ((m_laws_toInt64SS a_0).bind fun x40 => ((m_laws_toInt64SS a_1).bind fun x41 => ((m_impl_MakeProblem x40 x41).bind fun x42 => ((((m_laws_eqProblem x42.1 x5.1).bind fun x46 => (bif (!x46) then some true else some (x42.2 != x5.2))) : Option Bool).bind fun x45 => (bif x45 then some false else ((m_laws_heldProblem (GProblem.mk x37.2.1 x37.2.2) (1 : Int)).bind fun x49 => (bif (decide (x49 < (0 : Int))) then some false else (bif (x49 != x37.1) then some false else some true))))))))))))))))))))))))))))))))))

noncomputable def m_spec_PartProblem_B36 (a_0 : GProblem) (a_1 : (List Int)) (v19 : Int) (v37 : Int) (v38 : (List Int)) : Option ((Int × (List Int)) ⊕ (List Int)) :=
  (bif (decide (v37 < (a_1.length : Int))) then ((idx a_1 v19).bind fun x40 => ((idx a_0.Apart x40).bind fun x41 => ((idx a_1 v37).bind fun x42 => ((idx x41 x42).bind fun x43 => ((appL 8 v38 ([x43] : (List Int))).bind fun x44 => some (Sum.inl ((w64 (v37 + (1 : Int))), x44))))))) else Option.map Sum.inr (some v38))
noncomputable def m_spec_PartProblem_B18 (a_0 : GProblem) (a_1 : (List Int)) (v19 : Int) (v20 : (List (List Int))) (v21 : (List (List Int))) : Option ((Int × (List (List Int)) × (List (List Int))) ⊕ ((List (List Int)) × (List (List Int)))) :=
  (bif (decide (v19 < (a_1.length : Int))) then ((idx a_1 v19).bind fun x23 => ((idx a_0.Domains x23).bind fun x24 => ((m_spec_l00Own x24).bind fun x25 => ((appL 24 v21 [x25]).bind fun x30 => (((loopM (fun s : (Int × (List Int)) => m_spec_PartProblem_B36 a_0 a_1 v19 s.1 s.2) ((0 : Int), ([] : (List Int)))) : Option (List Int)).bind fun x35 => ((appL 24 v20 [x35]).bind fun x49 => some (Sum.inl ((w64 (v19 + (1 : Int))), x49, x30)))))))) else Option.map Sum.inr (some (v20, v21)))
noncomputable def m_spec_PartProblem (a_0 : GProblem) (a_1 : (List Int)) : Option (GProblem × Int) :=
  ((m_spec_l17Ok a_0).bind fun x2 => (bif (!x2) then some ((GProblem.mk ([] : (List (List Int))) ([] : (List (List Int)))), (1 : Int)) else ((((m_spec_l00Rises a_1 (0 : Int) (w64 ((a_0.Domains.length : Int) - (1 : Int)))).bind fun x7 => (bif (!x7) then some true else some ((a_1.length : Int) == (0 : Int)))) : Option Bool).bind fun x6 => (bif x6 then some ((GProblem.mk ([] : (List (List Int))) ([] : (List (List Int)))), (2 : Int)) else (((loopM (fun s : (Int × (List (List Int)) × (List (List Int))) => m_spec_PartProblem_B18 a_0 a_1 s.1 s.2.1 s.2.2) ((0 : Int), ([] : (List (List Int))), ([] : (List (List Int))))) : Option ((List (List Int)) × (List (List Int)))).bind fun x17 => some ((GProblem.mk x17.2 x17.1), (0 : Int)))))))

noncomputable def m_impl_PartProblem_B36 (a_0 : GProblem) (a_1 : (List Int)) (x24 : Int) (v37 : Int) (v38 : (List Int)) : Option ((Int × (List Int)) ⊕ (List Int)) :=
  (bif (decide (v37 < (a_1.length : Int))) then ((idx a_1 v37).bind fun x40 => ((idx a_0.Apart x24).bind fun x41 => ((idx x41 x40).bind fun x42 => ((appL 8 v38 ([x42] : (List Int))).bind fun x43 => some (Sum.inl ((w64 (v37 + (1 : Int))), x43)))))) else Option.map Sum.inr (some v38))
noncomputable def m_impl_PartProblem_B19 (a_0 : GProblem) (a_1 : (List Int)) (v20 : Int) (v21 : (List (List Int))) (v22 : (List (List Int))) : Option ((Int × (List (List Int)) × (List (List Int))) ⊕ ((List (List Int)) × (List (List Int)))) :=
  (bif (decide (v20 < (a_1.length : Int))) then ((idx a_1 v20).bind fun x24 => ((idx a_0.Domains x24).bind fun x25 => ((m_slices_Clone_int64_int64 x25).bind fun x26 => ((appL 24 v22 [x26]).bind fun x31 => (((loopM (fun s : (Int × (List Int)) => m_impl_PartProblem_B36 a_0 a_1 x24 s.1 s.2) ((0 : Int), ([] : (List Int)))) : Option (List Int)).bind fun x35 => ((appL 24 v21 [x35]).bind fun x48 => some (Sum.inl ((w64 (v20 + (1 : Int))), x48, x31)))))))) else Option.map Sum.inr (some (v21, v22)))
noncomputable def m_impl_PartProblem (a_0 : GProblem) (a_1 : (List Int)) : Option (GProblem × Int) :=
  ((m_impl_ValidProblem a_0).bind fun x2 => (bif (!x2) then some ((GProblem.mk ([] : (List (List Int))) ([] : (List (List Int)))), (1 : Int)) else (((bif ((a_1.length : Int) == (0 : Int)) then some true else ((m_impl_increasing a_1).bind fun x8 => (bif (!x8) then some true else ((m_impl_allWithin a_1 (0 : Int) (w64 ((a_0.Domains.length : Int) - (1 : Int)))).bind fun x10 => some (!x10))))) : Option Bool).bind fun x6 => (bif x6 then some ((GProblem.mk ([] : (List (List Int))) ([] : (List (List Int)))), (2 : Int)) else (((loopM (fun s : (Int × (List (List Int)) × (List (List Int))) => m_impl_PartProblem_B19 a_0 a_1 s.1 s.2.1 s.2.2) ((0 : Int), ([] : (List (List Int))), ([] : (List (List Int))))) : Option ((List (List Int)) × (List (List Int)))).bind fun x18 => some ((GProblem.mk x18.2 x18.1), (0 : Int)))))))

noncomputable def m_laws_FnExactPartProblem (a_0 : GProblem) (a_1 : (List Int)) : Option Bool :=
  (bif (decide ((1048576 : Int) < (a_1.length : Int))) then some true else ((m_laws_szProblem a_0 (1048576 : Int)).bind fun x1 => (bif (decide (x1 < (0 : Int))) then some true else ((m_laws_toProblem a_0).bind fun x2 => ((m_laws_toInt64S a_1).bind fun x3 => ((m_spec_PartProblem x2 x3).bind fun x4 => ((m_laws_toProblem a_0).bind fun x7 => ((m_laws_toInt64S a_1).bind fun x13 => ((m_impl_PartProblem x7 x13).bind fun x16 => ((((m_laws_eqProblem x16.1 x4.1).bind fun x23 => (bif (!x23) then some true else some (x16.2 != x4.2))) : Option Bool).bind fun x22 => (bif x22 then some false else ((m_laws_toProblem a_0).bind fun x26 => ((m_laws_eqProblem x7 x26).bind fun x27 => (bif (!x27) then some false else ((m_laws_toInt64S a_1).bind fun x28 => ((m_laws_eqInt64S x13 x28).bind fun x29 => (bif (!x29) then some false else ((m_laws_markProblem x7 (1 : Int)).bind fun x30 => ((m_laws_markInt64S x13 x30.1).bind fun x32 => (((bif (decide (x32.1 < (0 : Int))) then some true else ((m_laws_eqProblem x16.1 x4.1).bind fun x36 => (bif (!x36) then some true else some (x16.2 != x4.2)))) : Option Bool).bind fun x34 => (bif x34 then some false else ((m_laws_markProblem x16.1 (1 : Int)).bind fun x39 => ((m_laws_heldProblem (GProblem.mk x39.2.1 x39.2.2) (1 : Int)).bind fun x41 => (bif (decide (x41 < (0 : Int))) then some false else (bif (x41 != x39.1) then some false else ((m_laws_toProblem a_0).bind fun x42 => ((m_laws_toInt64S a_1).bind fun x43 => ((m_impl_PartProblem x42 x43).bind fun x44 => ((((m_laws_eqProblem x44.1 x4.1).bind fun x48 => (bif (!x48) then some true else some (x44.2 != x4.2))) : Option Bool).bind fun x47 => (bif x47 then some false else ((m_laws_heldProblem (GProblem.mk x39.2.1 x39.2.2) (1 : Int)).bind fun x51 => (bif (decide (x51 < (0 : Int))) then some false else (bif (x51 != x39.1) then some false else some true)))))))))))))))))))))))))))))))))

noncomputable def m_spec_l00Has_B1 (list_0 : (List Int)) (n_1 : Int) (v2 : Int) : Option (Int ⊕ Bool) :=
  (bif (decide (v2 < (list_0.length : Int))) then ((idx list_0 v2).bind fun x4 => (bif (x4 == n_1) then Option.map Sum.inr (some true) else some (Sum.inl (w64 (v2 + (1 : Int)))))) else Option.map Sum.inr (some false))
noncomputable def m_spec_l00Has (list_0 : (List Int)) (n_1 : Int) : Option Bool :=
  (loopM (fun s : Int => m_spec_l00Has_B1 list_0 n_1 s) (0 : Int))

noncomputable def m_spec_l17Fits_B1 (p_0 : GProblem) (list_1 : (List Int)) (v2 : Int) : Option (Int ⊕ Bool) :=
  (bif (decide (v2 < (list_1.length : Int))) then ((idx p_0.Domains v2).bind fun x4 => ((idx list_1 v2).bind fun x5 => ((m_spec_l00Has x4 x5).bind fun x6 => (bif (!x6) then Option.map Sum.inr (some false) else some (Sum.inl (w64 (v2 + (1 : Int)))))))) else Option.map Sum.inr (some true))
noncomputable def m_spec_l17Fits (p_0 : GProblem) (list_1 : (List Int)) : Option Bool :=
  (bif ((list_1.length : Int) != (p_0.Domains.length : Int)) then some false else (loopM (fun s : Int => m_spec_l17Fits_B1 p_0 list_1 s) (0 : Int)))

noncomputable def m_spec_l17Near (a_0 : Int) (b_1 : Int) (apart_2 : Int) : Option Bool :=
  (((bif (decide ((w64 (a_0 - b_1)) < apart_2)) then some (decide ((w64 (b_1 - a_0)) < apart_2)) else some false) : Option Bool).bind fun x1 => some x1)

noncomputable def m_spec_l17Broken_B9 (p_0 : GProblem) (list_1 : (List Int)) (v5 : Int) (v10 : Int) (v11 : (List (List Int))) : Option ((Int × (List (List Int))) ⊕ (List (List Int))) :=
  (bif (decide (v10 < (list_1.length : Int))) then ((idx list_1 v5).bind fun x13 => ((idx list_1 v10).bind fun x14 => ((idx p_0.Apart v5).bind fun x15 => ((idx x15 v10).bind fun x16 => ((m_spec_l17Near x13 x14 x16).bind fun x17 => (((bif x17 then ((appL 24 v11 [([v5, v10] : (List Int))]).bind fun x23 => some x23) else some v11) : Option (List (List Int))).bind fun x18 => some (Sum.inl ((w64 (v10 + (1 : Int))), x18)))))))) else Option.map Sum.inr (some v11))
noncomputable def m_spec_l17Broken_B4 (p_0 : GProblem) (list_1 : (List Int)) (v5 : Int) (v6 : (List (List Int))) : Option ((Int × (List (List Int))) ⊕ (List (List Int))) :=
  (bif (decide (v5 < (list_1.length : Int))) then (((loopM (fun s : (Int × (List (List Int))) => m_spec_l17Broken_B9 p_0 list_1 v5 s.1 s.2) ((w64 (v5 + (1 : Int))), v6)) : Option (List (List Int))).bind fun x8 => some (Sum.inl ((w64 (v5 + (1 : Int))), x8))) else Option.map Sum.inr (some v6))
noncomputable def m_spec_l17Broken (p_0 : GProblem) (list_1 : (List Int)) : Option (List (List Int)) :=
  (((loopM (fun s : (Int × (List (List Int))) => m_spec_l17Broken_B4 p_0 list_1 s.1 s.2) ((0 : Int), ([] : (List (List Int))))) : Option (List (List Int))).bind fun x3 => some x3)

noncomputable def m_spec_ValidAssignment (p_0 : GProblem) (list_1 : (List Int)) : Option Bool :=
  ((((m_spec_l17Ok p_0).bind fun x2 => (bif x2 then ((m_spec_l17Fits p_0 list_1).bind fun x4 => (bif x4 then ((m_spec_l17Broken p_0 list_1).bind fun x6 => some ((x6.length : Int) == (0 : Int))) else some false)) else some false)) : Option Bool).bind fun x1 => some x1)

noncomputable def m_slices_Index_int64_int64_B1 (s_0 : (List Int)) (v_1 : Int) (v2 : Int) : Option (Int ⊕ Int) :=
  (bif (decide (v2 < (s_0.length : Int))) then ((idx s_0 v2).bind fun x4 => (bif (v_1 == x4) then Option.map Sum.inr (some v2) else some (Sum.inl (w64 (v2 + (1 : Int)))))) else Option.map Sum.inr (some (-1 : Int)))
noncomputable def m_slices_Index_int64_int64 (s_0 : (List Int)) (v_1 : Int) : Option Int :=
  (loopM (fun s : Int => m_slices_Index_int64_int64_B1 s_0 v_1 s) (0 : Int))

noncomputable def m_slices_Contains_int64_int64 (s_0 : (List Int)) (v_1 : Int) : Option Bool :=
  ((m_slices_Index_int64_int64 s_0 v_1).bind fun x1 => some (decide ((0 : Int) ≤ x1)))

noncomputable def m_impl_Problem_isAssignment_B1 (p_0 : GProblem) (list_1 : (List Int)) (v2 : Int) : Option (Int ⊕ Bool) :=
  (bif (decide (v2 < (list_1.length : Int))) then ((idx list_1 v2).bind fun x4 => ((idx p_0.Domains v2).bind fun x5 => ((m_slices_Contains_int64_int64 x5 x4).bind fun x6 => (bif (!x6) then Option.map Sum.inr (some false) else some (Sum.inl (w64 (v2 + (1 : Int)))))))) else Option.map Sum.inr (some true))
noncomputable def m_impl_Problem_isAssignment (p_0 : GProblem) (list_1 : (List Int)) : Option Bool :=
  (bif ((list_1.length : Int) != (p_0.Domains.length : Int)) then some false else (loopM (fun s : Int => m_impl_Problem_isAssignment_B1 p_0 list_1 s) (0 : Int)))

noncomputable def m_impl_abs (n_0 : Int) : Option Int :=
  some (if (w64 (0 - n_0)) > n_0 then (w64 (0 - n_0)) else n_0)

noncomputable def m_impl_Problem_violations_B8 (p_0 : GProblem) (list_1 : (List Int)) (v4 : Int) (v9 : Int) (v10 : (List (List Int))) : Option ((Int × (List (List Int))) ⊕ (List (List Int))) :=
  (bif (decide (v9 < (list_1.length : Int))) then ((idx list_1 v4).bind fun x12 => ((idx list_1 v9).bind fun x13 => ((m_impl_abs (w64 (x12 - x13))).bind fun x14 => ((idx p_0.Apart v4).bind fun x15 => ((idx x15 v9).bind fun x16 => (((bif (decide (x14 < x16)) then ((appL 24 v10 [([v4, v9] : (List Int))]).bind fun x22 => some x22) else some v10) : Option (List (List Int))).bind fun x17 => some (Sum.inl ((w64 (v9 + (1 : Int))), x17)))))))) else Option.map Sum.inr (some v10))
noncomputable def m_impl_Problem_violations_B3 (p_0 : GProblem) (list_1 : (List Int)) (v4 : Int) (v5 : (List (List Int))) : Option ((Int × (List (List Int))) ⊕ (List (List Int))) :=
  (bif (decide (v4 < (list_1.length : Int))) then (((loopM (fun s : (Int × (List (List Int))) => m_impl_Problem_violations_B8 p_0 list_1 v4 s.1 s.2) ((w64 (v4 + (1 : Int))), v5)) : Option (List (List Int))).bind fun x7 => some (Sum.inl ((w64 (v4 + (1 : Int))), x7))) else Option.map Sum.inr (some v5))
noncomputable def m_impl_Problem_violations (p_0 : GProblem) (list_1 : (List Int)) : Option (List (List Int)) :=
  (((loopM (fun s : (Int × (List (List Int))) => m_impl_Problem_violations_B3 p_0 list_1 s.1 s.2) ((0 : Int), ([] : (List (List Int))))) : Option (List (List Int))).bind fun x2 => some x2)

noncomputable def m_impl_ValidAssignment (p_0 : GProblem) (list_1 : (List Int)) : Option Bool :=
  ((((m_impl_ValidProblem p_0).bind fun x2 => (bif x2 then ((m_impl_Problem_isAssignment p_0 list_1).bind fun x4 => (bif x4 then ((m_impl_Problem_violations p_0 list_1).bind fun x6 => some ((x6.length : Int) == (0 : Int))) else some false)) else some false)) : Option Bool).bind fun x1 => some x1)

noncomputable def m_laws_FnExactValidAssignment (aP_0 : GProblem) (aList_1 : (List Int)) : Option Bool :=
  (bif (decide ((1048576 : Int) < (aList_1.length : Int))) then some true else ((m_laws_szProblem aP_0 (1048576 : Int)).bind fun x1 => (bif (decide (x1 < (0 : Int))) then some true else ((m_laws_toProblem aP_0).bind fun x2 => ((m_laws_toInt64S aList_1).bind fun x3 => ((m_spec_ValidAssignment x2 x3).bind fun x4 => ((m_laws_toProblem aP_0).bind fun x5 => ((m_laws_toInt64S aList_1).bind fun x8 => ((m_impl_ValidAssignment x5 x8).bind fun x9 => (bif (x9 != x4) then some false else ((m_laws_toProblem aP_0).bind fun x10 => ((m_laws_eqProblem x5 x10).bind fun x11 => (bif (!x11) then some false else ((m_laws_toInt64S aList_1).bind fun x12 => ((m_laws_eqInt64S x8 x12).bind fun x13 => (bif (!x13) then some false else some true))))))))))))))))

noncomputable def m_spec_Violations (p_0 : GProblem) (list_1 : (List Int)) : Option ((List (List Int)) × Int) :=
  ((m_spec_l17Ok p_0).bind fun x1 => (bif (!x1) then some (([] : (List (List Int))), (1 : Int)) else ((m_spec_l17Fits p_0 list_1).bind fun x3 => (bif (!x3) then some (([] : (List (List Int))), (6 : Int)) else ((m_spec_l17Broken p_0 list_1).bind fun x5 => some (x5, (0 : Int)))))))

noncomputable def m_impl_Violations (p_0 : GProblem) (list_1 : (List Int)) : Option ((List (List Int)) × Int) :=
  ((m_impl_ValidProblem p_0).bind fun x1 => (bif (!x1) then some (([] : (List (List Int))), (1 : Int)) else ((m_impl_Problem_isAssignment p_0 list_1).bind fun x3 => (bif (!x3) then some (([] : (List (List Int))), (6 : Int)) else ((m_impl_Problem_violations p_0 list_1).bind fun x5 => some (x5, (0 : Int)))))))

noncomputable def m_laws_FnExactViolations (a_0 : GProblem) (a_1 : (List Int)) : Option Bool :=
  (bif (decide ((1048576 : Int) < (a_1.length : Int))) then some true else ((m_laws_szProblem a_0 (1048576 : Int)).bind fun x1 => (bif (decide (x1 < (0 : Int))) then some true else ((m_laws_toProblem a_0).bind fun x2 => ((m_laws_toInt64S a_1).bind fun x3 => ((m_spec_Violations x2 x3).bind fun x4 => ((m_laws_toProblem a_0).bind fun x5 => ((m_laws_toInt64S a_1).bind fun x11 => ((m_impl_Violations x5 x11).bind fun x14 => ((((m_laws_eqInt64SS x14.1 x4.1).bind fun x18 => (bif (!x18) then some true else some (x14.2 != x4.2))) : Option Bool).bind fun x17 => (bif x17 then some false else ((m_laws_toProblem a_0).bind fun x21 => ((m_laws_eqProblem x5 x21).bind fun x22 => (bif (!x22) then some false else ((m_laws_toInt64S a_1).bind fun x23 => ((m_laws_eqInt64S x11 x23).bind fun x24 => (bif (!x24) then some false else ((m_laws_markProblem x5 (1 : Int)).bind fun x25 => ((m_laws_markInt64S x11 x25.1).bind fun x27 => (((bif (decide (x27.1 < (0 : Int))) then some true else ((m_laws_eqInt64SS x14.1 x4.1).bind fun x31 => (bif (!x31) then some true else some (x14.2 != x4.2)))) : Option Bool).bind fun x29 => (bif x29 then some false else ((m_laws_markInt64SS x14.1 (1 : Int)).bind fun x34 => ((m_laws_heldInt64SS x34.2 (1 : Int)).bind fun x36 => (bif (decide (x36 < (0 : Int))) then some false else (bif (x36 != x34.1) then some false else ((m_laws_toProblem a_0).bind fun x37 => ((m_laws_toInt64S a_1).bind fun x38 => ((m_impl_Violations x37 x38).bind fun x39 => ((((m_laws_eqInt64SS x39.1 x4.1).bind fun x41 => (bif (!x41) then some true else some (x39.2 != x4.2))) : Option Bool).bind fun x40 => (bif x40 then some false else ((m_laws_heldInt64SS x34.2 (1 : Int)).bind fun x44 => (bif (decide (x44 < (0 : Int))) then some false else (bif (x44 != x34.1) then some false else some true)))))))))))))))))))))))))))))))))

noncomputable def m_spec_l19State_B1 (list_1 : (List Int)) (v2 : Int) : Option (Int ⊕ Bool) :=
  (bif (decide (v2 < (list_1.length : Int))) then ((idx list_1 v2).bind fun x4 => ((m_spec_l00In x4 (0 : Int) (999 : Int)).bind fun x5 => (bif (!x5) then Option.map Sum.inr (some false) else some (Sum.inl (w64 (v2 + (1 : Int))))))) else Option.map Sum.inr (some true))
noncomputable def m_spec_l19State (p_0 : GProblem) (list_1 : (List Int)) : Option Bool :=
  (bif ((list_1.length : Int) != (p_0.Domains.length : Int)) then some false else (loopM (fun s : Int => m_spec_l19State_B1 list_1 s) (0 : Int)))

noncomputable def m_spec_l19Ask (p_0 : GProblem) (list_1 : (List Int)) (item_2 : Int) : Option Int :=
  ((m_spec_ValidProblem p_0).bind fun x1 => (bif (!x1) then some (1 : Int) else ((m_spec_l19State p_0 list_1).bind fun x2 => (bif (!x2) then some (6 : Int) else ((m_spec_l00In item_2 (0 : Int) (w64 ((list_1.length : Int) - (1 : Int)))).bind fun x3 => (bif (!x3) then some (2 : Int) else some (0 : Int)))))))

noncomputable def m_spec_l19Near (x_0 : Int) (y_1 : Int) (apart_2 : Int) : Option Bool :=
  (((bif (decide ((w64 (x_0 - y_1)) < apart_2)) then some (decide ((w64 (y_1 - x_0)) < apart_2)) else some false) : Option Bool).bind fun x1 => some x1)

noncomputable def m_spec_l19Conflicts_B2 (p_0 : GProblem) (list_1 : (List Int)) (item_2 : Int) (channel_3 : Int) (v3 : Int) (v4 : Int) : Option ((Int × Int) ⊕ Int) :=
  (bif (decide (v4 < (list_1.length : Int))) then (((bif (v4 != item_2) then ((idx list_1 v4).bind fun x8 => ((idx p_0.Apart item_2).bind fun x9 => ((idx x9 v4).bind fun x10 => ((m_spec_l19Near channel_3 x8 x10).bind fun x11 => some x11)))) else some false) : Option Bool).bind fun x6 => (((bif x6 then some (w64 (v3 + (1 : Int))) else some v3) : Option Int).bind fun x13 => some (Sum.inl (x13, (w64 (v4 + (1 : Int))))))) else Option.map Sum.inr (some v3))
noncomputable def m_spec_l19Conflicts (p_0 : GProblem) (list_1 : (List Int)) (item_2 : Int) (channel_3 : Int) : Option Int :=
  (((loopM (fun s : (Int × Int) => m_spec_l19Conflicts_B2 p_0 list_1 item_2 channel_3 s.1 s.2) ((0 : Int), (0 : Int))) : Option Int).bind fun x1 => some x1)

noncomputable def m_spec_ConflictsOf (p_0 : GProblem) (list_1 : (List Int)) (item_2 : Int) : Option (Int × Int) :=
  ((m_spec_l19Ask p_0 list_1 item_2).bind fun x1 => (bif (x1 != (0 : Int)) then some ((0 : Int), x1) else ((idx list_1 item_2).bind fun x2 => ((m_spec_l19Conflicts p_0 list_1 item_2 x2).bind fun x3 => some (x3, (0 : Int))))))

noncomputable def m_impl_stateCode (p_0 : GProblem) (list_1 : (List Int)) (items_2 : (List Int)) : Option Int :=
  ((m_impl_ValidProblem p_0).bind fun x1 => (bif (!x1) then some (1 : Int) else (((bif ((list_1.length : Int) != (p_0.Domains.length : Int)) then some true else ((m_impl_allWithin list_1 (0 : Int) (999 : Int)).bind fun x4 => some (!x4))) : Option Bool).bind fun x2 => (bif x2 then some (6 : Int) else ((m_impl_allWithin items_2 (0 : Int) (w64 ((list_1.length : Int) - (1 : Int)))).bind fun x6 => (bif (!x6) then some (2 : Int) else some (0 : Int)))))))

noncomputable def m_impl_Problem_conflicts_B2 (p_0 : GProblem) (list_1 : (List Int)) (item_2 : Int) (channel_3 : Int) (v3 : Int) (v4 : Int) : Option ((Int × Int) ⊕ Int) :=
  (bif (decide (v4 < (list_1.length : Int))) then ((idx list_1 v4).bind fun x6 => (((bif (v4 != item_2) then ((m_impl_abs (w64 (channel_3 - x6))).bind fun x9 => ((idx p_0.Apart item_2).bind fun x10 => ((idx x10 v4).bind fun x11 => some (decide (x9 < x11))))) else some false) : Option Bool).bind fun x7 => (((bif x7 then some (w64 (v3 + (1 : Int))) else some v3) : Option Int).bind fun x13 => some (Sum.inl (x13, (w64 (v4 + (1 : Int)))))))) else Option.map Sum.inr (some v3))
noncomputable def m_impl_Problem_conflicts (p_0 : GProblem) (list_1 : (List Int)) (item_2 : Int) (channel_3 : Int) : Option Int :=
  (((loopM (fun s : (Int × Int) => m_impl_Problem_conflicts_B2 p_0 list_1 item_2 channel_3 s.1 s.2) ((0 : Int), (0 : Int))) : Option Int).bind fun x1 => some x1)

noncomputable def m_impl_ConflictsOf (p_0 : GProblem) (list_1 : (List Int)) (item_2 : Int) : Option (Int × Int) :=
  ((m_impl_stateCode p_0 list_1 ([item_2] : (List Int))).bind fun x1 => (bif (x1 != (0 : Int)) then some ((0 : Int), x1) else ((idx list_1 item_2).bind fun x2 => ((m_impl_Problem_conflicts p_0 list_1 item_2 x2).bind fun x3 => some (x3, (0 : Int))))))

noncomputable def m_laws_FnExactConflictsOf (aP_0 : GProblem) (aList_1 : (List Int)) (aItem_2 : Int) : Option Bool :=
  (bif (decide ((1048576 : Int) < (aList_1.length : Int))) then some true else ((m_laws_szProblem aP_0 (1048576 : Int)).bind fun x1 => (bif (decide (x1 < (0 : Int))) then some true else ((m_laws_toProblem aP_0).bind fun x2 => ((m_laws_toInt64S aList_1).bind fun x3 => ((m_spec_ConflictsOf x2 x3 aItem_2).bind fun x4 => ((m_laws_toProblem aP_0).bind fun x5 => ((m_laws_toInt64S aList_1).bind fun x8 => ((m_impl_ConflictsOf x5 x8 aItem_2).bind fun x9 => (((bif (x9.1 != x4.1) then some true else some (x9.2 != x4.2)) : Option Bool).bind fun x10 => (bif x10 then some false else ((m_laws_toProblem aP_0).bind fun x13 => ((m_laws_eqProblem x5 x13).bind fun x14 => (bif (!x14) then some false else ((m_laws_toInt64S aList_1).bind fun x15 => ((m_laws_eqInt64S x8 x15).bind fun x16 => (bif (!x16) then some false else some true)))))))))))))))))

noncomputable def m_spec_l18Part_B1 (p_0 : GProblem) (list_1 : (List Int)) (v2 : Int) : Option (Int ⊕ Bool) :=
  (bif (decide (v2 < (list_1.length : Int))) then ((((idx list_1 v2).bind fun x5 => (bif (x5 != (-1 : Int)) then ((idx p_0.Domains v2).bind fun x7 => ((idx list_1 v2).bind fun x8 => ((m_spec_l00Has x7 x8).bind fun x9 => some (!x9)))) else some false)) : Option Bool).bind fun x4 => (bif x4 then Option.map Sum.inr (some false) else some (Sum.inl (w64 (v2 + (1 : Int)))))) else Option.map Sum.inr (some true))
noncomputable def m_spec_l18Part (p_0 : GProblem) (list_1 : (List Int)) : Option Bool :=
  (bif ((list_1.length : Int) != (p_0.Domains.length : Int)) then some false else (loopM (fun s : Int => m_spec_l18Part_B1 p_0 list_1 s) (0 : Int)))

noncomputable def m_spec_l18Free_B1 (p_0 : GProblem) (list_1 : (List Int)) (item_2 : Int) (channel_3 : Int) (v2 : Int) : Option (Int ⊕ Bool) :=
  (bif (decide (v2 < (list_1.length : Int))) then (((bif (v2 != item_2) then ((idx list_1 v2).bind fun x6 => (bif (decide ((0 : Int) ≤ x6)) then ((idx list_1 v2).bind fun x8 => ((idx p_0.Apart item_2).bind fun x9 => ((idx x9 v2).bind fun x10 => ((m_spec_l17Near channel_3 x8 x10).bind fun x11 => some x11)))) else some false)) else some false) : Option Bool).bind fun x4 => (bif x4 then Option.map Sum.inr (some false) else some (Sum.inl (w64 (v2 + (1 : Int)))))) else Option.map Sum.inr (some true))
noncomputable def m_spec_l18Free (p_0 : GProblem) (list_1 : (List Int)) (item_2 : Int) (channel_3 : Int) : Option Bool :=
  (loopM (fun s : Int => m_spec_l18Free_B1 p_0 list_1 item_2 channel_3 s) (0 : Int))

noncomputable def m_spec_l18Choices_B4 (p_0 : GProblem) (list_1 : (List Int)) (item_2 : Int) (v5 : Int) (v6 : (List Int)) : Option ((Int × (List Int)) ⊕ (List Int)) :=
  ((idx p_0.Domains item_2).bind fun x8 => (bif (decide (v5 < (x8.length : Int))) then ((idx p_0.Domains item_2).bind fun x9 => ((idx x9 v5).bind fun x10 => ((m_spec_l18Free p_0 list_1 item_2 x10).bind fun x11 => (((bif x11 then ((idx p_0.Domains item_2).bind fun x13 => ((idx x13 v5).bind fun x14 => ((appL 8 v6 ([x14] : (List Int))).bind fun x15 => some x15))) else some v6) : Option (List Int)).bind fun x12 => some (Sum.inl ((w64 (v5 + (1 : Int))), x12)))))) else Option.map Sum.inr (some v6)))
noncomputable def m_spec_l18Choices (p_0 : GProblem) (list_1 : (List Int)) (item_2 : Int) : Option (List Int) :=
  (((loopM (fun s : (Int × (List Int)) => m_spec_l18Choices_B4 p_0 list_1 item_2 s.1 s.2) ((0 : Int), ([] : (List Int)))) : Option (List Int)).bind fun x3 => some x3)

noncomputable def m_spec_ChoicesFor (p_0 : GProblem) (list_1 : (List Int)) (item_2 : Int) : Option ((List Int) × Int) :=
  ((m_spec_l17Ok p_0).bind fun x1 => (bif (!x1) then some (([] : (List Int)), (1 : Int)) else ((m_spec_l17Item p_0 item_2).bind fun x3 => (bif (!x3) then some (([] : (List Int)), (2 : Int)) else ((m_spec_l18Part p_0 list_1).bind fun x5 => (bif (!x5) then some (([] : (List Int)), (6 : Int)) else ((m_spec_l18Choices p_0 list_1 item_2).bind fun x7 => some (x7, (0 : Int)))))))))

noncomputable def m_impl_Problem_choices_B10 (p_0 : GProblem) (list_1 : (List Int)) (item_2 : Int) (x8 : Int) (v11 : Bool) (v12 : Int) : Option ((Bool × Int) ⊕ Bool) :=
  (bif (decide (v12 < (list_1.length : Int))) then ((idx list_1 v12).bind fun x14 => (((bif (v12 != item_2) then (bif (decide ((0 : Int) ≤ x14)) then ((m_impl_abs (w64 (x8 - x14))).bind fun x18 => ((idx p_0.Apart item_2).bind fun x19 => ((idx x19 v12).bind fun x20 => some (decide (x18 < x20))))) else some false) else some false) : Option Bool).bind fun x15 => (((bif x15 then some true else some v11) : Option Bool).bind fun x22 => some (Sum.inl (x22, (w64 (v12 + (1 : Int)))))))) else Option.map Sum.inr (some v11))
noncomputable def m_impl_Problem_choices_B4 (p_0 : GProblem) (list_1 : (List Int)) (item_2 : Int) (x1 : (List Int)) (v5 : Int) (v6 : (List Int)) : Option ((Int × (List Int)) ⊕ (List Int)) :=
  (bif (decide (v5 < (x1.length : Int))) then ((idx x1 v5).bind fun x8 => (((loopM (fun s : (Bool × Int) => m_impl_Problem_choices_B10 p_0 list_1 item_2 x8 s.1 s.2) (false, (0 : Int))) : Option Bool).bind fun x9 => (((bif (!x9) then ((appL 8 v6 ([x8] : (List Int))).bind fun x26 => some x26) else some v6) : Option (List Int)).bind fun x25 => some (Sum.inl ((w64 (v5 + (1 : Int))), x25))))) else Option.map Sum.inr (some v6))
noncomputable def m_impl_Problem_choices (p_0 : GProblem) (list_1 : (List Int)) (item_2 : Int) : Option (List Int) :=
  ((idx p_0.Domains item_2).bind fun x1 => (((loopM (fun s : (Int × (List Int)) => m_impl_Problem_choices_B4 p_0 list_1 item_2 x1 s.1 s.2) ((0 : Int), ([] : (List Int)))) : Option (List Int)).bind fun x3 => some x3))

noncomputable def m_impl_ChoicesFor_B6 (p_0 : GProblem) (list_1 : (List Int)) (item_2 : Int) (v7 : Int) : Option (Int ⊕ ((List Int) × Int)) :=
  (bif (decide (v7 < (list_1.length : Int))) then ((idx list_1 v7).bind fun x9 => (((bif (x9 != (-1 : Int)) then ((idx p_0.Domains v7).bind fun x12 => ((m_slices_Contains_int64_int64 x12 x9).bind fun x13 => some (!x13))) else some false) : Option Bool).bind fun x10 => (bif x10 then Option.map Sum.inr (some (([] : (List Int)), (6 : Int))) else some (Sum.inl (w64 (v7 + (1 : Int))))))) else Option.map Sum.inr (((m_impl_Problem_choices p_0 list_1 item_2).bind fun x16 => some (x16, (0 : Int)))))
noncomputable def m_impl_ChoicesFor (p_0 : GProblem) (list_1 : (List Int)) (item_2 : Int) : Option ((List Int) × Int) :=
  ((m_impl_ValidProblem p_0).bind fun x1 => (bif (!x1) then some (([] : (List Int)), (1 : Int)) else ((m_impl_Problem_hasItem p_0 item_2).bind fun x3 => (bif (!x3) then some (([] : (List Int)), (2 : Int)) else (bif ((list_1.length : Int) != (p_0.Domains.length : Int)) then some (([] : (List Int)), (6 : Int)) else (loopM (fun s : Int => m_impl_ChoicesFor_B6 p_0 list_1 item_2 s) (0 : Int)))))))

noncomputable def m_laws_FnExactChoicesFor (a_0 : GProblem) (a_1 : (List Int)) (a_2 : Int) : Option Bool :=
  (bif (decide ((1048576 : Int) < (a_1.length : Int))) then some true else ((m_laws_szProblem a_0 (1048576 : Int)).bind fun x1 => (bif (decide (x1 < (0 : Int))) then some true else ((m_laws_toProblem a_0).bind fun x2 => ((m_laws_toInt64S a_1).bind fun x3 => ((m_spec_ChoicesFor x2 x3 a_2).bind fun x4 => ((m_laws_toProblem a_0).bind fun x5 => ((m_laws_toInt64S a_1).bind fun x11 => ((m_impl_ChoicesFor x5 x11 a_2).bind fun x14 => ((((m_laws_eqInt64S x14.1 x4.1).bind fun x18 => (bif (!x18) then some true else some (x14.2 != x4.2))) : Option Bool).bind fun x17 => (bif x17 then some false else ((m_laws_toProblem a_0).bind fun x21 => ((m_laws_eqProblem x5 x21).bind fun x22 => (bif (!x22) then some false else ((m_laws_toInt64S a_1).bind fun x23 => ((m_laws_eqInt64S x11 x23).bind fun x24 => (bif (!x24) then some false else ((m_laws_markProblem x5 (1 : Int)).bind fun x25 => ((m_laws_markInt64S x11 x25.1).bind fun x27 => (((bif (decide (x27.1 < (0 : Int))) then some true else ((m_laws_eqInt64S x14.1 x4.1).bind fun x31 => (bif (!x31) then some true else some (x14.2 != x4.2)))) : Option Bool).bind fun x29 => (bif x29 then some false else ((m_laws_markInt64S x14.1 (1 : Int)).bind fun x34 => ((m_laws_heldInt64S x34.2 (1 : Int)).bind fun x36 => (bif (decide (x36 < (0 : Int))) then some false else (bif (x36 != x34.1) then some false else ((m_laws_toProblem a_0).bind fun x37 => ((m_laws_toInt64S a_1).bind fun x38 => ((m_impl_ChoicesFor x37 x38 a_2).bind fun x39 => ((((m_laws_eqInt64S x39.1 x4.1).bind fun x41 => (bif (!x41) then some true else some (x39.2 != x4.2))) : Option Bool).bind fun x40 => (bif x40 then some false else ((m_laws_heldInt64S x34.2 (1 : Int)).bind fun x44 => (bif (decide (x44 < (0 : Int))) then some false else (bif (x44 != x34.1) then some false else some true)))))))))))))))))))))))))))))))))

noncomputable def m_spec_l19Free_B4 (p_0 : GProblem) (list_1 : (List Int)) (item_2 : Int) (v5 : Int) (v6 : (List Int)) : Option ((Int × (List Int)) ⊕ (List Int)) :=
  ((idx p_0.Domains item_2).bind fun x8 => (bif (decide (v5 < (x8.length : Int))) then ((idx p_0.Domains item_2).bind fun x9 => ((idx x9 v5).bind fun x10 => ((m_spec_l19Conflicts p_0 list_1 item_2 x10).bind fun x11 => (((bif (x11 == (0 : Int)) then ((idx p_0.Domains item_2).bind fun x13 => ((idx x13 v5).bind fun x14 => ((appL 8 v6 ([x14] : (List Int))).bind fun x15 => some x15))) else some v6) : Option (List Int)).bind fun x12 => some (Sum.inl ((w64 (v5 + (1 : Int))), x12)))))) else Option.map Sum.inr (some v6)))
noncomputable def m_spec_l19Free (p_0 : GProblem) (list_1 : (List Int)) (item_2 : Int) : Option (List Int) :=
  (((loopM (fun s : (Int × (List Int)) => m_spec_l19Free_B4 p_0 list_1 item_2 s.1 s.2) ((0 : Int), ([] : (List Int)))) : Option (List Int)).bind fun x3 => some x3)

noncomputable def m_spec_FreeChannels (p_0 : GProblem) (list_1 : (List Int)) (item_2 : Int) : Option ((List Int) × Int) :=
  ((m_spec_l19Ask p_0 list_1 item_2).bind fun x1 => (bif (x1 != (0 : Int)) then some (([] : (List Int)), x1) else ((m_spec_l19Free p_0 list_1 item_2).bind fun x3 => some (x3, (0 : Int)))))

noncomputable def m_impl_FreeChannels (p_0 : GProblem) (list_1 : (List Int)) (item_2 : Int) : Option ((List Int) × Int) :=
  ((m_impl_stateCode p_0 list_1 ([item_2] : (List Int))).bind fun x1 => (bif (x1 != (0 : Int)) then some (([] : (List Int)), x1) else ((m_impl_Problem_choices p_0 list_1 item_2).bind fun x3 => some (x3, (0 : Int)))))

noncomputable def m_laws_FnExactFreeChannels (a_0 : GProblem) (a_1 : (List Int)) (a_2 : Int) : Option Bool :=
  (bif (decide ((1048576 : Int) < (a_1.length : Int))) then some true else ((m_laws_szProblem a_0 (1048576 : Int)).bind fun x1 => (bif (decide (x1 < (0 : Int))) then some true else ((m_laws_toProblem a_0).bind fun x2 => ((m_laws_toInt64S a_1).bind fun x3 => ((m_spec_FreeChannels x2 x3 a_2).bind fun x4 => ((m_laws_toProblem a_0).bind fun x5 => ((m_laws_toInt64S a_1).bind fun x11 => ((m_impl_FreeChannels x5 x11 a_2).bind fun x14 => ((((m_laws_eqInt64S x14.1 x4.1).bind fun x18 => (bif (!x18) then some true else some (x14.2 != x4.2))) : Option Bool).bind fun x17 => (bif x17 then some false else ((m_laws_toProblem a_0).bind fun x21 => ((m_laws_eqProblem x5 x21).bind fun x22 => (bif (!x22) then some false else ((m_laws_toInt64S a_1).bind fun x23 => ((m_laws_eqInt64S x11 x23).bind fun x24 => (bif (!x24) then some false else ((m_laws_markProblem x5 (1 : Int)).bind fun x25 => ((m_laws_markInt64S x11 x25.1).bind fun x27 => (((bif (decide (x27.1 < (0 : Int))) then some true else ((m_laws_eqInt64S x14.1 x4.1).bind fun x31 => (bif (!x31) then some true else some (x14.2 != x4.2)))) : Option Bool).bind fun x29 => (bif x29 then some false else ((m_laws_markInt64S x14.1 (1 : Int)).bind fun x34 => ((m_laws_heldInt64S x34.2 (1 : Int)).bind fun x36 => (bif (decide (x36 < (0 : Int))) then some false else (bif (x36 != x34.1) then some false else ((m_laws_toProblem a_0).bind fun x37 => ((m_laws_toInt64S a_1).bind fun x38 => ((m_impl_FreeChannels x37 x38 a_2).bind fun x39 => ((((m_laws_eqInt64S x39.1 x4.1).bind fun x41 => (bif (!x41) then some true else some (x39.2 != x4.2))) : Option Bool).bind fun x40 => (bif x40 then some false else ((m_laws_heldInt64S x34.2 (1 : Int)).bind fun x44 => (bif (decide (x44 < (0 : Int))) then some false else (bif (x44 != x34.1) then some false else some true)))))))))))))))))))))))))))))))))

noncomputable def m_spec_RepairItem (p_0 : GProblem) (list_1 : (List Int)) (item_2 : Int) : Option ((List Int) × Int) :=
  ((m_spec_l19Ask p_0 list_1 item_2).bind fun x1 => (bif (x1 != (0 : Int)) then some (([] : (List Int)), x1) else ((m_spec_l19Free p_0 list_1 item_2).bind fun x3 => (bif ((x3.length : Int) == (0 : Int)) then some (([] : (List Int)), (3 : Int)) else ((m_spec_l00Own list_1).bind fun x5 => ((idx x3 (0 : Int)).bind fun x8 => ((inB x5 item_2).bind fun u9 => some ((x5.set (item_2).toNat x8), (0 : Int)))))))))

noncomputable def m_impl_RepairItem (p_0 : GProblem) (list_1 : (List Int)) (item_2 : Int) : Option ((List Int) × Int) :=
  ((m_impl_FreeChannels p_0 list_1 item_2).bind fun x1 => (bif (x1.2 != (0 : Int)) then some (([] : (List Int)), x1.2) else (bif ((x1.1.length : Int) == (0 : Int)) then some (([] : (List Int)), (3 : Int)) else ((m_slices_Clone_int64_int64 list_1).bind fun x4 => ((idx x1.1 (0 : Int)).bind fun x7 => ((inB x4 item_2).bind fun u8 => some ((x4.set (item_2).toNat x7), (0 : Int))))))))

noncomputable def m_laws_FnExactRepairItem (a_0 : GProblem) (a_1 : (List Int)) (a_2 : Int) : Option Bool :=
  (bif (decide ((1048576 : Int) < (a_1.length : Int))) then some true else ((m_laws_szProblem a_0 (1048576 : Int)).bind fun x1 => (bif (decide (x1 < (0 : Int))) then some true else ((m_laws_toProblem a_0).bind fun x2 => ((m_laws_toInt64S a_1).bind fun x3 => ((m_spec_RepairItem x2 x3 a_2).bind fun x4 => ((m_laws_toProblem a_0).bind fun x5 => ((m_laws_toInt64S a_1).bind fun x11 => ((m_impl_RepairItem x5 x11 a_2).bind fun x14 => ((((m_laws_eqInt64S x14.1 x4.1).bind fun x18 => (bif (!x18) then some true else some (x14.2 != x4.2))) : Option Bool).bind fun x17 => (bif x17 then some false else ((m_laws_toProblem a_0).bind fun x21 => ((m_laws_eqProblem x5 x21).bind fun x22 => (bif (!x22) then some false else ((m_laws_toInt64S a_1).bind fun x23 => ((m_laws_eqInt64S x11 x23).bind fun x24 => (bif (!x24) then some false else ((m_laws_markProblem x5 (1 : Int)).bind fun x25 => ((m_laws_markInt64S x11 x25.1).bind fun x27 => (((bif (decide (x27.1 < (0 : Int))) then some true else ((m_laws_eqInt64S x14.1 x4.1).bind fun x31 => (bif (!x31) then some true else some (x14.2 != x4.2)))) : Option Bool).bind fun x29 => (bif x29 then some false else ((m_laws_markInt64S x14.1 (1 : Int)).bind fun x34 => ((m_laws_heldInt64S x34.2 (1 : Int)).bind fun x36 => (bif (decide (x36 < (0 : Int))) then some false else (bif (x36 != x34.1) then some false else ((m_laws_toProblem a_0).bind fun x37 => ((m_laws_toInt64S a_1).bind fun x38 => ((m_impl_RepairItem x37 x38 a_2).bind fun x39 => ((((m_laws_eqInt64S x39.1 x4.1).bind fun x41 => (bif (!x41) then some true else some (x39.2 != x4.2))) : Option Bool).bind fun x40 => (bif x40 then some false else ((m_laws_heldInt64S x34.2 (1 : Int)).bind fun x44 => (bif (decide (x44 < (0 : Int))) then some false else (bif (x44 != x34.1) then some false else some true)))))))))))))))))))))))))))))))))
end Go.Wk
