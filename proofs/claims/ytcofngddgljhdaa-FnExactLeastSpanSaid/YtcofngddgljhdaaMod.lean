/-
  The functions as pure Lean. Printed by our own program.
-/
import Derived.Test.YtcofngddgljhdaaZero
namespace Go.Wk
open Go Go.RowKit Go.Wk
set_option linter.unusedVariables false
structure GProblem where
  Domains : (List (List Int))
  Apart : (List (List Int))
abbrev cGProblem (b : GProblem) : List Pd := [(pSl 1 (cSl 1 (cK .i64)) b.Domains), (pSl 1 (cSl 1 (cK .i64)) b.Apart)]
abbrev okGProblem (b : GProblem) : Prop := (b.Domains.length ≤ maxLen ∧ ∀ x ∈ b.Domains, (x.length ≤ maxLen ∧ ∀ xy ∈ x, ((Lit.int .i64 xy).wf = true))) ∧ (b.Apart.length ≤ maxLen ∧ ∀ x ∈ b.Apart, (x.length ≤ maxLen ∧ ∀ xy ∈ x, ((Lit.int .i64 xy).wf = true)))
structure GL17Search where
  p : GProblem
  apart : Int
  chosen : (List Int)
  best : (List Int)
  nodes : Int
  budget : Int
abbrev cGL17Search (b : GL17Search) : List Pd := [(pPtr (cGProblem b.p)), (pEq (.int .i64 b.apart)), (pSl 1 (cK .i64) b.chosen), (pSl 1 (cK .i64) b.best), (pEq (.int .i64 b.nodes)), (pEq (.int .i64 b.budget))]
structure GCliqueSearch where
  problem : GProblem
  apart : Int
  budget : Int
  items : (List Int)
  best : (List Int)
abbrev cGCliqueSearch (b : GCliqueSearch) : List Pd := [(pSl 1 (cSl 1 (cK .i64)) b.problem.Domains), (pSl 1 (cSl 1 (cK .i64)) b.problem.Apart), (pEq (.int .i64 b.apart)), (pEq (.int .i64 b.budget)), (pSl 1 (cK .i64) b.items), (pSl 1 (cK .i64) b.best)]
abbrev okGCliqueSearch (b : GCliqueSearch) : Prop := (okGProblem b.problem) ∧ ((Lit.int .i64 b.apart).wf = true) ∧ ((Lit.int .i64 b.budget).wf = true) ∧ (b.items.length ≤ maxLen ∧ ∀ x ∈ b.items, ((Lit.int .i64 x).wf = true)) ∧ (b.best.length ≤ maxLen ∧ ∀ x ∈ b.best, ((Lit.int .i64 x).wf = true))
structure GL18Search where
  p : GProblem
  list : (List Int)
  span : Int
  nodes : Int
  budget : Int
  count : Int
  first : (List Int)
  stop : Bool
abbrev cGL18Search (b : GL18Search) : List Pd := [(pPtr (cGProblem b.p)), (pSl 1 (cK .i64) b.list), (pEq (.int .i64 b.span)), (pEq (.int .i64 b.nodes)), (pEq (.int .i64 b.budget)), (pEq (.int .i64 b.count)), (pSl 1 (cK .i64) b.first), (pEq (.bool b.stop))]
structure GAssignSearch where
  problem : GProblem
  budget : Int
  first : Bool
  span : Int
  list : (List Int)
  found : Int
abbrev cGAssignSearch (b : GAssignSearch) : List Pd := [(pSl 1 (cSl 1 (cK .i64)) b.problem.Domains), (pSl 1 (cSl 1 (cK .i64)) b.problem.Apart), (pEq (.int .i64 b.budget)), (pEq (.bool b.first)), (pEq (.int .i64 b.span)), (pSl 1 (cK .i64) b.list), (pEq (.int .i64 b.found))]
abbrev okGAssignSearch (b : GAssignSearch) : Prop := (okGProblem b.problem) ∧ ((Lit.int .i64 b.budget).wf = true) ∧ True ∧ ((Lit.int .i64 b.span).wf = true) ∧ (b.list.length ≤ maxLen ∧ ∀ x ∈ b.list, ((Lit.int .i64 x).wf = true)) ∧ ((Lit.int .i64 b.found).wf = true)
noncomputable def m_laws_szInt64S (a_0 : (List Int)) (left_1 : Int) : Option Int :=
  (bif (decide ((w64 (left_1 - (a_0.length : Int))) < (0 : Int))) then some (-1 : Int) else some (w64 (left_1 - (a_0.length : Int))))

noncomputable def m_laws_szInt64SS_B1 (a_0 : (List (List Int))) (v2 : Int) (v3 : Int) : Option ((Int × Int) ⊕ Int) :=
  (bif (decide (v3 < (a_0.length : Int))) then ((idx a_0 v3).bind fun x5 => ((m_laws_szInt64S x5 v2).bind fun x6 => (bif (decide (x6 < (0 : Int))) then Option.map Sum.inr (some (-1 : Int)) else some (Sum.inl (x6, (w64 (v3 + (1 : Int)))))))) else Option.map Sum.inr (some v2))
noncomputable def m_laws_szInt64SS (a_0 : (List (List Int))) (left_1 : Int) : Option Int :=
  (bif (decide ((w64 (left_1 - (a_0.length : Int))) < (0 : Int))) then some (-1 : Int) else (loopM (fun s : (Int × Int) => m_laws_szInt64SS_B1 a_0 s.1 s.2) ((w64 (left_1 - (a_0.length : Int))), (0 : Int))))

noncomputable def m_laws_szProblem (a_0 : GProblem) (left_1 : Int) : Option Int :=
  ((m_laws_szInt64SS a_0.Domains left_1).bind fun x1 => (bif (decide (x1 < (0 : Int))) then some (-1 : Int) else ((m_laws_szInt64SS a_0.Apart x1).bind fun x2 => (bif (decide (x2 < (0 : Int))) then some (-1 : Int) else some x2))))

noncomputable def m_laws_toInt64S_B5 (a_0 : (List Int)) (v6 : Int) (v7 : (List Int)) : Option ((Int × (List Int)) ⊕ (List Int)) :=
  (bif (decide (v6 < (a_0.length : Int))) then ((idx a_0 v6).bind fun x9 => ((inB v7 v6).bind fun u10 => some (Sum.inl ((w64 (v6 + (1 : Int))), (v7.set (v6).toNat x9))))) else Option.map Sum.inr (some v7))
noncomputable def m_laws_toInt64S (a_0 : (List Int)) : Option (List Int) :=
  ((mkL 8 (a_0.length : Int) (0 : Int)).bind fun x1 => (((loopM (fun s : (Int × (List Int)) => m_laws_toInt64S_B5 a_0 s.1 s.2) ((0 : Int), x1)) : Option (List Int)).bind fun x4 => some x4))

noncomputable def m_laws_toInt64SS_B5 (a_0 : (List (List Int))) (v6 : Int) (v7 : (List (List Int))) : Option ((Int × (List (List Int))) ⊕ (List (List Int))) :=
  (bif (decide (v6 < (a_0.length : Int))) then ((idx a_0 v6).bind fun x9 => ((m_laws_toInt64S x9).bind fun x10 => ((inB v7 v6).bind fun u13 => some (Sum.inl ((w64 (v6 + (1 : Int))), (v7.set (v6).toNat x10)))))) else Option.map Sum.inr (some v7))
noncomputable def m_laws_toInt64SS (a_0 : (List (List Int))) : Option (List (List Int)) :=
  ((mkL 24 (a_0.length : Int) ([] : (List Int))).bind fun x1 => (((loopM (fun s : (Int × (List (List Int))) => m_laws_toInt64SS_B5 a_0 s.1 s.2) ((0 : Int), x1)) : Option (List (List Int))).bind fun x4 => some x4))

noncomputable def m_laws_toProblem (a_0 : GProblem) : Option GProblem :=
  ((m_laws_toInt64SS a_0.Domains).bind fun x3 => ((m_laws_toInt64SS a_0.Apart).bind fun x7 => some (GProblem.mk x3 x7)))

noncomputable def m_spec_l00In (n_0 : Int) (low_1 : Int) (high_2 : Int) : Option Bool :=
  (((bif (decide (low_1 ≤ n_0)) then some (decide (n_0 ≤ high_2)) else some false) : Option Bool).bind fun x1 => some x1)

noncomputable def m_spec_l00Rises_B1 (list_0 : (List Int)) (low_1 : Int) (high_2 : Int) (v2 : Int) : Option (Int ⊕ Bool) :=
  (bif (decide (v2 < (list_0.length : Int))) then ((((idx list_0 v2).bind fun x5 => ((m_spec_l00In x5 low_1 high_2).bind fun x6 => (bif (!x6) then some true else (bif (decide ((0 : Int) < v2)) then ((idx list_0 (w64 (v2 - (1 : Int)))).bind fun x9 => ((idx list_0 v2).bind fun x10 => some (decide (x10 ≤ x9)))) else some false)))) : Option Bool).bind fun x4 => (bif x4 then Option.map Sum.inr (some false) else some (Sum.inl (w64 (v2 + (1 : Int)))))) else Option.map Sum.inr (some true))
noncomputable def m_spec_l00Rises (list_0 : (List Int)) (low_1 : Int) (high_2 : Int) : Option Bool :=
  (loopM (fun s : Int => m_spec_l00Rises_B1 list_0 low_1 high_2 s) (0 : Int))

noncomputable def m_spec_l17Domain (list_0 : (List Int)) : Option Bool :=
  (((bif (decide ((0 : Int) < (list_0.length : Int))) then (bif (decide ((list_0.length : Int) ≤ (32 : Int))) then ((m_spec_l00Rises list_0 (0 : Int) (999 : Int)).bind fun x4 => some x4) else some false) else some false) : Option Bool).bind fun x1 => some x1)

noncomputable def m_spec_l17Ok_B17 (a_0 : GProblem) (v6 : Int) (v18 : Int) : Option (Int ⊕ (Int ⊕ Bool)) :=
  (bif (decide (v18 < (a_0.Domains.length : Int))) then ((((idx a_0.Apart v6).bind fun x21 => ((idx x21 v18).bind fun x22 => ((m_spec_l00In x22 (0 : Int) (100 : Int)).bind fun x23 => (bif (!x23) then some true else (bif (decide (v18 < v6)) then ((idx a_0.Apart v18).bind fun x26 => ((idx x26 v6).bind fun x27 => ((idx a_0.Apart v6).bind fun x28 => ((idx x28 v18).bind fun x29 => some (x27 != x29))))) else some false))))) : Option Bool).bind fun x20 => (bif x20 then Option.map Sum.inr (Option.map Sum.inr (some false)) else some (Sum.inl (w64 (v18 + (1 : Int)))))) else Option.map Sum.inr (some (Sum.inl (w64 (v6 + (1 : Int))))))
noncomputable def m_spec_l17Ok_B5 (a_0 : GProblem) (v6 : Int) : Option (Int ⊕ Bool) :=
  (bif (decide (v6 < (a_0.Domains.length : Int))) then ((((idx a_0.Domains v6).bind fun x9 => ((m_spec_l17Domain x9).bind fun x10 => (bif (!x10) then some true else ((idx a_0.Apart v6).bind fun x12 => (bif ((x12.length : Int) != (a_0.Domains.length : Int)) then some true else ((idx a_0.Apart v6).bind fun x14 => ((idx x14 v6).bind fun x15 => some (x15 != (0 : Int))))))))) : Option Bool).bind fun x8 => (bif x8 then Option.map Sum.inr (some false) else (loopM (fun s : Int => m_spec_l17Ok_B17 a_0 v6 s) (0 : Int)))) else Option.map Sum.inr (some true))
noncomputable def m_spec_l17Ok (a_0 : GProblem) : Option Bool :=
  (((bif (decide ((a_0.Domains.length : Int) < (1 : Int))) then some true else (bif (decide ((24 : Int) < (a_0.Domains.length : Int))) then some true else some ((a_0.Apart.length : Int) != (a_0.Domains.length : Int)))) : Option Bool).bind fun x1 => (bif x1 then some false else (loopM (fun s : Int => m_spec_l17Ok_B5 a_0 s) (0 : Int))))

noncomputable def m_spec_ValidProblem (p_0 : GProblem) : Option Bool :=
  ((m_spec_l17Ok p_0).bind fun x1 => some x1)

noncomputable def m_spec_l19State_B1 (list_1 : (List Int)) (v2 : Int) : Option (Int ⊕ Bool) :=
  (bif (decide (v2 < (list_1.length : Int))) then ((idx list_1 v2).bind fun x4 => ((m_spec_l00In x4 (0 : Int) (999 : Int)).bind fun x5 => (bif (!x5) then Option.map Sum.inr (some false) else some (Sum.inl (w64 (v2 + (1 : Int))))))) else Option.map Sum.inr (some true))
noncomputable def m_spec_l19State (p_0 : GProblem) (list_1 : (List Int)) : Option Bool :=
  (bif ((list_1.length : Int) != (p_0.Domains.length : Int)) then some false else (loopM (fun s : Int => m_spec_l19State_B1 list_1 s) (0 : Int)))

noncomputable def m_spec_l19Ask (p_0 : GProblem) (list_1 : (List Int)) (item_2 : Int) : Option Int :=
  ((m_spec_ValidProblem p_0).bind fun x1 => (bif (!x1) then some (1 : Int) else ((m_spec_l19State p_0 list_1).bind fun x2 => (bif (!x2) then some (6 : Int) else ((m_spec_l00In item_2 (0 : Int) (w64 ((list_1.length : Int) - (1 : Int)))).bind fun x3 => (bif (!x3) then some (2 : Int) else some (0 : Int)))))))

noncomputable def m_spec_l19Near (x_0 : Int) (y_1 : Int) (apart_2 : Int) : Option Bool :=
  (((bif (decide ((w64 (x_0 - y_1)) < apart_2)) then some (decide ((w64 (y_1 - x_0)) < apart_2)) else some false) : Option Bool).bind fun x1 => some x1)

noncomputable def m_spec_l19Conflicts_B2 (p_0 : GProblem) (list_1 : (List Int)) (item_2 : Int) (channel_3 : Int) (v3 : Int) (v4 : Int) : Option ((Int × Int) ⊕ Int) :=
  (bif (decide (v4 < (list_1.length : Int))) then (((bif (v4 != item_2) then ((idx list_1 v4).bind fun x8 => ((idx p_0.Apart item_2).bind fun x9 => ((idx x9 v4).bind fun x10 => ((m_spec_l19Near channel_3 x8 x10).bind fun x11 => some x11)))) else some false) : Option Bool).bind fun x6 => (((bif x6 then some (w64 (v3 + (1 : Int))) else some v3) : Option Int).bind fun x13 => some (Sum.inl (x13, (w64 (v4 + (1 : Int))))))) else Option.map Sum.inr (some v3))
noncomputable def m_spec_l19Conflicts (p_0 : GProblem) (list_1 : (List Int)) (item_2 : Int) (channel_3 : Int) : Option Int :=
  (((loopM (fun s : (Int × Int) => m_spec_l19Conflicts_B2 p_0 list_1 item_2 channel_3 s.1 s.2) ((0 : Int), (0 : Int))) : Option Int).bind fun x1 => some x1)

noncomputable def m_spec_l00Has_B1 (list_0 : (List Int)) (n_1 : Int) (v2 : Int) : Option (Int ⊕ Bool) :=
  (bif (decide (v2 < (list_0.length : Int))) then ((idx list_0 v2).bind fun x4 => (bif (x4 == n_1) then Option.map Sum.inr (some true) else some (Sum.inl (w64 (v2 + (1 : Int)))))) else Option.map Sum.inr (some false))
noncomputable def m_spec_l00Has (list_0 : (List Int)) (n_1 : Int) : Option Bool :=
  (loopM (fun s : Int => m_spec_l00Has_B1 list_0 n_1 s) (0 : Int))

noncomputable def m_spec_l19Bad (p_0 : GProblem) (list_1 : (List Int)) (item_2 : Int) : Option Int :=
  ((idx list_1 item_2).bind fun x1 => ((m_spec_l19Conflicts p_0 list_1 item_2 x1).bind fun x2 => ((idx p_0.Domains item_2).bind fun x3 => ((idx list_1 item_2).bind fun x4 => ((m_spec_l00Has x3 x4).bind fun x5 => (((bif (!x5) then some (w64 (x2 + (24 : Int))) else some x2) : Option Int).bind fun x6 => some x6))))))

noncomputable def m_spec_ViolatingItems_B6 (p_0 : GProblem) (list_1 : (List Int)) (v7 : Int) (v8 : (List Int)) : Option ((Int × (List Int)) ⊕ (List Int)) :=
  (bif (decide (v7 < (list_1.length : Int))) then ((m_spec_l19Bad p_0 list_1 v7).bind fun x10 => (((bif (decide ((0 : Int) < x10)) then ((appL 8 v8 ([v7] : (List Int))).bind fun x12 => some x12) else some v8) : Option (List Int)).bind fun x11 => some (Sum.inl ((w64 (v7 + (1 : Int))), x11)))) else Option.map Sum.inr (some v8))
noncomputable def m_spec_ViolatingItems (p_0 : GProblem) (list_1 : (List Int)) : Option ((List Int) × Int) :=
  ((m_spec_l19Ask p_0 list_1 (0 : Int)).bind fun x1 => (bif (x1 != (0 : Int)) then some (([] : (List Int)), x1) else (((loopM (fun s : (Int × (List Int)) => m_spec_ViolatingItems_B6 p_0 list_1 s.1 s.2) ((0 : Int), ([] : (List Int)))) : Option (List Int)).bind fun x5 => some (x5, (0 : Int)))))

noncomputable def m_slices_IndexFunc_SSint64_int64_B1 (s_0 : (List (List Int))) (f_1 : ((List Int) → Option Bool)) (v2 : Int) : Option (Int ⊕ Int) :=
  (bif (decide (v2 < (s_0.length : Int))) then ((idx s_0 v2).bind fun x4 => ((f_1 x4).bind fun x5 => (bif x5 then Option.map Sum.inr (some v2) else some (Sum.inl (w64 (v2 + (1 : Int))))))) else Option.map Sum.inr (some (-1 : Int)))
noncomputable def m_slices_IndexFunc_SSint64_int64 (s_0 : (List (List Int))) (f_1 : ((List Int) → Option Bool)) : Option Int :=
  (loopM (fun s : Int => m_slices_IndexFunc_SSint64_int64_B1 s_0 f_1 s) (0 : Int))

noncomputable def m_slices_ContainsFunc_SSint64_int64 (s_0 : (List (List Int))) (f_1 : ((List Int) → Option Bool)) : Option Bool :=
  ((m_slices_IndexFunc_SSint64_int64 s_0 f_1).bind fun x1 => some (decide ((0 : Int) ≤ x1)))

noncomputable def m_impl_increasing_B1 (list_0 : (List Int)) (v2 : Int) : Option (Int ⊕ Bool) :=
  (bif (decide (v2 < (list_0.length : Int))) then ((idx list_0 v2).bind fun x4 => ((idx list_0 (w64 (v2 - (1 : Int)))).bind fun x5 => (bif (decide (x4 ≤ x5)) then Option.map Sum.inr (some false) else some (Sum.inl (w64 (v2 + (1 : Int))))))) else Option.map Sum.inr (some true))
noncomputable def m_impl_increasing (list_0 : (List Int)) : Option Bool :=
  (loopM (fun s : Int => m_impl_increasing_B1 list_0 s) (1 : Int))

noncomputable def m_impl_within (n_0 : Int) (low_1 : Int) (high_2 : Int) : Option Bool :=
  (((bif (decide (low_1 ≤ n_0)) then some (decide (n_0 ≤ high_2)) else some false) : Option Bool).bind fun x1 => some x1)

noncomputable def m_impl_allWithin_1 (n_0 : Int) (a_1 : Int) (a_2 : Int) : Option Bool :=
  ((m_impl_within n_0 a_1 a_2).bind fun x1 => some (!x1))

noncomputable def m_slices_IndexFunc_int64_int64_B1 (s_0 : (List Int)) (f_1 : (Int → Option Bool)) (v2 : Int) : Option (Int ⊕ Int) :=
  (bif (decide (v2 < (s_0.length : Int))) then ((idx s_0 v2).bind fun x4 => ((f_1 x4).bind fun x5 => (bif x5 then Option.map Sum.inr (some v2) else some (Sum.inl (w64 (v2 + (1 : Int))))))) else Option.map Sum.inr (some (-1 : Int)))
noncomputable def m_slices_IndexFunc_int64_int64 (s_0 : (List Int)) (f_1 : (Int → Option Bool)) : Option Int :=
  (loopM (fun s : Int => m_slices_IndexFunc_int64_int64_B1 s_0 f_1 s) (0 : Int))

noncomputable def m_slices_ContainsFunc_int64_int64 (s_0 : (List Int)) (f_1 : (Int → Option Bool)) : Option Bool :=
  ((m_slices_IndexFunc_int64_int64 s_0 f_1).bind fun x1 => some (decide ((0 : Int) ≤ x1)))

noncomputable def m_impl_allWithin (list_0 : (List Int)) (low_1 : Int) (high_2 : Int) : Option Bool :=
  ((m_slices_ContainsFunc_int64_int64 list_0 (fun x => m_impl_allWithin_1 x low_1 high_2)).bind fun x1 => some (!x1))

noncomputable def m_impl_domainOk (domain_0 : (List Int)) : Option Bool :=
  (((bif (decide ((1 : Int) ≤ (domain_0.length : Int))) then (bif (decide ((domain_0.length : Int) ≤ (32 : Int))) then ((m_impl_increasing domain_0).bind fun x4 => (bif x4 then ((m_impl_allWithin domain_0 (0 : Int) (999 : Int)).bind fun x6 => some x6) else some false)) else some false) else some false) : Option Bool).bind fun x1 => some x1)

noncomputable def m_impl_domainsOk_1 (d_0 : (List Int)) : Option Bool :=
  ((m_impl_domainOk d_0).bind fun x1 => some (!x1))

noncomputable def m_impl_domainsOk (domains_0 : (List (List Int))) : Option Bool :=
  (((bif (decide ((1 : Int) ≤ (domains_0.length : Int))) then (bif (decide ((domains_0.length : Int) ≤ (24 : Int))) then ((m_slices_ContainsFunc_SSint64_int64 domains_0 (fun x => m_impl_domainsOk_1 x)).bind fun x4 => some (!x4)) else some false) else some false) : Option Bool).bind fun x1 => some x1)

noncomputable def m_impl_ValidProblem_B15 (p_0 : GProblem) (v6 : Int) (x8 : (List Int)) (v16 : Int) : Option (Int ⊕ (Int ⊕ Bool)) :=
  (bif (decide (v16 < v6)) then ((idx x8 v16).bind fun x18 => ((idx p_0.Apart v16).bind fun x19 => ((idx x19 v6).bind fun x20 => (bif (x18 != x20) then Option.map Sum.inr (Option.map Sum.inr (some false)) else some (Sum.inl (w64 (v16 + (1 : Int)))))))) else Option.map Sum.inr (some (Sum.inl (w64 (v6 + (1 : Int))))))
noncomputable def m_impl_ValidProblem_B5 (p_0 : GProblem) (v6 : Int) : Option (Int ⊕ Bool) :=
  (bif (decide (v6 < (p_0.Apart.length : Int))) then ((idx p_0.Apart v6).bind fun x8 => (((bif ((x8.length : Int) != (p_0.Domains.length : Int)) then some true else ((m_impl_allWithin x8 (0 : Int) (100 : Int)).bind fun x11 => (bif (!x11) then some true else ((idx x8 v6).bind fun x13 => some (x13 != (0 : Int)))))) : Option Bool).bind fun x9 => (bif x9 then Option.map Sum.inr (some false) else (loopM (fun s : Int => m_impl_ValidProblem_B15 p_0 v6 x8 s) (0 : Int))))) else Option.map Sum.inr (some true))
noncomputable def m_impl_ValidProblem (p_0 : GProblem) : Option Bool :=
  ((((m_impl_domainsOk p_0.Domains).bind fun x2 => (bif (!x2) then some true else some ((p_0.Apart.length : Int) != (p_0.Domains.length : Int)))) : Option Bool).bind fun x1 => (bif x1 then some false else (loopM (fun s : Int => m_impl_ValidProblem_B5 p_0 s) (0 : Int))))

noncomputable def m_impl_stateCode (p_0 : GProblem) (list_1 : (List Int)) (items_2 : (List Int)) : Option Int :=
  ((m_impl_ValidProblem p_0).bind fun x1 => (bif (!x1) then some (1 : Int) else (((bif ((list_1.length : Int) != (p_0.Domains.length : Int)) then some true else ((m_impl_allWithin list_1 (0 : Int) (999 : Int)).bind fun x4 => some (!x4))) : Option Bool).bind fun x2 => (bif x2 then some (6 : Int) else ((m_impl_allWithin items_2 (0 : Int) (w64 ((list_1.length : Int) - (1 : Int)))).bind fun x6 => (bif (!x6) then some (2 : Int) else some (0 : Int)))))))

noncomputable def m_impl_Problem_items_B5 (x1 : (List Int)) (v6 : Int) (v7 : (List Int)) : Option ((Int × (List Int)) ⊕ (List Int)) :=
  (bif (decide (v6 < (x1.length : Int))) then ((inB v7 v6).bind fun u9 => some (Sum.inl ((w64 (v6 + (1 : Int))), (v7.set (v6).toNat v6)))) else Option.map Sum.inr (some v7))
noncomputable def m_impl_Problem_items (p_0 : GProblem) : Option (List Int) :=
  ((mkL 8 (p_0.Domains.length : Int) (0 : Int)).bind fun x1 => (((loopM (fun s : (Int × (List Int)) => m_impl_Problem_items_B5 x1 s.1 s.2) ((0 : Int), x1)) : Option (List Int)).bind fun x4 => some x4))

noncomputable def m_impl_abs (n_0 : Int) : Option Int :=
  some (if (w64 (0 - n_0)) > n_0 then (w64 (0 - n_0)) else n_0)

noncomputable def m_impl_Problem_conflicts_B2 (p_0 : GProblem) (list_1 : (List Int)) (item_2 : Int) (channel_3 : Int) (v3 : Int) (v4 : Int) : Option ((Int × Int) ⊕ Int) :=
  (bif (decide (v4 < (list_1.length : Int))) then ((idx list_1 v4).bind fun x6 => (((bif (v4 != item_2) then ((m_impl_abs (w64 (channel_3 - x6))).bind fun x9 => ((idx p_0.Apart item_2).bind fun x10 => ((idx x10 v4).bind fun x11 => some (decide (x9 < x11))))) else some false) : Option Bool).bind fun x7 => (((bif x7 then some (w64 (v3 + (1 : Int))) else some v3) : Option Int).bind fun x13 => some (Sum.inl (x13, (w64 (v4 + (1 : Int)))))))) else Option.map Sum.inr (some v3))
noncomputable def m_impl_Problem_conflicts (p_0 : GProblem) (list_1 : (List Int)) (item_2 : Int) (channel_3 : Int) : Option Int :=
  (((loopM (fun s : (Int × Int) => m_impl_Problem_conflicts_B2 p_0 list_1 item_2 channel_3 s.1 s.2) ((0 : Int), (0 : Int))) : Option Int).bind fun x1 => some x1)

noncomputable def m_slices_Index_int64_int64_B1 (s_0 : (List Int)) (v_1 : Int) (v2 : Int) : Option (Int ⊕ Int) :=
  (bif (decide (v2 < (s_0.length : Int))) then ((idx s_0 v2).bind fun x4 => (bif (v_1 == x4) then Option.map Sum.inr (some v2) else some (Sum.inl (w64 (v2 + (1 : Int)))))) else Option.map Sum.inr (some (-1 : Int)))
noncomputable def m_slices_Index_int64_int64 (s_0 : (List Int)) (v_1 : Int) : Option Int :=
  (loopM (fun s : Int => m_slices_Index_int64_int64_B1 s_0 v_1 s) (0 : Int))

noncomputable def m_slices_Contains_int64_int64 (s_0 : (List Int)) (v_1 : Int) : Option Bool :=
  ((m_slices_Index_int64_int64 s_0 v_1).bind fun x1 => some (decide ((0 : Int) ≤ x1)))

noncomputable def m_impl_Problem_badness (p_0 : GProblem) (list_1 : (List Int)) (item_2 : Int) : Option Int :=
  ((idx list_1 item_2).bind fun x1 => ((m_impl_Problem_conflicts p_0 list_1 item_2 x1).bind fun x2 => ((idx p_0.Domains item_2).bind fun x3 => ((idx list_1 item_2).bind fun x4 => ((m_slices_Contains_int64_int64 x3 x4).bind fun x5 => (((bif (!x5) then some (w64 (x2 + (24 : Int))) else some x2) : Option Int).bind fun x6 => some x6))))))

noncomputable def m_impl_ViolatingItems_1 (i_0 : Int) (a_1 : GProblem) (a_2 : (List Int)) : Option Bool :=
  ((m_impl_Problem_badness a_1 a_2 i_0).bind fun x1 => some (x1 == (0 : Int)))

noncomputable def m_slices_DeleteFunc_int64_int64_B4 (del_1 : (Int → Option Bool)) (v5 : Int) (v6 : Int) (v7 : (List Int)) : Option ((Int × Int × (List Int)) ⊕ (Int × (List Int))) :=
  (bif (decide (v6 < (v7.length : Int))) then ((idx v7 v6).bind fun x9 => ((del_1 x9).bind fun x10 => (((bif (!x10) then ((inB v7 v5).bind fun u12 => some ((w64 (v5 + (1 : Int))), (v7.set (v5).toNat x9))) else some (v5, v7)) : Option (Int × (List Int))).bind fun x11 => some (Sum.inl (x11.1, (w64 (v6 + (1 : Int))), x11.2))))) else Option.map Sum.inr (some (v5, v7)))
noncomputable def m_slices_DeleteFunc_int64_int64 (s_0 : (List Int)) (del_1 : (Int → Option Bool)) : Option (List Int) :=
  ((m_slices_IndexFunc_int64_int64 s_0 del_1).bind fun x2 => (bif (x2 == (-1 : Int)) then some s_0 else (((loopM (fun s : (Int × Int × (List Int)) => m_slices_DeleteFunc_int64_int64_B4 del_1 s.1 s.2.1 s.2.2) (x2, (w64 (x2 + (1 : Int))), s_0)) : Option (Int × (List Int))).bind fun x3 => ((cutB x3.2 x3.1).bind fun u16 => ((cutB (over x3.2 (x3.1).toNat (List.replicate (x3.2.length - (x3.1).toNat) (0 : Int))) x3.1).bind fun u18 => some ((over x3.2 (x3.1).toNat (List.replicate (x3.2.length - (x3.1).toNat) (0 : Int))).take (x3.1).toNat))))))

noncomputable def m_impl_ViolatingItems (p_0 : GProblem) (list_1 : (List Int)) : Option ((List Int) × Int) :=
  ((m_impl_stateCode p_0 list_1 ([] : (List Int))).bind fun x1 => (bif (x1 != (0 : Int)) then some (([] : (List Int)), x1) else ((m_impl_Problem_items p_0).bind fun x3 => ((m_slices_DeleteFunc_int64_int64 x3 (fun x => m_impl_ViolatingItems_1 x p_0 list_1)).bind fun x6 => some (x6, (0 : Int))))))

noncomputable def m_laws_eqInt64S_B1 (a_0 : (List Int)) (b_1 : (List Int)) (v2 : Int) : Option (Int ⊕ Bool) :=
  (bif (decide (v2 < (a_0.length : Int))) then ((idx a_0 v2).bind fun x4 => ((idx b_1 v2).bind fun x5 => (bif (x4 != x5) then Option.map Sum.inr (some false) else some (Sum.inl (w64 (v2 + (1 : Int))))))) else Option.map Sum.inr (some true))
noncomputable def m_laws_eqInt64S (a_0 : (List Int)) (b_1 : (List Int)) : Option Bool :=
  (bif ((a_0.length : Int) != (b_1.length : Int)) then some false else (loopM (fun s : Int => m_laws_eqInt64S_B1 a_0 b_1 s) (0 : Int)))

noncomputable def m_laws_eqInt64SS_B1 (a_0 : (List (List Int))) (b_1 : (List (List Int))) (v2 : Int) : Option (Int ⊕ Bool) :=
  (bif (decide (v2 < (a_0.length : Int))) then ((idx a_0 v2).bind fun x4 => ((idx b_1 v2).bind fun x5 => ((m_laws_eqInt64S x4 x5).bind fun x6 => (bif (!x6) then Option.map Sum.inr (some false) else some (Sum.inl (w64 (v2 + (1 : Int)))))))) else Option.map Sum.inr (some true))
noncomputable def m_laws_eqInt64SS (a_0 : (List (List Int))) (b_1 : (List (List Int))) : Option Bool :=
  (bif ((a_0.length : Int) != (b_1.length : Int)) then some false else (loopM (fun s : Int => m_laws_eqInt64SS_B1 a_0 b_1 s) (0 : Int)))

noncomputable def m_laws_eqProblem (a_0 : GProblem) (b_1 : GProblem) : Option Bool :=
  ((m_laws_eqInt64SS a_0.Domains b_1.Domains).bind fun x1 => (bif (!x1) then some false else ((m_laws_eqInt64SS a_0.Apart b_1.Apart).bind fun x2 => (bif (!x2) then some false else some true))))

noncomputable def m_laws_markInt64S_B3  (v4 : Int) (v5 : Int) (v6 : (List Int)) : Option ((Int × Int × (List Int)) ⊕ (Int × (List Int))) :=
  (bif (decide (v5 < (v6.length : Int))) then ((inB v6 v5).bind fun u8 => some (Sum.inl ((w64 (v4 + (1 : Int))), (w64 (v5 + (1 : Int))), (v6.set (v5).toNat v4)))) else Option.map Sum.inr (some (v4, v6)))
noncomputable def m_laws_markInt64S (a_0 : (List Int)) (k_1 : Int) : Option (Int × (List Int)) :=
  (((loopM (fun s : (Int × Int × (List Int)) => m_laws_markInt64S_B3  s.1 s.2.1 s.2.2) (k_1, (0 : Int), a_0)) : Option (Int × (List Int))).bind fun x2 => some (x2.1, x2.2))

noncomputable def m_laws_markInt64SS_B3  (v4 : Int) (v5 : Int) (v6 : (List (List Int))) : Option ((Int × Int × (List (List Int))) ⊕ (Int × (List (List Int)))) :=
  (bif (decide (v5 < (v6.length : Int))) then ((idx v6 v5).bind fun x8 => ((m_laws_markInt64S x8 v4).bind fun x10 => some (Sum.inl (x10.1, (w64 (v5 + (1 : Int))), (v6.set (v5).toNat x10.2))))) else Option.map Sum.inr (some (v4, v6)))
noncomputable def m_laws_markInt64SS (a_0 : (List (List Int))) (k_1 : Int) : Option (Int × (List (List Int))) :=
  (((loopM (fun s : (Int × Int × (List (List Int))) => m_laws_markInt64SS_B3  s.1 s.2.1 s.2.2) (k_1, (0 : Int), a_0)) : Option (Int × (List (List Int)))).bind fun x2 => some (x2.1, x2.2))

noncomputable def m_laws_markProblem (a_0 : GProblem) (k_1 : Int) : Option (Int × (List (List Int)) × (List (List Int))) :=
  ((m_laws_markInt64SS a_0.Domains k_1).bind fun x4 => ((m_laws_markInt64SS a_0.Apart x4.1).bind fun x6 => some (x6.1, x4.2, x6.2)))

noncomputable def m_laws_heldInt64S_B1 (a_0 : (List Int)) (v2 : Int) (v3 : Int) : Option ((Int × Int) ⊕ Int) :=
  (bif (decide (v3 < (a_0.length : Int))) then ((idx a_0 v3).bind fun x5 => (bif (x5 != v2) then Option.map Sum.inr (some (-1 : Int)) else some (Sum.inl ((w64 (v2 + (1 : Int))), (w64 (v3 + (1 : Int))))))) else Option.map Sum.inr (some v2))
noncomputable def m_laws_heldInt64S (a_0 : (List Int)) (k_1 : Int) : Option Int :=
  (loopM (fun s : (Int × Int) => m_laws_heldInt64S_B1 a_0 s.1 s.2) (k_1, (0 : Int)))

noncomputable def m_laws_FnExactViolatingItems (a_0 : GProblem) (a_1 : (List Int)) : Option Bool :=
  (bif (decide ((1048576 : Int) < (a_1.length : Int))) then some true else ((m_laws_szProblem a_0 (1048576 : Int)).bind fun x1 => (bif (decide (x1 < (0 : Int))) then some true else ((m_laws_toProblem a_0).bind fun x2 => ((m_laws_toInt64S a_1).bind fun x3 => ((m_spec_ViolatingItems x2 x3).bind fun x4 => ((m_laws_toProblem a_0).bind fun x5 => ((m_laws_toInt64S a_1).bind fun x11 => ((m_impl_ViolatingItems x5 x11).bind fun x14 => ((((m_laws_eqInt64S x14.1 x4.1).bind fun x18 => (bif (!x18) then some true else some (x14.2 != x4.2))) : Option Bool).bind fun x17 => (bif x17 then some false else ((m_laws_toProblem a_0).bind fun x21 => ((m_laws_eqProblem x5 x21).bind fun x22 => (bif (!x22) then some false else ((m_laws_toInt64S a_1).bind fun x23 => ((m_laws_eqInt64S x11 x23).bind fun x24 => (bif (!x24) then some false else ((m_laws_markProblem x5 (1 : Int)).bind fun x25 => ((m_laws_markInt64S x11 x25.1).bind fun x27 => (((bif (decide (x27.1 < (0 : Int))) then some true else ((m_laws_eqInt64S x14.1 x4.1).bind fun x31 => (bif (!x31) then some true else some (x14.2 != x4.2)))) : Option Bool).bind fun x29 => (bif x29 then some false else ((m_laws_markInt64S x14.1 (1 : Int)).bind fun x34 => ((m_laws_heldInt64S x34.2 (1 : Int)).bind fun x36 => (bif (decide (x36 < (0 : Int))) then some false else (bif (x36 != x34.1) then some false else ((m_laws_toProblem a_0).bind fun x37 => ((m_laws_toInt64S a_1).bind fun x38 => ((m_impl_ViolatingItems x37 x38).bind fun x39 => ((((m_laws_eqInt64S x39.1 x4.1).bind fun x41 => (bif (!x41) then some true else some (x39.2 != x4.2))) : Option Bool).bind fun x40 => (bif x40 then some false else ((m_laws_heldInt64S x34.2 (1 : Int)).bind fun x44 => (bif (decide (x44 < (0 : Int))) then some false else (bif (x44 != x34.1) then some false else some true)))))))))))))))))))))))))))))))))

noncomputable def m_spec_l00Own (list_0 : (List Int)) : Option (List Int) :=
  ((appL 8 ([] : (List Int)) list_0).bind fun x3 => some x3)

noncomputable def m_spec_l19Good_B1 (p_0 : GProblem) (list_1 : (List Int)) (v2 : Int) : Option (Int ⊕ Bool) :=
  (bif (decide (v2 < (list_1.length : Int))) then ((m_spec_l19Bad p_0 list_1 v2).bind fun x4 => (bif (decide ((0 : Int) < x4)) then Option.map Sum.inr (some false) else some (Sum.inl (w64 (v2 + (1 : Int)))))) else Option.map Sum.inr (some true))
noncomputable def m_spec_l19Good (p_0 : GProblem) (list_1 : (List Int)) : Option Bool :=
  (loopM (fun s : Int => m_spec_l19Good_B1 p_0 list_1 s) (0 : Int))

noncomputable def m_spec_SwapItems (p_0 : GProblem) (list_1 : (List Int)) (a_2 : Int) (b_3 : Int) : Option ((List Int) × Int) :=
  ((m_spec_l19Ask p_0 list_1 a_2).bind fun x1 => (bif (x1 != (0 : Int)) then some (([] : (List Int)), x1) else ((((m_spec_l00In b_3 (0 : Int) (w64 ((list_1.length : Int) - (1 : Int)))).bind fun x4 => (bif (!x4) then some true else some (a_2 == b_3))) : Option Bool).bind fun x3 => (bif x3 then some (([] : (List Int)), (2 : Int)) else ((m_spec_l00Own list_1).bind fun x8 => ((idx list_1 b_3).bind fun x11 => ((inB x8 a_2).bind fun u12 => ((idx list_1 a_2).bind fun x14 => ((inB (x8.set (a_2).toNat x11) b_3).bind fun u15 => ((m_spec_l19Good p_0 ((x8.set (a_2).toNat x11).set (b_3).toNat x14)).bind fun x17 => (bif (!x17) then some (([] : (List Int)), (3 : Int)) else some (((x8.set (a_2).toNat x11).set (b_3).toNat x14), (0 : Int)))))))))))))

noncomputable def m_slices_Clone_int64_int64 (s_0 : (List Int)) : Option (List Int) :=
  ((appL 8 ([] : (List Int)) s_0).bind fun x4 => some x4)

noncomputable def m_impl_Problem_isAssignment_B1 (p_0 : GProblem) (list_1 : (List Int)) (v2 : Int) : Option (Int ⊕ Bool) :=
  (bif (decide (v2 < (list_1.length : Int))) then ((idx list_1 v2).bind fun x4 => ((idx p_0.Domains v2).bind fun x5 => ((m_slices_Contains_int64_int64 x5 x4).bind fun x6 => (bif (!x6) then Option.map Sum.inr (some false) else some (Sum.inl (w64 (v2 + (1 : Int)))))))) else Option.map Sum.inr (some true))
noncomputable def m_impl_Problem_isAssignment (p_0 : GProblem) (list_1 : (List Int)) : Option Bool :=
  (bif ((list_1.length : Int) != (p_0.Domains.length : Int)) then some false else (loopM (fun s : Int => m_impl_Problem_isAssignment_B1 p_0 list_1 s) (0 : Int)))

noncomputable def m_impl_Problem_violations_B8 (p_0 : GProblem) (list_1 : (List Int)) (v4 : Int) (v9 : Int) (v10 : (List (List Int))) : Option ((Int × (List (List Int))) ⊕ (List (List Int))) :=
  (bif (decide (v9 < (list_1.length : Int))) then ((idx list_1 v4).bind fun x12 => ((idx list_1 v9).bind fun x13 => ((m_impl_abs (w64 (x12 - x13))).bind fun x14 => ((idx p_0.Apart v4).bind fun x15 => ((idx x15 v9).bind fun x16 => (((bif (decide (x14 < x16)) then ((appL 24 v10 [([v4, v9] : (List Int))]).bind fun x22 => some x22) else some v10) : Option (List (List Int))).bind fun x17 => some (Sum.inl ((w64 (v9 + (1 : Int))), x17)))))))) else Option.map Sum.inr (some v10))
noncomputable def m_impl_Problem_violations_B3 (p_0 : GProblem) (list_1 : (List Int)) (v4 : Int) (v5 : (List (List Int))) : Option ((Int × (List (List Int))) ⊕ (List (List Int))) :=
  (bif (decide (v4 < (list_1.length : Int))) then (((loopM (fun s : (Int × (List (List Int))) => m_impl_Problem_violations_B8 p_0 list_1 v4 s.1 s.2) ((w64 (v4 + (1 : Int))), v5)) : Option (List (List Int))).bind fun x7 => some (Sum.inl ((w64 (v4 + (1 : Int))), x7))) else Option.map Sum.inr (some v5))
noncomputable def m_impl_Problem_violations (p_0 : GProblem) (list_1 : (List Int)) : Option (List (List Int)) :=
  (((loopM (fun s : (Int × (List (List Int))) => m_impl_Problem_violations_B3 p_0 list_1 s.1 s.2) ((0 : Int), ([] : (List (List Int))))) : Option (List (List Int))).bind fun x2 => some x2)

noncomputable def m_impl_ValidAssignment (p_0 : GProblem) (list_1 : (List Int)) : Option Bool :=
  ((((m_impl_ValidProblem p_0).bind fun x2 => (bif x2 then ((m_impl_Problem_isAssignment p_0 list_1).bind fun x4 => (bif x4 then ((m_impl_Problem_violations p_0 list_1).bind fun x6 => some ((x6.length : Int) == (0 : Int))) else some false)) else some false)) : Option Bool).bind fun x1 => some x1)

noncomputable def m_impl_SwapItems (p_0 : GProblem) (list_1 : (List Int)) (a_2 : Int) (b_3 : Int) : Option ((List Int) × Int) :=
  ((m_impl_stateCode p_0 list_1 ([a_2, b_3] : (List Int))).bind fun x1 => (bif (x1 != (0 : Int)) then some (([] : (List Int)), x1) else (bif (a_2 == b_3) then some (([] : (List Int)), (2 : Int)) else ((m_slices_Clone_int64_int64 list_1).bind fun x4 => ((idx x4 b_3).bind fun x7 => ((idx x4 a_2).bind fun x8 => ((inB x4 a_2).bind fun u9 => ((inB (x4.set (a_2).toNat x7) b_3).bind fun u11 => ((m_impl_ValidAssignment p_0 ((x4.set (a_2).toNat x7).set (b_3).toNat x8)).bind fun x13 => (bif (!x13) then some (([] : (List Int)), (3 : Int)) else some (((x4.set (a_2).toNat x7).set (b_3).toNat x8), (0 : Int))))))))))))

noncomputable def m_laws_FnExactSwapItems (a_0 : GProblem) (a_1 : (List Int)) (a_2 : Int) (a_3 : Int) : Option Bool :=
  (bif (decide ((1048576 : Int) < (a_1.length : Int))) then some true else ((m_laws_szProblem a_0 (1048576 : Int)).bind fun x1 => (bif (decide (x1 < (0 : Int))) then some true else ((m_laws_toProblem a_0).bind fun x2 => ((m_laws_toInt64S a_1).bind fun x3 => ((m_spec_SwapItems x2 x3 a_2 a_3).bind fun x4 => ((m_laws_toProblem a_0).bind fun x5 => ((m_laws_toInt64S a_1).bind fun x11 => ((m_impl_SwapItems x5 x11 a_2 a_3).bind fun x14 => ((((m_laws_eqInt64S x14.1 x4.1).bind fun x18 => (bif (!x18) then some true else some (x14.2 != x4.2))) : Option Bool).bind fun x17 => (bif x17 then some false else ((m_laws_toProblem a_0).bind fun x21 => ((m_laws_eqProblem x5 x21).bind fun x22 => (bif (!x22) then some false else ((m_laws_toInt64S a_1).bind fun x23 => ((m_laws_eqInt64S x11 x23).bind fun x24 => (bif (!x24) then some false else ((m_laws_markProblem x5 (1 : Int)).bind fun x25 => ((m_laws_markInt64S x11 x25.1).bind fun x27 => (((bif (decide (x27.1 < (0 : Int))) then some true else ((m_laws_eqInt64S x14.1 x4.1).bind fun x31 => (bif (!x31) then some true else some (x14.2 != x4.2)))) : Option Bool).bind fun x29 => (bif x29 then some false else ((m_laws_markInt64S x14.1 (1 : Int)).bind fun x34 => ((m_laws_heldInt64S x34.2 (1 : Int)).bind fun x36 => (bif (decide (x36 < (0 : Int))) then some false else (bif (x36 != x34.1) then some false else ((m_laws_toProblem a_0).bind fun x37 => ((m_laws_toInt64S a_1).bind fun x38 => ((m_impl_SwapItems x37 x38 a_2 a_3).bind fun x39 => ((((m_laws_eqInt64S x39.1 x4.1).bind fun x41 => (bif (!x41) then some true else some (x39.2 != x4.2))) : Option Bool).bind fun x40 => (bif x40 then some false else ((m_laws_heldInt64S x34.2 (1 : Int)).bind fun x44 => (bif (decide (x44 < (0 : Int))) then some false else (bif (x44 != x34.1) then some false else some true)))))))))))))))))))))))))))))))))

noncomputable def m_spec_l17Fits_B1 (p_0 : GProblem) (list_1 : (List Int)) (v2 : Int) : Option (Int ⊕ Bool) :=
  (bif (decide (v2 < (list_1.length : Int))) then ((idx p_0.Domains v2).bind fun x4 => ((idx list_1 v2).bind fun x5 => ((m_spec_l00Has x4 x5).bind fun x6 => (bif (!x6) then Option.map Sum.inr (some false) else some (Sum.inl (w64 (v2 + (1 : Int)))))))) else Option.map Sum.inr (some true))
noncomputable def m_spec_l17Fits (p_0 : GProblem) (list_1 : (List Int)) : Option Bool :=
  (bif ((list_1.length : Int) != (p_0.Domains.length : Int)) then some false else (loopM (fun s : Int => m_spec_l17Fits_B1 p_0 list_1 s) (0 : Int)))

noncomputable def m_spec_l17Near (a_0 : Int) (b_1 : Int) (apart_2 : Int) : Option Bool :=
  (((bif (decide ((w64 (a_0 - b_1)) < apart_2)) then some (decide ((w64 (b_1 - a_0)) < apart_2)) else some false) : Option Bool).bind fun x1 => some x1)

noncomputable def m_spec_l17Broken_B9 (p_0 : GProblem) (list_1 : (List Int)) (v5 : Int) (v10 : Int) (v11 : (List (List Int))) : Option ((Int × (List (List Int))) ⊕ (List (List Int))) :=
  (bif (decide (v10 < (list_1.length : Int))) then ((idx list_1 v5).bind fun x13 => ((idx list_1 v10).bind fun x14 => ((idx p_0.Apart v5).bind fun x15 => ((idx x15 v10).bind fun x16 => ((m_spec_l17Near x13 x14 x16).bind fun x17 => (((bif x17 then ((appL 24 v11 [([v5, v10] : (List Int))]).bind fun x23 => some x23) else some v11) : Option (List (List Int))).bind fun x18 => some (Sum.inl ((w64 (v10 + (1 : Int))), x18)))))))) else Option.map Sum.inr (some v11))
noncomputable def m_spec_l17Broken_B4 (p_0 : GProblem) (list_1 : (List Int)) (v5 : Int) (v6 : (List (List Int))) : Option ((Int × (List (List Int))) ⊕ (List (List Int))) :=
  (bif (decide (v5 < (list_1.length : Int))) then (((loopM (fun s : (Int × (List (List Int))) => m_spec_l17Broken_B9 p_0 list_1 v5 s.1 s.2) ((w64 (v5 + (1 : Int))), v6)) : Option (List (List Int))).bind fun x8 => some (Sum.inl ((w64 (v5 + (1 : Int))), x8))) else Option.map Sum.inr (some v6))
noncomputable def m_spec_l17Broken (p_0 : GProblem) (list_1 : (List Int)) : Option (List (List Int)) :=
  (((loopM (fun s : (Int × (List (List Int))) => m_spec_l17Broken_B4 p_0 list_1 s.1 s.2) ((0 : Int), ([] : (List (List Int))))) : Option (List (List Int))).bind fun x3 => some x3)

noncomputable def m_spec_l18Free_B1 (p_0 : GProblem) (list_1 : (List Int)) (item_2 : Int) (channel_3 : Int) (v2 : Int) : Option (Int ⊕ Bool) :=
  (bif (decide (v2 < (list_1.length : Int))) then (((bif (v2 != item_2) then ((idx list_1 v2).bind fun x6 => (bif (decide ((0 : Int) ≤ x6)) then ((idx list_1 v2).bind fun x8 => ((idx p_0.Apart item_2).bind fun x9 => ((idx x9 v2).bind fun x10 => ((m_spec_l17Near channel_3 x8 x10).bind fun x11 => some x11)))) else some false)) else some false) : Option Bool).bind fun x4 => (bif x4 then Option.map Sum.inr (some false) else some (Sum.inl (w64 (v2 + (1 : Int)))))) else Option.map Sum.inr (some true))
noncomputable def m_spec_l18Free (p_0 : GProblem) (list_1 : (List Int)) (item_2 : Int) (channel_3 : Int) : Option Bool :=
  (loopM (fun s : Int => m_spec_l18Free_B1 p_0 list_1 item_2 channel_3 s) (0 : Int))

noncomputable def m_spec_l18Choices_B4 (p_0 : GProblem) (list_1 : (List Int)) (item_2 : Int) (v5 : Int) (v6 : (List Int)) : Option ((Int × (List Int)) ⊕ (List Int)) :=
  ((idx p_0.Domains item_2).bind fun x8 => (bif (decide (v5 < (x8.length : Int))) then ((idx p_0.Domains item_2).bind fun x9 => ((idx x9 v5).bind fun x10 => ((m_spec_l18Free p_0 list_1 item_2 x10).bind fun x11 => (((bif x11 then ((idx p_0.Domains item_2).bind fun x13 => ((idx x13 v5).bind fun x14 => ((appL 8 v6 ([x14] : (List Int))).bind fun x15 => some x15))) else some v6) : Option (List Int)).bind fun x12 => some (Sum.inl ((w64 (v5 + (1 : Int))), x12)))))) else Option.map Sum.inr (some v6)))
noncomputable def m_spec_l18Choices (p_0 : GProblem) (list_1 : (List Int)) (item_2 : Int) : Option (List Int) :=
  (((loopM (fun s : (Int × (List Int)) => m_spec_l18Choices_B4 p_0 list_1 item_2 s.1 s.2) ((0 : Int), ([] : (List Int)))) : Option (List Int)).bind fun x3 => some x3)

noncomputable def m_spec_SettleAssignment_B18 (p_0 : GProblem) (v19 : Bool) (v20 : Int) (v21 : (List Int)) : Option ((Bool × Int × (List Int)) ⊕ (Bool × (List Int))) :=
  (bif (decide (v20 < (v21.length : Int))) then ((m_spec_l18Choices p_0 v21 v20).bind fun x23 => ((idx x23 (0 : Int)).bind fun x26 => ((idx v21 v20).bind fun x27 => (((bif (decide (x26 < x27)) then ((idx x23 (0 : Int)).bind fun x29 => ((inB v21 v20).bind fun u30 => some (true, (v21.set (v20).toNat x29)))) else some (v19, v21)) : Option (Bool × (List Int))).bind fun x28 => some (Sum.inl (x28.1, (w64 (v20 + (1 : Int))), x28.2)))))) else Option.map Sum.inr (some (v19, v21)))
noncomputable def m_spec_SettleAssignment_B13 (p_0 : GProblem) (v14 : Bool) (v15 : (List Int)) : Option ((Bool × (List Int)) ⊕ (List Int)) :=
  (bif v14 then (((loopM (fun s : (Bool × Int × (List Int)) => m_spec_SettleAssignment_B18 p_0 s.1 s.2.1 s.2.2) (false, (0 : Int), v15)) : Option (Bool × (List Int))).bind fun x17 => some (Sum.inl (x17.1, x17.2))) else Option.map Sum.inr (some v15))
noncomputable def m_spec_SettleAssignment (p_0 : GProblem) (list_1 : (List Int)) : Option ((List Int) × Int) :=
  ((m_spec_l17Ok p_0).bind fun x1 => (bif (!x1) then some (([] : (List Int)), (1 : Int)) else ((((m_spec_l17Fits p_0 list_1).bind fun x4 => (bif (!x4) then some true else ((m_spec_l17Broken p_0 list_1).bind fun x6 => some (decide ((0 : Int) < (x6.length : Int)))))) : Option Bool).bind fun x3 => (bif x3 then some (([] : (List Int)), (6 : Int)) else ((m_spec_l00Own list_1).bind fun x9 => (((loopM (fun s : (Bool × (List Int)) => m_spec_SettleAssignment_B13 p_0 s.1 s.2) (true, x9)) : Option (List Int)).bind fun x12 => some (x12, (0 : Int))))))))

noncomputable def m_impl_Problem_choices_B10 (p_0 : GProblem) (list_1 : (List Int)) (item_2 : Int) (x8 : Int) (v11 : Bool) (v12 : Int) : Option ((Bool × Int) ⊕ Bool) :=
  (bif (decide (v12 < (list_1.length : Int))) then ((idx list_1 v12).bind fun x14 => (((bif (v12 != item_2) then (bif (decide ((0 : Int) ≤ x14)) then ((m_impl_abs (w64 (x8 - x14))).bind fun x18 => ((idx p_0.Apart item_2).bind fun x19 => ((idx x19 v12).bind fun x20 => some (decide (x18 < x20))))) else some false) else some false) : Option Bool).bind fun x15 => (((bif x15 then some true else some v11) : Option Bool).bind fun x22 => some (Sum.inl (x22, (w64 (v12 + (1 : Int)))))))) else Option.map Sum.inr (some v11))
noncomputable def m_impl_Problem_choices_B4 (p_0 : GProblem) (list_1 : (List Int)) (item_2 : Int) (x1 : (List Int)) (v5 : Int) (v6 : (List Int)) : Option ((Int × (List Int)) ⊕ (List Int)) :=
  (bif (decide (v5 < (x1.length : Int))) then ((idx x1 v5).bind fun x8 => (((loopM (fun s : (Bool × Int) => m_impl_Problem_choices_B10 p_0 list_1 item_2 x8 s.1 s.2) (false, (0 : Int))) : Option Bool).bind fun x9 => (((bif (!x9) then ((appL 8 v6 ([x8] : (List Int))).bind fun x26 => some x26) else some v6) : Option (List Int)).bind fun x25 => some (Sum.inl ((w64 (v5 + (1 : Int))), x25))))) else Option.map Sum.inr (some v6))
noncomputable def m_impl_Problem_choices (p_0 : GProblem) (list_1 : (List Int)) (item_2 : Int) : Option (List Int) :=
  ((idx p_0.Domains item_2).bind fun x1 => (((loopM (fun s : (Int × (List Int)) => m_impl_Problem_choices_B4 p_0 list_1 item_2 x1 s.1 s.2) ((0 : Int), ([] : (List Int)))) : Option (List Int)).bind fun x3 => some x3))

noncomputable def m_impl_SettleAssignment_B14 (p_0 : GProblem) (v11 : (List Int)) (v15 : Bool) (v16 : Int) (v17 : (List Int)) : Option ((Bool × Int × (List Int)) ⊕ (Bool × (List Int))) :=
  (bif (decide (v16 < (v11.length : Int))) then ((m_impl_Problem_choices p_0 v17 v16).bind fun x19 => ((idx x19 (0 : Int)).bind fun x22 => ((idx v17 v16).bind fun x23 => (((bif (decide (x22 < x23)) then ((idx x19 (0 : Int)).bind fun x25 => ((inB v17 v16).bind fun u26 => some (true, (v17.set (v16).toNat x25)))) else some (v15, v17)) : Option (Bool × (List Int))).bind fun x24 => some (Sum.inl (x24.1, (w64 (v16 + (1 : Int))), x24.2)))))) else Option.map Sum.inr (some (v15, v17)))
noncomputable def m_impl_SettleAssignment_B9 (p_0 : GProblem) (v10 : Bool) (v11 : (List Int)) : Option ((Bool × (List Int)) ⊕ (List Int)) :=
  (bif v10 then (((loopM (fun s : (Bool × Int × (List Int)) => m_impl_SettleAssignment_B14 p_0 v11 s.1 s.2.1 s.2.2) (false, (0 : Int), v11)) : Option (Bool × (List Int))).bind fun x13 => some (Sum.inl (x13.1, x13.2))) else Option.map Sum.inr (some v11))
noncomputable def m_impl_SettleAssignment (p_0 : GProblem) (list_1 : (List Int)) : Option ((List Int) × Int) :=
  ((m_impl_ValidProblem p_0).bind fun x1 => (bif (!x1) then some (([] : (List Int)), (1 : Int)) else ((m_impl_ValidAssignment p_0 list_1).bind fun x3 => (bif (!x3) then some (([] : (List Int)), (6 : Int)) else ((m_slices_Clone_int64_int64 list_1).bind fun x5 => (((loopM (fun s : (Bool × (List Int)) => m_impl_SettleAssignment_B9 p_0 s.1 s.2) (true, x5)) : Option (List Int)).bind fun x8 => some (x8, (0 : Int))))))))

noncomputable def m_laws_FnExactSettleAssignment (a_0 : GProblem) (a_1 : (List Int)) : Option Bool :=
  (bif (decide ((1048576 : Int) < (a_1.length : Int))) then some true else ((m_laws_szProblem a_0 (1048576 : Int)).bind fun x1 => (bif (decide (x1 < (0 : Int))) then some true else ((m_laws_toProblem a_0).bind fun x2 => ((m_laws_toInt64S a_1).bind fun x3 => ((m_spec_SettleAssignment x2 x3).bind fun x4 => ((m_laws_toProblem a_0).bind fun x5 => ((m_laws_toInt64S a_1).bind fun x11 => ((m_impl_SettleAssignment x5 x11).bind fun x14 => ((((m_laws_eqInt64S x14.1 x4.1).bind fun x18 => (bif (!x18) then some true else some (x14.2 != x4.2))) : Option Bool).bind fun x17 => (bif x17 then some false else ((m_laws_toProblem a_0).bind fun x21 => ((m_laws_eqProblem x5 x21).bind fun x22 => (bif (!x22) then some false else ((m_laws_toInt64S a_1).bind fun x23 => ((m_laws_eqInt64S x11 x23).bind fun x24 => (bif (!x24) then some false else ((m_laws_markProblem x5 (1 : Int)).bind fun x25 => ((m_laws_markInt64S x11 x25.1).bind fun x27 => (((bif (decide (x27.1 < (0 : Int))) then some true else ((m_laws_eqInt64S x14.1 x4.1).bind fun x31 => (bif (!x31) then some true else some (x14.2 != x4.2)))) : Option Bool).bind fun x29 => (bif x29 then some false else ((m_laws_markInt64S x14.1 (1 : Int)).bind fun x34 => ((m_laws_heldInt64S x34.2 (1 : Int)).bind fun x36 => (bif (decide (x36 < (0 : Int))) then some false else (bif (x36 != x34.1) then some false else ((m_laws_toProblem a_0).bind fun x37 => ((m_laws_toInt64S a_1).bind fun x38 => ((m_impl_SettleAssignment x37 x38).bind fun x39 => ((((m_laws_eqInt64S x39.1 x4.1).bind fun x41 => (bif (!x41) then some true else some (x39.2 != x4.2))) : Option Bool).bind fun x40 => (bif x40 then some false else ((m_laws_heldInt64S x34.2 (1 : Int)).bind fun x44 => (bif (decide (x44 < (0 : Int))) then some false else (bif (x44 != x34.1) then some false else some true)))))))))))))))))))))))))))))))))

noncomputable def m_spec_l19Pairs_B2 (p_0 : GProblem) (list_1 : (List Int)) (v3 : Int) (v4 : Int) : Option ((Int × Int) ⊕ Int) :=
  (bif (decide (v4 < (list_1.length : Int))) then ((idx list_1 v4).bind fun x6 => ((m_spec_l19Conflicts p_0 list_1 v4 x6).bind fun x7 => some (Sum.inl ((w64 (v3 + x7)), (w64 (v4 + (1 : Int))))))) else Option.map Sum.inr (some v3))
noncomputable def m_spec_l19Pairs (p_0 : GProblem) (list_1 : (List Int)) : Option Int :=
  (((loopM (fun s : (Int × Int) => m_spec_l19Pairs_B2 p_0 list_1 s.1 s.2) ((0 : Int), (0 : Int))) : Option Int).bind fun x1 => some (w64 (x1.tdiv (2 : Int))))

noncomputable def m_spec_RepairGreedy_B16 (a_0 : GProblem) (v13 : (List Int)) (v17 : Int) (v18 : Int) : Option ((Int × Int) ⊕ Int) :=
  (bif (decide (v18 < (v13.length : Int))) then ((m_spec_l19Bad a_0 v13 v18).bind fun x20 => ((m_spec_l19Bad a_0 v13 v17).bind fun x21 => (((bif (decide (x21 < x20)) then some v18 else some v17) : Option Int).bind fun x22 => some (Sum.inl (x22, (w64 (v18 + (1 : Int)))))))) else Option.map Sum.inr (some v17))
noncomputable def m_spec_RepairGreedy_B29 (a_0 : GProblem) (v13 : (List Int)) (x15 : Int) (v30 : Int) (v31 : Int) : Option ((Int × Int) ⊕ Int) :=
  ((idx a_0.Domains x15).bind fun x33 => (bif (decide (v31 < (x33.length : Int))) then ((idx a_0.Domains x15).bind fun x34 => ((idx x34 v31).bind fun x35 => ((m_spec_l19Conflicts a_0 v13 x15 x35).bind fun x36 => ((m_spec_l19Conflicts a_0 v13 x15 v30).bind fun x37 => (((bif (decide (x36 < x37)) then some x35 else some v30) : Option Int).bind fun x38 => some (Sum.inl (x38, (w64 (v31 + (1 : Int)))))))))) else Option.map Sum.inr (some v30)))
noncomputable def m_spec_RepairGreedy_B11 (a_0 : GProblem) (v12 : Int) (v13 : (List Int)) : Option ((Int × (List Int)) ⊕ (List Int)) :=
  (bif (decide ((0 : Int) < v12)) then (((loopM (fun s : (Int × Int) => m_spec_RepairGreedy_B16 a_0 v13 s.1 s.2) ((0 : Int), (1 : Int))) : Option Int).bind fun x15 => ((m_spec_l19Bad a_0 v13 x15).bind fun x25 => (bif (x25 == (0 : Int)) then Option.map Sum.inr (some v13) else ((idx a_0.Domains x15).bind fun x26 => ((idx x26 (0 : Int)).bind fun x27 => (((loopM (fun s : (Int × Int) => m_spec_RepairGreedy_B29 a_0 v13 x15 s.1 s.2) (x27, (1 : Int))) : Option Int).bind fun x28 => ((idx v13 x15).bind fun x41 => (bif (x28 == x41) then Option.map Sum.inr (some v13) else ((inB v13 x15).bind fun u42 => some (Sum.inl ((w64 (v12 - (1 : Int))), (v13.set (x15).toNat x28)))))))))))) else Option.map Sum.inr (some v13))
noncomputable def m_spec_RepairGreedy (a_0 : GProblem) (a_1 : (List Int)) (a_2 : Int) : Option ((List Int) × Int × Int) :=
  ((m_spec_ValidProblem a_0).bind fun x1 => (bif (!x1) then some (([] : (List Int)), (0 : Int), (1 : Int)) else ((m_spec_l00In a_2 (0 : Int) (100 : Int)).bind fun x3 => (bif (!x3) then some (([] : (List Int)), (0 : Int), (2 : Int)) else ((m_spec_l19State a_0 a_1).bind fun x5 => (bif (!x5) then some (([] : (List Int)), (0 : Int), (6 : Int)) else ((m_spec_l00Own a_1).bind fun x7 => (((loopM (fun s : (Int × (List Int)) => m_spec_RepairGreedy_B11 a_0 s.1 s.2) (a_2, x7)) : Option (List Int)).bind fun x10 => ((m_spec_l19Pairs a_0 x10).bind fun x45 => some (x10, x45, (0 : Int)))))))))))

noncomputable def m_impl_RepairGreedy_B15 (a_0 : GProblem) (v12 : (List Int)) (v16 : Int) (v17 : Int) : Option ((Int × Int) ⊕ Int) :=
  (bif (decide (v17 < (v12.length : Int))) then ((m_impl_Problem_badness a_0 v12 v17).bind fun x19 => ((m_impl_Problem_badness a_0 v12 v16).bind fun x20 => (((bif (decide (x20 < x19)) then some v17 else some v16) : Option Int).bind fun x21 => some (Sum.inl (x21, (w64 (v17 + (1 : Int)))))))) else Option.map Sum.inr (some v16))
noncomputable def m_impl_RepairGreedy_B28 (a_0 : GProblem) (v12 : (List Int)) (x14 : Int) (x26 : (List Int)) (v29 : Int) (v30 : Int) : Option ((Int × Int) ⊕ Int) :=
  (bif (decide (v30 < (x26.length : Int))) then ((idx x26 v30).bind fun x32 => ((m_impl_Problem_conflicts a_0 v12 x14 x32).bind fun x33 => ((m_impl_Problem_conflicts a_0 v12 x14 v29).bind fun x34 => (((bif (decide (x33 < x34)) then some x32 else some v29) : Option Int).bind fun x35 => some (Sum.inl (x35, (w64 (v30 + (1 : Int))))))))) else Option.map Sum.inr (some v29))
noncomputable def m_impl_RepairGreedy_B10 (a_0 : GProblem) (a_2 : Int) (v11 : Int) (v12 : (List Int)) : Option ((Int × (List Int)) ⊕ (List Int)) :=
  (bif (decide (v11 < a_2)) then (((loopM (fun s : (Int × Int) => m_impl_RepairGreedy_B15 a_0 v12 s.1 s.2) ((0 : Int), (0 : Int))) : Option Int).bind fun x14 => ((idx a_0.Domains x14).bind fun x24 => ((idx x24 (0 : Int)).bind fun x25 => ((idx a_0.Domains x14).bind fun x26 => (((loopM (fun s : (Int × Int) => m_impl_RepairGreedy_B28 a_0 v12 x14 x26 s.1 s.2) (x25, (0 : Int))) : Option Int).bind fun x27 => ((((m_impl_Problem_badness a_0 v12 x14).bind fun x39 => (bif (x39 == (0 : Int)) then some true else ((idx v12 x14).bind fun x41 => some (x27 == x41)))) : Option Bool).bind fun x38 => (bif x38 then Option.map Sum.inr (some v12) else ((inB v12 x14).bind fun u43 => some (Sum.inl ((w64 (v11 + (1 : Int))), (v12.set (x14).toNat x27))))))))))) else Option.map Sum.inr (some v12))
noncomputable def m_impl_RepairGreedy (a_0 : GProblem) (a_1 : (List Int)) (a_2 : Int) : Option ((List Int) × Int × Int) :=
  ((m_impl_stateCode a_0 a_1 ([] : (List Int))).bind fun x1 => (bif (x1 == (1 : Int)) then some (([] : (List Int)), (0 : Int), x1) else ((m_impl_within a_2 (0 : Int) (100 : Int)).bind fun x3 => (bif (!x3) then some (([] : (List Int)), (0 : Int), (2 : Int)) else (bif (x1 != (0 : Int)) then some (([] : (List Int)), (0 : Int), x1) else ((m_slices_Clone_int64_int64 a_1).bind fun x6 => (((loopM (fun s : (Int × (List Int)) => m_impl_RepairGreedy_B10 a_0 a_2 s.1 s.2) ((0 : Int), x6)) : Option (List Int)).bind fun x9 => ((m_impl_Problem_violations a_0 x9).bind fun x46 => some (x9, (x46.length : Int), (0 : Int))))))))))

noncomputable def m_laws_FnExactRepairGreedy (a_0 : GProblem) (a_1 : (List Int)) (a_2 : Int) : Option Bool :=
  (bif (decide ((1048576 : Int) < (a_1.length : Int))) then some true else ((m_laws_szProblem a_0 (1048576 : Int)).bind fun x1 => (bif (decide (x1 < (0 : Int))) then some true else ((m_laws_toProblem a_0).bind fun x2 => ((m_laws_toInt64S a_1).bind fun x3 => ((m_spec_RepairGreedy x2 x3 a_2).bind fun x4 => ((m_laws_toProblem a_0).bind fun x5 => ((m_laws_toInt64S a_1).bind fun x11 => ((m_impl_RepairGreedy x5 x11 a_2).bind fun x14 => ((((m_laws_eqInt64S x14.1 x4.1).bind fun x18 => (bif (!x18) then some true else (bif (x14.2.1 != x4.2.1) then some true else some (x14.2.2 != x4.2.2)))) : Option Bool).bind fun x17 => (bif x17 then some false else ((m_laws_toProblem a_0).bind fun x22 => ((m_laws_eqProblem x5 x22).bind fun x23 => (bif (!x23) then some false else ((m_laws_toInt64S a_1).bind fun x24 => ((m_laws_eqInt64S x11 x24).bind fun x25 => (bif (!x25) then some false else ((m_laws_markProblem x5 (1 : Int)).bind fun x26 => ((m_laws_markInt64S x11 x26.1).bind fun x28 => (((bif (decide (x28.1 < (0 : Int))) then some true else ((m_laws_eqInt64S x14.1 x4.1).bind fun x32 => (bif (!x32) then some true else (bif (x14.2.1 != x4.2.1) then some true else some (x14.2.2 != x4.2.2))))) : Option Bool).bind fun x30 => (bif x30 then some false else ((m_laws_markInt64S x14.1 (1 : Int)).bind fun x36 => ((m_laws_heldInt64S x36.2 (1 : Int)).bind fun x38 => (bif (decide (x38 < (0 : Int))) then some false else (bif (x38 != x36.1) then some false else ((m_laws_toProblem a_0).bind fun x39 => ((m_laws_toInt64S a_1).bind fun x40 => ((m_impl_RepairGreedy x39 x40 a_2).bind fun x41 => ((((m_laws_eqInt64S x41.1 x4.1).bind fun x43 => (bif (!x43) then some true else (bif (x41.2.1 != x4.2.1) then some true else some (x41.2.2 != x4.2.2)))) : Option Bool).bind fun x42 => (bif x42 then some false else ((m_laws_heldInt64S x36.2 (1 : Int)).bind fun x47 => (bif (decide (x47 < (0 : Int))) then some false else (bif (x47 != x36.1) then some false else some true)))))))))))))))))))))))))))))))))

noncomputable def m_spec_l18Empty_B4 (n_0 : Int) (v5 : Int) (v6 : (List Int)) : Option ((Int × (List Int)) ⊕ (List Int)) :=
  (bif (decide (v5 < n_0)) then ((appL 8 v6 ([(-1 : Int)] : (List Int))).bind fun x8 => some (Sum.inl ((w64 (v5 + (1 : Int))), x8))) else Option.map Sum.inr (some v6))
noncomputable def m_spec_l18Empty (n_0 : Int) : Option (List Int) :=
  (((loopM (fun s : (Int × (List Int)) => m_spec_l18Empty_B4 n_0 s.1 s.2) ((0 : Int), ([] : (List Int)))) : Option (List Int)).bind fun x3 => some x3)

noncomputable def m_spec_l17Degree_B2 (p_0 : GProblem) (item_1 : Int) (v3 : Int) (v4 : Int) : Option ((Int × Int) ⊕ Int) :=
  (bif (decide (v4 < (p_0.Apart.length : Int))) then ((idx p_0.Apart item_1).bind fun x6 => ((idx x6 v4).bind fun x7 => some (Sum.inl ((w64 (v3 + x7)), (w64 (v4 + (1 : Int))))))) else Option.map Sum.inr (some v3))
noncomputable def m_spec_l17Degree (p_0 : GProblem) (item_1 : Int) : Option Int :=
  (((loopM (fun s : (Int × Int) => m_spec_l17Degree_B2 p_0 item_1 s.1 s.2) ((0 : Int), (0 : Int))) : Option Int).bind fun x1 => some x1)

noncomputable def m_spec_l18Next_B2 (p_0 : GProblem) (list_1 : (List Int)) (v3 : Int) (v4 : Int) (v5 : Int) : Option ((Int × Int × Int) ⊕ Int) :=
  (bif (decide (v5 < (list_1.length : Int))) then ((((idx list_1 v5).bind fun x8 => (bif (decide ((0 : Int) ≤ x8)) then some (v3, v4) else ((m_spec_l18Choices p_0 list_1 v5).bind fun x9 => (((bif (decide (v3 < (0 : Int))) then some true else (bif (decide ((x9.length : Int) < v4)) then some true else (bif ((x9.length : Int) == v4) then ((m_spec_l17Degree p_0 v5).bind fun x14 => ((m_spec_l17Degree p_0 v3).bind fun x15 => some (decide (x15 < x14)))) else some false))) : Option Bool).bind fun x10 => (((bif x10 then some (v5, (x9.length : Int)) else some (v3, v4)) : Option (Int × Int)).bind fun x17 => some (x17.1, x17.2)))))) : Option (Int × Int)).bind fun x7 => some (Sum.inl (x7.1, x7.2, (w64 (v5 + (1 : Int)))))) else Option.map Sum.inr (some v3))
noncomputable def m_spec_l18Next (p_0 : GProblem) (list_1 : (List Int)) : Option Int :=
  (((loopM (fun s : (Int × Int × Int) => m_spec_l18Next_B2 p_0 list_1 s.1 s.2.1 s.2.2) ((-1 : Int), (0 : Int), (0 : Int))) : Option Int).bind fun x1 => some x1)

noncomputable def m_spec_SaturationAssign_B6 (p_0 : GProblem) (v7 : Int) (v8 : (List Int)) : Option ((Int × (List Int)) ⊕ ((List Int) × Int)) :=
  (bif (decide (v7 < (v8.length : Int))) then ((m_spec_l18Next p_0 v8).bind fun x10 => ((m_spec_l18Choices p_0 v8 x10).bind fun x11 => (bif ((x11.length : Int) == (0 : Int)) then Option.map Sum.inr (some (([] : (List Int)), (3 : Int))) else ((idx x11 (0 : Int)).bind fun x15 => ((inB v8 x10).bind fun u16 => some (Sum.inl ((w64 (v7 + (1 : Int))), (v8.set (x10).toNat x15)))))))) else Option.map Sum.inr (some (v8, (0 : Int))))
noncomputable def m_spec_SaturationAssign (p_0 : GProblem) : Option ((List Int) × Int) :=
  ((m_spec_l17Ok p_0).bind fun x1 => (bif (!x1) then some (([] : (List Int)), (1 : Int)) else ((m_spec_l18Empty (p_0.Domains.length : Int)).bind fun x3 => (loopM (fun s : (Int × (List Int)) => m_spec_SaturationAssign_B6 p_0 s.1 s.2) ((0 : Int), x3)))))

noncomputable def m_math_bits_Mul64 (x_0 : Int) (y_1 : Int) : Option (Int × Int) :=
  ((bitOp .and .u64 x_0 (4294967295 : Int)).bind fun x1 => ((bitOp .shr .u64 x_0 (32 : Int)).bind fun x2 => ((bitOp .and .u64 y_1 (4294967295 : Int)).bind fun x3 => ((bitOp .shr .u64 y_1 (32 : Int)).bind fun x4 => ((bitOp .shr .u64 (IntKind.wrap .u64 (x1 * x3)) (32 : Int)).bind fun x5 => ((bitOp .and .u64 (IntKind.wrap .u64 ((IntKind.wrap .u64 (x2 * x3)) + x5)) (4294967295 : Int)).bind fun x6 => ((bitOp .shr .u64 (IntKind.wrap .u64 ((IntKind.wrap .u64 (x2 * x3)) + x5)) (32 : Int)).bind fun x7 => ((bitOp .shr .u64 (IntKind.wrap .u64 (x6 + (IntKind.wrap .u64 (x1 * x4)))) (32 : Int)).bind fun x8 => some ((IntKind.wrap .u64 ((IntKind.wrap .u64 ((IntKind.wrap .u64 (x2 * x4)) + x7)) + x8)), (IntKind.wrap .u64 (x_0 * y_1)))))))))))

noncomputable def m_math_bits_Mul (x_0 : Int) (y_1 : Int) : Option (Int × Int) :=
  ((m_math_bits_Mul64 x_0 y_1).bind fun x1 => some (x1.1, x1.2))

noncomputable def m_slices_Repeat_int64_int64_B14  (v15 : Int) (v16 : (List Int)) : Option ((Int × (List Int)) ⊕ (List Int)) :=
  (bif (decide (v15 < (v16.length : Int))) then ((cutB v16 v15).bind fun u18 => ((cutB v16 v15).bind fun u19 => some (Sum.inl ((w64 (v15 + ((min (v16.take (v15).toNat).length (v16.length - (v15).toNat) : Nat) : Int))), (over v16 (v15).toNat ((v16.take (v15).toNat).take (v16.length - (v15).toNat))))))) else Option.map Sum.inr (some v16))
noncomputable def m_slices_Repeat_int64_int64 (x_0 : (List Int)) (count_1 : Int) : Option (List Int) :=
  (((bif (decide (count_1 < (0 : Int))) then (none : Option Unit) else some ()) : Option Unit).bind fun x1 => ((m_math_bits_Mul (IntKind.wrap .u64 ((x_0.length : Int))) (IntKind.wrap .u64 (count_1))).bind fun x3 => (((bif (decide ((0 : Int) < x3.1)) then some true else some (decide ((9223372036854775807 : Int) < x3.2))) : Option Bool).bind fun x4 => (((bif x4 then (none : Option Unit) else some ()) : Option Unit).bind fun x7 => ((mkL 8 (w64 (x3.2)) (0 : Int)).bind fun x9 => (((loopM (fun s : (Int × (List Int)) => m_slices_Repeat_int64_int64_B14  s.1 s.2) (((min x_0.length (x9.length - 0) : Nat) : Int), (over x9 0 (x_0.take (x9.length - 0))))) : Option (List Int)).bind fun x13 => some x13))))))

noncomputable def m_impl_Problem_unassigned (p_0 : GProblem) : Option (List Int) :=
  ((m_slices_Repeat_int64_int64 ([(-1 : Int)] : (List Int)) (p_0.Domains.length : Int)).bind fun x1 => some x1)

noncomputable def m_cmp_isNaN_int (x_0 : Int) : Option Bool :=
  some (x_0 != x_0)

noncomputable def m_cmp_Compare_int (x_0 : Int) (y_1 : Int) : Option Int :=
  ((m_cmp_isNaN_int x_0).bind fun x1 => ((m_cmp_isNaN_int y_1).bind fun x2 => (bif x1 then (bif x2 then some (0 : Int) else some (-1 : Int)) else (bif x2 then some (1 : Int) else (bif (decide (x_0 < y_1)) then some (-1 : Int) else (bif (decide (y_1 < x_0)) then some (1 : Int) else some (0 : Int)))))))

noncomputable def m_impl_Problem_degree_B3 (x1 : (List Int)) (v4 : Int) (v5 : Int) : Option ((Int × Int) ⊕ Int) :=
  (bif (decide (v5 < (x1.length : Int))) then ((idx x1 v5).bind fun x7 => some (Sum.inl ((w64 (v4 + x7)), (w64 (v5 + (1 : Int)))))) else Option.map Sum.inr (some v4))
noncomputable def m_impl_Problem_degree (p_0 : GProblem) (item_1 : Int) : Option Int :=
  ((idx p_0.Apart item_1).bind fun x1 => (((loopM (fun s : (Int × Int) => m_impl_Problem_degree_B3 x1 s.1 s.2) ((0 : Int), (0 : Int))) : Option Int).bind fun x2 => some x2))

noncomputable def m_cmp_isNaN_int64 (x_0 : Int) : Option Bool :=
  some (x_0 != x_0)

noncomputable def m_cmp_Compare_int64 (x_0 : Int) (y_1 : Int) : Option Int :=
  ((m_cmp_isNaN_int64 x_0).bind fun x1 => ((m_cmp_isNaN_int64 y_1).bind fun x2 => (bif x1 then (bif x2 then some (0 : Int) else some (-1 : Int)) else (bif x2 then some (1 : Int) else (bif (decide (x_0 < y_1)) then some (-1 : Int) else (bif (decide (y_1 < x_0)) then some (1 : Int) else some (0 : Int)))))))

noncomputable def m_cmp_Or_int_B1 (vals_0 : (List Int)) (v2 : Int) : Option (Int ⊕ Int) :=
  (bif (decide (v2 < (vals_0.length : Int))) then ((idx vals_0 v2).bind fun x4 => (bif (x4 != (0 : Int)) then Option.map Sum.inr (some x4) else some (Sum.inl (w64 (v2 + (1 : Int)))))) else Option.map Sum.inr (some (0 : Int)))
noncomputable def m_cmp_Or_int (vals_0 : (List Int)) : Option Int :=
  (loopM (fun s : Int => m_cmp_Or_int_B1 vals_0 s) (0 : Int))

noncomputable def m_impl_SaturationAssign_B11 (a_0 : GProblem) (v7 : (List Int)) (v12 : Int) (v13 : Int) : Option ((Int × Int) ⊕ Int) :=
  (bif (decide (v13 < (v7.length : Int))) then ((((idx v7 v13).bind fun x16 => (bif (decide ((0 : Int) ≤ x16)) then some v12 else (((bif (decide (v12 < (0 : Int))) then some true else ((m_impl_Problem_choices a_0 v7 v13).bind fun x19 => ((m_impl_Problem_choices a_0 v7 v12).bind fun x22 => ((m_cmp_Compare_int (x19.length : Int) (x22.length : Int)).bind fun x25 => ((m_impl_Problem_degree a_0 v12).bind fun x26 => ((m_impl_Problem_degree a_0 v13).bind fun x27 => ((m_cmp_Compare_int64 x26 x27).bind fun x28 => ((m_cmp_Or_int ([x25, x28] : (List Int))).bind fun x29 => some (decide (x29 < (0 : Int))))))))))) : Option Bool).bind fun x17 => (((bif x17 then some v13 else some v12) : Option Int).bind fun x31 => some x31)))) : Option Int).bind fun x15 => some (Sum.inl (x15, (w64 (v13 + (1 : Int)))))) else Option.map Sum.inr (some v12))
noncomputable def m_impl_SaturationAssign_B6 (a_0 : GProblem) (v7 : (List Int)) : Option ((List Int) ⊕ ((List Int) × Int)) :=
  ((m_slices_Contains_int64_int64 v7 (-1 : Int)).bind fun x9 => (bif x9 then (((loopM (fun s : (Int × Int) => m_impl_SaturationAssign_B11 a_0 v7 s.1 s.2) ((-1 : Int), (0 : Int))) : Option Int).bind fun x10 => ((m_impl_Problem_choices a_0 v7 x10).bind fun x35 => (bif ((x35.length : Int) == (0 : Int)) then Option.map Sum.inr (some (([] : (List Int)), (3 : Int))) else ((idx x35 (0 : Int)).bind fun x39 => ((inB v7 x10).bind fun u40 => some (Sum.inl (v7.set (x10).toNat x39))))))) else Option.map Sum.inr (some (v7, (0 : Int)))))
noncomputable def m_impl_SaturationAssign (a_0 : GProblem) : Option ((List Int) × Int) :=
  ((m_impl_ValidProblem a_0).bind fun x1 => (bif (!x1) then some (([] : (List Int)), (1 : Int)) else ((m_impl_Problem_unassigned a_0).bind fun x3 => (loopM (fun s : (List Int) => m_impl_SaturationAssign_B6 a_0 s) x3))))

noncomputable def m_laws_FnExactSaturationAssign (a_0 : GProblem) : Option Bool :=
  ((m_laws_szProblem a_0 (1048576 : Int)).bind fun x1 => (bif (decide (x1 < (0 : Int))) then some true else ((m_laws_toProblem a_0).bind fun x2 => ((m_spec_SaturationAssign x2).bind fun x3 => ((m_laws_toProblem a_0).bind fun x4 => ((m_impl_SaturationAssign x4).bind fun x10 => ((((m_laws_eqInt64S x10.1 x3.1).bind fun x14 => (bif (!x14) then some true else some (x10.2 != x3.2))) : Option Bool).bind fun x13 => (bif x13 then some false else ((m_laws_toProblem a_0).bind fun x17 => ((m_laws_eqProblem x4 x17).bind fun x18 => (bif (!x18) then some false else ((m_laws_markProblem x4 (1 : Int)).bind fun x19 => (((bif (decide (x19.1 < (0 : Int))) then some true else ((m_laws_eqInt64S x10.1 x3.1).bind fun x23 => (bif (!x23) then some true else some (x10.2 != x3.2)))) : Option Bool).bind fun x21 => (bif x21 then some false else ((m_laws_markInt64S x10.1 (1 : Int)).bind fun x26 => ((m_laws_heldInt64S x26.2 (1 : Int)).bind fun x28 => (bif (decide (x28 < (0 : Int))) then some false else (bif (x28 != x26.1) then some false else ((m_laws_toProblem a_0).bind fun x29 => ((m_impl_SaturationAssign x29).bind fun x30 => ((((m_laws_eqInt64S x30.1 x3.1).bind fun x32 => (bif (!x32) then some true else some (x30.2 != x3.2))) : Option Bool).bind fun x31 => (bif x31 then some false else ((m_laws_heldInt64S x26.2 (1 : Int)).bind fun x35 => (bif (decide (x35 < (0 : Int))) then some false else (bif (x35 != x26.1) then some false else some true)))))))))))))))))))))))))

noncomputable def m_spec_l17Search_visit_B17 (a_0 : GL17Search) (v11 : Int) (v13 : (List Int)) (v18 : Bool) (v19 : Int) : Option ((Bool × Int) ⊕ Bool) :=
  (bif (decide (v19 < (v13.length : Int))) then (((bif v18 then ((idx a_0.p.Apart v11).bind fun x23 => ((idx v13 v19).bind fun x24 => ((idx x23 x24).bind fun x25 => some (decide (a_0.apart ≤ x25))))) else some false) : Option Bool).bind fun x21 => some (Sum.inl (x21, (w64 (v19 + (1 : Int)))))) else Option.map Sum.inr (some v18))
noncomputable def m_spec_l17Search_visit_B10 (self : (GL17Search × Int) → Option (Bool × (List Int) × (List Int) × Int)) (a_0 : GL17Search) (v11 : Int) (v12 : Int) (v13 : (List Int)) (v14 : (List Int)) : Option ((Int × Int × (List Int) × (List Int)) ⊕ (Bool × (List Int) × (List Int) × Int)) :=
  (bif (decide (v11 < (a_0.p.Domains.length : Int))) then (((loopM (fun s : (Bool × Int) => m_spec_l17Search_visit_B17 a_0 v11 v13 s.1 s.2) (true, (0 : Int))) : Option Bool).bind fun x16 => (bif (!x16) then some (Sum.inl ((w64 (v11 + (1 : Int))), v12, v13, v14)) else ((appL 8 v13 ([v11] : (List Int))).bind fun x28 => ((self ((GL17Search.mk a_0.p a_0.apart x28 v14 v12 a_0.budget), (w64 (v11 + (1 : Int))))).bind fun x31 => ((cutB x31.2.1 (w64 ((x31.2.1.length : Int) - (1 : Int)))).bind fun u33 => (bif (!x31.1) then Option.map Sum.inr (some (false, (x31.2.1.take ((w64 ((x31.2.1.length : Int) - (1 : Int)))).toNat), x31.2.2.1, x31.2.2.2)) else some (Sum.inl ((w64 (v11 + (1 : Int))), x31.2.2.2, (x31.2.1.take ((w64 ((x31.2.1.length : Int) - (1 : Int)))).toNat), x31.2.2.1)))))))) else Option.map Sum.inr (some (true, v13, v14, v12)))
noncomputable def mf_spec_l17Search_visit (self : (GL17Search × Int) → Option (Bool × (List Int) × (List Int) × Int)) (a_0 : GL17Search) (a_1 : Int) : Option (Bool × (List Int) × (List Int) × Int) :=
  (bif (decide (a_0.budget < (w64 (a_0.nodes + (1 : Int))))) then some (false, a_0.chosen, a_0.best, (w64 (a_0.nodes + (1 : Int)))) else (((bif (decide ((a_0.best.length : Int) < (a_0.chosen.length : Int))) then ((m_spec_l00Own a_0.chosen).bind fun x5 => some x5) else some a_0.best) : Option (List Int)).bind fun x4 => (loopM (fun s : (Int × Int × (List Int) × (List Int)) => m_spec_l17Search_visit_B10 self a_0 s.1 s.2.1 s.2.2.1 s.2.2.2) (a_1, (w64 (a_0.nodes + (1 : Int))), a_0.chosen, x4))))
noncomputable def m_spec_l17Search_visit (a_0 : GL17Search) (a_1 : Int) : Option (Bool × (List Int) × (List Int) × Int) := recM (fun self (a : (GL17Search × Int)) => mf_spec_l17Search_visit self a.1 a.2) (a_0, a_1)

noncomputable def m_spec_l17Clique (p_0 : GProblem) (apart_1 : Int) (budget_2 : Int) : Option GL17Search :=
  ((m_spec_l17Search_visit (GL17Search.mk p_0 apart_1 ([] : (List Int)) ([] : (List Int)) (0 : Int) budget_2) (0 : Int)).bind fun x4 => some (GL17Search.mk p_0 apart_1 x4.2.1 x4.2.2.1 x4.2.2.2 budget_2))

noncomputable def m_spec_MaxClique (p_0 : GProblem) (apart_1 : Int) (budget_2 : Int) : Option ((List Int) × Int) :=
  ((m_spec_l17Ok p_0).bind fun x1 => (bif (!x1) then some (([] : (List Int)), (1 : Int)) else ((((m_spec_l00In budget_2 (1 : Int) (20000 : Int)).bind fun x4 => (bif (!x4) then some true else ((m_spec_l00In apart_1 (1 : Int) (100 : Int)).bind fun x6 => some (!x6)))) : Option Bool).bind fun x3 => (bif x3 then some (([] : (List Int)), (2 : Int)) else ((m_spec_l17Clique p_0 apart_1 budget_2).bind fun x9 => (bif (decide (budget_2 < x9.nodes)) then some (([] : (List Int)), (5 : Int)) else some (x9.best, (0 : Int))))))))

noncomputable def m_impl_budgetValid (budget_0 : Int) : Option Bool :=
  ((m_impl_within budget_0 (1 : Int) (20000 : Int)).bind fun x1 => some x1)

noncomputable def m_impl_cliqueSearch_visit_1 (i_0 : Int) (a_1 : GCliqueSearch) (a_2 : Int) : Option Bool :=
  ((idx a_1.problem.Apart i_0).bind fun x1 => ((idx x1 a_2).bind fun x2 => some (decide (x2 < a_1.apart))))

noncomputable def m_impl_cliqueSearch_visit_B17 (self : GCliqueSearch → Option (Int × (List Int) × (List Int))) (a_0 : GCliqueSearch) (v18 : Int) (v19 : Int) (v20 : (List Int)) (v21 : (List Int)) : Option ((Int × Int × (List Int) × (List Int)) ⊕ (Int × (List Int) × (List Int))) :=
  (bif (decide (v18 < (a_0.problem.Domains.length : Int))) then ((m_slices_ContainsFunc_int64_int64 v20 (fun x => m_impl_cliqueSearch_visit_1 x (GCliqueSearch.mk a_0.problem a_0.apart v19 v20 v21) v18)).bind fun x23 => (bif x23 then some (Sum.inl ((w64 (v18 + (1 : Int))), v19, v20, v21)) else ((appL 8 v20 ([v18] : (List Int))).bind fun x25 => ((self (GCliqueSearch.mk a_0.problem a_0.apart v19 x25 v21)).bind fun x28 => ((cutB x28.2.1 (w64 ((x28.2.1.length : Int) - (1 : Int)))).bind fun u30 => (bif (decide (x28.1 < (0 : Int))) then Option.map Sum.inr (some (x28.1, (x28.2.1.take ((w64 ((x28.2.1.length : Int) - (1 : Int)))).toNat), x28.2.2)) else some (Sum.inl ((w64 (v18 + (1 : Int))), x28.1, (x28.2.1.take ((w64 ((x28.2.1.length : Int) - (1 : Int)))).toNat), x28.2.2)))))))) else Option.map Sum.inr (some (v19, v20, v21)))
noncomputable def mf_impl_cliqueSearch_visit (self : GCliqueSearch → Option (Int × (List Int) × (List Int))) (a_0 : GCliqueSearch) : Option (Int × (List Int) × (List Int)) :=
  (bif (decide ((w64 (a_0.budget - (1 : Int))) < (0 : Int))) then some ((w64 (a_0.budget - (1 : Int))), a_0.items, a_0.best) else (((bif (decide ((a_0.best.length : Int) < (a_0.items.length : Int))) then ((m_slices_Clone_int64_int64 a_0.items).bind fun x6 => some x6) else some a_0.best) : Option (List Int)).bind fun x5 => (((bif (decide ((0 : Int) < (a_0.items.length : Int))) then ((idx a_0.items (w64 ((a_0.items.length : Int) - (1 : Int)))).bind fun x14 => some (w64 (x14 + (1 : Int)))) else some (0 : Int)) : Option Int).bind fun x13 => (loopM (fun s : (Int × Int × (List Int) × (List Int)) => m_impl_cliqueSearch_visit_B17 self a_0 s.1 s.2.1 s.2.2.1 s.2.2.2) (x13, (w64 (a_0.budget - (1 : Int))), a_0.items, x5)))))
noncomputable def m_impl_cliqueSearch_visit (a_0 : GCliqueSearch) : Option (Int × (List Int) × (List Int)) := recM (fun self (a : GCliqueSearch) => mf_impl_cliqueSearch_visit self a) a_0

noncomputable def m_impl_MaxClique (p_0 : GProblem) (apart_1 : Int) (budget_2 : Int) : Option ((List Int) × Int) :=
  ((m_impl_ValidProblem p_0).bind fun x1 => (bif (!x1) then some (([] : (List Int)), (1 : Int)) else ((((m_impl_budgetValid budget_2).bind fun x4 => (bif (!x4) then some true else ((m_impl_within apart_1 (1 : Int) (100 : Int)).bind fun x6 => some (!x6)))) : Option Bool).bind fun x3 => (bif x3 then some (([] : (List Int)), (2 : Int)) else ((m_impl_cliqueSearch_visit (GCliqueSearch.mk p_0 apart_1 budget_2 ([] : (List Int)) ([] : (List Int)))).bind fun x13 => (bif (decide (x13.1 < (0 : Int))) then some (([] : (List Int)), (5 : Int)) else some (x13.2.2, (0 : Int))))))))

noncomputable def m_laws_FnExactMaxClique (a_0 : GProblem) (a_1 : Int) (a_2 : Int) : Option Bool :=
  ((m_laws_szProblem a_0 (1048576 : Int)).bind fun x1 => (bif (decide (x1 < (0 : Int))) then some true else ((m_laws_toProblem a_0).bind fun x2 => ((m_spec_MaxClique x2 a_1 a_2).bind fun x3 => ((m_laws_toProblem a_0).bind fun x4 => ((m_impl_MaxClique x4 a_1 a_2).bind fun x10 => ((((m_laws_eqInt64S x10.1 x3.1).bind fun x14 => (bif (!x14) then some true else some (x10.2 != x3.2))) : Option Bool).bind fun x13 => (bif x13 then some false else ((m_laws_toProblem a_0).bind fun x17 => ((m_laws_eqProblem x4 x17).bind fun x18 => (bif (!x18) then some false else ((m_laws_markProblem x4 (1 : Int)).bind fun x19 => (((bif (decide (x19.1 < (0 : Int))) then some true else ((m_laws_eqInt64S x10.1 x3.1).bind fun x23 => (bif (!x23) then some true else some (x10.2 != x3.2)))) : Option Bool).bind fun x21 => (bif x21 then some false else ((m_laws_markInt64S x10.1 (1 : Int)).bind fun x26 => ((m_laws_heldInt64S x26.2 (1 : Int)).bind fun x28 => (bif (decide (x28 < (0 : Int))) then some false else (bif (x28 != x26.1) then some false else ((m_laws_toProblem a_0).bind fun x29 => ((m_impl_MaxClique x29 a_1 a_2).bind fun x30 => ((((m_laws_eqInt64S x30.1 x3.1).bind fun x32 => (bif (!x32) then some true else some (x30.2 != x3.2))) : Option Bool).bind fun x31 => (bif x31 then some false else ((m_laws_heldInt64S x26.2 (1 : Int)).bind fun x35 => (bif (decide (x35 < (0 : Int))) then some false else (bif (x35 != x26.1) then some false else some true)))))))))))))))))))))))))

noncomputable def m_spec_l18Ask (p_0 : GProblem) (budget_1 : Int) : Option Int :=
  ((m_spec_l17Ok p_0).bind fun x1 => (bif (!x1) then some (1 : Int) else ((m_spec_l00In budget_1 (1 : Int) (20000 : Int)).bind fun x2 => (bif (!x2) then some (2 : Int) else some (0 : Int)))))

noncomputable def m_spec_l00Min (a_0 : Int) (b_1 : Int) : Option Int :=
  (bif (decide (a_0 < b_1)) then some a_0 else some b_1)

noncomputable def m_spec_l00Max (a_0 : Int) (b_1 : Int) : Option Int :=
  (bif (decide (b_1 < a_0)) then some a_0 else some b_1)

noncomputable def m_spec_SpanOf_B3 (list_0 : (List Int)) (v4 : Int) (v5 : Int) (v6 : Int) : Option ((Int × Int × Int) ⊕ Int) :=
  (bif (decide (v6 < (list_0.length : Int))) then ((idx list_0 v6).bind fun x8 => ((m_spec_l00In x8 (0 : Int) (999 : Int)).bind fun x9 => (bif (!x9) then Option.map Sum.inr (some (0 : Int)) else ((idx list_0 v6).bind fun x10 => ((m_spec_l00Min v4 x10).bind fun x11 => ((idx list_0 v6).bind fun x12 => ((m_spec_l00Max v5 x12).bind fun x13 => some (Sum.inl (x11, x13, (w64 (v6 + (1 : Int)))))))))))) else Option.map Sum.inr (some (w64 (v5 - v4))))
noncomputable def m_spec_SpanOf (list_0 : (List Int)) : Option Int :=
  (bif ((list_0.length : Int) == (0 : Int)) then some (0 : Int) else ((idx list_0 (0 : Int)).bind fun x1 => ((idx list_0 (0 : Int)).bind fun x2 => (loopM (fun s : (Int × Int × Int) => m_spec_SpanOf_B3 list_0 s.1 s.2.1 s.2.2) (x1, x2, (0 : Int))))))

noncomputable def m_spec_l18Search_visit_B14 (self : (GL18Search × Int) → Option (Bool × (List Int) × Int × Int × (List Int))) (a_0 : GL18Search) (a_1 : Int) (x11 : (List Int)) (v15 : Int) (v16 : Int) (v17 : Int) (v18 : (List Int)) (v19 : (List Int)) : Option ((Int × Int × Int × (List Int) × (List Int)) ⊕ (Bool × (List Int) × Int × Int × (List Int))) :=
  (bif (decide (v15 < (x11.length : Int))) then ((idx x11 v15).bind fun x21 => ((inB v18 a_1).bind fun u22 => (((bif (decide (a_0.span < (0 : Int))) then some true else ((cutB (v18.set (a_1).toNat x21) (w64 (a_1 + (1 : Int)))).bind fun u26 => ((m_spec_SpanOf ((v18.set (a_1).toNat x21).take ((w64 (a_1 + (1 : Int)))).toNat)).bind fun x27 => some (decide (x27 ≤ a_0.span))))) : Option Bool).bind fun x24 => (((bif x24 then ((self ((GL18Search.mk a_0.p (v18.set (a_1).toNat x21) a_0.span v16 a_0.budget v17 v19 a_0.stop), (w64 (a_1 + (1 : Int))))).bind fun x30 => some (x30.1, x30.2.1, x30.2.2.1, x30.2.2.2.1, x30.2.2.2.2)) else some (true, (v18.set (a_1).toNat x21), v16, v17, v19)) : Option (Bool × (List Int) × Int × Int × (List Int))).bind fun x29 => ((inB x29.2.1 a_1).bind fun u33 => (bif (!x29.1) then Option.map Sum.inr (some (false, (x29.2.1.set (a_1).toNat (-1 : Int)), x29.2.2.1, x29.2.2.2.1, x29.2.2.2.2)) else some (Sum.inl ((w64 (v15 + (1 : Int))), x29.2.2.1, x29.2.2.2.1, (x29.2.1.set (a_1).toNat (-1 : Int)), x29.2.2.2.2)))))))) else Option.map Sum.inr (some (true, v18, v16, v17, v19)))
noncomputable def mf_spec_l18Search_visit (self : (GL18Search × Int) → Option (Bool × (List Int) × Int × Int × (List Int))) (a_0 : GL18Search) (a_1 : Int) : Option (Bool × (List Int) × Int × Int × (List Int)) :=
  (bif (decide (a_0.budget < (w64 (a_0.nodes + (1 : Int))))) then some (false, a_0.list, (w64 (a_0.nodes + (1 : Int))), a_0.count, a_0.first) else (bif (a_1 == (a_0.list.length : Int)) then (((bif (a_0.count == (0 : Int)) then ((m_spec_l00Own a_0.list).bind fun x5 => some x5) else some a_0.first) : Option (List Int)).bind fun x4 => some ((!a_0.stop), a_0.list, (w64 (a_0.nodes + (1 : Int))), (w64 (a_0.count + (1 : Int))), x4)) else ((m_spec_l18Choices a_0.p a_0.list a_1).bind fun x11 => (loopM (fun s : (Int × Int × Int × (List Int) × (List Int)) => m_spec_l18Search_visit_B14 self a_0 a_1 x11 s.1 s.2.1 s.2.2.1 s.2.2.2.1 s.2.2.2.2) ((0 : Int), (w64 (a_0.nodes + (1 : Int))), a_0.count, a_0.list, a_0.first)))))
noncomputable def m_spec_l18Search_visit (a_0 : GL18Search) (a_1 : Int) : Option (Bool × (List Int) × Int × Int × (List Int)) := recM (fun self (a : (GL18Search × Int)) => mf_spec_l18Search_visit self a.1 a.2) (a_0, a_1)

noncomputable def m_spec_l18Run (p_0 : GProblem) (span_1 : Int) (budget_2 : Int) (stop_3 : Bool) : Option GL18Search :=
  ((m_spec_l18Empty (p_0.Domains.length : Int)).bind fun x1 => ((m_spec_l18Search_visit (GL18Search.mk p_0 x1 span_1 (0 : Int) budget_2 (0 : Int) ([] : (List Int)) stop_3) (0 : Int)).bind fun x6 => some (GL18Search.mk p_0 x6.2.1 span_1 x6.2.2.1 budget_2 x6.2.2.2.1 x6.2.2.2.2 stop_3)))

noncomputable def m_spec_CountAssignments (p_0 : GProblem) (budget_1 : Int) : Option (Int × Int) :=
  ((m_spec_l18Ask p_0 budget_1).bind fun x1 => (bif (x1 != (0 : Int)) then some ((0 : Int), x1) else ((m_spec_l18Run p_0 (-1 : Int) budget_1 false).bind fun x2 => (bif (decide (budget_1 < x2.nodes)) then some ((0 : Int), (5 : Int)) else some (x2.count, (0 : Int))))))

noncomputable def m_slices_Max_int64_int64_B5 (x_0 : (List Int)) (v6 : Int) (v7 : Int) : Option ((Int × Int) ⊕ Int) :=
  (bif (decide (v7 < (x_0.length : Int))) then ((idx x_0 v7).bind fun x9 => some (Sum.inl ((if x9 > v6 then x9 else v6), (w64 (v7 + (1 : Int)))))) else Option.map Sum.inr (some v6))
noncomputable def m_slices_Max_int64_int64 (x_0 : (List Int)) : Option Int :=
  (((bif (decide ((x_0.length : Int) < (1 : Int))) then (none : Option Unit) else some ()) : Option Unit).bind fun x1 => ((idx x_0 (0 : Int)).bind fun x3 => (((loopM (fun s : (Int × Int) => m_slices_Max_int64_int64_B5 x_0 s.1 s.2) (x3, (1 : Int))) : Option Int).bind fun x4 => some x4)))

noncomputable def m_slices_Min_int64_int64_B5 (x_0 : (List Int)) (v6 : Int) (v7 : Int) : Option ((Int × Int) ⊕ Int) :=
  (bif (decide (v7 < (x_0.length : Int))) then ((idx x_0 v7).bind fun x9 => some (Sum.inl ((if x9 < v6 then x9 else v6), (w64 (v7 + (1 : Int)))))) else Option.map Sum.inr (some v6))
noncomputable def m_slices_Min_int64_int64 (x_0 : (List Int)) : Option Int :=
  (((bif (decide ((x_0.length : Int) < (1 : Int))) then (none : Option Unit) else some ()) : Option Unit).bind fun x1 => ((idx x_0 (0 : Int)).bind fun x3 => (((loopM (fun s : (Int × Int) => m_slices_Min_int64_int64_B5 x_0 s.1 s.2) (x3, (1 : Int))) : Option Int).bind fun x4 => some x4)))

noncomputable def m_impl_SpanOf (list_0 : (List Int)) : Option Int :=
  (((bif ((list_0.length : Int) == (0 : Int)) then some true else ((m_impl_allWithin list_0 (0 : Int) (999 : Int)).bind fun x3 => some (!x3))) : Option Bool).bind fun x1 => (bif x1 then some (0 : Int) else ((m_slices_Max_int64_int64 list_0).bind fun x5 => ((m_slices_Min_int64_int64 list_0).bind fun x6 => some (w64 (x5 - x6))))))

noncomputable def m_impl_assignSearch_visit_B7 (self : GAssignSearch → Option (Int × (List Int) × Int)) (a_0 : GAssignSearch) (x4 : (List Int)) (v8 : Int) (v9 : Int) (v10 : Int) (v11 : (List Int)) : Option ((Int × Int × Int × (List Int)) ⊕ (Int × (List Int) × Int)) :=
  (bif (decide (v8 < (x4.length : Int))) then ((idx x4 v8).bind fun x13 => ((appL 8 v11 ([x13] : (List Int))).bind fun x14 => ((m_impl_SpanOf x14).bind fun x17 => (((bif (decide (x17 ≤ a_0.span)) then ((self (GAssignSearch.mk a_0.problem v9 a_0.first a_0.span x14 v10)).bind fun x19 => some (x19.1, x19.2.2, x19.2.1)) else some (v9, v10, x14)) : Option (Int × Int × (List Int))).bind fun x18 => (((bif (decide (x18.1 < (0 : Int))) then some true else (bif a_0.first then some (decide ((0 : Int) < x18.2.1)) else some false)) : Option Bool).bind fun x22 => (bif x22 then Option.map Sum.inr (some (x18.1, x18.2.2, x18.2.1)) else ((cutB x18.2.2 (a_0.list.length : Int)).bind fun u26 => some (Sum.inl ((w64 (v8 + (1 : Int))), x18.1, x18.2.1, (x18.2.2.take ((a_0.list.length : Int)).toNat)))))))))) else Option.map Sum.inr (some (v9, v11, v10)))
noncomputable def mf_impl_assignSearch_visit (self : GAssignSearch → Option (Int × (List Int) × Int)) (a_0 : GAssignSearch) : Option (Int × (List Int) × Int) :=
  (bif (decide ((w64 (a_0.budget - (1 : Int))) < (0 : Int))) then some ((w64 (a_0.budget - (1 : Int))), a_0.list, a_0.found) else (bif ((a_0.list.length : Int) == (a_0.problem.Domains.length : Int)) then some ((w64 (a_0.budget - (1 : Int))), a_0.list, (w64 (a_0.found + (1 : Int)))) else ((m_impl_Problem_choices a_0.problem a_0.list (a_0.list.length : Int)).bind fun x4 => (loopM (fun s : (Int × Int × Int × (List Int)) => m_impl_assignSearch_visit_B7 self a_0 x4 s.1 s.2.1 s.2.2.1 s.2.2.2) ((0 : Int), (w64 (a_0.budget - (1 : Int))), a_0.found, a_0.list)))))
noncomputable def m_impl_assignSearch_visit (a_0 : GAssignSearch) : Option (Int × (List Int) × Int) := recM (fun self (a : GAssignSearch) => mf_impl_assignSearch_visit self a) a_0

noncomputable def m_impl_assignSearch_run (s_0 : GAssignSearch) : Option (Int × Int × (List Int) × Int) :=
  ((m_impl_ValidProblem s_0.problem).bind fun x2 => (bif (!x2) then some ((1 : Int), s_0.budget, s_0.list, s_0.found) else ((m_impl_budgetValid s_0.budget).bind fun x3 => (bif (!x3) then some ((2 : Int), s_0.budget, s_0.list, s_0.found) else ((m_impl_assignSearch_visit s_0).bind fun x4 => (bif (decide (x4.1 < (0 : Int))) then some ((5 : Int), x4.1, x4.2.1, x4.2.2) else some ((0 : Int), x4.1, x4.2.1, x4.2.2)))))))

noncomputable def m_impl_CountAssignments (p_0 : GProblem) (budget_1 : Int) : Option (Int × Int) :=
  ((m_impl_assignSearch_run (GAssignSearch.mk p_0 budget_1 false (999 : Int) ([] : (List Int)) (0 : Int))).bind fun x4 => (bif (x4.1 != (0 : Int)) then some ((0 : Int), x4.1) else some (x4.2.2.2, (0 : Int))))

noncomputable def m_laws_FnExactCountAssignments (aP_0 : GProblem) (aBudget_1 : Int) : Option Bool :=
  ((m_laws_szProblem aP_0 (1048576 : Int)).bind fun x1 => (bif (decide (x1 < (0 : Int))) then some true else ((m_laws_toProblem aP_0).bind fun x2 => ((m_spec_CountAssignments x2 aBudget_1).bind fun x3 => ((m_laws_toProblem aP_0).bind fun x4 => ((m_impl_CountAssignments x4 aBudget_1).bind fun x7 => (((bif (x7.1 != x3.1) then some true else some (x7.2 != x3.2)) : Option Bool).bind fun x8 => (bif x8 then some false else ((m_laws_toProblem aP_0).bind fun x11 => ((m_laws_eqProblem x4 x11).bind fun x12 => (bif (!x12) then some false else some true)))))))))))

noncomputable def m_spec_FirstAssignment (p_0 : GProblem) (budget_1 : Int) : Option ((List Int) × Int) :=
  ((m_spec_l18Ask p_0 budget_1).bind fun x1 => (bif (x1 != (0 : Int)) then some (([] : (List Int)), x1) else ((m_spec_l18Run p_0 (-1 : Int) budget_1 true).bind fun x3 => (bif (decide (budget_1 < x3.nodes)) then some (([] : (List Int)), (5 : Int)) else (bif (x3.count == (0 : Int)) then some (([] : (List Int)), (3 : Int)) else some (x3.first, (0 : Int)))))))

noncomputable def m_impl_FirstAssignment (p_0 : GProblem) (budget_1 : Int) : Option ((List Int) × Int) :=
  ((m_impl_assignSearch_run (GAssignSearch.mk p_0 budget_1 true (999 : Int) ([] : (List Int)) (0 : Int))).bind fun x4 => (bif (x4.1 != (0 : Int)) then some (([] : (List Int)), x4.1) else (bif (x4.2.2.2 == (0 : Int)) then some (([] : (List Int)), (3 : Int)) else some (x4.2.2.1, (0 : Int)))))

noncomputable def m_laws_FnExactFirstAssignment (a_0 : GProblem) (a_1 : Int) : Option Bool :=
  ((m_laws_szProblem a_0 (1048576 : Int)).bind fun x1 => (bif (decide (x1 < (0 : Int))) then some true else ((m_laws_toProblem a_0).bind fun x2 => ((m_spec_FirstAssignment x2 a_1).bind fun x3 => ((m_laws_toProblem a_0).bind fun x4 => ((m_impl_FirstAssignment x4 a_1).bind fun x10 => ((((m_laws_eqInt64S x10.1 x3.1).bind fun x14 => (bif (!x14) then some true else some (x10.2 != x3.2))) : Option Bool).bind fun x13 => (bif x13 then some false else ((m_laws_toProblem a_0).bind fun x17 => ((m_laws_eqProblem x4 x17).bind fun x18 => (bif (!x18) then some false else ((m_laws_markProblem x4 (1 : Int)).bind fun x19 => (((bif (decide (x19.1 < (0 : Int))) then some true else ((m_laws_eqInt64S x10.1 x3.1).bind fun x23 => (bif (!x23) then some true else some (x10.2 != x3.2)))) : Option Bool).bind fun x21 => (bif x21 then some false else ((m_laws_markInt64S x10.1 (1 : Int)).bind fun x26 => ((m_laws_heldInt64S x26.2 (1 : Int)).bind fun x28 => (bif (decide (x28 < (0 : Int))) then some false else (bif (x28 != x26.1) then some false else ((m_laws_toProblem a_0).bind fun x29 => ((m_impl_FirstAssignment x29 a_1).bind fun x30 => ((((m_laws_eqInt64S x30.1 x3.1).bind fun x32 => (bif (!x32) then some true else some (x30.2 != x3.2))) : Option Bool).bind fun x31 => (bif x31 then some false else ((m_laws_heldInt64S x26.2 (1 : Int)).bind fun x35 => (bif (decide (x35 < (0 : Int))) then some false else (bif (x35 != x26.1) then some false else some true)))))))))))))))))))))))))

noncomputable def m_spec_l00Put_B4 (list_0 : (List Int)) (n_1 : Int) (v5 : Bool) (v6 : Int) (v7 : (List Int)) : Option ((Bool × Int × (List Int)) ⊕ (Bool × (List Int))) :=
  (bif (decide (v6 < (list_0.length : Int))) then (((bif (!v5) then ((idx list_0 v6).bind fun x11 => some (decide (n_1 ≤ x11))) else some false) : Option Bool).bind fun x9 => (((bif x9 then ((idx list_0 v6).bind fun x14 => (((bif (decide (n_1 < x14)) then ((appL 8 v7 ([n_1] : (List Int))).bind fun x16 => some x16) else some v7) : Option (List Int)).bind fun x15 => some (true, x15))) else some (v5, v7)) : Option (Bool × (List Int))).bind fun x13 => ((idx list_0 v6).bind fun x20 => ((appL 8 x13.2 ([x20] : (List Int))).bind fun x21 => some (Sum.inl (x13.1, (w64 (v6 + (1 : Int))), x21)))))) else Option.map Sum.inr (some (v5, v7)))
noncomputable def m_spec_l00Put (list_0 : (List Int)) (n_1 : Int) : Option (List Int) :=
  (((loopM (fun s : (Bool × Int × (List Int)) => m_spec_l00Put_B4 list_0 n_1 s.1 s.2.1 s.2.2) (false, (0 : Int), ([] : (List Int)))) : Option (Bool × (List Int))).bind fun x3 => (((bif (!x3.1) then ((appL 8 x3.2 ([n_1] : (List Int))).bind fun x25 => some x25) else some x3.2) : Option (List Int)).bind fun x24 => some x24))

noncomputable def m_spec_l17Values_B9 (p_0 : GProblem) (v5 : Int) (v10 : Int) (v11 : (List Int)) : Option ((Int × (List Int)) ⊕ (List Int)) :=
  (bif (decide (v10 < v5)) then ((idx p_0.Apart v5).bind fun x13 => ((idx x13 v10).bind fun x14 => (((bif (decide ((0 : Int) < x14)) then ((idx p_0.Apart v5).bind fun x16 => ((idx x16 v10).bind fun x17 => ((m_spec_l00Put v11 x17).bind fun x18 => some x18))) else some v11) : Option (List Int)).bind fun x15 => some (Sum.inl ((w64 (v10 + (1 : Int))), x15))))) else Option.map Sum.inr (some v11))
noncomputable def m_spec_l17Values_B4 (p_0 : GProblem) (v5 : Int) (v6 : (List Int)) : Option ((Int × (List Int)) ⊕ (List Int)) :=
  (bif (decide (v5 < (p_0.Apart.length : Int))) then (((loopM (fun s : (Int × (List Int)) => m_spec_l17Values_B9 p_0 v5 s.1 s.2) ((0 : Int), v6)) : Option (List Int)).bind fun x8 => some (Sum.inl ((w64 (v5 + (1 : Int))), x8))) else Option.map Sum.inr (some v6))
noncomputable def m_spec_l17Values (p_0 : GProblem) : Option (List Int) :=
  (((loopM (fun s : (Int × (List Int)) => m_spec_l17Values_B4 p_0 s.1 s.2) ((0 : Int), ([] : (List Int)))) : Option (List Int)).bind fun x3 => some x3)

noncomputable def m_spec_l18Low (p_0 : GProblem) : Option Int :=
  ((m_spec_l17Values p_0).bind fun x1 => (bif ((x1.length : Int) == (0 : Int)) then some (0 : Int) else ((idx x1 (w64 ((x1.length : Int) - (1 : Int)))).bind fun x2 => some x2)))

noncomputable def m_spec_l18High_B4 (p_0 : GProblem) (v5 : Int) (v6 : (List Int)) : Option ((Int × (List Int)) ⊕ (List Int)) :=
  (bif (decide (v5 < (p_0.Domains.length : Int))) then ((idx p_0.Domains v5).bind fun x8 => ((appL 8 v6 x8).bind fun x9 => some (Sum.inl ((w64 (v5 + (1 : Int))), x9)))) else Option.map Sum.inr (some v6))
noncomputable def m_spec_l18High (p_0 : GProblem) : Option Int :=
  (((loopM (fun s : (Int × (List Int)) => m_spec_l18High_B4 p_0 s.1 s.2) ((0 : Int), ([] : (List Int)))) : Option (List Int)).bind fun x3 => ((m_spec_SpanOf x3).bind fun x12 => some x12))

noncomputable def m_spec_LeastSpan_B4 (p_0 : GProblem) (v5 : Int) (v6 : Int) : Option ((Int × Int) ⊕ ((List Int) × Int)) :=
  ((m_spec_l18High p_0).bind fun x8 => (bif (decide (v6 ≤ x8)) then ((m_spec_l18Run p_0 v6 v5 true).bind fun x9 => (bif (decide (v5 < x9.nodes)) then Option.map Sum.inr (some (([] : (List Int)), (5 : Int))) else (bif (decide ((0 : Int) < x9.count)) then Option.map Sum.inr (some (x9.first, (0 : Int))) else some (Sum.inl ((w64 (v5 - x9.nodes)), (w64 (v6 + (1 : Int)))))))) else Option.map Sum.inr (some (([] : (List Int)), (3 : Int)))))
noncomputable def m_spec_LeastSpan (p_0 : GProblem) (budget_1 : Int) : Option ((List Int) × Int) :=
  ((m_spec_l18Ask p_0 budget_1).bind fun x1 => (bif (x1 != (0 : Int)) then some (([] : (List Int)), x1) else ((m_spec_l18Low p_0).bind fun x3 => (loopM (fun s : (Int × Int) => m_spec_LeastSpan_B4 p_0 s.1 s.2) (budget_1, x3)))))

noncomputable def m_slices_Grow_int64_int64 (s_0 : (List Int)) (n_1 : Int) : Option (List Int) :=
  (((bif (decide (n_1 < (0 : Int))) then (none : Option Unit) else some ()) : Option Unit).bind fun x1 => (((bif (decide ((0 : Int) < (w64 (n_1 - (w64 ((0 : Int) - (0 : Int))))))) then ((zeroL 8 (w64 (n_1 - (w64 ((0 : Int) - (0 : Int))))) (0 : Int)).bind fun x5 => ((cutB x5 (([] : (List Int)).length : Int)).bind fun u8 => some (x5.take ((([] : (List Int)).length : Int)).toNat))) else some ([] : (List Int))) : Option (List Int)).bind fun x4 => some x4))

noncomputable def m_slices_Concat_int64_int64_B2 (slices_0 : (List (List Int))) (v3 : Int) (v4 : Int) : Option ((Int × Int) ⊕ Int) :=
  (bif (decide (v4 < (slices_0.length : Int))) then ((idx slices_0 v4).bind fun x6 => (((bif (decide ((w64 (v3 + (x6.length : Int))) < (0 : Int))) then (none : Option Unit) else some ()) : Option Unit).bind fun x7 => some (Sum.inl ((w64 (v3 + (x6.length : Int))), (w64 (v4 + (1 : Int))))))) else Option.map Sum.inr (some v3))
noncomputable def m_slices_Concat_int64_int64_B14 (slices_0 : (List (List Int))) (v15 : Int) (v16 : (List Int)) : Option ((Int × (List Int)) ⊕ (List Int)) :=
  (bif (decide (v15 < (slices_0.length : Int))) then ((idx slices_0 v15).bind fun x18 => ((appL 8 v16 x18).bind fun x19 => some (Sum.inl ((w64 (v15 + (1 : Int))), x19)))) else Option.map Sum.inr (some v16))
noncomputable def m_slices_Concat_int64_int64 (slices_0 : (List (List Int))) : Option (List Int) :=
  (((loopM (fun s : (Int × Int) => m_slices_Concat_int64_int64_B2 slices_0 s.1 s.2) ((0 : Int), (0 : Int))) : Option Int).bind fun x1 => ((m_slices_Grow_int64_int64 ([] : (List Int)) x1).bind fun x10 => (((loopM (fun s : (Int × (List Int)) => m_slices_Concat_int64_int64_B14 slices_0 s.1 s.2) ((0 : Int), x10)) : Option (List Int)).bind fun x13 => some x13)))

noncomputable def m_impl_LeastSpan_B9 (p_0 : GProblem) (x6 : Int) (v10 : Int) (v11 : Int) : Option ((Int × Int) ⊕ ((List Int) × Int)) :=
  (bif (decide (v11 ≤ x6)) then ((m_impl_assignSearch_visit (GAssignSearch.mk p_0 v10 true v11 ([] : (List Int)) (0 : Int))).bind fun x16 => (bif (decide (x16.1 < (0 : Int))) then Option.map Sum.inr (some (([] : (List Int)), (5 : Int))) else (bif (decide ((0 : Int) < x16.2.2)) then Option.map Sum.inr (some (x16.2.1, (0 : Int))) else some (Sum.inl (x16.1, (w64 (v11 + (1 : Int)))))))) else Option.map Sum.inr (some (([] : (List Int)), (3 : Int))))
noncomputable def m_impl_LeastSpan (p_0 : GProblem) (budget_1 : Int) : Option ((List Int) × Int) :=
  ((m_impl_ValidProblem p_0).bind fun x1 => (bif (!x1) then some (([] : (List Int)), (1 : Int)) else ((m_impl_budgetValid budget_1).bind fun x3 => (bif (!x3) then some (([] : (List Int)), (2 : Int)) else ((m_slices_Concat_int64_int64 p_0.Domains).bind fun x5 => ((m_impl_SpanOf x5).bind fun x6 => ((m_slices_Concat_int64_int64 p_0.Apart).bind fun x7 => ((m_slices_Max_int64_int64 x7).bind fun x8 => (loopM (fun s : (Int × Int) => m_impl_LeastSpan_B9 p_0 x6 s.1 s.2) (budget_1, x8))))))))))

noncomputable def m_laws_FnExactLeastSpan (a_0 : GProblem) (a_1 : Int) : Option Bool :=
  ((m_laws_szProblem a_0 (1048576 : Int)).bind fun x1 => (bif (decide (x1 < (0 : Int))) then some true else ((m_laws_toProblem a_0).bind fun x2 => ((m_spec_LeastSpan x2 a_1).bind fun x3 => ((m_laws_toProblem a_0).bind fun x4 => ((m_impl_LeastSpan x4 a_1).bind fun x10 => ((((m_laws_eqInt64S x10.1 x3.1).bind fun x14 => (bif (!x14) then some true else some (x10.2 != x3.2))) : Option Bool).bind fun x13 => (bif x13 then some false else ((m_laws_toProblem a_0).bind fun x17 => ((m_laws_eqProblem x4 x17).bind fun x18 => (bif (!x18) then some false else ((m_laws_markProblem x4 (1 : Int)).bind fun x19 => (((bif (decide (x19.1 < (0 : Int))) then some true else ((m_laws_eqInt64S x10.1 x3.1).bind fun x23 => (bif (!x23) then some true else some (x10.2 != x3.2)))) : Option Bool).bind fun x21 => (bif x21 then some false else ((m_laws_markInt64S x10.1 (1 : Int)).bind fun x26 => ((m_laws_heldInt64S x26.2 (1 : Int)).bind fun x28 => (bif (decide (x28 < (0 : Int))) then some false else (bif (x28 != x26.1) then some false else ((m_laws_toProblem a_0).bind fun x29 => ((m_impl_LeastSpan x29 a_1).bind fun x30 => ((((m_laws_eqInt64S x30.1 x3.1).bind fun x32 => (bif (!x32) then some true else some (x30.2 != x3.2))) : Option Bool).bind fun x31 => (bif x31 then some false else ((m_laws_heldInt64S x26.2 (1 : Int)).bind fun x35 => (bif (decide (x35 < (0 : Int))) then some false else (bif (x35 != x26.1) then some false else some true)))))))))))))))))))))))))
end Go.Wk
