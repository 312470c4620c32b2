/-
  The functions as pure Lean. Printed by our own program.
-/
import Derived.Test.YtgianbkngpfpnaaDoorZero
import Derived.Test.YtgianbkngpfpnaaDoorTab
namespace Go.Wk
open Go Go.RowKit Go.Wk
set_option linter.unusedVariables false
structure GScaled where
  number : Int
  exponent : Int
abbrev cGScaled (b : GScaled) : List Pd := [(pEq (.int .i64 b.number)), (pEq (.int .i64 b.exponent))]
abbrev okGScaled (b : GScaled) : Prop := ((Lit.int .i64 b.number).wf = true) ∧ ((Lit.int .i64 b.exponent).wf = true)
noncomputable def m_spec_l00In (n_0 : Int) (low_1 : Int) (high_2 : Int) : Option Bool :=
  (((bif (decide (low_1 ≤ n_0)) then some (decide (n_0 ≤ high_2)) else some false) : Option Bool).bind fun x1 => some x1)

noncomputable def m_spec_l09Frequency (f_0 : Int) : Option Bool :=
  ((m_spec_l00In f_0 (1 : Int) (100000000 : Int)).bind fun x1 => some x1)

noncomputable def m_spec_l09Distance (d_0 : Int) : Option Bool :=
  ((m_spec_l00In d_0 (1 : Int) (283000 : Int)).bind fun x1 => some x1)

noncomputable def m_spec_l13Climate (c_0 : Int) : Option Bool :=
  ((m_spec_l00In c_0 (25 : Int) (400 : Int)).bind fun x1 => some x1)

noncomputable def m_spec_l13Margin (m_0 : Int) : Option Bool :=
  ((m_spec_l00In m_0 (0 : Int) (100000 : Int)).bind fun x1 => some x1)

noncomputable def m_spec_l02Times (a_0 : Int) (b_1 : Int) : Option (Int × Int) :=
  (bif (decide ((1000000000 : Int) ≤ (w64 ((w64 (a_0 * b_1)).tdiv (100000000 : Int))))) then some ((w64 ((w64 ((w64 (a_0 * b_1)).tdiv (100000000 : Int))).tdiv (10 : Int))), (1 : Int)) else some ((w64 ((w64 (a_0 * b_1)).tdiv (100000000 : Int))), (0 : Int)))

noncomputable def m_spec_l02Tenth (x_0 : Int) : Option (Int × Int) :=
  ((m_spec_l02Times x_0 x_0).bind fun x1 => ((m_spec_l02Times x1.1 x1.1).bind fun x2 => ((m_spec_l02Times x2.1 x_0).bind fun x3 => ((m_spec_l02Times x3.1 x3.1).bind fun x4 => some (x4.1, (w64 ((w64 ((2 : Int) * (w64 ((w64 ((w64 ((2 : Int) * x1.2)) + x2.2)) + x3.2)))) + x4.2)))))))

noncomputable def m_spec_l02Log_B2  (v3 : Int) (v4 : Int) : Option ((Int × Int) ⊕ Int) :=
  (bif (decide ((10 : Int) ≤ v4)) then some (Sum.inl ((w64 (v3 + (1 : Int))), (w64 (v4.tdiv (10 : Int))))) else Option.map Sum.inr (some v3))
noncomputable def m_spec_l02Log_B8  (v9 : Int) (v10 : Int) : Option ((Int × Int) ⊕ Int) :=
  (bif (decide (v10 < (8 : Int))) then some (Sum.inl ((w64 (v9 * (10 : Int))), (w64 (v10 + (1 : Int))))) else Option.map Sum.inr (some v9))
noncomputable def m_spec_l02Log_B14  (v15 : Int) (v16 : Int) : Option ((Int × Int) ⊕ Int) :=
  (bif (decide ((8 : Int) < v16)) then some (Sum.inl ((w64 (v15.tdiv (10 : Int))), (w64 (v16 - (1 : Int))))) else Option.map Sum.inr (some v15))
noncomputable def m_spec_l02Log_B20  (v21 : Int) (v22 : Int) (v23 : Int) : Option ((Int × Int × Int) ⊕ Int) :=
  (bif (decide (v23 < (4 : Int))) then ((m_spec_l02Tenth v22).bind fun x25 => some (Sum.inl ((w64 ((w64 ((10 : Int) * v21)) + x25.2)), x25.1, (w64 (v23 + (1 : Int)))))) else Option.map Sum.inr (some v21))
noncomputable def m_spec_l02Log (n_0 : Int) : Option Int :=
  (((loopM (fun s : (Int × Int) => m_spec_l02Log_B2  s.1 s.2) ((0 : Int), n_0)) : Option Int).bind fun x1 => (((loopM (fun s : (Int × Int) => m_spec_l02Log_B8  s.1 s.2) (n_0, x1)) : Option Int).bind fun x7 => (((loopM (fun s : (Int × Int) => m_spec_l02Log_B14  s.1 s.2) (x7, x1)) : Option Int).bind fun x13 => (((loopM (fun s : (Int × Int × Int) => m_spec_l02Log_B20  s.1 s.2.1 s.2.2) (x1, x13, (0 : Int))) : Option Int).bind fun x19 => some x19))))

noncomputable def m_spec_l00Max (a_0 : Int) (b_1 : Int) : Option Int :=
  (bif (decide (b_1 < a_0)) then some a_0 else some b_1)

noncomputable def m_spec_l02Pow_B2 (v_0 : Int) (v3 : Int) (v4 : Int) : Option ((Int × Int) ⊕ Int) :=
  (bif (decide (v3 < v4)) then ((m_spec_l02Log (w64 ((w64 (v3 + v4)).tdiv (2 : Int)))).bind fun x6 => (((bif (decide (v_0 ≤ x6)) then some (v3, (w64 ((w64 (v3 + v4)).tdiv (2 : Int)))) else some ((w64 ((w64 ((w64 (v3 + v4)).tdiv (2 : Int))) + (1 : Int))), v4)) : Option (Int × Int)).bind fun x7 => some (Sum.inl (x7.1, x7.2)))) else Option.map Sum.inr (some v3))
noncomputable def m_spec_l02Pow (v_0 : Int) : Option Int :=
  (((loopM (fun s : (Int × Int) => m_spec_l02Pow_B2 v_0 s.1 s.2) ((1 : Int), (1000000000000000000 : Int))) : Option Int).bind fun x1 => some x1)

noncomputable def m_spec_l00Min (a_0 : Int) (b_1 : Int) : Option Int :=
  (bif (decide (a_0 < b_1)) then some a_0 else some b_1)

noncomputable def m_spec_l13Fade (f_0 : Int) (d_1 : Int) (climate_2 : Int) (margin_3 : Int) : Option Int :=
  ((m_spec_l02Log climate_2).bind fun x1 => ((m_spec_l00Max (1 : Int) (w64 (f_0.tdiv (1000 : Int)))).bind fun x2 => ((m_spec_l02Log x2).bind fun x3 => ((m_spec_l02Log d_1).bind fun x4 => (bif (decide ((w64 ((w64 ((w64 ((w64 (x1 + x3)) + (w64 ((3 : Int) * x4)))) - (142218 : Int))) - margin_3)) < (0 : Int))) then some (0 : Int) else ((m_spec_l02Pow (w64 ((w64 ((w64 ((w64 (x1 + x3)) + (w64 ((3 : Int) * x4)))) - (142218 : Int))) - margin_3))).bind fun x5 => ((m_spec_l00Min (1000000 : Int) x5).bind fun x6 => some x6)))))))

noncomputable def m_spec_OutageOf (f_0 : Int) (d_1 : Int) (climate_2 : Int) (margin_3 : Int) : Option (Int × Int) :=
  ((((m_spec_l09Frequency f_0).bind fun x2 => (bif (!x2) then some true else ((m_spec_l09Distance d_1).bind fun x4 => (bif (!x4) then some true else ((m_spec_l13Climate climate_2).bind fun x6 => (bif (!x6) then some true else ((m_spec_l13Margin margin_3).bind fun x8 => some (!x8)))))))) : Option Bool).bind fun x1 => (bif x1 then some ((0 : Int), (2 : Int)) else ((m_spec_l13Fade f_0 d_1 climate_2 margin_3).bind fun x10 => some (x10, (0 : Int)))))

noncomputable def m_impl_within (n_0 : Int) (low_1 : Int) (high_2 : Int) : Option Bool :=
  (((bif (decide (low_1 ≤ n_0)) then some (decide (n_0 ≤ high_2)) else some false) : Option Bool).bind fun x1 => some x1)

noncomputable def m_impl_frequencyOk (f_0 : Int) : Option Bool :=
  ((m_impl_within f_0 (1 : Int) (100000000 : Int)).bind fun x1 => some x1)

noncomputable def m_impl_distanceOk (d_0 : Int) : Option Bool :=
  ((m_impl_within d_0 (1 : Int) (283000 : Int)).bind fun x1 => some x1)

noncomputable def m_impl_fadingOk (f_0 : Int) (d_1 : Int) (climate_2 : Int) : Option Bool :=
  ((((m_impl_frequencyOk f_0).bind fun x2 => (bif x2 then ((m_impl_distanceOk d_1).bind fun x4 => (bif x4 then ((m_impl_within climate_2 (25 : Int) (400 : Int)).bind fun x6 => some x6) else some false)) else some false)) : Option Bool).bind fun x1 => some x1)

noncomputable def m_impl_marginOk (n_0 : Int) : Option Bool :=
  ((m_impl_within n_0 (0 : Int) (100000 : Int)).bind fun x1 => some x1)

noncomputable def m_strconv_FormatInt (n_0 b_1 : Int) : Option ByteArray :=
  fmtM n_0 b_1

noncomputable def m_impl_Decimal (n_0 : Int) : Option ByteArray :=
  ((m_strconv_FormatInt n_0 (10 : Int)).bind fun x1 => some x1)

noncomputable def m_impl_scaled_times (x_0 : GScaled) (y_1 : GScaled) : Option GScaled :=
  (((bif (decide ((1000000000 : Int) ≤ (GScaled.mk (w64 ((w64 (x_0.number * y_1.number)).tdiv (100000000 : Int))) (w64 (x_0.exponent + y_1.exponent))).number)) then some ((w64 ((GScaled.mk (w64 ((w64 (x_0.number * y_1.number)).tdiv (100000000 : Int))) (w64 (x_0.exponent + y_1.exponent))).number.tdiv (10 : Int))), (w64 ((GScaled.mk (w64 ((w64 (x_0.number * y_1.number)).tdiv (100000000 : Int))) (w64 (x_0.exponent + y_1.exponent))).exponent + (1 : Int)))) else some ((GScaled.mk (w64 ((w64 (x_0.number * y_1.number)).tdiv (100000000 : Int))) (w64 (x_0.exponent + y_1.exponent))).number, (GScaled.mk (w64 ((w64 (x_0.number * y_1.number)).tdiv (100000000 : Int))) (w64 (x_0.exponent + y_1.exponent))).exponent)) : Option (Int × Int)).bind fun x4 => some (GScaled.mk x4.1 x4.2))

noncomputable def m_impl_LogDb_B3 (x1 : ByteArray) (v4 : Int) (v5 : Int) : Option ((Int × Int) ⊕ Int) :=
  (bif (decide (v5 < (if (0 : Int) > (w64 ((8 : Int) - (w64 ((x1.size : Int) - (1 : Int))))) then (0 : Int) else (w64 ((8 : Int) - (w64 ((x1.size : Int) - (1 : Int)))))))) then some (Sum.inl ((w64 (v4 * (10 : Int))), (w64 (v5 + (1 : Int))))) else Option.map Sum.inr (some v4))
noncomputable def m_impl_LogDb_B9 (x1 : ByteArray) (v10 : Int) (v11 : Int) : Option ((Int × Int) ⊕ Int) :=
  (bif (decide (v11 < (if (0 : Int) > (w64 ((w64 ((x1.size : Int) - (1 : Int))) - (8 : Int))) then (0 : Int) else (w64 ((w64 ((x1.size : Int) - (1 : Int))) - (8 : Int)))))) then some (Sum.inl ((w64 (v10.tdiv (10 : Int))), (w64 (v11 + (1 : Int))))) else Option.map Sum.inr (some v10))
noncomputable def m_impl_LogDb_B15  (v16 : Int) (v17 : Int) (v18 : Int) : Option ((Int × Int × Int) ⊕ Int) :=
  (bif (decide (v18 < (4 : Int))) then ((m_impl_scaled_times (GScaled.mk v17 (0 : Int)) (GScaled.mk v17 (0 : Int))).bind fun x22 => ((m_impl_scaled_times x22 x22).bind fun x25 => ((m_impl_scaled_times x25 (GScaled.mk v17 (0 : Int))).bind fun x26 => ((m_impl_scaled_times x26 x26).bind fun x29 => some (Sum.inl ((w64 ((w64 ((10 : Int) * v16)) + x29.exponent)), x29.number, (w64 (v18 + (1 : Int))))))))) else Option.map Sum.inr (some v16))
noncomputable def m_impl_LogDb (n_0 : Int) : Option Int :=
  (bif (decide (n_0 < (1 : Int))) then some (0 : Int) else ((m_impl_Decimal n_0).bind fun x1 => (((loopM (fun s : (Int × Int) => m_impl_LogDb_B3 x1 s.1 s.2) (n_0, (0 : Int))) : Option Int).bind fun x2 => (((loopM (fun s : (Int × Int) => m_impl_LogDb_B9 x1 s.1 s.2) (x2, (0 : Int))) : Option Int).bind fun x8 => (((loopM (fun s : (Int × Int × Int) => m_impl_LogDb_B15  s.1 s.2.1 s.2.2) ((w64 ((x1.size : Int) - (1 : Int))), x8, (0 : Int))) : Option Int).bind fun x14 => some x14)))))

noncomputable def m_impl_PowDb_B3 (v_0 : Int) (v4 : Int) (v5 : Int) : Option ((Int × Int) ⊕ Int) :=
  (bif (decide (v4 < v5)) then ((m_impl_LogDb (w64 (v4 + (w64 ((w64 (v5 - v4)).tdiv (2 : Int)))))).bind fun x7 => (((bif (decide (v_0 ≤ x7)) then some (v4, (w64 (v4 + (w64 ((w64 (v5 - v4)).tdiv (2 : Int)))))) else some ((w64 ((w64 (v4 + (w64 ((w64 (v5 - v4)).tdiv (2 : Int))))) + (1 : Int))), v5)) : Option (Int × Int)).bind fun x8 => some (Sum.inl (x8.1, x8.2)))) else Option.map Sum.inr (some v4))
noncomputable def m_impl_PowDb (v_0 : Int) : Option Int :=
  ((m_impl_within v_0 (0 : Int) (180000 : Int)).bind fun x1 => (bif (!x1) then some (0 : Int) else (((loopM (fun s : (Int × Int) => m_impl_PowDb_B3 v_0 s.1 s.2) ((1 : Int), (1000000000000000000 : Int))) : Option Int).bind fun x2 => some x2)))

noncomputable def m_impl_outageOf (f_0 : Int) (d_1 : Int) (climate_2 : Int) (margin_3 : Int) : Option Int :=
  ((m_impl_LogDb climate_2).bind fun x1 => ((m_impl_LogDb (if (1 : Int) > (w64 (f_0.tdiv (1000 : Int))) then (1 : Int) else (w64 (f_0.tdiv (1000 : Int))))).bind fun x2 => ((m_impl_LogDb d_1).bind fun x3 => (bif (decide ((w64 ((w64 ((w64 ((w64 (x1 + x2)) + (w64 ((3 : Int) * x3)))) - (142218 : Int))) - margin_3)) < (0 : Int))) then some (0 : Int) else ((m_impl_PowDb (w64 ((w64 ((w64 ((w64 (x1 + x2)) + (w64 ((3 : Int) * x3)))) - (142218 : Int))) - margin_3))).bind fun x4 => some (if (1000000 : Int) < x4 then (1000000 : Int) else x4))))))

noncomputable def m_impl_OutageOf (f_0 : Int) (d_1 : Int) (climate_2 : Int) (margin_3 : Int) : Option (Int × Int) :=
  ((((m_impl_fadingOk f_0 d_1 climate_2).bind fun x2 => (bif (!x2) then some true else ((m_impl_marginOk margin_3).bind fun x4 => some (!x4)))) : Option Bool).bind fun x1 => (bif x1 then some ((0 : Int), (2 : Int)) else ((m_impl_outageOf f_0 d_1 climate_2 margin_3).bind fun x6 => some (x6, (0 : Int)))))

noncomputable def m_laws_FnExactOutageOf (aF_0 : Int) (aD_1 : Int) (aClimate_2 : Int) (aMargin_3 : Int) : Option Bool :=
  ((m_spec_OutageOf aF_0 aD_1 aClimate_2 aMargin_3).bind fun x1 => ((m_impl_OutageOf aF_0 aD_1 aClimate_2 aMargin_3).bind fun x2 => (((bif (x2.1 != x1.1) then some true else some (x2.2 != x1.2)) : Option Bool).bind fun x3 => (bif x3 then some false else some true))))

noncomputable def m_spec_l13Outage (p_0 : Int) : Option Bool :=
  ((m_spec_l00In p_0 (0 : Int) (1000000 : Int)).bind fun x1 => some x1)

noncomputable def m_spec_MarginFor_B11 (f_0 : Int) (d_1 : Int) (climate_2 : Int) (outage_3 : Int) (v12 : Int) (v13 : Int) : Option ((Int × Int) ⊕ Int) :=
  (bif (decide (v12 < v13)) then ((m_spec_l13Fade f_0 d_1 climate_2 (w64 ((w64 (v12 + v13)).tdiv (2 : Int)))).bind fun x15 => (((bif (decide (x15 ≤ outage_3)) then some (v12, (w64 ((w64 (v12 + v13)).tdiv (2 : Int)))) else some ((w64 ((w64 ((w64 (v12 + v13)).tdiv (2 : Int))) + (1 : Int))), v13)) : Option (Int × Int)).bind fun x16 => some (Sum.inl (x16.1, x16.2)))) else Option.map Sum.inr (some v12))
noncomputable def m_spec_MarginFor (f_0 : Int) (d_1 : Int) (climate_2 : Int) (outage_3 : Int) : Option (Int × Int) :=
  ((((m_spec_l09Frequency f_0).bind fun x2 => (bif (!x2) then some true else ((m_spec_l09Distance d_1).bind fun x4 => (bif (!x4) then some true else ((m_spec_l13Climate climate_2).bind fun x6 => (bif (!x6) then some true else ((m_spec_l13Outage outage_3).bind fun x8 => some (!x8)))))))) : Option Bool).bind fun x1 => (bif x1 then some ((0 : Int), (2 : Int)) else (((loopM (fun s : (Int × Int) => m_spec_MarginFor_B11 f_0 d_1 climate_2 outage_3 s.1 s.2) ((0 : Int), (100001 : Int))) : Option Int).bind fun x10 => (bif (decide ((100000 : Int) < x10)) then some ((0 : Int), (3 : Int)) else some (x10, (0 : Int))))))

noncomputable def m_impl_MarginFor_1 (margin_0 : Int) (a_1 : Int) (a_2 : Int) (a_3 : Int) (a_4 : Int) : Option Bool :=
  ((m_impl_outageOf a_1 a_2 a_3 margin_0).bind fun x1 => some (decide (x1 ≤ a_4)))

noncomputable def m_impl_firstIn_1 (i_0 : Int) (a_1 : (Int → Option Bool)) (a_2 : Int) : Option Bool :=
  ((a_1 (w64 (a_2 + i_0))).bind fun x1 => some x1)

noncomputable def m_sort_Search_B2 (f_1 : (Int → Option Bool)) (v3 : Int) (v4 : Int) : Option ((Int × Int) ⊕ Int) :=
  (bif (decide (v3 < v4)) then ((bitOp .shr .u64 (IntKind.wrap .u64 ((w64 (v3 + v4)))) (1 : Int)).bind fun x6 => ((f_1 (w64 (x6))).bind fun x7 => (((bif (!x7) then some ((w64 ((w64 (x6)) + (1 : Int))), v4) else some (v3, (w64 (x6)))) : Option (Int × Int)).bind fun x8 => some (Sum.inl (x8.1, x8.2))))) else Option.map Sum.inr (some v3))
noncomputable def m_sort_Search (n_0 : Int) (f_1 : (Int → Option Bool)) : Option Int :=
  (((loopM (fun s : (Int × Int) => m_sort_Search_B2 f_1 s.1 s.2) ((0 : Int), n_0)) : Option Int).bind fun x1 => some x1)

noncomputable def m_impl_firstIn (low_0 : Int) (high_1 : Int) (has_2 : (Int → Option Bool)) : Option (Int × Bool) :=
  ((m_sort_Search (w64 ((w64 (high_1 - low_0)) + (1 : Int))) (fun x => m_impl_firstIn_1 x has_2 low_0)).bind fun x1 => some ((w64 (low_0 + x1)), (decide (x1 < (w64 ((w64 (high_1 - low_0)) + (1 : Int)))))))

noncomputable def m_impl_orNotFound (n_0 : Int) (ok_1 : Bool) : Option (Int × Int) :=
  (bif (!ok_1) then some ((0 : Int), (3 : Int)) else some (n_0, (0 : Int)))

noncomputable def m_impl_MarginFor (f_0 : Int) (d_1 : Int) (climate_2 : Int) (outage_3 : Int) : Option (Int × Int) :=
  ((((m_impl_fadingOk f_0 d_1 climate_2).bind fun x2 => (bif (!x2) then some true else ((m_impl_within outage_3 (0 : Int) (1000000 : Int)).bind fun x4 => some (!x4)))) : Option Bool).bind fun x1 => (bif x1 then some ((0 : Int), (2 : Int)) else ((m_impl_firstIn (0 : Int) (100000 : Int) (fun x => m_impl_MarginFor_1 x f_0 d_1 climate_2 outage_3)).bind fun x6 => ((m_impl_orNotFound x6.1 x6.2).bind fun x7 => some (x7.1, x7.2)))))

noncomputable def m_laws_FnExactMarginFor (aF_0 : Int) (aD_1 : Int) (aClimate_2 : Int) (aOutage_3 : Int) : Option Bool :=
  ((m_spec_MarginFor aF_0 aD_1 aClimate_2 aOutage_3).bind fun x1 => ((m_impl_MarginFor aF_0 aD_1 aClimate_2 aOutage_3).bind fun x2 => (((bif (x2.1 != x1.1) then some true else some (x2.2 != x1.2)) : Option Bool).bind fun x3 => (bif x3 then some false else some true))))

noncomputable def m_spec_l01Div (a_0 : Int) (b_1 : Int) : Option Int :=
  (((bif (decide (b_1 < (0 : Int))) then some ((w64 (0 - a_0)), (w64 (0 - b_1))) else some (a_0, b_1)) : Option (Int × Int)).bind fun x1 => (bif (decide (x1.1 < (0 : Int))) then ((qdiv .i64 (w64 (x1.2 - (w64 ((2 : Int) * x1.1)))) (w64 ((2 : Int) * x1.2))).bind fun x3 => some (w64 (0 - x3))) else ((qdiv .i64 (w64 ((w64 ((2 : Int) * x1.1)) + x1.2)) (w64 ((2 : Int) * x1.2))).bind fun x4 => some x4)))

noncomputable def m_spec_l01Line (x0_0 : Int) (y0_1 : Int) (x1_2 : Int) (y1_3 : Int) (x_4 : Int) : Option Int :=
  (((bif (decide (x_4 ≤ x0_0)) then some true else some (decide (x1_2 ≤ x0_0))) : Option Bool).bind fun x1 => (bif x1 then some y0_1 else (bif (decide (x1_2 ≤ x_4)) then some y1_3 else ((m_spec_l01Div (w64 ((w64 (y1_3 - y0_1)) * (w64 (x_4 - x0_0)))) (w64 (x1_2 - x0_0))).bind fun x4 => some (w64 (y0_1 + x4))))))

noncomputable def m_spec_l11Table_B3 (x_0 : Int) (places_1 : (List Int)) (values_2 : (List Int)) (v4 : Int) : Option (Int ⊕ Int) :=
  (bif (decide (v4 ≤ (w64 ((places_1.length : Int) - (1 : Int))))) then ((idx places_1 v4).bind fun x6 => (bif (decide (x_0 ≤ x6)) then ((idx places_1 (w64 (v4 - (1 : Int)))).bind fun x7 => ((idx values_2 (w64 (v4 - (1 : Int)))).bind fun x8 => ((idx places_1 v4).bind fun x9 => ((idx values_2 v4).bind fun x10 => ((m_spec_l01Line x7 x8 x9 x10 x_0).bind fun x11 => Option.map Sum.inr (some x11)))))) else some (Sum.inl (w64 (v4 + (1 : Int)))))) else Option.map Sum.inr (((idx values_2 (w64 ((places_1.length : Int) - (1 : Int)))).bind fun x12 => some x12)))
noncomputable def m_spec_l11Table (x_0 : Int) (places_1 : (List Int)) (values_2 : (List Int)) : Option Int :=
  ((idx places_1 (0 : Int)).bind fun x1 => (bif (decide (x_0 ≤ x1)) then ((idx values_2 (0 : Int)).bind fun x2 => some x2) else (loopM (fun s : Int => m_spec_l11Table_B3 x_0 places_1 values_2 s) (1 : Int))))

noncomputable def m_spec_l11Rain (f_0 : Int) (rain_1 : Int) : Option Int :=
  (bif (rain_1 == (0 : Int)) then some (0 : Int) else ((m_spec_l11Table (w64 (f_0.tdiv (1000 : Int))) ([(1000 : Int), (6000 : Int), (10000 : Int), (20000 : Int), (40000 : Int), (80000 : Int), (100000 : Int)] : (List Int)) ([(-42000 : Int), (-28000 : Int), (-19500 : Int), (-11200 : Int), (-4000 : Int), (500 : Int), (900 : Int)] : (List Int))).bind fun x1 => ((m_spec_l11Table (w64 (f_0.tdiv (1000 : Int))) ([(1000 : Int), (6000 : Int), (10000 : Int), (20000 : Int), (40000 : Int), (80000 : Int), (100000 : Int)] : (List Int)) ([(950 : Int), (1300 : Int), (1250 : Int), (1070 : Int), (920 : Int), (740 : Int), (700 : Int)] : (List Int))).bind fun x2 => ((m_spec_l02Log rain_1).bind fun x3 => ((m_spec_l01Div (w64 (x2 * x3)) (1000 : Int)).bind fun x4 => (bif (decide ((w64 ((w64 (x1 + (30000 : Int))) + x4)) < (0 : Int))) then some (0 : Int) else ((m_spec_l02Pow (w64 ((w64 (x1 + (30000 : Int))) + x4))).bind fun x5 => some x5)))))))

noncomputable def m_spec_l11Wet (f_0 : Int) (rain_1 : Int) (d_2 : Int) : Option Int :=
  ((m_spec_l01Div (35000000 : Int) (w64 ((1000 : Int) + (w64 ((15 : Int) * rain_1))))).bind fun x1 => ((m_spec_l11Rain f_0 rain_1).bind fun x2 => ((m_spec_l01Div (w64 ((w64 (x2 * d_2)) * x1)) (w64 ((1000 : Int) * (w64 (d_2 + x1))))).bind fun x3 => some x3)))

noncomputable def m_spec_l13Exceed (rain_0 : Int) : Option Int :=
  ((m_spec_l11Table rain_0 ([(0 : Int), (8 : Int), (30 : Int), (60 : Int), (100 : Int), (150 : Int), (200 : Int)] : (List Int)) ([(50000 : Int), (10000 : Int), (1000 : Int), (100 : Int), (10 : Int), (1 : Int), (0 : Int)] : (List Int))).bind fun x1 => some x1)

noncomputable def m_spec_l13Rain_B1 (f_0 : Int) (d_1 : Int) (margin_2 : Int) (v2 : Int) : Option (Int ⊕ Int) :=
  (bif (decide (v2 ≤ (200 : Int))) then ((m_spec_l11Wet f_0 v2 d_1).bind fun x4 => (bif (decide (margin_2 < x4)) then ((m_spec_l13Exceed v2).bind fun x5 => Option.map Sum.inr (some x5)) else some (Sum.inl (w64 (v2 + (1 : Int)))))) else Option.map Sum.inr (some (0 : Int)))
noncomputable def m_spec_l13Rain (f_0 : Int) (d_1 : Int) (margin_2 : Int) : Option Int :=
  (loopM (fun s : Int => m_spec_l13Rain_B1 f_0 d_1 margin_2 s) (0 : Int))

noncomputable def m_spec_RainOutage (f_0 : Int) (d_1 : Int) (margin_2 : Int) : Option (Int × Int) :=
  ((((m_spec_l09Frequency f_0).bind fun x2 => (bif (!x2) then some true else ((m_spec_l09Distance d_1).bind fun x4 => (bif (!x4) then some true else ((m_spec_l13Margin margin_2).bind fun x6 => some (!x6)))))) : Option Bool).bind fun x1 => (bif x1 then some ((0 : Int), (2 : Int)) else ((m_spec_l13Rain f_0 d_1 margin_2).bind fun x8 => some (x8, (0 : Int)))))

noncomputable def m_impl_abs (n_0 : Int) : Option Int :=
  some (if (w64 (0 - n_0)) > n_0 then (w64 (0 - n_0)) else n_0)

noncomputable def m_impl_divRound (a_0 : Int) (b_1 : Int) : Option Int :=
  ((qdiv .i64 a_0 b_1).bind fun x1 => ((rdiv a_0 b_1).bind fun x2 => ((m_impl_abs x2).bind fun x3 => ((m_impl_abs b_1).bind fun x4 => (bif (decide ((w64 (x4 - x3)) ≤ x3)) then (bif ((decide (a_0 < (0 : Int))) == (decide (b_1 < (0 : Int)))) then some (w64 (x1 + (1 : Int))) else some (w64 (x1 - (1 : Int)))) else some x1)))))

noncomputable def m_impl_blend (x0_0 : Int) (y0_1 : Int) (x1_2 : Int) (y1_3 : Int) (x_4 : Int) : Option Int :=
  (((bif (decide (x_4 ≤ x0_0)) then some true else some (decide (x1_2 ≤ x0_0))) : Option Bool).bind fun x1 => (bif x1 then some y0_1 else (bif (decide (x1_2 ≤ x_4)) then some y1_3 else ((m_impl_divRound (w64 ((w64 (y1_3 - y0_1)) * (w64 (x_4 - x0_0)))) (w64 (x1_2 - x0_0))).bind fun x4 => some (w64 (y0_1 + x4))))))

noncomputable def m_impl_rowsAt_B2 (rows_0 : (List (List Int))) (f_1 : Int) (v3 : Int) : Option (Int ⊕ Int) :=
  (((bif (decide (v3 < (w64 ((rows_0.length : Int) - (1 : Int))))) then ((idx rows_0 v3).bind fun x7 => ((idx (fit 2 (0 : Int) x7) (0 : Int)).bind fun x8 => some (decide (x8 < (w64 (f_1.tdiv (1000 : Int))))))) else some false) : Option Bool).bind fun x5 => (bif x5 then some (Sum.inl (w64 (v3 + (1 : Int)))) else Option.map Sum.inr (some v3)))
noncomputable def m_impl_rowsAt (rows_0 : (List (List Int))) (f_1 : Int) : Option Int :=
  (((loopM (fun s : Int => m_impl_rowsAt_B2 rows_0 f_1 s) (1 : Int)) : Option Int).bind fun x1 => ((idx rows_0 (w64 (x1 - (1 : Int)))).bind fun x11 => ((idx (fit 2 (0 : Int) x11) (0 : Int)).bind fun x12 => ((idx rows_0 (w64 (x1 - (1 : Int)))).bind fun x13 => ((idx (fit 2 (0 : Int) x13) (1 : Int)).bind fun x14 => ((idx rows_0 x1).bind fun x15 => ((idx (fit 2 (0 : Int) x15) (0 : Int)).bind fun x16 => ((idx rows_0 x1).bind fun x17 => ((idx (fit 2 (0 : Int) x17) (1 : Int)).bind fun x18 => ((m_impl_blend x12 x14 x16 x18 (w64 (f_1.tdiv (1000 : Int)))).bind fun x19 => some x19))))))))))

noncomputable def m_impl_rainSpecific (f_0 : Int) (rain_1 : Int) : Option Int :=
  ((m_impl_rowsAt ([([(1000 : Int), (-42000 : Int)] : (List Int)), ([(6000 : Int), (-28000 : Int)] : (List Int)), ([(10000 : Int), (-19500 : Int)] : (List Int)), ([(20000 : Int), (-11200 : Int)] : (List Int)), ([(40000 : Int), (-4000 : Int)] : (List Int)), ([(80000 : Int), (500 : Int)] : (List Int)), ([(100000 : Int), (900 : Int)] : (List Int))] : (List (List Int))) f_0).bind fun x1 => ((m_impl_rowsAt ([([(1000 : Int), (950 : Int)] : (List Int)), ([(6000 : Int), (1300 : Int)] : (List Int)), ([(10000 : Int), (1250 : Int)] : (List Int)), ([(20000 : Int), (1070 : Int)] : (List Int)), ([(40000 : Int), (920 : Int)] : (List Int)), ([(80000 : Int), (740 : Int)] : (List Int)), ([(100000 : Int), (700 : Int)] : (List Int))] : (List (List Int))) f_0).bind fun x2 => ((m_impl_LogDb rain_1).bind fun x3 => ((m_impl_divRound (w64 (x2 * x3)) (1000 : Int)).bind fun x4 => (((bif (rain_1 == (0 : Int)) then some true else some (decide ((w64 ((w64 (x1 + (30000 : Int))) + x4)) < (0 : Int)))) : Option Bool).bind fun x5 => (bif x5 then some (0 : Int) else ((m_impl_PowDb (w64 ((w64 (x1 + (30000 : Int))) + x4))).bind fun x8 => some x8)))))))

noncomputable def m_impl_rainLoss (f_0 : Int) (rain_1 : Int) (d_2 : Int) : Option Int :=
  ((m_impl_divRound (35000000 : Int) (w64 ((1000 : Int) + (w64 ((15 : Int) * rain_1))))).bind fun x1 => ((m_impl_rainSpecific f_0 rain_1).bind fun x2 => ((m_impl_divRound (w64 ((w64 (x2 * d_2)) * x1)) (w64 ((1000 : Int) * (w64 (d_2 + x1))))).bind fun x3 => some x3)))

noncomputable def m_impl_rainOutage_1 (n_0 : Int) (a_1 : Int) (a_2 : Int) (a_3 : Int) : Option Bool :=
  ((m_impl_rainLoss a_1 n_0 a_2).bind fun x1 => some (decide (a_3 < x1)))

noncomputable def m_impl_least_B1 (high_1 : Int) (has_2 : (Int → Option Bool)) (v2 : Int) : Option (Int ⊕ (Int × Bool)) :=
  (bif (decide (v2 ≤ high_1)) then ((has_2 v2).bind fun x4 => (bif x4 then Option.map Sum.inr (some (v2, true)) else some (Sum.inl (w64 (v2 + (1 : Int)))))) else Option.map Sum.inr (some ((0 : Int), false)))
noncomputable def m_impl_least (low_0 : Int) (high_1 : Int) (has_2 : (Int → Option Bool)) : Option (Int × Bool) :=
  (loopM (fun s : Int => m_impl_least_B1 high_1 has_2 s) low_0)

noncomputable def m_impl_exceedanceOf_B4 (rain_0 : Int) (v5 : Int) : Option (Int ⊕ Int) :=
  (((bif (decide (v5 < (6 : Int))) then ((idx ([([(0 : Int), (50000 : Int)] : (List Int)), ([(8 : Int), (10000 : Int)] : (List Int)), ([(30 : Int), (1000 : Int)] : (List Int)), ([(60 : Int), (100 : Int)] : (List Int)), ([(100 : Int), (10 : Int)] : (List Int)), ([(150 : Int), (1 : Int)] : (List Int)), ([(200 : Int), (0 : Int)] : (List Int))] : (List (List Int))) v5).bind fun x9 => ((idx x9 (0 : Int)).bind fun x10 => some (decide (x10 < rain_0)))) else some false) : Option Bool).bind fun x7 => (bif x7 then some (Sum.inl (w64 (v5 + (1 : Int)))) else Option.map Sum.inr (some v5)))
noncomputable def m_impl_exceedanceOf (rain_0 : Int) : Option Int :=
  (((loopM (fun s : Int => m_impl_exceedanceOf_B4 rain_0 s) (1 : Int)) : Option Int).bind fun x3 => ((idx ([([(0 : Int), (50000 : Int)] : (List Int)), ([(8 : Int), (10000 : Int)] : (List Int)), ([(30 : Int), (1000 : Int)] : (List Int)), ([(60 : Int), (100 : Int)] : (List Int)), ([(100 : Int), (10 : Int)] : (List Int)), ([(150 : Int), (1 : Int)] : (List Int)), ([(200 : Int), (0 : Int)] : (List Int))] : (List (List Int))) (w64 (x3 - (1 : Int)))).bind fun x13 => ((idx x13 (0 : Int)).bind fun x14 => ((idx ([([(0 : Int), (50000 : Int)] : (List Int)), ([(8 : Int), (10000 : Int)] : (List Int)), ([(30 : Int), (1000 : Int)] : (List Int)), ([(60 : Int), (100 : Int)] : (List Int)), ([(100 : Int), (10 : Int)] : (List Int)), ([(150 : Int), (1 : Int)] : (List Int)), ([(200 : Int), (0 : Int)] : (List Int))] : (List (List Int))) (w64 (x3 - (1 : Int)))).bind fun x15 => ((idx x15 (1 : Int)).bind fun x16 => ((idx ([([(0 : Int), (50000 : Int)] : (List Int)), ([(8 : Int), (10000 : Int)] : (List Int)), ([(30 : Int), (1000 : Int)] : (List Int)), ([(60 : Int), (100 : Int)] : (List Int)), ([(100 : Int), (10 : Int)] : (List Int)), ([(150 : Int), (1 : Int)] : (List Int)), ([(200 : Int), (0 : Int)] : (List Int))] : (List (List Int))) x3).bind fun x17 => ((idx x17 (0 : Int)).bind fun x18 => ((idx ([([(0 : Int), (50000 : Int)] : (List Int)), ([(8 : Int), (10000 : Int)] : (List Int)), ([(30 : Int), (1000 : Int)] : (List Int)), ([(60 : Int), (100 : Int)] : (List Int)), ([(100 : Int), (10 : Int)] : (List Int)), ([(150 : Int), (1 : Int)] : (List Int)), ([(200 : Int), (0 : Int)] : (List Int))] : (List (List Int))) x3).bind fun x19 => ((idx x19 (1 : Int)).bind fun x20 => ((m_impl_blend x14 x16 x18 x20 rain_0).bind fun x21 => some x21))))))))))

noncomputable def m_impl_rainOutage (f_0 : Int) (d_1 : Int) (margin_2 : Int) : Option Int :=
  ((m_impl_least (0 : Int) (200 : Int) (fun x => m_impl_rainOutage_1 x f_0 d_1 margin_2)).bind fun x1 => (bif (!x1.2) then some (0 : Int) else ((m_impl_exceedanceOf x1.1).bind fun x2 => some x2)))

noncomputable def m_impl_RainOutage (f_0 : Int) (d_1 : Int) (margin_2 : Int) : Option (Int × Int) :=
  ((((m_impl_frequencyOk f_0).bind fun x2 => (bif (!x2) then some true else ((m_impl_distanceOk d_1).bind fun x4 => (bif (!x4) then some true else ((m_impl_marginOk margin_2).bind fun x6 => some (!x6)))))) : Option Bool).bind fun x1 => (bif x1 then some ((0 : Int), (2 : Int)) else ((m_impl_rainOutage f_0 d_1 margin_2).bind fun x8 => some (x8, (0 : Int)))))

noncomputable def m_laws_FnExactRainOutage (aF_0 : Int) (aD_1 : Int) (aMargin_2 : Int) : Option Bool :=
  ((m_spec_RainOutage aF_0 aD_1 aMargin_2).bind fun x1 => ((m_impl_RainOutage aF_0 aD_1 aMargin_2).bind fun x2 => (((bif (x2.1 != x1.1) then some true else some (x2.2 != x1.2)) : Option Bool).bind fun x3 => (bif x3 then some false else some true))))

noncomputable def m_spec_l13Series_B2 (list_0 : (List Int)) (v3 : Int) (v4 : Int) : Option ((Int × Int) ⊕ Int) :=
  (bif (decide (v4 < (list_0.length : Int))) then ((idx list_0 v4).bind fun x6 => some (Sum.inl ((w64 ((w64 (v3 * (w64 ((1000000 : Int) - x6)))).tdiv (1000000 : Int))), (w64 (v4 + (1 : Int)))))) else Option.map Sum.inr (some v3))
noncomputable def m_spec_l13Series (list_0 : (List Int)) : Option Int :=
  (((loopM (fun s : (Int × Int) => m_spec_l13Series_B2 list_0 s.1 s.2) ((1000000 : Int), (0 : Int))) : Option Int).bind fun x1 => some (w64 ((1000000 : Int) - x1)))

noncomputable def m_spec_l13Hop (f_0 : Int) (d_1 : Int) (climate_2 : Int) (margin_3 : Int) : Option Int :=
  ((m_spec_l13Fade f_0 d_1 climate_2 margin_3).bind fun x1 => ((m_spec_l13Rain f_0 d_1 margin_3).bind fun x2 => ((m_spec_l13Series ([x1, x2] : (List Int))).bind fun x3 => some x3)))

noncomputable def m_spec_HopOutage (f_0 : Int) (d_1 : Int) (climate_2 : Int) (margin_3 : Int) : Option (Int × Int) :=
  ((((m_spec_l09Frequency f_0).bind fun x2 => (bif (!x2) then some true else ((m_spec_l09Distance d_1).bind fun x4 => (bif (!x4) then some true else ((m_spec_l13Climate climate_2).bind fun x6 => (bif (!x6) then some true else ((m_spec_l13Margin margin_3).bind fun x8 => some (!x8)))))))) : Option Bool).bind fun x1 => (bif x1 then some ((0 : Int), (2 : Int)) else ((m_spec_l13Hop f_0 d_1 climate_2 margin_3).bind fun x10 => some (x10, (0 : Int)))))

noncomputable def m_impl_seriesOutage_B2 (list_0 : (List Int)) (v3 : Int) (v4 : Int) : Option ((Int × Int) ⊕ Int) :=
  (bif (decide (v4 < (list_0.length : Int))) then ((idx list_0 v4).bind fun x6 => some (Sum.inl ((w64 ((w64 (v3 * (w64 ((1000000 : Int) - x6)))).tdiv (1000000 : Int))), (w64 (v4 + (1 : Int)))))) else Option.map Sum.inr (some v3))
noncomputable def m_impl_seriesOutage (list_0 : (List Int)) : Option Int :=
  (((loopM (fun s : (Int × Int) => m_impl_seriesOutage_B2 list_0 s.1 s.2) ((1000000 : Int), (0 : Int))) : Option Int).bind fun x1 => some (w64 ((1000000 : Int) - x1)))

noncomputable def m_impl_hopOutage (f_0 : Int) (d_1 : Int) (climate_2 : Int) (margin_3 : Int) : Option Int :=
  ((m_impl_outageOf f_0 d_1 climate_2 margin_3).bind fun x1 => ((m_impl_rainOutage f_0 d_1 margin_3).bind fun x2 => ((m_impl_seriesOutage ([x1, x2] : (List Int))).bind fun x3 => some x3)))

noncomputable def m_impl_HopOutage (f_0 : Int) (d_1 : Int) (climate_2 : Int) (margin_3 : Int) : Option (Int × Int) :=
  ((((m_impl_fadingOk f_0 d_1 climate_2).bind fun x2 => (bif (!x2) then some true else ((m_impl_marginOk margin_3).bind fun x4 => some (!x4)))) : Option Bool).bind fun x1 => (bif x1 then some ((0 : Int), (2 : Int)) else ((m_impl_hopOutage f_0 d_1 climate_2 margin_3).bind fun x6 => some (x6, (0 : Int)))))

noncomputable def m_laws_FnExactHopOutage (aF_0 : Int) (aD_1 : Int) (aClimate_2 : Int) (aMargin_3 : Int) : Option Bool :=
  ((m_spec_HopOutage aF_0 aD_1 aClimate_2 aMargin_3).bind fun x1 => ((m_impl_HopOutage aF_0 aD_1 aClimate_2 aMargin_3).bind fun x2 => (((bif (x2.1 != x1.1) then some true else some (x2.2 != x1.2)) : Option Bool).bind fun x3 => (bif x3 then some false else some true))))
end Go.Wk
