/-
  The functions as pure Lean. Printed by our own program.
-/
import Derived.Test.YtbhegklilcpbmaaDoorZero
import Derived.Test.YtbhegklilcpbmaaDoorErr
import Derived.Test.YtbhegklilcpbmaaDoorStr
import Derived.Test.YtbhegklilcpbmaaDoorTab
namespace Go.Wk
open Go Go.RowKit Go.Wk
set_option linter.unusedVariables false
structure GScaled where
  number : Int
  exponent : Int
abbrev cGScaled (b : GScaled) : List Pd := [(pEq (.int .i64 b.number)), (pEq (.int .i64 b.exponent))]
abbrev okGScaled (b : GScaled) : Prop := ((Lit.int .i64 b.number).wf = true) ∧ ((Lit.int .i64 b.exponent).wf = true)
structure GMask where
  Offsets : (List Int)
  Losses : (List Int)
abbrev cGMask (b : GMask) : List Pd := [(pSl 1 (cK .i64) b.Offsets), (pSl 1 (cK .i64) b.Losses)]
abbrev okGMask (b : GMask) : Prop := (b.Offsets.length ≤ maxLen ∧ ∀ x ∈ b.Offsets, ((Lit.int .i64 x).wf = true)) ∧ (b.Losses.length ≤ maxLen ∧ ∀ x ∈ b.Losses, ((Lit.int .i64 x).wf = true))
structure GBand where
  Name : ByteArray
  Low : Int
  High : Int
  Raster : Int
  Duplex : Int
abbrev cGBand (b : GBand) : List Pd := [(pEq (.string b.Name)), (pEq (.int .i64 b.Low)), (pEq (.int .i64 b.High)), (pEq (.int .i64 b.Raster)), (pEq (.int .i64 b.Duplex))]
abbrev okGBand (b : GBand) : Prop := (b.Name.size ≤ maxLen) ∧ ((Lit.int .i64 b.Low).wf = true) ∧ ((Lit.int .i64 b.High).wf = true) ∧ ((Lit.int .i64 b.Raster).wf = true) ∧ ((Lit.int .i64 b.Duplex).wf = true)
noncomputable def m_laws_toInt64S_B5 (a_0 : (List Int)) (v6 : Int) (v7 : (List Int)) : Option ((Int × (List Int)) ⊕ (List Int)) :=
  (bif (decide (v6 < (a_0.length : Int))) then ((idx a_0 v6).bind fun x9 => ((inB v7 v6).bind fun u10 => some (Sum.inl ((w64 (v6 + (1 : Int))), (v7.set (v6).toNat x9))))) else Option.map Sum.inr (some v7))
noncomputable def m_laws_toInt64S (a_0 : (List Int)) : Option (List Int) :=
  ((mkL 8 (a_0.length : Int) (0 : Int)).bind fun x1 => (((loopM (fun s : (Int × (List Int)) => m_laws_toInt64S_B5 a_0 s.1 s.2) ((0 : Int), x1)) : Option (List Int)).bind fun x4 => some x4))

noncomputable def m_spec_l00In (n_0 : Int) (low_1 : Int) (high_2 : Int) : Option Bool :=
  (((bif (decide (low_1 ≤ n_0)) then some (decide (n_0 ≤ high_2)) else some false) : Option Bool).bind fun x1 => some x1)

noncomputable def m_spec_l02Level (v_0 : Int) : Option Bool :=
  ((m_spec_l00In v_0 (-300000 : Int) (300000 : Int)).bind fun x1 => some x1)

noncomputable def m_spec_l16Row_B1 (row_0 : (List Int)) (v2 : Int) : Option (Int ⊕ Bool) :=
  (bif (decide (v2 < (row_0.length : Int))) then ((idx row_0 v2).bind fun x4 => ((m_spec_l02Level x4).bind fun x5 => (bif (!x5) then Option.map Sum.inr (some false) else some (Sum.inl (w64 (v2 + (1 : Int))))))) else Option.map Sum.inr ((((bif (decide ((0 : Int) < (row_0.length : Int))) then some (decide ((row_0.length : Int) ≤ (24 : Int))) else some false) : Option Bool).bind fun x6 => some x6)))
noncomputable def m_spec_l16Row (row_0 : (List Int)) : Option Bool :=
  (loopM (fun s : Int => m_spec_l16Row_B1 row_0 s) (0 : Int))

noncomputable def m_spec_l16Channels_B1 (channels_0 : (List Int)) (n_1 : Int) (v2 : Int) : Option (Int ⊕ Bool) :=
  (bif (decide (v2 < (channels_0.length : Int))) then ((idx channels_0 v2).bind fun x4 => ((m_spec_l00In x4 (-1 : Int) (999 : Int)).bind fun x5 => (bif (!x5) then Option.map Sum.inr (some false) else some (Sum.inl (w64 (v2 + (1 : Int))))))) else Option.map Sum.inr (some ((channels_0.length : Int) == n_1)))
noncomputable def m_spec_l16Channels (channels_0 : (List Int)) (n_1 : Int) : Option Bool :=
  (loopM (fun s : Int => m_spec_l16Channels_B1 channels_0 n_1 s) (0 : Int))

noncomputable def m_spec_l08Table_B1 (table_0 : (List Int)) (v2 : Int) : Option (Int ⊕ Bool) :=
  (bif (decide (v2 < (table_0.length : Int))) then ((((idx table_0 v2).bind fun x5 => ((m_spec_l00In x5 (0 : Int) (120000 : Int)).bind fun x6 => (bif (!x6) then some true else (bif (decide ((0 : Int) < v2)) then ((idx table_0 (w64 (v2 - (1 : Int)))).bind fun x9 => ((idx table_0 v2).bind fun x10 => some (decide (x10 < x9)))) else some false)))) : Option Bool).bind fun x4 => (bif x4 then Option.map Sum.inr (some false) else some (Sum.inl (w64 (v2 + (1 : Int)))))) else Option.map Sum.inr ((((bif (decide ((0 : Int) < (table_0.length : Int))) then (bif (decide ((table_0.length : Int) ≤ (64 : Int))) then ((idx table_0 (0 : Int)).bind fun x15 => some (x15 == (0 : Int))) else some false) else some false) : Option Bool).bind fun x12 => some x12)))
noncomputable def m_spec_l08Table (table_0 : (List Int)) : Option Bool :=
  (loopM (fun s : Int => m_spec_l08Table_B1 table_0 s) (0 : Int))

noncomputable def m_spec_l00Max (a_0 : Int) (b_1 : Int) : Option Int :=
  (bif (decide (b_1 < a_0)) then some a_0 else some b_1)

noncomputable def m_spec_l16Apart (a_0 : Int) (b_1 : Int) : Option Int :=
  ((m_spec_l00Max (w64 (a_0 - b_1)) (w64 (b_1 - a_0))).bind fun x1 => some x1)

noncomputable def m_spec_l02Times (a_0 : Int) (b_1 : Int) : Option (Int × Int) :=
  (bif (decide ((1000000000 : Int) ≤ (w64 ((w64 (a_0 * b_1)).tdiv (100000000 : Int))))) then some ((w64 ((w64 ((w64 (a_0 * b_1)).tdiv (100000000 : Int))).tdiv (10 : Int))), (1 : Int)) else some ((w64 ((w64 (a_0 * b_1)).tdiv (100000000 : Int))), (0 : Int)))

noncomputable def m_spec_l02Tenth (x_0 : Int) : Option (Int × Int) :=
  ((m_spec_l02Times x_0 x_0).bind fun x1 => ((m_spec_l02Times x1.1 x1.1).bind fun x2 => ((m_spec_l02Times x2.1 x_0).bind fun x3 => ((m_spec_l02Times x3.1 x3.1).bind fun x4 => some (x4.1, (w64 ((w64 ((2 : Int) * (w64 ((w64 ((w64 ((2 : Int) * x1.2)) + x2.2)) + x3.2)))) + x4.2)))))))

noncomputable def m_spec_l02Log_B2  (v3 : Int) (v4 : Int) : Option ((Int × Int) ⊕ Int) :=
  (bif (decide ((10 : Int) ≤ v4)) then some (Sum.inl ((w64 (v3 + (1 : Int))), (w64 (v4.tdiv (10 : Int))))) else Option.map Sum.inr (some v3))
noncomputable def m_spec_l02Log_B8  (v9 : Int) (v10 : Int) : Option ((Int × Int) ⊕ Int) :=
  (bif (decide (v10 < (8 : Int))) then some (Sum.inl ((w64 (v9 * (10 : Int))), (w64 (v10 + (1 : Int))))) else Option.map Sum.inr (some v9))
noncomputable def m_spec_l02Log_B14  (v15 : Int) (v16 : Int) : Option ((Int × Int) ⊕ Int) :=
  (bif (decide ((8 : Int) < v16)) then some (Sum.inl ((w64 (v15.tdiv (10 : Int))), (w64 (v16 - (1 : Int))))) else Option.map Sum.inr (some v15))
noncomputable def m_spec_l02Log_B20  (v21 : Int) (v22 : Int) (v23 : Int) : Option ((Int × Int × Int) ⊕ Int) :=
  (bif (decide (v23 < (4 : Int))) then ((m_spec_l02Tenth v22).bind fun x25 => some (Sum.inl ((w64 ((w64 ((10 : Int) * v21)) + x25.2)), x25.1, (w64 (v23 + (1 : Int)))))) else Option.map Sum.inr (some v21))
noncomputable def m_spec_l02Log (n_0 : Int) : Option Int :=
  (((loopM (fun s : (Int × Int) => m_spec_l02Log_B2  s.1 s.2) ((0 : Int), n_0)) : Option Int).bind fun x1 => (((loopM (fun s : (Int × Int) => m_spec_l02Log_B8  s.1 s.2) (n_0, x1)) : Option Int).bind fun x7 => (((loopM (fun s : (Int × Int) => m_spec_l02Log_B14  s.1 s.2) (x7, x1)) : Option Int).bind fun x13 => (((loopM (fun s : (Int × Int × Int) => m_spec_l02Log_B20  s.1 s.2.1 s.2.2) (x1, x13, (0 : Int))) : Option Int).bind fun x19 => some x19))))

noncomputable def m_spec_l02Pow_B2 (v_0 : Int) (v3 : Int) (v4 : Int) : Option ((Int × Int) ⊕ Int) :=
  (bif (decide (v3 < v4)) then ((m_spec_l02Log (w64 ((w64 (v3 + v4)).tdiv (2 : Int)))).bind fun x6 => (((bif (decide (v_0 ≤ x6)) then some (v3, (w64 ((w64 (v3 + v4)).tdiv (2 : Int)))) else some ((w64 ((w64 ((w64 (v3 + v4)).tdiv (2 : Int))) + (1 : Int))), v4)) : Option (Int × Int)).bind fun x7 => some (Sum.inl (x7.1, x7.2)))) else Option.map Sum.inr (some v3))
noncomputable def m_spec_l02Pow (v_0 : Int) : Option Int :=
  (((loopM (fun s : (Int × Int) => m_spec_l02Pow_B2 v_0 s.1 s.2) ((1 : Int), (1000000000000000000 : Int))) : Option Int).bind fun x1 => some x1)

noncomputable def m_spec_l02Part (v_0 : Int) : Option Int :=
  (bif (decide (v_0 < (-90000 : Int))) then some (0 : Int) else ((m_spec_l02Pow (w64 ((90000 : Int) + v_0))).bind fun x1 => some x1))

noncomputable def m_spec_l02Sum_B3 (list_0 : (List Int)) (v4 : Int) (v5 : Int) : Option ((Int × Int) ⊕ Int) :=
  (bif (decide (v5 < (list_0.length : Int))) then ((idx list_0 v5).bind fun x7 => ((m_spec_l00Max v4 x7).bind fun x8 => some (Sum.inl (x8, (w64 (v5 + (1 : Int))))))) else Option.map Sum.inr (some v4))
noncomputable def m_spec_l02Sum_B11 (list_0 : (List Int)) (x2 : Int) (v12 : Int) (v13 : Int) : Option ((Int × Int) ⊕ Int) :=
  (bif (decide (v13 < (list_0.length : Int))) then ((idx list_0 v13).bind fun x15 => ((m_spec_l02Part (w64 (x15 - x2))).bind fun x16 => some (Sum.inl ((w64 (v12 + x16)), (w64 (v13 + (1 : Int))))))) else Option.map Sum.inr (some v12))
noncomputable def m_spec_l02Sum (list_0 : (List Int)) : Option Int :=
  ((idx list_0 (0 : Int)).bind fun x1 => (((loopM (fun s : (Int × Int) => m_spec_l02Sum_B3 list_0 s.1 s.2) (x1, (1 : Int))) : Option Int).bind fun x2 => (((loopM (fun s : (Int × Int) => m_spec_l02Sum_B11 list_0 x2 s.1 s.2) ((0 : Int), (0 : Int))) : Option Int).bind fun x10 => ((m_spec_l02Log x10).bind fun x18 => some (w64 ((w64 (x2 - (90000 : Int))) + x18))))))

noncomputable def m_spec_l00Min (a_0 : Int) (b_1 : Int) : Option Int :=
  (bif (decide (a_0 < b_1)) then some a_0 else some b_1)

noncomputable def m_spec_l16Ratio_B4 (a_0 : (List Int)) (a_1 : (List Int)) (a_2 : (List Int)) (a_3 : Int) (v5 : Int) (v6 : (List Int)) : Option ((Int × (List Int)) ⊕ (List Int)) :=
  (bif (decide (v5 < (a_0.length : Int))) then (((((bif (v5 == a_3) then some true else ((idx a_1 v5).bind fun x11 => some (decide (x11 < (0 : Int))))) : Option Bool).bind fun x9 => (bif x9 then some v6 else ((idx a_1 v5).bind fun x13 => ((idx a_1 a_3).bind fun x14 => ((m_spec_l16Apart x13 x14).bind fun x15 => (((bif (decide (x15 < (a_2.length : Int))) then ((idx a_0 v5).bind fun x17 => ((idx a_2 x15).bind fun x18 => ((m_spec_l00Max (-300000 : Int) (w64 (x17 - x18))).bind fun x19 => ((appL 8 v6 ([x19] : (List Int))).bind fun x20 => some x20)))) else some v6) : Option (List Int)).bind fun x16 => some x16)))))) : Option (List Int)).bind fun x8 => some (Sum.inl ((w64 (v5 + (1 : Int))), x8))) else Option.map Sum.inr (some v6))
noncomputable def m_spec_l16Ratio (a_0 : (List Int)) (a_1 : (List Int)) (a_2 : (List Int)) (a_3 : Int) : Option Int :=
  (((loopM (fun s : (Int × (List Int)) => m_spec_l16Ratio_B4 a_0 a_1 a_2 a_3 s.1 s.2) ((0 : Int), ([] : (List Int)))) : Option (List Int)).bind fun x3 => (bif ((x3.length : Int) == (0 : Int)) then some (200000 : Int) else ((idx a_0 a_3).bind fun x25 => ((m_spec_l02Sum x3).bind fun x26 => ((m_spec_l00Min (200000 : Int) (w64 (x25 - x26))).bind fun x27 => ((m_spec_l00Max (-200000 : Int) x27).bind fun x28 => some x28))))))

noncomputable def m_spec_SignalRatio (levels_0 : (List Int)) (channels_1 : (List Int)) (table_2 : (List Int)) (sector_3 : Int) : Option (Int × Int) :=
  ((((m_spec_l16Row levels_0).bind fun x2 => (bif (!x2) then some true else ((m_spec_l16Channels channels_1 (levels_0.length : Int)).bind fun x4 => (bif (!x4) then some true else ((m_spec_l08Table table_2).bind fun x6 => some (!x6)))))) : Option Bool).bind fun x1 => (bif x1 then some ((0 : Int), (1 : Int)) else ((m_spec_l00In sector_3 (0 : Int) (w64 ((levels_0.length : Int) - (1 : Int)))).bind fun x8 => (bif (!x8) then some ((0 : Int), (2 : Int)) else ((idx channels_1 sector_3).bind fun x9 => (bif (decide (x9 < (0 : Int))) then some ((0 : Int), (6 : Int)) else ((m_spec_l16Ratio levels_0 channels_1 table_2 sector_3).bind fun x10 => some (x10, (0 : Int)))))))))

noncomputable def m_impl_within (n_0 : Int) (low_1 : Int) (high_2 : Int) : Option Bool :=
  (((bif (decide (low_1 ≤ n_0)) then some (decide (n_0 ≤ high_2)) else some false) : Option Bool).bind fun x1 => some x1)

noncomputable def m_impl_allWithin_1 (n_0 : Int) (a_1 : Int) (a_2 : Int) : Option Bool :=
  ((m_impl_within n_0 a_1 a_2).bind fun x1 => some (!x1))

noncomputable def m_slices_IndexFunc_int64_int64_B1 (s_0 : (List Int)) (f_1 : (Int → Option Bool)) (v2 : Int) : Option (Int ⊕ Int) :=
  (bif (decide (v2 < (s_0.length : Int))) then ((idx s_0 v2).bind fun x4 => ((f_1 x4).bind fun x5 => (bif x5 then Option.map Sum.inr (some v2) else some (Sum.inl (w64 (v2 + (1 : Int))))))) else Option.map Sum.inr (some (-1 : Int)))
noncomputable def m_slices_IndexFunc_int64_int64 (s_0 : (List Int)) (f_1 : (Int → Option Bool)) : Option Int :=
  (loopM (fun s : Int => m_slices_IndexFunc_int64_int64_B1 s_0 f_1 s) (0 : Int))

noncomputable def m_slices_ContainsFunc_int64_int64 (s_0 : (List Int)) (f_1 : (Int → Option Bool)) : Option Bool :=
  ((m_slices_IndexFunc_int64_int64 s_0 f_1).bind fun x1 => some (decide ((0 : Int) ≤ x1)))

noncomputable def m_impl_allWithin (list_0 : (List Int)) (low_1 : Int) (high_2 : Int) : Option Bool :=
  ((m_slices_ContainsFunc_int64_int64 list_0 (fun x => m_impl_allWithin_1 x low_1 high_2)).bind fun x1 => some (!x1))

noncomputable def m_impl_rowOk (row_0 : (List Int)) : Option Bool :=
  (((bif (decide ((1 : Int) ≤ (row_0.length : Int))) then (bif (decide ((row_0.length : Int) ≤ (24 : Int))) then ((m_impl_allWithin row_0 (-300000 : Int) (300000 : Int)).bind fun x4 => some x4) else some false) else some false) : Option Bool).bind fun x1 => some x1)

noncomputable def m_cmp_isNaN_int64 (x_0 : Int) : Option Bool :=
  some (x_0 != x_0)

noncomputable def m_cmp_Less_int64 (x_0 : Int) (y_1 : Int) : Option Bool :=
  ((((m_cmp_isNaN_int64 x_0).bind fun x2 => (bif x2 then ((m_cmp_isNaN_int64 y_1).bind fun x4 => (bif (!x4) then some true else some (decide (x_0 < y_1)))) else some (decide (x_0 < y_1)))) : Option Bool).bind fun x1 => some x1)

noncomputable def m_slices_IsSorted_int64_int64_B1 (x_0 : (List Int)) (v2 : Int) : Option (Int ⊕ Bool) :=
  (bif (decide ((0 : Int) < v2)) then ((idx x_0 v2).bind fun x4 => ((idx x_0 (w64 (v2 - (1 : Int)))).bind fun x5 => ((m_cmp_Less_int64 x4 x5).bind fun x6 => (bif x6 then Option.map Sum.inr (some false) else some (Sum.inl (w64 (v2 - (1 : Int)))))))) else Option.map Sum.inr (some true))
noncomputable def m_slices_IsSorted_int64_int64 (x_0 : (List Int)) : Option Bool :=
  (loopM (fun s : Int => m_slices_IsSorted_int64_int64_B1 x_0 s) (w64 ((x_0.length : Int) - (1 : Int))))

noncomputable def m_impl_tableOk (table_0 : (List Int)) : Option Bool :=
  (((bif (decide ((1 : Int) ≤ (table_0.length : Int))) then (bif (decide ((table_0.length : Int) ≤ (64 : Int))) then ((idx table_0 (0 : Int)).bind fun x4 => (bif (x4 == (0 : Int)) then ((m_slices_IsSorted_int64_int64 table_0).bind fun x6 => (bif x6 then ((m_impl_allWithin table_0 (0 : Int) (120000 : Int)).bind fun x8 => some x8) else some false)) else some false)) else some false) else some false) : Option Bool).bind fun x1 => some x1)

noncomputable def m_impl_channelsOk (channels_0 : (List Int)) (sectors_1 : Int) : Option Bool :=
  (((bif ((channels_0.length : Int) == sectors_1) then ((m_impl_allWithin channels_0 (-1 : Int) (999 : Int)).bind fun x3 => some x3) else some false) : Option Bool).bind fun x1 => some x1)

noncomputable def m_impl_indexValid_int64 (list_0 : (List Int)) (k_1 : Int) : Option Bool :=
  ((m_impl_within k_1 (0 : Int) (w64 ((list_0.length : Int) - (1 : Int)))).bind fun x1 => some x1)

noncomputable def m_impl_abs (n_0 : Int) : Option Int :=
  some (if (w64 (0 - n_0)) > n_0 then (w64 (0 - n_0)) else n_0)

noncomputable def m_slices_Max_int64_int64_B5 (x_0 : (List Int)) (v6 : Int) (v7 : Int) : Option ((Int × Int) ⊕ Int) :=
  (bif (decide (v7 < (x_0.length : Int))) then ((idx x_0 v7).bind fun x9 => some (Sum.inl ((if x9 > v6 then x9 else v6), (w64 (v7 + (1 : Int)))))) else Option.map Sum.inr (some v6))
noncomputable def m_slices_Max_int64_int64 (x_0 : (List Int)) : Option Int :=
  (((bif (decide ((x_0.length : Int) < (1 : Int))) then (none : Option Unit) else some ()) : Option Unit).bind fun x1 => ((idx x_0 (0 : Int)).bind fun x3 => (((loopM (fun s : (Int × Int) => m_slices_Max_int64_int64_B5 x_0 s.1 s.2) (x3, (1 : Int))) : Option Int).bind fun x4 => some x4)))

noncomputable def m_strconv_FormatInt (n_0 b_1 : Int) : Option ByteArray :=
  fmtM n_0 b_1

noncomputable def m_impl_Decimal (n_0 : Int) : Option ByteArray :=
  ((m_strconv_FormatInt n_0 (10 : Int)).bind fun x1 => some x1)

noncomputable def m_impl_scaled_times (x_0 : GScaled) (y_1 : GScaled) : Option GScaled :=
  (((bif (decide ((1000000000 : Int) ≤ (GScaled.mk (w64 ((w64 (x_0.number * y_1.number)).tdiv (100000000 : Int))) (w64 (x_0.exponent + y_1.exponent))).number)) then some ((w64 ((GScaled.mk (w64 ((w64 (x_0.number * y_1.number)).tdiv (100000000 : Int))) (w64 (x_0.exponent + y_1.exponent))).number.tdiv (10 : Int))), (w64 ((GScaled.mk (w64 ((w64 (x_0.number * y_1.number)).tdiv (100000000 : Int))) (w64 (x_0.exponent + y_1.exponent))).exponent + (1 : Int)))) else some ((GScaled.mk (w64 ((w64 (x_0.number * y_1.number)).tdiv (100000000 : Int))) (w64 (x_0.exponent + y_1.exponent))).number, (GScaled.mk (w64 ((w64 (x_0.number * y_1.number)).tdiv (100000000 : Int))) (w64 (x_0.exponent + y_1.exponent))).exponent)) : Option (Int × Int)).bind fun x4 => some (GScaled.mk x4.1 x4.2))

noncomputable def m_impl_LogDb_B3 (x1 : ByteArray) (v4 : Int) (v5 : Int) : Option ((Int × Int) ⊕ Int) :=
  (bif (decide (v5 < (if (0 : Int) > (w64 ((8 : Int) - (w64 ((x1.size : Int) - (1 : Int))))) then (0 : Int) else (w64 ((8 : Int) - (w64 ((x1.size : Int) - (1 : Int)))))))) then some (Sum.inl ((w64 (v4 * (10 : Int))), (w64 (v5 + (1 : Int))))) else Option.map Sum.inr (some v4))
noncomputable def m_impl_LogDb_B9 (x1 : ByteArray) (v10 : Int) (v11 : Int) : Option ((Int × Int) ⊕ Int) :=
  (bif (decide (v11 < (if (0 : Int) > (w64 ((w64 ((x1.size : Int) - (1 : Int))) - (8 : Int))) then (0 : Int) else (w64 ((w64 ((x1.size : Int) - (1 : Int))) - (8 : Int)))))) then some (Sum.inl ((w64 (v10.tdiv (10 : Int))), (w64 (v11 + (1 : Int))))) else Option.map Sum.inr (some v10))
noncomputable def m_impl_LogDb_B15  (v16 : Int) (v17 : Int) (v18 : Int) : Option ((Int × Int × Int) ⊕ Int) :=
  (bif (decide (v18 < (4 : Int))) then ((m_impl_scaled_times (GScaled.mk v17 (0 : Int)) (GScaled.mk v17 (0 : Int))).bind fun x22 => ((m_impl_scaled_times x22 x22).bind fun x25 => ((m_impl_scaled_times x25 (GScaled.mk v17 (0 : Int))).bind fun x26 => ((m_impl_scaled_times x26 x26).bind fun x29 => some (Sum.inl ((w64 ((w64 ((10 : Int) * v16)) + x29.exponent)), x29.number, (w64 (v18 + (1 : Int))))))))) else Option.map Sum.inr (some v16))
noncomputable def m_impl_LogDb (n_0 : Int) : Option Int :=
  (bif (decide (n_0 < (1 : Int))) then some (0 : Int) else ((m_impl_Decimal n_0).bind fun x1 => (((loopM (fun s : (Int × Int) => m_impl_LogDb_B3 x1 s.1 s.2) (n_0, (0 : Int))) : Option Int).bind fun x2 => (((loopM (fun s : (Int × Int) => m_impl_LogDb_B9 x1 s.1 s.2) (x2, (0 : Int))) : Option Int).bind fun x8 => (((loopM (fun s : (Int × Int × Int) => m_impl_LogDb_B15  s.1 s.2.1 s.2.2) ((w64 ((x1.size : Int) - (1 : Int))), x8, (0 : Int))) : Option Int).bind fun x14 => some x14)))))

noncomputable def m_impl_PowDb_B3 (v_0 : Int) (v4 : Int) (v5 : Int) : Option ((Int × Int) ⊕ Int) :=
  (bif (decide (v4 < v5)) then ((m_impl_LogDb (w64 (v4 + (w64 ((w64 (v5 - v4)).tdiv (2 : Int)))))).bind fun x7 => (((bif (decide (v_0 ≤ x7)) then some (v4, (w64 (v4 + (w64 ((w64 (v5 - v4)).tdiv (2 : Int)))))) else some ((w64 ((w64 (v4 + (w64 ((w64 (v5 - v4)).tdiv (2 : Int))))) + (1 : Int))), v5)) : Option (Int × Int)).bind fun x8 => some (Sum.inl (x8.1, x8.2)))) else Option.map Sum.inr (some v4))
noncomputable def m_impl_PowDb (v_0 : Int) : Option Int :=
  ((m_impl_within v_0 (0 : Int) (180000 : Int)).bind fun x1 => (bif (!x1) then some (0 : Int) else (((loopM (fun s : (Int × Int) => m_impl_PowDb_B3 v_0 s.1 s.2) ((1 : Int), (1000000000000000000 : Int))) : Option Int).bind fun x2 => some x2)))

noncomputable def m_impl_partOf (v_0 : Int) : Option Int :=
  (bif (decide (v_0 < (-90000 : Int))) then some (0 : Int) else ((m_impl_PowDb (w64 ((90000 : Int) + v_0))).bind fun x1 => some x1))

noncomputable def m_impl_sumDb_B3 (list_0 : (List Int)) (x1 : Int) (v4 : Int) (v5 : Int) : Option ((Int × Int) ⊕ Int) :=
  (bif (decide (v5 < (list_0.length : Int))) then ((idx list_0 v5).bind fun x7 => ((m_impl_partOf (w64 (x7 - x1))).bind fun x8 => some (Sum.inl ((w64 (v4 + x8)), (w64 (v5 + (1 : Int))))))) else Option.map Sum.inr (some v4))
noncomputable def m_impl_sumDb (list_0 : (List Int)) : Option Int :=
  ((m_slices_Max_int64_int64 list_0).bind fun x1 => (((loopM (fun s : (Int × Int) => m_impl_sumDb_B3 list_0 x1 s.1 s.2) ((0 : Int), (0 : Int))) : Option Int).bind fun x2 => ((m_impl_LogDb x2).bind fun x10 => some (w64 ((w64 (x1 - (90000 : Int))) + x10)))))

noncomputable def m_impl_signalRatio_B3 (a_0 : (List Int)) (a_1 : (List Int)) (a_2 : (List Int)) (a_3 : Int) (v4 : Int) (v5 : (List Int)) : Option ((Int × (List Int)) ⊕ (List Int)) :=
  (bif (decide (v4 < (a_0.length : Int))) then ((idx a_0 v4).bind fun x7 => ((idx a_1 v4).bind fun x8 => ((idx a_1 a_3).bind fun x9 => ((m_impl_abs (w64 (x8 - x9))).bind fun x10 => (((bif (v4 != a_3) then ((idx a_1 v4).bind fun x13 => (bif (decide ((0 : Int) ≤ x13)) then ((m_impl_indexValid_int64 a_2 x10).bind fun x15 => some x15) else some false)) else some false) : Option Bool).bind fun x11 => (((bif x11 then ((idx a_2 x10).bind fun x18 => ((appL 8 v5 ([(if (-300000 : Int) > (w64 (x7 - x18)) then (-300000 : Int) else (w64 (x7 - x18)))] : (List Int))).bind fun x19 => some x19)) else some v5) : Option (List Int)).bind fun x17 => some (Sum.inl ((w64 (v4 + (1 : Int))), x17)))))))) else Option.map Sum.inr (some v5))
noncomputable def m_impl_signalRatio (a_0 : (List Int)) (a_1 : (List Int)) (a_2 : (List Int)) (a_3 : Int) : Option Int :=
  (((loopM (fun s : (Int × (List Int)) => m_impl_signalRatio_B3 a_0 a_1 a_2 a_3 s.1 s.2) ((0 : Int), ([] : (List Int)))) : Option (List Int)).bind fun x2 => (bif (x2.isEmpty) then some (200000 : Int) else ((idx a_0 a_3).bind fun x23 => ((m_impl_sumDb x2).bind fun x24 => some (if (200000 : Int) < (if (-200000 : Int) > (w64 (x23 - x24)) then (-200000 : Int) else (w64 (x23 - x24))) then (200000 : Int) else (if (-200000 : Int) > (w64 (x23 - x24)) then (-200000 : Int) else (w64 (x23 - x24))))))))

noncomputable def m_impl_SignalRatio (levels_0 : (List Int)) (channels_1 : (List Int)) (table_2 : (List Int)) (sector_3 : Int) : Option (Int × Int) :=
  ((((m_impl_rowOk levels_0).bind fun x2 => (bif (!x2) then some true else ((m_impl_tableOk table_2).bind fun x4 => (bif (!x4) then some true else ((m_impl_channelsOk channels_1 (levels_0.length : Int)).bind fun x6 => some (!x6)))))) : Option Bool).bind fun x1 => (bif x1 then some ((0 : Int), (1 : Int)) else ((m_impl_indexValid_int64 levels_0 sector_3).bind fun x8 => (bif (!x8) then some ((0 : Int), (2 : Int)) else ((idx channels_1 sector_3).bind fun x9 => (bif (decide (x9 < (0 : Int))) then some ((0 : Int), (6 : Int)) else ((m_impl_signalRatio levels_0 channels_1 table_2 sector_3).bind fun x10 => some (x10, (0 : Int)))))))))

noncomputable def m_laws_eqInt64S_B1 (a_0 : (List Int)) (b_1 : (List Int)) (v2 : Int) : Option (Int ⊕ Bool) :=
  (bif (decide (v2 < (a_0.length : Int))) then ((idx a_0 v2).bind fun x4 => ((idx b_1 v2).bind fun x5 => (bif (x4 != x5) then Option.map Sum.inr (some false) else some (Sum.inl (w64 (v2 + (1 : Int))))))) else Option.map Sum.inr (some true))
noncomputable def m_laws_eqInt64S (a_0 : (List Int)) (b_1 : (List Int)) : Option Bool :=
  (bif ((a_0.length : Int) != (b_1.length : Int)) then some false else (loopM (fun s : Int => m_laws_eqInt64S_B1 a_0 b_1 s) (0 : Int)))

noncomputable def m_laws_FnExactSignalRatio (a_0 : (List Int)) (a_1 : (List Int)) (a_2 : (List Int)) (a_3 : Int) : Option Bool :=
  (bif (decide ((1048576 : Int) < (a_0.length : Int))) then some true else (bif (decide ((1048576 : Int) < (a_1.length : Int))) then some true else (bif (decide ((1048576 : Int) < (a_2.length : Int))) then some true else ((m_laws_toInt64S a_0).bind fun x1 => ((m_laws_toInt64S a_1).bind fun x2 => ((m_laws_toInt64S a_2).bind fun x3 => ((m_spec_SignalRatio x1 x2 x3 a_3).bind fun x4 => ((m_laws_toInt64S a_0).bind fun x5 => ((m_laws_toInt64S a_1).bind fun x6 => ((m_laws_toInt64S a_2).bind fun x7 => ((m_impl_SignalRatio x5 x6 x7 a_3).bind fun x8 => (((bif (x8.1 != x4.1) then some true else some (x8.2 != x4.2)) : Option Bool).bind fun x9 => (bif x9 then some false else ((m_laws_toInt64S a_0).bind fun x12 => ((m_laws_eqInt64S x5 x12).bind fun x13 => (bif (!x13) then some false else ((m_laws_toInt64S a_1).bind fun x14 => ((m_laws_eqInt64S x6 x14).bind fun x15 => (bif (!x15) then some false else ((m_laws_toInt64S a_2).bind fun x16 => ((m_laws_eqInt64S x7 x16).bind fun x17 => (bif (!x17) then some false else some true))))))))))))))))))))))

noncomputable def m_laws_szInt64S (a_0 : (List Int)) (left_1 : Int) : Option Int :=
  (bif (decide ((w64 (left_1 - (a_0.length : Int))) < (0 : Int))) then some (-1 : Int) else some (w64 (left_1 - (a_0.length : Int))))

noncomputable def m_laws_szInt64SS_B1 (a_0 : (List (List Int))) (v2 : Int) (v3 : Int) : Option ((Int × Int) ⊕ Int) :=
  (bif (decide (v3 < (a_0.length : Int))) then ((idx a_0 v3).bind fun x5 => ((m_laws_szInt64S x5 v2).bind fun x6 => (bif (decide (x6 < (0 : Int))) then Option.map Sum.inr (some (-1 : Int)) else some (Sum.inl (x6, (w64 (v3 + (1 : Int)))))))) else Option.map Sum.inr (some v2))
noncomputable def m_laws_szInt64SS (a_0 : (List (List Int))) (left_1 : Int) : Option Int :=
  (bif (decide ((w64 (left_1 - (a_0.length : Int))) < (0 : Int))) then some (-1 : Int) else (loopM (fun s : (Int × Int) => m_laws_szInt64SS_B1 a_0 s.1 s.2) ((w64 (left_1 - (a_0.length : Int))), (0 : Int))))

noncomputable def m_laws_toInt64SS_B5 (a_0 : (List (List Int))) (v6 : Int) (v7 : (List (List Int))) : Option ((Int × (List (List Int))) ⊕ (List (List Int))) :=
  (bif (decide (v6 < (a_0.length : Int))) then ((idx a_0 v6).bind fun x9 => ((m_laws_toInt64S x9).bind fun x10 => ((inB v7 v6).bind fun u13 => some (Sum.inl ((w64 (v6 + (1 : Int))), (v7.set (v6).toNat x10)))))) else Option.map Sum.inr (some v7))
noncomputable def m_laws_toInt64SS (a_0 : (List (List Int))) : Option (List (List Int)) :=
  ((mkL 24 (a_0.length : Int) ([] : (List Int))).bind fun x1 => (((loopM (fun s : (Int × (List (List Int))) => m_laws_toInt64SS_B5 a_0 s.1 s.2) ((0 : Int), x1)) : Option (List (List Int))).bind fun x4 => some x4))

noncomputable def m_spec_l16Rows_B1 (rows_0 : (List (List Int))) (v2 : Int) : Option (Int ⊕ Bool) :=
  (bif (decide (v2 < (rows_0.length : Int))) then ((((idx rows_0 v2).bind fun x5 => ((m_spec_l16Row x5).bind fun x6 => (bif (!x6) then some true else ((idx rows_0 v2).bind fun x8 => ((idx rows_0 (0 : Int)).bind fun x9 => some ((x8.length : Int) != (x9.length : Int))))))) : Option Bool).bind fun x4 => (bif x4 then Option.map Sum.inr (some false) else some (Sum.inl (w64 (v2 + (1 : Int)))))) else Option.map Sum.inr ((((bif (decide ((0 : Int) < (rows_0.length : Int))) then some (decide ((rows_0.length : Int) ≤ (32 : Int))) else some false) : Option Bool).bind fun x11 => some x11)))
noncomputable def m_spec_l16Rows (rows_0 : (List (List Int))) : Option Bool :=
  (loopM (fun s : Int => m_spec_l16Rows_B1 rows_0 s) (0 : Int))

noncomputable def m_spec_l16Server_B2 (row_0 : (List Int)) (v3 : Int) (v4 : Int) : Option ((Int × Int) ⊕ Int) :=
  (bif (decide (v4 < (row_0.length : Int))) then ((idx row_0 v4).bind fun x6 => ((idx row_0 v3).bind fun x7 => (((bif (decide (x7 < x6)) then some v4 else some v3) : Option Int).bind fun x8 => some (Sum.inl (x8, (w64 (v4 + (1 : Int)))))))) else Option.map Sum.inr (some v3))
noncomputable def m_spec_l16Server (row_0 : (List Int)) : Option Int :=
  (((loopM (fun s : (Int × Int) => m_spec_l16Server_B2 row_0 s.1 s.2) ((0 : Int), (1 : Int))) : Option Int).bind fun x1 => some x1)

noncomputable def m_spec_WorstRatio_B9 (a_0 : (List (List Int))) (a_1 : (List Int)) (a_2 : (List Int)) (v10 : Int) (v11 : Int) (v12 : Int) : Option ((Int × Int × Int) ⊕ (Int × Int × Int)) :=
  (bif (decide (v12 < (a_0.length : Int))) then ((idx a_0 v12).bind fun x14 => ((m_spec_l16Server x14).bind fun x15 => ((idx a_1 x15).bind fun x16 => (bif (decide (x16 < (0 : Int))) then Option.map Sum.inr (some ((0 : Int), (0 : Int), (6 : Int))) else ((idx a_0 v12).bind fun x17 => ((m_spec_l16Ratio x17 a_1 a_2 x15).bind fun x18 => (((bif (decide (v10 < (0 : Int))) then some true else some (decide (x18 < v11))) : Option Bool).bind fun x19 => (((bif x19 then some (v12, x18) else some (v10, v11)) : Option (Int × Int)).bind fun x22 => some (Sum.inl (x22.1, x22.2, (w64 (v12 + (1 : Int))))))))))))) else Option.map Sum.inr (some (v10, v11, (0 : Int))))
noncomputable def m_spec_WorstRatio (a_0 : (List (List Int))) (a_1 : (List Int)) (a_2 : (List Int)) : Option (Int × Int × Int) :=
  ((((m_spec_l16Rows a_0).bind fun x2 => (bif (!x2) then some true else ((idx a_0 (0 : Int)).bind fun x4 => ((m_spec_l16Channels a_1 (x4.length : Int)).bind fun x5 => (bif (!x5) then some true else ((m_spec_l08Table a_2).bind fun x7 => some (!x7))))))) : Option Bool).bind fun x1 => (bif x1 then some ((0 : Int), (0 : Int), (1 : Int)) else (loopM (fun s : (Int × Int × Int) => m_spec_WorstRatio_B9 a_0 a_1 a_2 s.1 s.2.1 s.2.2) ((-1 : Int), (0 : Int), (0 : Int)))))

noncomputable def m_impl_ValidRows_1 (row_0 : (List Int)) (a_1 : (List (List Int))) : Option Bool :=
  ((((m_impl_rowOk row_0).bind fun x2 => (bif (!x2) then some true else ((idx a_1 (0 : Int)).bind fun x4 => some ((row_0.length : Int) != (x4.length : Int))))) : Option Bool).bind fun x1 => some x1)

noncomputable def m_slices_IndexFunc_SSint64_int64_B1 (s_0 : (List (List Int))) (f_1 : ((List Int) → Option Bool)) (v2 : Int) : Option (Int ⊕ Int) :=
  (bif (decide (v2 < (s_0.length : Int))) then ((idx s_0 v2).bind fun x4 => ((f_1 x4).bind fun x5 => (bif x5 then Option.map Sum.inr (some v2) else some (Sum.inl (w64 (v2 + (1 : Int))))))) else Option.map Sum.inr (some (-1 : Int)))
noncomputable def m_slices_IndexFunc_SSint64_int64 (s_0 : (List (List Int))) (f_1 : ((List Int) → Option Bool)) : Option Int :=
  (loopM (fun s : Int => m_slices_IndexFunc_SSint64_int64_B1 s_0 f_1 s) (0 : Int))

noncomputable def m_slices_ContainsFunc_SSint64_int64 (s_0 : (List (List Int))) (f_1 : ((List Int) → Option Bool)) : Option Bool :=
  ((m_slices_IndexFunc_SSint64_int64 s_0 f_1).bind fun x1 => some (decide ((0 : Int) ≤ x1)))

noncomputable def m_impl_ValidRows (rows_0 : (List (List Int))) : Option Bool :=
  (((bif (decide ((rows_0.length : Int) < (1 : Int))) then some true else some (decide ((32 : Int) < (rows_0.length : Int)))) : Option Bool).bind fun x1 => (bif x1 then some false else ((m_slices_ContainsFunc_SSint64_int64 rows_0 (fun x => m_impl_ValidRows_1 x rows_0)).bind fun x4 => some (!x4))))

noncomputable def m_slices_Index_int64_int64_B1 (s_0 : (List Int)) (v_1 : Int) (v2 : Int) : Option (Int ⊕ Int) :=
  (bif (decide (v2 < (s_0.length : Int))) then ((idx s_0 v2).bind fun x4 => (bif (v_1 == x4) then Option.map Sum.inr (some v2) else some (Sum.inl (w64 (v2 + (1 : Int)))))) else Option.map Sum.inr (some (-1 : Int)))
noncomputable def m_slices_Index_int64_int64 (s_0 : (List Int)) (v_1 : Int) : Option Int :=
  (loopM (fun s : Int => m_slices_Index_int64_int64_B1 s_0 v_1 s) (0 : Int))

noncomputable def m_impl_serverOf (row_0 : (List Int)) : Option Int :=
  ((m_slices_Max_int64_int64 row_0).bind fun x1 => ((m_slices_Index_int64_int64 row_0 x1).bind fun x2 => some x2))

noncomputable def m_impl_WorstRatio_B9 (rows_0 : (List (List Int))) (channels_1 : (List Int)) (table_2 : (List Int)) (v10 : Int) (v11 : Int) (v12 : Int) : Option ((Int × Int × Int) ⊕ (Int × Int × Int)) :=
  (bif (decide (v12 < (rows_0.length : Int))) then ((idx rows_0 v12).bind fun x14 => ((m_impl_serverOf x14).bind fun x15 => ((idx channels_1 x15).bind fun x16 => (bif (decide (x16 < (0 : Int))) then Option.map Sum.inr (some ((0 : Int), (0 : Int), (6 : Int))) else ((m_impl_signalRatio x14 channels_1 table_2 x15).bind fun x17 => (((bif (decide (v10 < (0 : Int))) then some true else some (decide (x17 < v11))) : Option Bool).bind fun x18 => (((bif x18 then some (v12, x17) else some (v10, v11)) : Option (Int × Int)).bind fun x21 => some (Sum.inl (x21.1, x21.2, (w64 (v12 + (1 : Int)))))))))))) else Option.map Sum.inr (some (v10, v11, (0 : Int))))
noncomputable def m_impl_WorstRatio (rows_0 : (List (List Int))) (channels_1 : (List Int)) (table_2 : (List Int)) : Option (Int × Int × Int) :=
  ((((m_impl_ValidRows rows_0).bind fun x2 => (bif (!x2) then some true else ((m_impl_tableOk table_2).bind fun x4 => (bif (!x4) then some true else ((idx rows_0 (0 : Int)).bind fun x6 => ((m_impl_channelsOk channels_1 (x6.length : Int)).bind fun x7 => some (!x7))))))) : Option Bool).bind fun x1 => (bif x1 then some ((0 : Int), (0 : Int), (1 : Int)) else (loopM (fun s : (Int × Int × Int) => m_impl_WorstRatio_B9 rows_0 channels_1 table_2 s.1 s.2.1 s.2.2) ((-1 : Int), (0 : Int), (0 : Int)))))

noncomputable def m_laws_eqInt64SS_B1 (a_0 : (List (List Int))) (b_1 : (List (List Int))) (v2 : Int) : Option (Int ⊕ Bool) :=
  (bif (decide (v2 < (a_0.length : Int))) then ((idx a_0 v2).bind fun x4 => ((idx b_1 v2).bind fun x5 => ((m_laws_eqInt64S x4 x5).bind fun x6 => (bif (!x6) then Option.map Sum.inr (some false) else some (Sum.inl (w64 (v2 + (1 : Int)))))))) else Option.map Sum.inr (some true))
noncomputable def m_laws_eqInt64SS (a_0 : (List (List Int))) (b_1 : (List (List Int))) : Option Bool :=
  (bif ((a_0.length : Int) != (b_1.length : Int)) then some false else (loopM (fun s : Int => m_laws_eqInt64SS_B1 a_0 b_1 s) (0 : Int)))

noncomputable def m_laws_FnExactWorstRatio (a_0 : (List (List Int))) (a_1 : (List Int)) (a_2 : (List Int)) : Option Bool :=
  (bif (decide ((1048576 : Int) < (a_1.length : Int))) then some true else (bif (decide ((1048576 : Int) < (a_2.length : Int))) then some true else ((m_laws_szInt64SS a_0 (1048576 : Int)).bind fun x1 => (bif (decide (x1 < (0 : Int))) then some true else ((m_laws_toInt64SS a_0).bind fun x2 => ((m_laws_toInt64S a_1).bind fun x3 => ((m_laws_toInt64S a_2).bind fun x4 => ((m_spec_WorstRatio x2 x3 x4).bind fun x5 => ((m_laws_toInt64SS a_0).bind fun x6 => ((m_laws_toInt64S a_1).bind fun x7 => ((m_laws_toInt64S a_2).bind fun x8 => ((m_impl_WorstRatio x6 x7 x8).bind fun x9 => (((bif (x9.1 != x5.1) then some true else (bif (x9.2.1 != x5.2.1) then some true else some (x9.2.2 != x5.2.2))) : Option Bool).bind fun x10 => (bif x10 then some false else ((m_laws_toInt64SS a_0).bind fun x14 => ((m_laws_eqInt64SS x6 x14).bind fun x15 => (bif (!x15) then some false else ((m_laws_toInt64S a_1).bind fun x16 => ((m_laws_eqInt64S x7 x16).bind fun x17 => (bif (!x17) then some false else ((m_laws_toInt64S a_2).bind fun x18 => ((m_laws_eqInt64S x8 x18).bind fun x19 => (bif (!x19) then some false else some true)))))))))))))))))))))))

noncomputable def m_laws_szMask (a_0 : GMask) (left_1 : Int) : Option Int :=
  ((m_laws_szInt64S a_0.Offsets left_1).bind fun x1 => (bif (decide (x1 < (0 : Int))) then some (-1 : Int) else ((m_laws_szInt64S a_0.Losses x1).bind fun x2 => (bif (decide (x2 < (0 : Int))) then some (-1 : Int) else some x2))))

noncomputable def m_laws_toMask (a_0 : GMask) : Option GMask :=
  ((m_laws_toInt64S a_0.Offsets).bind fun x3 => ((m_laws_toInt64S a_0.Losses).bind fun x7 => some (GMask.mk x3 x7)))

noncomputable def m_spec_l00Rises_B1 (list_0 : (List Int)) (low_1 : Int) (high_2 : Int) (v2 : Int) : Option (Int ⊕ Bool) :=
  (bif (decide (v2 < (list_0.length : Int))) then ((((idx list_0 v2).bind fun x5 => ((m_spec_l00In x5 low_1 high_2).bind fun x6 => (bif (!x6) then some true else (bif (decide ((0 : Int) < v2)) then ((idx list_0 (w64 (v2 - (1 : Int)))).bind fun x9 => ((idx list_0 v2).bind fun x10 => some (decide (x10 ≤ x9)))) else some false)))) : Option Bool).bind fun x4 => (bif x4 then Option.map Sum.inr (some false) else some (Sum.inl (w64 (v2 + (1 : Int)))))) else Option.map Sum.inr (some true))
noncomputable def m_spec_l00Rises (list_0 : (List Int)) (low_1 : Int) (high_2 : Int) : Option Bool :=
  (loopM (fun s : Int => m_spec_l00Rises_B1 list_0 low_1 high_2 s) (0 : Int))

noncomputable def m_spec_l08Ok_B11 (a_0 : GMask) (v12 : Int) : Option (Int ⊕ Bool) :=
  (bif (decide (v12 < (a_0.Offsets.length : Int))) then ((((idx a_0.Losses v12).bind fun x15 => ((m_spec_l00In x15 (0 : Int) (120000 : Int)).bind fun x16 => (bif (!x16) then some true else (bif (decide ((0 : Int) < v12)) then ((idx a_0.Losses (w64 (v12 - (1 : Int)))).bind fun x19 => ((idx a_0.Losses v12).bind fun x20 => some (decide (x20 < x19)))) else some false)))) : Option Bool).bind fun x14 => (bif x14 then Option.map Sum.inr (some false) else some (Sum.inl (w64 (v12 + (1 : Int)))))) else Option.map Sum.inr (some true))
noncomputable def m_spec_l08Ok (a_0 : GMask) : Option Bool :=
  (((bif (decide ((a_0.Offsets.length : Int) < (2 : Int))) then some true else (bif (decide ((12 : Int) < (a_0.Offsets.length : Int))) then some true else (bif ((a_0.Losses.length : Int) != (a_0.Offsets.length : Int)) then some true else ((idx a_0.Offsets (0 : Int)).bind fun x5 => (bif (x5 != (0 : Int)) then some true else ((idx a_0.Losses (0 : Int)).bind fun x7 => (bif (x7 != (0 : Int)) then some true else ((m_spec_l00Rises a_0.Offsets (0 : Int) (100000 : Int)).bind fun x9 => some (!x9))))))))) : Option Bool).bind fun x1 => (bif x1 then some false else (loopM (fun s : Int => m_spec_l08Ok_B11 a_0 s) (0 : Int))))

noncomputable def m_spec_l08Shift (offset_0 : Int) : Option Bool :=
  ((m_spec_l00In offset_0 (-1000000 : Int) (1000000 : Int)).bind fun x1 => some x1)

noncomputable def m_spec_l01Div (a_0 : Int) (b_1 : Int) : Option Int :=
  (((bif (decide (b_1 < (0 : Int))) then some ((w64 (0 - a_0)), (w64 (0 - b_1))) else some (a_0, b_1)) : Option (Int × Int)).bind fun x1 => (bif (decide (x1.1 < (0 : Int))) then ((qdiv .i64 (w64 (x1.2 - (w64 ((2 : Int) * x1.1)))) (w64 ((2 : Int) * x1.2))).bind fun x3 => some (w64 (0 - x3))) else ((qdiv .i64 (w64 ((w64 ((2 : Int) * x1.1)) + x1.2)) (w64 ((2 : Int) * x1.2))).bind fun x4 => some x4)))

noncomputable def m_spec_l01Line (x0_0 : Int) (y0_1 : Int) (x1_2 : Int) (y1_3 : Int) (x_4 : Int) : Option Int :=
  (((bif (decide (x_4 ≤ x0_0)) then some true else some (decide (x1_2 ≤ x0_0))) : Option Bool).bind fun x1 => (bif x1 then some y0_1 else (bif (decide (x1_2 ≤ x_4)) then some y1_3 else ((m_spec_l01Div (w64 ((w64 (y1_3 - y0_1)) * (w64 (x_4 - x0_0)))) (w64 (x1_2 - x0_0))).bind fun x4 => some (w64 (y0_1 + x4))))))

noncomputable def m_spec_l08Loss_B3 (a_0 : GMask) (x1 : Int) (v4 : Int) : Option (Int ⊕ Int) :=
  (bif (decide (v4 < (a_0.Offsets.length : Int))) then ((idx a_0.Offsets v4).bind fun x6 => (bif (decide (x1 ≤ x6)) then ((idx a_0.Offsets (w64 (v4 - (1 : Int)))).bind fun x7 => ((idx a_0.Losses (w64 (v4 - (1 : Int)))).bind fun x8 => ((idx a_0.Offsets v4).bind fun x9 => ((idx a_0.Losses v4).bind fun x10 => ((m_spec_l01Line x7 x8 x9 x10 x1).bind fun x11 => Option.map Sum.inr (some x11)))))) else some (Sum.inl (w64 (v4 + (1 : Int)))))) else Option.map Sum.inr (((idx a_0.Losses (w64 ((a_0.Losses.length : Int) - (1 : Int)))).bind fun x12 => some x12)))
noncomputable def m_spec_l08Loss (a_0 : GMask) (a_1 : Int) : Option Int :=
  (((bif (decide (a_1 < (0 : Int))) then some (w64 (0 - a_1)) else some a_1) : Option Int).bind fun x1 => (loopM (fun s : Int => m_spec_l08Loss_B3 a_0 x1 s) (1 : Int)))

noncomputable def m_spec_l08Discrimination_B3 (emission_0 : GMask) (filter_1 : GMask) (shift_2 : Int) (x1 : Int) (v4 : Int) (v5 : Int) (v6 : Int) : Option ((Int × Int × Int) ⊕ (Int × Int)) :=
  (bif (decide (v6 < (65 : Int))) then ((m_spec_l01Div (w64 ((w64 ((2 : Int) * x1)) * v6)) (64 : Int)).bind fun x8 => ((m_spec_l08Loss emission_0 (w64 (x8 - x1))).bind fun x9 => ((m_spec_l02Part (w64 (0 - x9))).bind fun x10 => ((m_spec_l08Loss filter_1 (w64 ((w64 (x8 - x1)) - shift_2))).bind fun x11 => ((m_spec_l02Part (w64 ((w64 (0 - x9)) - x11))).bind fun x12 => some (Sum.inl ((w64 (v4 + x10)), (w64 (v5 + x12)), (w64 (v6 + (1 : Int)))))))))) else Option.map Sum.inr (some (v4, v5)))
noncomputable def m_spec_l08Discrimination (emission_0 : GMask) (filter_1 : GMask) (shift_2 : Int) : Option Int :=
  ((idx emission_0.Offsets (w64 ((emission_0.Offsets.length : Int) - (1 : Int)))).bind fun x1 => (((loopM (fun s : (Int × Int × Int) => m_spec_l08Discrimination_B3 emission_0 filter_1 shift_2 x1 s.1 s.2.1 s.2.2) ((0 : Int), (0 : Int), (0 : Int))) : Option (Int × Int)).bind fun x2 => (bif (x2.2 == (0 : Int)) then some (120000 : Int) else ((m_spec_l02Log x2.1).bind fun x14 => ((m_spec_l02Log x2.2).bind fun x15 => some (w64 (x14 - x15)))))))

noncomputable def m_spec_Discrimination (emission_0 : GMask) (filter_1 : GMask) (shift_2 : Int) : Option (Int × Int) :=
  ((((m_spec_l08Ok emission_0).bind fun x2 => (bif (!x2) then some true else ((m_spec_l08Ok filter_1).bind fun x4 => some (!x4)))) : Option Bool).bind fun x1 => (bif x1 then some ((0 : Int), (1 : Int)) else ((m_spec_l08Shift shift_2).bind fun x6 => (bif (!x6) then some ((0 : Int), (2 : Int)) else ((m_spec_l08Discrimination emission_0 filter_1 shift_2).bind fun x7 => some (x7, (0 : Int)))))))

noncomputable def m_impl_increasing_B1 (list_0 : (List Int)) (v2 : Int) : Option (Int ⊕ Bool) :=
  (bif (decide (v2 < (list_0.length : Int))) then ((idx list_0 v2).bind fun x4 => ((idx list_0 (w64 (v2 - (1 : Int)))).bind fun x5 => (bif (decide (x4 ≤ x5)) then Option.map Sum.inr (some false) else some (Sum.inl (w64 (v2 + (1 : Int))))))) else Option.map Sum.inr (some true))
noncomputable def m_impl_increasing (list_0 : (List Int)) : Option Bool :=
  (loopM (fun s : Int => m_impl_increasing_B1 list_0 s) (1 : Int))

noncomputable def m_impl_ValidMask (m_0 : GMask) : Option Bool :=
  (((bif (decide ((m_0.Offsets.length : Int) < (2 : Int))) then some true else (bif (decide ((12 : Int) < (m_0.Offsets.length : Int))) then some true else (bif ((m_0.Losses.length : Int) != (m_0.Offsets.length : Int)) then some true else ((idx m_0.Offsets (0 : Int)).bind fun x5 => (bif (x5 != (0 : Int)) then some true else ((idx m_0.Losses (0 : Int)).bind fun x7 => some (x7 != (0 : Int)))))))) : Option Bool).bind fun x1 => (bif x1 then some false else ((((m_impl_increasing m_0.Offsets).bind fun x10 => (bif x10 then ((idx m_0.Offsets (w64 ((m_0.Offsets.length : Int) - (1 : Int)))).bind fun x12 => (bif (decide (x12 ≤ (100000 : Int))) then ((m_slices_IsSorted_int64_int64 m_0.Losses).bind fun x14 => (bif x14 then ((idx m_0.Losses (w64 ((m_0.Offsets.length : Int) - (1 : Int)))).bind fun x16 => some (decide (x16 ≤ (120000 : Int)))) else some false)) else some false)) else some false)) : Option Bool).bind fun x9 => some x9)))

noncomputable def m_impl_shiftOk (n_0 : Int) : Option Bool :=
  ((m_impl_within n_0 (-1000000 : Int) (1000000 : Int)).bind fun x1 => some x1)

noncomputable def m_impl_Mask_end (m_0 : GMask) : Option Int :=
  ((idx m_0.Offsets (w64 ((m_0.Offsets.length : Int) - (1 : Int)))).bind fun x1 => some x1)

noncomputable def m_impl_divRound (a_0 : Int) (b_1 : Int) : Option Int :=
  ((qdiv .i64 a_0 b_1).bind fun x1 => ((rdiv a_0 b_1).bind fun x2 => ((m_impl_abs x2).bind fun x3 => ((m_impl_abs b_1).bind fun x4 => (bif (decide ((w64 (x4 - x3)) ≤ x3)) then (bif ((decide (a_0 < (0 : Int))) == (decide (b_1 < (0 : Int)))) then some (w64 (x1 + (1 : Int))) else some (w64 (x1 - (1 : Int)))) else some x1)))))

noncomputable def m_impl_blend (x0_0 : Int) (y0_1 : Int) (x1_2 : Int) (y1_3 : Int) (x_4 : Int) : Option Int :=
  (((bif (decide (x_4 ≤ x0_0)) then some true else some (decide (x1_2 ≤ x0_0))) : Option Bool).bind fun x1 => (bif x1 then some y0_1 else (bif (decide (x1_2 ≤ x_4)) then some y1_3 else ((m_impl_divRound (w64 ((w64 (y1_3 - y0_1)) * (w64 (x_4 - x0_0)))) (w64 (x1_2 - x0_0))).bind fun x4 => some (w64 (y0_1 + x4))))))

noncomputable def m_impl_Mask_loss_B3 (m_0 : GMask) (x1 : Int) (v4 : Int) : Option (Int ⊕ Int) :=
  (((bif (decide (v4 < (w64 ((m_0.Offsets.length : Int) - (1 : Int))))) then ((idx m_0.Offsets v4).bind fun x8 => some (decide (x8 < x1))) else some false) : Option Bool).bind fun x6 => (bif x6 then some (Sum.inl (w64 (v4 + (1 : Int)))) else Option.map Sum.inr (some v4)))
noncomputable def m_impl_Mask_loss (m_0 : GMask) (offset_1 : Int) : Option Int :=
  ((m_impl_abs offset_1).bind fun x1 => (((loopM (fun s : Int => m_impl_Mask_loss_B3 m_0 x1 s) (1 : Int)) : Option Int).bind fun x2 => ((idx m_0.Offsets (w64 (x2 - (1 : Int)))).bind fun x11 => ((idx m_0.Losses (w64 (x2 - (1 : Int)))).bind fun x12 => ((idx m_0.Offsets x2).bind fun x13 => ((idx m_0.Losses x2).bind fun x14 => ((m_impl_blend x11 x12 x13 x14 x1).bind fun x15 => some x15)))))))

noncomputable def m_impl_discrimination_B3 (emission_0 : GMask) (filter_1 : GMask) (shift_2 : Int) (x1 : Int) (v4 : Int) (v5 : Int) (v6 : Int) : Option ((Int × Int × Int) ⊕ (Int × Int)) :=
  (bif (decide (v6 < (65 : Int))) then ((m_impl_divRound (w64 ((w64 ((2 : Int) * x1)) * v6)) (64 : Int)).bind fun x8 => ((m_impl_Mask_loss emission_0 (w64 (x8 - x1))).bind fun x9 => ((m_impl_partOf (w64 (0 - x9))).bind fun x10 => ((m_impl_Mask_loss filter_1 (w64 ((w64 (x8 - x1)) - shift_2))).bind fun x11 => ((m_impl_partOf (w64 ((w64 (0 - x9)) - x11))).bind fun x12 => some (Sum.inl ((w64 (v4 + x10)), (w64 (v5 + x12)), (w64 (v6 + (1 : Int)))))))))) else Option.map Sum.inr (some (v4, v5)))
noncomputable def m_impl_discrimination (emission_0 : GMask) (filter_1 : GMask) (shift_2 : Int) : Option Int :=
  ((m_impl_Mask_end emission_0).bind fun x1 => (((loopM (fun s : (Int × Int × Int) => m_impl_discrimination_B3 emission_0 filter_1 shift_2 x1 s.1 s.2.1 s.2.2) ((0 : Int), (0 : Int), (0 : Int))) : Option (Int × Int)).bind fun x2 => (bif (x2.2 == (0 : Int)) then some (120000 : Int) else ((m_impl_LogDb x2.1).bind fun x14 => ((m_impl_LogDb x2.2).bind fun x15 => some (w64 (x14 - x15)))))))

noncomputable def m_impl_Discrimination (emission_0 : GMask) (filter_1 : GMask) (shift_2 : Int) : Option (Int × Int) :=
  ((((m_impl_ValidMask emission_0).bind fun x2 => (bif (!x2) then some true else ((m_impl_ValidMask filter_1).bind fun x4 => some (!x4)))) : Option Bool).bind fun x1 => (bif x1 then some ((0 : Int), (1 : Int)) else ((m_impl_shiftOk shift_2).bind fun x6 => (bif (!x6) then some ((0 : Int), (2 : Int)) else ((m_impl_discrimination emission_0 filter_1 shift_2).bind fun x7 => some (x7, (0 : Int)))))))

noncomputable def m_laws_eqMask (a_0 : GMask) (b_1 : GMask) : Option Bool :=
  ((m_laws_eqInt64S a_0.Offsets b_1.Offsets).bind fun x1 => (bif (!x1) then some false else ((m_laws_eqInt64S a_0.Losses b_1.Losses).bind fun x2 => (bif (!x2) then some false else some true))))

noncomputable def m_laws_FnExactDiscrimination (aEmission_0 : GMask) (aFilter_1 : GMask) (aShift_2 : Int) : Option Bool :=
  ((m_laws_szMask aEmission_0 (1048576 : Int)).bind fun x1 => (bif (decide (x1 < (0 : Int))) then some true else ((m_laws_szMask aFilter_1 x1).bind fun x2 => (bif (decide (x2 < (0 : Int))) then some true else ((m_laws_toMask aEmission_0).bind fun x3 => ((m_laws_toMask aFilter_1).bind fun x4 => ((m_spec_Discrimination x3 x4 aShift_2).bind fun x5 => ((m_laws_toMask aEmission_0).bind fun x6 => ((m_laws_toMask aFilter_1).bind fun x9 => ((m_impl_Discrimination x6 x9 aShift_2).bind fun x12 => (((bif (x12.1 != x5.1) then some true else some (x12.2 != x5.2)) : Option Bool).bind fun x13 => (bif x13 then some false else ((m_laws_toMask aEmission_0).bind fun x16 => ((m_laws_eqMask x6 x16).bind fun x17 => (bif (!x17) then some false else ((m_laws_toMask aFilter_1).bind fun x18 => ((m_laws_eqMask x9 x18).bind fun x19 => (bif (!x19) then some false else some true))))))))))))))))))

noncomputable def m_spec_DiscriminationTable_B17 (emission_0 : GMask) (filter_1 : GMask) (raster_2 : Int) (count_3 : Int) (x13 : Int) (v18 : Int) (v19 : Int) (v20 : (List Int)) : Option ((Int × Int × (List Int)) ⊕ (List Int)) :=
  (bif (decide (v19 < count_3)) then ((m_spec_l08Discrimination emission_0 filter_1 (w64 (v19 * raster_2))).bind fun x22 => ((m_spec_l00Max v18 (w64 (x22 - x13))).bind fun x23 => ((appL 8 v20 ([x23] : (List Int))).bind fun x24 => some (Sum.inl (x23, (w64 (v19 + (1 : Int))), x24))))) else Option.map Sum.inr (some v20))
noncomputable def m_spec_DiscriminationTable (emission_0 : GMask) (filter_1 : GMask) (raster_2 : Int) (count_3 : Int) : Option ((List Int) × Int) :=
  ((((m_spec_l08Ok emission_0).bind fun x2 => (bif (!x2) then some true else ((m_spec_l08Ok filter_1).bind fun x4 => some (!x4)))) : Option Bool).bind fun x1 => (bif x1 then some (([] : (List Int)), (1 : Int)) else ((((m_spec_l00In raster_2 (1 : Int) (100000 : Int)).bind fun x8 => (bif (!x8) then some true else ((m_spec_l00In count_3 (1 : Int) (10 : Int)).bind fun x10 => some (!x10)))) : Option Bool).bind fun x7 => (bif x7 then some (([] : (List Int)), (2 : Int)) else ((m_spec_l08Discrimination emission_0 filter_1 (0 : Int)).bind fun x13 => (((loopM (fun s : (Int × Int × (List Int)) => m_spec_DiscriminationTable_B17 emission_0 filter_1 raster_2 count_3 x13 s.1 s.2.1 s.2.2) ((0 : Int), (0 : Int), ([] : (List Int)))) : Option (List Int)).bind fun x16 => some (x16, (0 : Int))))))))

noncomputable def m_impl_DiscriminationTable_B16 (emission_0 : GMask) (filter_1 : GMask) (raster_2 : Int) (count_3 : Int) (x13 : Int) (v17 : Int) (v18 : Int) (v19 : (List Int)) : Option ((Int × Int × (List Int)) ⊕ (List Int)) :=
  (bif (decide (v18 < count_3)) then ((m_impl_discrimination emission_0 filter_1 (w64 (v18 * raster_2))).bind fun x21 => ((appL 8 v19 ([(if (0 : Int) > (w64 ((if x21 > v17 then x21 else v17) - x13)) then (0 : Int) else (w64 ((if x21 > v17 then x21 else v17) - x13)))] : (List Int))).bind fun x22 => some (Sum.inl ((if x21 > v17 then x21 else v17), (w64 (v18 + (1 : Int))), x22)))) else Option.map Sum.inr (some v19))
noncomputable def m_impl_DiscriminationTable (emission_0 : GMask) (filter_1 : GMask) (raster_2 : Int) (count_3 : Int) : Option ((List Int) × Int) :=
  ((((m_impl_ValidMask emission_0).bind fun x2 => (bif (!x2) then some true else ((m_impl_ValidMask filter_1).bind fun x4 => some (!x4)))) : Option Bool).bind fun x1 => (bif x1 then some (([] : (List Int)), (1 : Int)) else ((((m_impl_within raster_2 (1 : Int) (100000 : Int)).bind fun x8 => (bif (!x8) then some true else ((m_impl_within count_3 (1 : Int) (10 : Int)).bind fun x10 => some (!x10)))) : Option Bool).bind fun x7 => (bif x7 then some (([] : (List Int)), (2 : Int)) else ((m_impl_discrimination emission_0 filter_1 (0 : Int)).bind fun x13 => (((loopM (fun s : (Int × Int × (List Int)) => m_impl_DiscriminationTable_B16 emission_0 filter_1 raster_2 count_3 x13 s.1 s.2.1 s.2.2) (x13, (0 : Int), ([] : (List Int)))) : Option (List Int)).bind fun x15 => some (x15, (0 : Int))))))))

noncomputable def m_laws_markInt64S_B3  (v4 : Int) (v5 : Int) (v6 : (List Int)) : Option ((Int × Int × (List Int)) ⊕ (Int × (List Int))) :=
  (bif (decide (v5 < (v6.length : Int))) then ((inB v6 v5).bind fun u8 => some (Sum.inl ((w64 (v4 + (1 : Int))), (w64 (v5 + (1 : Int))), (v6.set (v5).toNat v4)))) else Option.map Sum.inr (some (v4, v6)))
noncomputable def m_laws_markInt64S (a_0 : (List Int)) (k_1 : Int) : Option (Int × (List Int)) :=
  (((loopM (fun s : (Int × Int × (List Int)) => m_laws_markInt64S_B3  s.1 s.2.1 s.2.2) (k_1, (0 : Int), a_0)) : Option (Int × (List Int))).bind fun x2 => some (x2.1, x2.2))

noncomputable def m_laws_markMask (a_0 : GMask) (k_1 : Int) : Option (Int × (List Int) × (List Int)) :=
  ((m_laws_markInt64S a_0.Offsets k_1).bind fun x4 => ((m_laws_markInt64S a_0.Losses x4.1).bind fun x6 => some (x6.1, x4.2, x6.2)))

noncomputable def m_laws_heldInt64S_B1 (a_0 : (List Int)) (v2 : Int) (v3 : Int) : Option ((Int × Int) ⊕ Int) :=
  (bif (decide (v3 < (a_0.length : Int))) then ((idx a_0 v3).bind fun x5 => (bif (x5 != v2) then Option.map Sum.inr (some (-1 : Int)) else some (Sum.inl ((w64 (v2 + (1 : Int))), (w64 (v3 + (1 : Int))))))) else Option.map Sum.inr (some v2))
noncomputable def m_laws_heldInt64S (a_0 : (List Int)) (k_1 : Int) : Option Int :=
  (loopM (fun s : (Int × Int) => m_laws_heldInt64S_B1 a_0 s.1 s.2) (k_1, (0 : Int)))

noncomputable def m_laws_FnExactDiscriminationTable (a_0 : GMask) (a_1 : GMask) (a_2 : Int) (a_3 : Int) : Option Bool :=
  ((m_laws_szMask a_0 (1048576 : Int)).bind fun x1 => (bif (decide (x1 < (0 : Int))) then some true else ((m_laws_szMask a_1 x1).bind fun x2 => (bif (decide (x2 < (0 : Int))) then some true else ((m_laws_toMask a_0).bind fun x3 => ((m_laws_toMask a_1).bind fun x4 => ((m_spec_DiscriminationTable x3 x4 a_2 a_3).bind fun x5 => ((m_laws_toMask a_0).bind fun x6 => ((m_laws_toMask a_1).bind fun x12 => ((m_impl_DiscriminationTable x6 x12 a_2 a_3).bind fun x18 => ((((m_laws_eqInt64S x18.1 x5.1).bind fun x22 => (bif (!x22) then some true else some (x18.2 != x5.2))) : Option Bool).bind fun x21 => (bif x21 then some false else ((m_laws_toMask a_0).bind fun x25 => ((m_laws_eqMask x6 x25).bind fun x26 => (bif (!x26) then some false else ((m_laws_toMask a_1).bind fun x27 => ((m_laws_eqMask x12 x27).bind fun x28 => (bif (!x28) then some false else ((m_laws_markMask x6 (1 : Int)).bind fun x29 => ((m_laws_markMask x12 x29.1).bind fun x31 => (((bif (decide (x31.1 < (0 : Int))) then some true else ((m_laws_eqInt64S x18.1 x5.1).bind fun x35 => (bif (!x35) then some true else some (x18.2 != x5.2)))) : Option Bool).bind fun x33 => (bif x33 then some false else ((m_laws_markInt64S x18.1 (1 : Int)).bind fun x38 => ((m_laws_heldInt64S x38.2 (1 : Int)).bind fun x40 => (bif (decide (x40 < (0 : Int))) then some false else (bif (x40 != x38.1) then some false else ((m_laws_toMask a_0).bind fun x41 => ((m_laws_toMask a_1).bind fun x42 => ((m_impl_DiscriminationTable x41 x42 a_2 a_3).bind fun x43 => ((((m_laws_eqInt64S x43.1 x5.1).bind fun x45 => (bif (!x45) then some true else some (x43.2 != x5.2))) : Option Bool).bind fun x44 => (bif x44 then some false else ((m_laws_heldInt64S x38.2 (1 : Int)).bind fun x48 => (bif (decide (x48 < (0 : Int))) then some false else (bif (x48 != x38.1) then some false else some true))))))))))))))))))))))))))))))))))

noncomputable def m_laws_szBand (a_0 : GBand) (left_1 : Int) : Option Int :=
  (bif (decide ((w64 (left_1 - (a_0.Name.size : Int))) < (0 : Int))) then some (-1 : Int) else some (w64 (left_1 - (a_0.Name.size : Int))))

noncomputable def m_laws_toBand (a_0 : GBand) : Option GBand :=
  some a_0

noncomputable def m_spec_l01Small (c_0 : Int) : Option Bool :=
  (((bif (decide ((97 : Int) ≤ c_0)) then some (decide (c_0 ≤ (122 : Int))) else some false) : Option Bool).bind fun x1 => some x1)

noncomputable def m_spec_l01Digit (c_0 : Int) : Option Bool :=
  (((bif (decide ((48 : Int) ≤ c_0)) then some (decide (c_0 ≤ (57 : Int))) else some false) : Option Bool).bind fun x1 => some x1)

noncomputable def m_spec_l01Name_B7 (s_0 : ByteArray) (v8 : Int) : Option (Int ⊕ Bool) :=
  (bif (decide (v8 < (s_0.size : Int))) then ((((idx s_0.data.toList v8).bind fun y11 => ((m_spec_l01Small (y11.toNat : Int)).bind fun x12 => (bif (!x12) then ((idx s_0.data.toList v8).bind fun y14 => ((m_spec_l01Digit (y14.toNat : Int)).bind fun x15 => some (!x15))) else some false))) : Option Bool).bind fun x10 => (bif x10 then Option.map Sum.inr (some false) else some (Sum.inl (w64 (v8 + (1 : Int)))))) else Option.map Sum.inr (some true))
noncomputable def m_spec_l01Name (s_0 : ByteArray) : Option Bool :=
  (((bif (s_0.toList == (ByteArray.mk #[]).toList) then some true else (bif (decide ((10 : Int) < (s_0.size : Int))) then some true else ((idx s_0.data.toList (0 : Int)).bind fun y4 => ((m_spec_l01Small (y4.toNat : Int)).bind fun x5 => some (!x5))))) : Option Bool).bind fun x1 => (bif x1 then some false else (loopM (fun s : Int => m_spec_l01Name_B7 s_0 s) (0 : Int))))

noncomputable def m_spec_l15Count (b_0 : GBand) : Option Int :=
  ((qdiv .i64 (w64 (b_0.High - b_0.Low)) b_0.Raster).bind fun x1 => some x1)

noncomputable def m_spec_l15Ok (a_0 : GBand) : Option Bool :=
  ((((m_spec_l01Name a_0.Name).bind fun x2 => (bif (!x2) then some true else ((m_spec_l00In a_0.Low (1 : Int) (100000000 : Int)).bind fun x4 => (bif (!x4) then some true else ((m_spec_l00In a_0.High (1 : Int) (100000000 : Int)).bind fun x6 => (bif (!x6) then some true else ((m_spec_l00In a_0.Raster (1 : Int) (100000 : Int)).bind fun x8 => (bif (!x8) then some true else ((m_spec_l00In a_0.Duplex (0 : Int) (100000000 : Int)).bind fun x10 => some (!x10)))))))))) : Option Bool).bind fun x1 => (bif x1 then some false else ((m_spec_l15Count a_0).bind fun x12 => ((m_spec_l00In x12 (1 : Int) (1000 : Int)).bind fun x13 => (bif (!x13) then some false else (((bif (a_0.Duplex == (0 : Int)) then some true else (bif (decide ((w64 (a_0.High - a_0.Low)) ≤ a_0.Duplex)) then some (decide ((w64 (a_0.High + a_0.Duplex)) ≤ (100000000 : Int))) else some false)) : Option Bool).bind fun x14 => some x14))))))

noncomputable def m_spec_l01Dec_B4  (v5 : Int) (v6 : (List Int)) : Option ((Int × (List Int)) ⊕ (List Int)) :=
  (bif (v5 != (0 : Int)) then (((bif (decide ((v5.tmod (10 : Int)) < (0 : Int))) then some (w64 (0 - (v5.tmod (10 : Int)))) else some (v5.tmod (10 : Int))) : Option Int).bind fun x8 => ((appL 1 v6 ([(IntKind.wrap .u8 ((w64 ((48 : Int) + x8))))] : (List Int))).bind fun x10 => some (Sum.inl ((w64 (v5.tdiv (10 : Int))), x10)))) else Option.map Sum.inr (some v6))
noncomputable def m_spec_l01Dec_B20 (x13 : (List Int)) (v21 : Int) (v22 : (List Int)) : Option ((Int × (List Int)) ⊕ (List Int)) :=
  (bif (decide ((0 : Int) ≤ v21)) then ((idx x13 v21).bind fun x24 => ((appL 1 v22 ([x24] : (List Int))).bind fun x25 => some (Sum.inl ((w64 (v21 - (1 : Int))), x25)))) else Option.map Sum.inr (some v22))
noncomputable def m_spec_l01Dec (n_0 : Int) : Option ByteArray :=
  (bif (n_0 == (0 : Int)) then some (ByteArray.mk #[48]) else (((loopM (fun s : (Int × (List Int)) => m_spec_l01Dec_B4  s.1 s.2) (n_0, ([] : (List Int)))) : Option (List Int)).bind fun x3 => (((bif (decide (n_0 < (0 : Int))) then ((appL 1 x3 ([(45 : Int)] : (List Int))).bind fun x14 => some x14) else some x3) : Option (List Int)).bind fun x13 => (((loopM (fun s : (Int × (List Int)) => m_spec_l01Dec_B20 x13 s.1 s.2) ((w64 ((x13.length : Int) - (1 : Int))), ([] : (List Int)))) : Option (List Int)).bind fun x19 => some (strOfNums x19)))))

noncomputable def m_spec_l15Text (b_0 : GBand) : Option ByteArray :=
  ((catS b_0.Name (ByteArray.mk #[32])).bind fun x1 => ((m_spec_l01Dec b_0.Low).bind fun x2 => ((catS x1 x2).bind fun x3 => ((catS x3 (ByteArray.mk #[32])).bind fun x4 => ((m_spec_l01Dec b_0.High).bind fun x5 => ((catS x4 x5).bind fun x6 => ((catS x6 (ByteArray.mk #[32])).bind fun x7 => ((m_spec_l01Dec b_0.Raster).bind fun x8 => ((catS x7 x8).bind fun x9 => ((catS x9 (ByteArray.mk #[32])).bind fun x10 => ((m_spec_l01Dec b_0.Duplex).bind fun x11 => ((catS x10 x11).bind fun x12 => some x12))))))))))))

noncomputable def m_spec_BandText (b_0 : GBand) : Option ByteArray :=
  ((m_spec_l15Ok b_0).bind fun x1 => (bif (!x1) then some (ByteArray.mk #[]) else ((m_spec_l15Text b_0).bind fun x2 => some x2)))

noncomputable def m_impl_onlyNameBytes_B1 (s_0 : ByteArray) (v2 : Int) : Option (Int ⊕ Bool) :=
  (bif (decide (v2 < (s_0.size : Int))) then ((idx s_0.data.toList v2).bind fun y4 => (((bif (decide ((y4.toNat : Int) < (97 : Int))) then (bif (decide ((y4.toNat : Int) < (48 : Int))) then some true else some (decide ((57 : Int) < (y4.toNat : Int)))) else (bif (decide ((122 : Int) < (y4.toNat : Int))) then (bif (decide ((y4.toNat : Int) < (48 : Int))) then some true else some (decide ((57 : Int) < (y4.toNat : Int)))) else some false)) : Option Bool).bind fun x5 => (bif x5 then Option.map Sum.inr (some false) else some (Sum.inl (w64 (v2 + (1 : Int))))))) else Option.map Sum.inr (some true))
noncomputable def m_impl_onlyNameBytes (s_0 : ByteArray) : Option Bool :=
  (loopM (fun s : Int => m_impl_onlyNameBytes_B1 s_0 s) (0 : Int))

noncomputable def m_impl_IsName (s_0 : ByteArray) : Option Bool :=
  (((bif (decide ((s_0.size : Int) < (1 : Int))) then some true else (bif (decide ((10 : Int) < (s_0.size : Int))) then some true else ((idx s_0.data.toList (0 : Int)).bind fun y4 => (bif (decide ((y4.toNat : Int) < (97 : Int))) then some true else ((idx s_0.data.toList (0 : Int)).bind fun y6 => some (decide ((122 : Int) < (y6.toNat : Int)))))))) : Option Bool).bind fun x1 => (bif x1 then some false else ((m_impl_onlyNameBytes s_0).bind fun x8 => some x8)))

noncomputable def m_impl_Band_count (b_0 : GBand) : Option Int :=
  ((qdiv .i64 (w64 (b_0.High - b_0.Low)) b_0.Raster).bind fun x1 => some x1)

noncomputable def m_impl_ValidBand (b_0 : GBand) : Option Bool :=
  ((((m_impl_IsName b_0.Name).bind fun x2 => (bif (!x2) then some true else ((m_impl_within b_0.Low (1 : Int) (100000000 : Int)).bind fun x4 => (bif (!x4) then some true else ((m_impl_within b_0.High b_0.Low (100000000 : Int)).bind fun x6 => (bif (!x6) then some true else ((m_impl_within b_0.Raster (1 : Int) (100000 : Int)).bind fun x8 => (bif (!x8) then some true else ((m_impl_Band_count b_0).bind fun x10 => ((m_impl_within x10 (1 : Int) (1000 : Int)).bind fun x11 => some (!x11))))))))))) : Option Bool).bind fun x1 => (bif x1 then some false else (((bif (b_0.Duplex == (0 : Int)) then some true else ((m_impl_within b_0.Duplex (w64 (b_0.High - b_0.Low)) (w64 ((100000000 : Int) - b_0.High))).bind fun x15 => some x15)) : Option Bool).bind fun x13 => some x13)))

noncomputable def m_strings_Join (xs_0 : List ByteArray) (sep_1 : ByteArray) : Option ByteArray :=
  joinM xs_0 sep_1

noncomputable def m_impl_BandText (b_0 : GBand) : Option ByteArray :=
  ((m_impl_ValidBand b_0).bind fun x1 => (bif (!x1) then some (ByteArray.mk #[]) else ((m_impl_Decimal b_0.Low).bind fun x2 => ((m_impl_Decimal b_0.High).bind fun x3 => ((m_impl_Decimal b_0.Raster).bind fun x4 => ((m_impl_Decimal b_0.Duplex).bind fun x5 => ((m_strings_Join ([b_0.Name, x2, x3, x4, x5] : (List ByteArray)) (ByteArray.mk #[32])).bind fun x6 => some x6)))))))

noncomputable def m_laws_FnExactBandText (aB_0 : GBand) : Option Bool :=
  ((m_laws_szBand aB_0 (1048576 : Int)).bind fun x1 => (bif (decide (x1 < (0 : Int))) then some true else ((m_laws_toBand aB_0).bind fun x2 => ((m_spec_BandText x2).bind fun x3 => ((m_laws_toBand aB_0).bind fun x4 => ((m_impl_BandText x4).bind fun x5 => (bif (!(x5.toList == x3.toList)) then some false else some true)))))))

noncomputable def m_spec_l01Split_B4 (s_0 : ByteArray) (by_1 : Int) (v5 : Int) (v6 : Int) (v7 : (List ByteArray)) : Option ((Int × Int × (List ByteArray)) ⊕ (Int × (List ByteArray))) :=
  (bif (decide (v6 < (s_0.size : Int))) then ((idx s_0.data.toList v6).bind fun y9 => (((bif ((y9.toNat : Int) == by_1) then ((subB s_0 (some v5) (some v6)).bind fun x11 => ((appL 16 v7 ([x11] : (List ByteArray))).bind fun x12 => some ((w64 (v6 + (1 : Int))), x12))) else some (v5, v7)) : Option (Int × (List ByteArray))).bind fun x10 => some (Sum.inl (x10.1, (w64 (v6 + (1 : Int))), x10.2)))) else Option.map Sum.inr (some (v5, v7)))
noncomputable def m_spec_l01Split (s_0 : ByteArray) (by_1 : Int) : Option (List ByteArray) :=
  (((loopM (fun s : (Int × Int × (List ByteArray)) => m_spec_l01Split_B4 s_0 by_1 s.1 s.2.1 s.2.2) ((0 : Int), (0 : Int), ([] : (List ByteArray)))) : Option (Int × (List ByteArray))).bind fun x3 => ((subB s_0 (some x3.1) none).bind fun x16 => ((appL 16 x3.2 ([x16] : (List ByteArray))).bind fun x17 => some x17)))

noncomputable def m_spec_l01Number_B13 (s_0 : ByteArray) (x5 : Int) (v14 : Int) (v15 : Int) : Option ((Int × Int) ⊕ (Int × Bool)) :=
  (bif (decide (v15 < (s_0.size : Int))) then ((idx s_0.data.toList v15).bind fun y17 => ((m_spec_l01Digit (y17.toNat : Int)).bind fun x18 => (bif (!x18) then Option.map Sum.inr (some ((0 : Int), false)) else ((idx s_0.data.toList v15).bind fun y19 => some (Sum.inl ((w64 ((w64 ((10 : Int) * v14)) + (w64 ((IntKind.wrap .u8 ((y19.toNat : Int) - (48 : Int))))))), (w64 (v15 + (1 : Int))))))))) else Option.map Sum.inr ((((bif (x5 == (1 : Int)) then some (w64 (0 - v14)) else some v14) : Option Int).bind fun x20 => some (x20, true))))
noncomputable def m_spec_l01Number (s_0 : ByteArray) : Option (Int × Bool) :=
  (((bif (decide ((0 : Int) < (s_0.size : Int))) then ((idx s_0.data.toList (0 : Int)).bind fun y3 => some ((y3.toNat : Int) == (45 : Int))) else some false) : Option Bool).bind fun x1 => (((bif x1 then some (1 : Int) else some (0 : Int)) : Option Int).bind fun x5 => (((bif ((s_0.size : Int) == x5) then some true else (bif (decide ((18 : Int) < (w64 ((s_0.size : Int) - x5)))) then some true else ((idx s_0.data.toList x5).bind fun y10 => (bif ((y10.toNat : Int) == (48 : Int)) then some (decide ((1 : Int) < (s_0.size : Int))) else some false)))) : Option Bool).bind fun x7 => (bif x7 then some ((0 : Int), false) else (loopM (fun s : (Int × Int) => m_spec_l01Number_B13 s_0 x5 s.1 s.2) ((0 : Int), x5))))))

noncomputable def m_spec_ReadBand_B6 (x2 : (List ByteArray)) (v7 : Int) (v8 : (List Int)) (v9 : ByteArray) (v10 : Int) (v11 : Int) (v12 : Int) (v13 : Int) : Option ((Int × (List Int) × ByteArray × Int × Int × Int × Int) ⊕ (GBand × Bool)) :=
  (bif (decide (v7 < (5 : Int))) then ((idx x2 v7).bind fun x15 => ((m_spec_l01Number x15).bind fun x16 => (bif (!x16.2) then Option.map Sum.inr (some ((GBand.mk ByteArray.empty (0 : Int) (0 : Int) (0 : Int) (0 : Int)), false)) else ((appL 8 v8 ([x16.1] : (List Int))).bind fun x18 => some (Sum.inl ((w64 (v7 + (1 : Int))), x18, v9, v10, v11, v12, v13)))))) else Option.map Sum.inr (((idx x2 (0 : Int)).bind fun x20 => ((idx v8 (0 : Int)).bind fun x21 => ((idx v8 (1 : Int)).bind fun x22 => ((idx v8 (2 : Int)).bind fun x23 => ((idx v8 (3 : Int)).bind fun x24 => ((m_spec_l15Ok (GBand.mk x20 x21 x22 x23 x24)).bind fun x27 => (bif (!x27) then some ((GBand.mk ByteArray.empty (0 : Int) (0 : Int) (0 : Int) (0 : Int)), false) else some ((GBand.mk x20 x21 x22 x23 x24), true))))))))))
noncomputable def m_spec_ReadBand (s_0 : ByteArray) : Option (GBand × Bool) :=
  ((m_spec_l01Split s_0 (32 : Int)).bind fun x2 => (bif ((x2.length : Int) != (5 : Int)) then some ((GBand.mk ByteArray.empty (0 : Int) (0 : Int) (0 : Int) (0 : Int)), false) else (loopM (fun s : (Int × (List Int) × ByteArray × Int × Int × Int × Int) => m_spec_ReadBand_B6 x2 s.1 s.2.1 s.2.2.1 s.2.2.2.1 s.2.2.2.2.1 s.2.2.2.2.2.1 s.2.2.2.2.2.2) ((1 : Int), ([] : (List Int)), ByteArray.empty, (0 : Int), (0 : Int), (0 : Int), (0 : Int)))))

noncomputable def m_strings_Split (s_0 sep_1 : ByteArray) : Option (List ByteArray) :=
  splitM s_0 sep_1

noncomputable def m_strconv_ParseInt (s_0 : ByteArray) (b_1 z_2 : Int) : Option (Int × Bool) :=
  parseM s_0 b_1 z_2

noncomputable def m_strings_TrimPrefix (s_0 p_1 : ByteArray) : Option ByteArray :=
  trimM s_0 p_1

noncomputable def m_impl_ReadDecimal (s_0 : ByteArray) : Option (Int × Bool) :=
  ((m_strconv_ParseInt s_0 (10 : Int) (64 : Int)).bind fun x1 => (((bif x1.2 then some true else ((m_strings_TrimPrefix s_0 (ByteArray.mk #[45])).bind fun x4 => (bif (decide ((18 : Int) < (x4.size : Int))) then some true else ((m_impl_Decimal x1.1).bind fun x6 => some (!(x6.toList == s_0.toList)))))) : Option Bool).bind fun x2 => (bif x2 then some ((0 : Int), false) else some (x1.1, true))))

noncomputable def m_impl_ReadBand_B7 (x5 : (List ByteArray)) (v8 : Int) (v9 : (List Int)) : Option ((Int × (List Int)) ⊕ (List Int)) :=
  (bif (decide (v8 < (x5.length : Int))) then ((idx x5 v8).bind fun x11 => ((m_impl_ReadDecimal x11).bind fun x12 => ((idxA 4 v9 v8).bind fun x13 => some (Sum.inl ((w64 (v8 + (1 : Int))), (v9.set (v8).toNat x12.1)))))) else Option.map Sum.inr (some v9))
noncomputable def m_impl_ReadBand (s_0 : ByteArray) : Option (GBand × Bool) :=
  ((m_strings_Split s_0 (ByteArray.mk #[32])).bind fun x2 => (bif ((x2.length : Int) != (5 : Int)) then some ((GBand.mk ByteArray.empty (0 : Int) (0 : Int) (0 : Int) (0 : Int)), false) else ((subL x2 (some (1 : Int)) none).bind fun x5 => (((loopM (fun s : (Int × (List Int)) => m_impl_ReadBand_B7 x5 s.1 s.2) ((0 : Int), (List.replicate 4 (0 : Int)))) : Option (List Int)).bind fun x6 => ((idx x2 (0 : Int)).bind fun x16 => ((idxA 4 x6 (0 : Int)).bind fun x17 => ((idxA 4 x6 (1 : Int)).bind fun x18 => ((idxA 4 x6 (2 : Int)).bind fun x19 => ((idxA 4 x6 (3 : Int)).bind fun x20 => ((((m_impl_ValidBand (GBand.mk x16 x17 x18 x19 x20)).bind fun x24 => (bif (!x24) then some true else ((m_impl_BandText (GBand.mk x16 x17 x18 x19 x20)).bind fun x26 => some (!(x26.toList == s_0.toList))))) : Option Bool).bind fun x23 => (bif x23 then some ((GBand.mk ByteArray.empty (0 : Int) (0 : Int) (0 : Int) (0 : Int)), false) else some ((GBand.mk x16 x17 x18 x19 x20), true))))))))))))

noncomputable def m_laws_eqBand (a_0 : GBand) (b_1 : GBand) : Option Bool :=
  (bif (!(a_0.Name.toList == b_1.Name.toList)) then some false else (bif (a_0.Low != b_1.Low) then some false else (bif (a_0.High != b_1.High) then some false else (bif (a_0.Raster != b_1.Raster) then some false else (bif (a_0.Duplex != b_1.Duplex) then some false else some true)))))

noncomputable def m_laws_FnExactReadBand (aS_0 : ByteArray) : Option Bool :=
  (bif (decide ((1048576 : Int) < (aS_0.size : Int))) then some true else ((m_spec_ReadBand aS_0).bind fun x1 => ((m_impl_ReadBand aS_0).bind fun x4 => ((((m_laws_eqBand x4.1 x1.1).bind fun x8 => (bif (!x8) then some true else some (x4.2 != x1.2))) : Option Bool).bind fun x7 => (bif x7 then some false else some true)))))
end Go.Wk
