/-
  The functions as pure Lean. Printed by our own program.
-/
import Derived.Test.YtbogkiihgejbnaaTypes
namespace Go.Wk
open Go Go.RowKit
set_option linter.unusedVariables false
structure GBand where
  Name : ByteArray
  Low : Int
  High : Int
  Raster : Int
  Duplex : Int
abbrev cGBand (b : GBand) : List Pd := [(pEq (.string b.Name)), (pEq (.int .i64 b.Low)), (pEq (.int .i64 b.High)), (pEq (.int .i64 b.Raster)), (pEq (.int .i64 b.Duplex))]
abbrev okGBand (b : GBand) : Prop := (b.Name.size ≤ maxLen) ∧ ((Lit.int .i64 b.Low).wf = true) ∧ ((Lit.int .i64 b.High).wf = true) ∧ ((Lit.int .i64 b.Raster).wf = true) ∧ ((Lit.int .i64 b.Duplex).wf = true)
noncomputable def m_laws_szBand (a_0 : GBand) (left_1 : Int) : Option Int :=
  (bif (decide ((w64 (left_1 - (a_0.Name.size : Int))) < (0 : Int))) then some (-1 : Int) else some (w64 (left_1 - (a_0.Name.size : Int))))

noncomputable def m_laws_toBand (a_0 : GBand) : Option GBand :=
  some (GBand.mk a_0.Name a_0.Low a_0.High a_0.Raster a_0.Duplex)

noncomputable def m_spec_SameBand (a_0 : GBand) (b_1 : GBand) : Option Bool :=
  some ((a_0.Name.toList == b_1.Name.toList) && ((a_0.Low == b_1.Low) && ((a_0.High == b_1.High) && ((a_0.Raster == b_1.Raster) && ((a_0.Duplex == b_1.Duplex) && true)))))

noncomputable def m_impl_SameBand (a_0 : GBand) (b_1 : GBand) : Option Bool :=
  some ((a_0.Name.toList == b_1.Name.toList) && ((a_0.Low == b_1.Low) && ((a_0.High == b_1.High) && ((a_0.Raster == b_1.Raster) && ((a_0.Duplex == b_1.Duplex) && true)))))

noncomputable def m_laws_FnExactSameBand (aA_0 : GBand) (aB_1 : GBand) : Option Bool :=
  ((m_laws_szBand aA_0 (1048576 : Int)).bind fun x1 => (bif (decide (x1 < (0 : Int))) then some true else ((m_laws_szBand aB_1 x1).bind fun x2 => (bif (decide (x2 < (0 : Int))) then some true else ((m_laws_toBand aA_0).bind fun x3 => ((m_laws_toBand aB_1).bind fun x4 => ((m_spec_SameBand x3 x4).bind fun x5 => ((m_laws_toBand aA_0).bind fun x6 => ((m_laws_toBand aB_1).bind fun x7 => ((m_impl_SameBand x6 x7).bind fun x8 => (bif (x8 != x5) then some false else some true)))))))))))

noncomputable def m_laws_toInt64S_B5 (a_0 : (List Int)) (v6 : Int) (v7 : (List Int)) : Option ((Int × (List Int)) ⊕ (List Int)) :=
  (bif (decide (v6 < (a_0.length : Int))) then ((idx a_0 v6).bind fun x9 => ((inB v7 v6).bind fun u10 => some (Sum.inl ((w64 (v6 + (1 : Int))), (v7.set (v6).toNat x9))))) else Option.map Sum.inr (some v7))
noncomputable def m_laws_toInt64S (a_0 : (List Int)) : Option (List Int) :=
  ((mkL 8 (a_0.length : Int) (0 : Int)).bind fun x1 => (((loopM (fun s : (Int × (List Int)) => m_laws_toInt64S_B5 a_0 s.1 s.2) ((0 : Int), x1)) : Option (List Int)).bind fun x4 => some x4))

noncomputable def m_spec_ChangesBetween_B2 (a_0 : (List Int)) (b_1 : (List Int)) (v3 : Int) (v4 : Int) : Option ((Int × Int) ⊕ Int) :=
  (bif (decide (v4 < (a_0.length : Int))) then ((idx a_0 v4).bind fun x6 => ((idx b_1 v4).bind fun x7 => (((bif (x6 != x7) then some (w64 (v3 + (1 : Int))) else some v3) : Option Int).bind fun x8 => some (Sum.inl (x8, (w64 (v4 + (1 : Int)))))))) else Option.map Sum.inr (some v3))
noncomputable def m_spec_ChangesBetween (a_0 : (List Int)) (b_1 : (List Int)) : Option Int :=
  (bif ((a_0.length : Int) != (b_1.length : Int)) then some (-1 : Int) else (((loopM (fun s : (Int × Int) => m_spec_ChangesBetween_B2 a_0 b_1 s.1 s.2) ((0 : Int), (0 : Int))) : Option Int).bind fun x1 => some x1))

noncomputable def m_impl_ChangesBetween_B2 (a_0 : (List Int)) (b_1 : (List Int)) (v3 : Int) (v4 : Int) : Option ((Int × Int) ⊕ Int) :=
  (bif (decide (v4 < (a_0.length : Int))) then ((idx a_0 v4).bind fun x6 => ((idx b_1 v4).bind fun x7 => (((bif (x6 != x7) then some (w64 (v3 + (1 : Int))) else some v3) : Option Int).bind fun x8 => some (Sum.inl (x8, (w64 (v4 + (1 : Int)))))))) else Option.map Sum.inr (some v3))
noncomputable def m_impl_ChangesBetween (a_0 : (List Int)) (b_1 : (List Int)) : Option Int :=
  (bif ((a_0.length : Int) != (b_1.length : Int)) then some (-1 : Int) else (((loopM (fun s : (Int × Int) => m_impl_ChangesBetween_B2 a_0 b_1 s.1 s.2) ((0 : Int), (0 : Int))) : Option Int).bind fun x1 => some x1))

noncomputable def m_laws_eqInt64S_B1 (a_0 : (List Int)) (b_1 : (List Int)) (v2 : Int) : Option (Int ⊕ Bool) :=
  (bif (decide (v2 < (a_0.length : Int))) then ((idx a_0 v2).bind fun x4 => ((idx b_1 v2).bind fun x5 => (bif (x4 != x5) then Option.map Sum.inr (some false) else some (Sum.inl (w64 (v2 + (1 : Int))))))) else Option.map Sum.inr (some true))
noncomputable def m_laws_eqInt64S (a_0 : (List Int)) (b_1 : (List Int)) : Option Bool :=
  (bif ((a_0.length : Int) != (b_1.length : Int)) then some false else (loopM (fun s : Int => m_laws_eqInt64S_B1 a_0 b_1 s) (0 : Int)))

noncomputable def m_laws_FnExactChangesBetween (aA_0 : (List Int)) (aB_1 : (List Int)) : Option Bool :=
  (bif (decide ((1048576 : Int) < (aA_0.length : Int))) then some true else (bif (decide ((1048576 : Int) < (aB_1.length : Int))) then some true else ((m_laws_toInt64S aA_0).bind fun x1 => ((m_laws_toInt64S aB_1).bind fun x2 => ((m_spec_ChangesBetween x1 x2).bind fun x3 => ((m_laws_toInt64S aA_0).bind fun x4 => ((m_laws_toInt64S aB_1).bind fun x5 => ((m_impl_ChangesBetween x4 x5).bind fun x6 => (bif (x6 != x3) then some false else ((m_laws_toInt64S aA_0).bind fun x7 => ((m_laws_eqInt64S x4 x7).bind fun x8 => (bif (!x8) then some false else ((m_laws_toInt64S aB_1).bind fun x9 => ((m_laws_eqInt64S x5 x9).bind fun x10 => (bif (!x10) then some false else some true)))))))))))))))

noncomputable def m_spec_l01Small (c_0 : Int) : Option Bool :=
  (((bif (decide ((97 : Int) ≤ c_0)) then some (decide (c_0 ≤ (122 : Int))) else some false) : Option Bool).bind fun x1 => some x1)

noncomputable def m_spec_l01Digit (c_0 : Int) : Option Bool :=
  (((bif (decide ((48 : Int) ≤ c_0)) then some (decide (c_0 ≤ (57 : Int))) else some false) : Option Bool).bind fun x1 => some x1)

noncomputable def m_spec_l01Name_B7 (s_0 : ByteArray) (v8 : Int) : Option (Int ⊕ Bool) :=
  (bif (decide (v8 < (s_0.size : Int))) then ((((idx s_0.data.toList v8).bind fun y11 => ((m_spec_l01Small (y11.toNat : Int)).bind fun x12 => (bif (!x12) then ((idx s_0.data.toList v8).bind fun y14 => ((m_spec_l01Digit (y14.toNat : Int)).bind fun x15 => some (!x15))) else some false))) : Option Bool).bind fun x10 => (bif x10 then Option.map Sum.inr (some false) else some (Sum.inl (w64 (v8 + (1 : Int)))))) else Option.map Sum.inr (some true))
noncomputable def m_spec_l01Name (s_0 : ByteArray) : Option Bool :=
  (((bif (s_0.toList == (ByteArray.mk #[]).toList) then some true else (bif (decide ((10 : Int) < (s_0.size : Int))) then some true else ((idx s_0.data.toList (0 : Int)).bind fun y4 => ((m_spec_l01Small (y4.toNat : Int)).bind fun x5 => some (!x5))))) : Option Bool).bind fun x1 => (bif x1 then some false else (loopM (fun s : Int => m_spec_l01Name_B7 s_0 s) (0 : Int))))

noncomputable def m_spec_l00In (n_0 : Int) (low_1 : Int) (high_2 : Int) : Option Bool :=
  (((bif (decide (low_1 ≤ n_0)) then some (decide (n_0 ≤ high_2)) else some false) : Option Bool).bind fun x1 => some x1)

noncomputable def m_spec_l15Count (b_0 : GBand) : Option Int :=
  ((qdiv .i64 (w64 (b_0.High - b_0.Low)) b_0.Raster).bind fun x1 => some x1)

noncomputable def m_spec_l15Ok (a_0 : GBand) : Option Bool :=
  ((((m_spec_l01Name a_0.Name).bind fun x2 => (bif (!x2) then some true else ((m_spec_l00In a_0.Low (1 : Int) (100000000 : Int)).bind fun x4 => (bif (!x4) then some true else ((m_spec_l00In a_0.High (1 : Int) (100000000 : Int)).bind fun x6 => (bif (!x6) then some true else ((m_spec_l00In a_0.Raster (1 : Int) (100000 : Int)).bind fun x8 => (bif (!x8) then some true else ((m_spec_l00In a_0.Duplex (0 : Int) (100000000 : Int)).bind fun x10 => some (!x10)))))))))) : Option Bool).bind fun x1 => (bif x1 then some false else ((m_spec_l15Count a_0).bind fun x12 => ((m_spec_l00In x12 (1 : Int) (1000 : Int)).bind fun x13 => (bif (!x13) then some false else (((bif (a_0.Duplex == (0 : Int)) then some true else (bif (decide ((w64 (a_0.High - a_0.Low)) ≤ a_0.Duplex)) then some (decide ((w64 (a_0.High + a_0.Duplex)) ≤ (100000000 : Int))) else some false)) : Option Bool).bind fun x14 => some x14))))))

noncomputable def m_spec_ValidBand (b_0 : GBand) : Option Bool :=
  ((m_spec_l15Ok b_0).bind fun x1 => some x1)

noncomputable def m_impl_onlyNameBytes_B1 (s_0 : ByteArray) (v2 : Int) : Option (Int ⊕ Bool) :=
  (bif (decide (v2 < (s_0.size : Int))) then ((idx s_0.data.toList v2).bind fun y4 => (((bif (decide ((y4.toNat : Int) < (97 : Int))) then (bif (decide ((y4.toNat : Int) < (48 : Int))) then some true else some (decide ((57 : Int) < (y4.toNat : Int)))) else (bif (decide ((122 : Int) < (y4.toNat : Int))) then (bif (decide ((y4.toNat : Int) < (48 : Int))) then some true else some (decide ((57 : Int) < (y4.toNat : Int)))) else some false)) : Option Bool).bind fun x5 => (bif x5 then Option.map Sum.inr (some false) else some (Sum.inl (w64 (v2 + (1 : Int))))))) else Option.map Sum.inr (some true))
noncomputable def m_impl_onlyNameBytes (s_0 : ByteArray) : Option Bool :=
  (loopM (fun s : Int => m_impl_onlyNameBytes_B1 s_0 s) (0 : Int))

noncomputable def m_impl_IsName (s_0 : ByteArray) : Option Bool :=
  (((bif (decide ((s_0.size : Int) < (1 : Int))) then some true else (bif (decide ((10 : Int) < (s_0.size : Int))) then some true else ((idx s_0.data.toList (0 : Int)).bind fun y4 => (bif (decide ((y4.toNat : Int) < (97 : Int))) then some true else ((idx s_0.data.toList (0 : Int)).bind fun y6 => some (decide ((122 : Int) < (y6.toNat : Int)))))))) : Option Bool).bind fun x1 => (bif x1 then some false else ((m_impl_onlyNameBytes s_0).bind fun x8 => some x8)))

noncomputable def m_impl_within (n_0 : Int) (low_1 : Int) (high_2 : Int) : Option Bool :=
  (((bif (decide (low_1 ≤ n_0)) then some (decide (n_0 ≤ high_2)) else some false) : Option Bool).bind fun x1 => some x1)

noncomputable def m_impl_Band_count (b_0 : GBand) : Option Int :=
  ((qdiv .i64 (w64 (b_0.High - b_0.Low)) b_0.Raster).bind fun x1 => some x1)

noncomputable def m_impl_ValidBand (b_0 : GBand) : Option Bool :=
  ((((m_impl_IsName b_0.Name).bind fun x2 => (bif (!x2) then some true else ((m_impl_within b_0.Low (1 : Int) (100000000 : Int)).bind fun x4 => (bif (!x4) then some true else ((m_impl_within b_0.High b_0.Low (100000000 : Int)).bind fun x6 => (bif (!x6) then some true else ((m_impl_within b_0.Raster (1 : Int) (100000 : Int)).bind fun x8 => (bif (!x8) then some true else ((m_impl_Band_count b_0).bind fun x10 => ((m_impl_within x10 (1 : Int) (1000 : Int)).bind fun x11 => some (!x11))))))))))) : Option Bool).bind fun x1 => (bif x1 then some false else (((bif (b_0.Duplex == (0 : Int)) then some true else ((m_impl_within b_0.Duplex (w64 (b_0.High - b_0.Low)) (w64 ((100000000 : Int) - b_0.High))).bind fun x15 => some x15)) : Option Bool).bind fun x13 => some x13)))

noncomputable def m_laws_FnExactValidBand (aB_0 : GBand) : Option Bool :=
  ((m_laws_szBand aB_0 (1048576 : Int)).bind fun x1 => (bif (decide (x1 < (0 : Int))) then some true else ((m_laws_toBand aB_0).bind fun x2 => ((m_spec_ValidBand x2).bind fun x3 => ((m_laws_toBand aB_0).bind fun x4 => ((m_impl_ValidBand x4).bind fun x5 => (bif (x5 != x3) then some false else some true)))))))

noncomputable def m_spec_ChannelCount (b_0 : GBand) : Option (Int × Int) :=
  ((m_spec_l15Ok b_0).bind fun x1 => (bif (!x1) then some ((0 : Int), (1 : Int)) else ((m_spec_l15Count b_0).bind fun x2 => some (x2, (0 : Int)))))

noncomputable def m_impl_ChannelCount (b_0 : GBand) : Option (Int × Int) :=
  ((m_impl_ValidBand b_0).bind fun x1 => (bif (!x1) then some ((0 : Int), (1 : Int)) else ((m_impl_Band_count b_0).bind fun x2 => some (x2, (0 : Int)))))

noncomputable def m_laws_FnExactChannelCount (aB_0 : GBand) : Option Bool :=
  ((m_laws_szBand aB_0 (1048576 : Int)).bind fun x1 => (bif (decide (x1 < (0 : Int))) then some true else ((m_laws_toBand aB_0).bind fun x2 => ((m_spec_ChannelCount x2).bind fun x3 => ((m_laws_toBand aB_0).bind fun x4 => ((m_impl_ChannelCount x4).bind fun x5 => (((bif (x5.1 != x3.1) then some true else some (x5.2 != x3.2)) : Option Bool).bind fun x6 => (bif x6 then some false else some true))))))))

noncomputable def m_spec_l11Rate (rain_0 : Int) : Option Bool :=
  ((m_spec_l00In rain_0 (0 : Int) (200 : Int)).bind fun x1 => some x1)

noncomputable def m_spec_l01Div (a_0 : Int) (b_1 : Int) : Option Int :=
  (((bif (decide (b_1 < (0 : Int))) then some ((w64 (0 - a_0)), (w64 (0 - b_1))) else some (a_0, b_1)) : Option (Int × Int)).bind fun x1 => (bif (decide (x1.1 < (0 : Int))) then ((qdiv .i64 (w64 (x1.2 - (w64 ((2 : Int) * x1.1)))) (w64 ((2 : Int) * x1.2))).bind fun x3 => some (w64 (0 - x3))) else ((qdiv .i64 (w64 ((w64 ((2 : Int) * x1.1)) + x1.2)) (w64 ((2 : Int) * x1.2))).bind fun x4 => some x4)))

noncomputable def m_spec_l01Line (x0_0 : Int) (y0_1 : Int) (x1_2 : Int) (y1_3 : Int) (x_4 : Int) : Option Int :=
  (((bif (decide (x_4 ≤ x0_0)) then some true else some (decide (x1_2 ≤ x0_0))) : Option Bool).bind fun x1 => (bif x1 then some y0_1 else (bif (decide (x1_2 ≤ x_4)) then some y1_3 else ((m_spec_l01Div (w64 ((w64 (y1_3 - y0_1)) * (w64 (x_4 - x0_0)))) (w64 (x1_2 - x0_0))).bind fun x4 => some (w64 (y0_1 + x4))))))

noncomputable def m_spec_l11Table_B3 (x_0 : Int) (places_1 : (List Int)) (values_2 : (List Int)) (v4 : Int) : Option (Int ⊕ Int) :=
  (bif (decide (v4 ≤ (w64 ((places_1.length : Int) - (1 : Int))))) then ((idx places_1 v4).bind fun x6 => (bif (decide (x_0 ≤ x6)) then ((idx places_1 (w64 (v4 - (1 : Int)))).bind fun x7 => ((idx values_2 (w64 (v4 - (1 : Int)))).bind fun x8 => ((idx places_1 v4).bind fun x9 => ((idx values_2 v4).bind fun x10 => ((m_spec_l01Line x7 x8 x9 x10 x_0).bind fun x11 => Option.map Sum.inr (some x11)))))) else some (Sum.inl (w64 (v4 + (1 : Int)))))) else Option.map Sum.inr (((idx values_2 (w64 ((places_1.length : Int) - (1 : Int)))).bind fun x12 => some x12)))
noncomputable def m_spec_l11Table (x_0 : Int) (places_1 : (List Int)) (values_2 : (List Int)) : Option Int :=
  ((idx places_1 (0 : Int)).bind fun x1 => (bif (decide (x_0 ≤ x1)) then ((idx values_2 (0 : Int)).bind fun x2 => some x2) else (loopM (fun s : Int => m_spec_l11Table_B3 x_0 places_1 values_2 s) (1 : Int))))

noncomputable def m_spec_l13Exceed (rain_0 : Int) : Option Int :=
  ((m_spec_l11Table rain_0 ([(0 : Int), (8 : Int), (30 : Int), (60 : Int), (100 : Int), (150 : Int), (200 : Int)] : (List Int)) ([(50000 : Int), (10000 : Int), (1000 : Int), (100 : Int), (10 : Int), (1 : Int), (0 : Int)] : (List Int))).bind fun x5 => some x5)

noncomputable def m_spec_ExceedanceOf (rain_0 : Int) : Option (Int × Int) :=
  ((m_spec_l11Rate rain_0).bind fun x1 => (bif (!x1) then some ((0 : Int), (2 : Int)) else ((m_spec_l13Exceed rain_0).bind fun x2 => some (x2, (0 : Int)))))

noncomputable def m_impl_abs (n_0 : Int) : Option Int :=
  some (if (w64 (0 - n_0)) > n_0 then (w64 (0 - n_0)) else n_0)

noncomputable def m_impl_divRound (a_0 : Int) (b_1 : Int) : Option Int :=
  ((qdiv .i64 a_0 b_1).bind fun x1 => ((rdiv a_0 b_1).bind fun x2 => ((m_impl_abs x2).bind fun x3 => ((m_impl_abs b_1).bind fun x4 => (bif (decide ((w64 (x4 - x3)) ≤ x3)) then (bif ((decide (a_0 < (0 : Int))) == (decide (b_1 < (0 : Int)))) then some (w64 (x1 + (1 : Int))) else some (w64 (x1 - (1 : Int)))) else some x1)))))

noncomputable def m_impl_blend (x0_0 : Int) (y0_1 : Int) (x1_2 : Int) (y1_3 : Int) (x_4 : Int) : Option Int :=
  (((bif (decide (x_4 ≤ x0_0)) then some true else some (decide (x1_2 ≤ x0_0))) : Option Bool).bind fun x1 => (bif x1 then some y0_1 else (bif (decide (x1_2 ≤ x_4)) then some y1_3 else ((m_impl_divRound (w64 ((w64 (y1_3 - y0_1)) * (w64 (x_4 - x0_0)))) (w64 (x1_2 - x0_0))).bind fun x4 => some (w64 (y0_1 + x4))))))

noncomputable def m_impl_exceedanceOf_B3 (rain_0 : Int) (v4 : Int) : Option (Int ⊕ Int) :=
  (((bif (decide (v4 < (6 : Int))) then ((idx ([([(0 : Int), (50000 : Int)] : (List Int)), ([(8 : Int), (10000 : Int)] : (List Int)), ([(30 : Int), (1000 : Int)] : (List Int)), ([(60 : Int), (100 : Int)] : (List Int)), ([(100 : Int), (10 : Int)] : (List Int)), ([(150 : Int), (1 : Int)] : (List Int)), ([(200 : Int), (0 : Int)] : (List Int))] : (List (List Int))) v4).bind fun x8 => ((idx x8 (0 : Int)).bind fun x9 => some (decide (x9 < rain_0)))) else some false) : Option Bool).bind fun x6 => (bif x6 then some (Sum.inl (w64 (v4 + (1 : Int)))) else Option.map Sum.inr (some v4)))
noncomputable def m_impl_exceedanceOf (rain_0 : Int) : Option Int :=
  (((loopM (fun s : Int => m_impl_exceedanceOf_B3 rain_0 s) (1 : Int)) : Option Int).bind fun x2 => ((idx ([([(0 : Int), (50000 : Int)] : (List Int)), ([(8 : Int), (10000 : Int)] : (List Int)), ([(30 : Int), (1000 : Int)] : (List Int)), ([(60 : Int), (100 : Int)] : (List Int)), ([(100 : Int), (10 : Int)] : (List Int)), ([(150 : Int), (1 : Int)] : (List Int)), ([(200 : Int), (0 : Int)] : (List Int))] : (List (List Int))) (w64 (x2 - (1 : Int)))).bind fun x12 => ((idx x12 (0 : Int)).bind fun x13 => ((idx ([([(0 : Int), (50000 : Int)] : (List Int)), ([(8 : Int), (10000 : Int)] : (List Int)), ([(30 : Int), (1000 : Int)] : (List Int)), ([(60 : Int), (100 : Int)] : (List Int)), ([(100 : Int), (10 : Int)] : (List Int)), ([(150 : Int), (1 : Int)] : (List Int)), ([(200 : Int), (0 : Int)] : (List Int))] : (List (List Int))) (w64 (x2 - (1 : Int)))).bind fun x14 => ((idx x14 (1 : Int)).bind fun x15 => ((idx ([([(0 : Int), (50000 : Int)] : (List Int)), ([(8 : Int), (10000 : Int)] : (List Int)), ([(30 : Int), (1000 : Int)] : (List Int)), ([(60 : Int), (100 : Int)] : (List Int)), ([(100 : Int), (10 : Int)] : (List Int)), ([(150 : Int), (1 : Int)] : (List Int)), ([(200 : Int), (0 : Int)] : (List Int))] : (List (List Int))) x2).bind fun x16 => ((idx x16 (0 : Int)).bind fun x17 => ((idx ([([(0 : Int), (50000 : Int)] : (List Int)), ([(8 : Int), (10000 : Int)] : (List Int)), ([(30 : Int), (1000 : Int)] : (List Int)), ([(60 : Int), (100 : Int)] : (List Int)), ([(100 : Int), (10 : Int)] : (List Int)), ([(150 : Int), (1 : Int)] : (List Int)), ([(200 : Int), (0 : Int)] : (List Int))] : (List (List Int))) x2).bind fun x18 => ((idx x18 (1 : Int)).bind fun x19 => ((m_impl_blend x13 x15 x17 x19 rain_0).bind fun x20 => some x20))))))))))

noncomputable def m_impl_ExceedanceOf (rain_0 : Int) : Option (Int × Int) :=
  ((m_impl_within rain_0 (0 : Int) (200 : Int)).bind fun x1 => (bif (!x1) then some ((0 : Int), (2 : Int)) else ((m_impl_exceedanceOf rain_0).bind fun x2 => some (x2, (0 : Int)))))

noncomputable def m_laws_FnExactExceedanceOf (aRain_0 : Int) : Option Bool :=
  ((m_spec_ExceedanceOf aRain_0).bind fun x1 => ((m_impl_ExceedanceOf aRain_0).bind fun x2 => (((bif (x2.1 != x1.1) then some true else some (x2.2 != x1.2)) : Option Bool).bind fun x3 => (bif x3 then some false else some true))))

noncomputable def m_spec_l13Outage (p_0 : Int) : Option Bool :=
  ((m_spec_l00In p_0 (0 : Int) (1000000 : Int)).bind fun x1 => some x1)

noncomputable def m_spec_l13Ask_B1 (list_0 : (List Int)) (v2 : Int) : Option (Int ⊕ Int) :=
  (bif (decide (v2 < (list_0.length : Int))) then ((idx list_0 v2).bind fun x4 => ((m_spec_l13Outage x4).bind fun x5 => (bif (!x5) then Option.map Sum.inr (some (2 : Int)) else some (Sum.inl (w64 (v2 + (1 : Int))))))) else Option.map Sum.inr (some (0 : Int)))
noncomputable def m_spec_l13Ask (list_0 : (List Int)) : Option Int :=
  (bif (decide ((64 : Int) < (list_0.length : Int))) then some (5 : Int) else (loopM (fun s : Int => m_spec_l13Ask_B1 list_0 s) (0 : Int)))

noncomputable def m_spec_l13Parallel_B2 (list_0 : (List Int)) (v3 : Int) (v4 : Int) : Option ((Int × Int) ⊕ Int) :=
  (bif (decide (v4 < (list_0.length : Int))) then ((idx list_0 v4).bind fun x6 => some (Sum.inl ((w64 ((w64 ((w64 ((w64 (v3 * x6)) + (1000000 : Int))) - (1 : Int))).tdiv (1000000 : Int))), (w64 (v4 + (1 : Int)))))) else Option.map Sum.inr (some v3))
noncomputable def m_spec_l13Parallel (list_0 : (List Int)) : Option Int :=
  (((loopM (fun s : (Int × Int) => m_spec_l13Parallel_B2 list_0 s.1 s.2) ((1000000 : Int), (0 : Int))) : Option Int).bind fun x1 => some x1)

noncomputable def m_spec_ParallelOutage (list_0 : (List Int)) : Option (Int × Int) :=
  ((m_spec_l13Ask list_0).bind fun x1 => (bif (x1 != (0 : Int)) then some ((0 : Int), x1) else ((m_spec_l13Parallel list_0).bind fun x2 => some (x2, (0 : Int)))))

noncomputable def m_impl_allWithin_1 (n_0 : Int) (a_1 : Int) (a_2 : Int) : Option Bool :=
  ((m_impl_within n_0 a_1 a_2).bind fun x1 => some (!x1))

noncomputable def m_slices_IndexFunc_int64_int64_B1 (s_0 : (List Int)) (f_1 : (Int → Option Bool)) (v2 : Int) : Option (Int ⊕ Int) :=
  (bif (decide (v2 < (s_0.length : Int))) then ((idx s_0 v2).bind fun x4 => ((f_1 x4).bind fun x5 => (bif x5 then Option.map Sum.inr (some v2) else some (Sum.inl (w64 (v2 + (1 : Int))))))) else Option.map Sum.inr (some (-1 : Int)))
noncomputable def m_slices_IndexFunc_int64_int64 (s_0 : (List Int)) (f_1 : (Int → Option Bool)) : Option Int :=
  (loopM (fun s : Int => m_slices_IndexFunc_int64_int64_B1 s_0 f_1 s) (0 : Int))

noncomputable def m_slices_ContainsFunc_int64_int64 (s_0 : (List Int)) (f_1 : (Int → Option Bool)) : Option Bool :=
  ((m_slices_IndexFunc_int64_int64 s_0 f_1).bind fun x1 => some (decide ((0 : Int) ≤ x1)))

noncomputable def m_impl_allWithin (list_0 : (List Int)) (low_1 : Int) (high_2 : Int) : Option Bool :=
  ((m_slices_ContainsFunc_int64_int64 list_0 (fun x => m_impl_allWithin_1 x low_1 high_2)).bind fun x1 => some (!x1))

noncomputable def m_impl_outagesCode (list_0 : (List Int)) : Option Int :=
  (bif (decide ((64 : Int) < (list_0.length : Int))) then some (5 : Int) else ((m_impl_allWithin list_0 (0 : Int) (1000000 : Int)).bind fun x1 => (bif (!x1) then some (2 : Int) else some (0 : Int))))

noncomputable def m_impl_divUp (a_0 : Int) (b_1 : Int) : Option Int :=
  ((qdiv .i64 (w64 ((w64 (a_0 + b_1)) - (1 : Int))) b_1).bind fun x1 => some x1)

noncomputable def m_impl_ParallelOutage_B3 (list_0 : (List Int)) (v4 : Int) (v5 : Int) : Option ((Int × Int) ⊕ Int) :=
  (bif (decide (v5 < (list_0.length : Int))) then ((idx list_0 v5).bind fun x7 => ((m_impl_divUp (w64 (v4 * x7)) (1000000 : Int)).bind fun x8 => some (Sum.inl (x8, (w64 (v5 + (1 : Int))))))) else Option.map Sum.inr (some v4))
noncomputable def m_impl_ParallelOutage (list_0 : (List Int)) : Option (Int × Int) :=
  ((m_impl_outagesCode list_0).bind fun x1 => (bif (x1 != (0 : Int)) then some ((0 : Int), x1) else (((loopM (fun s : (Int × Int) => m_impl_ParallelOutage_B3 list_0 s.1 s.2) ((1000000 : Int), (0 : Int))) : Option Int).bind fun x2 => some (x2, (0 : Int)))))

noncomputable def m_laws_FnExactParallelOutage (aList_0 : (List Int)) : Option Bool :=
  (bif (decide ((1048576 : Int) < (aList_0.length : Int))) then some true else ((m_laws_toInt64S aList_0).bind fun x1 => ((m_spec_ParallelOutage x1).bind fun x2 => ((m_laws_toInt64S aList_0).bind fun x3 => ((m_impl_ParallelOutage x3).bind fun x4 => (((bif (x4.1 != x2.1) then some true else some (x4.2 != x2.2)) : Option Bool).bind fun x5 => (bif x5 then some false else ((m_laws_toInt64S aList_0).bind fun x8 => ((m_laws_eqInt64S x3 x8).bind fun x9 => (bif (!x9) then some false else some true))))))))))
end Go.Wk
