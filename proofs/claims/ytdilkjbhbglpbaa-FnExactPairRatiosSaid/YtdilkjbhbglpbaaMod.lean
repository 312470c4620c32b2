/-
  The functions as pure Lean. Printed by our own program.
-/
import Derived.Test.YtdilkjbhbglpbaaCopy
namespace Go.Wk
open Go Go.RowKit Go.Wk
set_option linter.unusedVariables false
structure GBand where
  Name : ByteArray
  Low : Int
  High : Int
  Raster : Int
  Duplex : Int
abbrev cGBand (b : GBand) : List Pd := [(pEq (.string b.Name)), (pEq (.int .i64 b.Low)), (pEq (.int .i64 b.High)), (pEq (.int .i64 b.Raster)), (pEq (.int .i64 b.Duplex))]
abbrev okGBand (b : GBand) : Prop := (b.Name.size ≤ maxLen) ∧ ((Lit.int .i64 b.Low).wf = true) ∧ ((Lit.int .i64 b.High).wf = true) ∧ ((Lit.int .i64 b.Raster).wf = true) ∧ ((Lit.int .i64 b.Duplex).wf = true)
structure GRaster where
  Step : Int
  Width : Int
  Height : Int
  Server : (List Int)
  Level : (List Int)
abbrev cGRaster (b : GRaster) : List Pd := [(pEq (.int .i64 b.Step)), (pEq (.int .i64 b.Width)), (pEq (.int .i64 b.Height)), (pSl 1 (cK .i64) b.Server), (pSl 1 (cK .i64) b.Level)]
abbrev okGRaster (b : GRaster) : Prop := ((Lit.int .i64 b.Step).wf = true) ∧ ((Lit.int .i64 b.Width).wf = true) ∧ ((Lit.int .i64 b.Height).wf = true) ∧ (b.Server.length ≤ maxLen ∧ ∀ x ∈ b.Server, ((Lit.int .i64 x).wf = true)) ∧ (b.Level.length ≤ maxLen ∧ ∀ x ∈ b.Level, ((Lit.int .i64 x).wf = true))
structure GPoint where
  X : Int
  Y : Int
abbrev cGPoint (b : GPoint) : List Pd := [(pEq (.int .i64 b.X)), (pEq (.int .i64 b.Y))]
abbrev okGPoint (b : GPoint) : Prop := ((Lit.int .i64 b.X).wf = true) ∧ ((Lit.int .i64 b.Y).wf = true)
noncomputable def m_laws_toInt64S_B5 (a_0 : (List Int)) (v6 : Int) (v7 : (List Int)) : Option ((Int × (List Int)) ⊕ (List Int)) :=
  (bif (decide (v6 < (a_0.length : Int))) then ((idx a_0 v6).bind fun x9 => ((inB v7 v6).bind fun u10 => some (Sum.inl ((w64 (v6 + (1 : Int))), (v7.set (v6).toNat x9))))) else Option.map Sum.inr (some v7))
noncomputable def m_laws_toInt64S (a_0 : (List Int)) : Option (List Int) :=
  ((mkL 8 (a_0.length : Int) (0 : Int)).bind fun x1 => (((loopM (fun s : (Int × (List Int)) => m_laws_toInt64S_B5 a_0 s.1 s.2) ((0 : Int), x1)) : Option (List Int)).bind fun x4 => some x4))

noncomputable def m_spec_l00In (n_0 : Int) (low_1 : Int) (high_2 : Int) : Option Bool :=
  (((bif (decide (low_1 ≤ n_0)) then some (decide (n_0 ≤ high_2)) else some false) : Option Bool).bind fun x1 => some x1)

noncomputable def m_spec_l13Outage (p_0 : Int) : Option Bool :=
  ((m_spec_l00In p_0 (0 : Int) (1000000 : Int)).bind fun x1 => some x1)

noncomputable def m_spec_l13Ask_B1 (list_0 : (List Int)) (v2 : Int) : Option (Int ⊕ Int) :=
  (bif (decide (v2 < (list_0.length : Int))) then ((idx list_0 v2).bind fun x4 => ((m_spec_l13Outage x4).bind fun x5 => (bif (!x5) then Option.map Sum.inr (some (2 : Int)) else some (Sum.inl (w64 (v2 + (1 : Int))))))) else Option.map Sum.inr (some (0 : Int)))
noncomputable def m_spec_l13Ask (list_0 : (List Int)) : Option Int :=
  (bif (decide ((64 : Int) < (list_0.length : Int))) then some (5 : Int) else (loopM (fun s : Int => m_spec_l13Ask_B1 list_0 s) (0 : Int)))

noncomputable def m_spec_l13Series_B2 (list_0 : (List Int)) (v3 : Int) (v4 : Int) : Option ((Int × Int) ⊕ Int) :=
  (bif (decide (v4 < (list_0.length : Int))) then ((idx list_0 v4).bind fun x6 => some (Sum.inl ((w64 ((w64 (v3 * (w64 ((1000000 : Int) - x6)))).tdiv (1000000 : Int))), (w64 (v4 + (1 : Int)))))) else Option.map Sum.inr (some v3))
noncomputable def m_spec_l13Series (list_0 : (List Int)) : Option Int :=
  (((loopM (fun s : (Int × Int) => m_spec_l13Series_B2 list_0 s.1 s.2) ((1000000 : Int), (0 : Int))) : Option Int).bind fun x1 => some (w64 ((1000000 : Int) - x1)))

noncomputable def m_spec_SeriesOutage (list_0 : (List Int)) : Option (Int × Int) :=
  ((m_spec_l13Ask list_0).bind fun x1 => (bif (x1 != (0 : Int)) then some ((0 : Int), x1) else ((m_spec_l13Series list_0).bind fun x2 => some (x2, (0 : Int)))))

noncomputable def m_impl_within (n_0 : Int) (low_1 : Int) (high_2 : Int) : Option Bool :=
  (((bif (decide (low_1 ≤ n_0)) then some (decide (n_0 ≤ high_2)) else some false) : Option Bool).bind fun x1 => some x1)

noncomputable def m_impl_allWithin_1 (n_0 : Int) (a_1 : Int) (a_2 : Int) : Option Bool :=
  ((m_impl_within n_0 a_1 a_2).bind fun x1 => some (!x1))

noncomputable def m_slices_IndexFunc_int64_int64_B1 (s_0 : (List Int)) (f_1 : (Int → Option Bool)) (v2 : Int) : Option (Int ⊕ Int) :=
  (bif (decide (v2 < (s_0.length : Int))) then ((idx s_0 v2).bind fun x4 => ((f_1 x4).bind fun x5 => (bif x5 then Option.map Sum.inr (some v2) else some (Sum.inl (w64 (v2 + (1 : Int))))))) else Option.map Sum.inr (some (-1 : Int)))
noncomputable def m_slices_IndexFunc_int64_int64 (s_0 : (List Int)) (f_1 : (Int → Option Bool)) : Option Int :=
  (loopM (fun s : Int => m_slices_IndexFunc_int64_int64_B1 s_0 f_1 s) (0 : Int))

noncomputable def m_slices_ContainsFunc_int64_int64 (s_0 : (List Int)) (f_1 : (Int → Option Bool)) : Option Bool :=
  ((m_slices_IndexFunc_int64_int64 s_0 f_1).bind fun x1 => some (decide ((0 : Int) ≤ x1)))

noncomputable def m_impl_allWithin (list_0 : (List Int)) (low_1 : Int) (high_2 : Int) : Option Bool :=
  ((m_slices_ContainsFunc_int64_int64 list_0 (fun x => m_impl_allWithin_1 x low_1 high_2)).bind fun x1 => some (!x1))

noncomputable def m_impl_outagesCode (list_0 : (List Int)) : Option Int :=
  (bif (decide ((64 : Int) < (list_0.length : Int))) then some (5 : Int) else ((m_impl_allWithin list_0 (0 : Int) (1000000 : Int)).bind fun x1 => (bif (!x1) then some (2 : Int) else some (0 : Int))))

noncomputable def m_impl_seriesOutage_B2 (list_0 : (List Int)) (v3 : Int) (v4 : Int) : Option ((Int × Int) ⊕ Int) :=
  (bif (decide (v4 < (list_0.length : Int))) then ((idx list_0 v4).bind fun x6 => some (Sum.inl ((w64 ((w64 (v3 * (w64 ((1000000 : Int) - x6)))).tdiv (1000000 : Int))), (w64 (v4 + (1 : Int)))))) else Option.map Sum.inr (some v3))
noncomputable def m_impl_seriesOutage (list_0 : (List Int)) : Option Int :=
  (((loopM (fun s : (Int × Int) => m_impl_seriesOutage_B2 list_0 s.1 s.2) ((1000000 : Int), (0 : Int))) : Option Int).bind fun x1 => some (w64 ((1000000 : Int) - x1)))

noncomputable def m_impl_SeriesOutage (list_0 : (List Int)) : Option (Int × Int) :=
  ((m_impl_outagesCode list_0).bind fun x1 => (bif (x1 != (0 : Int)) then some ((0 : Int), x1) else ((m_impl_seriesOutage list_0).bind fun x2 => some (x2, (0 : Int)))))

noncomputable def m_laws_eqInt64S_B1 (a_0 : (List Int)) (b_1 : (List Int)) (v2 : Int) : Option (Int ⊕ Bool) :=
  (bif (decide (v2 < (a_0.length : Int))) then ((idx a_0 v2).bind fun x4 => ((idx b_1 v2).bind fun x5 => (bif (x4 != x5) then Option.map Sum.inr (some false) else some (Sum.inl (w64 (v2 + (1 : Int))))))) else Option.map Sum.inr (some true))
noncomputable def m_laws_eqInt64S (a_0 : (List Int)) (b_1 : (List Int)) : Option Bool :=
  (bif ((a_0.length : Int) != (b_1.length : Int)) then some false else (loopM (fun s : Int => m_laws_eqInt64S_B1 a_0 b_1 s) (0 : Int)))

noncomputable def m_laws_FnExactSeriesOutage (aList_0 : (List Int)) : Option Bool :=
  (bif (decide ((1048576 : Int) < (aList_0.length : Int))) then some true else ((m_laws_toInt64S aList_0).bind fun x1 => ((m_spec_SeriesOutage x1).bind fun x2 => ((m_laws_toInt64S aList_0).bind fun x3 => ((m_impl_SeriesOutage x3).bind fun x4 => (((bif (x4.1 != x2.1) then some true else some (x4.2 != x2.2)) : Option Bool).bind fun x5 => (bif x5 then some false else ((m_laws_toInt64S aList_0).bind fun x8 => ((m_laws_eqInt64S x3 x8).bind fun x9 => (bif (!x9) then some false else some true))))))))))

noncomputable def m_laws_szBand (a_0 : GBand) (left_1 : Int) : Option Int :=
  (bif (decide ((w64 (left_1 - (a_0.Name.size : Int))) < (0 : Int))) then some (-1 : Int) else some (w64 (left_1 - (a_0.Name.size : Int))))

noncomputable def m_laws_toBand (a_0 : GBand) : Option GBand :=
  some a_0

noncomputable def m_spec_l01Small (c_0 : Int) : Option Bool :=
  (((bif (decide ((97 : Int) ≤ c_0)) then some (decide (c_0 ≤ (122 : Int))) else some false) : Option Bool).bind fun x1 => some x1)

noncomputable def m_spec_l01Digit (c_0 : Int) : Option Bool :=
  (((bif (decide ((48 : Int) ≤ c_0)) then some (decide (c_0 ≤ (57 : Int))) else some false) : Option Bool).bind fun x1 => some x1)

noncomputable def m_spec_l01Name_B7 (s_0 : ByteArray) (v8 : Int) : Option (Int ⊕ Bool) :=
  (bif (decide (v8 < (s_0.size : Int))) then ((((idx s_0.data.toList v8).bind fun y11 => ((m_spec_l01Small (y11.toNat : Int)).bind fun x12 => (bif (!x12) then ((idx s_0.data.toList v8).bind fun y14 => ((m_spec_l01Digit (y14.toNat : Int)).bind fun x15 => some (!x15))) else some false))) : Option Bool).bind fun x10 => (bif x10 then Option.map Sum.inr (some false) else some (Sum.inl (w64 (v8 + (1 : Int)))))) else Option.map Sum.inr (some true))
noncomputable def m_spec_l01Name (s_0 : ByteArray) : Option Bool :=
  (((bif (s_0.toList == (ByteArray.mk #[]).toList) then some true else (bif (decide ((10 : Int) < (s_0.size : Int))) then some true else ((idx s_0.data.toList (0 : Int)).bind fun y4 => ((m_spec_l01Small (y4.toNat : Int)).bind fun x5 => some (!x5))))) : Option Bool).bind fun x1 => (bif x1 then some false else (loopM (fun s : Int => m_spec_l01Name_B7 s_0 s) (0 : Int))))

noncomputable def m_spec_l15Count (b_0 : GBand) : Option Int :=
  ((qdiv .i64 (w64 (b_0.High - b_0.Low)) b_0.Raster).bind fun x1 => some x1)

noncomputable def m_spec_l15Ok (a_0 : GBand) : Option Bool :=
  ((((m_spec_l01Name a_0.Name).bind fun x2 => (bif (!x2) then some true else ((m_spec_l00In a_0.Low (1 : Int) (100000000 : Int)).bind fun x4 => (bif (!x4) then some true else ((m_spec_l00In a_0.High (1 : Int) (100000000 : Int)).bind fun x6 => (bif (!x6) then some true else ((m_spec_l00In a_0.Raster (1 : Int) (100000 : Int)).bind fun x8 => (bif (!x8) then some true else ((m_spec_l00In a_0.Duplex (0 : Int) (100000000 : Int)).bind fun x10 => some (!x10)))))))))) : Option Bool).bind fun x1 => (bif x1 then some false else ((m_spec_l15Count a_0).bind fun x12 => ((m_spec_l00In x12 (1 : Int) (1000 : Int)).bind fun x13 => (bif (!x13) then some false else (((bif (a_0.Duplex == (0 : Int)) then some true else (bif (decide ((w64 (a_0.High - a_0.Low)) ≤ a_0.Duplex)) then some (decide ((w64 (a_0.High + a_0.Duplex)) ≤ (100000000 : Int))) else some false)) : Option Bool).bind fun x14 => some x14))))))

noncomputable def m_spec_l00Min (a_0 : Int) (b_1 : Int) : Option Int :=
  (bif (decide (a_0 < b_1)) then some a_0 else some b_1)

noncomputable def m_spec_l00Max (a_0 : Int) (b_1 : Int) : Option Int :=
  (bif (decide (b_1 < a_0)) then some a_0 else some b_1)

noncomputable def m_spec_CommonPart (a_0 : GBand) (b_1 : GBand) : Option (Int × Int) :=
  ((((m_spec_l15Ok a_0).bind fun x2 => (bif (!x2) then some true else ((m_spec_l15Ok b_1).bind fun x4 => some (!x4)))) : Option Bool).bind fun x1 => (bif x1 then some ((0 : Int), (1 : Int)) else ((m_spec_l00Min a_0.High b_1.High).bind fun x6 => ((m_spec_l00Max a_0.Low b_1.Low).bind fun x7 => ((m_spec_l00Max (0 : Int) (w64 (x6 - x7))).bind fun x8 => some (x8, (0 : Int)))))))

noncomputable def m_impl_onlyNameBytes_B1 (s_0 : ByteArray) (v2 : Int) : Option (Int ⊕ Bool) :=
  (bif (decide (v2 < (s_0.size : Int))) then ((idx s_0.data.toList v2).bind fun y4 => (((bif (decide ((y4.toNat : Int) < (97 : Int))) then (bif (decide ((y4.toNat : Int) < (48 : Int))) then some true else some (decide ((57 : Int) < (y4.toNat : Int)))) else (bif (decide ((122 : Int) < (y4.toNat : Int))) then (bif (decide ((y4.toNat : Int) < (48 : Int))) then some true else some (decide ((57 : Int) < (y4.toNat : Int)))) else some false)) : Option Bool).bind fun x5 => (bif x5 then Option.map Sum.inr (some false) else some (Sum.inl (w64 (v2 + (1 : Int))))))) else Option.map Sum.inr (some true))
noncomputable def m_impl_onlyNameBytes (s_0 : ByteArray) : Option Bool :=
  (loopM (fun s : Int => m_impl_onlyNameBytes_B1 s_0 s) (0 : Int))

noncomputable def m_impl_IsName (s_0 : ByteArray) : Option Bool :=
  (((bif (decide ((s_0.size : Int) < (1 : Int))) then some true else (bif (decide ((10 : Int) < (s_0.size : Int))) then some true else ((idx s_0.data.toList (0 : Int)).bind fun y4 => (bif (decide ((y4.toNat : Int) < (97 : Int))) then some true else ((idx s_0.data.toList (0 : Int)).bind fun y6 => some (decide ((122 : Int) < (y6.toNat : Int)))))))) : Option Bool).bind fun x1 => (bif x1 then some false else ((m_impl_onlyNameBytes s_0).bind fun x8 => some x8)))

noncomputable def m_impl_Band_count (b_0 : GBand) : Option Int :=
  ((qdiv .i64 (w64 (b_0.High - b_0.Low)) b_0.Raster).bind fun x1 => some x1)

noncomputable def m_impl_ValidBand (b_0 : GBand) : Option Bool :=
  ((((m_impl_IsName b_0.Name).bind fun x2 => (bif (!x2) then some true else ((m_impl_within b_0.Low (1 : Int) (100000000 : Int)).bind fun x4 => (bif (!x4) then some true else ((m_impl_within b_0.High b_0.Low (100000000 : Int)).bind fun x6 => (bif (!x6) then some true else ((m_impl_within b_0.Raster (1 : Int) (100000 : Int)).bind fun x8 => (bif (!x8) then some true else ((m_impl_Band_count b_0).bind fun x10 => ((m_impl_within x10 (1 : Int) (1000 : Int)).bind fun x11 => some (!x11))))))))))) : Option Bool).bind fun x1 => (bif x1 then some false else (((bif (b_0.Duplex == (0 : Int)) then some true else ((m_impl_within b_0.Duplex (w64 (b_0.High - b_0.Low)) (w64 ((100000000 : Int) - b_0.High))).bind fun x15 => some x15)) : Option Bool).bind fun x13 => some x13)))

noncomputable def m_impl_CommonPart (a_0 : GBand) (b_1 : GBand) : Option (Int × Int) :=
  ((((m_impl_ValidBand a_0).bind fun x2 => (bif (!x2) then some true else ((m_impl_ValidBand b_1).bind fun x4 => some (!x4)))) : Option Bool).bind fun x1 => (bif x1 then some ((0 : Int), (1 : Int)) else some ((if (0 : Int) > (w64 ((if b_1.High < a_0.High then b_1.High else a_0.High) - (if b_1.Low > a_0.Low then b_1.Low else a_0.Low))) then (0 : Int) else (w64 ((if b_1.High < a_0.High then b_1.High else a_0.High) - (if b_1.Low > a_0.Low then b_1.Low else a_0.Low)))), (0 : Int))))

noncomputable def m_laws_FnExactCommonPart (aA_0 : GBand) (aB_1 : GBand) : Option Bool :=
  ((m_laws_szBand aA_0 (1048576 : Int)).bind fun x1 => (bif (decide (x1 < (0 : Int))) then some true else ((m_laws_szBand aB_1 x1).bind fun x2 => (bif (decide (x2 < (0 : Int))) then some true else ((m_laws_toBand aA_0).bind fun x3 => ((m_laws_toBand aB_1).bind fun x4 => ((m_spec_CommonPart x3 x4).bind fun x5 => ((m_laws_toBand aA_0).bind fun x6 => ((m_laws_toBand aB_1).bind fun x7 => ((m_impl_CommonPart x6 x7).bind fun x8 => (((bif (x8.1 != x5.1) then some true else some (x8.2 != x5.2)) : Option Bool).bind fun x9 => (bif x9 then some false else some true))))))))))))

noncomputable def m_spec_ChannelAt (b_0 : GBand) (f_1 : Int) : Option (Int × Int) :=
  ((m_spec_l15Ok b_0).bind fun x1 => (bif (!x1) then some ((0 : Int), (1 : Int)) else (((bif (decide (f_1 < b_0.Low)) then some true else ((m_spec_l15Count b_0).bind fun x4 => some (decide ((w64 (b_0.Low + (w64 (x4 * b_0.Raster)))) ≤ f_1)))) : Option Bool).bind fun x2 => (bif x2 then some ((0 : Int), (3 : Int)) else ((qdiv .i64 (w64 (f_1 - b_0.Low)) b_0.Raster).bind fun x6 => some (x6, (0 : Int)))))))

noncomputable def m_impl_orNotFound (n_0 : Int) (ok_1 : Bool) : Option (Int × Int) :=
  (bif (!ok_1) then some ((0 : Int), (3 : Int)) else some (n_0, (0 : Int)))

noncomputable def m_impl_ChannelAt (b_0 : GBand) (f_1 : Int) : Option (Int × Int) :=
  ((m_impl_ValidBand b_0).bind fun x1 => (bif (!x1) then some ((0 : Int), (1 : Int)) else (((bif (decide (f_1 < b_0.Low)) then some true else some (decide ((100000000 : Int) < f_1))) : Option Bool).bind fun x2 => (bif x2 then some ((0 : Int), (3 : Int)) else ((qdiv .i64 (w64 (f_1 - b_0.Low)) b_0.Raster).bind fun x5 => ((m_impl_Band_count b_0).bind fun x6 => ((m_impl_orNotFound x5 (decide (x5 < x6))).bind fun x7 => some (x7.1, x7.2))))))))

noncomputable def m_laws_FnExactChannelAt (aB_0 : GBand) (aF_1 : Int) : Option Bool :=
  ((m_laws_szBand aB_0 (1048576 : Int)).bind fun x1 => (bif (decide (x1 < (0 : Int))) then some true else ((m_laws_toBand aB_0).bind fun x2 => ((m_spec_ChannelAt x2 aF_1).bind fun x3 => ((m_laws_toBand aB_0).bind fun x4 => ((m_impl_ChannelAt x4 aF_1).bind fun x5 => (((bif (x5.1 != x3.1) then some true else some (x5.2 != x3.2)) : Option Bool).bind fun x6 => (bif x6 then some false else some true))))))))

noncomputable def m_spec_l15Within_B4 (b_0 : GBand) (low_1 : Int) (high_2 : Int) (v5 : Int) (v6 : (List Int)) : Option ((Int × (List Int)) ⊕ (List Int)) :=
  ((m_spec_l15Count b_0).bind fun x8 => (bif (decide (v5 < x8)) then (((bif (decide (low_1 ≤ (w64 (b_0.Low + (w64 (v5 * b_0.Raster)))))) then some (decide ((w64 (b_0.Low + (w64 ((w64 (v5 + (1 : Int))) * b_0.Raster)))) ≤ high_2)) else some false) : Option Bool).bind fun x9 => (((bif x9 then ((appL 8 v6 ([v5] : (List Int))).bind fun x13 => some x13) else some v6) : Option (List Int)).bind fun x12 => some (Sum.inl ((w64 (v5 + (1 : Int))), x12)))) else Option.map Sum.inr (some v6)))
noncomputable def m_spec_l15Within (b_0 : GBand) (low_1 : Int) (high_2 : Int) : Option (List Int) :=
  (((loopM (fun s : (Int × (List Int)) => m_spec_l15Within_B4 b_0 low_1 high_2 s.1 s.2) ((0 : Int), ([] : (List Int)))) : Option (List Int)).bind fun x3 => some x3)

noncomputable def m_spec_ChannelsWithin (b_0 : GBand) (low_1 : Int) (high_2 : Int) : Option ((List Int) × Int) :=
  ((m_spec_l15Ok b_0).bind fun x1 => (bif (!x1) then some (([] : (List Int)), (1 : Int)) else (bif (decide (high_2 < low_1)) then some (([] : (List Int)), (2 : Int)) else ((m_spec_l15Within b_0 low_1 high_2).bind fun x4 => some (x4, (0 : Int))))))

noncomputable def m_impl_Band_begin (b_0 : GBand) (channel_1 : Int) : Option Int :=
  some (w64 (b_0.Low + (w64 (channel_1 * b_0.Raster))))

noncomputable def m_impl_ChannelsWithin_B7 (b_0 : GBand) (low_1 : Int) (high_2 : Int) (x4 : Int) (v8 : Int) (v9 : (List Int)) : Option ((Int × (List Int)) ⊕ (List Int)) :=
  (bif (decide (v8 < x4)) then ((((m_impl_Band_begin b_0 v8).bind fun x12 => (bif (decide (low_1 ≤ x12)) then ((m_impl_Band_begin b_0 (w64 (v8 + (1 : Int)))).bind fun x14 => some (decide (x14 ≤ high_2))) else some false)) : Option Bool).bind fun x11 => (((bif x11 then ((appL 8 v9 ([v8] : (List Int))).bind fun x17 => some x17) else some v9) : Option (List Int)).bind fun x16 => some (Sum.inl ((w64 (v8 + (1 : Int))), x16)))) else Option.map Sum.inr (some v9))
noncomputable def m_impl_ChannelsWithin (b_0 : GBand) (low_1 : Int) (high_2 : Int) : Option ((List Int) × Int) :=
  ((m_impl_ValidBand b_0).bind fun x1 => (bif (!x1) then some (([] : (List Int)), (1 : Int)) else (bif (decide (high_2 < low_1)) then some (([] : (List Int)), (2 : Int)) else ((m_impl_Band_count b_0).bind fun x4 => (((loopM (fun s : (Int × (List Int)) => m_impl_ChannelsWithin_B7 b_0 low_1 high_2 x4 s.1 s.2) ((0 : Int), ([] : (List Int)))) : Option (List Int)).bind fun x6 => some (x6, (0 : Int)))))))

noncomputable def m_laws_markInt64S_B3  (v4 : Int) (v5 : Int) (v6 : (List Int)) : Option ((Int × Int × (List Int)) ⊕ (Int × (List Int))) :=
  (bif (decide (v5 < (v6.length : Int))) then ((inB v6 v5).bind fun u8 => some (Sum.inl ((w64 (v4 + (1 : Int))), (w64 (v5 + (1 : Int))), (v6.set (v5).toNat v4)))) else Option.map Sum.inr (some (v4, v6)))
noncomputable def m_laws_markInt64S (a_0 : (List Int)) (k_1 : Int) : Option (Int × (List Int)) :=
  (((loopM (fun s : (Int × Int × (List Int)) => m_laws_markInt64S_B3  s.1 s.2.1 s.2.2) (k_1, (0 : Int), a_0)) : Option (Int × (List Int))).bind fun x2 => some (x2.1, x2.2))

noncomputable def m_laws_heldInt64S_B1 (a_0 : (List Int)) (v2 : Int) (v3 : Int) : Option ((Int × Int) ⊕ Int) :=
  (bif (decide (v3 < (a_0.length : Int))) then ((idx a_0 v3).bind fun x5 => (bif (x5 != v2) then Option.map Sum.inr (some (-1 : Int)) else some (Sum.inl ((w64 (v2 + (1 : Int))), (w64 (v3 + (1 : Int))))))) else Option.map Sum.inr (some v2))
noncomputable def m_laws_heldInt64S (a_0 : (List Int)) (k_1 : Int) : Option Int :=
  (loopM (fun s : (Int × Int) => m_laws_heldInt64S_B1 a_0 s.1 s.2) (k_1, (0 : Int)))

noncomputable def m_laws_FnExactChannelsWithin (a_0 : GBand) (a_1 : Int) (a_2 : Int) : Option Bool :=
  ((m_laws_szBand a_0 (1048576 : Int)).bind fun x1 => (bif (decide (x1 < (0 : Int))) then some true else ((m_laws_toBand a_0).bind fun x2 => ((m_spec_ChannelsWithin x2 a_1 a_2).bind fun x3 => ((m_laws_toBand a_0).bind fun x4 => ((m_impl_ChannelsWithin x4 a_1 a_2).bind fun x5 => ((((m_laws_eqInt64S x5.1 x3.1).bind fun x9 => (bif (!x9) then some true else some (x5.2 != x3.2))) : Option Bool).bind fun x8 => (bif x8 then some false else ((m_laws_markInt64S x5.1 (1 : Int)).bind fun x12 => ((m_laws_heldInt64S x12.2 (1 : Int)).bind fun x14 => (bif (decide (x14 < (0 : Int))) then some false else (bif (x14 != x12.1) then some false else ((m_laws_toBand a_0).bind fun x15 => ((m_impl_ChannelsWithin x15 a_1 a_2).bind fun x16 => ((((m_laws_eqInt64S x16.1 x3.1).bind fun x18 => (bif (!x18) then some true else some (x16.2 != x3.2))) : Option Bool).bind fun x17 => (bif x17 then some false else ((m_laws_heldInt64S x12.2 (1 : Int)).bind fun x21 => (bif (decide (x21 < (0 : Int))) then some false else (bif (x21 != x12.1) then some false else some true)))))))))))))))))))

noncomputable def m_laws_szBandS_B1 (a_0 : (List GBand)) (v2 : Int) (v3 : Int) : Option ((Int × Int) ⊕ Int) :=
  (bif (decide (v3 < (a_0.length : Int))) then ((idx a_0 v3).bind fun x5 => ((m_laws_szBand x5 v2).bind fun x6 => (bif (decide (x6 < (0 : Int))) then Option.map Sum.inr (some (-1 : Int)) else some (Sum.inl (x6, (w64 (v3 + (1 : Int)))))))) else Option.map Sum.inr (some v2))
noncomputable def m_laws_szBandS (a_0 : (List GBand)) (left_1 : Int) : Option Int :=
  (bif (decide ((w64 (left_1 - (a_0.length : Int))) < (0 : Int))) then some (-1 : Int) else (loopM (fun s : (Int × Int) => m_laws_szBandS_B1 a_0 s.1 s.2) ((w64 (left_1 - (a_0.length : Int))), (0 : Int))))

noncomputable def m_laws_toBandS_B5 (a_0 : (List GBand)) (v6 : Int) (v7 : (List GBand)) : Option ((Int × (List GBand)) ⊕ (List GBand)) :=
  (bif (decide (v6 < (a_0.length : Int))) then ((idx a_0 v6).bind fun x9 => ((m_laws_toBand x9).bind fun x10 => ((inB v7 v6).bind fun u11 => some (Sum.inl ((w64 (v6 + (1 : Int))), (v7.set (v6).toNat x10)))))) else Option.map Sum.inr (some v7))
noncomputable def m_laws_toBandS (a_0 : (List GBand)) : Option (List GBand) :=
  ((mkL 48 (a_0.length : Int) (GBand.mk ByteArray.empty (0 : Int) (0 : Int) (0 : Int) (0 : Int))).bind fun x1 => (((loopM (fun s : (Int × (List GBand)) => m_laws_toBandS_B5 a_0 s.1 s.2) ((0 : Int), x1)) : Option (List GBand)).bind fun x4 => some x4))

noncomputable def m_spec_l15List_B1 (list_0 : (List GBand)) (v2 : Int) : Option (Int ⊕ Bool) :=
  (bif (decide (v2 < (list_0.length : Int))) then ((((idx list_0 v2).bind fun x5 => ((m_spec_l15Ok x5).bind fun x6 => (bif (!x6) then some true else (bif (decide ((0 : Int) < v2)) then ((idx list_0 (w64 (v2 - (1 : Int)))).bind fun x9 => ((idx list_0 v2).bind fun x10 => some (!Op.bytesLess x9.Name.toList x10.Name.toList))) else some false)))) : Option Bool).bind fun x4 => (bif x4 then Option.map Sum.inr (some false) else some (Sum.inl (w64 (v2 + (1 : Int)))))) else Option.map Sum.inr (some (decide ((list_0.length : Int) ≤ (8 : Int)))))
noncomputable def m_spec_l15List (list_0 : (List GBand)) : Option Bool :=
  (loopM (fun s : Int => m_spec_l15List_B1 list_0 s) (0 : Int))

noncomputable def m_spec_ValidBands (list_0 : (List GBand)) : Option Bool :=
  ((m_spec_l15List list_0).bind fun x1 => some x1)

noncomputable def m_impl_ValidBands_B1 (list_0 : (List GBand)) (v2 : Int) : Option (Int ⊕ Bool) :=
  (bif (decide (v2 < (list_0.length : Int))) then ((idx list_0 v2).bind fun x4 => ((((m_impl_ValidBand x4).bind fun x8 => (bif (!x8) then some true else (bif (decide ((0 : Int) < v2)) then ((idx list_0 (w64 (v2 - (1 : Int)))).bind fun x11 => some (Op.bytesLess x4.Name.toList x11.Name.toList || x4.Name.toList == x11.Name.toList)) else some false))) : Option Bool).bind fun x7 => (bif x7 then Option.map Sum.inr (some false) else some (Sum.inl (w64 (v2 + (1 : Int))))))) else Option.map Sum.inr (some true))
noncomputable def m_impl_ValidBands (list_0 : (List GBand)) : Option Bool :=
  (bif (decide ((8 : Int) < (list_0.length : Int))) then some false else (loopM (fun s : Int => m_impl_ValidBands_B1 list_0 s) (0 : Int)))

noncomputable def m_laws_eqBand (a_0 : GBand) (b_1 : GBand) : Option Bool :=
  (bif (!(a_0.Name.toList == b_1.Name.toList)) then some false else (bif (a_0.Low != b_1.Low) then some false else (bif (a_0.High != b_1.High) then some false else (bif (a_0.Raster != b_1.Raster) then some false else (bif (a_0.Duplex != b_1.Duplex) then some false else some true)))))

noncomputable def m_laws_eqBandS_B1 (a_0 : (List GBand)) (b_1 : (List GBand)) (v2 : Int) : Option (Int ⊕ Bool) :=
  (bif (decide (v2 < (a_0.length : Int))) then ((idx a_0 v2).bind fun x4 => ((idx b_1 v2).bind fun x5 => ((m_laws_eqBand x4 x5).bind fun x6 => (bif (!x6) then Option.map Sum.inr (some false) else some (Sum.inl (w64 (v2 + (1 : Int)))))))) else Option.map Sum.inr (some true))
noncomputable def m_laws_eqBandS (a_0 : (List GBand)) (b_1 : (List GBand)) : Option Bool :=
  (bif ((a_0.length : Int) != (b_1.length : Int)) then some false else (loopM (fun s : Int => m_laws_eqBandS_B1 a_0 b_1 s) (0 : Int)))

noncomputable def m_laws_FnExactValidBands (aList_0 : (List GBand)) : Option Bool :=
  ((m_laws_szBandS aList_0 (1048576 : Int)).bind fun x1 => (bif (decide (x1 < (0 : Int))) then some true else ((m_laws_toBandS aList_0).bind fun x2 => ((m_spec_ValidBands x2).bind fun x3 => ((m_laws_toBandS aList_0).bind fun x4 => ((m_impl_ValidBands x4).bind fun x5 => (bif (x5 != x3) then some false else ((m_laws_toBandS aList_0).bind fun x6 => ((m_laws_eqBandS x4 x6).bind fun x7 => (bif (!x7) then some false else some true))))))))))

noncomputable def m_spec_l15Find_B1 (list_0 : (List GBand)) (name_1 : ByteArray) (v2 : Int) : Option (Int ⊕ Int) :=
  (bif (decide (v2 < (list_0.length : Int))) then ((idx list_0 v2).bind fun x4 => (bif (x4.Name.toList == name_1.toList) then Option.map Sum.inr (some v2) else some (Sum.inl (w64 (v2 + (1 : Int)))))) else Option.map Sum.inr (some (-1 : Int)))
noncomputable def m_spec_l15Find (list_0 : (List GBand)) (name_1 : ByteArray) : Option Int :=
  (loopM (fun s : Int => m_spec_l15Find_B1 list_0 name_1 s) (0 : Int))

noncomputable def m_spec_BandNamed (list_0 : (List GBand)) (name_1 : ByteArray) : Option (GBand × Int) :=
  ((m_spec_l15List list_0).bind fun x2 => (bif (!x2) then some ((GBand.mk ByteArray.empty (0 : Int) (0 : Int) (0 : Int) (0 : Int)), (1 : Int)) else ((m_spec_l15Find list_0 name_1).bind fun x4 => (bif (decide (x4 < (0 : Int))) then some ((GBand.mk ByteArray.empty (0 : Int) (0 : Int) (0 : Int) (0 : Int)), (3 : Int)) else ((idx list_0 x4).bind fun x6 => some (x6, (0 : Int)))))))

noncomputable def m_impl_bandNamed_1 (b_0 : GBand) (a_1 : ByteArray) : Option Bool :=
  some (b_0.Name.toList == a_1.toList)

noncomputable def m_slices_IndexFunc_impl_Band_impl_Band_B1 (s_0 : (List GBand)) (f_1 : (GBand → Option Bool)) (v2 : Int) : Option (Int ⊕ Int) :=
  (bif (decide (v2 < (s_0.length : Int))) then ((idx s_0 v2).bind fun x4 => ((f_1 x4).bind fun x5 => (bif x5 then Option.map Sum.inr (some v2) else some (Sum.inl (w64 (v2 + (1 : Int))))))) else Option.map Sum.inr (some (-1 : Int)))
noncomputable def m_slices_IndexFunc_impl_Band_impl_Band (s_0 : (List GBand)) (f_1 : (GBand → Option Bool)) : Option Int :=
  (loopM (fun s : Int => m_slices_IndexFunc_impl_Band_impl_Band_B1 s_0 f_1 s) (0 : Int))

noncomputable def m_impl_bandNamed (list_0 : (List GBand)) (name_1 : ByteArray) : Option Int :=
  ((m_slices_IndexFunc_impl_Band_impl_Band list_0 (fun x => m_impl_bandNamed_1 x name_1)).bind fun x1 => some x1)

noncomputable def m_impl_BandNamed (list_0 : (List GBand)) (name_1 : ByteArray) : Option (GBand × Int) :=
  ((m_impl_bandNamed list_0 name_1).bind fun x2 => ((m_impl_ValidBands list_0).bind fun x3 => (bif (!x3) then some ((GBand.mk ByteArray.empty (0 : Int) (0 : Int) (0 : Int) (0 : Int)), (1 : Int)) else (bif (decide (x2 < (0 : Int))) then some ((GBand.mk ByteArray.empty (0 : Int) (0 : Int) (0 : Int) (0 : Int)), (3 : Int)) else ((idx list_0 x2).bind fun x6 => some (x6, (0 : Int)))))))

noncomputable def m_laws_FnExactBandNamed (aList_0 : (List GBand)) (aName_1 : ByteArray) : Option Bool :=
  (bif (decide ((1048576 : Int) < (aName_1.size : Int))) then some true else ((m_laws_szBandS aList_0 (1048576 : Int)).bind fun x1 => (bif (decide (x1 < (0 : Int))) then some true else ((m_laws_toBandS aList_0).bind fun x2 => ((m_spec_BandNamed x2 aName_1).bind fun x3 => ((m_laws_toBandS aList_0).bind fun x6 => ((m_impl_BandNamed x6 aName_1).bind fun x7 => ((((m_laws_eqBand x7.1 x3.1).bind fun x11 => (bif (!x11) then some true else some (x7.2 != x3.2))) : Option Bool).bind fun x10 => (bif x10 then some false else ((m_laws_toBandS aList_0).bind fun x14 => ((m_laws_eqBandS x6 x14).bind fun x15 => (bif (!x15) then some false else some true))))))))))))

noncomputable def m_laws_szInt64S (a_0 : (List Int)) (left_1 : Int) : Option Int :=
  (bif (decide ((w64 (left_1 - (a_0.length : Int))) < (0 : Int))) then some (-1 : Int) else some (w64 (left_1 - (a_0.length : Int))))

noncomputable def m_laws_szRaster (a_0 : GRaster) (left_1 : Int) : Option Int :=
  ((m_laws_szInt64S a_0.Server left_1).bind fun x1 => (bif (decide (x1 < (0 : Int))) then some (-1 : Int) else ((m_laws_szInt64S a_0.Level x1).bind fun x2 => (bif (decide (x2 < (0 : Int))) then some (-1 : Int) else some x2))))

noncomputable def m_laws_toRaster (a_0 : GRaster) : Option GRaster :=
  ((m_laws_toInt64S a_0.Server).bind fun x6 => ((m_laws_toInt64S a_0.Level).bind fun x10 => some (GRaster.mk a_0.Step a_0.Width a_0.Height x6 x10)))

noncomputable def m_spec_l00Same_B1 (a_0 : (List Int)) (b_1 : (List Int)) (v2 : Int) : Option (Int ⊕ Bool) :=
  (bif (decide (v2 < (a_0.length : Int))) then ((idx a_0 v2).bind fun x4 => ((idx b_1 v2).bind fun x5 => (bif (x4 != x5) then Option.map Sum.inr (some false) else some (Sum.inl (w64 (v2 + (1 : Int))))))) else Option.map Sum.inr (some true))
noncomputable def m_spec_l00Same (a_0 : (List Int)) (b_1 : (List Int)) : Option Bool :=
  (bif ((a_0.length : Int) != (b_1.length : Int)) then some false else (loopM (fun s : Int => m_spec_l00Same_B1 a_0 b_1 s) (0 : Int)))

noncomputable def m_spec_SameRaster (a_0 : GRaster) (b_1 : GRaster) : Option Bool :=
  (((bif (a_0.Step == b_1.Step) then (bif (a_0.Width == b_1.Width) then (bif (a_0.Height == b_1.Height) then ((m_spec_l00Same a_0.Server b_1.Server).bind fun x5 => (bif x5 then ((m_spec_l00Same a_0.Level b_1.Level).bind fun x7 => some x7) else some false)) else some false) else some false) else some false) : Option Bool).bind fun x1 => some x1)

noncomputable def m_impl_sameSize (a_0 : GRaster) (b_1 : GRaster) : Option Bool :=
  (((bif (a_0.Step == b_1.Step) then (bif (a_0.Width == b_1.Width) then some (a_0.Height == b_1.Height) else some false) else some false) : Option Bool).bind fun x1 => some x1)

noncomputable def m_slices_Equal_int64_int64_B1 (s1_0 : (List Int)) (s2_1 : (List Int)) (v2 : Int) : Option (Int ⊕ Bool) :=
  (bif (decide (v2 < (s1_0.length : Int))) then ((idx s1_0 v2).bind fun x4 => ((idx s2_1 v2).bind fun x5 => (bif (x4 != x5) then Option.map Sum.inr (some false) else some (Sum.inl (w64 (v2 + (1 : Int))))))) else Option.map Sum.inr (some true))
noncomputable def m_slices_Equal_int64_int64 (s1_0 : (List Int)) (s2_1 : (List Int)) : Option Bool :=
  (bif ((s1_0.length : Int) != (s2_1.length : Int)) then some false else (loopM (fun s : Int => m_slices_Equal_int64_int64_B1 s1_0 s2_1 s) (0 : Int)))

noncomputable def m_impl_SameRaster (a_0 : GRaster) (b_1 : GRaster) : Option Bool :=
  ((((m_impl_sameSize a_0 b_1).bind fun x2 => (bif x2 then ((m_slices_Equal_int64_int64 a_0.Server b_1.Server).bind fun x4 => (bif x4 then ((m_slices_Equal_int64_int64 a_0.Level b_1.Level).bind fun x6 => some x6) else some false)) else some false)) : Option Bool).bind fun x1 => some x1)

noncomputable def m_laws_eqRaster (a_0 : GRaster) (b_1 : GRaster) : Option Bool :=
  (bif (a_0.Step != b_1.Step) then some false else (bif (a_0.Width != b_1.Width) then some false else (bif (a_0.Height != b_1.Height) then some false else ((m_laws_eqInt64S a_0.Server b_1.Server).bind fun x1 => (bif (!x1) then some false else ((m_laws_eqInt64S a_0.Level b_1.Level).bind fun x2 => (bif (!x2) then some false else some true)))))))

noncomputable def m_laws_FnExactSameRaster (aA_0 : GRaster) (aB_1 : GRaster) : Option Bool :=
  ((m_laws_szRaster aA_0 (1048576 : Int)).bind fun x1 => (bif (decide (x1 < (0 : Int))) then some true else ((m_laws_szRaster aB_1 x1).bind fun x2 => (bif (decide (x2 < (0 : Int))) then some true else ((m_laws_toRaster aA_0).bind fun x3 => ((m_laws_toRaster aB_1).bind fun x4 => ((m_spec_SameRaster x3 x4).bind fun x5 => ((m_laws_toRaster aA_0).bind fun x6 => ((m_laws_toRaster aB_1).bind fun x9 => ((m_impl_SameRaster x6 x9).bind fun x12 => (bif (x12 != x5) then some false else ((m_laws_toRaster aA_0).bind fun x13 => ((m_laws_eqRaster x6 x13).bind fun x14 => (bif (!x14) then some false else ((m_laws_toRaster aB_1).bind fun x15 => ((m_laws_eqRaster x9 x15).bind fun x16 => (bif (!x16) then some false else some true)))))))))))))))))

noncomputable def m_spec_l04Size (step_0 : Int) (width_1 : Int) (height_2 : Int) : Option Bool :=
  ((((m_spec_l00In step_0 (1 : Int) (10000 : Int)).bind fun x2 => (bif x2 then ((m_spec_l00In width_1 (2 : Int) (24 : Int)).bind fun x4 => (bif x4 then ((m_spec_l00In height_2 (2 : Int) (24 : Int)).bind fun x6 => (bif x6 then (bif (decide ((w64 ((w64 (width_1 - (1 : Int))) * step_0)) ≤ (200000 : Int))) then some (decide ((w64 ((w64 (height_2 - (1 : Int))) * step_0)) ≤ (200000 : Int))) else some false) else some false)) else some false)) else some false)) : Option Bool).bind fun x1 => some x1)

noncomputable def m_spec_l02Level (v_0 : Int) : Option Bool :=
  ((m_spec_l00In v_0 (-300000 : Int) (300000 : Int)).bind fun x1 => some x1)

noncomputable def m_spec_l20Ok_B6 (a_0 : GRaster) (v7 : Int) : Option (Int ⊕ Bool) :=
  (bif (decide (v7 < (a_0.Server.length : Int))) then ((((idx a_0.Server v7).bind fun x10 => ((m_spec_l00In x10 (-1 : Int) (23 : Int)).bind fun x11 => (bif (!x11) then some true else ((idx a_0.Level v7).bind fun x13 => ((m_spec_l02Level x13).bind fun x14 => (bif (!x14) then some true else ((idx a_0.Server v7).bind fun x16 => (bif (decide (x16 < (0 : Int))) then ((idx a_0.Level v7).bind fun x18 => some (x18 != (-300000 : Int))) else some false)))))))) : Option Bool).bind fun x9 => (bif x9 then Option.map Sum.inr (some false) else some (Sum.inl (w64 (v7 + (1 : Int)))))) else Option.map Sum.inr (some true))
noncomputable def m_spec_l20Ok (a_0 : GRaster) : Option Bool :=
  ((((m_spec_l04Size a_0.Step a_0.Width a_0.Height).bind fun x2 => (bif (!x2) then some true else (bif ((a_0.Server.length : Int) != (w64 (a_0.Width * a_0.Height))) then some true else some ((a_0.Level.length : Int) != (a_0.Server.length : Int))))) : Option Bool).bind fun x1 => (bif x1 then some false else (loopM (fun s : Int => m_spec_l20Ok_B6 a_0 s) (0 : Int))))

noncomputable def m_spec_ValidRaster (r_0 : GRaster) : Option Bool :=
  ((m_spec_l20Ok r_0).bind fun x1 => some x1)

noncomputable def m_impl_sizeOk (step_0 : Int) (width_1 : Int) (height_2 : Int) : Option Bool :=
  ((((m_impl_within step_0 (1 : Int) (10000 : Int)).bind fun x2 => (bif x2 then ((m_impl_within width_1 (2 : Int) (24 : Int)).bind fun x4 => (bif x4 then ((m_impl_within height_2 (2 : Int) (24 : Int)).bind fun x6 => (bif x6 then some (decide ((w64 ((if (w64 (height_2 - (1 : Int))) > (w64 (width_1 - (1 : Int))) then (w64 (height_2 - (1 : Int))) else (w64 (width_1 - (1 : Int)))) * step_0)) ≤ (200000 : Int))) else some false)) else some false)) else some false)) : Option Bool).bind fun x1 => some x1)

noncomputable def m_impl_ValidRaster_B10 (r_0 : GRaster) (v11 : Int) : Option (Int ⊕ Bool) :=
  (bif (decide (v11 < (r_0.Server.length : Int))) then ((idx r_0.Server v11).bind fun x13 => (((bif (decide (x13 < (0 : Int))) then ((idx r_0.Level v11).bind fun x16 => some (x16 != (-300000 : Int))) else some false) : Option Bool).bind fun x14 => (bif x14 then Option.map Sum.inr (some false) else some (Sum.inl (w64 (v11 + (1 : Int))))))) else Option.map Sum.inr (some true))
noncomputable def m_impl_ValidRaster (r_0 : GRaster) : Option Bool :=
  ((((m_impl_sizeOk r_0.Step r_0.Width r_0.Height).bind fun x2 => (bif (!x2) then some true else (bif ((r_0.Server.length : Int) != (w64 (r_0.Width * r_0.Height))) then some true else (bif ((r_0.Level.length : Int) != (r_0.Server.length : Int)) then some true else ((m_impl_allWithin r_0.Server (-1 : Int) (23 : Int)).bind fun x6 => (bif (!x6) then some true else ((m_impl_allWithin r_0.Level (-300000 : Int) (300000 : Int)).bind fun x8 => some (!x8)))))))) : Option Bool).bind fun x1 => (bif x1 then some false else (loopM (fun s : Int => m_impl_ValidRaster_B10 r_0 s) (0 : Int))))

noncomputable def m_laws_FnExactValidRaster (aR_0 : GRaster) : Option Bool :=
  ((m_laws_szRaster aR_0 (1048576 : Int)).bind fun x1 => (bif (decide (x1 < (0 : Int))) then some true else ((m_laws_toRaster aR_0).bind fun x2 => ((m_spec_ValidRaster x2).bind fun x3 => ((m_laws_toRaster aR_0).bind fun x4 => ((m_impl_ValidRaster x4).bind fun x7 => (bif (x7 != x3) then some false else ((m_laws_toRaster aR_0).bind fun x8 => ((m_laws_eqRaster x4 x8).bind fun x9 => (bif (!x9) then some false else some true))))))))))

noncomputable def m_laws_toPoint (a_0 : GPoint) : Option GPoint :=
  some a_0

noncomputable def m_spec_ServerAt (a_0 : GRaster) (a_1 : GPoint) : Option (Int × Int × Int) :=
  ((m_spec_l20Ok a_0).bind fun x1 => (bif (!x1) then some ((0 : Int), (0 : Int), (1 : Int)) else ((((m_spec_l00In a_1.X (0 : Int) (w64 ((w64 (a_0.Width - (1 : Int))) * a_0.Step))).bind fun x3 => (bif (!x3) then some true else ((m_spec_l00In a_1.Y (0 : Int) (w64 ((w64 (a_0.Height - (1 : Int))) * a_0.Step))).bind fun x5 => some (!x5)))) : Option Bool).bind fun x2 => (bif x2 then some ((0 : Int), (0 : Int), (2 : Int)) else ((qdiv .i64 (w64 ((w64 ((2 : Int) * a_1.Y)) + a_0.Step)) (w64 ((2 : Int) * a_0.Step))).bind fun x7 => ((qdiv .i64 (w64 ((w64 ((2 : Int) * a_1.X)) + a_0.Step)) (w64 ((2 : Int) * a_0.Step))).bind fun x8 => ((idx a_0.Server (w64 ((w64 (x7 * a_0.Width)) + x8))).bind fun x9 => ((idx a_0.Level (w64 ((w64 (x7 * a_0.Width)) + x8))).bind fun x10 => some (x9, x10, (0 : Int))))))))))

noncomputable def m_impl_ServerAt (a_0 : GRaster) (a_1 : GPoint) : Option (Int × Int × Int) :=
  ((m_impl_ValidRaster a_0).bind fun x1 => (bif (!x1) then some ((0 : Int), (0 : Int), (1 : Int)) else ((((m_impl_within a_1.X (0 : Int) (w64 ((w64 (a_0.Width - (1 : Int))) * a_0.Step))).bind fun x3 => (bif (!x3) then some true else ((m_impl_within a_1.Y (0 : Int) (w64 ((w64 (a_0.Height - (1 : Int))) * a_0.Step))).bind fun x5 => some (!x5)))) : Option Bool).bind fun x2 => (bif x2 then some ((0 : Int), (0 : Int), (2 : Int)) else ((qdiv .i64 (w64 ((w64 ((2 : Int) * a_1.Y)) + a_0.Step)) (w64 ((2 : Int) * a_0.Step))).bind fun x7 => ((qdiv .i64 (w64 ((w64 ((2 : Int) * a_1.X)) + a_0.Step)) (w64 ((2 : Int) * a_0.Step))).bind fun x8 => ((idx a_0.Server (w64 ((w64 (x7 * a_0.Width)) + x8))).bind fun x9 => ((idx a_0.Level (w64 ((w64 (x7 * a_0.Width)) + x8))).bind fun x10 => some (x9, x10, (0 : Int))))))))))

noncomputable def m_laws_FnExactServerAt (aR_0 : GRaster) (aP_1 : GPoint) : Option Bool :=
  ((m_laws_szRaster aR_0 (1048576 : Int)).bind fun x1 => (bif (decide (x1 < (0 : Int))) then some true else ((m_laws_toRaster aR_0).bind fun x2 => ((m_laws_toPoint aP_1).bind fun x3 => ((m_spec_ServerAt x2 x3).bind fun x4 => ((m_laws_toRaster aR_0).bind fun x5 => ((m_laws_toPoint aP_1).bind fun x8 => ((m_impl_ServerAt x5 x8).bind fun x9 => (((bif (x9.1 != x4.1) then some true else (bif (x9.2.1 != x4.2.1) then some true else some (x9.2.2 != x4.2.2))) : Option Bool).bind fun x10 => (bif x10 then some false else ((m_laws_toRaster aR_0).bind fun x14 => ((m_laws_eqRaster x5 x14).bind fun x15 => (bif (!x15) then some false else some true)))))))))))))

noncomputable def m_laws_szInt64SS_B1 (a_0 : (List (List Int))) (v2 : Int) (v3 : Int) : Option ((Int × Int) ⊕ Int) :=
  (bif (decide (v3 < (a_0.length : Int))) then ((idx a_0 v3).bind fun x5 => ((m_laws_szInt64S x5 v2).bind fun x6 => (bif (decide (x6 < (0 : Int))) then Option.map Sum.inr (some (-1 : Int)) else some (Sum.inl (x6, (w64 (v3 + (1 : Int)))))))) else Option.map Sum.inr (some v2))
noncomputable def m_laws_szInt64SS (a_0 : (List (List Int))) (left_1 : Int) : Option Int :=
  (bif (decide ((w64 (left_1 - (a_0.length : Int))) < (0 : Int))) then some (-1 : Int) else (loopM (fun s : (Int × Int) => m_laws_szInt64SS_B1 a_0 s.1 s.2) ((w64 (left_1 - (a_0.length : Int))), (0 : Int))))

noncomputable def m_laws_toInt64SS_B5 (a_0 : (List (List Int))) (v6 : Int) (v7 : (List (List Int))) : Option ((Int × (List (List Int))) ⊕ (List (List Int))) :=
  (bif (decide (v6 < (a_0.length : Int))) then ((idx a_0 v6).bind fun x9 => ((m_laws_toInt64S x9).bind fun x10 => ((inB v7 v6).bind fun u13 => some (Sum.inl ((w64 (v6 + (1 : Int))), (v7.set (v6).toNat x10)))))) else Option.map Sum.inr (some v7))
noncomputable def m_laws_toInt64SS (a_0 : (List (List Int))) : Option (List (List Int)) :=
  ((mkL 24 (a_0.length : Int) ([] : (List Int))).bind fun x1 => (((loopM (fun s : (Int × (List (List Int))) => m_laws_toInt64SS_B5 a_0 s.1 s.2) ((0 : Int), x1)) : Option (List (List Int))).bind fun x4 => some x4))

noncomputable def m_spec_l16Row_B1 (row_0 : (List Int)) (v2 : Int) : Option (Int ⊕ Bool) :=
  (bif (decide (v2 < (row_0.length : Int))) then ((idx row_0 v2).bind fun x4 => ((m_spec_l02Level x4).bind fun x5 => (bif (!x5) then Option.map Sum.inr (some false) else some (Sum.inl (w64 (v2 + (1 : Int))))))) else Option.map Sum.inr ((((bif (decide ((0 : Int) < (row_0.length : Int))) then some (decide ((row_0.length : Int) ≤ (24 : Int))) else some false) : Option Bool).bind fun x6 => some x6)))
noncomputable def m_spec_l16Row (row_0 : (List Int)) : Option Bool :=
  (loopM (fun s : Int => m_spec_l16Row_B1 row_0 s) (0 : Int))

noncomputable def m_spec_l16Rows_B1 (rows_0 : (List (List Int))) (v2 : Int) : Option (Int ⊕ Bool) :=
  (bif (decide (v2 < (rows_0.length : Int))) then ((((idx rows_0 v2).bind fun x5 => ((m_spec_l16Row x5).bind fun x6 => (bif (!x6) then some true else ((idx rows_0 v2).bind fun x8 => ((idx rows_0 (0 : Int)).bind fun x9 => some ((x8.length : Int) != (x9.length : Int))))))) : Option Bool).bind fun x4 => (bif x4 then Option.map Sum.inr (some false) else some (Sum.inl (w64 (v2 + (1 : Int)))))) else Option.map Sum.inr ((((bif (decide ((0 : Int) < (rows_0.length : Int))) then some (decide ((rows_0.length : Int) ≤ (32 : Int))) else some false) : Option Bool).bind fun x11 => some x11)))
noncomputable def m_spec_l16Rows (rows_0 : (List (List Int))) : Option Bool :=
  (loopM (fun s : Int => m_spec_l16Rows_B1 rows_0 s) (0 : Int))

noncomputable def m_spec_ValidRows (rows_0 : (List (List Int))) : Option Bool :=
  ((m_spec_l16Rows rows_0).bind fun x1 => some x1)

noncomputable def m_impl_rowOk (row_0 : (List Int)) : Option Bool :=
  (((bif (decide ((1 : Int) ≤ (row_0.length : Int))) then (bif (decide ((row_0.length : Int) ≤ (24 : Int))) then ((m_impl_allWithin row_0 (-300000 : Int) (300000 : Int)).bind fun x4 => some x4) else some false) else some false) : Option Bool).bind fun x1 => some x1)

noncomputable def m_impl_ValidRows_1 (row_0 : (List Int)) (a_1 : (List (List Int))) : Option Bool :=
  ((((m_impl_rowOk row_0).bind fun x2 => (bif (!x2) then some true else ((idx a_1 (0 : Int)).bind fun x4 => some ((row_0.length : Int) != (x4.length : Int))))) : Option Bool).bind fun x1 => some x1)

noncomputable def m_slices_IndexFunc_SSint64_int64_B1 (s_0 : (List (List Int))) (f_1 : ((List Int) → Option Bool)) (v2 : Int) : Option (Int ⊕ Int) :=
  (bif (decide (v2 < (s_0.length : Int))) then ((idx s_0 v2).bind fun x4 => ((f_1 x4).bind fun x5 => (bif x5 then Option.map Sum.inr (some v2) else some (Sum.inl (w64 (v2 + (1 : Int))))))) else Option.map Sum.inr (some (-1 : Int)))
noncomputable def m_slices_IndexFunc_SSint64_int64 (s_0 : (List (List Int))) (f_1 : ((List Int) → Option Bool)) : Option Int :=
  (loopM (fun s : Int => m_slices_IndexFunc_SSint64_int64_B1 s_0 f_1 s) (0 : Int))

noncomputable def m_slices_ContainsFunc_SSint64_int64 (s_0 : (List (List Int))) (f_1 : ((List Int) → Option Bool)) : Option Bool :=
  ((m_slices_IndexFunc_SSint64_int64 s_0 f_1).bind fun x1 => some (decide ((0 : Int) ≤ x1)))

noncomputable def m_impl_ValidRows (rows_0 : (List (List Int))) : Option Bool :=
  (((bif (decide ((rows_0.length : Int) < (1 : Int))) then some true else some (decide ((32 : Int) < (rows_0.length : Int)))) : Option Bool).bind fun x1 => (bif x1 then some false else ((m_slices_ContainsFunc_SSint64_int64 rows_0 (fun x => m_impl_ValidRows_1 x rows_0)).bind fun x4 => some (!x4))))

noncomputable def m_laws_eqInt64SS_B1 (a_0 : (List (List Int))) (b_1 : (List (List Int))) (v2 : Int) : Option (Int ⊕ Bool) :=
  (bif (decide (v2 < (a_0.length : Int))) then ((idx a_0 v2).bind fun x4 => ((idx b_1 v2).bind fun x5 => ((m_laws_eqInt64S x4 x5).bind fun x6 => (bif (!x6) then Option.map Sum.inr (some false) else some (Sum.inl (w64 (v2 + (1 : Int)))))))) else Option.map Sum.inr (some true))
noncomputable def m_laws_eqInt64SS (a_0 : (List (List Int))) (b_1 : (List (List Int))) : Option Bool :=
  (bif ((a_0.length : Int) != (b_1.length : Int)) then some false else (loopM (fun s : Int => m_laws_eqInt64SS_B1 a_0 b_1 s) (0 : Int)))

noncomputable def m_laws_FnExactValidRows (aRows_0 : (List (List Int))) : Option Bool :=
  ((m_laws_szInt64SS aRows_0 (1048576 : Int)).bind fun x1 => (bif (decide (x1 < (0 : Int))) then some true else ((m_laws_toInt64SS aRows_0).bind fun x2 => ((m_spec_ValidRows x2).bind fun x3 => ((m_laws_toInt64SS aRows_0).bind fun x4 => ((m_impl_ValidRows x4).bind fun x5 => (bif (x5 != x3) then some false else ((m_laws_toInt64SS aRows_0).bind fun x6 => ((m_laws_eqInt64SS x4 x6).bind fun x7 => (bif (!x7) then some false else some true))))))))))

noncomputable def m_spec_l16Server_B2 (row_0 : (List Int)) (v3 : Int) (v4 : Int) : Option ((Int × Int) ⊕ Int) :=
  (bif (decide (v4 < (row_0.length : Int))) then ((idx row_0 v4).bind fun x6 => ((idx row_0 v3).bind fun x7 => (((bif (decide (x7 < x6)) then some v4 else some v3) : Option Int).bind fun x8 => some (Sum.inl (x8, (w64 (v4 + (1 : Int)))))))) else Option.map Sum.inr (some v3))
noncomputable def m_spec_l16Server (row_0 : (List Int)) : Option Int :=
  (((loopM (fun s : (Int × Int) => m_spec_l16Server_B2 row_0 s.1 s.2) ((0 : Int), (1 : Int))) : Option Int).bind fun x1 => some x1)

noncomputable def m_spec_ServersOf_B6 (rows_0 : (List (List Int))) (v7 : Int) (v8 : (List Int)) : Option ((Int × (List Int)) ⊕ (List Int)) :=
  (bif (decide (v7 < (rows_0.length : Int))) then ((idx rows_0 v7).bind fun x10 => ((m_spec_l16Server x10).bind fun x11 => ((appL 8 v8 ([x11] : (List Int))).bind fun x12 => some (Sum.inl ((w64 (v7 + (1 : Int))), x12))))) else Option.map Sum.inr (some v8))
noncomputable def m_spec_ServersOf (rows_0 : (List (List Int))) : Option ((List Int) × Int) :=
  ((m_spec_l16Rows rows_0).bind fun x1 => (bif (!x1) then some (([] : (List Int)), (1 : Int)) else (((loopM (fun s : (Int × (List Int)) => m_spec_ServersOf_B6 rows_0 s.1 s.2) ((0 : Int), ([] : (List Int)))) : Option (List Int)).bind fun x5 => some (x5, (0 : Int)))))

noncomputable def m_slices_Max_int64_int64_B5 (x_0 : (List Int)) (v6 : Int) (v7 : Int) : Option ((Int × Int) ⊕ Int) :=
  (bif (decide (v7 < (x_0.length : Int))) then ((idx x_0 v7).bind fun x9 => some (Sum.inl ((if x9 > v6 then x9 else v6), (w64 (v7 + (1 : Int)))))) else Option.map Sum.inr (some v6))
noncomputable def m_slices_Max_int64_int64 (x_0 : (List Int)) : Option Int :=
  (((bif (decide ((x_0.length : Int) < (1 : Int))) then (none : Option Unit) else some ()) : Option Unit).bind fun x1 => ((idx x_0 (0 : Int)).bind fun x3 => (((loopM (fun s : (Int × Int) => m_slices_Max_int64_int64_B5 x_0 s.1 s.2) (x3, (1 : Int))) : Option Int).bind fun x4 => some x4)))

noncomputable def m_slices_Index_int64_int64_B1 (s_0 : (List Int)) (v_1 : Int) (v2 : Int) : Option (Int ⊕ Int) :=
  (bif (decide (v2 < (s_0.length : Int))) then ((idx s_0 v2).bind fun x4 => (bif (v_1 == x4) then Option.map Sum.inr (some v2) else some (Sum.inl (w64 (v2 + (1 : Int)))))) else Option.map Sum.inr (some (-1 : Int)))
noncomputable def m_slices_Index_int64_int64 (s_0 : (List Int)) (v_1 : Int) : Option Int :=
  (loopM (fun s : Int => m_slices_Index_int64_int64_B1 s_0 v_1 s) (0 : Int))

noncomputable def m_impl_serverOf (row_0 : (List Int)) : Option Int :=
  ((m_slices_Max_int64_int64 row_0).bind fun x1 => ((m_slices_Index_int64_int64 row_0 x1).bind fun x2 => some x2))

noncomputable def m_impl_ServersOf_B5 (rows_0 : (List (List Int))) (v6 : Int) (v7 : (List Int)) : Option ((Int × (List Int)) ⊕ (List Int)) :=
  (bif (decide (v6 < (rows_0.length : Int))) then ((idx rows_0 v6).bind fun x9 => ((m_impl_serverOf x9).bind fun x10 => ((appL 8 v7 ([x10] : (List Int))).bind fun x11 => some (Sum.inl ((w64 (v6 + (1 : Int))), x11))))) else Option.map Sum.inr (some v7))
noncomputable def m_impl_ServersOf (rows_0 : (List (List Int))) : Option ((List Int) × Int) :=
  ((m_impl_ValidRows rows_0).bind fun x1 => (bif (!x1) then some (([] : (List Int)), (1 : Int)) else (((loopM (fun s : (Int × (List Int)) => m_impl_ServersOf_B5 rows_0 s.1 s.2) ((0 : Int), ([] : (List Int)))) : Option (List Int)).bind fun x4 => some (x4, (0 : Int)))))

noncomputable def m_laws_markInt64SS_B3  (v4 : Int) (v5 : Int) (v6 : (List (List Int))) : Option ((Int × Int × (List (List Int))) ⊕ (Int × (List (List Int)))) :=
  (bif (decide (v5 < (v6.length : Int))) then ((idx v6 v5).bind fun x8 => ((m_laws_markInt64S x8 v4).bind fun x10 => some (Sum.inl (x10.1, (w64 (v5 + (1 : Int))), (v6.set (v5).toNat x10.2))))) else Option.map Sum.inr (some (v4, v6)))
noncomputable def m_laws_markInt64SS (a_0 : (List (List Int))) (k_1 : Int) : Option (Int × (List (List Int))) :=
  (((loopM (fun s : (Int × Int × (List (List Int))) => m_laws_markInt64SS_B3  s.1 s.2.1 s.2.2) (k_1, (0 : Int), a_0)) : Option (Int × (List (List Int)))).bind fun x2 => some (x2.1, x2.2))

noncomputable def m_laws_FnExactServersOf (a_0 : (List (List Int))) : Option Bool :=
  ((m_laws_szInt64SS a_0 (1048576 : Int)).bind fun x1 => (bif (decide (x1 < (0 : Int))) then some true else ((m_laws_toInt64SS a_0).bind fun x2 => ((m_spec_ServersOf x2).bind fun x3 => ((m_laws_toInt64SS a_0).bind fun x4 => ((m_impl_ServersOf x4).bind fun x7 => ((((m_laws_eqInt64S x7.1 x3.1).bind fun x11 => (bif (!x11) then some true else some (x7.2 != x3.2))) : Option Bool).bind fun x10 => (bif x10 then some false else ((m_laws_toInt64SS a_0).bind fun x14 => ((m_laws_eqInt64SS x4 x14).bind fun x15 => (bif (!x15) then some false else ((m_laws_markInt64SS x4 (1 : Int)).bind fun x16 => (((bif (decide (x16.1 < (0 : Int))) then some true else ((m_laws_eqInt64S x7.1 x3.1).bind fun x20 => (bif (!x20) then some true else some (x7.2 != x3.2)))) : Option Bool).bind fun x18 => (bif x18 then some false else ((m_laws_markInt64S x7.1 (1 : Int)).bind fun x23 => ((m_laws_heldInt64S x23.2 (1 : Int)).bind fun x25 => (bif (decide (x25 < (0 : Int))) then some false else (bif (x25 != x23.1) then some false else ((m_laws_toInt64SS a_0).bind fun x26 => ((m_impl_ServersOf x26).bind fun x27 => ((((m_laws_eqInt64S x27.1 x3.1).bind fun x29 => (bif (!x29) then some true else some (x27.2 != x3.2))) : Option Bool).bind fun x28 => (bif x28 then some false else ((m_laws_heldInt64S x23.2 (1 : Int)).bind fun x32 => (bif (decide (x32 < (0 : Int))) then some false else (bif (x32 != x23.1) then some false else some true)))))))))))))))))))))))))

noncomputable def m_spec_l16Pairs_B17 (a_0 : (List (List Int))) (v6 : Int) (v13 : Int) (v18 : Int) (v19 : Int) : Option ((Int × Int) ⊕ Int) :=
  (((bif (decide (v19 < (a_0.length : Int))) then some (v6 != v13) else some false) : Option Bool).bind fun x21 => (bif x21 then ((idx a_0 v19).bind fun x24 => ((m_spec_l16Server x24).bind fun x25 => (((bif (x25 == v6) then ((idx a_0 v19).bind fun x27 => ((idx x27 v6).bind fun x28 => ((idx a_0 v19).bind fun x29 => ((idx x29 v13).bind fun x30 => ((m_spec_l00Min v18 (w64 (x28 - x30))).bind fun x31 => some x31))))) else some v18) : Option Int).bind fun x26 => some (Sum.inl (x26, (w64 (v19 + (1 : Int)))))))) else Option.map Sum.inr (some v18)))
noncomputable def m_spec_l16Pairs_B12 (a_0 : (List (List Int))) (x1 : (List Int)) (v6 : Int) (v13 : Int) (v14 : (List Int)) : Option ((Int × (List Int)) ⊕ (List Int)) :=
  (bif (decide (v13 < (x1.length : Int))) then (((loopM (fun s : (Int × Int) => m_spec_l16Pairs_B17 a_0 v6 v13 s.1 s.2) ((200000 : Int), (0 : Int))) : Option Int).bind fun x16 => ((appL 8 v14 ([x16] : (List Int))).bind fun x34 => some (Sum.inl ((w64 (v13 + (1 : Int))), x34)))) else Option.map Sum.inr (some v14))
noncomputable def m_spec_l16Pairs_B5 (a_0 : (List (List Int))) (x1 : (List Int)) (v6 : Int) (v7 : (List (List Int))) : Option ((Int × (List (List Int))) ⊕ (List (List Int))) :=
  (bif (decide (v6 < (x1.length : Int))) then (((loopM (fun s : (Int × (List Int)) => m_spec_l16Pairs_B12 a_0 x1 v6 s.1 s.2) ((0 : Int), ([] : (List Int)))) : Option (List Int)).bind fun x11 => ((appL 24 v7 [x11]).bind fun x39 => some (Sum.inl ((w64 (v6 + (1 : Int))), x39)))) else Option.map Sum.inr (some v7))
noncomputable def m_spec_l16Pairs (a_0 : (List (List Int))) : Option (List (List Int)) :=
  ((idx a_0 (0 : Int)).bind fun x1 => (((loopM (fun s : (Int × (List (List Int))) => m_spec_l16Pairs_B5 a_0 x1 s.1 s.2) ((0 : Int), ([] : (List (List Int))))) : Option (List (List Int))).bind fun x4 => some x4))

noncomputable def m_spec_PairRatios (rows_0 : (List (List Int))) : Option ((List (List Int)) × Int) :=
  ((m_spec_l16Rows rows_0).bind fun x1 => (bif (!x1) then some (([] : (List (List Int))), (1 : Int)) else ((m_spec_l16Pairs rows_0).bind fun x3 => some (x3, (0 : Int)))))

noncomputable def m_math_bits_Mul64 (x_0 : Int) (y_1 : Int) : Option (Int × Int) :=
  ((bitOp .and .u64 x_0 (4294967295 : Int)).bind fun x1 => ((bitOp .shr .u64 x_0 (32 : Int)).bind fun x2 => ((bitOp .and .u64 y_1 (4294967295 : Int)).bind fun x3 => ((bitOp .shr .u64 y_1 (32 : Int)).bind fun x4 => ((bitOp .shr .u64 (IntKind.wrap .u64 (x1 * x3)) (32 : Int)).bind fun x5 => ((bitOp .and .u64 (IntKind.wrap .u64 ((IntKind.wrap .u64 (x2 * x3)) + x5)) (4294967295 : Int)).bind fun x6 => ((bitOp .shr .u64 (IntKind.wrap .u64 ((IntKind.wrap .u64 (x2 * x3)) + x5)) (32 : Int)).bind fun x7 => ((bitOp .shr .u64 (IntKind.wrap .u64 (x6 + (IntKind.wrap .u64 (x1 * x4)))) (32 : Int)).bind fun x8 => some ((IntKind.wrap .u64 ((IntKind.wrap .u64 ((IntKind.wrap .u64 (x2 * x4)) + x7)) + x8)), (IntKind.wrap .u64 (x_0 * y_1)))))))))))

noncomputable def m_math_bits_Mul (x_0 : Int) (y_1 : Int) : Option (Int × Int) :=
  ((m_math_bits_Mul64 x_0 y_1).bind fun x1 => some (x1.1, x1.2))

noncomputable def m_slices_Repeat_int64_int64_B14  (v15 : Int) (v16 : (List Int)) : Option ((Int × (List Int)) ⊕ (List Int)) :=
  (bif (decide (v15 < (v16.length : Int))) then ((cutB v16 v15).bind fun u18 => ((cutB v16 v15).bind fun u19 => some (Sum.inl ((w64 (v15 + ((min (v16.take (v15).toNat).length (v16.length - (v15).toNat) : Nat) : Int))), (over v16 (v15).toNat ((v16.take (v15).toNat).take (v16.length - (v15).toNat))))))) else Option.map Sum.inr (some v16))
noncomputable def m_slices_Repeat_int64_int64 (x_0 : (List Int)) (count_1 : Int) : Option (List Int) :=
  (((bif (decide (count_1 < (0 : Int))) then (none : Option Unit) else some ()) : Option Unit).bind fun x1 => ((m_math_bits_Mul (IntKind.wrap .u64 ((x_0.length : Int))) (IntKind.wrap .u64 (count_1))).bind fun x3 => (((bif (decide ((0 : Int) < x3.1)) then some true else some (decide ((9223372036854775807 : Int) < x3.2))) : Option Bool).bind fun x4 => (((bif x4 then (none : Option Unit) else some ()) : Option Unit).bind fun x7 => ((mkL 8 (w64 (x3.2)) (0 : Int)).bind fun x9 => (((loopM (fun s : (Int × (List Int)) => m_slices_Repeat_int64_int64_B14  s.1 s.2) (((min x_0.length (x9.length - 0) : Nat) : Int), (over x9 0 (x_0.take (x9.length - 0))))) : Option (List Int)).bind fun x13 => some x13))))))

noncomputable def m_impl_pairRatios_B4 (a_0 : (List (List Int))) (x1 : (List Int)) (v5 : Int) (v6 : (List (List Int))) : Option ((Int × (List (List Int))) ⊕ (List (List Int))) :=
  (bif (decide (v5 < (x1.length : Int))) then ((idx a_0 (0 : Int)).bind fun x8 => ((m_slices_Repeat_int64_int64 ([(200000 : Int)] : (List Int)) (x8.length : Int)).bind fun x9 => ((appL 24 v6 [x9]).bind fun x14 => some (Sum.inl ((w64 (v5 + (1 : Int))), x14))))) else Option.map Sum.inr (some v6))
noncomputable def m_impl_pairRatios_B25 (x22 : (List Int)) (x23 : Int) (v26 : Int) (v27 : (List (List Int))) : Option ((Int × (List (List Int))) ⊕ (List (List Int))) :=
  (bif (decide (v26 < (x22.length : Int))) then ((idx x22 v26).bind fun x29 => (((bif (v26 != x23) then ((idx v27 x23).bind fun x31 => ((idx v27 x23).bind fun x32 => ((idx x32 v26).bind fun x33 => ((idx x22 x23).bind fun x34 => ((inB x31 v26).bind fun u35 => some (v27.set (x23).toNat (x31.set (v26).toNat (if (w64 (x34 - x29)) < x33 then (w64 (x34 - x29)) else x33)))))))) else some v27) : Option (List (List Int))).bind fun x30 => some (Sum.inl ((w64 (v26 + (1 : Int))), x30)))) else Option.map Sum.inr (some v27))
noncomputable def m_impl_pairRatios_B18 (a_0 : (List (List Int))) (v19 : Int) (v20 : (List (List Int))) : Option ((Int × (List (List Int))) ⊕ (List (List Int))) :=
  (bif (decide (v19 < (a_0.length : Int))) then ((idx a_0 v19).bind fun x22 => ((m_impl_serverOf x22).bind fun x23 => (((loopM (fun s : (Int × (List (List Int))) => m_impl_pairRatios_B25 x22 x23 s.1 s.2) ((0 : Int), v20)) : Option (List (List Int))).bind fun x24 => some (Sum.inl ((w64 (v19 + (1 : Int))), x24))))) else Option.map Sum.inr (some v20))
noncomputable def m_impl_pairRatios (a_0 : (List (List Int))) : Option (List (List Int)) :=
  ((idx a_0 (0 : Int)).bind fun x1 => (((loopM (fun s : (Int × (List (List Int))) => m_impl_pairRatios_B4 a_0 x1 s.1 s.2) ((0 : Int), ([] : (List (List Int))))) : Option (List (List Int))).bind fun x3 => (((loopM (fun s : (Int × (List (List Int))) => m_impl_pairRatios_B18 a_0 s.1 s.2) ((0 : Int), x3)) : Option (List (List Int))).bind fun x17 => some x17)))

noncomputable def m_impl_PairRatios (rows_0 : (List (List Int))) : Option ((List (List Int)) × Int) :=
  ((m_impl_ValidRows rows_0).bind fun x1 => (bif (!x1) then some (([] : (List (List Int))), (1 : Int)) else ((m_impl_pairRatios rows_0).bind fun x3 => some (x3, (0 : Int)))))

noncomputable def m_laws_heldInt64SS_B1 (a_0 : (List (List Int))) (v2 : Int) (v3 : Int) : Option ((Int × Int) ⊕ Int) :=
  (bif (decide (v3 < (a_0.length : Int))) then ((idx a_0 v3).bind fun x5 => ((m_laws_heldInt64S x5 v2).bind fun x6 => (bif (decide (x6 < (0 : Int))) then Option.map Sum.inr (some (-1 : Int)) else some (Sum.inl (x6, (w64 (v3 + (1 : Int)))))))) else Option.map Sum.inr (some v2))
noncomputable def m_laws_heldInt64SS (a_0 : (List (List Int))) (k_1 : Int) : Option Int :=
  (loopM (fun s : (Int × Int) => m_laws_heldInt64SS_B1 a_0 s.1 s.2) (k_1, (0 : Int)))

noncomputable def m_laws_FnExactPairRatios (a_0 : (List (List Int))) : Option Bool :=
  ((m_laws_szInt64SS a_0 (1048576 : Int)).bind fun x1 => (bif (decide (x1 < (0 : Int))) then some true else ((m_laws_toInt64SS a_0).bind fun x2 => ((m_spec_PairRatios x2).bind fun x3 => ((m_laws_toInt64SS a_0).bind fun x4 => ((m_impl_PairRatios x4).bind fun x7 => ((((m_laws_eqInt64SS x7.1 x3.1).bind fun x11 => (bif (!x11) then some true else some (x7.2 != x3.2))) : Option Bool).bind fun x10 => (bif x10 then some false else ((m_laws_toInt64SS a_0).bind fun x14 => ((m_laws_eqInt64SS x4 x14).bind fun x15 => (bif (!x15) then some false else ((m_laws_markInt64SS x4 (1 : Int)).bind fun x16 => (((bif (decide (x16.1 < (0 : Int))) then some true else ((m_laws_eqInt64SS x7.1 x3.1).bind fun x20 => (bif (!x20) then some true else some (x7.2 != x3.2)))) : Option Bool).bind fun x18 => (bif x18 then some false else ((m_laws_markInt64SS x7.1 (1 : Int)).bind fun x23 => ((m_laws_heldInt64SS x23.2 (1 : Int)).bind fun x25 => (bif (decide (x25 < (0 : Int))) then some false else (bif (x25 != x23.1) then some false else ((m_laws_toInt64SS a_0).bind fun x26 => ((m_impl_PairRatios x26).bind fun x27 => ((((m_laws_eqInt64SS x27.1 x3.1).bind fun x29 => (bif (!x29) then some true else some (x27.2 != x3.2))) : Option Bool).bind fun x28 => (bif x28 then some false else ((m_laws_heldInt64SS x23.2 (1 : Int)).bind fun x32 => (bif (decide (x32 < (0 : Int))) then some false else (bif (x32 != x23.1) then some false else some true)))))))))))))))))))))))))
end Go.Wk
