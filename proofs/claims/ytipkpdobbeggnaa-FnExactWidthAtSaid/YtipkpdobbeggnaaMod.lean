/-
  The functions as pure Lean. Printed by our own program.
-/
import Derived.Test.YtipkpdobbeggnaaCopy
namespace Go.Wk
open Go Go.RowKit Go.Wk
set_option linter.unusedVariables false
structure GProblem where
  Domains : (List (List Int))
  Apart : (List (List Int))
abbrev cGProblem (b : GProblem) : List Pd := [(pSl 1 (cSl 1 (cK .i64)) b.Domains), (pSl 1 (cSl 1 (cK .i64)) b.Apart)]
abbrev okGProblem (b : GProblem) : Prop := (b.Domains.length ≤ maxLen ∧ ∀ x ∈ b.Domains, (x.length ≤ maxLen ∧ ∀ xy ∈ x, ((Lit.int .i64 xy).wf = true))) ∧ (b.Apart.length ≤ maxLen ∧ ∀ x ∈ b.Apart, (x.length ≤ maxLen ∧ ∀ xy ∈ x, ((Lit.int .i64 xy).wf = true)))
structure GMask where
  Offsets : (List Int)
  Losses : (List Int)
abbrev cGMask (b : GMask) : List Pd := [(pSl 1 (cK .i64) b.Offsets), (pSl 1 (cK .i64) b.Losses)]
abbrev okGMask (b : GMask) : Prop := (b.Offsets.length ≤ maxLen ∧ ∀ x ∈ b.Offsets, ((Lit.int .i64 x).wf = true)) ∧ (b.Losses.length ≤ maxLen ∧ ∀ x ∈ b.Losses, ((Lit.int .i64 x).wf = true))
structure GPoint where
  X : Int
  Y : Int
abbrev cGPoint (b : GPoint) : List Pd := [(pEq (.int .i64 b.X)), (pEq (.int .i64 b.Y))]
abbrev okGPoint (b : GPoint) : Prop := ((Lit.int .i64 b.X).wf = true) ∧ ((Lit.int .i64 b.Y).wf = true)
structure GSite where
  Name : ByteArray
  Holder : ByteArray
  Place : GPoint
abbrev cGSite (b : GSite) : List Pd := [(pEq (.string b.Name)), (pEq (.string b.Holder)), (pEq (.int .i64 b.Place.X)), (pEq (.int .i64 b.Place.Y))]
abbrev okGSite (b : GSite) : Prop := (b.Name.size ≤ maxLen) ∧ (b.Holder.size ≤ maxLen) ∧ (okGPoint b.Place)
structure GSector where
  Name : ByteArray
  Site : ByteArray
  Antenna : ByteArray
  Radio : ByteArray
  Band : ByteArray
  Azimuth : Int
  Tilt : Int
  Above : Int
  Channel : Int
abbrev cGSector (b : GSector) : List Pd := [(pEq (.string b.Name)), (pEq (.string b.Site)), (pEq (.string b.Antenna)), (pEq (.string b.Radio)), (pEq (.string b.Band)), (pEq (.int .i64 b.Azimuth)), (pEq (.int .i64 b.Tilt)), (pEq (.int .i64 b.Above)), (pEq (.int .i64 b.Channel))]
abbrev okGSector (b : GSector) : Prop := (b.Name.size ≤ maxLen) ∧ (b.Site.size ≤ maxLen) ∧ (b.Antenna.size ≤ maxLen) ∧ (b.Radio.size ≤ maxLen) ∧ (b.Band.size ≤ maxLen) ∧ ((Lit.int .i64 b.Azimuth).wf = true) ∧ ((Lit.int .i64 b.Tilt).wf = true) ∧ ((Lit.int .i64 b.Above).wf = true) ∧ ((Lit.int .i64 b.Channel).wf = true)
structure GAntenna where
  Name : ByteArray
  Gain : Int
  Horizontal : (List Int)
  Vertical : (List Int)
abbrev cGAntenna (b : GAntenna) : List Pd := [(pEq (.string b.Name)), (pEq (.int .i64 b.Gain)), (pSl 1 (cK .i64) b.Horizontal), (pSl 1 (cK .i64) b.Vertical)]
abbrev okGAntenna (b : GAntenna) : Prop := (b.Name.size ≤ maxLen) ∧ ((Lit.int .i64 b.Gain).wf = true) ∧ (b.Horizontal.length ≤ maxLen ∧ ∀ x ∈ b.Horizontal, ((Lit.int .i64 x).wf = true)) ∧ (b.Vertical.length ≤ maxLen ∧ ∀ x ∈ b.Vertical, ((Lit.int .i64 x).wf = true))
structure GMode where
  Need : Int
  Rate : Int
abbrev cGMode (b : GMode) : List Pd := [(pEq (.int .i64 b.Need)), (pEq (.int .i64 b.Rate))]
abbrev okGMode (b : GMode) : Prop := ((Lit.int .i64 b.Need).wf = true) ∧ ((Lit.int .i64 b.Rate).wf = true)
structure GRadio where
  Name : ByteArray
  Power : Int
  Feeder : Int
  Noise : Int
  Width : Int
  Modes : (List GMode)
abbrev cGRadio (b : GRadio) : List Pd := [(pEq (.string b.Name)), (pEq (.int .i64 b.Power)), (pEq (.int .i64 b.Feeder)), (pEq (.int .i64 b.Noise)), (pEq (.int .i64 b.Width)), (pSl 2 cGMode b.Modes)]
abbrev okGRadio (b : GRadio) : Prop := (b.Name.size ≤ maxLen) ∧ ((Lit.int .i64 b.Power).wf = true) ∧ ((Lit.int .i64 b.Feeder).wf = true) ∧ ((Lit.int .i64 b.Noise).wf = true) ∧ ((Lit.int .i64 b.Width).wf = true) ∧ (b.Modes.length ≤ maxLen ∧ ∀ x ∈ b.Modes, (okGMode x))
structure GNetwork where
  Sites : (List GSite)
  Sectors : (List GSector)
  Antennas : (List GAntenna)
  Radios : (List GRadio)
abbrev cGNetwork (b : GNetwork) : List Pd := [(pSl 4 cGSite b.Sites), (pSl 9 cGSector b.Sectors), (pSl 4 cGAntenna b.Antennas), (pSl 6 cGRadio b.Radios)]
abbrev okGNetwork (b : GNetwork) : Prop := (b.Sites.length ≤ maxLen ∧ ∀ x ∈ b.Sites, (okGSite x)) ∧ (b.Sectors.length ≤ maxLen ∧ ∀ x ∈ b.Sectors, (okGSector x)) ∧ (b.Antennas.length ≤ maxLen ∧ ∀ x ∈ b.Antennas, (okGAntenna x)) ∧ (b.Radios.length ≤ maxLen ∧ ∀ x ∈ b.Radios, (okGRadio x))
noncomputable def m_laws_szInt64S (a_0 : (List Int)) (left_1 : Int) : Option Int :=
  (bif (decide ((w64 (left_1 - (a_0.length : Int))) < (0 : Int))) then some (-1 : Int) else some (w64 (left_1 - (a_0.length : Int))))

noncomputable def m_laws_szInt64SS_B1 (a_0 : (List (List Int))) (v2 : Int) (v3 : Int) : Option ((Int × Int) ⊕ Int) :=
  (bif (decide (v3 < (a_0.length : Int))) then ((idx a_0 v3).bind fun x5 => ((m_laws_szInt64S x5 v2).bind fun x6 => (bif (decide (x6 < (0 : Int))) then Option.map Sum.inr (some (-1 : Int)) else some (Sum.inl (x6, (w64 (v3 + (1 : Int)))))))) else Option.map Sum.inr (some v2))
noncomputable def m_laws_szInt64SS (a_0 : (List (List Int))) (left_1 : Int) : Option Int :=
  (bif (decide ((w64 (left_1 - (a_0.length : Int))) < (0 : Int))) then some (-1 : Int) else (loopM (fun s : (Int × Int) => m_laws_szInt64SS_B1 a_0 s.1 s.2) ((w64 (left_1 - (a_0.length : Int))), (0 : Int))))

noncomputable def m_laws_toInt64S_B5 (a_0 : (List Int)) (v6 : Int) (v7 : (List Int)) : Option ((Int × (List Int)) ⊕ (List Int)) :=
  (bif (decide (v6 < (a_0.length : Int))) then ((idx a_0 v6).bind fun x9 => ((inB v7 v6).bind fun u10 => some (Sum.inl ((w64 (v6 + (1 : Int))), (v7.set (v6).toNat x9))))) else Option.map Sum.inr (some v7))
noncomputable def m_laws_toInt64S (a_0 : (List Int)) : Option (List Int) :=
  ((mkL 8 (a_0.length : Int) (0 : Int)).bind fun x1 => (((loopM (fun s : (Int × (List Int)) => m_laws_toInt64S_B5 a_0 s.1 s.2) ((0 : Int), x1)) : Option (List Int)).bind fun x4 => some x4))

noncomputable def m_laws_toInt64SS_B5 (a_0 : (List (List Int))) (v6 : Int) (v7 : (List (List Int))) : Option ((Int × (List (List Int))) ⊕ (List (List Int))) :=
  (bif (decide (v6 < (a_0.length : Int))) then ((idx a_0 v6).bind fun x9 => ((m_laws_toInt64S x9).bind fun x10 => ((inB v7 v6).bind fun u13 => some (Sum.inl ((w64 (v6 + (1 : Int))), (v7.set (v6).toNat x10)))))) else Option.map Sum.inr (some v7))
noncomputable def m_laws_toInt64SS (a_0 : (List (List Int))) : Option (List (List Int)) :=
  ((mkL 24 (a_0.length : Int) ([] : (List Int))).bind fun x1 => (((loopM (fun s : (Int × (List (List Int))) => m_laws_toInt64SS_B5 a_0 s.1 s.2) ((0 : Int), x1)) : Option (List (List Int))).bind fun x4 => some x4))

noncomputable def m_spec_l00In (n_0 : Int) (low_1 : Int) (high_2 : Int) : Option Bool :=
  (((bif (decide (low_1 ≤ n_0)) then some (decide (n_0 ≤ high_2)) else some false) : Option Bool).bind fun x1 => some x1)

noncomputable def m_spec_l16Matrix_B5 (ratios_0 : (List (List Int))) (v2 : Int) (v6 : Int) : Option (Int ⊕ (Int ⊕ Bool)) :=
  (bif (decide (v6 < (ratios_0.length : Int))) then ((idx ratios_0 v2).bind fun x8 => ((idx x8 v6).bind fun x9 => ((m_spec_l00In x9 (-200000 : Int) (200000 : Int)).bind fun x10 => (bif (!x10) then Option.map Sum.inr (Option.map Sum.inr (some false)) else some (Sum.inl (w64 (v6 + (1 : Int)))))))) else Option.map Sum.inr (some (Sum.inl (w64 (v2 + (1 : Int))))))
noncomputable def m_spec_l16Matrix_B1 (ratios_0 : (List (List Int))) (v2 : Int) : Option (Int ⊕ Bool) :=
  (bif (decide (v2 < (ratios_0.length : Int))) then ((idx ratios_0 v2).bind fun x4 => (bif ((x4.length : Int) != (ratios_0.length : Int)) then Option.map Sum.inr (some false) else (loopM (fun s : Int => m_spec_l16Matrix_B5 ratios_0 v2 s) (0 : Int)))) else Option.map Sum.inr ((((bif (decide ((0 : Int) < (ratios_0.length : Int))) then some (decide ((ratios_0.length : Int) ≤ (24 : Int))) else some false) : Option Bool).bind fun x11 => some x11)))
noncomputable def m_spec_l16Matrix (ratios_0 : (List (List Int))) : Option Bool :=
  (loopM (fun s : Int => m_spec_l16Matrix_B1 ratios_0 s) (0 : Int))

noncomputable def m_spec_l08Table_B1 (table_0 : (List Int)) (v2 : Int) : Option (Int ⊕ Bool) :=
  (bif (decide (v2 < (table_0.length : Int))) then ((((idx table_0 v2).bind fun x5 => ((m_spec_l00In x5 (0 : Int) (120000 : Int)).bind fun x6 => (bif (!x6) then some true else (bif (decide ((0 : Int) < v2)) then ((idx table_0 (w64 (v2 - (1 : Int)))).bind fun x9 => ((idx table_0 v2).bind fun x10 => some (decide (x10 < x9)))) else some false)))) : Option Bool).bind fun x4 => (bif x4 then Option.map Sum.inr (some false) else some (Sum.inl (w64 (v2 + (1 : Int)))))) else Option.map Sum.inr ((((bif (decide ((0 : Int) < (table_0.length : Int))) then (bif (decide ((table_0.length : Int) ≤ (64 : Int))) then ((idx table_0 (0 : Int)).bind fun x15 => some (x15 == (0 : Int))) else some false) else some false) : Option Bool).bind fun x12 => some x12)))
noncomputable def m_spec_l08Table (table_0 : (List Int)) : Option Bool :=
  (loopM (fun s : Int => m_spec_l08Table_B1 table_0 s) (0 : Int))

noncomputable def m_spec_l00Min (a_0 : Int) (b_1 : Int) : Option Int :=
  (bif (decide (a_0 < b_1)) then some a_0 else some b_1)

noncomputable def m_spec_l08Steps_B2 (table_0 : (List Int)) (need_1 : Int) (v3 : Int) : Option (Int ⊕ Int) :=
  (((bif (decide (v3 < (table_0.length : Int))) then ((idx table_0 v3).bind fun x7 => some (decide (x7 < need_1))) else some false) : Option Bool).bind fun x5 => (bif x5 then some (Sum.inl (w64 (v3 + (1 : Int)))) else Option.map Sum.inr (some v3)))
noncomputable def m_spec_l08Steps (table_0 : (List Int)) (need_1 : Int) : Option Int :=
  (((loopM (fun s : Int => m_spec_l08Steps_B2 table_0 need_1 s) (0 : Int)) : Option Int).bind fun x1 => some x1)

noncomputable def m_spec_l16Need_B11 (ratios_0 : (List (List Int))) (target_1 : Int) (table_2 : (List Int)) (v5 : Int) (v12 : Int) (v13 : (List Int)) : Option ((Int × (List Int)) ⊕ (List Int)) :=
  (bif (decide (v12 < (ratios_0.length : Int))) then (((bif (v5 != v12) then ((idx ratios_0 v5).bind fun x16 => ((idx x16 v12).bind fun x17 => ((idx ratios_0 v12).bind fun x18 => ((idx x18 v5).bind fun x19 => ((m_spec_l00Min x17 x19).bind fun x20 => ((m_spec_l08Steps table_2 (w64 (target_1 - x20))).bind fun x21 => some x21)))))) else some (0 : Int)) : Option Int).bind fun x15 => ((appL 8 v13 ([x15] : (List Int))).bind fun x23 => some (Sum.inl ((w64 (v12 + (1 : Int))), x23)))) else Option.map Sum.inr (some v13))
noncomputable def m_spec_l16Need_B4 (ratios_0 : (List (List Int))) (target_1 : Int) (table_2 : (List Int)) (v5 : Int) (v6 : (List (List Int))) : Option ((Int × (List (List Int))) ⊕ (List (List Int))) :=
  (bif (decide (v5 < (ratios_0.length : Int))) then (((loopM (fun s : (Int × (List Int)) => m_spec_l16Need_B11 ratios_0 target_1 table_2 v5 s.1 s.2) ((0 : Int), ([] : (List Int)))) : Option (List Int)).bind fun x10 => ((appL 24 v6 [x10]).bind fun x28 => some (Sum.inl ((w64 (v5 + (1 : Int))), x28)))) else Option.map Sum.inr (some v6))
noncomputable def m_spec_l16Need (ratios_0 : (List (List Int))) (target_1 : Int) (table_2 : (List Int)) : Option (List (List Int)) :=
  (((loopM (fun s : (Int × (List (List Int))) => m_spec_l16Need_B4 ratios_0 target_1 table_2 s.1 s.2) ((0 : Int), ([] : (List (List Int))))) : Option (List (List Int))).bind fun x3 => some x3)

noncomputable def m_spec_NeedMatrix (ratios_0 : (List (List Int))) (target_1 : Int) (table_2 : (List Int)) : Option ((List (List Int)) × Int) :=
  ((((m_spec_l16Matrix ratios_0).bind fun x2 => (bif (!x2) then some true else ((m_spec_l08Table table_2).bind fun x4 => some (!x4)))) : Option Bool).bind fun x1 => (bif x1 then some (([] : (List (List Int))), (1 : Int)) else ((m_spec_l00In target_1 (-200000 : Int) (200000 : Int)).bind fun x7 => (bif (!x7) then some (([] : (List (List Int))), (2 : Int)) else ((m_spec_l16Need ratios_0 target_1 table_2).bind fun x9 => some (x9, (0 : Int)))))))

noncomputable def m_cmp_isNaN_int64 (x_0 : Int) : Option Bool :=
  some (x_0 != x_0)

noncomputable def m_cmp_Less_int64 (x_0 : Int) (y_1 : Int) : Option Bool :=
  ((((m_cmp_isNaN_int64 x_0).bind fun x2 => (bif x2 then ((m_cmp_isNaN_int64 y_1).bind fun x4 => (bif (!x4) then some true else some (decide (x_0 < y_1)))) else some (decide (x_0 < y_1)))) : Option Bool).bind fun x1 => some x1)

noncomputable def m_slices_IsSorted_int64_int64_B1 (x_0 : (List Int)) (v2 : Int) : Option (Int ⊕ Bool) :=
  (bif (decide ((0 : Int) < v2)) then ((idx x_0 v2).bind fun x4 => ((idx x_0 (w64 (v2 - (1 : Int)))).bind fun x5 => ((m_cmp_Less_int64 x4 x5).bind fun x6 => (bif x6 then Option.map Sum.inr (some false) else some (Sum.inl (w64 (v2 - (1 : Int)))))))) else Option.map Sum.inr (some true))
noncomputable def m_slices_IsSorted_int64_int64 (x_0 : (List Int)) : Option Bool :=
  (loopM (fun s : Int => m_slices_IsSorted_int64_int64_B1 x_0 s) (w64 ((x_0.length : Int) - (1 : Int))))

noncomputable def m_impl_within (n_0 : Int) (low_1 : Int) (high_2 : Int) : Option Bool :=
  (((bif (decide (low_1 ≤ n_0)) then some (decide (n_0 ≤ high_2)) else some false) : Option Bool).bind fun x1 => some x1)

noncomputable def m_impl_allWithin_1 (n_0 : Int) (a_1 : Int) (a_2 : Int) : Option Bool :=
  ((m_impl_within n_0 a_1 a_2).bind fun x1 => some (!x1))

noncomputable def m_slices_IndexFunc_int64_int64_B1 (s_0 : (List Int)) (f_1 : (Int → Option Bool)) (v2 : Int) : Option (Int ⊕ Int) :=
  (bif (decide (v2 < (s_0.length : Int))) then ((idx s_0 v2).bind fun x4 => ((f_1 x4).bind fun x5 => (bif x5 then Option.map Sum.inr (some v2) else some (Sum.inl (w64 (v2 + (1 : Int))))))) else Option.map Sum.inr (some (-1 : Int)))
noncomputable def m_slices_IndexFunc_int64_int64 (s_0 : (List Int)) (f_1 : (Int → Option Bool)) : Option Int :=
  (loopM (fun s : Int => m_slices_IndexFunc_int64_int64_B1 s_0 f_1 s) (0 : Int))

noncomputable def m_slices_ContainsFunc_int64_int64 (s_0 : (List Int)) (f_1 : (Int → Option Bool)) : Option Bool :=
  ((m_slices_IndexFunc_int64_int64 s_0 f_1).bind fun x1 => some (decide ((0 : Int) ≤ x1)))

noncomputable def m_impl_allWithin (list_0 : (List Int)) (low_1 : Int) (high_2 : Int) : Option Bool :=
  ((m_slices_ContainsFunc_int64_int64 list_0 (fun x => m_impl_allWithin_1 x low_1 high_2)).bind fun x1 => some (!x1))

noncomputable def m_impl_tableOk (table_0 : (List Int)) : Option Bool :=
  (((bif (decide ((1 : Int) ≤ (table_0.length : Int))) then (bif (decide ((table_0.length : Int) ≤ (64 : Int))) then ((idx table_0 (0 : Int)).bind fun x4 => (bif (x4 == (0 : Int)) then ((m_slices_IsSorted_int64_int64 table_0).bind fun x6 => (bif x6 then ((m_impl_allWithin table_0 (0 : Int) (120000 : Int)).bind fun x8 => some x8) else some false)) else some false)) else some false) else some false) : Option Bool).bind fun x1 => some x1)

noncomputable def m_impl_ratiosOk_1 (row_0 : (List Int)) (a_1 : (List (List Int))) : Option Bool :=
  (((bif ((row_0.length : Int) != (a_1.length : Int)) then some true else ((m_impl_allWithin row_0 (-200000 : Int) (200000 : Int)).bind fun x3 => some (!x3))) : Option Bool).bind fun x1 => some x1)

noncomputable def m_slices_IndexFunc_SSint64_int64_B1 (s_0 : (List (List Int))) (f_1 : ((List Int) → Option Bool)) (v2 : Int) : Option (Int ⊕ Int) :=
  (bif (decide (v2 < (s_0.length : Int))) then ((idx s_0 v2).bind fun x4 => ((f_1 x4).bind fun x5 => (bif x5 then Option.map Sum.inr (some v2) else some (Sum.inl (w64 (v2 + (1 : Int))))))) else Option.map Sum.inr (some (-1 : Int)))
noncomputable def m_slices_IndexFunc_SSint64_int64 (s_0 : (List (List Int))) (f_1 : ((List Int) → Option Bool)) : Option Int :=
  (loopM (fun s : Int => m_slices_IndexFunc_SSint64_int64_B1 s_0 f_1 s) (0 : Int))

noncomputable def m_slices_ContainsFunc_SSint64_int64 (s_0 : (List (List Int))) (f_1 : ((List Int) → Option Bool)) : Option Bool :=
  ((m_slices_IndexFunc_SSint64_int64 s_0 f_1).bind fun x1 => some (decide ((0 : Int) ≤ x1)))

noncomputable def m_impl_ratiosOk (ratios_0 : (List (List Int))) : Option Bool :=
  (((bif (decide ((1 : Int) ≤ (ratios_0.length : Int))) then (bif (decide ((ratios_0.length : Int) ≤ (24 : Int))) then ((m_slices_ContainsFunc_SSint64_int64 ratios_0 (fun x => m_impl_ratiosOk_1 x ratios_0)).bind fun x4 => some (!x4)) else some false) else some false) : Option Bool).bind fun x1 => some x1)

noncomputable def m_impl_ratioOk (n_0 : Int) : Option Bool :=
  ((m_impl_within n_0 (-200000 : Int) (200000 : Int)).bind fun x1 => some x1)

noncomputable def m_impl_needMatrix_1 (n_0 : Int) (a_1 : Int) : Option Bool :=
  some (decide (a_1 ≤ n_0))

noncomputable def m_impl_needMatrix_B11 (a_0 : (List (List Int))) (a_1 : Int) (a_2 : (List Int)) (v4 : Int) (v12 : Int) (v13 : (List Int)) : Option ((Int × (List Int)) ⊕ (List Int)) :=
  (bif (decide (v12 < (a_0.length : Int))) then (((bif (v4 == v12) then some v13 else ((idx a_0 v4).bind fun x16 => ((idx x16 v12).bind fun x17 => ((idx a_0 v12).bind fun x18 => ((idx x18 v4).bind fun x19 => ((inB v13 v12).bind fun u22 => ((m_slices_IndexFunc_int64_int64 a_2 (fun x => m_impl_needMatrix_1 x (w64 (a_1 - (if x19 < x17 then x19 else x17))))).bind fun x24 => (((bif (decide ((0 : Int) ≤ x24)) then ((inB (v13.set (v12).toNat (a_2.length : Int)) v12).bind fun u26 => some ((v13.set (v12).toNat (a_2.length : Int)).set (v12).toNat x24)) else some (v13.set (v12).toNat (a_2.length : Int))) : Option (List Int)).bind fun x25 => some x25)))))))) : Option (List Int)).bind fun x15 => some (Sum.inl ((w64 (v12 + (1 : Int))), x15))) else Option.map Sum.inr (some v13))
noncomputable def m_impl_needMatrix_B3 (a_0 : (List (List Int))) (a_1 : Int) (a_2 : (List Int)) (v4 : Int) (v5 : (List (List Int))) : Option ((Int × (List (List Int))) ⊕ (List (List Int))) :=
  (bif (decide (v4 < (a_0.length : Int))) then ((mkL 8 (a_0.length : Int) (0 : Int)).bind fun x7 => (((loopM (fun s : (Int × (List Int)) => m_impl_needMatrix_B11 a_0 a_1 a_2 v4 s.1 s.2) ((0 : Int), x7)) : Option (List Int)).bind fun x10 => ((appL 24 v5 [x10]).bind fun x33 => some (Sum.inl ((w64 (v4 + (1 : Int))), x33))))) else Option.map Sum.inr (some v5))
noncomputable def m_impl_needMatrix (a_0 : (List (List Int))) (a_1 : Int) (a_2 : (List Int)) : Option (List (List Int)) :=
  (((loopM (fun s : (Int × (List (List Int))) => m_impl_needMatrix_B3 a_0 a_1 a_2 s.1 s.2) ((0 : Int), ([] : (List (List Int))))) : Option (List (List Int))).bind fun x2 => some x2)

noncomputable def m_impl_NeedMatrix (ratios_0 : (List (List Int))) (target_1 : Int) (table_2 : (List Int)) : Option ((List (List Int)) × Int) :=
  ((((m_impl_tableOk table_2).bind fun x2 => (bif (!x2) then some true else ((m_impl_ratiosOk ratios_0).bind fun x4 => some (!x4)))) : Option Bool).bind fun x1 => (bif x1 then some (([] : (List (List Int))), (1 : Int)) else ((m_impl_ratioOk target_1).bind fun x7 => (bif (!x7) then some (([] : (List (List Int))), (2 : Int)) else ((m_impl_needMatrix ratios_0 target_1 table_2).bind fun x9 => some (x9, (0 : Int)))))))

noncomputable def m_laws_eqInt64S_B1 (a_0 : (List Int)) (b_1 : (List Int)) (v2 : Int) : Option (Int ⊕ Bool) :=
  (bif (decide (v2 < (a_0.length : Int))) then ((idx a_0 v2).bind fun x4 => ((idx b_1 v2).bind fun x5 => (bif (x4 != x5) then Option.map Sum.inr (some false) else some (Sum.inl (w64 (v2 + (1 : Int))))))) else Option.map Sum.inr (some true))
noncomputable def m_laws_eqInt64S (a_0 : (List Int)) (b_1 : (List Int)) : Option Bool :=
  (bif ((a_0.length : Int) != (b_1.length : Int)) then some false else (loopM (fun s : Int => m_laws_eqInt64S_B1 a_0 b_1 s) (0 : Int)))

noncomputable def m_laws_eqInt64SS_B1 (a_0 : (List (List Int))) (b_1 : (List (List Int))) (v2 : Int) : Option (Int ⊕ Bool) :=
  (bif (decide (v2 < (a_0.length : Int))) then ((idx a_0 v2).bind fun x4 => ((idx b_1 v2).bind fun x5 => ((m_laws_eqInt64S x4 x5).bind fun x6 => (bif (!x6) then Option.map Sum.inr (some false) else some (Sum.inl (w64 (v2 + (1 : Int)))))))) else Option.map Sum.inr (some true))
noncomputable def m_laws_eqInt64SS (a_0 : (List (List Int))) (b_1 : (List (List Int))) : Option Bool :=
  (bif ((a_0.length : Int) != (b_1.length : Int)) then some false else (loopM (fun s : Int => m_laws_eqInt64SS_B1 a_0 b_1 s) (0 : Int)))

noncomputable def m_laws_markInt64S_B3  (v4 : Int) (v5 : Int) (v6 : (List Int)) : Option ((Int × Int × (List Int)) ⊕ (Int × (List Int))) :=
  (bif (decide (v5 < (v6.length : Int))) then ((inB v6 v5).bind fun u8 => some (Sum.inl ((w64 (v4 + (1 : Int))), (w64 (v5 + (1 : Int))), (v6.set (v5).toNat v4)))) else Option.map Sum.inr (some (v4, v6)))
noncomputable def m_laws_markInt64S (a_0 : (List Int)) (k_1 : Int) : Option (Int × (List Int)) :=
  (((loopM (fun s : (Int × Int × (List Int)) => m_laws_markInt64S_B3  s.1 s.2.1 s.2.2) (k_1, (0 : Int), a_0)) : Option (Int × (List Int))).bind fun x2 => some (x2.1, x2.2))

noncomputable def m_laws_markInt64SS_B3  (v4 : Int) (v5 : Int) (v6 : (List (List Int))) : Option ((Int × Int × (List (List Int))) ⊕ (Int × (List (List Int)))) :=
  (bif (decide (v5 < (v6.length : Int))) then ((idx v6 v5).bind fun x8 => ((m_laws_markInt64S x8 v4).bind fun x10 => some (Sum.inl (x10.1, (w64 (v5 + (1 : Int))), (v6.set (v5).toNat x10.2))))) else Option.map Sum.inr (some (v4, v6)))
noncomputable def m_laws_markInt64SS (a_0 : (List (List Int))) (k_1 : Int) : Option (Int × (List (List Int))) :=
  (((loopM (fun s : (Int × Int × (List (List Int))) => m_laws_markInt64SS_B3  s.1 s.2.1 s.2.2) (k_1, (0 : Int), a_0)) : Option (Int × (List (List Int)))).bind fun x2 => some (x2.1, x2.2))

noncomputable def m_laws_heldInt64S_B1 (a_0 : (List Int)) (v2 : Int) (v3 : Int) : Option ((Int × Int) ⊕ Int) :=
  (bif (decide (v3 < (a_0.length : Int))) then ((idx a_0 v3).bind fun x5 => (bif (x5 != v2) then Option.map Sum.inr (some (-1 : Int)) else some (Sum.inl ((w64 (v2 + (1 : Int))), (w64 (v3 + (1 : Int))))))) else Option.map Sum.inr (some v2))
noncomputable def m_laws_heldInt64S (a_0 : (List Int)) (k_1 : Int) : Option Int :=
  (loopM (fun s : (Int × Int) => m_laws_heldInt64S_B1 a_0 s.1 s.2) (k_1, (0 : Int)))

noncomputable def m_laws_heldInt64SS_B1 (a_0 : (List (List Int))) (v2 : Int) (v3 : Int) : Option ((Int × Int) ⊕ Int) :=
  (bif (decide (v3 < (a_0.length : Int))) then ((idx a_0 v3).bind fun x5 => ((m_laws_heldInt64S x5 v2).bind fun x6 => (bif (decide (x6 < (0 : Int))) then Option.map Sum.inr (some (-1 : Int)) else some (Sum.inl (x6, (w64 (v3 + (1 : Int)))))))) else Option.map Sum.inr (some v2))
noncomputable def m_laws_heldInt64SS (a_0 : (List (List Int))) (k_1 : Int) : Option Int :=
  (loopM (fun s : (Int × Int) => m_laws_heldInt64SS_B1 a_0 s.1 s.2) (k_1, (0 : Int)))

noncomputable def m_laws_FnExactNeedMatrix (a_0 : (List (List Int))) (a_1 : Int) (a_2 : (List Int)) : Option Bool :=
  (bif (decide ((1048576 : Int) < (a_2.length : Int))) then some true else ((m_laws_szInt64SS a_0 (1048576 : Int)).bind fun x1 => (bif (decide (x1 < (0 : Int))) then some true else ((m_laws_toInt64SS a_0).bind fun x2 => ((m_laws_toInt64S a_2).bind fun x3 => ((m_spec_NeedMatrix x2 a_1 x3).bind fun x4 => ((m_laws_toInt64SS a_0).bind fun x5 => ((m_laws_toInt64S a_2).bind fun x8 => ((m_impl_NeedMatrix x5 a_1 x8).bind fun x11 => ((((m_laws_eqInt64SS x11.1 x4.1).bind fun x15 => (bif (!x15) then some true else some (x11.2 != x4.2))) : Option Bool).bind fun x14 => (bif x14 then some false else ((m_laws_toInt64SS a_0).bind fun x18 => ((m_laws_eqInt64SS x5 x18).bind fun x19 => (bif (!x19) then some false else ((m_laws_toInt64S a_2).bind fun x20 => ((m_laws_eqInt64S x8 x20).bind fun x21 => (bif (!x21) then some false else ((m_laws_markInt64SS x5 (1 : Int)).bind fun x22 => ((m_laws_markInt64S x8 x22.1).bind fun x24 => (((bif (decide (x24.1 < (0 : Int))) then some true else ((m_laws_eqInt64SS x11.1 x4.1).bind fun x28 => (bif (!x28) then some true else some (x11.2 != x4.2)))) : Option Bool).bind fun x26 => (bif x26 then some false else ((m_laws_markInt64SS x11.1 (1 : Int)).bind fun x31 => ((m_laws_heldInt64SS x31.2 (1 : Int)).bind fun x33 => (bif (decide (x33 < (0 : Int))) then some false else (bif (x33 != x31.1) then some false else ((m_laws_toInt64SS a_0).bind fun x34 => ((m_laws_toInt64S a_2).bind fun x35 => ((m_impl_NeedMatrix x34 a_1 x35).bind fun x36 => ((((m_laws_eqInt64SS x36.1 x4.1).bind fun x38 => (bif (!x38) then some true else some (x36.2 != x4.2))) : Option Bool).bind fun x37 => (bif x37 then some false else ((m_laws_heldInt64SS x31.2 (1 : Int)).bind fun x41 => (bif (decide (x41 < (0 : Int))) then some false else (bif (x41 != x31.1) then some false else some true)))))))))))))))))))))))))))))))))

noncomputable def m_spec_l02Level (v_0 : Int) : Option Bool :=
  ((m_spec_l00In v_0 (-300000 : Int) (300000 : Int)).bind fun x1 => some x1)

noncomputable def m_spec_l16Row_B1 (row_0 : (List Int)) (v2 : Int) : Option (Int ⊕ Bool) :=
  (bif (decide (v2 < (row_0.length : Int))) then ((idx row_0 v2).bind fun x4 => ((m_spec_l02Level x4).bind fun x5 => (bif (!x5) then Option.map Sum.inr (some false) else some (Sum.inl (w64 (v2 + (1 : Int))))))) else Option.map Sum.inr ((((bif (decide ((0 : Int) < (row_0.length : Int))) then some (decide ((row_0.length : Int) ≤ (24 : Int))) else some false) : Option Bool).bind fun x6 => some x6)))
noncomputable def m_spec_l16Row (row_0 : (List Int)) : Option Bool :=
  (loopM (fun s : Int => m_spec_l16Row_B1 row_0 s) (0 : Int))

noncomputable def m_spec_l16Rows_B1 (rows_0 : (List (List Int))) (v2 : Int) : Option (Int ⊕ Bool) :=
  (bif (decide (v2 < (rows_0.length : Int))) then ((((idx rows_0 v2).bind fun x5 => ((m_spec_l16Row x5).bind fun x6 => (bif (!x6) then some true else ((idx rows_0 v2).bind fun x8 => ((idx rows_0 (0 : Int)).bind fun x9 => some ((x8.length : Int) != (x9.length : Int))))))) : Option Bool).bind fun x4 => (bif x4 then Option.map Sum.inr (some false) else some (Sum.inl (w64 (v2 + (1 : Int)))))) else Option.map Sum.inr ((((bif (decide ((0 : Int) < (rows_0.length : Int))) then some (decide ((rows_0.length : Int) ≤ (32 : Int))) else some false) : Option Bool).bind fun x11 => some x11)))
noncomputable def m_spec_l16Rows (rows_0 : (List (List Int))) : Option Bool :=
  (loopM (fun s : Int => m_spec_l16Rows_B1 rows_0 s) (0 : Int))

noncomputable def m_spec_l00Rises_B1 (list_0 : (List Int)) (low_1 : Int) (high_2 : Int) (v2 : Int) : Option (Int ⊕ Bool) :=
  (bif (decide (v2 < (list_0.length : Int))) then ((((idx list_0 v2).bind fun x5 => ((m_spec_l00In x5 low_1 high_2).bind fun x6 => (bif (!x6) then some true else (bif (decide ((0 : Int) < v2)) then ((idx list_0 (w64 (v2 - (1 : Int)))).bind fun x9 => ((idx list_0 v2).bind fun x10 => some (decide (x10 ≤ x9)))) else some false)))) : Option Bool).bind fun x4 => (bif x4 then Option.map Sum.inr (some false) else some (Sum.inl (w64 (v2 + (1 : Int)))))) else Option.map Sum.inr (some true))
noncomputable def m_spec_l00Rises (list_0 : (List Int)) (low_1 : Int) (high_2 : Int) : Option Bool :=
  (loopM (fun s : Int => m_spec_l00Rises_B1 list_0 low_1 high_2 s) (0 : Int))

noncomputable def m_spec_l17Domain (list_0 : (List Int)) : Option Bool :=
  (((bif (decide ((0 : Int) < (list_0.length : Int))) then (bif (decide ((list_0.length : Int) ≤ (32 : Int))) then ((m_spec_l00Rises list_0 (0 : Int) (999 : Int)).bind fun x4 => some x4) else some false) else some false) : Option Bool).bind fun x1 => some x1)

noncomputable def m_spec_l00Own (list_0 : (List Int)) : Option (List Int) :=
  ((appL 8 ([] : (List Int)) list_0).bind fun x3 => some x3)

noncomputable def m_spec_l17OwnLists_B4 (a_0 : (List (List Int))) (v5 : Int) (v6 : (List (List Int))) : Option ((Int × (List (List Int))) ⊕ (List (List Int))) :=
  (bif (decide (v5 < (a_0.length : Int))) then ((idx a_0 v5).bind fun x8 => ((m_spec_l00Own x8).bind fun x9 => ((appL 24 v6 [x9]).bind fun x14 => some (Sum.inl ((w64 (v5 + (1 : Int))), x14))))) else Option.map Sum.inr (some v6))
noncomputable def m_spec_l17OwnLists (a_0 : (List (List Int))) : Option (List (List Int)) :=
  (((loopM (fun s : (Int × (List (List Int))) => m_spec_l17OwnLists_B4 a_0 s.1 s.2) ((0 : Int), ([] : (List (List Int))))) : Option (List (List Int))).bind fun x3 => some x3)

noncomputable def m_spec_l16Server_B2 (row_0 : (List Int)) (v3 : Int) (v4 : Int) : Option ((Int × Int) ⊕ Int) :=
  (bif (decide (v4 < (row_0.length : Int))) then ((idx row_0 v4).bind fun x6 => ((idx row_0 v3).bind fun x7 => (((bif (decide (x7 < x6)) then some v4 else some v3) : Option Int).bind fun x8 => some (Sum.inl (x8, (w64 (v4 + (1 : Int)))))))) else Option.map Sum.inr (some v3))
noncomputable def m_spec_l16Server (row_0 : (List Int)) : Option Int :=
  (((loopM (fun s : (Int × Int) => m_spec_l16Server_B2 row_0 s.1 s.2) ((0 : Int), (1 : Int))) : Option Int).bind fun x1 => some x1)

noncomputable def m_spec_l16Pairs_B17 (a_0 : (List (List Int))) (v6 : Int) (v13 : Int) (v18 : Int) (v19 : Int) : Option ((Int × Int) ⊕ Int) :=
  (((bif (decide (v19 < (a_0.length : Int))) then some (v6 != v13) else some false) : Option Bool).bind fun x21 => (bif x21 then ((idx a_0 v19).bind fun x24 => ((m_spec_l16Server x24).bind fun x25 => (((bif (x25 == v6) then ((idx a_0 v19).bind fun x27 => ((idx x27 v6).bind fun x28 => ((idx a_0 v19).bind fun x29 => ((idx x29 v13).bind fun x30 => ((m_spec_l00Min v18 (w64 (x28 - x30))).bind fun x31 => some x31))))) else some v18) : Option Int).bind fun x26 => some (Sum.inl (x26, (w64 (v19 + (1 : Int)))))))) else Option.map Sum.inr (some v18)))
noncomputable def m_spec_l16Pairs_B12 (a_0 : (List (List Int))) (x1 : (List Int)) (v6 : Int) (v13 : Int) (v14 : (List Int)) : Option ((Int × (List Int)) ⊕ (List Int)) :=
  (bif (decide (v13 < (x1.length : Int))) then (((loopM (fun s : (Int × Int) => m_spec_l16Pairs_B17 a_0 v6 v13 s.1 s.2) ((200000 : Int), (0 : Int))) : Option Int).bind fun x16 => ((appL 8 v14 ([x16] : (List Int))).bind fun x34 => some (Sum.inl ((w64 (v13 + (1 : Int))), x34)))) else Option.map Sum.inr (some v14))
noncomputable def m_spec_l16Pairs_B5 (a_0 : (List (List Int))) (x1 : (List Int)) (v6 : Int) (v7 : (List (List Int))) : Option ((Int × (List (List Int))) ⊕ (List (List Int))) :=
  (bif (decide (v6 < (x1.length : Int))) then (((loopM (fun s : (Int × (List Int)) => m_spec_l16Pairs_B12 a_0 x1 v6 s.1 s.2) ((0 : Int), ([] : (List Int)))) : Option (List Int)).bind fun x11 => ((appL 24 v7 [x11]).bind fun x39 => some (Sum.inl ((w64 (v6 + (1 : Int))), x39)))) else Option.map Sum.inr (some v7))
noncomputable def m_spec_l16Pairs (a_0 : (List (List Int))) : Option (List (List Int)) :=
  ((idx a_0 (0 : Int)).bind fun x1 => (((loopM (fun s : (Int × (List (List Int))) => m_spec_l16Pairs_B5 a_0 x1 s.1 s.2) ((0 : Int), ([] : (List (List Int))))) : Option (List (List Int))).bind fun x4 => some x4))

noncomputable def m_spec_ProblemOf_B10 (rows_0 : (List (List Int))) (target_1 : Int) (table_2 : (List Int)) (domains_3 : (List (List Int))) (v11 : Int) : Option (Int ⊕ (GProblem × Int)) :=
  (bif (decide (v11 < (domains_3.length : Int))) then ((idx domains_3 v11).bind fun x13 => ((m_spec_l17Domain x13).bind fun x14 => (bif (!x14) then Option.map Sum.inr (some ((GProblem.mk ([] : (List (List Int))) ([] : (List (List Int)))), (1 : Int))) else some (Sum.inl (w64 (v11 + (1 : Int))))))) else Option.map Sum.inr (((m_spec_l00In target_1 (-200000 : Int) (200000 : Int)).bind fun x18 => (bif (!x18) then some ((GProblem.mk ([] : (List (List Int))) ([] : (List (List Int)))), (2 : Int)) else ((idx rows_0 (0 : Int)).bind fun x22 => (bif ((domains_3.length : Int) != (x22.length : Int)) then some ((GProblem.mk ([] : (List (List Int))) ([] : (List (List Int)))), (6 : Int)) else ((m_spec_l17OwnLists domains_3).bind fun x26 => ((m_spec_l16Pairs rows_0).bind fun x29 => ((m_spec_l16Need x29 target_1 table_2).bind fun x30 => some ((GProblem.mk x26 x30), (0 : Int)))))))))))
noncomputable def m_spec_ProblemOf (rows_0 : (List (List Int))) (target_1 : Int) (table_2 : (List Int)) (domains_3 : (List (List Int))) : Option (GProblem × Int) :=
  ((((m_spec_l16Rows rows_0).bind fun x3 => (bif (!x3) then some true else ((m_spec_l08Table table_2).bind fun x5 => some (!x5)))) : Option Bool).bind fun x2 => (bif x2 then some ((GProblem.mk ([] : (List (List Int))) ([] : (List (List Int)))), (1 : Int)) else (loopM (fun s : Int => m_spec_ProblemOf_B10 rows_0 target_1 table_2 domains_3 s) (0 : Int))))

noncomputable def m_impl_rowOk (row_0 : (List Int)) : Option Bool :=
  (((bif (decide ((1 : Int) ≤ (row_0.length : Int))) then (bif (decide ((row_0.length : Int) ≤ (24 : Int))) then ((m_impl_allWithin row_0 (-300000 : Int) (300000 : Int)).bind fun x4 => some x4) else some false) else some false) : Option Bool).bind fun x1 => some x1)

noncomputable def m_impl_ValidRows_1 (row_0 : (List Int)) (a_1 : (List (List Int))) : Option Bool :=
  ((((m_impl_rowOk row_0).bind fun x2 => (bif (!x2) then some true else ((idx a_1 (0 : Int)).bind fun x4 => some ((row_0.length : Int) != (x4.length : Int))))) : Option Bool).bind fun x1 => some x1)

noncomputable def m_impl_ValidRows (rows_0 : (List (List Int))) : Option Bool :=
  (((bif (decide ((rows_0.length : Int) < (1 : Int))) then some true else some (decide ((32 : Int) < (rows_0.length : Int)))) : Option Bool).bind fun x1 => (bif x1 then some false else ((m_slices_ContainsFunc_SSint64_int64 rows_0 (fun x => m_impl_ValidRows_1 x rows_0)).bind fun x4 => some (!x4))))

noncomputable def m_impl_increasing_B1 (list_0 : (List Int)) (v2 : Int) : Option (Int ⊕ Bool) :=
  (bif (decide (v2 < (list_0.length : Int))) then ((idx list_0 v2).bind fun x4 => ((idx list_0 (w64 (v2 - (1 : Int)))).bind fun x5 => (bif (decide (x4 ≤ x5)) then Option.map Sum.inr (some false) else some (Sum.inl (w64 (v2 + (1 : Int))))))) else Option.map Sum.inr (some true))
noncomputable def m_impl_increasing (list_0 : (List Int)) : Option Bool :=
  (loopM (fun s : Int => m_impl_increasing_B1 list_0 s) (1 : Int))

noncomputable def m_impl_domainOk (domain_0 : (List Int)) : Option Bool :=
  (((bif (decide ((1 : Int) ≤ (domain_0.length : Int))) then (bif (decide ((domain_0.length : Int) ≤ (32 : Int))) then ((m_impl_increasing domain_0).bind fun x4 => (bif x4 then ((m_impl_allWithin domain_0 (0 : Int) (999 : Int)).bind fun x6 => some x6) else some false)) else some false) else some false) : Option Bool).bind fun x1 => some x1)

noncomputable def m_impl_ProblemOf_1 (d_0 : (List Int)) : Option Bool :=
  ((m_impl_domainOk d_0).bind fun x1 => some (!x1))

noncomputable def m_slices_Clone_int64_int64 (s_0 : (List Int)) : Option (List Int) :=
  ((appL 8 ([] : (List Int)) s_0).bind fun x4 => some x4)

noncomputable def m_impl_cloneLists_B3 (lists_0 : (List (List Int))) (v4 : Int) (v5 : (List (List Int))) : Option ((Int × (List (List Int))) ⊕ (List (List Int))) :=
  (bif (decide (v4 < (lists_0.length : Int))) then ((idx lists_0 v4).bind fun x7 => ((m_slices_Clone_int64_int64 x7).bind fun x8 => ((appL 24 v5 [x8]).bind fun x13 => some (Sum.inl ((w64 (v4 + (1 : Int))), x13))))) else Option.map Sum.inr (some v5))
noncomputable def m_impl_cloneLists (lists_0 : (List (List Int))) : Option (List (List Int)) :=
  (((loopM (fun s : (Int × (List (List Int))) => m_impl_cloneLists_B3 lists_0 s.1 s.2) ((0 : Int), ([] : (List (List Int))))) : Option (List (List Int))).bind fun x2 => some x2)

noncomputable def m_math_bits_Mul64 (x_0 : Int) (y_1 : Int) : Option (Int × Int) :=
  ((bitOp .and .u64 x_0 (4294967295 : Int)).bind fun x1 => ((bitOp .shr .u64 x_0 (32 : Int)).bind fun x2 => ((bitOp .and .u64 y_1 (4294967295 : Int)).bind fun x3 => ((bitOp .shr .u64 y_1 (32 : Int)).bind fun x4 => ((bitOp .shr .u64 (IntKind.wrap .u64 (x1 * x3)) (32 : Int)).bind fun x5 => ((bitOp .and .u64 (IntKind.wrap .u64 ((IntKind.wrap .u64 (x2 * x3)) + x5)) (4294967295 : Int)).bind fun x6 => ((bitOp .shr .u64 (IntKind.wrap .u64 ((IntKind.wrap .u64 (x2 * x3)) + x5)) (32 : Int)).bind fun x7 => ((bitOp .shr .u64 (IntKind.wrap .u64 (x6 + (IntKind.wrap .u64 (x1 * x4)))) (32 : Int)).bind fun x8 => some ((IntKind.wrap .u64 ((IntKind.wrap .u64 ((IntKind.wrap .u64 (x2 * x4)) + x7)) + x8)), (IntKind.wrap .u64 (x_0 * y_1)))))))))))

noncomputable def m_math_bits_Mul (x_0 : Int) (y_1 : Int) : Option (Int × Int) :=
  ((m_math_bits_Mul64 x_0 y_1).bind fun x1 => some (x1.1, x1.2))

noncomputable def m_slices_Repeat_int64_int64_B14  (v15 : Int) (v16 : (List Int)) : Option ((Int × (List Int)) ⊕ (List Int)) :=
  (bif (decide (v15 < (v16.length : Int))) then ((cutB v16 v15).bind fun u18 => ((cutB v16 v15).bind fun u19 => some (Sum.inl ((w64 (v15 + ((min (v16.take (v15).toNat).length (v16.length - (v15).toNat) : Nat) : Int))), (over v16 (v15).toNat ((v16.take (v15).toNat).take (v16.length - (v15).toNat))))))) else Option.map Sum.inr (some v16))
noncomputable def m_slices_Repeat_int64_int64 (x_0 : (List Int)) (count_1 : Int) : Option (List Int) :=
  (((bif (decide (count_1 < (0 : Int))) then (none : Option Unit) else some ()) : Option Unit).bind fun x1 => ((m_math_bits_Mul (IntKind.wrap .u64 ((x_0.length : Int))) (IntKind.wrap .u64 (count_1))).bind fun x3 => (((bif (decide ((0 : Int) < x3.1)) then some true else some (decide ((9223372036854775807 : Int) < x3.2))) : Option Bool).bind fun x4 => (((bif x4 then (none : Option Unit) else some ()) : Option Unit).bind fun x7 => ((mkL 8 (w64 (x3.2)) (0 : Int)).bind fun x9 => (((loopM (fun s : (Int × (List Int)) => m_slices_Repeat_int64_int64_B14  s.1 s.2) (((min x_0.length (x9.length - 0) : Nat) : Int), (over x9 0 (x_0.take (x9.length - 0))))) : Option (List Int)).bind fun x13 => some x13))))))

noncomputable def m_slices_Max_int64_int64_B5 (x_0 : (List Int)) (v6 : Int) (v7 : Int) : Option ((Int × Int) ⊕ Int) :=
  (bif (decide (v7 < (x_0.length : Int))) then ((idx x_0 v7).bind fun x9 => some (Sum.inl ((if x9 > v6 then x9 else v6), (w64 (v7 + (1 : Int)))))) else Option.map Sum.inr (some v6))
noncomputable def m_slices_Max_int64_int64 (x_0 : (List Int)) : Option Int :=
  (((bif (decide ((x_0.length : Int) < (1 : Int))) then (none : Option Unit) else some ()) : Option Unit).bind fun x1 => ((idx x_0 (0 : Int)).bind fun x3 => (((loopM (fun s : (Int × Int) => m_slices_Max_int64_int64_B5 x_0 s.1 s.2) (x3, (1 : Int))) : Option Int).bind fun x4 => some x4)))

noncomputable def m_slices_Index_int64_int64_B1 (s_0 : (List Int)) (v_1 : Int) (v2 : Int) : Option (Int ⊕ Int) :=
  (bif (decide (v2 < (s_0.length : Int))) then ((idx s_0 v2).bind fun x4 => (bif (v_1 == x4) then Option.map Sum.inr (some v2) else some (Sum.inl (w64 (v2 + (1 : Int)))))) else Option.map Sum.inr (some (-1 : Int)))
noncomputable def m_slices_Index_int64_int64 (s_0 : (List Int)) (v_1 : Int) : Option Int :=
  (loopM (fun s : Int => m_slices_Index_int64_int64_B1 s_0 v_1 s) (0 : Int))

noncomputable def m_impl_serverOf (row_0 : (List Int)) : Option Int :=
  ((m_slices_Max_int64_int64 row_0).bind fun x1 => ((m_slices_Index_int64_int64 row_0 x1).bind fun x2 => some x2))

noncomputable def m_impl_pairRatios_B4 (a_0 : (List (List Int))) (x1 : (List Int)) (v5 : Int) (v6 : (List (List Int))) : Option ((Int × (List (List Int))) ⊕ (List (List Int))) :=
  (bif (decide (v5 < (x1.length : Int))) then ((idx a_0 (0 : Int)).bind fun x8 => ((m_slices_Repeat_int64_int64 ([(200000 : Int)] : (List Int)) (x8.length : Int)).bind fun x9 => ((appL 24 v6 [x9]).bind fun x14 => some (Sum.inl ((w64 (v5 + (1 : Int))), x14))))) else Option.map Sum.inr (some v6))
noncomputable def m_impl_pairRatios_B25 (x22 : (List Int)) (x23 : Int) (v26 : Int) (v27 : (List (List Int))) : Option ((Int × (List (List Int))) ⊕ (List (List Int))) :=
  (bif (decide (v26 < (x22.length : Int))) then ((idx x22 v26).bind fun x29 => (((bif (v26 != x23) then ((idx v27 x23).bind fun x31 => ((idx v27 x23).bind fun x32 => ((idx x32 v26).bind fun x33 => ((idx x22 x23).bind fun x34 => ((inB x31 v26).bind fun u35 => some (v27.set (x23).toNat (x31.set (v26).toNat (if (w64 (x34 - x29)) < x33 then (w64 (x34 - x29)) else x33)))))))) else some v27) : Option (List (List Int))).bind fun x30 => some (Sum.inl ((w64 (v26 + (1 : Int))), x30)))) else Option.map Sum.inr (some v27))
noncomputable def m_impl_pairRatios_B18 (a_0 : (List (List Int))) (v19 : Int) (v20 : (List (List Int))) : Option ((Int × (List (List Int))) ⊕ (List (List Int))) :=
  (bif (decide (v19 < (a_0.length : Int))) then ((idx a_0 v19).bind fun x22 => ((m_impl_serverOf x22).bind fun x23 => (((loopM (fun s : (Int × (List (List Int))) => m_impl_pairRatios_B25 x22 x23 s.1 s.2) ((0 : Int), v20)) : Option (List (List Int))).bind fun x24 => some (Sum.inl ((w64 (v19 + (1 : Int))), x24))))) else Option.map Sum.inr (some v20))
noncomputable def m_impl_pairRatios (a_0 : (List (List Int))) : Option (List (List Int)) :=
  ((idx a_0 (0 : Int)).bind fun x1 => (((loopM (fun s : (Int × (List (List Int))) => m_impl_pairRatios_B4 a_0 x1 s.1 s.2) ((0 : Int), ([] : (List (List Int))))) : Option (List (List Int))).bind fun x3 => (((loopM (fun s : (Int × (List (List Int))) => m_impl_pairRatios_B18 a_0 s.1 s.2) ((0 : Int), x3)) : Option (List (List Int))).bind fun x17 => some x17)))

noncomputable def m_impl_ProblemOf (rows_0 : (List (List Int))) (target_1 : Int) (table_2 : (List Int)) (domains_3 : (List (List Int))) : Option (GProblem × Int) :=
  ((((m_impl_ValidRows rows_0).bind fun x3 => (bif (!x3) then some true else ((m_impl_tableOk table_2).bind fun x5 => (bif (!x5) then some true else ((m_slices_ContainsFunc_SSint64_int64 domains_3 (fun x => m_impl_ProblemOf_1 x)).bind fun x7 => some x7))))) : Option Bool).bind fun x2 => (bif x2 then some ((GProblem.mk ([] : (List (List Int))) ([] : (List (List Int)))), (1 : Int)) else ((m_impl_ratioOk target_1).bind fun x12 => (bif (!x12) then some ((GProblem.mk ([] : (List (List Int))) ([] : (List (List Int)))), (2 : Int)) else ((idx rows_0 (0 : Int)).bind fun x16 => (bif ((domains_3.length : Int) != (x16.length : Int)) then some ((GProblem.mk ([] : (List (List Int))) ([] : (List (List Int)))), (6 : Int)) else ((m_impl_cloneLists domains_3).bind fun x20 => ((m_impl_pairRatios rows_0).bind fun x23 => ((m_impl_needMatrix x23 target_1 table_2).bind fun x24 => some ((GProblem.mk x20 x24), (0 : Int)))))))))))

noncomputable def m_laws_eqProblem (a_0 : GProblem) (b_1 : GProblem) : Option Bool :=
  ((m_laws_eqInt64SS a_0.Domains b_1.Domains).bind fun x1 => (bif (!x1) then some false else ((m_laws_eqInt64SS a_0.Apart b_1.Apart).bind fun x2 => (bif (!x2) then some false else some true))))

noncomputable def m_laws_markProblem (a_0 : GProblem) (k_1 : Int) : Option (Int × (List (List Int)) × (List (List Int))) :=
  ((m_laws_markInt64SS a_0.Domains k_1).bind fun x4 => ((m_laws_markInt64SS a_0.Apart x4.1).bind fun x6 => some (x6.1, x4.2, x6.2)))

noncomputable def m_laws_heldProblem (a_0 : GProblem) (k_1 : Int) : Option Int :=
  ((m_laws_heldInt64SS a_0.Domains k_1).bind fun x1 => (bif (decide (x1 < (0 : Int))) then some (-1 : Int) else ((m_laws_heldInt64SS a_0.Apart x1).bind fun x2 => (bif (decide (x2 < (0 : Int))) then some (-1 : Int) else some x2))))

noncomputable def m_laws_FnExactProblemOf (a_0 : (List (List Int))) (a_1 : Int) (a_2 : (List Int)) (a_3 : (List (List Int))) : Option Bool :=
  (bif (decide ((1048576 : Int) < (a_2.length : Int))) then some true else ((m_laws_szInt64SS a_0 (1048576 : Int)).bind fun x1 => (bif (decide (x1 < (0 : Int))) then some true else ((m_laws_szInt64SS a_3 x1).bind fun x2 => (bif (decide (x2 < (0 : Int))) then some true else ((m_laws_toInt64SS a_0).bind fun x3 => ((m_laws_toInt64S a_2).bind fun x4 => ((m_laws_toInt64SS a_3).bind fun x5 => ((m_spec_ProblemOf x3 a_1 x4 x5).bind fun x6 => ((m_laws_toInt64SS a_0).bind fun x9 => ((m_laws_toInt64S a_2).bind fun x12 => ((m_laws_toInt64SS a_3).bind fun x15 => ((m_impl_ProblemOf x9 a_1 x12 x15).bind fun x18 => ((((m_laws_eqProblem x18.1 x6.1).bind fun x25 => (bif (!x25) then some true else some (x18.2 != x6.2))) : Option Bool).bind fun x24 => (bif x24 then some false else ((m_laws_toInt64SS a_0).bind fun x28 => ((m_laws_eqInt64SS x9 x28).bind fun x29 => (bif (!x29) then some false else ((m_laws_toInt64S a_2).bind fun x30 => ((m_laws_eqInt64S x12 x30).bind fun x31 => (bif (!x31) then some false else ((m_laws_toInt64SS a_3).bind fun x32 => ((m_laws_eqInt64SS x15 x32).bind fun x33 => (bif (!x33) then some false else ((m_laws_markInt64SS x9 (1 : Int)).bind fun x34 => ((m_laws_markInt64S x12 x34.1).bind fun x36 => ((m_laws_markInt64SS x15 x36.1).bind fun x38 => (((bif (decide (x38.1 < (0 : Int))) then some true else ((m_laws_eqProblem x18.1 x6.1).bind fun x42 => (bif (!x42) then some true else some (x18.2 != x6.2)))) : Option Bool).bind fun x40 => (bif x40 then some false else ((m_laws_markProblem x18.1 (1 : Int)).bind fun x45 => ((m_laws_heldProblem (GProblem.mk x45.2.1 x45.2.2) (1 : Int)).bind fun x47 => (bif (decide (x47 < (0 : Int))) then some false else (bif (x47 != x45.1) then some false else ((m_laws_toInt64SS a_0).bind fun x48 => ((m_laws_toInt64S a_2).bind fun x49 => ((m_laws_toInt64SS a_3).bind fun x50 => ((m_impl_ProblemOf x48 a_1 x49 x50).bind fun x51 => ((((m_laws_eqProblem x51.1 x6.1).bind fun x55 => (bif (!x55) then some true else some (x51.2 != x6.2))) : Option Bool).bind fun x54 => (bif x54 then some false else ((m_laws_heldProblem (GProblem.mk x45.2.1 x45.2.2) (1 : Int)).bind fun x58 => (bif (decide (x58 < (0 : Int))) then some false else (bif (x58 != x45.1) then some false else some true))))))))))))))))))))))))))))))))))))))))))

noncomputable def m_laws_szMask (a_0 : GMask) (left_1 : Int) : Option Int :=
  ((m_laws_szInt64S a_0.Offsets left_1).bind fun x1 => (bif (decide (x1 < (0 : Int))) then some (-1 : Int) else ((m_laws_szInt64S a_0.Losses x1).bind fun x2 => (bif (decide (x2 < (0 : Int))) then some (-1 : Int) else some x2))))

noncomputable def m_laws_toMask (a_0 : GMask) : Option GMask :=
  ((m_laws_toInt64S a_0.Offsets).bind fun x3 => ((m_laws_toInt64S a_0.Losses).bind fun x7 => some (GMask.mk x3 x7)))

noncomputable def m_spec_l08Ok_B11 (a_0 : GMask) (v12 : Int) : Option (Int ⊕ Bool) :=
  (bif (decide (v12 < (a_0.Offsets.length : Int))) then ((((idx a_0.Losses v12).bind fun x15 => ((m_spec_l00In x15 (0 : Int) (120000 : Int)).bind fun x16 => (bif (!x16) then some true else (bif (decide ((0 : Int) < v12)) then ((idx a_0.Losses (w64 (v12 - (1 : Int)))).bind fun x19 => ((idx a_0.Losses v12).bind fun x20 => some (decide (x20 < x19)))) else some false)))) : Option Bool).bind fun x14 => (bif x14 then Option.map Sum.inr (some false) else some (Sum.inl (w64 (v12 + (1 : Int)))))) else Option.map Sum.inr (some true))
noncomputable def m_spec_l08Ok (a_0 : GMask) : Option Bool :=
  (((bif (decide ((a_0.Offsets.length : Int) < (2 : Int))) then some true else (bif (decide ((12 : Int) < (a_0.Offsets.length : Int))) then some true else (bif ((a_0.Losses.length : Int) != (a_0.Offsets.length : Int)) then some true else ((idx a_0.Offsets (0 : Int)).bind fun x5 => (bif (x5 != (0 : Int)) then some true else ((idx a_0.Losses (0 : Int)).bind fun x7 => (bif (x7 != (0 : Int)) then some true else ((m_spec_l00Rises a_0.Offsets (0 : Int) (100000 : Int)).bind fun x9 => some (!x9))))))))) : Option Bool).bind fun x1 => (bif x1 then some false else (loopM (fun s : Int => m_spec_l08Ok_B11 a_0 s) (0 : Int))))

noncomputable def m_spec_l01Div (a_0 : Int) (b_1 : Int) : Option Int :=
  (((bif (decide (b_1 < (0 : Int))) then some ((w64 (0 - a_0)), (w64 (0 - b_1))) else some (a_0, b_1)) : Option (Int × Int)).bind fun x1 => (bif (decide (x1.1 < (0 : Int))) then ((qdiv .i64 (w64 (x1.2 - (w64 ((2 : Int) * x1.1)))) (w64 ((2 : Int) * x1.2))).bind fun x3 => some (w64 (0 - x3))) else ((qdiv .i64 (w64 ((w64 ((2 : Int) * x1.1)) + x1.2)) (w64 ((2 : Int) * x1.2))).bind fun x4 => some x4)))

noncomputable def m_spec_l01Line (x0_0 : Int) (y0_1 : Int) (x1_2 : Int) (y1_3 : Int) (x_4 : Int) : Option Int :=
  (((bif (decide (x_4 ≤ x0_0)) then some true else some (decide (x1_2 ≤ x0_0))) : Option Bool).bind fun x1 => (bif x1 then some y0_1 else (bif (decide (x1_2 ≤ x_4)) then some y1_3 else ((m_spec_l01Div (w64 ((w64 (y1_3 - y0_1)) * (w64 (x_4 - x0_0)))) (w64 (x1_2 - x0_0))).bind fun x4 => some (w64 (y0_1 + x4))))))

noncomputable def m_spec_l08Loss_B3 (a_0 : GMask) (x1 : Int) (v4 : Int) : Option (Int ⊕ Int) :=
  (bif (decide (v4 < (a_0.Offsets.length : Int))) then ((idx a_0.Offsets v4).bind fun x6 => (bif (decide (x1 ≤ x6)) then ((idx a_0.Offsets (w64 (v4 - (1 : Int)))).bind fun x7 => ((idx a_0.Losses (w64 (v4 - (1 : Int)))).bind fun x8 => ((idx a_0.Offsets v4).bind fun x9 => ((idx a_0.Losses v4).bind fun x10 => ((m_spec_l01Line x7 x8 x9 x10 x1).bind fun x11 => Option.map Sum.inr (some x11)))))) else some (Sum.inl (w64 (v4 + (1 : Int)))))) else Option.map Sum.inr (((idx a_0.Losses (w64 ((a_0.Losses.length : Int) - (1 : Int)))).bind fun x12 => some x12)))
noncomputable def m_spec_l08Loss (a_0 : GMask) (a_1 : Int) : Option Int :=
  (((bif (decide (a_1 < (0 : Int))) then some (w64 (0 - a_1)) else some a_1) : Option Int).bind fun x1 => (loopM (fun s : Int => m_spec_l08Loss_B3 a_0 x1 s) (1 : Int)))

noncomputable def m_spec_WidthAt_B6 (m_0 : GMask) (loss_1 : Int) (v7 : Int) (v8 : Int) : Option ((Int × Int) ⊕ Int) :=
  (bif (decide ((1 : Int) < (w64 (v8 - v7)))) then ((m_spec_l08Loss m_0 (w64 ((w64 (v7 + v8)).tdiv (2 : Int)))).bind fun x10 => (((bif (decide (x10 ≤ loss_1)) then some ((w64 ((w64 (v7 + v8)).tdiv (2 : Int))), v8) else some (v7, (w64 ((w64 (v7 + v8)).tdiv (2 : Int))))) : Option (Int × Int)).bind fun x11 => some (Sum.inl (x11.1, x11.2)))) else Option.map Sum.inr (some v7))
noncomputable def m_spec_WidthAt (m_0 : GMask) (loss_1 : Int) : Option (Int × Int) :=
  ((m_spec_l08Ok m_0).bind fun x1 => (bif (!x1) then some ((0 : Int), (1 : Int)) else ((m_spec_l00In loss_1 (0 : Int) (120000 : Int)).bind fun x2 => (bif (!x2) then some ((0 : Int), (2 : Int)) else ((idx m_0.Offsets (w64 ((m_0.Offsets.length : Int) - (1 : Int)))).bind fun x3 => ((m_spec_l08Loss m_0 x3).bind fun x4 => (bif (decide (x4 ≤ loss_1)) then some ((0 : Int), (3 : Int)) else (((loopM (fun s : (Int × Int) => m_spec_WidthAt_B6 m_0 loss_1 s.1 s.2) ((0 : Int), x3)) : Option Int).bind fun x5 => some ((w64 ((2 : Int) * x5)), (0 : Int))))))))))

noncomputable def m_impl_ValidMask (m_0 : GMask) : Option Bool :=
  (((bif (decide ((m_0.Offsets.length : Int) < (2 : Int))) then some true else (bif (decide ((12 : Int) < (m_0.Offsets.length : Int))) then some true else (bif ((m_0.Losses.length : Int) != (m_0.Offsets.length : Int)) then some true else ((idx m_0.Offsets (0 : Int)).bind fun x5 => (bif (x5 != (0 : Int)) then some true else ((idx m_0.Losses (0 : Int)).bind fun x7 => some (x7 != (0 : Int)))))))) : Option Bool).bind fun x1 => (bif x1 then some false else ((((m_impl_increasing m_0.Offsets).bind fun x10 => (bif x10 then ((idx m_0.Offsets (w64 ((m_0.Offsets.length : Int) - (1 : Int)))).bind fun x12 => (bif (decide (x12 ≤ (100000 : Int))) then ((m_slices_IsSorted_int64_int64 m_0.Losses).bind fun x14 => (bif x14 then ((idx m_0.Losses (w64 ((m_0.Offsets.length : Int) - (1 : Int)))).bind fun x16 => some (decide (x16 ≤ (120000 : Int)))) else some false)) else some false)) else some false)) : Option Bool).bind fun x9 => some x9)))

noncomputable def m_impl_Mask_end (m_0 : GMask) : Option Int :=
  ((idx m_0.Offsets (w64 ((m_0.Offsets.length : Int) - (1 : Int)))).bind fun x1 => some x1)

noncomputable def m_impl_abs (n_0 : Int) : Option Int :=
  some (if (w64 (0 - n_0)) > n_0 then (w64 (0 - n_0)) else n_0)

noncomputable def m_impl_divRound (a_0 : Int) (b_1 : Int) : Option Int :=
  ((qdiv .i64 a_0 b_1).bind fun x1 => ((rdiv a_0 b_1).bind fun x2 => ((m_impl_abs x2).bind fun x3 => ((m_impl_abs b_1).bind fun x4 => (bif (decide ((w64 (x4 - x3)) ≤ x3)) then (bif ((decide (a_0 < (0 : Int))) == (decide (b_1 < (0 : Int)))) then some (w64 (x1 + (1 : Int))) else some (w64 (x1 - (1 : Int)))) else some x1)))))

noncomputable def m_impl_blend (x0_0 : Int) (y0_1 : Int) (x1_2 : Int) (y1_3 : Int) (x_4 : Int) : Option Int :=
  (((bif (decide (x_4 ≤ x0_0)) then some true else some (decide (x1_2 ≤ x0_0))) : Option Bool).bind fun x1 => (bif x1 then some y0_1 else (bif (decide (x1_2 ≤ x_4)) then some y1_3 else ((m_impl_divRound (w64 ((w64 (y1_3 - y0_1)) * (w64 (x_4 - x0_0)))) (w64 (x1_2 - x0_0))).bind fun x4 => some (w64 (y0_1 + x4))))))

noncomputable def m_impl_Mask_loss_B3 (m_0 : GMask) (x1 : Int) (v4 : Int) : Option (Int ⊕ Int) :=
  (((bif (decide (v4 < (w64 ((m_0.Offsets.length : Int) - (1 : Int))))) then ((idx m_0.Offsets v4).bind fun x8 => some (decide (x8 < x1))) else some false) : Option Bool).bind fun x6 => (bif x6 then some (Sum.inl (w64 (v4 + (1 : Int)))) else Option.map Sum.inr (some v4)))
noncomputable def m_impl_Mask_loss (m_0 : GMask) (offset_1 : Int) : Option Int :=
  ((m_impl_abs offset_1).bind fun x1 => (((loopM (fun s : Int => m_impl_Mask_loss_B3 m_0 x1 s) (1 : Int)) : Option Int).bind fun x2 => ((idx m_0.Offsets (w64 (x2 - (1 : Int)))).bind fun x11 => ((idx m_0.Losses (w64 (x2 - (1 : Int)))).bind fun x12 => ((idx m_0.Offsets x2).bind fun x13 => ((idx m_0.Losses x2).bind fun x14 => ((m_impl_blend x11 x12 x13 x14 x1).bind fun x15 => some x15)))))))

noncomputable def m_impl_WidthAt_1 (n_0 : Int) (a_1 : GMask) (a_2 : Int) : Option Bool :=
  ((m_impl_Mask_loss a_1 n_0).bind fun x1 => some (decide (a_2 < x1)))

noncomputable def m_impl_firstIn_1 (i_0 : Int) (a_1 : (Int → Option Bool)) (a_2 : Int) : Option Bool :=
  ((a_1 (w64 (a_2 + i_0))).bind fun x1 => some x1)

noncomputable def m_sort_Search_B2 (f_1 : (Int → Option Bool)) (v3 : Int) (v4 : Int) : Option ((Int × Int) ⊕ Int) :=
  (bif (decide (v3 < v4)) then ((bitOp .shr .u64 (IntKind.wrap .u64 ((w64 (v3 + v4)))) (1 : Int)).bind fun x6 => ((f_1 (w64 (x6))).bind fun x7 => (((bif (!x7) then some ((w64 ((w64 (x6)) + (1 : Int))), v4) else some (v3, (w64 (x6)))) : Option (Int × Int)).bind fun x8 => some (Sum.inl (x8.1, x8.2))))) else Option.map Sum.inr (some v3))
noncomputable def m_sort_Search (n_0 : Int) (f_1 : (Int → Option Bool)) : Option Int :=
  (((loopM (fun s : (Int × Int) => m_sort_Search_B2 f_1 s.1 s.2) ((0 : Int), n_0)) : Option Int).bind fun x1 => some x1)

noncomputable def m_impl_firstIn (low_0 : Int) (high_1 : Int) (has_2 : (Int → Option Bool)) : Option (Int × Bool) :=
  ((m_sort_Search (w64 ((w64 (high_1 - low_0)) + (1 : Int))) (fun x => m_impl_firstIn_1 x has_2 low_0)).bind fun x1 => some ((w64 (low_0 + x1)), (decide (x1 < (w64 ((w64 (high_1 - low_0)) + (1 : Int)))))))

noncomputable def m_impl_orNotFound (n_0 : Int) (ok_1 : Bool) : Option (Int × Int) :=
  (bif (!ok_1) then some ((0 : Int), (3 : Int)) else some (n_0, (0 : Int)))

noncomputable def m_impl_WidthAt (m_0 : GMask) (loss_1 : Int) : Option (Int × Int) :=
  ((m_impl_ValidMask m_0).bind fun x1 => (bif (!x1) then some ((0 : Int), (1 : Int)) else ((m_impl_within loss_1 (0 : Int) (120000 : Int)).bind fun x2 => (bif (!x2) then some ((0 : Int), (2 : Int)) else ((m_impl_Mask_end m_0).bind fun x3 => ((m_impl_firstIn (0 : Int) x3 (fun x => m_impl_WidthAt_1 x m_0 loss_1)).bind fun x4 => ((m_impl_orNotFound (w64 ((2 : Int) * (w64 (x4.1 - (1 : Int))))) x4.2).bind fun x5 => some (x5.1, x5.2))))))))

noncomputable def m_laws_eqMask (a_0 : GMask) (b_1 : GMask) : Option Bool :=
  ((m_laws_eqInt64S a_0.Offsets b_1.Offsets).bind fun x1 => (bif (!x1) then some false else ((m_laws_eqInt64S a_0.Losses b_1.Losses).bind fun x2 => (bif (!x2) then some false else some true))))

noncomputable def m_laws_FnExactWidthAt (aM_0 : GMask) (aLoss_1 : Int) : Option Bool :=
  ((m_laws_szMask aM_0 (1048576 : Int)).bind fun x1 => (bif (decide (x1 < (0 : Int))) then some true else ((m_laws_toMask aM_0).bind fun x2 => ((m_spec_WidthAt x2 aLoss_1).bind fun x3 => ((m_laws_toMask aM_0).bind fun x4 => ((m_impl_WidthAt x4 aLoss_1).bind fun x7 => (((bif (x7.1 != x3.1) then some true else some (x7.2 != x3.2)) : Option Bool).bind fun x8 => (bif x8 then some false else ((m_laws_toMask aM_0).bind fun x11 => ((m_laws_eqMask x4 x11).bind fun x12 => (bif (!x12) then some false else some true)))))))))))

noncomputable def m_laws_szSite (a_0 : GSite) (left_1 : Int) : Option Int :=
  (bif (decide ((w64 (left_1 - (a_0.Name.size : Int))) < (0 : Int))) then some (-1 : Int) else (bif (decide ((w64 ((w64 (left_1 - (a_0.Name.size : Int))) - (a_0.Holder.size : Int))) < (0 : Int))) then some (-1 : Int) else some (w64 ((w64 (left_1 - (a_0.Name.size : Int))) - (a_0.Holder.size : Int)))))

noncomputable def m_laws_szSiteS_B1 (a_0 : (List GSite)) (v2 : Int) (v3 : Int) : Option ((Int × Int) ⊕ Int) :=
  (bif (decide (v3 < (a_0.length : Int))) then ((idx a_0 v3).bind fun x5 => ((m_laws_szSite x5 v2).bind fun x6 => (bif (decide (x6 < (0 : Int))) then Option.map Sum.inr (some (-1 : Int)) else some (Sum.inl (x6, (w64 (v3 + (1 : Int)))))))) else Option.map Sum.inr (some v2))
noncomputable def m_laws_szSiteS (a_0 : (List GSite)) (left_1 : Int) : Option Int :=
  (bif (decide ((w64 (left_1 - (a_0.length : Int))) < (0 : Int))) then some (-1 : Int) else (loopM (fun s : (Int × Int) => m_laws_szSiteS_B1 a_0 s.1 s.2) ((w64 (left_1 - (a_0.length : Int))), (0 : Int))))

noncomputable def m_laws_szSector (a_0 : GSector) (left_1 : Int) : Option Int :=
  (bif (decide ((w64 (left_1 - (a_0.Name.size : Int))) < (0 : Int))) then some (-1 : Int) else (bif (decide ((w64 ((w64 (left_1 - (a_0.Name.size : Int))) - (a_0.Site.size : Int))) < (0 : Int))) then some (-1 : Int) else (bif (decide ((w64 ((w64 ((w64 (left_1 - (a_0.Name.size : Int))) - (a_0.Site.size : Int))) - (a_0.Antenna.size : Int))) < (0 : Int))) then some (-1 : Int) else (bif (decide ((w64 ((w64 ((w64 ((w64 (left_1 - (a_0.Name.size : Int))) - (a_0.Site.size : Int))) - (a_0.Antenna.size : Int))) - (a_0.Radio.size : Int))) < (0 : Int))) then some (-1 : Int) else (bif (decide ((w64 ((w64 ((w64 ((w64 ((w64 (left_1 - (a_0.Name.size : Int))) - (a_0.Site.size : Int))) - (a_0.Antenna.size : Int))) - (a_0.Radio.size : Int))) - (a_0.Band.size : Int))) < (0 : Int))) then some (-1 : Int) else some (w64 ((w64 ((w64 ((w64 ((w64 (left_1 - (a_0.Name.size : Int))) - (a_0.Site.size : Int))) - (a_0.Antenna.size : Int))) - (a_0.Radio.size : Int))) - (a_0.Band.size : Int))))))))

noncomputable def m_laws_szSectorS_B1 (a_0 : (List GSector)) (v2 : Int) (v3 : Int) : Option ((Int × Int) ⊕ Int) :=
  (bif (decide (v3 < (a_0.length : Int))) then ((idx a_0 v3).bind fun x5 => ((m_laws_szSector x5 v2).bind fun x6 => (bif (decide (x6 < (0 : Int))) then Option.map Sum.inr (some (-1 : Int)) else some (Sum.inl (x6, (w64 (v3 + (1 : Int)))))))) else Option.map Sum.inr (some v2))
noncomputable def m_laws_szSectorS (a_0 : (List GSector)) (left_1 : Int) : Option Int :=
  (bif (decide ((w64 (left_1 - (a_0.length : Int))) < (0 : Int))) then some (-1 : Int) else (loopM (fun s : (Int × Int) => m_laws_szSectorS_B1 a_0 s.1 s.2) ((w64 (left_1 - (a_0.length : Int))), (0 : Int))))

noncomputable def m_laws_szAntenna (a_0 : GAntenna) (left_1 : Int) : Option Int :=
  (bif (decide ((w64 (left_1 - (a_0.Name.size : Int))) < (0 : Int))) then some (-1 : Int) else ((m_laws_szInt64S a_0.Horizontal (w64 (left_1 - (a_0.Name.size : Int)))).bind fun x1 => (bif (decide (x1 < (0 : Int))) then some (-1 : Int) else ((m_laws_szInt64S a_0.Vertical x1).bind fun x2 => (bif (decide (x2 < (0 : Int))) then some (-1 : Int) else some x2)))))

noncomputable def m_laws_szAntennaS_B1 (a_0 : (List GAntenna)) (v2 : Int) (v3 : Int) : Option ((Int × Int) ⊕ Int) :=
  (bif (decide (v3 < (a_0.length : Int))) then ((idx a_0 v3).bind fun x5 => ((m_laws_szAntenna x5 v2).bind fun x6 => (bif (decide (x6 < (0 : Int))) then Option.map Sum.inr (some (-1 : Int)) else some (Sum.inl (x6, (w64 (v3 + (1 : Int)))))))) else Option.map Sum.inr (some v2))
noncomputable def m_laws_szAntennaS (a_0 : (List GAntenna)) (left_1 : Int) : Option Int :=
  (bif (decide ((w64 (left_1 - (a_0.length : Int))) < (0 : Int))) then some (-1 : Int) else (loopM (fun s : (Int × Int) => m_laws_szAntennaS_B1 a_0 s.1 s.2) ((w64 (left_1 - (a_0.length : Int))), (0 : Int))))

noncomputable def m_laws_szModeS (a_0 : (List GMode)) (left_1 : Int) : Option Int :=
  (bif (decide ((w64 (left_1 - (a_0.length : Int))) < (0 : Int))) then some (-1 : Int) else some (w64 (left_1 - (a_0.length : Int))))

noncomputable def m_laws_szRadio (a_0 : GRadio) (left_1 : Int) : Option Int :=
  (bif (decide ((w64 (left_1 - (a_0.Name.size : Int))) < (0 : Int))) then some (-1 : Int) else ((m_laws_szModeS a_0.Modes (w64 (left_1 - (a_0.Name.size : Int)))).bind fun x1 => (bif (decide (x1 < (0 : Int))) then some (-1 : Int) else some x1)))

noncomputable def m_laws_szRadioS_B1 (a_0 : (List GRadio)) (v2 : Int) (v3 : Int) : Option ((Int × Int) ⊕ Int) :=
  (bif (decide (v3 < (a_0.length : Int))) then ((idx a_0 v3).bind fun x5 => ((m_laws_szRadio x5 v2).bind fun x6 => (bif (decide (x6 < (0 : Int))) then Option.map Sum.inr (some (-1 : Int)) else some (Sum.inl (x6, (w64 (v3 + (1 : Int)))))))) else Option.map Sum.inr (some v2))
noncomputable def m_laws_szRadioS (a_0 : (List GRadio)) (left_1 : Int) : Option Int :=
  (bif (decide ((w64 (left_1 - (a_0.length : Int))) < (0 : Int))) then some (-1 : Int) else (loopM (fun s : (Int × Int) => m_laws_szRadioS_B1 a_0 s.1 s.2) ((w64 (left_1 - (a_0.length : Int))), (0 : Int))))

noncomputable def m_laws_szNetwork (a_0 : GNetwork) (left_1 : Int) : Option Int :=
  ((m_laws_szSiteS a_0.Sites left_1).bind fun x1 => (bif (decide (x1 < (0 : Int))) then some (-1 : Int) else ((m_laws_szSectorS a_0.Sectors x1).bind fun x2 => (bif (decide (x2 < (0 : Int))) then some (-1 : Int) else ((m_laws_szAntennaS a_0.Antennas x2).bind fun x3 => (bif (decide (x3 < (0 : Int))) then some (-1 : Int) else ((m_laws_szRadioS a_0.Radios x3).bind fun x4 => (bif (decide (x4 < (0 : Int))) then some (-1 : Int) else some x4))))))))

noncomputable def m_laws_toPoint (a_0 : GPoint) : Option GPoint :=
  some a_0

noncomputable def m_laws_toSite (a_0 : GSite) : Option GSite :=
  ((m_laws_toPoint a_0.Place).bind fun x5 => some (GSite.mk a_0.Name a_0.Holder x5))

noncomputable def m_laws_toSiteS_B5 (a_0 : (List GSite)) (v6 : Int) (v7 : (List GSite)) : Option ((Int × (List GSite)) ⊕ (List GSite)) :=
  (bif (decide (v6 < (a_0.length : Int))) then ((idx a_0 v6).bind fun x9 => ((m_laws_toSite x9).bind fun x10 => ((inB v7 v6).bind fun u11 => some (Sum.inl ((w64 (v6 + (1 : Int))), (v7.set (v6).toNat x10)))))) else Option.map Sum.inr (some v7))
noncomputable def m_laws_toSiteS (a_0 : (List GSite)) : Option (List GSite) :=
  ((mkL 48 (a_0.length : Int) (GSite.mk ByteArray.empty ByteArray.empty (GPoint.mk (0 : Int) (0 : Int)))).bind fun x1 => (((loopM (fun s : (Int × (List GSite)) => m_laws_toSiteS_B5 a_0 s.1 s.2) ((0 : Int), x1)) : Option (List GSite)).bind fun x4 => some x4))

noncomputable def m_laws_toSector (a_0 : GSector) : Option GSector :=
  some a_0

noncomputable def m_laws_toSectorS_B5 (a_0 : (List GSector)) (v6 : Int) (v7 : (List GSector)) : Option ((Int × (List GSector)) ⊕ (List GSector)) :=
  (bif (decide (v6 < (a_0.length : Int))) then ((idx a_0 v6).bind fun x9 => ((m_laws_toSector x9).bind fun x10 => ((inB v7 v6).bind fun u11 => some (Sum.inl ((w64 (v6 + (1 : Int))), (v7.set (v6).toNat x10)))))) else Option.map Sum.inr (some v7))
noncomputable def m_laws_toSectorS (a_0 : (List GSector)) : Option (List GSector) :=
  ((mkL 112 (a_0.length : Int) (GSector.mk ByteArray.empty ByteArray.empty ByteArray.empty ByteArray.empty ByteArray.empty (0 : Int) (0 : Int) (0 : Int) (0 : Int))).bind fun x1 => (((loopM (fun s : (Int × (List GSector)) => m_laws_toSectorS_B5 a_0 s.1 s.2) ((0 : Int), x1)) : Option (List GSector)).bind fun x4 => some x4))

noncomputable def m_laws_toAntenna (a_0 : GAntenna) : Option GAntenna :=
  ((m_laws_toInt64S a_0.Horizontal).bind fun x5 => ((m_laws_toInt64S a_0.Vertical).bind fun x9 => some (GAntenna.mk a_0.Name a_0.Gain x5 x9)))

noncomputable def m_laws_toAntennaS_B5 (a_0 : (List GAntenna)) (v6 : Int) (v7 : (List GAntenna)) : Option ((Int × (List GAntenna)) ⊕ (List GAntenna)) :=
  (bif (decide (v6 < (a_0.length : Int))) then ((idx a_0 v6).bind fun x9 => ((m_laws_toAntenna x9).bind fun x10 => ((inB v7 v6).bind fun u14 => some (Sum.inl ((w64 (v6 + (1 : Int))), (v7.set (v6).toNat x10)))))) else Option.map Sum.inr (some v7))
noncomputable def m_laws_toAntennaS (a_0 : (List GAntenna)) : Option (List GAntenna) :=
  ((mkL 72 (a_0.length : Int) (GAntenna.mk ByteArray.empty (0 : Int) ([] : (List Int)) ([] : (List Int)))).bind fun x1 => (((loopM (fun s : (Int × (List GAntenna)) => m_laws_toAntennaS_B5 a_0 s.1 s.2) ((0 : Int), x1)) : Option (List GAntenna)).bind fun x4 => some x4))

noncomputable def m_laws_toMode (a_0 : GMode) : Option GMode :=
  some a_0

noncomputable def m_laws_toModeS_B5 (a_0 : (List GMode)) (v6 : Int) (v7 : (List GMode)) : Option ((Int × (List GMode)) ⊕ (List GMode)) :=
  (bif (decide (v6 < (a_0.length : Int))) then ((idx a_0 v6).bind fun x9 => ((m_laws_toMode x9).bind fun x10 => ((inB v7 v6).bind fun u11 => some (Sum.inl ((w64 (v6 + (1 : Int))), (v7.set (v6).toNat x10)))))) else Option.map Sum.inr (some v7))
noncomputable def m_laws_toModeS (a_0 : (List GMode)) : Option (List GMode) :=
  ((mkL 16 (a_0.length : Int) (GMode.mk (0 : Int) (0 : Int))).bind fun x1 => (((loopM (fun s : (Int × (List GMode)) => m_laws_toModeS_B5 a_0 s.1 s.2) ((0 : Int), x1)) : Option (List GMode)).bind fun x4 => some x4))

noncomputable def m_laws_toRadio (a_0 : GRadio) : Option GRadio :=
  ((m_laws_toModeS a_0.Modes).bind fun x8 => some (GRadio.mk a_0.Name a_0.Power a_0.Feeder a_0.Noise a_0.Width x8))

noncomputable def m_laws_toRadioS_B5 (a_0 : (List GRadio)) (v6 : Int) (v7 : (List GRadio)) : Option ((Int × (List GRadio)) ⊕ (List GRadio)) :=
  (bif (decide (v6 < (a_0.length : Int))) then ((idx a_0 v6).bind fun x9 => ((m_laws_toRadio x9).bind fun x10 => ((inB v7 v6).bind fun u13 => some (Sum.inl ((w64 (v6 + (1 : Int))), (v7.set (v6).toNat x10)))))) else Option.map Sum.inr (some v7))
noncomputable def m_laws_toRadioS (a_0 : (List GRadio)) : Option (List GRadio) :=
  ((mkL 72 (a_0.length : Int) (GRadio.mk ByteArray.empty (0 : Int) (0 : Int) (0 : Int) (0 : Int) ([] : (List GMode)))).bind fun x1 => (((loopM (fun s : (Int × (List GRadio)) => m_laws_toRadioS_B5 a_0 s.1 s.2) ((0 : Int), x1)) : Option (List GRadio)).bind fun x4 => some x4))

noncomputable def m_laws_toNetwork (a_0 : GNetwork) : Option GNetwork :=
  ((m_laws_toSiteS a_0.Sites).bind fun x3 => ((m_laws_toSectorS a_0.Sectors).bind fun x7 => ((m_laws_toAntennaS a_0.Antennas).bind fun x11 => ((m_laws_toRadioS a_0.Radios).bind fun x15 => some (GNetwork.mk x3 x7 x11 x15)))))

noncomputable def m_spec_l00Same_B1 (a_0 : (List Int)) (b_1 : (List Int)) (v2 : Int) : Option (Int ⊕ Bool) :=
  (bif (decide (v2 < (a_0.length : Int))) then ((idx a_0 v2).bind fun x4 => ((idx b_1 v2).bind fun x5 => (bif (x4 != x5) then Option.map Sum.inr (some false) else some (Sum.inl (w64 (v2 + (1 : Int))))))) else Option.map Sum.inr (some true))
noncomputable def m_spec_l00Same (a_0 : (List Int)) (b_1 : (List Int)) : Option Bool :=
  (bif ((a_0.length : Int) != (b_1.length : Int)) then some false else (loopM (fun s : Int => m_spec_l00Same_B1 a_0 b_1 s) (0 : Int)))

noncomputable def m_spec_SameAntenna (a_0 : GAntenna) (b_1 : GAntenna) : Option Bool :=
  (((bif (a_0.Name.toList == b_1.Name.toList) then (bif (a_0.Gain == b_1.Gain) then ((m_spec_l00Same a_0.Horizontal b_1.Horizontal).bind fun x4 => (bif x4 then ((m_spec_l00Same a_0.Vertical b_1.Vertical).bind fun x6 => some x6) else some false)) else some false) else some false) : Option Bool).bind fun x1 => some x1)

noncomputable def m_spec_SameRadio_B8 (a_0 : GRadio) (a_1 : GRadio) (v9 : Int) : Option (Int ⊕ Bool) :=
  (bif (decide (v9 < (a_0.Modes.length : Int))) then ((idx a_0.Modes v9).bind fun x11 => ((idx a_1.Modes v9).bind fun x12 => (bif (!((x11.Need == x12.Need) && ((x11.Rate == x12.Rate) && true))) then Option.map Sum.inr (some false) else some (Sum.inl (w64 (v9 + (1 : Int))))))) else Option.map Sum.inr (some true))
noncomputable def m_spec_SameRadio (a_0 : GRadio) (a_1 : GRadio) : Option Bool :=
  (((bif (!(a_0.Name.toList == a_1.Name.toList)) then some true else (bif (a_0.Power != a_1.Power) then some true else (bif (a_0.Feeder != a_1.Feeder) then some true else (bif (a_0.Noise != a_1.Noise) then some true else (bif (a_0.Width != a_1.Width) then some true else some ((a_0.Modes.length : Int) != (a_1.Modes.length : Int))))))) : Option Bool).bind fun x1 => (bif x1 then some false else (loopM (fun s : Int => m_spec_SameRadio_B8 a_0 a_1 s) (0 : Int))))

noncomputable def m_spec_SameNetwork_B22 (a_0 : GNetwork) (a_1 : GNetwork) (v23 : Int) : Option (Int ⊕ Bool) :=
  (bif (decide (v23 < (a_0.Radios.length : Int))) then ((idx a_0.Radios v23).bind fun x25 => ((idx a_1.Radios v23).bind fun x26 => ((m_spec_SameRadio x25 x26).bind fun x27 => (bif (!x27) then Option.map Sum.inr (some false) else some (Sum.inl (w64 (v23 + (1 : Int)))))))) else Option.map Sum.inr (some true))
noncomputable def m_spec_SameNetwork_B16 (a_0 : GNetwork) (a_1 : GNetwork) (v17 : Int) : Option (Int ⊕ Bool) :=
  (bif (decide (v17 < (a_0.Antennas.length : Int))) then ((idx a_0.Antennas v17).bind fun x19 => ((idx a_1.Antennas v17).bind fun x20 => ((m_spec_SameAntenna x19 x20).bind fun x21 => (bif (!x21) then Option.map Sum.inr (some false) else some (Sum.inl (w64 (v17 + (1 : Int)))))))) else Option.map Sum.inr ((loopM (fun s : Int => m_spec_SameNetwork_B22 a_0 a_1 s) (0 : Int))))
noncomputable def m_spec_SameNetwork_B11 (a_0 : GNetwork) (a_1 : GNetwork) (v12 : Int) : Option (Int ⊕ Bool) :=
  (bif (decide (v12 < (a_0.Sectors.length : Int))) then ((idx a_0.Sectors v12).bind fun x14 => ((idx a_1.Sectors v12).bind fun x15 => (bif (!((x14.Name.toList == x15.Name.toList) && ((x14.Site.toList == x15.Site.toList) && ((x14.Antenna.toList == x15.Antenna.toList) && ((x14.Radio.toList == x15.Radio.toList) && ((x14.Band.toList == x15.Band.toList) && ((x14.Azimuth == x15.Azimuth) && ((x14.Tilt == x15.Tilt) && ((x14.Above == x15.Above) && ((x14.Channel == x15.Channel) && true)))))))))) then Option.map Sum.inr (some false) else some (Sum.inl (w64 (v12 + (1 : Int))))))) else Option.map Sum.inr ((loopM (fun s : Int => m_spec_SameNetwork_B16 a_0 a_1 s) (0 : Int))))
noncomputable def m_spec_SameNetwork_B6 (a_0 : GNetwork) (a_1 : GNetwork) (v7 : Int) : Option (Int ⊕ Bool) :=
  (bif (decide (v7 < (a_0.Sites.length : Int))) then ((idx a_0.Sites v7).bind fun x9 => ((idx a_1.Sites v7).bind fun x10 => (bif (!((x9.Name.toList == x10.Name.toList) && ((x9.Holder.toList == x10.Holder.toList) && (((x9.Place.X == x10.Place.X) && ((x9.Place.Y == x10.Place.Y) && true)) && true)))) then Option.map Sum.inr (some false) else some (Sum.inl (w64 (v7 + (1 : Int))))))) else Option.map Sum.inr ((loopM (fun s : Int => m_spec_SameNetwork_B11 a_0 a_1 s) (0 : Int))))
noncomputable def m_spec_SameNetwork (a_0 : GNetwork) (a_1 : GNetwork) : Option Bool :=
  (((bif ((a_0.Sites.length : Int) != (a_1.Sites.length : Int)) then some true else (bif ((a_0.Sectors.length : Int) != (a_1.Sectors.length : Int)) then some true else (bif ((a_0.Antennas.length : Int) != (a_1.Antennas.length : Int)) then some true else some ((a_0.Radios.length : Int) != (a_1.Radios.length : Int))))) : Option Bool).bind fun x1 => (bif x1 then some false else (loopM (fun s : Int => m_spec_SameNetwork_B6 a_0 a_1 s) (0 : Int))))

noncomputable def m_slices_Equal_impl_Site_impl_Site_B1 (s1_0 : (List GSite)) (s2_1 : (List GSite)) (v2 : Int) : Option (Int ⊕ Bool) :=
  (bif (decide (v2 < (s1_0.length : Int))) then ((idx s1_0 v2).bind fun x4 => ((idx s2_1 v2).bind fun x5 => (bif (!((x4.Name.toList == x5.Name.toList) && ((x4.Holder.toList == x5.Holder.toList) && (((x4.Place.X == x5.Place.X) && ((x4.Place.Y == x5.Place.Y) && true)) && true)))) then Option.map Sum.inr (some false) else some (Sum.inl (w64 (v2 + (1 : Int))))))) else Option.map Sum.inr (some true))
noncomputable def m_slices_Equal_impl_Site_impl_Site (s1_0 : (List GSite)) (s2_1 : (List GSite)) : Option Bool :=
  (bif ((s1_0.length : Int) != (s2_1.length : Int)) then some false else (loopM (fun s : Int => m_slices_Equal_impl_Site_impl_Site_B1 s1_0 s2_1 s) (0 : Int)))

noncomputable def m_slices_Equal_impl_Sector_impl_Sector_B1 (s1_0 : (List GSector)) (s2_1 : (List GSector)) (v2 : Int) : Option (Int ⊕ Bool) :=
  (bif (decide (v2 < (s1_0.length : Int))) then ((idx s1_0 v2).bind fun x4 => ((idx s2_1 v2).bind fun x5 => (bif (!((x4.Name.toList == x5.Name.toList) && ((x4.Site.toList == x5.Site.toList) && ((x4.Antenna.toList == x5.Antenna.toList) && ((x4.Radio.toList == x5.Radio.toList) && ((x4.Band.toList == x5.Band.toList) && ((x4.Azimuth == x5.Azimuth) && ((x4.Tilt == x5.Tilt) && ((x4.Above == x5.Above) && ((x4.Channel == x5.Channel) && true)))))))))) then Option.map Sum.inr (some false) else some (Sum.inl (w64 (v2 + (1 : Int))))))) else Option.map Sum.inr (some true))
noncomputable def m_slices_Equal_impl_Sector_impl_Sector (s1_0 : (List GSector)) (s2_1 : (List GSector)) : Option Bool :=
  (bif ((s1_0.length : Int) != (s2_1.length : Int)) then some false else (loopM (fun s : Int => m_slices_Equal_impl_Sector_impl_Sector_B1 s1_0 s2_1 s) (0 : Int)))

noncomputable def m_slices_EqualFunc_impl_Antenna_impl_Antenna_impl_Antenna_impl_Antenna_B1 (s1_0 : (List GAntenna)) (s2_1 : (List GAntenna)) (eq_2 : ((GAntenna × GAntenna) → Option Bool)) (v2 : Int) : Option (Int ⊕ Bool) :=
  (bif (decide (v2 < (s1_0.length : Int))) then ((idx s1_0 v2).bind fun x4 => ((idx s2_1 v2).bind fun x7 => ((eq_2 (x4, x7)).bind fun x10 => (bif (!x10) then Option.map Sum.inr (some false) else some (Sum.inl (w64 (v2 + (1 : Int)))))))) else Option.map Sum.inr (some true))
noncomputable def m_slices_EqualFunc_impl_Antenna_impl_Antenna_impl_Antenna_impl_Antenna (s1_0 : (List GAntenna)) (s2_1 : (List GAntenna)) (eq_2 : ((GAntenna × GAntenna) → Option Bool)) : Option Bool :=
  (bif ((s1_0.length : Int) != (s2_1.length : Int)) then some false else (loopM (fun s : Int => m_slices_EqualFunc_impl_Antenna_impl_Antenna_impl_Antenna_impl_Antenna_B1 s1_0 s2_1 eq_2 s) (0 : Int)))

noncomputable def m_slices_Equal_int64_int64_B1 (s1_0 : (List Int)) (s2_1 : (List Int)) (v2 : Int) : Option (Int ⊕ Bool) :=
  (bif (decide (v2 < (s1_0.length : Int))) then ((idx s1_0 v2).bind fun x4 => ((idx s2_1 v2).bind fun x5 => (bif (x4 != x5) then Option.map Sum.inr (some false) else some (Sum.inl (w64 (v2 + (1 : Int))))))) else Option.map Sum.inr (some true))
noncomputable def m_slices_Equal_int64_int64 (s1_0 : (List Int)) (s2_1 : (List Int)) : Option Bool :=
  (bif ((s1_0.length : Int) != (s2_1.length : Int)) then some false else (loopM (fun s : Int => m_slices_Equal_int64_int64_B1 s1_0 s2_1 s) (0 : Int)))

noncomputable def m_impl_SameAntenna (a_0 : GAntenna) (b_1 : GAntenna) : Option Bool :=
  (((bif (a_0.Name.toList == b_1.Name.toList) then (bif (a_0.Gain == b_1.Gain) then ((m_slices_Equal_int64_int64 a_0.Horizontal b_1.Horizontal).bind fun x4 => (bif x4 then ((m_slices_Equal_int64_int64 a_0.Vertical b_1.Vertical).bind fun x6 => some x6) else some false)) else some false) else some false) : Option Bool).bind fun x1 => some x1)

noncomputable def m_slices_EqualFunc_impl_Radio_impl_Radio_impl_Radio_impl_Radio_B1 (s1_0 : (List GRadio)) (s2_1 : (List GRadio)) (eq_2 : ((GRadio × GRadio) → Option Bool)) (v2 : Int) : Option (Int ⊕ Bool) :=
  (bif (decide (v2 < (s1_0.length : Int))) then ((idx s1_0 v2).bind fun x4 => ((idx s2_1 v2).bind fun x7 => ((eq_2 (x4, x7)).bind fun x10 => (bif (!x10) then Option.map Sum.inr (some false) else some (Sum.inl (w64 (v2 + (1 : Int)))))))) else Option.map Sum.inr (some true))
noncomputable def m_slices_EqualFunc_impl_Radio_impl_Radio_impl_Radio_impl_Radio (s1_0 : (List GRadio)) (s2_1 : (List GRadio)) (eq_2 : ((GRadio × GRadio) → Option Bool)) : Option Bool :=
  (bif ((s1_0.length : Int) != (s2_1.length : Int)) then some false else (loopM (fun s : Int => m_slices_EqualFunc_impl_Radio_impl_Radio_impl_Radio_impl_Radio_B1 s1_0 s2_1 eq_2 s) (0 : Int)))

noncomputable def m_slices_Equal_impl_Mode_impl_Mode_B1 (s1_0 : (List GMode)) (s2_1 : (List GMode)) (v2 : Int) : Option (Int ⊕ Bool) :=
  (bif (decide (v2 < (s1_0.length : Int))) then ((idx s1_0 v2).bind fun x4 => ((idx s2_1 v2).bind fun x5 => (bif (!((x4.Need == x5.Need) && ((x4.Rate == x5.Rate) && true))) then Option.map Sum.inr (some false) else some (Sum.inl (w64 (v2 + (1 : Int))))))) else Option.map Sum.inr (some true))
noncomputable def m_slices_Equal_impl_Mode_impl_Mode (s1_0 : (List GMode)) (s2_1 : (List GMode)) : Option Bool :=
  (bif ((s1_0.length : Int) != (s2_1.length : Int)) then some false else (loopM (fun s : Int => m_slices_Equal_impl_Mode_impl_Mode_B1 s1_0 s2_1 s) (0 : Int)))

noncomputable def m_impl_SameRadio (a_0 : GRadio) (b_1 : GRadio) : Option Bool :=
  (((bif (a_0.Name.toList == b_1.Name.toList) then (bif (a_0.Power == b_1.Power) then (bif (a_0.Feeder == b_1.Feeder) then (bif (a_0.Noise == b_1.Noise) then (bif (a_0.Width == b_1.Width) then ((m_slices_Equal_impl_Mode_impl_Mode a_0.Modes b_1.Modes).bind fun x7 => some x7) else some false) else some false) else some false) else some false) else some false) : Option Bool).bind fun x1 => some x1)

noncomputable def m_impl_SameNetwork (a_0 : GNetwork) (b_1 : GNetwork) : Option Bool :=
  ((((m_slices_Equal_impl_Site_impl_Site a_0.Sites b_1.Sites).bind fun x2 => (bif x2 then ((m_slices_Equal_impl_Sector_impl_Sector a_0.Sectors b_1.Sectors).bind fun x4 => (bif x4 then ((m_slices_EqualFunc_impl_Antenna_impl_Antenna_impl_Antenna_impl_Antenna a_0.Antennas b_1.Antennas (fun x => m_impl_SameAntenna x.1 x.2)).bind fun x6 => (bif x6 then ((m_slices_EqualFunc_impl_Radio_impl_Radio_impl_Radio_impl_Radio a_0.Radios b_1.Radios (fun x => m_impl_SameRadio x.1 x.2)).bind fun x8 => some x8) else some false)) else some false)) else some false)) : Option Bool).bind fun x1 => some x1)

noncomputable def m_laws_eqPoint (a_0 : GPoint) (b_1 : GPoint) : Option Bool :=
  (bif (a_0.X != b_1.X) then some false else (bif (a_0.Y != b_1.Y) then some false else some true))

noncomputable def m_laws_eqSite (a_0 : GSite) (b_1 : GSite) : Option Bool :=
  (bif (!(a_0.Name.toList == b_1.Name.toList)) then some false else (bif (!(a_0.Holder.toList == b_1.Holder.toList)) then some false else ((m_laws_eqPoint a_0.Place b_1.Place).bind fun x1 => (bif (!x1) then some false else some true))))

noncomputable def m_laws_eqSiteS_B1 (a_0 : (List GSite)) (b_1 : (List GSite)) (v2 : Int) : Option (Int ⊕ Bool) :=
  (bif (decide (v2 < (a_0.length : Int))) then ((idx a_0 v2).bind fun x4 => ((idx b_1 v2).bind fun x5 => ((m_laws_eqSite x4 x5).bind fun x6 => (bif (!x6) then Option.map Sum.inr (some false) else some (Sum.inl (w64 (v2 + (1 : Int)))))))) else Option.map Sum.inr (some true))
noncomputable def m_laws_eqSiteS (a_0 : (List GSite)) (b_1 : (List GSite)) : Option Bool :=
  (bif ((a_0.length : Int) != (b_1.length : Int)) then some false else (loopM (fun s : Int => m_laws_eqSiteS_B1 a_0 b_1 s) (0 : Int)))

noncomputable def m_laws_eqSector (a_0 : GSector) (b_1 : GSector) : Option Bool :=
  (bif (!(a_0.Name.toList == b_1.Name.toList)) then some false else (bif (!(a_0.Site.toList == b_1.Site.toList)) then some false else (bif (!(a_0.Antenna.toList == b_1.Antenna.toList)) then some false else (bif (!(a_0.Radio.toList == b_1.Radio.toList)) then some false else (bif (!(a_0.Band.toList == b_1.Band.toList)) then some false else (bif (a_0.Azimuth != b_1.Azimuth) then some false else (bif (a_0.Tilt != b_1.Tilt) then some false else (bif (a_0.Above != b_1.Above) then some false else (bif (a_0.Channel != b_1.Channel) then some false else some true)))))))))

noncomputable def m_laws_eqSectorS_B1 (a_0 : (List GSector)) (b_1 : (List GSector)) (v2 : Int) : Option (Int ⊕ Bool) :=
  (bif (decide (v2 < (a_0.length : Int))) then ((idx a_0 v2).bind fun x4 => ((idx b_1 v2).bind fun x5 => ((m_laws_eqSector x4 x5).bind fun x6 => (bif (!x6) then Option.map Sum.inr (some false) else some (Sum.inl (w64 (v2 + (1 : Int)))))))) else Option.map Sum.inr (some true))
noncomputable def m_laws_eqSectorS (a_0 : (List GSector)) (b_1 : (List GSector)) : Option Bool :=
  (bif ((a_0.length : Int) != (b_1.length : Int)) then some false else (loopM (fun s : Int => m_laws_eqSectorS_B1 a_0 b_1 s) (0 : Int)))

noncomputable def m_laws_eqAntenna (a_0 : GAntenna) (b_1 : GAntenna) : Option Bool :=
  (bif (!(a_0.Name.toList == b_1.Name.toList)) then some false else (bif (a_0.Gain != b_1.Gain) then some false else ((m_laws_eqInt64S a_0.Horizontal b_1.Horizontal).bind fun x1 => (bif (!x1) then some false else ((m_laws_eqInt64S a_0.Vertical b_1.Vertical).bind fun x2 => (bif (!x2) then some false else some true))))))

noncomputable def m_laws_eqAntennaS_B1 (a_0 : (List GAntenna)) (b_1 : (List GAntenna)) (v2 : Int) : Option (Int ⊕ Bool) :=
  (bif (decide (v2 < (a_0.length : Int))) then ((idx a_0 v2).bind fun x4 => ((idx b_1 v2).bind fun x5 => ((m_laws_eqAntenna x4 x5).bind fun x6 => (bif (!x6) then Option.map Sum.inr (some false) else some (Sum.inl (w64 (v2 + (1 : Int)))))))) else Option.map Sum.inr (some true))
noncomputable def m_laws_eqAntennaS (a_0 : (List GAntenna)) (b_1 : (List GAntenna)) : Option Bool :=
  (bif ((a_0.length : Int) != (b_1.length : Int)) then some false else (loopM (fun s : Int => m_laws_eqAntennaS_B1 a_0 b_1 s) (0 : Int)))

noncomputable def m_laws_eqMode (a_0 : GMode) (b_1 : GMode) : Option Bool :=
  (bif (a_0.Need != b_1.Need) then some false else (bif (a_0.Rate != b_1.Rate) then some false else some true))

noncomputable def m_laws_eqModeS_B1 (a_0 : (List GMode)) (b_1 : (List GMode)) (v2 : Int) : Option (Int ⊕ Bool) :=
  (bif (decide (v2 < (a_0.length : Int))) then ((idx a_0 v2).bind fun x4 => ((idx b_1 v2).bind fun x5 => ((m_laws_eqMode x4 x5).bind fun x6 => (bif (!x6) then Option.map Sum.inr (some false) else some (Sum.inl (w64 (v2 + (1 : Int)))))))) else Option.map Sum.inr (some true))
noncomputable def m_laws_eqModeS (a_0 : (List GMode)) (b_1 : (List GMode)) : Option Bool :=
  (bif ((a_0.length : Int) != (b_1.length : Int)) then some false else (loopM (fun s : Int => m_laws_eqModeS_B1 a_0 b_1 s) (0 : Int)))

noncomputable def m_laws_eqRadio (a_0 : GRadio) (b_1 : GRadio) : Option Bool :=
  (bif (!(a_0.Name.toList == b_1.Name.toList)) then some false else (bif (a_0.Power != b_1.Power) then some false else (bif (a_0.Feeder != b_1.Feeder) then some false else (bif (a_0.Noise != b_1.Noise) then some false else (bif (a_0.Width != b_1.Width) then some false else ((m_laws_eqModeS a_0.Modes b_1.Modes).bind fun x1 => (bif (!x1) then some false else some true)))))))

noncomputable def m_laws_eqRadioS_B1 (a_0 : (List GRadio)) (b_1 : (List GRadio)) (v2 : Int) : Option (Int ⊕ Bool) :=
  (bif (decide (v2 < (a_0.length : Int))) then ((idx a_0 v2).bind fun x4 => ((idx b_1 v2).bind fun x5 => ((m_laws_eqRadio x4 x5).bind fun x6 => (bif (!x6) then Option.map Sum.inr (some false) else some (Sum.inl (w64 (v2 + (1 : Int)))))))) else Option.map Sum.inr (some true))
noncomputable def m_laws_eqRadioS (a_0 : (List GRadio)) (b_1 : (List GRadio)) : Option Bool :=
  (bif ((a_0.length : Int) != (b_1.length : Int)) then some false else (loopM (fun s : Int => m_laws_eqRadioS_B1 a_0 b_1 s) (0 : Int)))

noncomputable def m_laws_eqNetwork (a_0 : GNetwork) (b_1 : GNetwork) : Option Bool :=
  ((m_laws_eqSiteS a_0.Sites b_1.Sites).bind fun x1 => (bif (!x1) then some false else ((m_laws_eqSectorS a_0.Sectors b_1.Sectors).bind fun x2 => (bif (!x2) then some false else ((m_laws_eqAntennaS a_0.Antennas b_1.Antennas).bind fun x3 => (bif (!x3) then some false else ((m_laws_eqRadioS a_0.Radios b_1.Radios).bind fun x4 => (bif (!x4) then some false else some true))))))))

noncomputable def m_laws_FnExactSameNetwork (aA_0 : GNetwork) (aB_1 : GNetwork) : Option Bool :=
  ((m_laws_szNetwork aA_0 (1048576 : Int)).bind fun x1 => (bif (decide (x1 < (0 : Int))) then some true else ((m_laws_szNetwork aB_1 x1).bind fun x2 => (bif (decide (x2 < (0 : Int))) then some true else ((m_laws_toNetwork aA_0).bind fun x3 => ((m_laws_toNetwork aB_1).bind fun x4 => ((m_spec_SameNetwork x3 x4).bind fun x5 => ((m_laws_toNetwork aA_0).bind fun x6 => ((m_laws_toNetwork aB_1).bind fun x9 => ((m_impl_SameNetwork x6 x9).bind fun x12 => (bif (x12 != x5) then some false else ((m_laws_toNetwork aA_0).bind fun x13 => ((m_laws_eqNetwork x6 x13).bind fun x14 => (bif (!x14) then some false else ((m_laws_toNetwork aB_1).bind fun x15 => ((m_laws_eqNetwork x9 x15).bind fun x16 => (bif (!x16) then some false else some true)))))))))))))))))
end Go.Wk
