/-
  The walks that the law FnExactSameNetwork reaches: each function computes its model. Printed by our own program.
-/
import Derived.Test.YtipkpdobbeggnaaProg
import Derived.Test.YtipkpdobbeggnaaMod
import Derived.Test.YtipkpdobbeggnaaCopy
import Derived.KernelRfl
namespace Go.Proofs.Ytipkpdobbeggnaa.fnExactSameNetworkW
open Go Go.RowKit Go.Wk
set_option linter.unusedVariables false
set_option maxRecDepth 100000
theorem hmix : Try.prog.follows .mixedOrders = true := by kernel_rfl
theorem sz2 : ∀ w, (Go.sizeOf 2).run Try.prog w = .ok 1 w := fun _ => by kernel_rfl
theorem sz9 : ∀ w, (Go.sizeOf 9).run Try.prog w = .ok 1 w := fun _ => by kernel_rfl
theorem sz23 : ∀ w, (Go.sizeOf 23).run Try.prog w = .ok 1 w := fun _ => by kernel_rfl
theorem sz49 : ∀ w, (Go.sizeOf 49).run Try.prog w = .ok 1 w := fun _ => by kernel_rfl
theorem sz50 : ∀ w, (Go.sizeOf 50).run Try.prog w = .ok 1 w := fun _ => by kernel_rfl
theorem sz51 : ∀ w, (Go.sizeOf 51).run Try.prog w = .ok 1 w := fun _ => by kernel_rfl
theorem sz52 : ∀ w, (Go.sizeOf 52).run Try.prog w = .ok 1 w := fun _ => by kernel_rfl
theorem sz54 : ∀ w, (Go.sizeOf 54).run Try.prog w = .ok 4 w := fun _ => by kernel_rfl
theorem sz57 : ∀ w, (Go.sizeOf 57).run Try.prog w = .ok 1 w := fun _ => by kernel_rfl
theorem sz58 : ∀ w, (Go.sizeOf 58).run Try.prog w = .ok 1 w := fun _ => by kernel_rfl
theorem sz59 : ∀ w, (Go.sizeOf 59).run Try.prog w = .ok 1 w := fun _ => by kernel_rfl
theorem sz60 : ∀ w, (Go.sizeOf 60).run Try.prog w = .ok 1 w := fun _ => by kernel_rfl
theorem sz62 : ∀ w, (Go.sizeOf 62).run Try.prog w = .ok 4 w := fun _ => by kernel_rfl
theorem sz85 : ∀ w, (Go.sizeOf 85).run Try.prog w = .ok 2 w := fun _ => by kernel_rfl
theorem sz87 : ∀ w, (Go.sizeOf 87).run Try.prog w = .ok 4 w := fun _ => by kernel_rfl
theorem sz89 : ∀ w, (Go.sizeOf 89).run Try.prog w = .ok 9 w := fun _ => by kernel_rfl
theorem sz92 : ∀ w, (Go.sizeOf 92).run Try.prog w = .ok 4 w := fun _ => by kernel_rfl
theorem sz94 : ∀ w, (Go.sizeOf 94).run Try.prog w = .ok 1 w := fun _ => by kernel_rfl
theorem sz96 : ∀ w, (Go.sizeOf 96).run Try.prog w = .ok 6 w := fun _ => by kernel_rfl
theorem sz118 : ∀ w, (Go.sizeOf 118).run Try.prog w = .ok 2 w := fun _ => by kernel_rfl
theorem sz120 : ∀ w, (Go.sizeOf 120).run Try.prog w = .ok 4 w := fun _ => by kernel_rfl
theorem sz122 : ∀ w, (Go.sizeOf 122).run Try.prog w = .ok 9 w := fun _ => by kernel_rfl
theorem sz124 : ∀ w, (Go.sizeOf 124).run Try.prog w = .ok 4 w := fun _ => by kernel_rfl
theorem sz126 : ∀ w, (Go.sizeOf 126).run Try.prog w = .ok 1 w := fun _ => by kernel_rfl
theorem sz128 : ∀ w, (Go.sizeOf 128).run Try.prog w = .ok 6 w := fun _ => by kernel_rfl
theorem sz130 : ∀ w, (Go.sizeOf 130).run Try.prog w = .ok 2 w := fun _ => by kernel_rfl
theorem sz155 : ∀ w, (Go.sizeOf 155).run Try.prog w = .ok 2 w := fun _ => by kernel_rfl
theorem zero62 : Zero Try.prog 62 [(pEq (.slice none 0 0)), (pEq (.slice none 0 0)), (pEq (.slice none 0 0)), (pEq (.slice none 0 0))] := ⟨(.agg #[.slice none 0 0, .slice none 0 0, .slice none 0 0, .slice none 0 0]), [.slice none 0 0, .slice none 0 0, .slice none 0 0, .slice none 0 0], fun _ => by kernel_rfl, rfl, fun _ _ => ⟨rfl, ⟨rfl, ⟨rfl, ⟨rfl, trivial⟩⟩⟩⟩⟩
theorem zero85 : Zero Try.prog 85 [(pEq (.int .i64 (0 : Int))), (pEq (.int .i64 (0 : Int)))] := ⟨(.agg #[.int .i64 0, .int .i64 0]), [.int .i64 0, .int .i64 0], fun _ => by kernel_rfl, rfl, fun _ _ => ⟨rfl, ⟨rfl, trivial⟩⟩⟩
theorem zero87 : Zero Try.prog 87 [(pEq (.string ByteArray.empty)), (pEq (.string ByteArray.empty)), (pEq (.int .i64 (0 : Int))), (pEq (.int .i64 (0 : Int)))] := ⟨(.agg #[.string ByteArray.empty, .string ByteArray.empty, .int .i64 0, .int .i64 0]), [.string ByteArray.empty, .string ByteArray.empty, .int .i64 0, .int .i64 0], fun _ => by kernel_rfl, rfl, fun _ _ => ⟨rfl, ⟨rfl, ⟨rfl, ⟨rfl, trivial⟩⟩⟩⟩⟩
theorem zero89 : Zero Try.prog 89 [(pEq (.string ByteArray.empty)), (pEq (.string ByteArray.empty)), (pEq (.string ByteArray.empty)), (pEq (.string ByteArray.empty)), (pEq (.string ByteArray.empty)), (pEq (.int .i64 (0 : Int))), (pEq (.int .i64 (0 : Int))), (pEq (.int .i64 (0 : Int))), (pEq (.int .i64 (0 : Int)))] := ⟨(.agg #[.string ByteArray.empty, .string ByteArray.empty, .string ByteArray.empty, .string ByteArray.empty, .string ByteArray.empty, .int .i64 0, .int .i64 0, .int .i64 0, .int .i64 0]), [.string ByteArray.empty, .string ByteArray.empty, .string ByteArray.empty, .string ByteArray.empty, .string ByteArray.empty, .int .i64 0, .int .i64 0, .int .i64 0, .int .i64 0], fun _ => by kernel_rfl, rfl, fun _ _ => ⟨rfl, ⟨rfl, ⟨rfl, ⟨rfl, ⟨rfl, ⟨rfl, ⟨rfl, ⟨rfl, ⟨rfl, trivial⟩⟩⟩⟩⟩⟩⟩⟩⟩⟩
theorem zero92 : Zero Try.prog 92 [(pEq (.string ByteArray.empty)), (pEq (.int .i64 (0 : Int))), (pEq (.slice none 0 0)), (pEq (.slice none 0 0))] := ⟨(.agg #[.string ByteArray.empty, .int .i64 0, .slice none 0 0, .slice none 0 0]), [.string ByteArray.empty, .int .i64 0, .slice none 0 0, .slice none 0 0], fun _ => by kernel_rfl, rfl, fun _ _ => ⟨rfl, ⟨rfl, ⟨rfl, ⟨rfl, trivial⟩⟩⟩⟩⟩
theorem zero96 : Zero Try.prog 96 [(pEq (.string ByteArray.empty)), (pEq (.int .i64 (0 : Int))), (pEq (.int .i64 (0 : Int))), (pEq (.int .i64 (0 : Int))), (pEq (.int .i64 (0 : Int))), (pEq (.slice none 0 0))] := ⟨(.agg #[.string ByteArray.empty, .int .i64 0, .int .i64 0, .int .i64 0, .int .i64 0, .slice none 0 0]), [.string ByteArray.empty, .int .i64 0, .int .i64 0, .int .i64 0, .int .i64 0, .slice none 0 0], fun _ => by kernel_rfl, rfl, fun _ _ => ⟨rfl, ⟨rfl, ⟨rfl, ⟨rfl, ⟨rfl, ⟨rfl, trivial⟩⟩⟩⟩⟩⟩⟩
theorem zero130 : Zero Try.prog 130 [(pEq (.int .i64 (0 : Int))), (pEq (.int .i64 (0 : Int)))] := ⟨(.agg #[.int .i64 0, .int .i64 0]), [.int .i64 0, .int .i64 0], fun _ => by kernel_rfl, rfl, fun _ _ => ⟨rfl, ⟨rfl, trivial⟩⟩⟩
theorem steql87 {x y : Operand} (a b : GSite) : BinR .eql 87 x y (.agg #[.string a.Name, .string a.Holder, .int .i64 a.Place.X, .int .i64 a.Place.Y]) (.agg #[.string b.Name, .string b.Holder, .int .i64 b.Place.X, .int .i64 b.Place.Y]) (.bool ((a.Name.toList == b.Name.toList) && ((a.Holder.toList == b.Holder.toList) && (((a.Place.X == b.Place.X) && ((a.Place.Y == b.Place.Y) && true)) && true)))) Try.prog := B_steql Try.underlying87 Try.stoodInHeld87 Try.eqGuardType87 (EqF.cons (by decide) Try.isAgg9 rfl rfl (SE_str Try.underlying9) (EqF.cons (by decide) Try.isAgg9 rfl rfl (SE_str Try.underlying9) (EqF.consS (by decide) Try.isAgg85 sz85 rfl rfl Try.underlying85 Try.stoodInHeld85 (EqF.cons (by decide) Try.isAgg2 rfl rfl (SE_int Try.underlying2) (EqF.cons (by decide) Try.isAgg2 rfl rfl (SE_int Try.underlying2) EqF.nil)) EqF.nil)))
theorem stneq87 {x y : Operand} (a b : GSite) : BinR .neq 87 x y (.agg #[.string a.Name, .string a.Holder, .int .i64 a.Place.X, .int .i64 a.Place.Y]) (.agg #[.string b.Name, .string b.Holder, .int .i64 b.Place.X, .int .i64 b.Place.Y]) (.bool (!((a.Name.toList == b.Name.toList) && ((a.Holder.toList == b.Holder.toList) && (((a.Place.X == b.Place.X) && ((a.Place.Y == b.Place.Y) && true)) && true))))) Try.prog := B_stneq Try.underlying87 Try.stoodInHeld87 Try.eqGuardType87 (EqF.cons (by decide) Try.isAgg9 rfl rfl (SE_str Try.underlying9) (EqF.cons (by decide) Try.isAgg9 rfl rfl (SE_str Try.underlying9) (EqF.consS (by decide) Try.isAgg85 sz85 rfl rfl Try.underlying85 Try.stoodInHeld85 (EqF.cons (by decide) Try.isAgg2 rfl rfl (SE_int Try.underlying2) (EqF.cons (by decide) Try.isAgg2 rfl rfl (SE_int Try.underlying2) EqF.nil)) EqF.nil)))
theorem steql89 {x y : Operand} (a b : GSector) : BinR .eql 89 x y (.agg #[.string a.Name, .string a.Site, .string a.Antenna, .string a.Radio, .string a.Band, .int .i64 a.Azimuth, .int .i64 a.Tilt, .int .i64 a.Above, .int .i64 a.Channel]) (.agg #[.string b.Name, .string b.Site, .string b.Antenna, .string b.Radio, .string b.Band, .int .i64 b.Azimuth, .int .i64 b.Tilt, .int .i64 b.Above, .int .i64 b.Channel]) (.bool ((a.Name.toList == b.Name.toList) && ((a.Site.toList == b.Site.toList) && ((a.Antenna.toList == b.Antenna.toList) && ((a.Radio.toList == b.Radio.toList) && ((a.Band.toList == b.Band.toList) && ((a.Azimuth == b.Azimuth) && ((a.Tilt == b.Tilt) && ((a.Above == b.Above) && ((a.Channel == b.Channel) && true)))))))))) Try.prog := B_steql Try.underlying89 Try.stoodInHeld89 Try.eqGuardType89 (EqF.cons (by decide) Try.isAgg9 rfl rfl (SE_str Try.underlying9) (EqF.cons (by decide) Try.isAgg9 rfl rfl (SE_str Try.underlying9) (EqF.cons (by decide) Try.isAgg9 rfl rfl (SE_str Try.underlying9) (EqF.cons (by decide) Try.isAgg9 rfl rfl (SE_str Try.underlying9) (EqF.cons (by decide) Try.isAgg9 rfl rfl (SE_str Try.underlying9) (EqF.cons (by decide) Try.isAgg2 rfl rfl (SE_int Try.underlying2) (EqF.cons (by decide) Try.isAgg2 rfl rfl (SE_int Try.underlying2) (EqF.cons (by decide) Try.isAgg2 rfl rfl (SE_int Try.underlying2) (EqF.cons (by decide) Try.isAgg2 rfl rfl (SE_int Try.underlying2) EqF.nil)))))))))
theorem stneq89 {x y : Operand} (a b : GSector) : BinR .neq 89 x y (.agg #[.string a.Name, .string a.Site, .string a.Antenna, .string a.Radio, .string a.Band, .int .i64 a.Azimuth, .int .i64 a.Tilt, .int .i64 a.Above, .int .i64 a.Channel]) (.agg #[.string b.Name, .string b.Site, .string b.Antenna, .string b.Radio, .string b.Band, .int .i64 b.Azimuth, .int .i64 b.Tilt, .int .i64 b.Above, .int .i64 b.Channel]) (.bool (!((a.Name.toList == b.Name.toList) && ((a.Site.toList == b.Site.toList) && ((a.Antenna.toList == b.Antenna.toList) && ((a.Radio.toList == b.Radio.toList) && ((a.Band.toList == b.Band.toList) && ((a.Azimuth == b.Azimuth) && ((a.Tilt == b.Tilt) && ((a.Above == b.Above) && ((a.Channel == b.Channel) && true))))))))))) Try.prog := B_stneq Try.underlying89 Try.stoodInHeld89 Try.eqGuardType89 (EqF.cons (by decide) Try.isAgg9 rfl rfl (SE_str Try.underlying9) (EqF.cons (by decide) Try.isAgg9 rfl rfl (SE_str Try.underlying9) (EqF.cons (by decide) Try.isAgg9 rfl rfl (SE_str Try.underlying9) (EqF.cons (by decide) Try.isAgg9 rfl rfl (SE_str Try.underlying9) (EqF.cons (by decide) Try.isAgg9 rfl rfl (SE_str Try.underlying9) (EqF.cons (by decide) Try.isAgg2 rfl rfl (SE_int Try.underlying2) (EqF.cons (by decide) Try.isAgg2 rfl rfl (SE_int Try.underlying2) (EqF.cons (by decide) Try.isAgg2 rfl rfl (SE_int Try.underlying2) (EqF.cons (by decide) Try.isAgg2 rfl rfl (SE_int Try.underlying2) EqF.nil)))))))))
theorem steql130 {x y : Operand} (a b : GMode) : BinR .eql 130 x y (.agg #[.int .i64 a.Need, .int .i64 a.Rate]) (.agg #[.int .i64 b.Need, .int .i64 b.Rate]) (.bool ((a.Need == b.Need) && ((a.Rate == b.Rate) && true))) Try.prog := B_steql Try.underlying130 Try.stoodInHeld130 Try.eqGuardType130 (EqF.cons (by decide) Try.isAgg2 rfl rfl (SE_int Try.underlying2) (EqF.cons (by decide) Try.isAgg2 rfl rfl (SE_int Try.underlying2) EqF.nil))
theorem stneq130 {x y : Operand} (a b : GMode) : BinR .neq 130 x y (.agg #[.int .i64 a.Need, .int .i64 a.Rate]) (.agg #[.int .i64 b.Need, .int .i64 b.Rate]) (.bool (!((a.Need == b.Need) && ((a.Rate == b.Rate) && true)))) Try.prog := B_stneq Try.underlying130 Try.stoodInHeld130 Try.eqGuardType130 (EqF.cons (by decide) Try.isAgg2 rfl rfl (SE_int Try.underlying2) (EqF.cons (by decide) Try.isAgg2 rfl rfl (SE_int Try.underlying2) EqF.nil))
theorem el2i : (Try.prog.info? 2).map (fun i => (i.zero, i.size, i.bytes)) = some (some (.int .i64 0), 1, 8) := by kernel_rfl
theorem el2 : Elem Try.prog 2 1 8 (cK .i64) (0 : Int) := by
  obtain ⟨i, h1, h2, h3, h4⟩ := info_parts el2i
  exact ⟨i, (.int .i64 0), [.int .i64 0], h1, h2, h3, h4, rfl, rfl, by decide, fun _ _ => ⟨rfl, trivial⟩, fun _ => rfl, fun _ _ _ _ h => ones_of ((OneCs.cons OneC.int OneCs.nil)) h⟩
theorem el87i : (Try.prog.info? 87).map (fun i => (i.zero, i.size, i.bytes)) = some (some (.agg #[.string ByteArray.empty, .string ByteArray.empty, .int .i64 0, .int .i64 0]), 4, 48) := by kernel_rfl
theorem el87 : Elem Try.prog 87 4 48 cGSite (GSite.mk ByteArray.empty ByteArray.empty (GPoint.mk (0 : Int) (0 : Int))) := by
  obtain ⟨i, h1, h2, h3, h4⟩ := info_parts el87i
  exact ⟨i, (.agg #[.string ByteArray.empty, .string ByteArray.empty, .int .i64 0, .int .i64 0]), [.string ByteArray.empty, .string ByteArray.empty, .int .i64 0, .int .i64 0], h1, h2, h3, h4, rfl, rfl, by decide, fun _ _ => ⟨rfl, ⟨rfl, ⟨rfl, ⟨rfl, trivial⟩⟩⟩⟩, fun _ => rfl, fun _ _ _ _ h => ones_of ((OneCs.cons OneC.str (OneCs.cons OneC.str (OneCs.cons OneC.int (OneCs.cons OneC.int OneCs.nil))))) h⟩
theorem el89i : (Try.prog.info? 89).map (fun i => (i.zero, i.size, i.bytes)) = some (some (.agg #[.string ByteArray.empty, .string ByteArray.empty, .string ByteArray.empty, .string ByteArray.empty, .string ByteArray.empty, .int .i64 0, .int .i64 0, .int .i64 0, .int .i64 0]), 9, 112) := by kernel_rfl
theorem el89 : Elem Try.prog 89 9 112 cGSector (GSector.mk ByteArray.empty ByteArray.empty ByteArray.empty ByteArray.empty ByteArray.empty (0 : Int) (0 : Int) (0 : Int) (0 : Int)) := by
  obtain ⟨i, h1, h2, h3, h4⟩ := info_parts el89i
  exact ⟨i, (.agg #[.string ByteArray.empty, .string ByteArray.empty, .string ByteArray.empty, .string ByteArray.empty, .string ByteArray.empty, .int .i64 0, .int .i64 0, .int .i64 0, .int .i64 0]), [.string ByteArray.empty, .string ByteArray.empty, .string ByteArray.empty, .string ByteArray.empty, .string ByteArray.empty, .int .i64 0, .int .i64 0, .int .i64 0, .int .i64 0], h1, h2, h3, h4, rfl, rfl, by decide, fun _ _ => ⟨rfl, ⟨rfl, ⟨rfl, ⟨rfl, ⟨rfl, ⟨rfl, ⟨rfl, ⟨rfl, ⟨rfl, trivial⟩⟩⟩⟩⟩⟩⟩⟩⟩, fun _ => rfl, fun _ _ _ _ h => ones_of ((OneCs.cons OneC.str (OneCs.cons OneC.str (OneCs.cons OneC.str (OneCs.cons OneC.str (OneCs.cons OneC.str (OneCs.cons OneC.int (OneCs.cons OneC.int (OneCs.cons OneC.int (OneCs.cons OneC.int OneCs.nil)))))))))) h⟩
theorem el92i : (Try.prog.info? 92).map (fun i => (i.zero, i.size, i.bytes)) = some (some (.agg #[.string ByteArray.empty, .int .i64 0, .slice none 0 0, .slice none 0 0]), 4, 72) := by kernel_rfl
theorem el92 : Elem Try.prog 92 4 72 cGAntenna (GAntenna.mk ByteArray.empty (0 : Int) ([] : (List Int)) ([] : (List Int))) := by
  obtain ⟨i, h1, h2, h3, h4⟩ := info_parts el92i
  exact ⟨i, (.agg #[.string ByteArray.empty, .int .i64 0, .slice none 0 0, .slice none 0 0]), [.string ByteArray.empty, .int .i64 0, .slice none 0 0, .slice none 0 0], h1, h2, h3, h4, rfl, rfl, by decide, fun _ _ => ⟨rfl, ⟨rfl, ⟨Pd.nilsl, ⟨Pd.nilsl, trivial⟩⟩⟩⟩, fun _ => rfl, fun _ _ _ _ h => ones_of ((OneCs.cons OneC.str (OneCs.cons OneC.int (OneCs.cons OneC.sl (OneCs.cons OneC.sl OneCs.nil))))) h⟩
theorem el96i : (Try.prog.info? 96).map (fun i => (i.zero, i.size, i.bytes)) = some (some (.agg #[.string ByteArray.empty, .int .i64 0, .int .i64 0, .int .i64 0, .int .i64 0, .slice none 0 0]), 6, 72) := by kernel_rfl
theorem el96 : Elem Try.prog 96 6 72 cGRadio (GRadio.mk ByteArray.empty (0 : Int) (0 : Int) (0 : Int) (0 : Int) ([] : (List GMode))) := by
  obtain ⟨i, h1, h2, h3, h4⟩ := info_parts el96i
  exact ⟨i, (.agg #[.string ByteArray.empty, .int .i64 0, .int .i64 0, .int .i64 0, .int .i64 0, .slice none 0 0]), [.string ByteArray.empty, .int .i64 0, .int .i64 0, .int .i64 0, .int .i64 0, .slice none 0 0], h1, h2, h3, h4, rfl, rfl, by decide, fun _ _ => ⟨rfl, ⟨rfl, ⟨rfl, ⟨rfl, ⟨rfl, ⟨Pd.nilsl, trivial⟩⟩⟩⟩⟩⟩, fun _ => rfl, fun _ _ _ _ h => ones_of ((OneCs.cons OneC.str (OneCs.cons OneC.int (OneCs.cons OneC.int (OneCs.cons OneC.int (OneCs.cons OneC.int (OneCs.cons OneC.sl OneCs.nil))))))) h⟩
theorem el130i : (Try.prog.info? 130).map (fun i => (i.zero, i.size, i.bytes)) = some (some (.agg #[.int .i64 0, .int .i64 0]), 2, 16) := by kernel_rfl
theorem el130 : Elem Try.prog 130 2 16 cGMode (GMode.mk (0 : Int) (0 : Int)) := by
  obtain ⟨i, h1, h2, h3, h4⟩ := info_parts el130i
  exact ⟨i, (.agg #[.int .i64 0, .int .i64 0]), [.int .i64 0, .int .i64 0], h1, h2, h3, h4, rfl, rfl, by decide, fun _ _ => ⟨rfl, ⟨rfl, trivial⟩⟩, fun _ => rfl, fun _ _ _ _ h => ones_of ((OneCs.cons OneC.int (OneCs.cons OneC.int OneCs.nil))) h⟩

theorem c_laws_szSite {a_0 : GSite} {left_1 : Int} {r : Int} (h : m_laws_szSite a_0 left_1 = some r) : CallJ Try.prog 104 [(pAgg (cGSite a_0)), (pEq (.int .i64 left_1))] (pEq (.int .i64 r)) := by
  unfold m_laws_szSite at h
  refine CallJ.enterH Try.func104 rfl Try.ntmps104 rfl fun W I0 H => ?_
  refine Tr.weak (Γ' := [(0, (pAgg (cGSite a_0))), (1, (pEq (.int .i64 left_1)))]) ⟨rfl, rfl, trivial⟩ ?_
  refine Tr.seq ?_
  refine Tr.region ?_
  refine RegL.pure (p := (pPtr (cGSite a_0))) rfl rfl rfl (J_boxA rfl (Opd.tmp rfl)) ?_
  refine RegL.pure (p := (pEq (.int .i64 (0 : Int)))) rfl rfl rfl (J_assign rfl Opd.con) ?_
  refine RegL.nil ?_
  refine Ct.then_tr ?_
  refine Tr.weak (Γ' := [(1, (pEq (.int .i64 left_1))), (2, (pPtr (cGSite a_0)))]) ⟨rfl, rfl, trivial⟩ ?_
  refine Tr.seq ?_
  refine Tr.region ?_
  refine RegL.pure (p := (pEq (.int .i64 left_1))) rfl rfl rfl (J_move rfl (Opd.tmp rfl)) ?_
  refine RegL.pure (p := (pPtr (cS a_0.Name))) rfl rfl rfl (J_fieldAddr rfl Try.underlying120 rfl sz9 (by decide) (Opd.tmp rfl) rfl) ?_
  refine RegL.pure (p := (pEq (.string a_0.Name))) rfl rfl rfl (J_load rfl Try.isAgg9 (Opd.tmp rfl)) ?_
  refine RegL.pure (p := (pEq (.int .i64 (a_0.Name.size : Int)))) rfl rfl rfl (J_slen rfl Try.underlying9 (Opd.tmp rfl) rfl) ?_
  refine RegL.pure (p := (pEq (.int .i64 (w64 (left_1 - (a_0.Name.size : Int)))))) rfl rfl rfl (J_bin rfl (Opd.tmp rfl) (Opd.tmp rfl) B_sub) ?_
  refine RegL.pure (p := (pEq (.int .i64 (w64 (left_1 - (a_0.Name.size : Int)))))) rfl rfl rfl (J_assign rfl (Opd.tmp rfl)) ?_
  refine RegL.nil ?_
  refine Ct.then_tr ?_
  refine Tr.weak (Γ' := [(1, (pEq (.int .i64 (w64 (left_1 - (a_0.Name.size : Int)))))), (2, (pPtr (cGSite a_0)))]) ⟨rfl, rfl, trivial⟩ ?_
  refine Tr.seq ?_
  refine Tr.seq ?_
  refine Tr.region ?_
  refine RegL.pure (p := (pEq (.int .i64 (w64 (left_1 - (a_0.Name.size : Int)))))) rfl rfl rfl (J_move rfl (Opd.tmp rfl)) ?_
  refine RegL.pure (p := (pEq (.bool (decide ((w64 (left_1 - (a_0.Name.size : Int))) < (0 : Int)))))) rfl rfl rfl (J_bin rfl (Opd.tmp rfl) Opd.con B_lss) ?_
  refine RegL.nil ?_
  refine Ct.then_tr ?_
  refine Tr.weak (Γ' := [(1, (pEq (.int .i64 (w64 (left_1 - (a_0.Name.size : Int)))))), (2, (pPtr (cGSite a_0))), (11, (pEq (.bool (decide ((w64 (left_1 - (a_0.Name.size : Int))) < (0 : Int))))))]) ⟨rfl, rfl, rfl, trivial⟩ ?_
  refine Tr.cond (Opd.tmp rfl) (fun hc => ?_) (fun hc => ?_)
  · replace h := bif_t hc h
    refine Tr.seq ?_
    refine Tr.region ?_
    refine RegL.pure (p := (pEq (.int .i64 (-1 : Int)))) rfl rfl rfl (J_assign rfl Opd.con) ?_
    refine RegL.nil ?_
    refine Ct.then_tr ?_
    refine Tr.weak (Γ' := [(4, (pEq (.int .i64 (-1 : Int))))]) ⟨rfl, trivial⟩ ?_
    refine Tr.ret ?_
    refine Ct.then_ret ?_
    replace h := Option.some.inj h; subst h
    exact Ct.retH1 (Ωx := []) () rfl (RvOk.tmp rfl) rfl
  · replace h := bif_f hc h
    refine Tr.skip ?_
    refine Ct.then_tr ?_
    refine Tr.weak (Γ' := [(1, (pEq (.int .i64 (w64 (left_1 - (a_0.Name.size : Int)))))), (2, (pPtr (cGSite a_0)))]) ⟨rfl, rfl, trivial⟩ ?_
    refine Tr.seq ?_
    refine Tr.region ?_
    refine RegL.pure (p := (pEq (.int .i64 (w64 (left_1 - (a_0.Name.size : Int)))))) rfl rfl rfl (J_move rfl (Opd.tmp rfl)) ?_
    refine RegL.pure (p := (pPtr (cS a_0.Holder))) rfl rfl rfl (J_fieldAddr rfl Try.underlying120 rfl sz9 (by decide) (Opd.tmp rfl) rfl) ?_
    refine RegL.pure (p := (pEq (.string a_0.Holder))) rfl rfl rfl (J_load rfl Try.isAgg9 (Opd.tmp rfl)) ?_
    refine RegL.pure (p := (pEq (.int .i64 (a_0.Holder.size : Int)))) rfl rfl rfl (J_slen rfl Try.underlying9 (Opd.tmp rfl) rfl) ?_
    refine RegL.pure (p := (pEq (.int .i64 (w64 ((w64 (left_1 - (a_0.Name.size : Int))) - (a_0.Holder.size : Int)))))) rfl rfl rfl (J_bin rfl (Opd.tmp rfl) (Opd.tmp rfl) B_sub) ?_
    refine RegL.pure (p := (pEq (.int .i64 (w64 ((w64 (left_1 - (a_0.Name.size : Int))) - (a_0.Holder.size : Int)))))) rfl rfl rfl (J_assign rfl (Opd.tmp rfl)) ?_
    refine RegL.nil ?_
    refine Ct.then_tr ?_
    refine Tr.weak (Γ' := [(1, (pEq (.int .i64 (w64 ((w64 (left_1 - (a_0.Name.size : Int))) - (a_0.Holder.size : Int))))))]) ⟨rfl, trivial⟩ ?_
    refine Tr.seq ?_
    refine Tr.seq ?_
    refine Tr.region ?_
    refine RegL.pure (p := (pEq (.int .i64 (w64 ((w64 (left_1 - (a_0.Name.size : Int))) - (a_0.Holder.size : Int)))))) rfl rfl rfl (J_move rfl (Opd.tmp rfl)) ?_
    refine RegL.pure (p := (pEq (.bool (decide ((w64 ((w64 (left_1 - (a_0.Name.size : Int))) - (a_0.Holder.size : Int))) < (0 : Int)))))) rfl rfl rfl (J_bin rfl (Opd.tmp rfl) Opd.con B_lss) ?_
    refine RegL.nil ?_
    refine Ct.then_tr ?_
    refine Tr.weak (Γ' := [(1, (pEq (.int .i64 (w64 ((w64 (left_1 - (a_0.Name.size : Int))) - (a_0.Holder.size : Int)))))), (18, (pEq (.bool (decide ((w64 ((w64 (left_1 - (a_0.Name.size : Int))) - (a_0.Holder.size : Int))) < (0 : Int))))))]) ⟨rfl, rfl, trivial⟩ ?_
    refine Tr.cond (Opd.tmp rfl) (fun hc => ?_) (fun hc => ?_)
    · replace h := bif_t hc h
      refine Tr.seq ?_
      refine Tr.region ?_
      refine RegL.pure (p := (pEq (.int .i64 (-1 : Int)))) rfl rfl rfl (J_assign rfl Opd.con) ?_
      refine RegL.nil ?_
      refine Ct.then_tr ?_
      refine Tr.weak (Γ' := [(4, (pEq (.int .i64 (-1 : Int))))]) ⟨rfl, trivial⟩ ?_
      refine Tr.ret ?_
      refine Ct.then_ret ?_
      replace h := Option.some.inj h; subst h
      exact Ct.retH1 (Ωx := []) () rfl (RvOk.tmp rfl) rfl
    · replace h := bif_f hc h
      refine Tr.skip ?_
      refine Ct.then_tr ?_
      refine Tr.weak (Γ' := [(1, (pEq (.int .i64 (w64 ((w64 (left_1 - (a_0.Name.size : Int))) - (a_0.Holder.size : Int))))))]) ⟨rfl, trivial⟩ ?_
      refine Tr.seq ?_
      refine Tr.region ?_
      refine RegL.pure (p := (pEq (.int .i64 (w64 ((w64 (left_1 - (a_0.Name.size : Int))) - (a_0.Holder.size : Int)))))) rfl rfl rfl (J_move rfl (Opd.tmp rfl)) ?_
      refine RegL.pure (p := (pEq (.int .i64 (w64 ((w64 (left_1 - (a_0.Name.size : Int))) - (a_0.Holder.size : Int)))))) rfl rfl rfl (J_assign rfl (Opd.tmp rfl)) ?_
      refine RegL.nil ?_
      refine Ct.then_tr ?_
      refine Tr.weak (Γ' := [(4, (pEq (.int .i64 (w64 ((w64 (left_1 - (a_0.Name.size : Int))) - (a_0.Holder.size : Int))))))]) ⟨rfl, trivial⟩ ?_
      refine Tr.ret ?_
      replace h := Option.some.inj h; subst h
      exact Ct.retH1 (Ωx := []) () rfl (RvOk.tmp rfl) rfl

theorem c_laws_szSiteS {a_0 : (List GSite)} {left_1 : Int} {r : Int} (h : m_laws_szSiteS a_0 left_1 = some r) : CallJ Try.prog 61 [(pSl 4 cGSite a_0), (pEq (.int .i64 left_1))] (pEq (.int .i64 r)) := by
  unfold m_laws_szSiteS at h
  refine CallJ.enterH Try.func61 rfl Try.ntmps61 rfl fun W I0 H => ?_
  refine Tr.weak (Γ' := [(0, (pSl 4 cGSite a_0)), (1, (pEq (.int .i64 left_1)))]) ⟨rfl, rfl, trivial⟩ ?_
  refine Tr.seq ?_
  refine Tr.region ?_
  refine RegL.pure (p := (pEq (.int .i64 (0 : Int)))) rfl rfl rfl (J_assign rfl Opd.con) ?_
  refine RegL.nil ?_
  refine Ct.then_tr ?_
  refine Tr.weak (Γ' := [(0, (pSl 4 cGSite a_0)), (1, (pEq (.int .i64 left_1)))]) ⟨rfl, rfl, trivial⟩ ?_
  refine Tr.seq ?_
  refine Tr.region ?_
  refine RegL.pure (p := (pEq (.int .i64 left_1))) rfl rfl rfl (J_move rfl (Opd.tmp rfl)) ?_
  refine RegL.pure (p := (pSl 4 cGSite a_0)) rfl rfl rfl (J_move rfl (Opd.tmp rfl)) ?_
  refine RegL.pure (p := (pEq (.int .i64 (a_0.length : Int)))) rfl rfl rfl (J_len rfl Try.underlying49 (Opd.tmp rfl) rfl) ?_
  refine RegL.pure (p := (pEq (.int .i64 (w64 (left_1 - (a_0.length : Int)))))) rfl rfl rfl (J_bin rfl (Opd.tmp rfl) (Opd.tmp rfl) B_sub) ?_
  refine RegL.pure (p := (pEq (.int .i64 (w64 (left_1 - (a_0.length : Int)))))) rfl rfl rfl (J_assign rfl (Opd.tmp rfl)) ?_
  refine RegL.nil ?_
  refine Ct.then_tr ?_
  refine Tr.weak (Γ' := [(0, (pSl 4 cGSite a_0)), (1, (pEq (.int .i64 (w64 (left_1 - (a_0.length : Int))))))]) ⟨rfl, rfl, trivial⟩ ?_
  refine Tr.seq ?_
  refine Tr.seq ?_
  refine Tr.region ?_
  refine RegL.pure (p := (pEq (.int .i64 (w64 (left_1 - (a_0.length : Int)))))) rfl rfl rfl (J_move rfl (Opd.tmp rfl)) ?_
  refine RegL.pure (p := (pEq (.bool (decide ((w64 (left_1 - (a_0.length : Int))) < (0 : Int)))))) rfl rfl rfl (J_bin rfl (Opd.tmp rfl) Opd.con B_lss) ?_
  refine RegL.nil ?_
  refine Ct.then_tr ?_
  refine Tr.weak (Γ' := [(0, (pSl 4 cGSite a_0)), (1, (pEq (.int .i64 (w64 (left_1 - (a_0.length : Int)))))), (11, (pEq (.bool (decide ((w64 (left_1 - (a_0.length : Int))) < (0 : Int))))))]) ⟨rfl, rfl, rfl, trivial⟩ ?_
  refine Tr.cond (Opd.tmp rfl) (fun hc => ?_) (fun hc => ?_)
  · replace h := bif_t hc h
    refine Tr.seq ?_
    refine Tr.region ?_
    refine RegL.pure (p := (pEq (.int .i64 (-1 : Int)))) rfl rfl rfl (J_assign rfl Opd.con) ?_
    refine RegL.nil ?_
    refine Ct.then_tr ?_
    refine Tr.weak (Γ' := [(4, (pEq (.int .i64 (-1 : Int))))]) ⟨rfl, trivial⟩ ?_
    refine Tr.ret ?_
    refine Ct.then_ret ?_
    replace h := Option.some.inj h; subst h
    exact Ct.retH1 (Ωx := []) () rfl (RvOk.tmp rfl) rfl
  · replace h := bif_f hc h
    refine Tr.skip ?_
    refine Ct.then_tr ?_
    refine Tr.weak (Γ' := [(0, (pSl 4 cGSite a_0)), (1, (pEq (.int .i64 (w64 (left_1 - (a_0.length : Int))))))]) ⟨rfl, rfl, trivial⟩ ?_
    refine Tr.seq ?_
    refine Tr.seq ?_
    refine Tr.region ?_
    refine RegL.pure (p := (pEq (.int .i64 (0 : Int)))) rfl rfl rfl (J_assign rfl Opd.con) ?_
    refine RegL.nil ?_
    refine Ct.then_tr ?_
    refine Tr.weak (Γ' := [(0, (pSl 4 cGSite a_0)), (1, (pEq (.int .i64 (w64 (left_1 - (a_0.length : Int)))))), (5, (pEq (.int .i64 (0 : Int))))]) ⟨rfl, rfl, rfl, trivial⟩ ?_
    refine Tr.block ?_
    refine Tr.weak (Γ' := [(0, (pSl 4 cGSite a_0)), (1, (pEq (.int .i64 (w64 (left_1 - (a_0.length : Int)))))), (5, (pEq (.int .i64 (0 : Int))))]) ⟨rfl, rfl, rfl, trivial⟩ ?_
    refine Tr.loop (γ := Unit) (σ := (Int × Int)) (Γσ := fun s g => [(0, (pSl 4 cGSite a_0)), (1, (pEq (.int .i64 s.1))), (5, (pEq (.int .i64 s.2)))]) (Ωσ := fun s g => []) (g := ()) h ?_
    clear h
    rintro ⟨v2, v3⟩ g4 t h
    replace h : m_laws_szSiteS_B1 a_0 v2 v3 = some t := h
    unfold m_laws_szSiteS_B1 at h
    refine Tr.weakO (Γ' := [(0, (pSl 4 cGSite a_0)), (1, (pEq (.int .i64 v2))), (5, (pEq (.int .i64 v3)))]) (Ω' := []) rfl ⟨rfl, rfl, rfl, trivial⟩ ?_
    refine Tr.seq ?_
    refine Tr.seq ?_
    refine Tr.region ?_
    refine RegL.pure (p := (pEq (.int .i64 v3))) rfl rfl rfl (J_move rfl (Opd.tmp rfl)) ?_
    refine RegL.pure (p := (pSl 4 cGSite a_0)) rfl rfl rfl (J_move rfl (Opd.tmp rfl)) ?_
    refine RegL.pure (p := (pEq (.int .i64 (a_0.length : Int)))) rfl rfl rfl (J_len rfl Try.underlying49 (Opd.tmp rfl) rfl) ?_
    refine RegL.pure (p := (pEq (.bool (decide (v3 < (a_0.length : Int)))))) rfl rfl rfl (J_bin rfl (Opd.tmp rfl) (Opd.tmp rfl) B_lss) ?_
    refine RegL.nil ?_
    refine Ct.then_tr ?_
    refine Tr.weak (Γ' := [(0, (pSl 4 cGSite a_0)), (1, (pEq (.int .i64 v2))), (5, (pEq (.int .i64 v3))), (15, (pEq (.bool (decide (v3 < (a_0.length : Int))))))]) ⟨rfl, rfl, rfl, rfl, trivial⟩ ?_
    refine Tr.cond (Opd.tmp rfl) (fun hc => ?_) (fun hc => ?_)
    · replace h := bif_t hc h
      refine Tr.skip ?_
      refine Ct.then_tr ?_
      refine Tr.weak (Γ' := [(0, (pSl 4 cGSite a_0)), (1, (pEq (.int .i64 v2))), (5, (pEq (.int .i64 v3)))]) ⟨rfl, rfl, rfl, trivial⟩ ?_
      refine Tr.seq ?_
      refine Tr.block ?_
      refine Tr.seq ?_
      refine Tr.region ?_
      refine RegL.pure (p := (pSl 4 cGSite a_0)) rfl rfl rfl (J_move rfl (Opd.tmp rfl)) ?_
      refine RegL.pure (p := (pEq (.int .i64 v3))) rfl rfl rfl (J_move rfl (Opd.tmp rfl)) ?_
      replace h := bind_some h; obtain ⟨x5, hx5, h⟩ := h
      refine RegL.pure (p := (pPtr (cGSite x5))) rfl rfl rfl (J_idx rfl Try.underlying49 sz120 (Opd.tmp rfl) (Opd.tmp rfl) hx5) ?_
      refine RegL.pure (p := (pAgg (cGSite x5))) rfl rfl rfl (J_loadA rfl Try.isAgg120 sz120 (Opd.tmp rfl) rfl) ?_
      refine RegL.pure (p := (pEq (.int .i64 v2))) rfl rfl rfl (J_move rfl (Opd.tmp rfl)) ?_
      replace h := bind_some h; obtain ⟨x6, hx6, h⟩ := h
      refine RegL.pure (p := (pEq (.int .i64 x6))) rfl rfl rfl (J_call rfl Try.call104 (c_laws_szSite hx6) (Opds.cons (Opd.tmp rfl) (Opds.cons (Opd.tmp rfl) Opds.nil))) ?_
      refine RegL.pure (p := (pEq (.int .i64 x6))) rfl rfl rfl (J_assign rfl (Opd.tmp rfl)) ?_
      refine RegL.nil ?_
      refine Ct.then_tr ?_
      refine Tr.weak (Γ' := [(0, (pSl 4 cGSite a_0)), (1, (pEq (.int .i64 x6))), (5, (pEq (.int .i64 v3)))]) ⟨rfl, rfl, rfl, trivial⟩ ?_
      refine Tr.seq ?_
      refine Tr.region ?_
      refine RegL.pure (p := (pEq (.int .i64 x6))) rfl rfl rfl (J_move rfl (Opd.tmp rfl)) ?_
      refine RegL.pure (p := (pEq (.bool (decide (x6 < (0 : Int)))))) rfl rfl rfl (J_bin rfl (Opd.tmp rfl) Opd.con B_lss) ?_
      refine RegL.nil ?_
      refine Ct.then_tr ?_
      refine Tr.weak (Γ' := [(0, (pSl 4 cGSite a_0)), (1, (pEq (.int .i64 x6))), (5, (pEq (.int .i64 v3))), (25, (pEq (.bool (decide (x6 < (0 : Int))))))]) ⟨rfl, rfl, rfl, rfl, trivial⟩ ?_
      refine Tr.cond (Opd.tmp rfl) (fun hc => ?_) (fun hc => ?_)
      · replace h := bif_t hc h
        refine Tr.seq ?_
        refine Tr.region ?_
        refine RegL.pure (p := (pEq (.int .i64 (-1 : Int)))) rfl rfl rfl (J_assign rfl Opd.con) ?_
        refine RegL.nil ?_
        refine Ct.then_tr ?_
        refine Tr.weak (Γ' := [(4, (pEq (.int .i64 (-1 : Int))))]) ⟨rfl, trivial⟩ ?_
        refine Tr.ret ?_
        refine Ct.blk_ret ?_
        refine Ct.then_ret ?_
        replace h := map_some h; obtain ⟨r1, h, rfl⟩ := h
        refine Ct.out_ret fun e => ?_
        subst e
        refine Ct.blk_ret ?_
        refine Ct.then_ret ?_
        replace h := Option.some.inj h; subst h
        exact Ct.retH1 (Ωx := []) () rfl (RvOk.tmp rfl) rfl
      · replace h := bif_f hc h
        refine Tr.skip ?_
        refine Ct.blk_normal ?_
        refine Ct.then_tr ?_
        refine Tr.weak (Γ' := [(0, (pSl 4 cGSite a_0)), (1, (pEq (.int .i64 x6))), (5, (pEq (.int .i64 v3)))]) ⟨rfl, rfl, rfl, trivial⟩ ?_
        refine Tr.region ?_
        refine RegL.pure (p := (pEq (.int .i64 v3))) rfl rfl rfl (J_move rfl (Opd.tmp rfl)) ?_
        refine RegL.pure (p := (pEq (.int .i64 (w64 (v3 + (1 : Int)))))) rfl rfl rfl (J_bin rfl (Opd.tmp rfl) Opd.con B_add) ?_
        refine RegL.pure (p := (pEq (.int .i64 (w64 (v3 + (1 : Int)))))) rfl rfl rfl (J_assign rfl (Opd.tmp rfl)) ?_
        refine RegL.nil ?_
        replace h := Option.some.inj h; subst h
        exact Ct.again () rfl ⟨rfl, rfl, rfl, trivial⟩
    · replace h := bif_f hc h
      refine Tr.exit ?_
      refine Ct.then_exit ?_
      replace h := map_some h; obtain ⟨r1, h, rfl⟩ := h
      refine Ct.out_exit fun e => ?_
      subst e
      refine Ct.blk_exit ?_
      refine Ct.then_tr ?_
      refine Tr.weak (Γ' := [(1, (pEq (.int .i64 v2)))]) ⟨rfl, trivial⟩ ?_
      refine Tr.seq ?_
      refine Tr.region ?_
      refine RegL.pure (p := (pEq (.int .i64 v2))) rfl rfl rfl (J_move rfl (Opd.tmp rfl)) ?_
      refine RegL.pure (p := (pEq (.int .i64 v2))) rfl rfl rfl (J_assign rfl (Opd.tmp rfl)) ?_
      refine RegL.nil ?_
      refine Ct.then_tr ?_
      refine Tr.weak (Γ' := [(4, (pEq (.int .i64 v2)))]) ⟨rfl, trivial⟩ ?_
      refine Tr.ret ?_
      replace h := Option.some.inj h; subst h
      exact Ct.retH1 (Ωx := []) () rfl (RvOk.tmp rfl) rfl

theorem c_laws_szSector {a_0 : GSector} {left_1 : Int} {r : Int} (h : m_laws_szSector a_0 left_1 = some r) : CallJ Try.prog 105 [(pAgg (cGSector a_0)), (pEq (.int .i64 left_1))] (pEq (.int .i64 r)) := by
  unfold m_laws_szSector at h
  refine CallJ.enterH Try.func105 rfl Try.ntmps105 rfl fun W I0 H => ?_
  refine Tr.weak (Γ' := [(0, (pAgg (cGSector a_0))), (1, (pEq (.int .i64 left_1)))]) ⟨rfl, rfl, trivial⟩ ?_
  refine Tr.seq ?_
  refine Tr.region ?_
  refine RegL.pure (p := (pPtr (cGSector a_0))) rfl rfl rfl (J_boxA rfl (Opd.tmp rfl)) ?_
  refine RegL.pure (p := (pEq (.int .i64 (0 : Int)))) rfl rfl rfl (J_assign rfl Opd.con) ?_
  refine RegL.nil ?_
  refine Ct.then_tr ?_
  refine Tr.weak (Γ' := [(1, (pEq (.int .i64 left_1))), (2, (pPtr (cGSector a_0)))]) ⟨rfl, rfl, trivial⟩ ?_
  refine Tr.seq ?_
  refine Tr.region ?_
  refine RegL.pure (p := (pEq (.int .i64 left_1))) rfl rfl rfl (J_move rfl (Opd.tmp rfl)) ?_
  refine RegL.pure (p := (pPtr (cS a_0.Name))) rfl rfl rfl (J_fieldAddr rfl Try.underlying122 rfl sz9 (by decide) (Opd.tmp rfl) rfl) ?_
  refine RegL.pure (p := (pEq (.string a_0.Name))) rfl rfl rfl (J_load rfl Try.isAgg9 (Opd.tmp rfl)) ?_
  refine RegL.pure (p := (pEq (.int .i64 (a_0.Name.size : Int)))) rfl rfl rfl (J_slen rfl Try.underlying9 (Opd.tmp rfl) rfl) ?_
  refine RegL.pure (p := (pEq (.int .i64 (w64 (left_1 - (a_0.Name.size : Int)))))) rfl rfl rfl (J_bin rfl (Opd.tmp rfl) (Opd.tmp rfl) B_sub) ?_
  refine RegL.pure (p := (pEq (.int .i64 (w64 (left_1 - (a_0.Name.size : Int)))))) rfl rfl rfl (J_assign rfl (Opd.tmp rfl)) ?_
  refine RegL.nil ?_
  refine Ct.then_tr ?_
  refine Tr.weak (Γ' := [(1, (pEq (.int .i64 (w64 (left_1 - (a_0.Name.size : Int)))))), (2, (pPtr (cGSector a_0)))]) ⟨rfl, rfl, trivial⟩ ?_
  refine Tr.seq ?_
  refine Tr.seq ?_
  refine Tr.region ?_
  refine RegL.pure (p := (pEq (.int .i64 (w64 (left_1 - (a_0.Name.size : Int)))))) rfl rfl rfl (J_move rfl (Opd.tmp rfl)) ?_
  refine RegL.pure (p := (pEq (.bool (decide ((w64 (left_1 - (a_0.Name.size : Int))) < (0 : Int)))))) rfl rfl rfl (J_bin rfl (Opd.tmp rfl) Opd.con B_lss) ?_
  refine RegL.nil ?_
  refine Ct.then_tr ?_
  refine Tr.weak (Γ' := [(1, (pEq (.int .i64 (w64 (left_1 - (a_0.Name.size : Int)))))), (2, (pPtr (cGSector a_0))), (11, (pEq (.bool (decide ((w64 (left_1 - (a_0.Name.size : Int))) < (0 : Int))))))]) ⟨rfl, rfl, rfl, trivial⟩ ?_
  refine Tr.cond (Opd.tmp rfl) (fun hc => ?_) (fun hc => ?_)
  · replace h := bif_t hc h
    refine Tr.seq ?_
    refine Tr.region ?_
    refine RegL.pure (p := (pEq (.int .i64 (-1 : Int)))) rfl rfl rfl (J_assign rfl Opd.con) ?_
    refine RegL.nil ?_
    refine Ct.then_tr ?_
    refine Tr.weak (Γ' := [(4, (pEq (.int .i64 (-1 : Int))))]) ⟨rfl, trivial⟩ ?_
    refine Tr.ret ?_
    refine Ct.then_ret ?_
    replace h := Option.some.inj h; subst h
    exact Ct.retH1 (Ωx := []) () rfl (RvOk.tmp rfl) rfl
  · replace h := bif_f hc h
    refine Tr.skip ?_
    refine Ct.then_tr ?_
    refine Tr.weak (Γ' := [(1, (pEq (.int .i64 (w64 (left_1 - (a_0.Name.size : Int)))))), (2, (pPtr (cGSector a_0)))]) ⟨rfl, rfl, trivial⟩ ?_
    refine Tr.seq ?_
    refine Tr.region ?_
    refine RegL.pure (p := (pEq (.int .i64 (w64 (left_1 - (a_0.Name.size : Int)))))) rfl rfl rfl (J_move rfl (Opd.tmp rfl)) ?_
    refine RegL.pure (p := (pPtr (cS a_0.Site))) rfl rfl rfl (J_fieldAddr rfl Try.underlying122 rfl sz9 (by decide) (Opd.tmp rfl) rfl) ?_
    refine RegL.pure (p := (pEq (.string a_0.Site))) rfl rfl rfl (J_load rfl Try.isAgg9 (Opd.tmp rfl)) ?_
    refine RegL.pure (p := (pEq (.int .i64 (a_0.Site.size : Int)))) rfl rfl rfl (J_slen rfl Try.underlying9 (Opd.tmp rfl) rfl) ?_
    refine RegL.pure (p := (pEq (.int .i64 (w64 ((w64 (left_1 - (a_0.Name.size : Int))) - (a_0.Site.size : Int)))))) rfl rfl rfl (J_bin rfl (Opd.tmp rfl) (Opd.tmp rfl) B_sub) ?_
    refine RegL.pure (p := (pEq (.int .i64 (w64 ((w64 (left_1 - (a_0.Name.size : Int))) - (a_0.Site.size : Int)))))) rfl rfl rfl (J_assign rfl (Opd.tmp rfl)) ?_
    refine RegL.nil ?_
    refine Ct.then_tr ?_
    refine Tr.weak (Γ' := [(1, (pEq (.int .i64 (w64 ((w64 (left_1 - (a_0.Name.size : Int))) - (a_0.Site.size : Int)))))), (2, (pPtr (cGSector a_0)))]) ⟨rfl, rfl, trivial⟩ ?_
    refine Tr.seq ?_
    refine Tr.seq ?_
    refine Tr.region ?_
    refine RegL.pure (p := (pEq (.int .i64 (w64 ((w64 (left_1 - (a_0.Name.size : Int))) - (a_0.Site.size : Int)))))) rfl rfl rfl (J_move rfl (Opd.tmp rfl)) ?_
    refine RegL.pure (p := (pEq (.bool (decide ((w64 ((w64 (left_1 - (a_0.Name.size : Int))) - (a_0.Site.size : Int))) < (0 : Int)))))) rfl rfl rfl (J_bin rfl (Opd.tmp rfl) Opd.con B_lss) ?_
    refine RegL.nil ?_
    refine Ct.then_tr ?_
    refine Tr.weak (Γ' := [(1, (pEq (.int .i64 (w64 ((w64 (left_1 - (a_0.Name.size : Int))) - (a_0.Site.size : Int)))))), (2, (pPtr (cGSector a_0))), (18, (pEq (.bool (decide ((w64 ((w64 (left_1 - (a_0.Name.size : Int))) - (a_0.Site.size : Int))) < (0 : Int))))))]) ⟨rfl, rfl, rfl, trivial⟩ ?_
    refine Tr.cond (Opd.tmp rfl) (fun hc => ?_) (fun hc => ?_)
    · replace h := bif_t hc h
      refine Tr.seq ?_
      refine Tr.region ?_
      refine RegL.pure (p := (pEq (.int .i64 (-1 : Int)))) rfl rfl rfl (J_assign rfl Opd.con) ?_
      refine RegL.nil ?_
      refine Ct.then_tr ?_
      refine Tr.weak (Γ' := [(4, (pEq (.int .i64 (-1 : Int))))]) ⟨rfl, trivial⟩ ?_
      refine Tr.ret ?_
      refine Ct.then_ret ?_
      replace h := Option.some.inj h; subst h
      exact Ct.retH1 (Ωx := []) () rfl (RvOk.tmp rfl) rfl
    · replace h := bif_f hc h
      refine Tr.skip ?_
      refine Ct.then_tr ?_
      refine Tr.weak (Γ' := [(1, (pEq (.int .i64 (w64 ((w64 (left_1 - (a_0.Name.size : Int))) - (a_0.Site.size : Int)))))), (2, (pPtr (cGSector a_0)))]) ⟨rfl, rfl, trivial⟩ ?_
      refine Tr.seq ?_
      refine Tr.region ?_
      refine RegL.pure (p := (pEq (.int .i64 (w64 ((w64 (left_1 - (a_0.Name.size : Int))) - (a_0.Site.size : Int)))))) rfl rfl rfl (J_move rfl (Opd.tmp rfl)) ?_
      refine RegL.pure (p := (pPtr (cS a_0.Antenna))) rfl rfl rfl (J_fieldAddr rfl Try.underlying122 rfl sz9 (by decide) (Opd.tmp rfl) rfl) ?_
      refine RegL.pure (p := (pEq (.string a_0.Antenna))) rfl rfl rfl (J_load rfl Try.isAgg9 (Opd.tmp rfl)) ?_
      refine RegL.pure (p := (pEq (.int .i64 (a_0.Antenna.size : Int)))) rfl rfl rfl (J_slen rfl Try.underlying9 (Opd.tmp rfl) rfl) ?_
      refine RegL.pure (p := (pEq (.int .i64 (w64 ((w64 ((w64 (left_1 - (a_0.Name.size : Int))) - (a_0.Site.size : Int))) - (a_0.Antenna.size : Int)))))) rfl rfl rfl (J_bin rfl (Opd.tmp rfl) (Opd.tmp rfl) B_sub) ?_
      refine RegL.pure (p := (pEq (.int .i64 (w64 ((w64 ((w64 (left_1 - (a_0.Name.size : Int))) - (a_0.Site.size : Int))) - (a_0.Antenna.size : Int)))))) rfl rfl rfl (J_assign rfl (Opd.tmp rfl)) ?_
      refine RegL.nil ?_
      refine Ct.then_tr ?_
      refine Tr.weak (Γ' := [(1, (pEq (.int .i64 (w64 ((w64 ((w64 (left_1 - (a_0.Name.size : Int))) - (a_0.Site.size : Int))) - (a_0.Antenna.size : Int)))))), (2, (pPtr (cGSector a_0)))]) ⟨rfl, rfl, trivial⟩ ?_
      refine Tr.seq ?_
      refine Tr.seq ?_
      refine Tr.region ?_
      refine RegL.pure (p := (pEq (.int .i64 (w64 ((w64 ((w64 (left_1 - (a_0.Name.size : Int))) - (a_0.Site.size : Int))) - (a_0.Antenna.size : Int)))))) rfl rfl rfl (J_move rfl (Opd.tmp rfl)) ?_
      refine RegL.pure (p := (pEq (.bool (decide ((w64 ((w64 ((w64 (left_1 - (a_0.Name.size : Int))) - (a_0.Site.size : Int))) - (a_0.Antenna.size : Int))) < (0 : Int)))))) rfl rfl rfl (J_bin rfl (Opd.tmp rfl) Opd.con B_lss) ?_
      refine RegL.nil ?_
      refine Ct.then_tr ?_
      refine Tr.weak (Γ' := [(1, (pEq (.int .i64 (w64 ((w64 ((w64 (left_1 - (a_0.Name.size : Int))) - (a_0.Site.size : Int))) - (a_0.Antenna.size : Int)))))), (2, (pPtr (cGSector a_0))), (25, (pEq (.bool (decide ((w64 ((w64 ((w64 (left_1 - (a_0.Name.size : Int))) - (a_0.Site.size : Int))) - (a_0.Antenna.size : Int))) < (0 : Int))))))]) ⟨rfl, rfl, rfl, trivial⟩ ?_
      refine Tr.cond (Opd.tmp rfl) (fun hc => ?_) (fun hc => ?_)
      · replace h := bif_t hc h
        refine Tr.seq ?_
        refine Tr.region ?_
        refine RegL.pure (p := (pEq (.int .i64 (-1 : Int)))) rfl rfl rfl (J_assign rfl Opd.con) ?_
        refine RegL.nil ?_
        refine Ct.then_tr ?_
        refine Tr.weak (Γ' := [(4, (pEq (.int .i64 (-1 : Int))))]) ⟨rfl, trivial⟩ ?_
        refine Tr.ret ?_
        refine Ct.then_ret ?_
        replace h := Option.some.inj h; subst h
        exact Ct.retH1 (Ωx := []) () rfl (RvOk.tmp rfl) rfl
      · replace h := bif_f hc h
        refine Tr.skip ?_
        refine Ct.then_tr ?_
        refine Tr.weak (Γ' := [(1, (pEq (.int .i64 (w64 ((w64 ((w64 (left_1 - (a_0.Name.size : Int))) - (a_0.Site.size : Int))) - (a_0.Antenna.size : Int)))))), (2, (pPtr (cGSector a_0)))]) ⟨rfl, rfl, trivial⟩ ?_
        refine Tr.seq ?_
        refine Tr.region ?_
        refine RegL.pure (p := (pEq (.int .i64 (w64 ((w64 ((w64 (left_1 - (a_0.Name.size : Int))) - (a_0.Site.size : Int))) - (a_0.Antenna.size : Int)))))) rfl rfl rfl (J_move rfl (Opd.tmp rfl)) ?_
        refine RegL.pure (p := (pPtr (cS a_0.Radio))) rfl rfl rfl (J_fieldAddr rfl Try.underlying122 rfl sz9 (by decide) (Opd.tmp rfl) rfl) ?_
        refine RegL.pure (p := (pEq (.string a_0.Radio))) rfl rfl rfl (J_load rfl Try.isAgg9 (Opd.tmp rfl)) ?_
        refine RegL.pure (p := (pEq (.int .i64 (a_0.Radio.size : Int)))) rfl rfl rfl (J_slen rfl Try.underlying9 (Opd.tmp rfl) rfl) ?_
        refine RegL.pure (p := (pEq (.int .i64 (w64 ((w64 ((w64 ((w64 (left_1 - (a_0.Name.size : Int))) - (a_0.Site.size : Int))) - (a_0.Antenna.size : Int))) - (a_0.Radio.size : Int)))))) rfl rfl rfl (J_bin rfl (Opd.tmp rfl) (Opd.tmp rfl) B_sub) ?_
        refine RegL.pure (p := (pEq (.int .i64 (w64 ((w64 ((w64 ((w64 (left_1 - (a_0.Name.size : Int))) - (a_0.Site.size : Int))) - (a_0.Antenna.size : Int))) - (a_0.Radio.size : Int)))))) rfl rfl rfl (J_assign rfl (Opd.tmp rfl)) ?_
        refine RegL.nil ?_
        refine Ct.then_tr ?_
        refine Tr.weak (Γ' := [(1, (pEq (.int .i64 (w64 ((w64 ((w64 ((w64 (left_1 - (a_0.Name.size : Int))) - (a_0.Site.size : Int))) - (a_0.Antenna.size : Int))) - (a_0.Radio.size : Int)))))), (2, (pPtr (cGSector a_0)))]) ⟨rfl, rfl, trivial⟩ ?_
        refine Tr.seq ?_
        refine Tr.seq ?_
        refine Tr.region ?_
        refine RegL.pure (p := (pEq (.int .i64 (w64 ((w64 ((w64 ((w64 (left_1 - (a_0.Name.size : Int))) - (a_0.Site.size : Int))) - (a_0.Antenna.size : Int))) - (a_0.Radio.size : Int)))))) rfl rfl rfl (J_move rfl (Opd.tmp rfl)) ?_
        refine RegL.pure (p := (pEq (.bool (decide ((w64 ((w64 ((w64 ((w64 (left_1 - (a_0.Name.size : Int))) - (a_0.Site.size : Int))) - (a_0.Antenna.size : Int))) - (a_0.Radio.size : Int))) < (0 : Int)))))) rfl rfl rfl (J_bin rfl (Opd.tmp rfl) Opd.con B_lss) ?_
        refine RegL.nil ?_
        refine Ct.then_tr ?_
        refine Tr.weak (Γ' := [(1, (pEq (.int .i64 (w64 ((w64 ((w64 ((w64 (left_1 - (a_0.Name.size : Int))) - (a_0.Site.size : Int))) - (a_0.Antenna.size : Int))) - (a_0.Radio.size : Int)))))), (2, (pPtr (cGSector a_0))), (32, (pEq (.bool (decide ((w64 ((w64 ((w64 ((w64 (left_1 - (a_0.Name.size : Int))) - (a_0.Site.size : Int))) - (a_0.Antenna.size : Int))) - (a_0.Radio.size : Int))) < (0 : Int))))))]) ⟨rfl, rfl, rfl, trivial⟩ ?_
        refine Tr.cond (Opd.tmp rfl) (fun hc => ?_) (fun hc => ?_)
        · replace h := bif_t hc h
          refine Tr.seq ?_
          refine Tr.region ?_
          refine RegL.pure (p := (pEq (.int .i64 (-1 : Int)))) rfl rfl rfl (J_assign rfl Opd.con) ?_
          refine RegL.nil ?_
          refine Ct.then_tr ?_
          refine Tr.weak (Γ' := [(4, (pEq (.int .i64 (-1 : Int))))]) ⟨rfl, trivial⟩ ?_
          refine Tr.ret ?_
          refine Ct.then_ret ?_
          replace h := Option.some.inj h; subst h
          exact Ct.retH1 (Ωx := []) () rfl (RvOk.tmp rfl) rfl
        · replace h := bif_f hc h
          refine Tr.skip ?_
          refine Ct.then_tr ?_
          refine Tr.weak (Γ' := [(1, (pEq (.int .i64 (w64 ((w64 ((w64 ((w64 (left_1 - (a_0.Name.size : Int))) - (a_0.Site.size : Int))) - (a_0.Antenna.size : Int))) - (a_0.Radio.size : Int)))))), (2, (pPtr (cGSector a_0)))]) ⟨rfl, rfl, trivial⟩ ?_
          refine Tr.seq ?_
          refine Tr.region ?_
          refine RegL.pure (p := (pEq (.int .i64 (w64 ((w64 ((w64 ((w64 (left_1 - (a_0.Name.size : Int))) - (a_0.Site.size : Int))) - (a_0.Antenna.size : Int))) - (a_0.Radio.size : Int)))))) rfl rfl rfl (J_move rfl (Opd.tmp rfl)) ?_
          refine RegL.pure (p := (pPtr (cS a_0.Band))) rfl rfl rfl (J_fieldAddr rfl Try.underlying122 rfl sz9 (by decide) (Opd.tmp rfl) rfl) ?_
          refine RegL.pure (p := (pEq (.string a_0.Band))) rfl rfl rfl (J_load rfl Try.isAgg9 (Opd.tmp rfl)) ?_
          refine RegL.pure (p := (pEq (.int .i64 (a_0.Band.size : Int)))) rfl rfl rfl (J_slen rfl Try.underlying9 (Opd.tmp rfl) rfl) ?_
          refine RegL.pure (p := (pEq (.int .i64 (w64 ((w64 ((w64 ((w64 ((w64 (left_1 - (a_0.Name.size : Int))) - (a_0.Site.size : Int))) - (a_0.Antenna.size : Int))) - (a_0.Radio.size : Int))) - (a_0.Band.size : Int)))))) rfl rfl rfl (J_bin rfl (Opd.tmp rfl) (Opd.tmp rfl) B_sub) ?_
          refine RegL.pure (p := (pEq (.int .i64 (w64 ((w64 ((w64 ((w64 ((w64 (left_1 - (a_0.Name.size : Int))) - (a_0.Site.size : Int))) - (a_0.Antenna.size : Int))) - (a_0.Radio.size : Int))) - (a_0.Band.size : Int)))))) rfl rfl rfl (J_assign rfl (Opd.tmp rfl)) ?_
          refine RegL.nil ?_
          refine Ct.then_tr ?_
          refine Tr.weak (Γ' := [(1, (pEq (.int .i64 (w64 ((w64 ((w64 ((w64 ((w64 (left_1 - (a_0.Name.size : Int))) - (a_0.Site.size : Int))) - (a_0.Antenna.size : Int))) - (a_0.Radio.size : Int))) - (a_0.Band.size : Int))))))]) ⟨rfl, trivial⟩ ?_
          refine Tr.seq ?_
          refine Tr.seq ?_
          refine Tr.region ?_
          refine RegL.pure (p := (pEq (.int .i64 (w64 ((w64 ((w64 ((w64 ((w64 (left_1 - (a_0.Name.size : Int))) - (a_0.Site.size : Int))) - (a_0.Antenna.size : Int))) - (a_0.Radio.size : Int))) - (a_0.Band.size : Int)))))) rfl rfl rfl (J_move rfl (Opd.tmp rfl)) ?_
          refine RegL.pure (p := (pEq (.bool (decide ((w64 ((w64 ((w64 ((w64 ((w64 (left_1 - (a_0.Name.size : Int))) - (a_0.Site.size : Int))) - (a_0.Antenna.size : Int))) - (a_0.Radio.size : Int))) - (a_0.Band.size : Int))) < (0 : Int)))))) rfl rfl rfl (J_bin rfl (Opd.tmp rfl) Opd.con B_lss) ?_
          refine RegL.nil ?_
          refine Ct.then_tr ?_
          refine Tr.weak (Γ' := [(1, (pEq (.int .i64 (w64 ((w64 ((w64 ((w64 ((w64 (left_1 - (a_0.Name.size : Int))) - (a_0.Site.size : Int))) - (a_0.Antenna.size : Int))) - (a_0.Radio.size : Int))) - (a_0.Band.size : Int)))))), (39, (pEq (.bool (decide ((w64 ((w64 ((w64 ((w64 ((w64 (left_1 - (a_0.Name.size : Int))) - (a_0.Site.size : Int))) - (a_0.Antenna.size : Int))) - (a_0.Radio.size : Int))) - (a_0.Band.size : Int))) < (0 : Int))))))]) ⟨rfl, rfl, trivial⟩ ?_
          refine Tr.cond (Opd.tmp rfl) (fun hc => ?_) (fun hc => ?_)
          · replace h := bif_t hc h
            refine Tr.seq ?_
            refine Tr.region ?_
            refine RegL.pure (p := (pEq (.int .i64 (-1 : Int)))) rfl rfl rfl (J_assign rfl Opd.con) ?_
            refine RegL.nil ?_
            refine Ct.then_tr ?_
            refine Tr.weak (Γ' := [(4, (pEq (.int .i64 (-1 : Int))))]) ⟨rfl, trivial⟩ ?_
            refine Tr.ret ?_
            refine Ct.then_ret ?_
            replace h := Option.some.inj h; subst h
            exact Ct.retH1 (Ωx := []) () rfl (RvOk.tmp rfl) rfl
          · replace h := bif_f hc h
            refine Tr.skip ?_
            refine Ct.then_tr ?_
            refine Tr.weak (Γ' := [(1, (pEq (.int .i64 (w64 ((w64 ((w64 ((w64 ((w64 (left_1 - (a_0.Name.size : Int))) - (a_0.Site.size : Int))) - (a_0.Antenna.size : Int))) - (a_0.Radio.size : Int))) - (a_0.Band.size : Int))))))]) ⟨rfl, trivial⟩ ?_
            refine Tr.seq ?_
            refine Tr.region ?_
            refine RegL.pure (p := (pEq (.int .i64 (w64 ((w64 ((w64 ((w64 ((w64 (left_1 - (a_0.Name.size : Int))) - (a_0.Site.size : Int))) - (a_0.Antenna.size : Int))) - (a_0.Radio.size : Int))) - (a_0.Band.size : Int)))))) rfl rfl rfl (J_move rfl (Opd.tmp rfl)) ?_
            refine RegL.pure (p := (pEq (.int .i64 (w64 ((w64 ((w64 ((w64 ((w64 (left_1 - (a_0.Name.size : Int))) - (a_0.Site.size : Int))) - (a_0.Antenna.size : Int))) - (a_0.Radio.size : Int))) - (a_0.Band.size : Int)))))) rfl rfl rfl (J_assign rfl (Opd.tmp rfl)) ?_
            refine RegL.nil ?_
            refine Ct.then_tr ?_
            refine Tr.weak (Γ' := [(4, (pEq (.int .i64 (w64 ((w64 ((w64 ((w64 ((w64 (left_1 - (a_0.Name.size : Int))) - (a_0.Site.size : Int))) - (a_0.Antenna.size : Int))) - (a_0.Radio.size : Int))) - (a_0.Band.size : Int))))))]) ⟨rfl, trivial⟩ ?_
            refine Tr.ret ?_
            replace h := Option.some.inj h; subst h
            exact Ct.retH1 (Ωx := []) () rfl (RvOk.tmp rfl) rfl

theorem c_laws_szSectorS {a_0 : (List GSector)} {left_1 : Int} {r : Int} (h : m_laws_szSectorS a_0 left_1 = some r) : CallJ Try.prog 62 [(pSl 9 cGSector a_0), (pEq (.int .i64 left_1))] (pEq (.int .i64 r)) := by
  unfold m_laws_szSectorS at h
  refine CallJ.enterH Try.func62 rfl Try.ntmps62 rfl fun W I0 H => ?_
  refine Tr.weak (Γ' := [(0, (pSl 9 cGSector a_0)), (1, (pEq (.int .i64 left_1)))]) ⟨rfl, rfl, trivial⟩ ?_
  refine Tr.seq ?_
  refine Tr.region ?_
  refine RegL.pure (p := (pEq (.int .i64 (0 : Int)))) rfl rfl rfl (J_assign rfl Opd.con) ?_
  refine RegL.nil ?_
  refine Ct.then_tr ?_
  refine Tr.weak (Γ' := [(0, (pSl 9 cGSector a_0)), (1, (pEq (.int .i64 left_1)))]) ⟨rfl, rfl, trivial⟩ ?_
  refine Tr.seq ?_
  refine Tr.region ?_
  refine RegL.pure (p := (pEq (.int .i64 left_1))) rfl rfl rfl (J_move rfl (Opd.tmp rfl)) ?_
  refine RegL.pure (p := (pSl 9 cGSector a_0)) rfl rfl rfl (J_move rfl (Opd.tmp rfl)) ?_
  refine RegL.pure (p := (pEq (.int .i64 (a_0.length : Int)))) rfl rfl rfl (J_len rfl Try.underlying50 (Opd.tmp rfl) rfl) ?_
  refine RegL.pure (p := (pEq (.int .i64 (w64 (left_1 - (a_0.length : Int)))))) rfl rfl rfl (J_bin rfl (Opd.tmp rfl) (Opd.tmp rfl) B_sub) ?_
  refine RegL.pure (p := (pEq (.int .i64 (w64 (left_1 - (a_0.length : Int)))))) rfl rfl rfl (J_assign rfl (Opd.tmp rfl)) ?_
  refine RegL.nil ?_
  refine Ct.then_tr ?_
  refine Tr.weak (Γ' := [(0, (pSl 9 cGSector a_0)), (1, (pEq (.int .i64 (w64 (left_1 - (a_0.length : Int))))))]) ⟨rfl, rfl, trivial⟩ ?_
  refine Tr.seq ?_
  refine Tr.seq ?_
  refine Tr.region ?_
  refine RegL.pure (p := (pEq (.int .i64 (w64 (left_1 - (a_0.length : Int)))))) rfl rfl rfl (J_move rfl (Opd.tmp rfl)) ?_
  refine RegL.pure (p := (pEq (.bool (decide ((w64 (left_1 - (a_0.length : Int))) < (0 : Int)))))) rfl rfl rfl (J_bin rfl (Opd.tmp rfl) Opd.con B_lss) ?_
  refine RegL.nil ?_
  refine Ct.then_tr ?_
  refine Tr.weak (Γ' := [(0, (pSl 9 cGSector a_0)), (1, (pEq (.int .i64 (w64 (left_1 - (a_0.length : Int)))))), (11, (pEq (.bool (decide ((w64 (left_1 - (a_0.length : Int))) < (0 : Int))))))]) ⟨rfl, rfl, rfl, trivial⟩ ?_
  refine Tr.cond (Opd.tmp rfl) (fun hc => ?_) (fun hc => ?_)
  · replace h := bif_t hc h
    refine Tr.seq ?_
    refine Tr.region ?_
    refine RegL.pure (p := (pEq (.int .i64 (-1 : Int)))) rfl rfl rfl (J_assign rfl Opd.con) ?_
    refine RegL.nil ?_
    refine Ct.then_tr ?_
    refine Tr.weak (Γ' := [(4, (pEq (.int .i64 (-1 : Int))))]) ⟨rfl, trivial⟩ ?_
    refine Tr.ret ?_
    refine Ct.then_ret ?_
    replace h := Option.some.inj h; subst h
    exact Ct.retH1 (Ωx := []) () rfl (RvOk.tmp rfl) rfl
  · replace h := bif_f hc h
    refine Tr.skip ?_
    refine Ct.then_tr ?_
    refine Tr.weak (Γ' := [(0, (pSl 9 cGSector a_0)), (1, (pEq (.int .i64 (w64 (left_1 - (a_0.length : Int))))))]) ⟨rfl, rfl, trivial⟩ ?_
    refine Tr.seq ?_
    refine Tr.seq ?_
    refine Tr.region ?_
    refine RegL.pure (p := (pEq (.int .i64 (0 : Int)))) rfl rfl rfl (J_assign rfl Opd.con) ?_
    refine RegL.nil ?_
    refine Ct.then_tr ?_
    refine Tr.weak (Γ' := [(0, (pSl 9 cGSector a_0)), (1, (pEq (.int .i64 (w64 (left_1 - (a_0.length : Int)))))), (5, (pEq (.int .i64 (0 : Int))))]) ⟨rfl, rfl, rfl, trivial⟩ ?_
    refine Tr.block ?_
    refine Tr.weak (Γ' := [(0, (pSl 9 cGSector a_0)), (1, (pEq (.int .i64 (w64 (left_1 - (a_0.length : Int)))))), (5, (pEq (.int .i64 (0 : Int))))]) ⟨rfl, rfl, rfl, trivial⟩ ?_
    refine Tr.loop (γ := Unit) (σ := (Int × Int)) (Γσ := fun s g => [(0, (pSl 9 cGSector a_0)), (1, (pEq (.int .i64 s.1))), (5, (pEq (.int .i64 s.2)))]) (Ωσ := fun s g => []) (g := ()) h ?_
    clear h
    rintro ⟨v2, v3⟩ g4 t h
    replace h : m_laws_szSectorS_B1 a_0 v2 v3 = some t := h
    unfold m_laws_szSectorS_B1 at h
    refine Tr.weakO (Γ' := [(0, (pSl 9 cGSector a_0)), (1, (pEq (.int .i64 v2))), (5, (pEq (.int .i64 v3)))]) (Ω' := []) rfl ⟨rfl, rfl, rfl, trivial⟩ ?_
    refine Tr.seq ?_
    refine Tr.seq ?_
    refine Tr.region ?_
    refine RegL.pure (p := (pEq (.int .i64 v3))) rfl rfl rfl (J_move rfl (Opd.tmp rfl)) ?_
    refine RegL.pure (p := (pSl 9 cGSector a_0)) rfl rfl rfl (J_move rfl (Opd.tmp rfl)) ?_
    refine RegL.pure (p := (pEq (.int .i64 (a_0.length : Int)))) rfl rfl rfl (J_len rfl Try.underlying50 (Opd.tmp rfl) rfl) ?_
    refine RegL.pure (p := (pEq (.bool (decide (v3 < (a_0.length : Int)))))) rfl rfl rfl (J_bin rfl (Opd.tmp rfl) (Opd.tmp rfl) B_lss) ?_
    refine RegL.nil ?_
    refine Ct.then_tr ?_
    refine Tr.weak (Γ' := [(0, (pSl 9 cGSector a_0)), (1, (pEq (.int .i64 v2))), (5, (pEq (.int .i64 v3))), (15, (pEq (.bool (decide (v3 < (a_0.length : Int))))))]) ⟨rfl, rfl, rfl, rfl, trivial⟩ ?_
    refine Tr.cond (Opd.tmp rfl) (fun hc => ?_) (fun hc => ?_)
    · replace h := bif_t hc h
      refine Tr.skip ?_
      refine Ct.then_tr ?_
      refine Tr.weak (Γ' := [(0, (pSl 9 cGSector a_0)), (1, (pEq (.int .i64 v2))), (5, (pEq (.int .i64 v3)))]) ⟨rfl, rfl, rfl, trivial⟩ ?_
      refine Tr.seq ?_
      refine Tr.block ?_
      refine Tr.seq ?_
      refine Tr.region ?_
      refine RegL.pure (p := (pSl 9 cGSector a_0)) rfl rfl rfl (J_move rfl (Opd.tmp rfl)) ?_
      refine RegL.pure (p := (pEq (.int .i64 v3))) rfl rfl rfl (J_move rfl (Opd.tmp rfl)) ?_
      replace h := bind_some h; obtain ⟨x5, hx5, h⟩ := h
      refine RegL.pure (p := (pPtr (cGSector x5))) rfl rfl rfl (J_idx rfl Try.underlying50 sz122 (Opd.tmp rfl) (Opd.tmp rfl) hx5) ?_
      refine RegL.pure (p := (pAgg (cGSector x5))) rfl rfl rfl (J_loadA rfl Try.isAgg122 sz122 (Opd.tmp rfl) rfl) ?_
      refine RegL.pure (p := (pEq (.int .i64 v2))) rfl rfl rfl (J_move rfl (Opd.tmp rfl)) ?_
      replace h := bind_some h; obtain ⟨x6, hx6, h⟩ := h
      refine RegL.pure (p := (pEq (.int .i64 x6))) rfl rfl rfl (J_call rfl Try.call105 (c_laws_szSector hx6) (Opds.cons (Opd.tmp rfl) (Opds.cons (Opd.tmp rfl) Opds.nil))) ?_
      refine RegL.pure (p := (pEq (.int .i64 x6))) rfl rfl rfl (J_assign rfl (Opd.tmp rfl)) ?_
      refine RegL.nil ?_
      refine Ct.then_tr ?_
      refine Tr.weak (Γ' := [(0, (pSl 9 cGSector a_0)), (1, (pEq (.int .i64 x6))), (5, (pEq (.int .i64 v3)))]) ⟨rfl, rfl, rfl, trivial⟩ ?_
      refine Tr.seq ?_
      refine Tr.region ?_
      refine RegL.pure (p := (pEq (.int .i64 x6))) rfl rfl rfl (J_move rfl (Opd.tmp rfl)) ?_
      refine RegL.pure (p := (pEq (.bool (decide (x6 < (0 : Int)))))) rfl rfl rfl (J_bin rfl (Opd.tmp rfl) Opd.con B_lss) ?_
      refine RegL.nil ?_
      refine Ct.then_tr ?_
      refine Tr.weak (Γ' := [(0, (pSl 9 cGSector a_0)), (1, (pEq (.int .i64 x6))), (5, (pEq (.int .i64 v3))), (25, (pEq (.bool (decide (x6 < (0 : Int))))))]) ⟨rfl, rfl, rfl, rfl, trivial⟩ ?_
      refine Tr.cond (Opd.tmp rfl) (fun hc => ?_) (fun hc => ?_)
      · replace h := bif_t hc h
        refine Tr.seq ?_
        refine Tr.region ?_
        refine RegL.pure (p := (pEq (.int .i64 (-1 : Int)))) rfl rfl rfl (J_assign rfl Opd.con) ?_
        refine RegL.nil ?_
        refine Ct.then_tr ?_
        refine Tr.weak (Γ' := [(4, (pEq (.int .i64 (-1 : Int))))]) ⟨rfl, trivial⟩ ?_
        refine Tr.ret ?_
        refine Ct.blk_ret ?_
        refine Ct.then_ret ?_
        replace h := map_some h; obtain ⟨r1, h, rfl⟩ := h
        refine Ct.out_ret fun e => ?_
        subst e
        refine Ct.blk_ret ?_
        refine Ct.then_ret ?_
        replace h := Option.some.inj h; subst h
        exact Ct.retH1 (Ωx := []) () rfl (RvOk.tmp rfl) rfl
      · replace h := bif_f hc h
        refine Tr.skip ?_
        refine Ct.blk_normal ?_
        refine Ct.then_tr ?_
        refine Tr.weak (Γ' := [(0, (pSl 9 cGSector a_0)), (1, (pEq (.int .i64 x6))), (5, (pEq (.int .i64 v3)))]) ⟨rfl, rfl, rfl, trivial⟩ ?_
        refine Tr.region ?_
        refine RegL.pure (p := (pEq (.int .i64 v3))) rfl rfl rfl (J_move rfl (Opd.tmp rfl)) ?_
        refine RegL.pure (p := (pEq (.int .i64 (w64 (v3 + (1 : Int)))))) rfl rfl rfl (J_bin rfl (Opd.tmp rfl) Opd.con B_add) ?_
        refine RegL.pure (p := (pEq (.int .i64 (w64 (v3 + (1 : Int)))))) rfl rfl rfl (J_assign rfl (Opd.tmp rfl)) ?_
        refine RegL.nil ?_
        replace h := Option.some.inj h; subst h
        exact Ct.again () rfl ⟨rfl, rfl, rfl, trivial⟩
    · replace h := bif_f hc h
      refine Tr.exit ?_
      refine Ct.then_exit ?_
      replace h := map_some h; obtain ⟨r1, h, rfl⟩ := h
      refine Ct.out_exit fun e => ?_
      subst e
      refine Ct.blk_exit ?_
      refine Ct.then_tr ?_
      refine Tr.weak (Γ' := [(1, (pEq (.int .i64 v2)))]) ⟨rfl, trivial⟩ ?_
      refine Tr.seq ?_
      refine Tr.region ?_
      refine RegL.pure (p := (pEq (.int .i64 v2))) rfl rfl rfl (J_move rfl (Opd.tmp rfl)) ?_
      refine RegL.pure (p := (pEq (.int .i64 v2))) rfl rfl rfl (J_assign rfl (Opd.tmp rfl)) ?_
      refine RegL.nil ?_
      refine Ct.then_tr ?_
      refine Tr.weak (Γ' := [(4, (pEq (.int .i64 v2)))]) ⟨rfl, trivial⟩ ?_
      refine Tr.ret ?_
      replace h := Option.some.inj h; subst h
      exact Ct.retH1 (Ωx := []) () rfl (RvOk.tmp rfl) rfl

theorem c_laws_szInt64S {a_0 : (List Int)} {left_1 : Int} {r : Int} (h : m_laws_szInt64S a_0 left_1 = some r) : CallJ Try.prog 32 [(pSl 1 (cK .i64) a_0), (pEq (.int .i64 left_1))] (pEq (.int .i64 r)) := by
  unfold m_laws_szInt64S at h
  refine CallJ.enterH Try.func32 rfl Try.ntmps32 rfl fun W I0 H => ?_
  refine Tr.weak (Γ' := [(0, (pSl 1 (cK .i64) a_0)), (1, (pEq (.int .i64 left_1)))]) ⟨rfl, rfl, trivial⟩ ?_
  refine Tr.seq ?_
  refine Tr.region ?_
  refine RegL.pure (p := (pEq (.int .i64 (0 : Int)))) rfl rfl rfl (J_assign rfl Opd.con) ?_
  refine RegL.nil ?_
  refine Ct.then_tr ?_
  refine Tr.weak (Γ' := [(0, (pSl 1 (cK .i64) a_0)), (1, (pEq (.int .i64 left_1)))]) ⟨rfl, rfl, trivial⟩ ?_
  refine Tr.seq ?_
  refine Tr.region ?_
  refine RegL.pure (p := (pEq (.int .i64 left_1))) rfl rfl rfl (J_move rfl (Opd.tmp rfl)) ?_
  refine RegL.pure (p := (pSl 1 (cK .i64) a_0)) rfl rfl rfl (J_move rfl (Opd.tmp rfl)) ?_
  refine RegL.pure (p := (pEq (.int .i64 (a_0.length : Int)))) rfl rfl rfl (J_len rfl Try.underlying23 (Opd.tmp rfl) rfl) ?_
  refine RegL.pure (p := (pEq (.int .i64 (w64 (left_1 - (a_0.length : Int)))))) rfl rfl rfl (J_bin rfl (Opd.tmp rfl) (Opd.tmp rfl) B_sub) ?_
  refine RegL.pure (p := (pEq (.int .i64 (w64 (left_1 - (a_0.length : Int)))))) rfl rfl rfl (J_assign rfl (Opd.tmp rfl)) ?_
  refine RegL.nil ?_
  refine Ct.then_tr ?_
  refine Tr.weak (Γ' := [(1, (pEq (.int .i64 (w64 (left_1 - (a_0.length : Int))))))]) ⟨rfl, trivial⟩ ?_
  refine Tr.seq ?_
  refine Tr.seq ?_
  refine Tr.region ?_
  refine RegL.pure (p := (pEq (.int .i64 (w64 (left_1 - (a_0.length : Int)))))) rfl rfl rfl (J_move rfl (Opd.tmp rfl)) ?_
  refine RegL.pure (p := (pEq (.bool (decide ((w64 (left_1 - (a_0.length : Int))) < (0 : Int)))))) rfl rfl rfl (J_bin rfl (Opd.tmp rfl) Opd.con B_lss) ?_
  refine RegL.nil ?_
  refine Ct.then_tr ?_
  refine Tr.weak (Γ' := [(1, (pEq (.int .i64 (w64 (left_1 - (a_0.length : Int)))))), (10, (pEq (.bool (decide ((w64 (left_1 - (a_0.length : Int))) < (0 : Int))))))]) ⟨rfl, rfl, trivial⟩ ?_
  refine Tr.cond (Opd.tmp rfl) (fun hc => ?_) (fun hc => ?_)
  · replace h := bif_t hc h
    refine Tr.seq ?_
    refine Tr.region ?_
    refine RegL.pure (p := (pEq (.int .i64 (-1 : Int)))) rfl rfl rfl (J_assign rfl Opd.con) ?_
    refine RegL.nil ?_
    refine Ct.then_tr ?_
    refine Tr.weak (Γ' := [(4, (pEq (.int .i64 (-1 : Int))))]) ⟨rfl, trivial⟩ ?_
    refine Tr.ret ?_
    refine Ct.then_ret ?_
    replace h := Option.some.inj h; subst h
    exact Ct.retH1 (Ωx := []) () rfl (RvOk.tmp rfl) rfl
  · replace h := bif_f hc h
    refine Tr.skip ?_
    refine Ct.then_tr ?_
    refine Tr.weak (Γ' := [(1, (pEq (.int .i64 (w64 (left_1 - (a_0.length : Int))))))]) ⟨rfl, trivial⟩ ?_
    refine Tr.seq ?_
    refine Tr.region ?_
    refine RegL.pure (p := (pEq (.int .i64 (w64 (left_1 - (a_0.length : Int)))))) rfl rfl rfl (J_move rfl (Opd.tmp rfl)) ?_
    refine RegL.pure (p := (pEq (.int .i64 (w64 (left_1 - (a_0.length : Int)))))) rfl rfl rfl (J_assign rfl (Opd.tmp rfl)) ?_
    refine RegL.nil ?_
    refine Ct.then_tr ?_
    refine Tr.weak (Γ' := [(4, (pEq (.int .i64 (w64 (left_1 - (a_0.length : Int))))))]) ⟨rfl, trivial⟩ ?_
    refine Tr.ret ?_
    replace h := Option.some.inj h; subst h
    exact Ct.retH1 (Ωx := []) () rfl (RvOk.tmp rfl) rfl

theorem c_laws_szAntenna {a_0 : GAntenna} {left_1 : Int} {r : Int} (h : m_laws_szAntenna a_0 left_1 = some r) : CallJ Try.prog 106 [(pAgg (cGAntenna a_0)), (pEq (.int .i64 left_1))] (pEq (.int .i64 r)) := by
  unfold m_laws_szAntenna at h
  refine CallJ.enterH Try.func106 rfl Try.ntmps106 rfl fun W I0 H => ?_
  refine Tr.weak (Γ' := [(0, (pAgg (cGAntenna a_0))), (1, (pEq (.int .i64 left_1)))]) ⟨rfl, rfl, trivial⟩ ?_
  refine Tr.seq ?_
  refine Tr.region ?_
  refine RegL.pure (p := (pPtr (cGAntenna a_0))) rfl rfl rfl (J_boxA rfl (Opd.tmp rfl)) ?_
  refine RegL.pure (p := (pEq (.int .i64 (0 : Int)))) rfl rfl rfl (J_assign rfl Opd.con) ?_
  refine RegL.nil ?_
  refine Ct.then_tr ?_
  refine Tr.weak (Γ' := [(1, (pEq (.int .i64 left_1))), (2, (pPtr (cGAntenna a_0)))]) ⟨rfl, rfl, trivial⟩ ?_
  refine Tr.seq ?_
  refine Tr.region ?_
  refine RegL.pure (p := (pEq (.int .i64 left_1))) rfl rfl rfl (J_move rfl (Opd.tmp rfl)) ?_
  refine RegL.pure (p := (pPtr (cS a_0.Name))) rfl rfl rfl (J_fieldAddr rfl Try.underlying124 rfl sz9 (by decide) (Opd.tmp rfl) rfl) ?_
  refine RegL.pure (p := (pEq (.string a_0.Name))) rfl rfl rfl (J_load rfl Try.isAgg9 (Opd.tmp rfl)) ?_
  refine RegL.pure (p := (pEq (.int .i64 (a_0.Name.size : Int)))) rfl rfl rfl (J_slen rfl Try.underlying9 (Opd.tmp rfl) rfl) ?_
  refine RegL.pure (p := (pEq (.int .i64 (w64 (left_1 - (a_0.Name.size : Int)))))) rfl rfl rfl (J_bin rfl (Opd.tmp rfl) (Opd.tmp rfl) B_sub) ?_
  refine RegL.pure (p := (pEq (.int .i64 (w64 (left_1 - (a_0.Name.size : Int)))))) rfl rfl rfl (J_assign rfl (Opd.tmp rfl)) ?_
  refine RegL.nil ?_
  refine Ct.then_tr ?_
  refine Tr.weak (Γ' := [(1, (pEq (.int .i64 (w64 (left_1 - (a_0.Name.size : Int)))))), (2, (pPtr (cGAntenna a_0)))]) ⟨rfl, rfl, trivial⟩ ?_
  refine Tr.seq ?_
  refine Tr.seq ?_
  refine Tr.region ?_
  refine RegL.pure (p := (pEq (.int .i64 (w64 (left_1 - (a_0.Name.size : Int)))))) rfl rfl rfl (J_move rfl (Opd.tmp rfl)) ?_
  refine RegL.pure (p := (pEq (.bool (decide ((w64 (left_1 - (a_0.Name.size : Int))) < (0 : Int)))))) rfl rfl rfl (J_bin rfl (Opd.tmp rfl) Opd.con B_lss) ?_
  refine RegL.nil ?_
  refine Ct.then_tr ?_
  refine Tr.weak (Γ' := [(1, (pEq (.int .i64 (w64 (left_1 - (a_0.Name.size : Int)))))), (2, (pPtr (cGAntenna a_0))), (11, (pEq (.bool (decide ((w64 (left_1 - (a_0.Name.size : Int))) < (0 : Int))))))]) ⟨rfl, rfl, rfl, trivial⟩ ?_
  refine Tr.cond (Opd.tmp rfl) (fun hc => ?_) (fun hc => ?_)
  · replace h := bif_t hc h
    refine Tr.seq ?_
    refine Tr.region ?_
    refine RegL.pure (p := (pEq (.int .i64 (-1 : Int)))) rfl rfl rfl (J_assign rfl Opd.con) ?_
    refine RegL.nil ?_
    refine Ct.then_tr ?_
    refine Tr.weak (Γ' := [(4, (pEq (.int .i64 (-1 : Int))))]) ⟨rfl, trivial⟩ ?_
    refine Tr.ret ?_
    refine Ct.then_ret ?_
    replace h := Option.some.inj h; subst h
    exact Ct.retH1 (Ωx := []) () rfl (RvOk.tmp rfl) rfl
  · replace h := bif_f hc h
    refine Tr.skip ?_
    refine Ct.then_tr ?_
    refine Tr.weak (Γ' := [(1, (pEq (.int .i64 (w64 (left_1 - (a_0.Name.size : Int)))))), (2, (pPtr (cGAntenna a_0)))]) ⟨rfl, rfl, trivial⟩ ?_
    refine Tr.seq ?_
    refine Tr.region ?_
    refine RegL.pure (p := (pPtr ((cSl 1 (cK .i64)) a_0.Horizontal))) rfl rfl rfl (J_fieldAddr rfl Try.underlying124 rfl sz23 (by decide) (Opd.tmp rfl) rfl) ?_
    refine RegL.pure (p := (pSl 1 (cK .i64) a_0.Horizontal)) rfl rfl rfl (J_load rfl Try.isAgg23 (Opd.tmp rfl)) ?_
    refine RegL.pure (p := (pEq (.int .i64 (w64 (left_1 - (a_0.Name.size : Int)))))) rfl rfl rfl (J_move rfl (Opd.tmp rfl)) ?_
    replace h := bind_some h; obtain ⟨x1, hx1, h⟩ := h
    refine RegL.pure (p := (pEq (.int .i64 x1))) rfl rfl rfl (J_call rfl Try.call32 (c_laws_szInt64S hx1) (Opds.cons (Opd.tmp rfl) (Opds.cons (Opd.tmp rfl) Opds.nil))) ?_
    refine RegL.pure (p := (pEq (.int .i64 x1))) rfl rfl rfl (J_assign rfl (Opd.tmp rfl)) ?_
    refine RegL.nil ?_
    refine Ct.then_tr ?_
    refine Tr.weak (Γ' := [(1, (pEq (.int .i64 x1))), (2, (pPtr (cGAntenna a_0)))]) ⟨rfl, rfl, trivial⟩ ?_
    refine Tr.seq ?_
    refine Tr.seq ?_
    refine Tr.region ?_
    refine RegL.pure (p := (pEq (.int .i64 x1))) rfl rfl rfl (J_move rfl (Opd.tmp rfl)) ?_
    refine RegL.pure (p := (pEq (.bool (decide (x1 < (0 : Int)))))) rfl rfl rfl (J_bin rfl (Opd.tmp rfl) Opd.con B_lss) ?_
    refine RegL.nil ?_
    refine Ct.then_tr ?_
    refine Tr.weak (Γ' := [(1, (pEq (.int .i64 x1))), (2, (pPtr (cGAntenna a_0))), (17, (pEq (.bool (decide (x1 < (0 : Int))))))]) ⟨rfl, rfl, rfl, trivial⟩ ?_
    refine Tr.cond (Opd.tmp rfl) (fun hc => ?_) (fun hc => ?_)
    · replace h := bif_t hc h
      refine Tr.seq ?_
      refine Tr.region ?_
      refine RegL.pure (p := (pEq (.int .i64 (-1 : Int)))) rfl rfl rfl (J_assign rfl Opd.con) ?_
      refine RegL.nil ?_
      refine Ct.then_tr ?_
      refine Tr.weak (Γ' := [(4, (pEq (.int .i64 (-1 : Int))))]) ⟨rfl, trivial⟩ ?_
      refine Tr.ret ?_
      refine Ct.then_ret ?_
      replace h := Option.some.inj h; subst h
      exact Ct.retH1 (Ωx := []) () rfl (RvOk.tmp rfl) rfl
    · replace h := bif_f hc h
      refine Tr.skip ?_
      refine Ct.then_tr ?_
      refine Tr.weak (Γ' := [(1, (pEq (.int .i64 x1))), (2, (pPtr (cGAntenna a_0)))]) ⟨rfl, rfl, trivial⟩ ?_
      refine Tr.seq ?_
      refine Tr.region ?_
      refine RegL.pure (p := (pPtr ((cSl 1 (cK .i64)) a_0.Vertical))) rfl rfl rfl (J_fieldAddr rfl Try.underlying124 rfl sz23 (by decide) (Opd.tmp rfl) rfl) ?_
      refine RegL.pure (p := (pSl 1 (cK .i64) a_0.Vertical)) rfl rfl rfl (J_load rfl Try.isAgg23 (Opd.tmp rfl)) ?_
      refine RegL.pure (p := (pEq (.int .i64 x1))) rfl rfl rfl (J_move rfl (Opd.tmp rfl)) ?_
      replace h := bind_some h; obtain ⟨x2, hx2, h⟩ := h
      refine RegL.pure (p := (pEq (.int .i64 x2))) rfl rfl rfl (J_call rfl Try.call32 (c_laws_szInt64S hx2) (Opds.cons (Opd.tmp rfl) (Opds.cons (Opd.tmp rfl) Opds.nil))) ?_
      refine RegL.pure (p := (pEq (.int .i64 x2))) rfl rfl rfl (J_assign rfl (Opd.tmp rfl)) ?_
      refine RegL.nil ?_
      refine Ct.then_tr ?_
      refine Tr.weak (Γ' := [(1, (pEq (.int .i64 x2)))]) ⟨rfl, trivial⟩ ?_
      refine Tr.seq ?_
      refine Tr.seq ?_
      refine Tr.region ?_
      refine RegL.pure (p := (pEq (.int .i64 x2))) rfl rfl rfl (J_move rfl (Opd.tmp rfl)) ?_
      refine RegL.pure (p := (pEq (.bool (decide (x2 < (0 : Int)))))) rfl rfl rfl (J_bin rfl (Opd.tmp rfl) Opd.con B_lss) ?_
      refine RegL.nil ?_
      refine Ct.then_tr ?_
      refine Tr.weak (Γ' := [(1, (pEq (.int .i64 x2))), (23, (pEq (.bool (decide (x2 < (0 : Int))))))]) ⟨rfl, rfl, trivial⟩ ?_
      refine Tr.cond (Opd.tmp rfl) (fun hc => ?_) (fun hc => ?_)
      · replace h := bif_t hc h
        refine Tr.seq ?_
        refine Tr.region ?_
        refine RegL.pure (p := (pEq (.int .i64 (-1 : Int)))) rfl rfl rfl (J_assign rfl Opd.con) ?_
        refine RegL.nil ?_
        refine Ct.then_tr ?_
        refine Tr.weak (Γ' := [(4, (pEq (.int .i64 (-1 : Int))))]) ⟨rfl, trivial⟩ ?_
        refine Tr.ret ?_
        refine Ct.then_ret ?_
        replace h := Option.some.inj h; subst h
        exact Ct.retH1 (Ωx := []) () rfl (RvOk.tmp rfl) rfl
      · replace h := bif_f hc h
        refine Tr.skip ?_
        refine Ct.then_tr ?_
        refine Tr.weak (Γ' := [(1, (pEq (.int .i64 x2)))]) ⟨rfl, trivial⟩ ?_
        refine Tr.seq ?_
        refine Tr.region ?_
        refine RegL.pure (p := (pEq (.int .i64 x2))) rfl rfl rfl (J_move rfl (Opd.tmp rfl)) ?_
        refine RegL.pure (p := (pEq (.int .i64 x2))) rfl rfl rfl (J_assign rfl (Opd.tmp rfl)) ?_
        refine RegL.nil ?_
        refine Ct.then_tr ?_
        refine Tr.weak (Γ' := [(4, (pEq (.int .i64 x2)))]) ⟨rfl, trivial⟩ ?_
        refine Tr.ret ?_
        replace h := Option.some.inj h; subst h
        exact Ct.retH1 (Ωx := []) () rfl (RvOk.tmp rfl) rfl

theorem c_laws_szAntennaS {a_0 : (List GAntenna)} {left_1 : Int} {r : Int} (h : m_laws_szAntennaS a_0 left_1 = some r) : CallJ Try.prog 63 [(pSl 4 cGAntenna a_0), (pEq (.int .i64 left_1))] (pEq (.int .i64 r)) := by
  unfold m_laws_szAntennaS at h
  refine CallJ.enterH Try.func63 rfl Try.ntmps63 rfl fun W I0 H => ?_
  refine Tr.weak (Γ' := [(0, (pSl 4 cGAntenna a_0)), (1, (pEq (.int .i64 left_1)))]) ⟨rfl, rfl, trivial⟩ ?_
  refine Tr.seq ?_
  refine Tr.region ?_
  refine RegL.pure (p := (pEq (.int .i64 (0 : Int)))) rfl rfl rfl (J_assign rfl Opd.con) ?_
  refine RegL.nil ?_
  refine Ct.then_tr ?_
  refine Tr.weak (Γ' := [(0, (pSl 4 cGAntenna a_0)), (1, (pEq (.int .i64 left_1)))]) ⟨rfl, rfl, trivial⟩ ?_
  refine Tr.seq ?_
  refine Tr.region ?_
  refine RegL.pure (p := (pEq (.int .i64 left_1))) rfl rfl rfl (J_move rfl (Opd.tmp rfl)) ?_
  refine RegL.pure (p := (pSl 4 cGAntenna a_0)) rfl rfl rfl (J_move rfl (Opd.tmp rfl)) ?_
  refine RegL.pure (p := (pEq (.int .i64 (a_0.length : Int)))) rfl rfl rfl (J_len rfl Try.underlying51 (Opd.tmp rfl) rfl) ?_
  refine RegL.pure (p := (pEq (.int .i64 (w64 (left_1 - (a_0.length : Int)))))) rfl rfl rfl (J_bin rfl (Opd.tmp rfl) (Opd.tmp rfl) B_sub) ?_
  refine RegL.pure (p := (pEq (.int .i64 (w64 (left_1 - (a_0.length : Int)))))) rfl rfl rfl (J_assign rfl (Opd.tmp rfl)) ?_
  refine RegL.nil ?_
  refine Ct.then_tr ?_
  refine Tr.weak (Γ' := [(0, (pSl 4 cGAntenna a_0)), (1, (pEq (.int .i64 (w64 (left_1 - (a_0.length : Int))))))]) ⟨rfl, rfl, trivial⟩ ?_
  refine Tr.seq ?_
  refine Tr.seq ?_
  refine Tr.region ?_
  refine RegL.pure (p := (pEq (.int .i64 (w64 (left_1 - (a_0.length : Int)))))) rfl rfl rfl (J_move rfl (Opd.tmp rfl)) ?_
  refine RegL.pure (p := (pEq (.bool (decide ((w64 (left_1 - (a_0.length : Int))) < (0 : Int)))))) rfl rfl rfl (J_bin rfl (Opd.tmp rfl) Opd.con B_lss) ?_
  refine RegL.nil ?_
  refine Ct.then_tr ?_
  refine Tr.weak (Γ' := [(0, (pSl 4 cGAntenna a_0)), (1, (pEq (.int .i64 (w64 (left_1 - (a_0.length : Int)))))), (11, (pEq (.bool (decide ((w64 (left_1 - (a_0.length : Int))) < (0 : Int))))))]) ⟨rfl, rfl, rfl, trivial⟩ ?_
  refine Tr.cond (Opd.tmp rfl) (fun hc => ?_) (fun hc => ?_)
  · replace h := bif_t hc h
    refine Tr.seq ?_
    refine Tr.region ?_
    refine RegL.pure (p := (pEq (.int .i64 (-1 : Int)))) rfl rfl rfl (J_assign rfl Opd.con) ?_
    refine RegL.nil ?_
    refine Ct.then_tr ?_
    refine Tr.weak (Γ' := [(4, (pEq (.int .i64 (-1 : Int))))]) ⟨rfl, trivial⟩ ?_
    refine Tr.ret ?_
    refine Ct.then_ret ?_
    replace h := Option.some.inj h; subst h
    exact Ct.retH1 (Ωx := []) () rfl (RvOk.tmp rfl) rfl
  · replace h := bif_f hc h
    refine Tr.skip ?_
    refine Ct.then_tr ?_
    refine Tr.weak (Γ' := [(0, (pSl 4 cGAntenna a_0)), (1, (pEq (.int .i64 (w64 (left_1 - (a_0.length : Int))))))]) ⟨rfl, rfl, trivial⟩ ?_
    refine Tr.seq ?_
    refine Tr.seq ?_
    refine Tr.region ?_
    refine RegL.pure (p := (pEq (.int .i64 (0 : Int)))) rfl rfl rfl (J_assign rfl Opd.con) ?_
    refine RegL.nil ?_
    refine Ct.then_tr ?_
    refine Tr.weak (Γ' := [(0, (pSl 4 cGAntenna a_0)), (1, (pEq (.int .i64 (w64 (left_1 - (a_0.length : Int)))))), (5, (pEq (.int .i64 (0 : Int))))]) ⟨rfl, rfl, rfl, trivial⟩ ?_
    refine Tr.block ?_
    refine Tr.weak (Γ' := [(0, (pSl 4 cGAntenna a_0)), (1, (pEq (.int .i64 (w64 (left_1 - (a_0.length : Int)))))), (5, (pEq (.int .i64 (0 : Int))))]) ⟨rfl, rfl, rfl, trivial⟩ ?_
    refine Tr.loop (γ := Unit) (σ := (Int × Int)) (Γσ := fun s g => [(0, (pSl 4 cGAntenna a_0)), (1, (pEq (.int .i64 s.1))), (5, (pEq (.int .i64 s.2)))]) (Ωσ := fun s g => []) (g := ()) h ?_
    clear h
    rintro ⟨v2, v3⟩ g4 t h
    replace h : m_laws_szAntennaS_B1 a_0 v2 v3 = some t := h
    unfold m_laws_szAntennaS_B1 at h
    refine Tr.weakO (Γ' := [(0, (pSl 4 cGAntenna a_0)), (1, (pEq (.int .i64 v2))), (5, (pEq (.int .i64 v3)))]) (Ω' := []) rfl ⟨rfl, rfl, rfl, trivial⟩ ?_
    refine Tr.seq ?_
    refine Tr.seq ?_
    refine Tr.region ?_
    refine RegL.pure (p := (pEq (.int .i64 v3))) rfl rfl rfl (J_move rfl (Opd.tmp rfl)) ?_
    refine RegL.pure (p := (pSl 4 cGAntenna a_0)) rfl rfl rfl (J_move rfl (Opd.tmp rfl)) ?_
    refine RegL.pure (p := (pEq (.int .i64 (a_0.length : Int)))) rfl rfl rfl (J_len rfl Try.underlying51 (Opd.tmp rfl) rfl) ?_
    refine RegL.pure (p := (pEq (.bool (decide (v3 < (a_0.length : Int)))))) rfl rfl rfl (J_bin rfl (Opd.tmp rfl) (Opd.tmp rfl) B_lss) ?_
    refine RegL.nil ?_
    refine Ct.then_tr ?_
    refine Tr.weak (Γ' := [(0, (pSl 4 cGAntenna a_0)), (1, (pEq (.int .i64 v2))), (5, (pEq (.int .i64 v3))), (15, (pEq (.bool (decide (v3 < (a_0.length : Int))))))]) ⟨rfl, rfl, rfl, rfl, trivial⟩ ?_
    refine Tr.cond (Opd.tmp rfl) (fun hc => ?_) (fun hc => ?_)
    · replace h := bif_t hc h
      refine Tr.skip ?_
      refine Ct.then_tr ?_
      refine Tr.weak (Γ' := [(0, (pSl 4 cGAntenna a_0)), (1, (pEq (.int .i64 v2))), (5, (pEq (.int .i64 v3)))]) ⟨rfl, rfl, rfl, trivial⟩ ?_
      refine Tr.seq ?_
      refine Tr.block ?_
      refine Tr.seq ?_
      refine Tr.region ?_
      refine RegL.pure (p := (pSl 4 cGAntenna a_0)) rfl rfl rfl (J_move rfl (Opd.tmp rfl)) ?_
      refine RegL.pure (p := (pEq (.int .i64 v3))) rfl rfl rfl (J_move rfl (Opd.tmp rfl)) ?_
      replace h := bind_some h; obtain ⟨x5, hx5, h⟩ := h
      refine RegL.pure (p := (pPtr (cGAntenna x5))) rfl rfl rfl (J_idx rfl Try.underlying51 sz124 (Opd.tmp rfl) (Opd.tmp rfl) hx5) ?_
      refine RegL.pure (p := (pAgg (cGAntenna x5))) rfl rfl rfl (J_loadA rfl Try.isAgg124 sz124 (Opd.tmp rfl) rfl) ?_
      refine RegL.pure (p := (pEq (.int .i64 v2))) rfl rfl rfl (J_move rfl (Opd.tmp rfl)) ?_
      replace h := bind_some h; obtain ⟨x6, hx6, h⟩ := h
      refine RegL.pure (p := (pEq (.int .i64 x6))) rfl rfl rfl (J_call rfl Try.call106 (c_laws_szAntenna hx6) (Opds.cons (Opd.tmp rfl) (Opds.cons (Opd.tmp rfl) Opds.nil))) ?_
      refine RegL.pure (p := (pEq (.int .i64 x6))) rfl rfl rfl (J_assign rfl (Opd.tmp rfl)) ?_
      refine RegL.nil ?_
      refine Ct.then_tr ?_
      refine Tr.weak (Γ' := [(0, (pSl 4 cGAntenna a_0)), (1, (pEq (.int .i64 x6))), (5, (pEq (.int .i64 v3)))]) ⟨rfl, rfl, rfl, trivial⟩ ?_
      refine Tr.seq ?_
      refine Tr.region ?_
      refine RegL.pure (p := (pEq (.int .i64 x6))) rfl rfl rfl (J_move rfl (Opd.tmp rfl)) ?_
      refine RegL.pure (p := (pEq (.bool (decide (x6 < (0 : Int)))))) rfl rfl rfl (J_bin rfl (Opd.tmp rfl) Opd.con B_lss) ?_
      refine RegL.nil ?_
      refine Ct.then_tr ?_
      refine Tr.weak (Γ' := [(0, (pSl 4 cGAntenna a_0)), (1, (pEq (.int .i64 x6))), (5, (pEq (.int .i64 v3))), (25, (pEq (.bool (decide (x6 < (0 : Int))))))]) ⟨rfl, rfl, rfl, rfl, trivial⟩ ?_
      refine Tr.cond (Opd.tmp rfl) (fun hc => ?_) (fun hc => ?_)
      · replace h := bif_t hc h
        refine Tr.seq ?_
        refine Tr.region ?_
        refine RegL.pure (p := (pEq (.int .i64 (-1 : Int)))) rfl rfl rfl (J_assign rfl Opd.con) ?_
        refine RegL.nil ?_
        refine Ct.then_tr ?_
        refine Tr.weak (Γ' := [(4, (pEq (.int .i64 (-1 : Int))))]) ⟨rfl, trivial⟩ ?_
        refine Tr.ret ?_
        refine Ct.blk_ret ?_
        refine Ct.then_ret ?_
        replace h := map_some h; obtain ⟨r1, h, rfl⟩ := h
        refine Ct.out_ret fun e => ?_
        subst e
        refine Ct.blk_ret ?_
        refine Ct.then_ret ?_
        replace h := Option.some.inj h; subst h
        exact Ct.retH1 (Ωx := []) () rfl (RvOk.tmp rfl) rfl
      · replace h := bif_f hc h
        refine Tr.skip ?_
        refine Ct.blk_normal ?_
        refine Ct.then_tr ?_
        refine Tr.weak (Γ' := [(0, (pSl 4 cGAntenna a_0)), (1, (pEq (.int .i64 x6))), (5, (pEq (.int .i64 v3)))]) ⟨rfl, rfl, rfl, trivial⟩ ?_
        refine Tr.region ?_
        refine RegL.pure (p := (pEq (.int .i64 v3))) rfl rfl rfl (J_move rfl (Opd.tmp rfl)) ?_
        refine RegL.pure (p := (pEq (.int .i64 (w64 (v3 + (1 : Int)))))) rfl rfl rfl (J_bin rfl (Opd.tmp rfl) Opd.con B_add) ?_
        refine RegL.pure (p := (pEq (.int .i64 (w64 (v3 + (1 : Int)))))) rfl rfl rfl (J_assign rfl (Opd.tmp rfl)) ?_
        refine RegL.nil ?_
        replace h := Option.some.inj h; subst h
        exact Ct.again () rfl ⟨rfl, rfl, rfl, trivial⟩
    · replace h := bif_f hc h
      refine Tr.exit ?_
      refine Ct.then_exit ?_
      replace h := map_some h; obtain ⟨r1, h, rfl⟩ := h
      refine Ct.out_exit fun e => ?_
      subst e
      refine Ct.blk_exit ?_
      refine Ct.then_tr ?_
      refine Tr.weak (Γ' := [(1, (pEq (.int .i64 v2)))]) ⟨rfl, trivial⟩ ?_
      refine Tr.seq ?_
      refine Tr.region ?_
      refine RegL.pure (p := (pEq (.int .i64 v2))) rfl rfl rfl (J_move rfl (Opd.tmp rfl)) ?_
      refine RegL.pure (p := (pEq (.int .i64 v2))) rfl rfl rfl (J_assign rfl (Opd.tmp rfl)) ?_
      refine RegL.nil ?_
      refine Ct.then_tr ?_
      refine Tr.weak (Γ' := [(4, (pEq (.int .i64 v2)))]) ⟨rfl, trivial⟩ ?_
      refine Tr.ret ?_
      replace h := Option.some.inj h; subst h
      exact Ct.retH1 (Ωx := []) () rfl (RvOk.tmp rfl) rfl

theorem c_laws_szModeS {a_0 : (List GMode)} {left_1 : Int} {r : Int} (h : m_laws_szModeS a_0 left_1 = some r) : CallJ Try.prog 128 [(pSl 2 cGMode a_0), (pEq (.int .i64 left_1))] (pEq (.int .i64 r)) := by
  unfold m_laws_szModeS at h
  refine CallJ.enterH Try.func128 rfl Try.ntmps128 rfl fun W I0 H => ?_
  refine Tr.weak (Γ' := [(0, (pSl 2 cGMode a_0)), (1, (pEq (.int .i64 left_1)))]) ⟨rfl, rfl, trivial⟩ ?_
  refine Tr.seq ?_
  refine Tr.region ?_
  refine RegL.pure (p := (pEq (.int .i64 (0 : Int)))) rfl rfl rfl (J_assign rfl Opd.con) ?_
  refine RegL.nil ?_
  refine Ct.then_tr ?_
  refine Tr.weak (Γ' := [(0, (pSl 2 cGMode a_0)), (1, (pEq (.int .i64 left_1)))]) ⟨rfl, rfl, trivial⟩ ?_
  refine Tr.seq ?_
  refine Tr.region ?_
  refine RegL.pure (p := (pEq (.int .i64 left_1))) rfl rfl rfl (J_move rfl (Opd.tmp rfl)) ?_
  refine RegL.pure (p := (pSl 2 cGMode a_0)) rfl rfl rfl (J_move rfl (Opd.tmp rfl)) ?_
  refine RegL.pure (p := (pEq (.int .i64 (a_0.length : Int)))) rfl rfl rfl (J_len rfl Try.underlying126 (Opd.tmp rfl) rfl) ?_
  refine RegL.pure (p := (pEq (.int .i64 (w64 (left_1 - (a_0.length : Int)))))) rfl rfl rfl (J_bin rfl (Opd.tmp rfl) (Opd.tmp rfl) B_sub) ?_
  refine RegL.pure (p := (pEq (.int .i64 (w64 (left_1 - (a_0.length : Int)))))) rfl rfl rfl (J_assign rfl (Opd.tmp rfl)) ?_
  refine RegL.nil ?_
  refine Ct.then_tr ?_
  refine Tr.weak (Γ' := [(1, (pEq (.int .i64 (w64 (left_1 - (a_0.length : Int))))))]) ⟨rfl, trivial⟩ ?_
  refine Tr.seq ?_
  refine Tr.seq ?_
  refine Tr.region ?_
  refine RegL.pure (p := (pEq (.int .i64 (w64 (left_1 - (a_0.length : Int)))))) rfl rfl rfl (J_move rfl (Opd.tmp rfl)) ?_
  refine RegL.pure (p := (pEq (.bool (decide ((w64 (left_1 - (a_0.length : Int))) < (0 : Int)))))) rfl rfl rfl (J_bin rfl (Opd.tmp rfl) Opd.con B_lss) ?_
  refine RegL.nil ?_
  refine Ct.then_tr ?_
  refine Tr.weak (Γ' := [(1, (pEq (.int .i64 (w64 (left_1 - (a_0.length : Int)))))), (10, (pEq (.bool (decide ((w64 (left_1 - (a_0.length : Int))) < (0 : Int))))))]) ⟨rfl, rfl, trivial⟩ ?_
  refine Tr.cond (Opd.tmp rfl) (fun hc => ?_) (fun hc => ?_)
  · replace h := bif_t hc h
    refine Tr.seq ?_
    refine Tr.region ?_
    refine RegL.pure (p := (pEq (.int .i64 (-1 : Int)))) rfl rfl rfl (J_assign rfl Opd.con) ?_
    refine RegL.nil ?_
    refine Ct.then_tr ?_
    refine Tr.weak (Γ' := [(4, (pEq (.int .i64 (-1 : Int))))]) ⟨rfl, trivial⟩ ?_
    refine Tr.ret ?_
    refine Ct.then_ret ?_
    replace h := Option.some.inj h; subst h
    exact Ct.retH1 (Ωx := []) () rfl (RvOk.tmp rfl) rfl
  · replace h := bif_f hc h
    refine Tr.skip ?_
    refine Ct.then_tr ?_
    refine Tr.weak (Γ' := [(1, (pEq (.int .i64 (w64 (left_1 - (a_0.length : Int))))))]) ⟨rfl, trivial⟩ ?_
    refine Tr.seq ?_
    refine Tr.region ?_
    refine RegL.pure (p := (pEq (.int .i64 (w64 (left_1 - (a_0.length : Int)))))) rfl rfl rfl (J_move rfl (Opd.tmp rfl)) ?_
    refine RegL.pure (p := (pEq (.int .i64 (w64 (left_1 - (a_0.length : Int)))))) rfl rfl rfl (J_assign rfl (Opd.tmp rfl)) ?_
    refine RegL.nil ?_
    refine Ct.then_tr ?_
    refine Tr.weak (Γ' := [(4, (pEq (.int .i64 (w64 (left_1 - (a_0.length : Int))))))]) ⟨rfl, trivial⟩ ?_
    refine Tr.ret ?_
    replace h := Option.some.inj h; subst h
    exact Ct.retH1 (Ωx := []) () rfl (RvOk.tmp rfl) rfl

theorem c_laws_szRadio {a_0 : GRadio} {left_1 : Int} {r : Int} (h : m_laws_szRadio a_0 left_1 = some r) : CallJ Try.prog 107 [(pAgg (cGRadio a_0)), (pEq (.int .i64 left_1))] (pEq (.int .i64 r)) := by
  unfold m_laws_szRadio at h
  refine CallJ.enterH Try.func107 rfl Try.ntmps107 rfl fun W I0 H => ?_
  refine Tr.weak (Γ' := [(0, (pAgg (cGRadio a_0))), (1, (pEq (.int .i64 left_1)))]) ⟨rfl, rfl, trivial⟩ ?_
  refine Tr.seq ?_
  refine Tr.region ?_
  refine RegL.pure (p := (pPtr (cGRadio a_0))) rfl rfl rfl (J_boxA rfl (Opd.tmp rfl)) ?_
  refine RegL.pure (p := (pEq (.int .i64 (0 : Int)))) rfl rfl rfl (J_assign rfl Opd.con) ?_
  refine RegL.nil ?_
  refine Ct.then_tr ?_
  refine Tr.weak (Γ' := [(1, (pEq (.int .i64 left_1))), (2, (pPtr (cGRadio a_0)))]) ⟨rfl, rfl, trivial⟩ ?_
  refine Tr.seq ?_
  refine Tr.region ?_
  refine RegL.pure (p := (pEq (.int .i64 left_1))) rfl rfl rfl (J_move rfl (Opd.tmp rfl)) ?_
  refine RegL.pure (p := (pPtr (cS a_0.Name))) rfl rfl rfl (J_fieldAddr rfl Try.underlying128 rfl sz9 (by decide) (Opd.tmp rfl) rfl) ?_
  refine RegL.pure (p := (pEq (.string a_0.Name))) rfl rfl rfl (J_load rfl Try.isAgg9 (Opd.tmp rfl)) ?_
  refine RegL.pure (p := (pEq (.int .i64 (a_0.Name.size : Int)))) rfl rfl rfl (J_slen rfl Try.underlying9 (Opd.tmp rfl) rfl) ?_
  refine RegL.pure (p := (pEq (.int .i64 (w64 (left_1 - (a_0.Name.size : Int)))))) rfl rfl rfl (J_bin rfl (Opd.tmp rfl) (Opd.tmp rfl) B_sub) ?_
  refine RegL.pure (p := (pEq (.int .i64 (w64 (left_1 - (a_0.Name.size : Int)))))) rfl rfl rfl (J_assign rfl (Opd.tmp rfl)) ?_
  refine RegL.nil ?_
  refine Ct.then_tr ?_
  refine Tr.weak (Γ' := [(1, (pEq (.int .i64 (w64 (left_1 - (a_0.Name.size : Int)))))), (2, (pPtr (cGRadio a_0)))]) ⟨rfl, rfl, trivial⟩ ?_
  refine Tr.seq ?_
  refine Tr.seq ?_
  refine Tr.region ?_
  refine RegL.pure (p := (pEq (.int .i64 (w64 (left_1 - (a_0.Name.size : Int)))))) rfl rfl rfl (J_move rfl (Opd.tmp rfl)) ?_
  refine RegL.pure (p := (pEq (.bool (decide ((w64 (left_1 - (a_0.Name.size : Int))) < (0 : Int)))))) rfl rfl rfl (J_bin rfl (Opd.tmp rfl) Opd.con B_lss) ?_
  refine RegL.nil ?_
  refine Ct.then_tr ?_
  refine Tr.weak (Γ' := [(1, (pEq (.int .i64 (w64 (left_1 - (a_0.Name.size : Int)))))), (2, (pPtr (cGRadio a_0))), (11, (pEq (.bool (decide ((w64 (left_1 - (a_0.Name.size : Int))) < (0 : Int))))))]) ⟨rfl, rfl, rfl, trivial⟩ ?_
  refine Tr.cond (Opd.tmp rfl) (fun hc => ?_) (fun hc => ?_)
  · replace h := bif_t hc h
    refine Tr.seq ?_
    refine Tr.region ?_
    refine RegL.pure (p := (pEq (.int .i64 (-1 : Int)))) rfl rfl rfl (J_assign rfl Opd.con) ?_
    refine RegL.nil ?_
    refine Ct.then_tr ?_
    refine Tr.weak (Γ' := [(4, (pEq (.int .i64 (-1 : Int))))]) ⟨rfl, trivial⟩ ?_
    refine Tr.ret ?_
    refine Ct.then_ret ?_
    replace h := Option.some.inj h; subst h
    exact Ct.retH1 (Ωx := []) () rfl (RvOk.tmp rfl) rfl
  · replace h := bif_f hc h
    refine Tr.skip ?_
    refine Ct.then_tr ?_
    refine Tr.weak (Γ' := [(1, (pEq (.int .i64 (w64 (left_1 - (a_0.Name.size : Int)))))), (2, (pPtr (cGRadio a_0)))]) ⟨rfl, rfl, trivial⟩ ?_
    refine Tr.seq ?_
    refine Tr.region ?_
    refine RegL.pure (p := (pPtr ((cSl 2 cGMode) a_0.Modes))) rfl rfl rfl (J_fieldAddr rfl Try.underlying128 rfl sz126 (by decide) (Opd.tmp rfl) rfl) ?_
    refine RegL.pure (p := (pSl 2 cGMode a_0.Modes)) rfl rfl rfl (J_load rfl Try.isAgg126 (Opd.tmp rfl)) ?_
    refine RegL.pure (p := (pEq (.int .i64 (w64 (left_1 - (a_0.Name.size : Int)))))) rfl rfl rfl (J_move rfl (Opd.tmp rfl)) ?_
    replace h := bind_some h; obtain ⟨x1, hx1, h⟩ := h
    refine RegL.pure (p := (pEq (.int .i64 x1))) rfl rfl rfl (J_call rfl Try.call128 (c_laws_szModeS hx1) (Opds.cons (Opd.tmp rfl) (Opds.cons (Opd.tmp rfl) Opds.nil))) ?_
    refine RegL.pure (p := (pEq (.int .i64 x1))) rfl rfl rfl (J_assign rfl (Opd.tmp rfl)) ?_
    refine RegL.nil ?_
    refine Ct.then_tr ?_
    refine Tr.weak (Γ' := [(1, (pEq (.int .i64 x1)))]) ⟨rfl, trivial⟩ ?_
    refine Tr.seq ?_
    refine Tr.seq ?_
    refine Tr.region ?_
    refine RegL.pure (p := (pEq (.int .i64 x1))) rfl rfl rfl (J_move rfl (Opd.tmp rfl)) ?_
    refine RegL.pure (p := (pEq (.bool (decide (x1 < (0 : Int)))))) rfl rfl rfl (J_bin rfl (Opd.tmp rfl) Opd.con B_lss) ?_
    refine RegL.nil ?_
    refine Ct.then_tr ?_
    refine Tr.weak (Γ' := [(1, (pEq (.int .i64 x1))), (17, (pEq (.bool (decide (x1 < (0 : Int))))))]) ⟨rfl, rfl, trivial⟩ ?_
    refine Tr.cond (Opd.tmp rfl) (fun hc => ?_) (fun hc => ?_)
    · replace h := bif_t hc h
      refine Tr.seq ?_
      refine Tr.region ?_
      refine RegL.pure (p := (pEq (.int .i64 (-1 : Int)))) rfl rfl rfl (J_assign rfl Opd.con) ?_
      refine RegL.nil ?_
      refine Ct.then_tr ?_
      refine Tr.weak (Γ' := [(4, (pEq (.int .i64 (-1 : Int))))]) ⟨rfl, trivial⟩ ?_
      refine Tr.ret ?_
      refine Ct.then_ret ?_
      replace h := Option.some.inj h; subst h
      exact Ct.retH1 (Ωx := []) () rfl (RvOk.tmp rfl) rfl
    · replace h := bif_f hc h
      refine Tr.skip ?_
      refine Ct.then_tr ?_
      refine Tr.weak (Γ' := [(1, (pEq (.int .i64 x1)))]) ⟨rfl, trivial⟩ ?_
      refine Tr.seq ?_
      refine Tr.region ?_
      refine RegL.pure (p := (pEq (.int .i64 x1))) rfl rfl rfl (J_move rfl (Opd.tmp rfl)) ?_
      refine RegL.pure (p := (pEq (.int .i64 x1))) rfl rfl rfl (J_assign rfl (Opd.tmp rfl)) ?_
      refine RegL.nil ?_
      refine Ct.then_tr ?_
      refine Tr.weak (Γ' := [(4, (pEq (.int .i64 x1)))]) ⟨rfl, trivial⟩ ?_
      refine Tr.ret ?_
      replace h := Option.some.inj h; subst h
      exact Ct.retH1 (Ωx := []) () rfl (RvOk.tmp rfl) rfl

theorem c_laws_szRadioS {a_0 : (List GRadio)} {left_1 : Int} {r : Int} (h : m_laws_szRadioS a_0 left_1 = some r) : CallJ Try.prog 64 [(pSl 6 cGRadio a_0), (pEq (.int .i64 left_1))] (pEq (.int .i64 r)) := by
  unfold m_laws_szRadioS at h
  refine CallJ.enterH Try.func64 rfl Try.ntmps64 rfl fun W I0 H => ?_
  refine Tr.weak (Γ' := [(0, (pSl 6 cGRadio a_0)), (1, (pEq (.int .i64 left_1)))]) ⟨rfl, rfl, trivial⟩ ?_
  refine Tr.seq ?_
  refine Tr.region ?_
  refine RegL.pure (p := (pEq (.int .i64 (0 : Int)))) rfl rfl rfl (J_assign rfl Opd.con) ?_
  refine RegL.nil ?_
  refine Ct.then_tr ?_
  refine Tr.weak (Γ' := [(0, (pSl 6 cGRadio a_0)), (1, (pEq (.int .i64 left_1)))]) ⟨rfl, rfl, trivial⟩ ?_
  refine Tr.seq ?_
  refine Tr.region ?_
  refine RegL.pure (p := (pEq (.int .i64 left_1))) rfl rfl rfl (J_move rfl (Opd.tmp rfl)) ?_
  refine RegL.pure (p := (pSl 6 cGRadio a_0)) rfl rfl rfl (J_move rfl (Opd.tmp rfl)) ?_
  refine RegL.pure (p := (pEq (.int .i64 (a_0.length : Int)))) rfl rfl rfl (J_len rfl Try.underlying52 (Opd.tmp rfl) rfl) ?_
  refine RegL.pure (p := (pEq (.int .i64 (w64 (left_1 - (a_0.length : Int)))))) rfl rfl rfl (J_bin rfl (Opd.tmp rfl) (Opd.tmp rfl) B_sub) ?_
  refine RegL.pure (p := (pEq (.int .i64 (w64 (left_1 - (a_0.length : Int)))))) rfl rfl rfl (J_assign rfl (Opd.tmp rfl)) ?_
  refine RegL.nil ?_
  refine Ct.then_tr ?_
  refine Tr.weak (Γ' := [(0, (pSl 6 cGRadio a_0)), (1, (pEq (.int .i64 (w64 (left_1 - (a_0.length : Int))))))]) ⟨rfl, rfl, trivial⟩ ?_
  refine Tr.seq ?_
  refine Tr.seq ?_
  refine Tr.region ?_
  refine RegL.pure (p := (pEq (.int .i64 (w64 (left_1 - (a_0.length : Int)))))) rfl rfl rfl (J_move rfl (Opd.tmp rfl)) ?_
  refine RegL.pure (p := (pEq (.bool (decide ((w64 (left_1 - (a_0.length : Int))) < (0 : Int)))))) rfl rfl rfl (J_bin rfl (Opd.tmp rfl) Opd.con B_lss) ?_
  refine RegL.nil ?_
  refine Ct.then_tr ?_
  refine Tr.weak (Γ' := [(0, (pSl 6 cGRadio a_0)), (1, (pEq (.int .i64 (w64 (left_1 - (a_0.length : Int)))))), (11, (pEq (.bool (decide ((w64 (left_1 - (a_0.length : Int))) < (0 : Int))))))]) ⟨rfl, rfl, rfl, trivial⟩ ?_
  refine Tr.cond (Opd.tmp rfl) (fun hc => ?_) (fun hc => ?_)
  · replace h := bif_t hc h
    refine Tr.seq ?_
    refine Tr.region ?_
    refine RegL.pure (p := (pEq (.int .i64 (-1 : Int)))) rfl rfl rfl (J_assign rfl Opd.con) ?_
    refine RegL.nil ?_
    refine Ct.then_tr ?_
    refine Tr.weak (Γ' := [(4, (pEq (.int .i64 (-1 : Int))))]) ⟨rfl, trivial⟩ ?_
    refine Tr.ret ?_
    refine Ct.then_ret ?_
    replace h := Option.some.inj h; subst h
    exact Ct.retH1 (Ωx := []) () rfl (RvOk.tmp rfl) rfl
  · replace h := bif_f hc h
    refine Tr.skip ?_
    refine Ct.then_tr ?_
    refine Tr.weak (Γ' := [(0, (pSl 6 cGRadio a_0)), (1, (pEq (.int .i64 (w64 (left_1 - (a_0.length : Int))))))]) ⟨rfl, rfl, trivial⟩ ?_
    refine Tr.seq ?_
    refine Tr.seq ?_
    refine Tr.region ?_
    refine RegL.pure (p := (pEq (.int .i64 (0 : Int)))) rfl rfl rfl (J_assign rfl Opd.con) ?_
    refine RegL.nil ?_
    refine Ct.then_tr ?_
    refine Tr.weak (Γ' := [(0, (pSl 6 cGRadio a_0)), (1, (pEq (.int .i64 (w64 (left_1 - (a_0.length : Int)))))), (5, (pEq (.int .i64 (0 : Int))))]) ⟨rfl, rfl, rfl, trivial⟩ ?_
    refine Tr.block ?_
    refine Tr.weak (Γ' := [(0, (pSl 6 cGRadio a_0)), (1, (pEq (.int .i64 (w64 (left_1 - (a_0.length : Int)))))), (5, (pEq (.int .i64 (0 : Int))))]) ⟨rfl, rfl, rfl, trivial⟩ ?_
    refine Tr.loop (γ := Unit) (σ := (Int × Int)) (Γσ := fun s g => [(0, (pSl 6 cGRadio a_0)), (1, (pEq (.int .i64 s.1))), (5, (pEq (.int .i64 s.2)))]) (Ωσ := fun s g => []) (g := ()) h ?_
    clear h
    rintro ⟨v2, v3⟩ g4 t h
    replace h : m_laws_szRadioS_B1 a_0 v2 v3 = some t := h
    unfold m_laws_szRadioS_B1 at h
    refine Tr.weakO (Γ' := [(0, (pSl 6 cGRadio a_0)), (1, (pEq (.int .i64 v2))), (5, (pEq (.int .i64 v3)))]) (Ω' := []) rfl ⟨rfl, rfl, rfl, trivial⟩ ?_
    refine Tr.seq ?_
    refine Tr.seq ?_
    refine Tr.region ?_
    refine RegL.pure (p := (pEq (.int .i64 v3))) rfl rfl rfl (J_move rfl (Opd.tmp rfl)) ?_
    refine RegL.pure (p := (pSl 6 cGRadio a_0)) rfl rfl rfl (J_move rfl (Opd.tmp rfl)) ?_
    refine RegL.pure (p := (pEq (.int .i64 (a_0.length : Int)))) rfl rfl rfl (J_len rfl Try.underlying52 (Opd.tmp rfl) rfl) ?_
    refine RegL.pure (p := (pEq (.bool (decide (v3 < (a_0.length : Int)))))) rfl rfl rfl (J_bin rfl (Opd.tmp rfl) (Opd.tmp rfl) B_lss) ?_
    refine RegL.nil ?_
    refine Ct.then_tr ?_
    refine Tr.weak (Γ' := [(0, (pSl 6 cGRadio a_0)), (1, (pEq (.int .i64 v2))), (5, (pEq (.int .i64 v3))), (15, (pEq (.bool (decide (v3 < (a_0.length : Int))))))]) ⟨rfl, rfl, rfl, rfl, trivial⟩ ?_
    refine Tr.cond (Opd.tmp rfl) (fun hc => ?_) (fun hc => ?_)
    · replace h := bif_t hc h
      refine Tr.skip ?_
      refine Ct.then_tr ?_
      refine Tr.weak (Γ' := [(0, (pSl 6 cGRadio a_0)), (1, (pEq (.int .i64 v2))), (5, (pEq (.int .i64 v3)))]) ⟨rfl, rfl, rfl, trivial⟩ ?_
      refine Tr.seq ?_
      refine Tr.block ?_
      refine Tr.seq ?_
      refine Tr.region ?_
      refine RegL.pure (p := (pSl 6 cGRadio a_0)) rfl rfl rfl (J_move rfl (Opd.tmp rfl)) ?_
      refine RegL.pure (p := (pEq (.int .i64 v3))) rfl rfl rfl (J_move rfl (Opd.tmp rfl)) ?_
      replace h := bind_some h; obtain ⟨x5, hx5, h⟩ := h
      refine RegL.pure (p := (pPtr (cGRadio x5))) rfl rfl rfl (J_idx rfl Try.underlying52 sz128 (Opd.tmp rfl) (Opd.tmp rfl) hx5) ?_
      refine RegL.pure (p := (pAgg (cGRadio x5))) rfl rfl rfl (J_loadA rfl Try.isAgg128 sz128 (Opd.tmp rfl) rfl) ?_
      refine RegL.pure (p := (pEq (.int .i64 v2))) rfl rfl rfl (J_move rfl (Opd.tmp rfl)) ?_
      replace h := bind_some h; obtain ⟨x6, hx6, h⟩ := h
      refine RegL.pure (p := (pEq (.int .i64 x6))) rfl rfl rfl (J_call rfl Try.call107 (c_laws_szRadio hx6) (Opds.cons (Opd.tmp rfl) (Opds.cons (Opd.tmp rfl) Opds.nil))) ?_
      refine RegL.pure (p := (pEq (.int .i64 x6))) rfl rfl rfl (J_assign rfl (Opd.tmp rfl)) ?_
      refine RegL.nil ?_
      refine Ct.then_tr ?_
      refine Tr.weak (Γ' := [(0, (pSl 6 cGRadio a_0)), (1, (pEq (.int .i64 x6))), (5, (pEq (.int .i64 v3)))]) ⟨rfl, rfl, rfl, trivial⟩ ?_
      refine Tr.seq ?_
      refine Tr.region ?_
      refine RegL.pure (p := (pEq (.int .i64 x6))) rfl rfl rfl (J_move rfl (Opd.tmp rfl)) ?_
      refine RegL.pure (p := (pEq (.bool (decide (x6 < (0 : Int)))))) rfl rfl rfl (J_bin rfl (Opd.tmp rfl) Opd.con B_lss) ?_
      refine RegL.nil ?_
      refine Ct.then_tr ?_
      refine Tr.weak (Γ' := [(0, (pSl 6 cGRadio a_0)), (1, (pEq (.int .i64 x6))), (5, (pEq (.int .i64 v3))), (25, (pEq (.bool (decide (x6 < (0 : Int))))))]) ⟨rfl, rfl, rfl, rfl, trivial⟩ ?_
      refine Tr.cond (Opd.tmp rfl) (fun hc => ?_) (fun hc => ?_)
      · replace h := bif_t hc h
        refine Tr.seq ?_
        refine Tr.region ?_
        refine RegL.pure (p := (pEq (.int .i64 (-1 : Int)))) rfl rfl rfl (J_assign rfl Opd.con) ?_
        refine RegL.nil ?_
        refine Ct.then_tr ?_
        refine Tr.weak (Γ' := [(4, (pEq (.int .i64 (-1 : Int))))]) ⟨rfl, trivial⟩ ?_
        refine Tr.ret ?_
        refine Ct.blk_ret ?_
        refine Ct.then_ret ?_
        replace h := map_some h; obtain ⟨r1, h, rfl⟩ := h
        refine Ct.out_ret fun e => ?_
        subst e
        refine Ct.blk_ret ?_
        refine Ct.then_ret ?_
        replace h := Option.some.inj h; subst h
        exact Ct.retH1 (Ωx := []) () rfl (RvOk.tmp rfl) rfl
      · replace h := bif_f hc h
        refine Tr.skip ?_
        refine Ct.blk_normal ?_
        refine Ct.then_tr ?_
        refine Tr.weak (Γ' := [(0, (pSl 6 cGRadio a_0)), (1, (pEq (.int .i64 x6))), (5, (pEq (.int .i64 v3)))]) ⟨rfl, rfl, rfl, trivial⟩ ?_
        refine Tr.region ?_
        refine RegL.pure (p := (pEq (.int .i64 v3))) rfl rfl rfl (J_move rfl (Opd.tmp rfl)) ?_
        refine RegL.pure (p := (pEq (.int .i64 (w64 (v3 + (1 : Int)))))) rfl rfl rfl (J_bin rfl (Opd.tmp rfl) Opd.con B_add) ?_
        refine RegL.pure (p := (pEq (.int .i64 (w64 (v3 + (1 : Int)))))) rfl rfl rfl (J_assign rfl (Opd.tmp rfl)) ?_
        refine RegL.nil ?_
        replace h := Option.some.inj h; subst h
        exact Ct.again () rfl ⟨rfl, rfl, rfl, trivial⟩
    · replace h := bif_f hc h
      refine Tr.exit ?_
      refine Ct.then_exit ?_
      replace h := map_some h; obtain ⟨r1, h, rfl⟩ := h
      refine Ct.out_exit fun e => ?_
      subst e
      refine Ct.blk_exit ?_
      refine Ct.then_tr ?_
      refine Tr.weak (Γ' := [(1, (pEq (.int .i64 v2)))]) ⟨rfl, trivial⟩ ?_
      refine Tr.seq ?_
      refine Tr.region ?_
      refine RegL.pure (p := (pEq (.int .i64 v2))) rfl rfl rfl (J_move rfl (Opd.tmp rfl)) ?_
      refine RegL.pure (p := (pEq (.int .i64 v2))) rfl rfl rfl (J_assign rfl (Opd.tmp rfl)) ?_
      refine RegL.nil ?_
      refine Ct.then_tr ?_
      refine Tr.weak (Γ' := [(4, (pEq (.int .i64 v2)))]) ⟨rfl, trivial⟩ ?_
      refine Tr.ret ?_
      replace h := Option.some.inj h; subst h
      exact Ct.retH1 (Ωx := []) () rfl (RvOk.tmp rfl) rfl

theorem c_laws_szNetwork {a_0 : GNetwork} {left_1 : Int} {r : Int} (h : m_laws_szNetwork a_0 left_1 = some r) : CallJ Try.prog 27 [(pAgg (cGNetwork a_0)), (pEq (.int .i64 left_1))] (pEq (.int .i64 r)) := by
  unfold m_laws_szNetwork at h
  refine CallJ.enterH Try.func27 rfl Try.ntmps27 rfl fun W I0 H => ?_
  refine Tr.weak (Γ' := [(0, (pAgg (cGNetwork a_0))), (1, (pEq (.int .i64 left_1)))]) ⟨rfl, rfl, trivial⟩ ?_
  refine Tr.seq ?_
  refine Tr.region ?_
  refine RegL.pure (p := (pPtr (cGNetwork a_0))) rfl rfl rfl (J_boxA rfl (Opd.tmp rfl)) ?_
  refine RegL.pure (p := (pEq (.int .i64 (0 : Int)))) rfl rfl rfl (J_assign rfl Opd.con) ?_
  refine RegL.nil ?_
  refine Ct.then_tr ?_
  refine Tr.weak (Γ' := [(1, (pEq (.int .i64 left_1))), (2, (pPtr (cGNetwork a_0)))]) ⟨rfl, rfl, trivial⟩ ?_
  refine Tr.seq ?_
  refine Tr.region ?_
  refine RegL.pure (p := (pPtr ((cSl 4 cGSite) a_0.Sites))) rfl rfl rfl (J_fieldAddr rfl Try.underlying54 rfl sz49 (by decide) (Opd.tmp rfl) rfl) ?_
  refine RegL.pure (p := (pSl 4 cGSite a_0.Sites)) rfl rfl rfl (J_load rfl Try.isAgg49 (Opd.tmp rfl)) ?_
  refine RegL.pure (p := (pEq (.int .i64 left_1))) rfl rfl rfl (J_move rfl (Opd.tmp rfl)) ?_
  replace h := bind_some h; obtain ⟨x1, hx1, h⟩ := h
  refine RegL.pure (p := (pEq (.int .i64 x1))) rfl rfl rfl (J_call rfl Try.call61 (c_laws_szSiteS hx1) (Opds.cons (Opd.tmp rfl) (Opds.cons (Opd.tmp rfl) Opds.nil))) ?_
  refine RegL.pure (p := (pEq (.int .i64 x1))) rfl rfl rfl (J_assign rfl (Opd.tmp rfl)) ?_
  refine RegL.nil ?_
  refine Ct.then_tr ?_
  refine Tr.weak (Γ' := [(1, (pEq (.int .i64 x1))), (2, (pPtr (cGNetwork a_0)))]) ⟨rfl, rfl, trivial⟩ ?_
  refine Tr.seq ?_
  refine Tr.seq ?_
  refine Tr.region ?_
  refine RegL.pure (p := (pEq (.int .i64 x1))) rfl rfl rfl (J_move rfl (Opd.tmp rfl)) ?_
  refine RegL.pure (p := (pEq (.bool (decide (x1 < (0 : Int)))))) rfl rfl rfl (J_bin rfl (Opd.tmp rfl) Opd.con B_lss) ?_
  refine RegL.nil ?_
  refine Ct.then_tr ?_
  refine Tr.weak (Γ' := [(1, (pEq (.int .i64 x1))), (2, (pPtr (cGNetwork a_0))), (10, (pEq (.bool (decide (x1 < (0 : Int))))))]) ⟨rfl, rfl, rfl, trivial⟩ ?_
  refine Tr.cond (Opd.tmp rfl) (fun hc => ?_) (fun hc => ?_)
  · replace h := bif_t hc h
    refine Tr.seq ?_
    refine Tr.region ?_
    refine RegL.pure (p := (pEq (.int .i64 (-1 : Int)))) rfl rfl rfl (J_assign rfl Opd.con) ?_
    refine RegL.nil ?_
    refine Ct.then_tr ?_
    refine Tr.weak (Γ' := [(4, (pEq (.int .i64 (-1 : Int))))]) ⟨rfl, trivial⟩ ?_
    refine Tr.ret ?_
    refine Ct.then_ret ?_
    replace h := Option.some.inj h; subst h
    exact Ct.retH1 (Ωx := []) () rfl (RvOk.tmp rfl) rfl
  · replace h := bif_f hc h
    refine Tr.skip ?_
    refine Ct.then_tr ?_
    refine Tr.weak (Γ' := [(1, (pEq (.int .i64 x1))), (2, (pPtr (cGNetwork a_0)))]) ⟨rfl, rfl, trivial⟩ ?_
    refine Tr.seq ?_
    refine Tr.region ?_
    refine RegL.pure (p := (pPtr ((cSl 9 cGSector) a_0.Sectors))) rfl rfl rfl (J_fieldAddr rfl Try.underlying54 rfl sz50 (by decide) (Opd.tmp rfl) rfl) ?_
    refine RegL.pure (p := (pSl 9 cGSector a_0.Sectors)) rfl rfl rfl (J_load rfl Try.isAgg50 (Opd.tmp rfl)) ?_
    refine RegL.pure (p := (pEq (.int .i64 x1))) rfl rfl rfl (J_move rfl (Opd.tmp rfl)) ?_
    replace h := bind_some h; obtain ⟨x2, hx2, h⟩ := h
    refine RegL.pure (p := (pEq (.int .i64 x2))) rfl rfl rfl (J_call rfl Try.call62 (c_laws_szSectorS hx2) (Opds.cons (Opd.tmp rfl) (Opds.cons (Opd.tmp rfl) Opds.nil))) ?_
    refine RegL.pure (p := (pEq (.int .i64 x2))) rfl rfl rfl (J_assign rfl (Opd.tmp rfl)) ?_
    refine RegL.nil ?_
    refine Ct.then_tr ?_
    refine Tr.weak (Γ' := [(1, (pEq (.int .i64 x2))), (2, (pPtr (cGNetwork a_0)))]) ⟨rfl, rfl, trivial⟩ ?_
    refine Tr.seq ?_
    refine Tr.seq ?_
    refine Tr.region ?_
    refine RegL.pure (p := (pEq (.int .i64 x2))) rfl rfl rfl (J_move rfl (Opd.tmp rfl)) ?_
    refine RegL.pure (p := (pEq (.bool (decide (x2 < (0 : Int)))))) rfl rfl rfl (J_bin rfl (Opd.tmp rfl) Opd.con B_lss) ?_
    refine RegL.nil ?_
    refine Ct.then_tr ?_
    refine Tr.weak (Γ' := [(1, (pEq (.int .i64 x2))), (2, (pPtr (cGNetwork a_0))), (16, (pEq (.bool (decide (x2 < (0 : Int))))))]) ⟨rfl, rfl, rfl, trivial⟩ ?_
    refine Tr.cond (Opd.tmp rfl) (fun hc => ?_) (fun hc => ?_)
    · replace h := bif_t hc h
      refine Tr.seq ?_
      refine Tr.region ?_
      refine RegL.pure (p := (pEq (.int .i64 (-1 : Int)))) rfl rfl rfl (J_assign rfl Opd.con) ?_
      refine RegL.nil ?_
      refine Ct.then_tr ?_
      refine Tr.weak (Γ' := [(4, (pEq (.int .i64 (-1 : Int))))]) ⟨rfl, trivial⟩ ?_
      refine Tr.ret ?_
      refine Ct.then_ret ?_
      replace h := Option.some.inj h; subst h
      exact Ct.retH1 (Ωx := []) () rfl (RvOk.tmp rfl) rfl
    · replace h := bif_f hc h
      refine Tr.skip ?_
      refine Ct.then_tr ?_
      refine Tr.weak (Γ' := [(1, (pEq (.int .i64 x2))), (2, (pPtr (cGNetwork a_0)))]) ⟨rfl, rfl, trivial⟩ ?_
      refine Tr.seq ?_
      refine Tr.region ?_
      refine RegL.pure (p := (pPtr ((cSl 4 cGAntenna) a_0.Antennas))) rfl rfl rfl (J_fieldAddr rfl Try.underlying54 rfl sz51 (by decide) (Opd.tmp rfl) rfl) ?_
      refine RegL.pure (p := (pSl 4 cGAntenna a_0.Antennas)) rfl rfl rfl (J_load rfl Try.isAgg51 (Opd.tmp rfl)) ?_
      refine RegL.pure (p := (pEq (.int .i64 x2))) rfl rfl rfl (J_move rfl (Opd.tmp rfl)) ?_
      replace h := bind_some h; obtain ⟨x3, hx3, h⟩ := h
      refine RegL.pure (p := (pEq (.int .i64 x3))) rfl rfl rfl (J_call rfl Try.call63 (c_laws_szAntennaS hx3) (Opds.cons (Opd.tmp rfl) (Opds.cons (Opd.tmp rfl) Opds.nil))) ?_
      refine RegL.pure (p := (pEq (.int .i64 x3))) rfl rfl rfl (J_assign rfl (Opd.tmp rfl)) ?_
      refine RegL.nil ?_
      refine Ct.then_tr ?_
      refine Tr.weak (Γ' := [(1, (pEq (.int .i64 x3))), (2, (pPtr (cGNetwork a_0)))]) ⟨rfl, rfl, trivial⟩ ?_
      refine Tr.seq ?_
      refine Tr.seq ?_
      refine Tr.region ?_
      refine RegL.pure (p := (pEq (.int .i64 x3))) rfl rfl rfl (J_move rfl (Opd.tmp rfl)) ?_
      refine RegL.pure (p := (pEq (.bool (decide (x3 < (0 : Int)))))) rfl rfl rfl (J_bin rfl (Opd.tmp rfl) Opd.con B_lss) ?_
      refine RegL.nil ?_
      refine Ct.then_tr ?_
      refine Tr.weak (Γ' := [(1, (pEq (.int .i64 x3))), (2, (pPtr (cGNetwork a_0))), (22, (pEq (.bool (decide (x3 < (0 : Int))))))]) ⟨rfl, rfl, rfl, trivial⟩ ?_
      refine Tr.cond (Opd.tmp rfl) (fun hc => ?_) (fun hc => ?_)
      · replace h := bif_t hc h
        refine Tr.seq ?_
        refine Tr.region ?_
        refine RegL.pure (p := (pEq (.int .i64 (-1 : Int)))) rfl rfl rfl (J_assign rfl Opd.con) ?_
        refine RegL.nil ?_
        refine Ct.then_tr ?_
        refine Tr.weak (Γ' := [(4, (pEq (.int .i64 (-1 : Int))))]) ⟨rfl, trivial⟩ ?_
        refine Tr.ret ?_
        refine Ct.then_ret ?_
        replace h := Option.some.inj h; subst h
        exact Ct.retH1 (Ωx := []) () rfl (RvOk.tmp rfl) rfl
      · replace h := bif_f hc h
        refine Tr.skip ?_
        refine Ct.then_tr ?_
        refine Tr.weak (Γ' := [(1, (pEq (.int .i64 x3))), (2, (pPtr (cGNetwork a_0)))]) ⟨rfl, rfl, trivial⟩ ?_
        refine Tr.seq ?_
        refine Tr.region ?_
        refine RegL.pure (p := (pPtr ((cSl 6 cGRadio) a_0.Radios))) rfl rfl rfl (J_fieldAddr rfl Try.underlying54 rfl sz52 (by decide) (Opd.tmp rfl) rfl) ?_
        refine RegL.pure (p := (pSl 6 cGRadio a_0.Radios)) rfl rfl rfl (J_load rfl Try.isAgg52 (Opd.tmp rfl)) ?_
        refine RegL.pure (p := (pEq (.int .i64 x3))) rfl rfl rfl (J_move rfl (Opd.tmp rfl)) ?_
        replace h := bind_some h; obtain ⟨x4, hx4, h⟩ := h
        refine RegL.pure (p := (pEq (.int .i64 x4))) rfl rfl rfl (J_call rfl Try.call64 (c_laws_szRadioS hx4) (Opds.cons (Opd.tmp rfl) (Opds.cons (Opd.tmp rfl) Opds.nil))) ?_
        refine RegL.pure (p := (pEq (.int .i64 x4))) rfl rfl rfl (J_assign rfl (Opd.tmp rfl)) ?_
        refine RegL.nil ?_
        refine Ct.then_tr ?_
        refine Tr.weak (Γ' := [(1, (pEq (.int .i64 x4)))]) ⟨rfl, trivial⟩ ?_
        refine Tr.seq ?_
        refine Tr.seq ?_
        refine Tr.region ?_
        refine RegL.pure (p := (pEq (.int .i64 x4))) rfl rfl rfl (J_move rfl (Opd.tmp rfl)) ?_
        refine RegL.pure (p := (pEq (.bool (decide (x4 < (0 : Int)))))) rfl rfl rfl (J_bin rfl (Opd.tmp rfl) Opd.con B_lss) ?_
        refine RegL.nil ?_
        refine Ct.then_tr ?_
        refine Tr.weak (Γ' := [(1, (pEq (.int .i64 x4))), (28, (pEq (.bool (decide (x4 < (0 : Int))))))]) ⟨rfl, rfl, trivial⟩ ?_
        refine Tr.cond (Opd.tmp rfl) (fun hc => ?_) (fun hc => ?_)
        · replace h := bif_t hc h
          refine Tr.seq ?_
          refine Tr.region ?_
          refine RegL.pure (p := (pEq (.int .i64 (-1 : Int)))) rfl rfl rfl (J_assign rfl Opd.con) ?_
          refine RegL.nil ?_
          refine Ct.then_tr ?_
          refine Tr.weak (Γ' := [(4, (pEq (.int .i64 (-1 : Int))))]) ⟨rfl, trivial⟩ ?_
          refine Tr.ret ?_
          refine Ct.then_ret ?_
          replace h := Option.some.inj h; subst h
          exact Ct.retH1 (Ωx := []) () rfl (RvOk.tmp rfl) rfl
        · replace h := bif_f hc h
          refine Tr.skip ?_
          refine Ct.then_tr ?_
          refine Tr.weak (Γ' := [(1, (pEq (.int .i64 x4)))]) ⟨rfl, trivial⟩ ?_
          refine Tr.seq ?_
          refine Tr.region ?_
          refine RegL.pure (p := (pEq (.int .i64 x4))) rfl rfl rfl (J_move rfl (Opd.tmp rfl)) ?_
          refine RegL.pure (p := (pEq (.int .i64 x4))) rfl rfl rfl (J_assign rfl (Opd.tmp rfl)) ?_
          refine RegL.nil ?_
          refine Ct.then_tr ?_
          refine Tr.weak (Γ' := [(4, (pEq (.int .i64 x4)))]) ⟨rfl, trivial⟩ ?_
          refine Tr.ret ?_
          replace h := Option.some.inj h; subst h
          exact Ct.retH1 (Ωx := []) () rfl (RvOk.tmp rfl) rfl

theorem c_laws_toPoint {a_0 : GPoint} {r : GPoint} (h : m_laws_toPoint a_0 = some r) : CallJ Try.prog 129 [(pAgg (cGPoint a_0))] (pAgg (cGPoint r)) := by
  unfold m_laws_toPoint at h
  refine CallJ.enterH Try.func129 rfl Try.ntmps129 rfl fun W I0 H => ?_
  refine Tr.weak (Γ' := [(0, (pAgg (cGPoint a_0)))]) ⟨rfl, trivial⟩ ?_
  refine Tr.seq ?_
  refine Tr.region ?_
  refine RegL.pure (p := (pPtr (cGPoint a_0))) rfl rfl rfl (J_boxA rfl (Opd.tmp rfl)) ?_
  refine RegL.step (γ := Nat) (p := fun b => pEq (.pointer (some ⟨b, 0, none⟩))) (Ω' := fun b => [oBlk b [(pEq (.int .i64 (0 : Int))), (pEq (.int .i64 (0 : Int)))]]) rfl rfl rfl (M_alloc rfl zero85) fun b1 => ?_
  refine RegL.nil ?_
  refine Ct.then_tr ?_
  refine Tr.weak (Γ' := [(1, (pPtr (cGPoint a_0))), (2, (pEq (.pointer (some ⟨b1, 0, none⟩))))]) ⟨rfl, rfl, trivial⟩ ?_
  refine Tr.seq ?_
  refine Tr.region ?_
  refine RegL.step (γ := Nat) (p := fun b => pEq (.pointer (some ⟨b, 0, none⟩))) (Ω' := fun b => [oBlk b [(pEq (.int .i64 (0 : Int))), (pEq (.int .i64 (0 : Int)))], oBlk b1 [(pEq (.int .i64 (0 : Int))), (pEq (.int .i64 (0 : Int)))]]) rfl rfl rfl (M_alloc rfl zero85) fun b2 => ?_
  refine RegL.nil ?_
  refine Ct.then_tr ?_
  refine Tr.weak (Γ' := [(1, (pPtr (cGPoint a_0))), (2, (pEq (.pointer (some ⟨b1, 0, none⟩)))), (3, (pEq (.pointer (some ⟨b2, 0, none⟩))))]) ⟨rfl, rfl, rfl, trivial⟩ ?_
  refine Tr.seq ?_
  refine Tr.region ?_
  refine RegL.pure (p := (pPtr ((cK .i64) a_0.X))) rfl rfl rfl (J_fieldAddr rfl Try.underlying118 rfl sz2 (by decide) (Opd.tmp rfl) rfl) ?_
  refine RegL.pure (p := (pEq (.int .i64 a_0.X))) rfl rfl rfl (J_load rfl Try.isAgg2 (Opd.tmp rfl)) ?_
  refine RegL.pure (p := (pEq (.pointer (some ⟨b2, 0, none⟩)))) rfl rfl rfl (J_fieldAddrE rfl Try.underlying85 rfl sz2 (by decide) (Opd.tmp rfl) rfl) ?_
  refine RegL.stepN (γ := Unit) (p := fun _ => pAny) (Ω' := fun _ => [oBlk b2 [(pEq (.int .i64 a_0.X)), (pEq (.int .i64 (0 : Int)))], oBlk b1 [(pEq (.int .i64 (0 : Int))), (pEq (.int .i64 (0 : Int)))]]) rfl rfl (M_store rfl sz2 (Opd.tmp rfl) (Opd.tmp rfl) OneC.int rfl rfl) fun g3 => ?_
  refine RegL.nil ?_
  refine Ct.then_tr ?_
  refine Tr.weak (Γ' := [(1, (pPtr (cGPoint a_0))), (2, (pEq (.pointer (some ⟨b1, 0, none⟩)))), (3, (pEq (.pointer (some ⟨b2, 0, none⟩))))]) ⟨rfl, rfl, rfl, trivial⟩ ?_
  refine Tr.seq ?_
  refine Tr.region ?_
  refine RegL.pure (p := (pPtr ((cK .i64) a_0.Y))) rfl rfl rfl (J_fieldAddr rfl Try.underlying118 rfl sz2 (by decide) (Opd.tmp rfl) rfl) ?_
  refine RegL.pure (p := (pEq (.int .i64 a_0.Y))) rfl rfl rfl (J_load rfl Try.isAgg2 (Opd.tmp rfl)) ?_
  refine RegL.pure (p := (pEq (.pointer (some ⟨b2, 1, none⟩)))) rfl rfl rfl (J_fieldAddrE rfl Try.underlying85 rfl sz2 (by decide) (Opd.tmp rfl) rfl) ?_
  refine RegL.stepN (γ := Unit) (p := fun _ => pAny) (Ω' := fun _ => [oBlk b2 [(pEq (.int .i64 a_0.X)), (pEq (.int .i64 a_0.Y))], oBlk b1 [(pEq (.int .i64 (0 : Int))), (pEq (.int .i64 (0 : Int)))]]) rfl rfl (M_store rfl sz2 (Opd.tmp rfl) (Opd.tmp rfl) OneC.int rfl rfl) fun g4 => ?_
  refine RegL.nil ?_
  refine Ct.then_tr ?_
  refine Tr.weak (Γ' := [(2, (pEq (.pointer (some ⟨b1, 0, none⟩)))), (3, (pEq (.pointer (some ⟨b2, 0, none⟩))))]) ⟨rfl, rfl, trivial⟩ ?_
  refine Tr.seq ?_
  refine Tr.region ?_
  refine RegL.pureW (p := (pAgg (cGPoint a_0))) rfl rfl rfl (W_loadA (i := 0) rfl Try.isAgg85 sz85 (Opd.tmp rfl) rfl rfl) ?_
  refine RegL.re (Ω2 := [oBlk b1 [(pEq (.int .i64 (0 : Int))), (pEq (.int .i64 (0 : Int)))], oBlk b2 [(pEq (.int .i64 a_0.X)), (pEq (.int .i64 a_0.Y))]]) (fun h => SatO.pick 1 h) ?_
  refine RegL.stepN (γ := Unit) (p := fun _ => pAny) (Ω' := fun _ => [oBlk b1 [(pEq (.int .i64 a_0.X)), (pEq (.int .i64 a_0.Y))], oBlk b2 [(pEq (.int .i64 a_0.X)), (pEq (.int .i64 a_0.Y))]]) rfl rfl (M_storeA rfl sz85 (Opd.tmp rfl) (Opd.tmp rfl) (fun _ _ _ h => ones_of ((OneCs.cons OneC.int (OneCs.cons OneC.int OneCs.nil))) h) rfl rfl) fun g5 => ?_
  refine RegL.nil ?_
  refine Ct.then_tr ?_
  refine Tr.weak (Γ' := [(2, (pEq (.pointer (some ⟨b1, 0, none⟩))))]) ⟨rfl, trivial⟩ ?_
  refine Tr.ret ?_
  replace h := Option.some.inj h; subst h
  exact Ct.retH1 (Ωx := [oBlk b1 [(pEq (.int .i64 a_0.X)), (pEq (.int .i64 a_0.Y))], oBlk b2 [(pEq (.int .i64 a_0.X)), (pEq (.int .i64 a_0.Y))]]) () rfl (RvOk.cellA (i := 0) Try.isAgg85 sz85 rfl rfl rfl) rfl

theorem c_laws_toSite {a_0 : GSite} {r : GSite} (h : m_laws_toSite a_0 = some r) : CallJ Try.prog 109 [(pAgg (cGSite a_0))] (pAgg (cGSite r)) := by
  unfold m_laws_toSite at h
  refine CallJ.enterH Try.func109 rfl Try.ntmps109 rfl fun W I0 H => ?_
  refine Tr.weak (Γ' := [(0, (pAgg (cGSite a_0)))]) ⟨rfl, trivial⟩ ?_
  refine Tr.seq ?_
  refine Tr.region ?_
  refine RegL.pure (p := (pPtr (cGSite a_0))) rfl rfl rfl (J_boxA rfl (Opd.tmp rfl)) ?_
  refine RegL.step (γ := Nat) (p := fun b => pEq (.pointer (some ⟨b, 0, none⟩))) (Ω' := fun b => [oBlk b [(pEq (.string ByteArray.empty)), (pEq (.string ByteArray.empty)), (pEq (.int .i64 (0 : Int))), (pEq (.int .i64 (0 : Int)))]]) rfl rfl rfl (M_alloc rfl zero87) fun b1 => ?_
  refine RegL.nil ?_
  refine Ct.then_tr ?_
  refine Tr.weak (Γ' := [(1, (pPtr (cGSite a_0))), (2, (pEq (.pointer (some ⟨b1, 0, none⟩))))]) ⟨rfl, rfl, trivial⟩ ?_
  refine Tr.seq ?_
  refine Tr.region ?_
  refine RegL.step (γ := Nat) (p := fun b => pEq (.pointer (some ⟨b, 0, none⟩))) (Ω' := fun b => [oBlk b [(pEq (.string ByteArray.empty)), (pEq (.string ByteArray.empty)), (pEq (.int .i64 (0 : Int))), (pEq (.int .i64 (0 : Int)))], oBlk b1 [(pEq (.string ByteArray.empty)), (pEq (.string ByteArray.empty)), (pEq (.int .i64 (0 : Int))), (pEq (.int .i64 (0 : Int)))]]) rfl rfl rfl (M_alloc rfl zero87) fun b2 => ?_
  refine RegL.nil ?_
  refine Ct.then_tr ?_
  refine Tr.weak (Γ' := [(1, (pPtr (cGSite a_0))), (2, (pEq (.pointer (some ⟨b1, 0, none⟩)))), (3, (pEq (.pointer (some ⟨b2, 0, none⟩))))]) ⟨rfl, rfl, rfl, trivial⟩ ?_
  refine Tr.seq ?_
  refine Tr.region ?_
  refine RegL.pure (p := (pPtr (cS a_0.Name))) rfl rfl rfl (J_fieldAddr rfl Try.underlying120 rfl sz9 (by decide) (Opd.tmp rfl) rfl) ?_
  refine RegL.pure (p := (pEq (.string a_0.Name))) rfl rfl rfl (J_load rfl Try.isAgg9 (Opd.tmp rfl)) ?_
  refine RegL.pure (p := (pEq (.pointer (some ⟨b2, 0, none⟩)))) rfl rfl rfl (J_fieldAddrE rfl Try.underlying87 rfl sz9 (by decide) (Opd.tmp rfl) rfl) ?_
  refine RegL.stepN (γ := Unit) (p := fun _ => pAny) (Ω' := fun _ => [oBlk b2 [(pEq (.string a_0.Name)), (pEq (.string ByteArray.empty)), (pEq (.int .i64 (0 : Int))), (pEq (.int .i64 (0 : Int)))], oBlk b1 [(pEq (.string ByteArray.empty)), (pEq (.string ByteArray.empty)), (pEq (.int .i64 (0 : Int))), (pEq (.int .i64 (0 : Int)))]]) rfl rfl (M_store rfl sz9 (Opd.tmp rfl) (Opd.tmp rfl) OneC.str rfl rfl) fun g3 => ?_
  refine RegL.nil ?_
  refine Ct.then_tr ?_
  refine Tr.weak (Γ' := [(1, (pPtr (cGSite a_0))), (2, (pEq (.pointer (some ⟨b1, 0, none⟩)))), (3, (pEq (.pointer (some ⟨b2, 0, none⟩))))]) ⟨rfl, rfl, rfl, trivial⟩ ?_
  refine Tr.seq ?_
  refine Tr.region ?_
  refine RegL.pure (p := (pPtr (cS a_0.Holder))) rfl rfl rfl (J_fieldAddr rfl Try.underlying120 rfl sz9 (by decide) (Opd.tmp rfl) rfl) ?_
  refine RegL.pure (p := (pEq (.string a_0.Holder))) rfl rfl rfl (J_load rfl Try.isAgg9 (Opd.tmp rfl)) ?_
  refine RegL.pure (p := (pEq (.pointer (some ⟨b2, 1, none⟩)))) rfl rfl rfl (J_fieldAddrE rfl Try.underlying87 rfl sz9 (by decide) (Opd.tmp rfl) rfl) ?_
  refine RegL.stepN (γ := Unit) (p := fun _ => pAny) (Ω' := fun _ => [oBlk b2 [(pEq (.string a_0.Name)), (pEq (.string a_0.Holder)), (pEq (.int .i64 (0 : Int))), (pEq (.int .i64 (0 : Int)))], oBlk b1 [(pEq (.string ByteArray.empty)), (pEq (.string ByteArray.empty)), (pEq (.int .i64 (0 : Int))), (pEq (.int .i64 (0 : Int)))]]) rfl rfl (M_store rfl sz9 (Opd.tmp rfl) (Opd.tmp rfl) OneC.str rfl rfl) fun g4 => ?_
  refine RegL.nil ?_
  refine Ct.then_tr ?_
  refine Tr.weak (Γ' := [(1, (pPtr (cGSite a_0))), (2, (pEq (.pointer (some ⟨b1, 0, none⟩)))), (3, (pEq (.pointer (some ⟨b2, 0, none⟩))))]) ⟨rfl, rfl, rfl, trivial⟩ ?_
  refine Tr.seq ?_
  refine Tr.region ?_
  refine RegL.pure (p := (pPtr (cGPoint a_0.Place))) rfl rfl rfl (J_fieldAddr rfl Try.underlying120 rfl sz118 (by decide) (Opd.tmp rfl) rfl) ?_
  refine RegL.pure (p := (pAgg (cGPoint a_0.Place))) rfl rfl rfl (J_loadA rfl Try.isAgg118 sz118 (Opd.tmp rfl) rfl) ?_
  replace h := bind_some h; obtain ⟨x5, hx5, h⟩ := h
  refine RegL.pure (p := (pAgg (cGPoint x5))) rfl rfl rfl (J_call rfl Try.call129 (c_laws_toPoint hx5) (Opds.cons (Opd.tmp rfl) Opds.nil)) ?_
  refine RegL.pure (p := (pEq (.pointer (some ⟨b2, 2, none⟩)))) rfl rfl rfl (J_fieldAddrE rfl Try.underlying87 rfl sz85 (by decide) (Opd.tmp rfl) rfl) ?_
  refine RegL.stepN (γ := Unit) (p := fun _ => pAny) (Ω' := fun _ => [oBlk b2 [(pEq (.string a_0.Name)), (pEq (.string a_0.Holder)), (pEq (.int .i64 x5.X)), (pEq (.int .i64 x5.Y))], oBlk b1 [(pEq (.string ByteArray.empty)), (pEq (.string ByteArray.empty)), (pEq (.int .i64 (0 : Int))), (pEq (.int .i64 (0 : Int)))]]) rfl rfl (M_storePart rfl sz85 (Opd.tmp rfl) (Opd.tmp rfl) (fun _ _ _ h => ones_of ((OneCs.cons OneC.int (OneCs.cons OneC.int OneCs.nil))) h) rfl rfl rfl) fun g6 => ?_
  refine RegL.nil ?_
  refine Ct.then_tr ?_
  refine Tr.weak (Γ' := [(2, (pEq (.pointer (some ⟨b1, 0, none⟩)))), (3, (pEq (.pointer (some ⟨b2, 0, none⟩))))]) ⟨rfl, rfl, trivial⟩ ?_
  refine Tr.seq ?_
  refine Tr.region ?_
  refine RegL.pureW (p := (pAgg (cGSite (GSite.mk a_0.Name a_0.Holder x5)))) rfl rfl rfl (W_loadA (i := 0) rfl Try.isAgg87 sz87 (Opd.tmp rfl) rfl rfl) ?_
  refine RegL.re (Ω2 := [oBlk b1 [(pEq (.string ByteArray.empty)), (pEq (.string ByteArray.empty)), (pEq (.int .i64 (0 : Int))), (pEq (.int .i64 (0 : Int)))], oBlk b2 [(pEq (.string a_0.Name)), (pEq (.string a_0.Holder)), (pEq (.int .i64 x5.X)), (pEq (.int .i64 x5.Y))]]) (fun h => SatO.pick 1 h) ?_
  refine RegL.stepN (γ := Unit) (p := fun _ => pAny) (Ω' := fun _ => [oBlk b1 [(pEq (.string (GSite.mk a_0.Name a_0.Holder x5).Name)), (pEq (.string (GSite.mk a_0.Name a_0.Holder x5).Holder)), (pEq (.int .i64 (GSite.mk a_0.Name a_0.Holder x5).Place.X)), (pEq (.int .i64 (GSite.mk a_0.Name a_0.Holder x5).Place.Y))], oBlk b2 [(pEq (.string a_0.Name)), (pEq (.string a_0.Holder)), (pEq (.int .i64 x5.X)), (pEq (.int .i64 x5.Y))]]) rfl rfl (M_storeA rfl sz87 (Opd.tmp rfl) (Opd.tmp rfl) (fun _ _ _ h => ones_of ((OneCs.cons OneC.str (OneCs.cons OneC.str (OneCs.cons OneC.int (OneCs.cons OneC.int OneCs.nil))))) h) rfl rfl) fun g7 => ?_
  refine RegL.nil ?_
  refine Ct.then_tr ?_
  refine Tr.weak (Γ' := [(2, (pEq (.pointer (some ⟨b1, 0, none⟩))))]) ⟨rfl, trivial⟩ ?_
  refine Tr.ret ?_
  replace h := Option.some.inj h; subst h
  exact Ct.retH1 (Ωx := [oBlk b1 [(pEq (.string (GSite.mk a_0.Name a_0.Holder x5).Name)), (pEq (.string (GSite.mk a_0.Name a_0.Holder x5).Holder)), (pEq (.int .i64 (GSite.mk a_0.Name a_0.Holder x5).Place.X)), (pEq (.int .i64 (GSite.mk a_0.Name a_0.Holder x5).Place.Y))], oBlk b2 [(pEq (.string a_0.Name)), (pEq (.string a_0.Holder)), (pEq (.int .i64 x5.X)), (pEq (.int .i64 x5.Y))]]) () rfl (RvOk.cellA (i := 0) Try.isAgg87 sz87 rfl rfl rfl) rfl

theorem o_laws_toSiteS {a_0 : (List GSite)}  {r : (List GSite)} (h : m_laws_toSiteS a_0 = some r) : CallH Try.prog 67 [(pSl 4 cGSite a_0)] [] (fun g : G3 => (pEq (.slice g.1 g.2.1 g.2.2))) (fun g : G3 => [oSl 87 4 cGSite g.1 g.2.1 g.2.2 r]) := by
  unfold m_laws_toSiteS at h
  refine CallH.enter Try.func67 rfl Try.ntmps67 rfl fun W I0 H => ?_
  refine Tr.weak (Γ' := [(0, (pSl 4 cGSite a_0))]) ⟨rfl, trivial⟩ ?_
  refine Tr.seq ?_
  refine Tr.region ?_
  refine RegL.pure (p := (pEq (.slice none 0 0))) rfl rfl rfl (J_assign rfl Opd.con) ?_
  refine RegL.nil ?_
  refine Ct.then_tr ?_
  refine Tr.weak (Γ' := [(0, (pSl 4 cGSite a_0))]) ⟨rfl, trivial⟩ ?_
  refine Tr.seq ?_
  refine Tr.region ?_
  refine RegL.pure (p := (pSl 4 cGSite a_0)) rfl rfl rfl (J_move rfl (Opd.tmp rfl)) ?_
  refine RegL.pure (p := (pEq (.int .i64 (a_0.length : Int)))) rfl rfl rfl (J_len rfl Try.underlying49 (Opd.tmp rfl) rfl) ?_
  replace h := bind_some h; obtain ⟨x1, hx1, h⟩ := h
  refine RegL.step (γ := Option Addr) (p := fun a => pEq (.slice a ((a_0.length : Int)).toNat ((a_0.length : Int)).toNat)) (Ω' := fun a => [oSl 87 4 cGSite a ((a_0.length : Int)).toNat ((a_0.length : Int)).toNat x1]) rfl rfl rfl (M_make rfl Try.underlying57 el87 (by decide) (Opd.tmp rfl) hx1) fun o2 => ?_
  refine RegL.pure (p := (pEq (.slice o2 ((a_0.length : Int)).toNat ((a_0.length : Int)).toNat))) rfl rfl rfl (J_assign rfl (Opd.tmp rfl)) ?_
  refine RegL.nil ?_
  refine Ct.then_tr ?_
  refine Tr.weak (Γ' := [(0, (pSl 4 cGSite a_0)), (3, (pEq (.slice o2 ((a_0.length : Int)).toNat ((a_0.length : Int)).toNat)))]) ⟨rfl, rfl, trivial⟩ ?_
  refine Tr.seq ?_
  refine Tr.seq ?_
  refine Tr.region ?_
  refine RegL.pure (p := (pEq (.int .i64 (0 : Int)))) rfl rfl rfl (J_assign rfl Opd.con) ?_
  refine RegL.nil ?_
  refine Ct.then_tr ?_
  refine Tr.weak (Γ' := [(0, (pSl 4 cGSite a_0)), (3, (pEq (.slice o2 ((a_0.length : Int)).toNat ((a_0.length : Int)).toNat))), (4, (pEq (.int .i64 (0 : Int))))]) ⟨rfl, rfl, rfl, trivial⟩ ?_
  replace h := bind_some h; obtain ⟨x4, hx4, h⟩ := h
  refine Tr.cut (γ := G3) (Γm := fun g => [(3, (pEq (.slice g.1 g.2.1 g.2.2)))]) (Ωm := fun g => [oSl 87 4 cGSite g.1 g.2.1 g.2.2 x4]) ?_ (fun g13 => ?_)
  · clear h
    have h := hx4
    clear hx4
    refine Tr.block ?_
    refine Tr.weak (Γ' := [(0, (pSl 4 cGSite a_0)), (3, (pEq (.slice o2 ((a_0.length : Int)).toNat ((a_0.length : Int)).toNat))), (4, (pEq (.int .i64 (0 : Int))))]) ⟨rfl, rfl, rfl, trivial⟩ ?_
    refine Tr.loop (γ := G3) (σ := (Int × (List GSite))) (Γσ := fun s g => [(0, (pSl 4 cGSite a_0)), (3, (pEq (.slice g.1 g.2.1 g.2.2))), (4, (pEq (.int .i64 s.1)))]) (Ωσ := fun s g => [oSl 87 4 cGSite g.1 g.2.1 g.2.2 s.2]) (g := (o2, ((a_0.length : Int)).toNat, ((a_0.length : Int)).toNat)) h ?_
    clear h
    rintro ⟨v6, v7⟩ g8 t h
    replace h : m_laws_toSiteS_B5 a_0 v6 v7 = some t := h
    unfold m_laws_toSiteS_B5 at h
    refine Tr.weakO (Γ' := [(0, (pSl 4 cGSite a_0)), (3, (pEq (.slice g8.1 g8.2.1 g8.2.2))), (4, (pEq (.int .i64 v6)))]) (Ω' := [oSl 87 4 cGSite g8.1 g8.2.1 g8.2.2 v7]) rfl ⟨rfl, rfl, rfl, trivial⟩ ?_
    refine Tr.seq ?_
    refine Tr.seq ?_
    refine Tr.region ?_
    refine RegL.pure (p := (pEq (.int .i64 v6))) rfl rfl rfl (J_move rfl (Opd.tmp rfl)) ?_
    refine RegL.pure (p := (pSl 4 cGSite a_0)) rfl rfl rfl (J_move rfl (Opd.tmp rfl)) ?_
    refine RegL.pure (p := (pEq (.int .i64 (a_0.length : Int)))) rfl rfl rfl (J_len rfl Try.underlying49 (Opd.tmp rfl) rfl) ?_
    refine RegL.pure (p := (pEq (.bool (decide (v6 < (a_0.length : Int)))))) rfl rfl rfl (J_bin rfl (Opd.tmp rfl) (Opd.tmp rfl) B_lss) ?_
    refine RegL.nil ?_
    refine Ct.then_tr ?_
    refine Tr.weak (Γ' := [(0, (pSl 4 cGSite a_0)), (3, (pEq (.slice g8.1 g8.2.1 g8.2.2))), (4, (pEq (.int .i64 v6))), (11, (pEq (.bool (decide (v6 < (a_0.length : Int))))))]) ⟨rfl, rfl, rfl, rfl, trivial⟩ ?_
    refine Tr.cond (Opd.tmp rfl) (fun hc => ?_) (fun hc => ?_)
    · replace h := bif_t hc h
      refine Tr.skip ?_
      refine Ct.then_tr ?_
      refine Tr.weak (Γ' := [(0, (pSl 4 cGSite a_0)), (3, (pEq (.slice g8.1 g8.2.1 g8.2.2))), (4, (pEq (.int .i64 v6)))]) ⟨rfl, rfl, rfl, trivial⟩ ?_
      refine Tr.seq ?_
      refine Tr.block ?_
      refine Tr.region ?_
      refine RegL.pure (p := (pEq (.slice g8.1 g8.2.1 g8.2.2))) rfl rfl rfl (J_move rfl (Opd.tmp rfl)) ?_
      refine RegL.pure (p := (pEq (.int .i64 v6))) rfl rfl rfl (J_move rfl (Opd.tmp rfl)) ?_
      refine RegL.pure (p := (pSl 4 cGSite a_0)) rfl rfl rfl (J_move rfl (Opd.tmp rfl)) ?_
      refine RegL.pure (p := (pEq (.int .i64 v6))) rfl rfl rfl (J_move rfl (Opd.tmp rfl)) ?_
      replace h := bind_some h; obtain ⟨x9, hx9, h⟩ := h
      refine RegL.pure (p := (pPtr (cGSite x9))) rfl rfl rfl (J_idx rfl Try.underlying49 sz120 (Opd.tmp rfl) (Opd.tmp rfl) hx9) ?_
      refine RegL.pure (p := (pAgg (cGSite x9))) rfl rfl rfl (J_loadA rfl Try.isAgg120 sz120 (Opd.tmp rfl) rfl) ?_
      replace h := bind_some h; obtain ⟨x10, hx10, h⟩ := h
      refine RegL.pure (p := (pAgg (cGSite x10))) rfl rfl rfl (J_call rfl Try.call109 (c_laws_toSite hx10) (Opds.cons (Opd.tmp rfl) Opds.nil)) ?_
      replace h := bind_some h; obtain ⟨u11, hu11, h⟩ := h
      refine RegL.pureW (p := (pEq (.pointer (some ⟨blk g8.1, (v6).toNat * 4, none⟩)))) rfl rfl rfl (W_rowIdx (j := 0) rfl Try.underlying57 sz87 (Opd.tmp rfl) (Opd.tmp rfl) rfl (inB_some hu11)) ?_
      refine RegL.stepN (γ := Unit) (p := fun _ => pAny) (Ω' := fun _ => [oSl 87 4 cGSite g8.1 g8.2.1 g8.2.2 (v7.set (v6).toNat x10)]) rfl rfl (M_rowStoreA rfl sz87 el87 (Opd.tmp rfl) (Opd.tmp rfl) (setL_of (inB_some hu11))) fun g12 => ?_
      refine RegL.nil ?_
      refine Ct.blk_normal ?_
      refine Ct.then_tr ?_
      refine Tr.weak (Γ' := [(0, (pSl 4 cGSite a_0)), (3, (pEq (.slice g8.1 g8.2.1 g8.2.2))), (4, (pEq (.int .i64 v6)))]) ⟨rfl, rfl, rfl, trivial⟩ ?_
      refine Tr.region ?_
      refine RegL.pure (p := (pEq (.int .i64 v6))) rfl rfl rfl (J_move rfl (Opd.tmp rfl)) ?_
      refine RegL.pure (p := (pEq (.int .i64 (w64 (v6 + (1 : Int)))))) rfl rfl rfl (J_bin rfl (Opd.tmp rfl) Opd.con B_add) ?_
      refine RegL.pure (p := (pEq (.int .i64 (w64 (v6 + (1 : Int)))))) rfl rfl rfl (J_assign rfl (Opd.tmp rfl)) ?_
      refine RegL.nil ?_
      replace h := Option.some.inj h; subst h
      exact Ct.again (g8.1, g8.2.1, g8.2.2) rfl ⟨rfl, rfl, rfl, trivial⟩
    · replace h := bif_f hc h
      refine Tr.exit ?_
      refine Ct.then_exit ?_
      replace h := map_some h; obtain ⟨r1, h, rfl⟩ := h
      refine Ct.out_exit fun e => ?_
      subst e
      refine Ct.blk_exit ?_
      replace h := Option.some.inj h; subst h
      exact Ct.mid (g8.1, g8.2.1, g8.2.2) rfl ⟨rfl, trivial⟩
  · clear hx4
    refine Ct.then_tr ?_
    refine Tr.weak (Γ' := [(3, (pEq (.slice g13.1 g13.2.1 g13.2.2)))]) ⟨rfl, trivial⟩ ?_
    refine Tr.seq ?_
    refine Tr.region ?_
    refine RegL.pure (p := (pEq (.slice g13.1 g13.2.1 g13.2.2))) rfl rfl rfl (J_move rfl (Opd.tmp rfl)) ?_
    refine RegL.pure (p := (pEq (.slice g13.1 g13.2.1 g13.2.2))) rfl rfl rfl (J_assign rfl (Opd.tmp rfl)) ?_
    refine RegL.nil ?_
    refine Ct.then_tr ?_
    refine Tr.weak (Γ' := [(2, (pEq (.slice g13.1 g13.2.1 g13.2.2)))]) ⟨rfl, trivial⟩ ?_
    refine Tr.ret ?_
    replace h := Option.some.inj h; subst h
    exact Ct.retH1 (Ωx := []) (g13.1, g13.2.1, g13.2.2) rfl (RvOk.tmp rfl) rfl

theorem c_laws_toSiteS {a_0 : (List GSite)} {r : (List GSite)} (h : m_laws_toSiteS a_0 = some r) : CallJ Try.prog 67 [(pSl 4 cGSite a_0)] (pSl 4 cGSite r) :=
  CallH.frozen (o_laws_toSiteS h) (fun g => (Conv.row 0 (fun _ => rfl) rfl))

theorem c_laws_toSector {a_0 : GSector} {r : GSector} (h : m_laws_toSector a_0 = some r) : CallJ Try.prog 110 [(pAgg (cGSector a_0))] (pAgg (cGSector r)) := by
  unfold m_laws_toSector at h
  refine CallJ.enterH Try.func110 rfl Try.ntmps110 rfl fun W I0 H => ?_
  refine Tr.weak (Γ' := [(0, (pAgg (cGSector a_0)))]) ⟨rfl, trivial⟩ ?_
  refine Tr.seq ?_
  refine Tr.region ?_
  refine RegL.pure (p := (pPtr (cGSector a_0))) rfl rfl rfl (J_boxA rfl (Opd.tmp rfl)) ?_
  refine RegL.step (γ := Nat) (p := fun b => pEq (.pointer (some ⟨b, 0, none⟩))) (Ω' := fun b => [oBlk b [(pEq (.string ByteArray.empty)), (pEq (.string ByteArray.empty)), (pEq (.string ByteArray.empty)), (pEq (.string ByteArray.empty)), (pEq (.string ByteArray.empty)), (pEq (.int .i64 (0 : Int))), (pEq (.int .i64 (0 : Int))), (pEq (.int .i64 (0 : Int))), (pEq (.int .i64 (0 : Int)))]]) rfl rfl rfl (M_alloc rfl zero89) fun b1 => ?_
  refine RegL.nil ?_
  refine Ct.then_tr ?_
  refine Tr.weak (Γ' := [(1, (pPtr (cGSector a_0))), (2, (pEq (.pointer (some ⟨b1, 0, none⟩))))]) ⟨rfl, rfl, trivial⟩ ?_
  refine Tr.seq ?_
  refine Tr.region ?_
  refine RegL.step (γ := Nat) (p := fun b => pEq (.pointer (some ⟨b, 0, none⟩))) (Ω' := fun b => [oBlk b [(pEq (.string ByteArray.empty)), (pEq (.string ByteArray.empty)), (pEq (.string ByteArray.empty)), (pEq (.string ByteArray.empty)), (pEq (.string ByteArray.empty)), (pEq (.int .i64 (0 : Int))), (pEq (.int .i64 (0 : Int))), (pEq (.int .i64 (0 : Int))), (pEq (.int .i64 (0 : Int)))], oBlk b1 [(pEq (.string ByteArray.empty)), (pEq (.string ByteArray.empty)), (pEq (.string ByteArray.empty)), (pEq (.string ByteArray.empty)), (pEq (.string ByteArray.empty)), (pEq (.int .i64 (0 : Int))), (pEq (.int .i64 (0 : Int))), (pEq (.int .i64 (0 : Int))), (pEq (.int .i64 (0 : Int)))]]) rfl rfl rfl (M_alloc rfl zero89) fun b2 => ?_
  refine RegL.nil ?_
  refine Ct.then_tr ?_
  refine Tr.weak (Γ' := [(1, (pPtr (cGSector a_0))), (2, (pEq (.pointer (some ⟨b1, 0, none⟩)))), (3, (pEq (.pointer (some ⟨b2, 0, none⟩))))]) ⟨rfl, rfl, rfl, trivial⟩ ?_
  refine Tr.seq ?_
  refine Tr.region ?_
  refine RegL.pure (p := (pPtr (cS a_0.Name))) rfl rfl rfl (J_fieldAddr rfl Try.underlying122 rfl sz9 (by decide) (Opd.tmp rfl) rfl) ?_
  refine RegL.pure (p := (pEq (.string a_0.Name))) rfl rfl rfl (J_load rfl Try.isAgg9 (Opd.tmp rfl)) ?_
  refine RegL.pure (p := (pEq (.pointer (some ⟨b2, 0, none⟩)))) rfl rfl rfl (J_fieldAddrE rfl Try.underlying89 rfl sz9 (by decide) (Opd.tmp rfl) rfl) ?_
  refine RegL.stepN (γ := Unit) (p := fun _ => pAny) (Ω' := fun _ => [oBlk b2 [(pEq (.string a_0.Name)), (pEq (.string ByteArray.empty)), (pEq (.string ByteArray.empty)), (pEq (.string ByteArray.empty)), (pEq (.string ByteArray.empty)), (pEq (.int .i64 (0 : Int))), (pEq (.int .i64 (0 : Int))), (pEq (.int .i64 (0 : Int))), (pEq (.int .i64 (0 : Int)))], oBlk b1 [(pEq (.string ByteArray.empty)), (pEq (.string ByteArray.empty)), (pEq (.string ByteArray.empty)), (pEq (.string ByteArray.empty)), (pEq (.string ByteArray.empty)), (pEq (.int .i64 (0 : Int))), (pEq (.int .i64 (0 : Int))), (pEq (.int .i64 (0 : Int))), (pEq (.int .i64 (0 : Int)))]]) rfl rfl (M_store rfl sz9 (Opd.tmp rfl) (Opd.tmp rfl) OneC.str rfl rfl) fun g3 => ?_
  refine RegL.nil ?_
  refine Ct.then_tr ?_
  refine Tr.weak (Γ' := [(1, (pPtr (cGSector a_0))), (2, (pEq (.pointer (some ⟨b1, 0, none⟩)))), (3, (pEq (.pointer (some ⟨b2, 0, none⟩))))]) ⟨rfl, rfl, rfl, trivial⟩ ?_
  refine Tr.seq ?_
  refine Tr.region ?_
  refine RegL.pure (p := (pPtr (cS a_0.Site))) rfl rfl rfl (J_fieldAddr rfl Try.underlying122 rfl sz9 (by decide) (Opd.tmp rfl) rfl) ?_
  refine RegL.pure (p := (pEq (.string a_0.Site))) rfl rfl rfl (J_load rfl Try.isAgg9 (Opd.tmp rfl)) ?_
  refine RegL.pure (p := (pEq (.pointer (some ⟨b2, 1, none⟩)))) rfl rfl rfl (J_fieldAddrE rfl Try.underlying89 rfl sz9 (by decide) (Opd.tmp rfl) rfl) ?_
  refine RegL.stepN (γ := Unit) (p := fun _ => pAny) (Ω' := fun _ => [oBlk b2 [(pEq (.string a_0.Name)), (pEq (.string a_0.Site)), (pEq (.string ByteArray.empty)), (pEq (.string ByteArray.empty)), (pEq (.string ByteArray.empty)), (pEq (.int .i64 (0 : Int))), (pEq (.int .i64 (0 : Int))), (pEq (.int .i64 (0 : Int))), (pEq (.int .i64 (0 : Int)))], oBlk b1 [(pEq (.string ByteArray.empty)), (pEq (.string ByteArray.empty)), (pEq (.string ByteArray.empty)), (pEq (.string ByteArray.empty)), (pEq (.string ByteArray.empty)), (pEq (.int .i64 (0 : Int))), (pEq (.int .i64 (0 : Int))), (pEq (.int .i64 (0 : Int))), (pEq (.int .i64 (0 : Int)))]]) rfl rfl (M_store rfl sz9 (Opd.tmp rfl) (Opd.tmp rfl) OneC.str rfl rfl) fun g4 => ?_
  refine RegL.nil ?_
  refine Ct.then_tr ?_
  refine Tr.weak (Γ' := [(1, (pPtr (cGSector a_0))), (2, (pEq (.pointer (some ⟨b1, 0, none⟩)))), (3, (pEq (.pointer (some ⟨b2, 0, none⟩))))]) ⟨rfl, rfl, rfl, trivial⟩ ?_
  refine Tr.seq ?_
  refine Tr.region ?_
  refine RegL.pure (p := (pPtr (cS a_0.Antenna))) rfl rfl rfl (J_fieldAddr rfl Try.underlying122 rfl sz9 (by decide) (Opd.tmp rfl) rfl) ?_
  refine RegL.pure (p := (pEq (.string a_0.Antenna))) rfl rfl rfl (J_load rfl Try.isAgg9 (Opd.tmp rfl)) ?_
  refine RegL.pure (p := (pEq (.pointer (some ⟨b2, 2, none⟩)))) rfl rfl rfl (J_fieldAddrE rfl Try.underlying89 rfl sz9 (by decide) (Opd.tmp rfl) rfl) ?_
  refine RegL.stepN (γ := Unit) (p := fun _ => pAny) (Ω' := fun _ => [oBlk b2 [(pEq (.string a_0.Name)), (pEq (.string a_0.Site)), (pEq (.string a_0.Antenna)), (pEq (.string ByteArray.empty)), (pEq (.string ByteArray.empty)), (pEq (.int .i64 (0 : Int))), (pEq (.int .i64 (0 : Int))), (pEq (.int .i64 (0 : Int))), (pEq (.int .i64 (0 : Int)))], oBlk b1 [(pEq (.string ByteArray.empty)), (pEq (.string ByteArray.empty)), (pEq (.string ByteArray.empty)), (pEq (.string ByteArray.empty)), (pEq (.string ByteArray.empty)), (pEq (.int .i64 (0 : Int))), (pEq (.int .i64 (0 : Int))), (pEq (.int .i64 (0 : Int))), (pEq (.int .i64 (0 : Int)))]]) rfl rfl (M_store rfl sz9 (Opd.tmp rfl) (Opd.tmp rfl) OneC.str rfl rfl) fun g5 => ?_
  refine RegL.nil ?_
  refine Ct.then_tr ?_
  refine Tr.weak (Γ' := [(1, (pPtr (cGSector a_0))), (2, (pEq (.pointer (some ⟨b1, 0, none⟩)))), (3, (pEq (.pointer (some ⟨b2, 0, none⟩))))]) ⟨rfl, rfl, rfl, trivial⟩ ?_
  refine Tr.seq ?_
  refine Tr.region ?_
  refine RegL.pure (p := (pPtr (cS a_0.Radio))) rfl rfl rfl (J_fieldAddr rfl Try.underlying122 rfl sz9 (by decide) (Opd.tmp rfl) rfl) ?_
  refine RegL.pure (p := (pEq (.string a_0.Radio))) rfl rfl rfl (J_load rfl Try.isAgg9 (Opd.tmp rfl)) ?_
  refine RegL.pure (p := (pEq (.pointer (some ⟨b2, 3, none⟩)))) rfl rfl rfl (J_fieldAddrE rfl Try.underlying89 rfl sz9 (by decide) (Opd.tmp rfl) rfl) ?_
  refine RegL.stepN (γ := Unit) (p := fun _ => pAny) (Ω' := fun _ => [oBlk b2 [(pEq (.string a_0.Name)), (pEq (.string a_0.Site)), (pEq (.string a_0.Antenna)), (pEq (.string a_0.Radio)), (pEq (.string ByteArray.empty)), (pEq (.int .i64 (0 : Int))), (pEq (.int .i64 (0 : Int))), (pEq (.int .i64 (0 : Int))), (pEq (.int .i64 (0 : Int)))], oBlk b1 [(pEq (.string ByteArray.empty)), (pEq (.string ByteArray.empty)), (pEq (.string ByteArray.empty)), (pEq (.string ByteArray.empty)), (pEq (.string ByteArray.empty)), (pEq (.int .i64 (0 : Int))), (pEq (.int .i64 (0 : Int))), (pEq (.int .i64 (0 : Int))), (pEq (.int .i64 (0 : Int)))]]) rfl rfl (M_store rfl sz9 (Opd.tmp rfl) (Opd.tmp rfl) OneC.str rfl rfl) fun g6 => ?_
  refine RegL.nil ?_
  refine Ct.then_tr ?_
  refine Tr.weak (Γ' := [(1, (pPtr (cGSector a_0))), (2, (pEq (.pointer (some ⟨b1, 0, none⟩)))), (3, (pEq (.pointer (some ⟨b2, 0, none⟩))))]) ⟨rfl, rfl, rfl, trivial⟩ ?_
  refine Tr.seq ?_
  refine Tr.region ?_
  refine RegL.pure (p := (pPtr (cS a_0.Band))) rfl rfl rfl (J_fieldAddr rfl Try.underlying122 rfl sz9 (by decide) (Opd.tmp rfl) rfl) ?_
  refine RegL.pure (p := (pEq (.string a_0.Band))) rfl rfl rfl (J_load rfl Try.isAgg9 (Opd.tmp rfl)) ?_
  refine RegL.pure (p := (pEq (.pointer (some ⟨b2, 4, none⟩)))) rfl rfl rfl (J_fieldAddrE rfl Try.underlying89 rfl sz9 (by decide) (Opd.tmp rfl) rfl) ?_
  refine RegL.stepN (γ := Unit) (p := fun _ => pAny) (Ω' := fun _ => [oBlk b2 [(pEq (.string a_0.Name)), (pEq (.string a_0.Site)), (pEq (.string a_0.Antenna)), (pEq (.string a_0.Radio)), (pEq (.string a_0.Band)), (pEq (.int .i64 (0 : Int))), (pEq (.int .i64 (0 : Int))), (pEq (.int .i64 (0 : Int))), (pEq (.int .i64 (0 : Int)))], oBlk b1 [(pEq (.string ByteArray.empty)), (pEq (.string ByteArray.empty)), (pEq (.string ByteArray.empty)), (pEq (.string ByteArray.empty)), (pEq (.string ByteArray.empty)), (pEq (.int .i64 (0 : Int))), (pEq (.int .i64 (0 : Int))), (pEq (.int .i64 (0 : Int))), (pEq (.int .i64 (0 : Int)))]]) rfl rfl (M_store rfl sz9 (Opd.tmp rfl) (Opd.tmp rfl) OneC.str rfl rfl) fun g7 => ?_
  refine RegL.nil ?_
  refine Ct.then_tr ?_
  refine Tr.weak (Γ' := [(1, (pPtr (cGSector a_0))), (2, (pEq (.pointer (some ⟨b1, 0, none⟩)))), (3, (pEq (.pointer (some ⟨b2, 0, none⟩))))]) ⟨rfl, rfl, rfl, trivial⟩ ?_
  refine Tr.seq ?_
  refine Tr.region ?_
  refine RegL.pure (p := (pPtr ((cK .i64) a_0.Azimuth))) rfl rfl rfl (J_fieldAddr rfl Try.underlying122 rfl sz2 (by decide) (Opd.tmp rfl) rfl) ?_
  refine RegL.pure (p := (pEq (.int .i64 a_0.Azimuth))) rfl rfl rfl (J_load rfl Try.isAgg2 (Opd.tmp rfl)) ?_
  refine RegL.pure (p := (pEq (.pointer (some ⟨b2, 5, none⟩)))) rfl rfl rfl (J_fieldAddrE rfl Try.underlying89 rfl sz2 (by decide) (Opd.tmp rfl) rfl) ?_
  refine RegL.stepN (γ := Unit) (p := fun _ => pAny) (Ω' := fun _ => [oBlk b2 [(pEq (.string a_0.Name)), (pEq (.string a_0.Site)), (pEq (.string a_0.Antenna)), (pEq (.string a_0.Radio)), (pEq (.string a_0.Band)), (pEq (.int .i64 a_0.Azimuth)), (pEq (.int .i64 (0 : Int))), (pEq (.int .i64 (0 : Int))), (pEq (.int .i64 (0 : Int)))], oBlk b1 [(pEq (.string ByteArray.empty)), (pEq (.string ByteArray.empty)), (pEq (.string ByteArray.empty)), (pEq (.string ByteArray.empty)), (pEq (.string ByteArray.empty)), (pEq (.int .i64 (0 : Int))), (pEq (.int .i64 (0 : Int))), (pEq (.int .i64 (0 : Int))), (pEq (.int .i64 (0 : Int)))]]) rfl rfl (M_store rfl sz2 (Opd.tmp rfl) (Opd.tmp rfl) OneC.int rfl rfl) fun g8 => ?_
  refine RegL.nil ?_
  refine Ct.then_tr ?_
  refine Tr.weak (Γ' := [(1, (pPtr (cGSector a_0))), (2, (pEq (.pointer (some ⟨b1, 0, none⟩)))), (3, (pEq (.pointer (some ⟨b2, 0, none⟩))))]) ⟨rfl, rfl, rfl, trivial⟩ ?_
  refine Tr.seq ?_
  refine Tr.region ?_
  refine RegL.pure (p := (pPtr ((cK .i64) a_0.Tilt))) rfl rfl rfl (J_fieldAddr rfl Try.underlying122 rfl sz2 (by decide) (Opd.tmp rfl) rfl) ?_
  refine RegL.pure (p := (pEq (.int .i64 a_0.Tilt))) rfl rfl rfl (J_load rfl Try.isAgg2 (Opd.tmp rfl)) ?_
  refine RegL.pure (p := (pEq (.pointer (some ⟨b2, 6, none⟩)))) rfl rfl rfl (J_fieldAddrE rfl Try.underlying89 rfl sz2 (by decide) (Opd.tmp rfl) rfl) ?_
  refine RegL.stepN (γ := Unit) (p := fun _ => pAny) (Ω' := fun _ => [oBlk b2 [(pEq (.string a_0.Name)), (pEq (.string a_0.Site)), (pEq (.string a_0.Antenna)), (pEq (.string a_0.Radio)), (pEq (.string a_0.Band)), (pEq (.int .i64 a_0.Azimuth)), (pEq (.int .i64 a_0.Tilt)), (pEq (.int .i64 (0 : Int))), (pEq (.int .i64 (0 : Int)))], oBlk b1 [(pEq (.string ByteArray.empty)), (pEq (.string ByteArray.empty)), (pEq (.string ByteArray.empty)), (pEq (.string ByteArray.empty)), (pEq (.string ByteArray.empty)), (pEq (.int .i64 (0 : Int))), (pEq (.int .i64 (0 : Int))), (pEq (.int .i64 (0 : Int))), (pEq (.int .i64 (0 : Int)))]]) rfl rfl (M_store rfl sz2 (Opd.tmp rfl) (Opd.tmp rfl) OneC.int rfl rfl) fun g9 => ?_
  refine RegL.nil ?_
  refine Ct.then_tr ?_
  refine Tr.weak (Γ' := [(1, (pPtr (cGSector a_0))), (2, (pEq (.pointer (some ⟨b1, 0, none⟩)))), (3, (pEq (.pointer (some ⟨b2, 0, none⟩))))]) ⟨rfl, rfl, rfl, trivial⟩ ?_
  refine Tr.seq ?_
  refine Tr.region ?_
  refine RegL.pure (p := (pPtr ((cK .i64) a_0.Above))) rfl rfl rfl (J_fieldAddr rfl Try.underlying122 rfl sz2 (by decide) (Opd.tmp rfl) rfl) ?_
  refine RegL.pure (p := (pEq (.int .i64 a_0.Above))) rfl rfl rfl (J_load rfl Try.isAgg2 (Opd.tmp rfl)) ?_
  refine RegL.pure (p := (pEq (.pointer (some ⟨b2, 7, none⟩)))) rfl rfl rfl (J_fieldAddrE rfl Try.underlying89 rfl sz2 (by decide) (Opd.tmp rfl) rfl) ?_
  refine RegL.stepN (γ := Unit) (p := fun _ => pAny) (Ω' := fun _ => [oBlk b2 [(pEq (.string a_0.Name)), (pEq (.string a_0.Site)), (pEq (.string a_0.Antenna)), (pEq (.string a_0.Radio)), (pEq (.string a_0.Band)), (pEq (.int .i64 a_0.Azimuth)), (pEq (.int .i64 a_0.Tilt)), (pEq (.int .i64 a_0.Above)), (pEq (.int .i64 (0 : Int)))], oBlk b1 [(pEq (.string ByteArray.empty)), (pEq (.string ByteArray.empty)), (pEq (.string ByteArray.empty)), (pEq (.string ByteArray.empty)), (pEq (.string ByteArray.empty)), (pEq (.int .i64 (0 : Int))), (pEq (.int .i64 (0 : Int))), (pEq (.int .i64 (0 : Int))), (pEq (.int .i64 (0 : Int)))]]) rfl rfl (M_store rfl sz2 (Opd.tmp rfl) (Opd.tmp rfl) OneC.int rfl rfl) fun g10 => ?_
  refine RegL.nil ?_
  refine Ct.then_tr ?_
  refine Tr.weak (Γ' := [(1, (pPtr (cGSector a_0))), (2, (pEq (.pointer (some ⟨b1, 0, none⟩)))), (3, (pEq (.pointer (some ⟨b2, 0, none⟩))))]) ⟨rfl, rfl, rfl, trivial⟩ ?_
  refine Tr.seq ?_
  refine Tr.region ?_
  refine RegL.pure (p := (pPtr ((cK .i64) a_0.Channel))) rfl rfl rfl (J_fieldAddr rfl Try.underlying122 rfl sz2 (by decide) (Opd.tmp rfl) rfl) ?_
  refine RegL.pure (p := (pEq (.int .i64 a_0.Channel))) rfl rfl rfl (J_load rfl Try.isAgg2 (Opd.tmp rfl)) ?_
  refine RegL.pure (p := (pEq (.pointer (some ⟨b2, 8, none⟩)))) rfl rfl rfl (J_fieldAddrE rfl Try.underlying89 rfl sz2 (by decide) (Opd.tmp rfl) rfl) ?_
  refine RegL.stepN (γ := Unit) (p := fun _ => pAny) (Ω' := fun _ => [oBlk b2 [(pEq (.string a_0.Name)), (pEq (.string a_0.Site)), (pEq (.string a_0.Antenna)), (pEq (.string a_0.Radio)), (pEq (.string a_0.Band)), (pEq (.int .i64 a_0.Azimuth)), (pEq (.int .i64 a_0.Tilt)), (pEq (.int .i64 a_0.Above)), (pEq (.int .i64 a_0.Channel))], oBlk b1 [(pEq (.string ByteArray.empty)), (pEq (.string ByteArray.empty)), (pEq (.string ByteArray.empty)), (pEq (.string ByteArray.empty)), (pEq (.string ByteArray.empty)), (pEq (.int .i64 (0 : Int))), (pEq (.int .i64 (0 : Int))), (pEq (.int .i64 (0 : Int))), (pEq (.int .i64 (0 : Int)))]]) rfl rfl (M_store rfl sz2 (Opd.tmp rfl) (Opd.tmp rfl) OneC.int rfl rfl) fun g11 => ?_
  refine RegL.nil ?_
  refine Ct.then_tr ?_
  refine Tr.weak (Γ' := [(2, (pEq (.pointer (some ⟨b1, 0, none⟩)))), (3, (pEq (.pointer (some ⟨b2, 0, none⟩))))]) ⟨rfl, rfl, trivial⟩ ?_
  refine Tr.seq ?_
  refine Tr.region ?_
  refine RegL.pureW (p := (pAgg (cGSector a_0))) rfl rfl rfl (W_loadA (i := 0) rfl Try.isAgg89 sz89 (Opd.tmp rfl) rfl rfl) ?_
  refine RegL.re (Ω2 := [oBlk b1 [(pEq (.string ByteArray.empty)), (pEq (.string ByteArray.empty)), (pEq (.string ByteArray.empty)), (pEq (.string ByteArray.empty)), (pEq (.string ByteArray.empty)), (pEq (.int .i64 (0 : Int))), (pEq (.int .i64 (0 : Int))), (pEq (.int .i64 (0 : Int))), (pEq (.int .i64 (0 : Int)))], oBlk b2 [(pEq (.string a_0.Name)), (pEq (.string a_0.Site)), (pEq (.string a_0.Antenna)), (pEq (.string a_0.Radio)), (pEq (.string a_0.Band)), (pEq (.int .i64 a_0.Azimuth)), (pEq (.int .i64 a_0.Tilt)), (pEq (.int .i64 a_0.Above)), (pEq (.int .i64 a_0.Channel))]]) (fun h => SatO.pick 1 h) ?_
  refine RegL.stepN (γ := Unit) (p := fun _ => pAny) (Ω' := fun _ => [oBlk b1 [(pEq (.string a_0.Name)), (pEq (.string a_0.Site)), (pEq (.string a_0.Antenna)), (pEq (.string a_0.Radio)), (pEq (.string a_0.Band)), (pEq (.int .i64 a_0.Azimuth)), (pEq (.int .i64 a_0.Tilt)), (pEq (.int .i64 a_0.Above)), (pEq (.int .i64 a_0.Channel))], oBlk b2 [(pEq (.string a_0.Name)), (pEq (.string a_0.Site)), (pEq (.string a_0.Antenna)), (pEq (.string a_0.Radio)), (pEq (.string a_0.Band)), (pEq (.int .i64 a_0.Azimuth)), (pEq (.int .i64 a_0.Tilt)), (pEq (.int .i64 a_0.Above)), (pEq (.int .i64 a_0.Channel))]]) rfl rfl (M_storeA rfl sz89 (Opd.tmp rfl) (Opd.tmp rfl) (fun _ _ _ h => ones_of ((OneCs.cons OneC.str (OneCs.cons OneC.str (OneCs.cons OneC.str (OneCs.cons OneC.str (OneCs.cons OneC.str (OneCs.cons OneC.int (OneCs.cons OneC.int (OneCs.cons OneC.int (OneCs.cons OneC.int OneCs.nil)))))))))) h) rfl rfl) fun g12 => ?_
  refine RegL.nil ?_
  refine Ct.then_tr ?_
  refine Tr.weak (Γ' := [(2, (pEq (.pointer (some ⟨b1, 0, none⟩))))]) ⟨rfl, trivial⟩ ?_
  refine Tr.ret ?_
  replace h := Option.some.inj h; subst h
  exact Ct.retH1 (Ωx := [oBlk b1 [(pEq (.string a_0.Name)), (pEq (.string a_0.Site)), (pEq (.string a_0.Antenna)), (pEq (.string a_0.Radio)), (pEq (.string a_0.Band)), (pEq (.int .i64 a_0.Azimuth)), (pEq (.int .i64 a_0.Tilt)), (pEq (.int .i64 a_0.Above)), (pEq (.int .i64 a_0.Channel))], oBlk b2 [(pEq (.string a_0.Name)), (pEq (.string a_0.Site)), (pEq (.string a_0.Antenna)), (pEq (.string a_0.Radio)), (pEq (.string a_0.Band)), (pEq (.int .i64 a_0.Azimuth)), (pEq (.int .i64 a_0.Tilt)), (pEq (.int .i64 a_0.Above)), (pEq (.int .i64 a_0.Channel))]]) () rfl (RvOk.cellA (i := 0) Try.isAgg89 sz89 rfl rfl rfl) rfl

theorem o_laws_toSectorS {a_0 : (List GSector)}  {r : (List GSector)} (h : m_laws_toSectorS a_0 = some r) : CallH Try.prog 68 [(pSl 9 cGSector a_0)] [] (fun g : G3 => (pEq (.slice g.1 g.2.1 g.2.2))) (fun g : G3 => [oSl 89 9 cGSector g.1 g.2.1 g.2.2 r]) := by
  unfold m_laws_toSectorS at h
  refine CallH.enter Try.func68 rfl Try.ntmps68 rfl fun W I0 H => ?_
  refine Tr.weak (Γ' := [(0, (pSl 9 cGSector a_0))]) ⟨rfl, trivial⟩ ?_
  refine Tr.seq ?_
  refine Tr.region ?_
  refine RegL.pure (p := (pEq (.slice none 0 0))) rfl rfl rfl (J_assign rfl Opd.con) ?_
  refine RegL.nil ?_
  refine Ct.then_tr ?_
  refine Tr.weak (Γ' := [(0, (pSl 9 cGSector a_0))]) ⟨rfl, trivial⟩ ?_
  refine Tr.seq ?_
  refine Tr.region ?_
  refine RegL.pure (p := (pSl 9 cGSector a_0)) rfl rfl rfl (J_move rfl (Opd.tmp rfl)) ?_
  refine RegL.pure (p := (pEq (.int .i64 (a_0.length : Int)))) rfl rfl rfl (J_len rfl Try.underlying50 (Opd.tmp rfl) rfl) ?_
  replace h := bind_some h; obtain ⟨x1, hx1, h⟩ := h
  refine RegL.step (γ := Option Addr) (p := fun a => pEq (.slice a ((a_0.length : Int)).toNat ((a_0.length : Int)).toNat)) (Ω' := fun a => [oSl 89 9 cGSector a ((a_0.length : Int)).toNat ((a_0.length : Int)).toNat x1]) rfl rfl rfl (M_make rfl Try.underlying58 el89 (by decide) (Opd.tmp rfl) hx1) fun o2 => ?_
  refine RegL.pure (p := (pEq (.slice o2 ((a_0.length : Int)).toNat ((a_0.length : Int)).toNat))) rfl rfl rfl (J_assign rfl (Opd.tmp rfl)) ?_
  refine RegL.nil ?_
  refine Ct.then_tr ?_
  refine Tr.weak (Γ' := [(0, (pSl 9 cGSector a_0)), (3, (pEq (.slice o2 ((a_0.length : Int)).toNat ((a_0.length : Int)).toNat)))]) ⟨rfl, rfl, trivial⟩ ?_
  refine Tr.seq ?_
  refine Tr.seq ?_
  refine Tr.region ?_
  refine RegL.pure (p := (pEq (.int .i64 (0 : Int)))) rfl rfl rfl (J_assign rfl Opd.con) ?_
  refine RegL.nil ?_
  refine Ct.then_tr ?_
  refine Tr.weak (Γ' := [(0, (pSl 9 cGSector a_0)), (3, (pEq (.slice o2 ((a_0.length : Int)).toNat ((a_0.length : Int)).toNat))), (4, (pEq (.int .i64 (0 : Int))))]) ⟨rfl, rfl, rfl, trivial⟩ ?_
  replace h := bind_some h; obtain ⟨x4, hx4, h⟩ := h
  refine Tr.cut (γ := G3) (Γm := fun g => [(3, (pEq (.slice g.1 g.2.1 g.2.2)))]) (Ωm := fun g => [oSl 89 9 cGSector g.1 g.2.1 g.2.2 x4]) ?_ (fun g13 => ?_)
  · clear h
    have h := hx4
    clear hx4
    refine Tr.block ?_
    refine Tr.weak (Γ' := [(0, (pSl 9 cGSector a_0)), (3, (pEq (.slice o2 ((a_0.length : Int)).toNat ((a_0.length : Int)).toNat))), (4, (pEq (.int .i64 (0 : Int))))]) ⟨rfl, rfl, rfl, trivial⟩ ?_
    refine Tr.loop (γ := G3) (σ := (Int × (List GSector))) (Γσ := fun s g => [(0, (pSl 9 cGSector a_0)), (3, (pEq (.slice g.1 g.2.1 g.2.2))), (4, (pEq (.int .i64 s.1)))]) (Ωσ := fun s g => [oSl 89 9 cGSector g.1 g.2.1 g.2.2 s.2]) (g := (o2, ((a_0.length : Int)).toNat, ((a_0.length : Int)).toNat)) h ?_
    clear h
    rintro ⟨v6, v7⟩ g8 t h
    replace h : m_laws_toSectorS_B5 a_0 v6 v7 = some t := h
    unfold m_laws_toSectorS_B5 at h
    refine Tr.weakO (Γ' := [(0, (pSl 9 cGSector a_0)), (3, (pEq (.slice g8.1 g8.2.1 g8.2.2))), (4, (pEq (.int .i64 v6)))]) (Ω' := [oSl 89 9 cGSector g8.1 g8.2.1 g8.2.2 v7]) rfl ⟨rfl, rfl, rfl, trivial⟩ ?_
    refine Tr.seq ?_
    refine Tr.seq ?_
    refine Tr.region ?_
    refine RegL.pure (p := (pEq (.int .i64 v6))) rfl rfl rfl (J_move rfl (Opd.tmp rfl)) ?_
    refine RegL.pure (p := (pSl 9 cGSector a_0)) rfl rfl rfl (J_move rfl (Opd.tmp rfl)) ?_
    refine RegL.pure (p := (pEq (.int .i64 (a_0.length : Int)))) rfl rfl rfl (J_len rfl Try.underlying50 (Opd.tmp rfl) rfl) ?_
    refine RegL.pure (p := (pEq (.bool (decide (v6 < (a_0.length : Int)))))) rfl rfl rfl (J_bin rfl (Opd.tmp rfl) (Opd.tmp rfl) B_lss) ?_
    refine RegL.nil ?_
    refine Ct.then_tr ?_
    refine Tr.weak (Γ' := [(0, (pSl 9 cGSector a_0)), (3, (pEq (.slice g8.1 g8.2.1 g8.2.2))), (4, (pEq (.int .i64 v6))), (11, (pEq (.bool (decide (v6 < (a_0.length : Int))))))]) ⟨rfl, rfl, rfl, rfl, trivial⟩ ?_
    refine Tr.cond (Opd.tmp rfl) (fun hc => ?_) (fun hc => ?_)
    · replace h := bif_t hc h
      refine Tr.skip ?_
      refine Ct.then_tr ?_
      refine Tr.weak (Γ' := [(0, (pSl 9 cGSector a_0)), (3, (pEq (.slice g8.1 g8.2.1 g8.2.2))), (4, (pEq (.int .i64 v6)))]) ⟨rfl, rfl, rfl, trivial⟩ ?_
      refine Tr.seq ?_
      refine Tr.block ?_
      refine Tr.region ?_
      refine RegL.pure (p := (pEq (.slice g8.1 g8.2.1 g8.2.2))) rfl rfl rfl (J_move rfl (Opd.tmp rfl)) ?_
      refine RegL.pure (p := (pEq (.int .i64 v6))) rfl rfl rfl (J_move rfl (Opd.tmp rfl)) ?_
      refine RegL.pure (p := (pSl 9 cGSector a_0)) rfl rfl rfl (J_move rfl (Opd.tmp rfl)) ?_
      refine RegL.pure (p := (pEq (.int .i64 v6))) rfl rfl rfl (J_move rfl (Opd.tmp rfl)) ?_
      replace h := bind_some h; obtain ⟨x9, hx9, h⟩ := h
      refine RegL.pure (p := (pPtr (cGSector x9))) rfl rfl rfl (J_idx rfl Try.underlying50 sz122 (Opd.tmp rfl) (Opd.tmp rfl) hx9) ?_
      refine RegL.pure (p := (pAgg (cGSector x9))) rfl rfl rfl (J_loadA rfl Try.isAgg122 sz122 (Opd.tmp rfl) rfl) ?_
      replace h := bind_some h; obtain ⟨x10, hx10, h⟩ := h
      refine RegL.pure (p := (pAgg (cGSector x10))) rfl rfl rfl (J_call rfl Try.call110 (c_laws_toSector hx10) (Opds.cons (Opd.tmp rfl) Opds.nil)) ?_
      replace h := bind_some h; obtain ⟨u11, hu11, h⟩ := h
      refine RegL.pureW (p := (pEq (.pointer (some ⟨blk g8.1, (v6).toNat * 9, none⟩)))) rfl rfl rfl (W_rowIdx (j := 0) rfl Try.underlying58 sz89 (Opd.tmp rfl) (Opd.tmp rfl) rfl (inB_some hu11)) ?_
      refine RegL.stepN (γ := Unit) (p := fun _ => pAny) (Ω' := fun _ => [oSl 89 9 cGSector g8.1 g8.2.1 g8.2.2 (v7.set (v6).toNat x10)]) rfl rfl (M_rowStoreA rfl sz89 el89 (Opd.tmp rfl) (Opd.tmp rfl) (setL_of (inB_some hu11))) fun g12 => ?_
      refine RegL.nil ?_
      refine Ct.blk_normal ?_
      refine Ct.then_tr ?_
      refine Tr.weak (Γ' := [(0, (pSl 9 cGSector a_0)), (3, (pEq (.slice g8.1 g8.2.1 g8.2.2))), (4, (pEq (.int .i64 v6)))]) ⟨rfl, rfl, rfl, trivial⟩ ?_
      refine Tr.region ?_
      refine RegL.pure (p := (pEq (.int .i64 v6))) rfl rfl rfl (J_move rfl (Opd.tmp rfl)) ?_
      refine RegL.pure (p := (pEq (.int .i64 (w64 (v6 + (1 : Int)))))) rfl rfl rfl (J_bin rfl (Opd.tmp rfl) Opd.con B_add) ?_
      refine RegL.pure (p := (pEq (.int .i64 (w64 (v6 + (1 : Int)))))) rfl rfl rfl (J_assign rfl (Opd.tmp rfl)) ?_
      refine RegL.nil ?_
      replace h := Option.some.inj h; subst h
      exact Ct.again (g8.1, g8.2.1, g8.2.2) rfl ⟨rfl, rfl, rfl, trivial⟩
    · replace h := bif_f hc h
      refine Tr.exit ?_
      refine Ct.then_exit ?_
      replace h := map_some h; obtain ⟨r1, h, rfl⟩ := h
      refine Ct.out_exit fun e => ?_
      subst e
      refine Ct.blk_exit ?_
      replace h := Option.some.inj h; subst h
      exact Ct.mid (g8.1, g8.2.1, g8.2.2) rfl ⟨rfl, trivial⟩
  · clear hx4
    refine Ct.then_tr ?_
    refine Tr.weak (Γ' := [(3, (pEq (.slice g13.1 g13.2.1 g13.2.2)))]) ⟨rfl, trivial⟩ ?_
    refine Tr.seq ?_
    refine Tr.region ?_
    refine RegL.pure (p := (pEq (.slice g13.1 g13.2.1 g13.2.2))) rfl rfl rfl (J_move rfl (Opd.tmp rfl)) ?_
    refine RegL.pure (p := (pEq (.slice g13.1 g13.2.1 g13.2.2))) rfl rfl rfl (J_assign rfl (Opd.tmp rfl)) ?_
    refine RegL.nil ?_
    refine Ct.then_tr ?_
    refine Tr.weak (Γ' := [(2, (pEq (.slice g13.1 g13.2.1 g13.2.2)))]) ⟨rfl, trivial⟩ ?_
    refine Tr.ret ?_
    replace h := Option.some.inj h; subst h
    exact Ct.retH1 (Ωx := []) (g13.1, g13.2.1, g13.2.2) rfl (RvOk.tmp rfl) rfl

theorem c_laws_toSectorS {a_0 : (List GSector)} {r : (List GSector)} (h : m_laws_toSectorS a_0 = some r) : CallJ Try.prog 68 [(pSl 9 cGSector a_0)] (pSl 9 cGSector r) :=
  CallH.frozen (o_laws_toSectorS h) (fun g => (Conv.row 0 (fun _ => rfl) rfl))

theorem o_laws_toInt64S {a_0 : (List Int)}  {r : (List Int)} (h : m_laws_toInt64S a_0 = some r) : CallH Try.prog 10 [(pSl 1 (cK .i64) a_0)] [] (fun g : G3 => (pEq (.slice g.1 g.2.1 g.2.2))) (fun g : G3 => [oSl 2 1 (cK .i64) g.1 g.2.1 g.2.2 r]) := by
  unfold m_laws_toInt64S at h
  refine CallH.enter Try.func10 rfl Try.ntmps10 rfl fun W I0 H => ?_
  refine Tr.weak (Γ' := [(0, (pSl 1 (cK .i64) a_0))]) ⟨rfl, trivial⟩ ?_
  refine Tr.seq ?_
  refine Tr.region ?_
  refine RegL.pure (p := (pEq (.slice none 0 0))) rfl rfl rfl (J_assign rfl Opd.con) ?_
  refine RegL.nil ?_
  refine Ct.then_tr ?_
  refine Tr.weak (Γ' := [(0, (pSl 1 (cK .i64) a_0))]) ⟨rfl, trivial⟩ ?_
  refine Tr.seq ?_
  refine Tr.region ?_
  refine RegL.pure (p := (pSl 1 (cK .i64) a_0)) rfl rfl rfl (J_move rfl (Opd.tmp rfl)) ?_
  refine RegL.pure (p := (pEq (.int .i64 (a_0.length : Int)))) rfl rfl rfl (J_len rfl Try.underlying23 (Opd.tmp rfl) rfl) ?_
  replace h := bind_some h; obtain ⟨x1, hx1, h⟩ := h
  refine RegL.step (γ := Option Addr) (p := fun a => pEq (.slice a ((a_0.length : Int)).toNat ((a_0.length : Int)).toNat)) (Ω' := fun a => [oSl 2 1 (cK .i64) a ((a_0.length : Int)).toNat ((a_0.length : Int)).toNat x1]) rfl rfl rfl (M_make rfl Try.underlying23 el2 (by decide) (Opd.tmp rfl) hx1) fun o2 => ?_
  refine RegL.pure (p := (pEq (.slice o2 ((a_0.length : Int)).toNat ((a_0.length : Int)).toNat))) rfl rfl rfl (J_assign rfl (Opd.tmp rfl)) ?_
  refine RegL.nil ?_
  refine Ct.then_tr ?_
  refine Tr.weak (Γ' := [(0, (pSl 1 (cK .i64) a_0)), (3, (pEq (.slice o2 ((a_0.length : Int)).toNat ((a_0.length : Int)).toNat)))]) ⟨rfl, rfl, trivial⟩ ?_
  refine Tr.seq ?_
  refine Tr.seq ?_
  refine Tr.region ?_
  refine RegL.pure (p := (pEq (.int .i64 (0 : Int)))) rfl rfl rfl (J_assign rfl Opd.con) ?_
  refine RegL.nil ?_
  refine Ct.then_tr ?_
  refine Tr.weak (Γ' := [(0, (pSl 1 (cK .i64) a_0)), (3, (pEq (.slice o2 ((a_0.length : Int)).toNat ((a_0.length : Int)).toNat))), (4, (pEq (.int .i64 (0 : Int))))]) ⟨rfl, rfl, rfl, trivial⟩ ?_
  replace h := bind_some h; obtain ⟨x4, hx4, h⟩ := h
  refine Tr.cut (γ := G3) (Γm := fun g => [(3, (pEq (.slice g.1 g.2.1 g.2.2)))]) (Ωm := fun g => [oSl 2 1 (cK .i64) g.1 g.2.1 g.2.2 x4]) ?_ (fun g12 => ?_)
  · clear h
    have h := hx4
    clear hx4
    refine Tr.block ?_
    refine Tr.weak (Γ' := [(0, (pSl 1 (cK .i64) a_0)), (3, (pEq (.slice o2 ((a_0.length : Int)).toNat ((a_0.length : Int)).toNat))), (4, (pEq (.int .i64 (0 : Int))))]) ⟨rfl, rfl, rfl, trivial⟩ ?_
    refine Tr.loop (γ := G3) (σ := (Int × (List Int))) (Γσ := fun s g => [(0, (pSl 1 (cK .i64) a_0)), (3, (pEq (.slice g.1 g.2.1 g.2.2))), (4, (pEq (.int .i64 s.1)))]) (Ωσ := fun s g => [oSl 2 1 (cK .i64) g.1 g.2.1 g.2.2 s.2]) (g := (o2, ((a_0.length : Int)).toNat, ((a_0.length : Int)).toNat)) h ?_
    clear h
    rintro ⟨v6, v7⟩ g8 t h
    replace h : m_laws_toInt64S_B5 a_0 v6 v7 = some t := h
    unfold m_laws_toInt64S_B5 at h
    refine Tr.weakO (Γ' := [(0, (pSl 1 (cK .i64) a_0)), (3, (pEq (.slice g8.1 g8.2.1 g8.2.2))), (4, (pEq (.int .i64 v6)))]) (Ω' := [oSl 2 1 (cK .i64) g8.1 g8.2.1 g8.2.2 v7]) rfl ⟨rfl, rfl, rfl, trivial⟩ ?_
    refine Tr.seq ?_
    refine Tr.seq ?_
    refine Tr.region ?_
    refine RegL.pure (p := (pEq (.int .i64 v6))) rfl rfl rfl (J_move rfl (Opd.tmp rfl)) ?_
    refine RegL.pure (p := (pSl 1 (cK .i64) a_0)) rfl rfl rfl (J_move rfl (Opd.tmp rfl)) ?_
    refine RegL.pure (p := (pEq (.int .i64 (a_0.length : Int)))) rfl rfl rfl (J_len rfl Try.underlying23 (Opd.tmp rfl) rfl) ?_
    refine RegL.pure (p := (pEq (.bool (decide (v6 < (a_0.length : Int)))))) rfl rfl rfl (J_bin rfl (Opd.tmp rfl) (Opd.tmp rfl) B_lss) ?_
    refine RegL.nil ?_
    refine Ct.then_tr ?_
    refine Tr.weak (Γ' := [(0, (pSl 1 (cK .i64) a_0)), (3, (pEq (.slice g8.1 g8.2.1 g8.2.2))), (4, (pEq (.int .i64 v6))), (11, (pEq (.bool (decide (v6 < (a_0.length : Int))))))]) ⟨rfl, rfl, rfl, rfl, trivial⟩ ?_
    refine Tr.cond (Opd.tmp rfl) (fun hc => ?_) (fun hc => ?_)
    · replace h := bif_t hc h
      refine Tr.skip ?_
      refine Ct.then_tr ?_
      refine Tr.weak (Γ' := [(0, (pSl 1 (cK .i64) a_0)), (3, (pEq (.slice g8.1 g8.2.1 g8.2.2))), (4, (pEq (.int .i64 v6)))]) ⟨rfl, rfl, rfl, trivial⟩ ?_
      refine Tr.seq ?_
      refine Tr.block ?_
      refine Tr.region ?_
      refine RegL.pure (p := (pEq (.slice g8.1 g8.2.1 g8.2.2))) rfl rfl rfl (J_move rfl (Opd.tmp rfl)) ?_
      refine RegL.pure (p := (pEq (.int .i64 v6))) rfl rfl rfl (J_move rfl (Opd.tmp rfl)) ?_
      refine RegL.pure (p := (pSl 1 (cK .i64) a_0)) rfl rfl rfl (J_move rfl (Opd.tmp rfl)) ?_
      refine RegL.pure (p := (pEq (.int .i64 v6))) rfl rfl rfl (J_move rfl (Opd.tmp rfl)) ?_
      replace h := bind_some h; obtain ⟨x9, hx9, h⟩ := h
      refine RegL.pure (p := (pPtr ((cK .i64) x9))) rfl rfl rfl (J_idx rfl Try.underlying23 sz2 (Opd.tmp rfl) (Opd.tmp rfl) hx9) ?_
      refine RegL.pure (p := (pEq (.int .i64 x9))) rfl rfl rfl (J_load rfl Try.isAgg2 (Opd.tmp rfl)) ?_
      replace h := bind_some h; obtain ⟨u10, hu10, h⟩ := h
      refine RegL.pureW (p := (pEq (.pointer (some ⟨blk g8.1, (v6).toNat * 1, none⟩)))) rfl rfl rfl (W_rowIdx (j := 0) rfl Try.underlying23 sz2 (Opd.tmp rfl) (Opd.tmp rfl) rfl (inB_some hu10)) ?_
      refine RegL.stepN (γ := Unit) (p := fun _ => pAny) (Ω' := fun _ => [oSl 2 1 (cK .i64) g8.1 g8.2.1 g8.2.2 (v7.set (v6).toNat x9)]) rfl rfl (M_rowStore rfl sz2 (fun _ => rfl) (Opd.tmp rfl) (Opd.tmp rfl) rfl OneC.int (setL_of (inB_some hu10))) fun g11 => ?_
      refine RegL.nil ?_
      refine Ct.blk_normal ?_
      refine Ct.then_tr ?_
      refine Tr.weak (Γ' := [(0, (pSl 1 (cK .i64) a_0)), (3, (pEq (.slice g8.1 g8.2.1 g8.2.2))), (4, (pEq (.int .i64 v6)))]) ⟨rfl, rfl, rfl, trivial⟩ ?_
      refine Tr.region ?_
      refine RegL.pure (p := (pEq (.int .i64 v6))) rfl rfl rfl (J_move rfl (Opd.tmp rfl)) ?_
      refine RegL.pure (p := (pEq (.int .i64 (w64 (v6 + (1 : Int)))))) rfl rfl rfl (J_bin rfl (Opd.tmp rfl) Opd.con B_add) ?_
      refine RegL.pure (p := (pEq (.int .i64 (w64 (v6 + (1 : Int)))))) rfl rfl rfl (J_assign rfl (Opd.tmp rfl)) ?_
      refine RegL.nil ?_
      replace h := Option.some.inj h; subst h
      exact Ct.again (g8.1, g8.2.1, g8.2.2) rfl ⟨rfl, rfl, rfl, trivial⟩
    · replace h := bif_f hc h
      refine Tr.exit ?_
      refine Ct.then_exit ?_
      replace h := map_some h; obtain ⟨r1, h, rfl⟩ := h
      refine Ct.out_exit fun e => ?_
      subst e
      refine Ct.blk_exit ?_
      replace h := Option.some.inj h; subst h
      exact Ct.mid (g8.1, g8.2.1, g8.2.2) rfl ⟨rfl, trivial⟩
  · clear hx4
    refine Ct.then_tr ?_
    refine Tr.weak (Γ' := [(3, (pEq (.slice g12.1 g12.2.1 g12.2.2)))]) ⟨rfl, trivial⟩ ?_
    refine Tr.seq ?_
    refine Tr.region ?_
    refine RegL.pure (p := (pEq (.slice g12.1 g12.2.1 g12.2.2))) rfl rfl rfl (J_move rfl (Opd.tmp rfl)) ?_
    refine RegL.pure (p := (pEq (.slice g12.1 g12.2.1 g12.2.2))) rfl rfl rfl (J_assign rfl (Opd.tmp rfl)) ?_
    refine RegL.nil ?_
    refine Ct.then_tr ?_
    refine Tr.weak (Γ' := [(2, (pEq (.slice g12.1 g12.2.1 g12.2.2)))]) ⟨rfl, trivial⟩ ?_
    refine Tr.ret ?_
    replace h := Option.some.inj h; subst h
    exact Ct.retH1 (Ωx := []) (g12.1, g12.2.1, g12.2.2) rfl (RvOk.tmp rfl) rfl

theorem c_laws_toInt64S {a_0 : (List Int)} {r : (List Int)} (h : m_laws_toInt64S a_0 = some r) : CallJ Try.prog 10 [(pSl 1 (cK .i64) a_0)] (pSl 1 (cK .i64) r) :=
  CallH.frozen (o_laws_toInt64S h) (fun g => (Conv.row 0 (fun _ => rfl) rfl))

theorem o_laws_toAntenna {a_0 : GAntenna}  {r : GAntenna} (h : m_laws_toAntenna a_0 = some r) : CallH Try.prog 111 [(pAgg (cGAntenna a_0))] [] (fun g : (G3 × G3) => (pAgg [(pEq (.string r.Name)), (pEq (.int .i64 r.Gain)), (pEq (.slice g.1.1 g.1.2.1 g.1.2.2)), (pEq (.slice g.2.1 g.2.2.1 g.2.2.2))])) (fun g : (G3 × G3) => [oSl 2 1 (cK .i64) g.1.1 g.1.2.1 g.1.2.2 r.Horizontal, oSl 2 1 (cK .i64) g.2.1 g.2.2.1 g.2.2.2 r.Vertical]) := by
  unfold m_laws_toAntenna at h
  refine CallH.enter Try.func111 rfl Try.ntmps111 rfl fun W I0 H => ?_
  refine Tr.weak (Γ' := [(0, (pAgg (cGAntenna a_0)))]) ⟨rfl, trivial⟩ ?_
  refine Tr.seq ?_
  refine Tr.region ?_
  refine RegL.pure (p := (pPtr (cGAntenna a_0))) rfl rfl rfl (J_boxA rfl (Opd.tmp rfl)) ?_
  refine RegL.step (γ := Nat) (p := fun b => pEq (.pointer (some ⟨b, 0, none⟩))) (Ω' := fun b => [oBlk b [(pEq (.string ByteArray.empty)), (pEq (.int .i64 (0 : Int))), (pEq (.slice none 0 0)), (pEq (.slice none 0 0))]]) rfl rfl rfl (M_alloc rfl zero92) fun b1 => ?_
  refine RegL.nil ?_
  refine Ct.then_tr ?_
  refine Tr.weak (Γ' := [(1, (pPtr (cGAntenna a_0))), (2, (pEq (.pointer (some ⟨b1, 0, none⟩))))]) ⟨rfl, rfl, trivial⟩ ?_
  refine Tr.seq ?_
  refine Tr.region ?_
  refine RegL.step (γ := Nat) (p := fun b => pEq (.pointer (some ⟨b, 0, none⟩))) (Ω' := fun b => [oBlk b [(pEq (.string ByteArray.empty)), (pEq (.int .i64 (0 : Int))), (pEq (.slice none 0 0)), (pEq (.slice none 0 0))], oBlk b1 [(pEq (.string ByteArray.empty)), (pEq (.int .i64 (0 : Int))), (pEq (.slice none 0 0)), (pEq (.slice none 0 0))]]) rfl rfl rfl (M_alloc rfl zero92) fun b2 => ?_
  refine RegL.nil ?_
  refine Ct.then_tr ?_
  refine Tr.weak (Γ' := [(1, (pPtr (cGAntenna a_0))), (2, (pEq (.pointer (some ⟨b1, 0, none⟩)))), (3, (pEq (.pointer (some ⟨b2, 0, none⟩))))]) ⟨rfl, rfl, rfl, trivial⟩ ?_
  refine Tr.seq ?_
  refine Tr.region ?_
  refine RegL.pure (p := (pPtr (cS a_0.Name))) rfl rfl rfl (J_fieldAddr rfl Try.underlying124 rfl sz9 (by decide) (Opd.tmp rfl) rfl) ?_
  refine RegL.pure (p := (pEq (.string a_0.Name))) rfl rfl rfl (J_load rfl Try.isAgg9 (Opd.tmp rfl)) ?_
  refine RegL.pure (p := (pEq (.pointer (some ⟨b2, 0, none⟩)))) rfl rfl rfl (J_fieldAddrE rfl Try.underlying92 rfl sz9 (by decide) (Opd.tmp rfl) rfl) ?_
  refine RegL.stepN (γ := Unit) (p := fun _ => pAny) (Ω' := fun _ => [oBlk b2 [(pEq (.string a_0.Name)), (pEq (.int .i64 (0 : Int))), (pEq (.slice none 0 0)), (pEq (.slice none 0 0))], oBlk b1 [(pEq (.string ByteArray.empty)), (pEq (.int .i64 (0 : Int))), (pEq (.slice none 0 0)), (pEq (.slice none 0 0))]]) rfl rfl (M_store rfl sz9 (Opd.tmp rfl) (Opd.tmp rfl) OneC.str rfl rfl) fun g3 => ?_
  refine RegL.nil ?_
  refine Ct.then_tr ?_
  refine Tr.weak (Γ' := [(1, (pPtr (cGAntenna a_0))), (2, (pEq (.pointer (some ⟨b1, 0, none⟩)))), (3, (pEq (.pointer (some ⟨b2, 0, none⟩))))]) ⟨rfl, rfl, rfl, trivial⟩ ?_
  refine Tr.seq ?_
  refine Tr.region ?_
  refine RegL.pure (p := (pPtr ((cK .i64) a_0.Gain))) rfl rfl rfl (J_fieldAddr rfl Try.underlying124 rfl sz2 (by decide) (Opd.tmp rfl) rfl) ?_
  refine RegL.pure (p := (pEq (.int .i64 a_0.Gain))) rfl rfl rfl (J_load rfl Try.isAgg2 (Opd.tmp rfl)) ?_
  refine RegL.pure (p := (pEq (.pointer (some ⟨b2, 1, none⟩)))) rfl rfl rfl (J_fieldAddrE rfl Try.underlying92 rfl sz2 (by decide) (Opd.tmp rfl) rfl) ?_
  refine RegL.stepN (γ := Unit) (p := fun _ => pAny) (Ω' := fun _ => [oBlk b2 [(pEq (.string a_0.Name)), (pEq (.int .i64 a_0.Gain)), (pEq (.slice none 0 0)), (pEq (.slice none 0 0))], oBlk b1 [(pEq (.string ByteArray.empty)), (pEq (.int .i64 (0 : Int))), (pEq (.slice none 0 0)), (pEq (.slice none 0 0))]]) rfl rfl (M_store rfl sz2 (Opd.tmp rfl) (Opd.tmp rfl) OneC.int rfl rfl) fun g4 => ?_
  refine RegL.nil ?_
  refine Ct.then_tr ?_
  refine Tr.weak (Γ' := [(1, (pPtr (cGAntenna a_0))), (2, (pEq (.pointer (some ⟨b1, 0, none⟩)))), (3, (pEq (.pointer (some ⟨b2, 0, none⟩))))]) ⟨rfl, rfl, rfl, trivial⟩ ?_
  refine Tr.seq ?_
  refine Tr.region ?_
  refine RegL.pure (p := (pPtr ((cSl 1 (cK .i64)) a_0.Horizontal))) rfl rfl rfl (J_fieldAddr rfl Try.underlying124 rfl sz23 (by decide) (Opd.tmp rfl) rfl) ?_
  refine RegL.pure (p := (pSl 1 (cK .i64) a_0.Horizontal)) rfl rfl rfl (J_load rfl Try.isAgg23 (Opd.tmp rfl)) ?_
  replace h := bind_some h; obtain ⟨x5, hx5, h⟩ := h
  refine RegL.step (γ := G3) (p := fun g => (pEq (.slice g.1 g.2.1 g.2.2))) (Ω' := fun g => [oSl 2 1 (cK .i64) g.1 g.2.1 g.2.2 x5, oBlk b2 [(pEq (.string a_0.Name)), (pEq (.int .i64 a_0.Gain)), (pEq (.slice none 0 0)), (pEq (.slice none 0 0))], oBlk b1 [(pEq (.string ByteArray.empty)), (pEq (.int .i64 (0 : Int))), (pEq (.slice none 0 0)), (pEq (.slice none 0 0))]]) rfl rfl rfl (M_callH (Ωi := []) rfl Try.call10 (o_laws_toInt64S hx5) (Opds.cons (Opd.tmp rfl) Opds.nil)) fun g6 => ?_
  refine RegL.pure (p := (pEq (.pointer (some ⟨b2, 2, none⟩)))) rfl rfl rfl (J_fieldAddrE rfl Try.underlying92 rfl sz23 (by decide) (Opd.tmp rfl) rfl) ?_
  refine RegL.re (Ω2 := [oBlk b2 [(pEq (.string a_0.Name)), (pEq (.int .i64 a_0.Gain)), (pEq (.slice none 0 0)), (pEq (.slice none 0 0))], oSl 2 1 (cK .i64) g6.1 g6.2.1 g6.2.2 x5, oBlk b1 [(pEq (.string ByteArray.empty)), (pEq (.int .i64 (0 : Int))), (pEq (.slice none 0 0)), (pEq (.slice none 0 0))]]) (fun h => SatO.pick 1 h) ?_
  refine RegL.stepN (γ := Unit) (p := fun _ => pAny) (Ω' := fun _ => [oBlk b2 [(pEq (.string a_0.Name)), (pEq (.int .i64 a_0.Gain)), (pEq (.slice g6.1 g6.2.1 g6.2.2)), (pEq (.slice none 0 0))], oSl 2 1 (cK .i64) g6.1 g6.2.1 g6.2.2 x5, oBlk b1 [(pEq (.string ByteArray.empty)), (pEq (.int .i64 (0 : Int))), (pEq (.slice none 0 0)), (pEq (.slice none 0 0))]]) rfl rfl (M_store rfl sz23 (Opd.tmp rfl) (Opd.tmp rfl) OneC.slice rfl rfl) fun g8 => ?_
  refine RegL.nil ?_
  refine Ct.then_tr ?_
  refine Tr.weak (Γ' := [(1, (pPtr (cGAntenna a_0))), (2, (pEq (.pointer (some ⟨b1, 0, none⟩)))), (3, (pEq (.pointer (some ⟨b2, 0, none⟩))))]) ⟨rfl, rfl, rfl, trivial⟩ ?_
  refine Tr.seq ?_
  refine Tr.region ?_
  refine RegL.pure (p := (pPtr ((cSl 1 (cK .i64)) a_0.Vertical))) rfl rfl rfl (J_fieldAddr rfl Try.underlying124 rfl sz23 (by decide) (Opd.tmp rfl) rfl) ?_
  refine RegL.pure (p := (pSl 1 (cK .i64) a_0.Vertical)) rfl rfl rfl (J_load rfl Try.isAgg23 (Opd.tmp rfl)) ?_
  replace h := bind_some h; obtain ⟨x9, hx9, h⟩ := h
  refine RegL.step (γ := G3) (p := fun g => (pEq (.slice g.1 g.2.1 g.2.2))) (Ω' := fun g => [oSl 2 1 (cK .i64) g.1 g.2.1 g.2.2 x9, oBlk b2 [(pEq (.string a_0.Name)), (pEq (.int .i64 a_0.Gain)), (pEq (.slice g6.1 g6.2.1 g6.2.2)), (pEq (.slice none 0 0))], oSl 2 1 (cK .i64) g6.1 g6.2.1 g6.2.2 x5, oBlk b1 [(pEq (.string ByteArray.empty)), (pEq (.int .i64 (0 : Int))), (pEq (.slice none 0 0)), (pEq (.slice none 0 0))]]) rfl rfl rfl (M_callH (Ωi := []) rfl Try.call10 (o_laws_toInt64S hx9) (Opds.cons (Opd.tmp rfl) Opds.nil)) fun g10 => ?_
  refine RegL.pure (p := (pEq (.pointer (some ⟨b2, 3, none⟩)))) rfl rfl rfl (J_fieldAddrE rfl Try.underlying92 rfl sz23 (by decide) (Opd.tmp rfl) rfl) ?_
  refine RegL.re (Ω2 := [oBlk b2 [(pEq (.string a_0.Name)), (pEq (.int .i64 a_0.Gain)), (pEq (.slice g6.1 g6.2.1 g6.2.2)), (pEq (.slice none 0 0))], oSl 2 1 (cK .i64) g10.1 g10.2.1 g10.2.2 x9, oSl 2 1 (cK .i64) g6.1 g6.2.1 g6.2.2 x5, oBlk b1 [(pEq (.string ByteArray.empty)), (pEq (.int .i64 (0 : Int))), (pEq (.slice none 0 0)), (pEq (.slice none 0 0))]]) (fun h => SatO.pick 1 h) ?_
  refine RegL.stepN (γ := Unit) (p := fun _ => pAny) (Ω' := fun _ => [oBlk b2 [(pEq (.string a_0.Name)), (pEq (.int .i64 a_0.Gain)), (pEq (.slice g6.1 g6.2.1 g6.2.2)), (pEq (.slice g10.1 g10.2.1 g10.2.2))], oSl 2 1 (cK .i64) g10.1 g10.2.1 g10.2.2 x9, oSl 2 1 (cK .i64) g6.1 g6.2.1 g6.2.2 x5, oBlk b1 [(pEq (.string ByteArray.empty)), (pEq (.int .i64 (0 : Int))), (pEq (.slice none 0 0)), (pEq (.slice none 0 0))]]) rfl rfl (M_store rfl sz23 (Opd.tmp rfl) (Opd.tmp rfl) OneC.slice rfl rfl) fun g12 => ?_
  refine RegL.nil ?_
  refine Ct.then_tr ?_
  refine Tr.weak (Γ' := [(2, (pEq (.pointer (some ⟨b1, 0, none⟩)))), (3, (pEq (.pointer (some ⟨b2, 0, none⟩))))]) ⟨rfl, rfl, trivial⟩ ?_
  refine Tr.seq ?_
  refine Tr.region ?_
  refine RegL.pureW (p := (pAgg [(pEq (.string a_0.Name)), (pEq (.int .i64 a_0.Gain)), (pEq (.slice g6.1 g6.2.1 g6.2.2)), (pEq (.slice g10.1 g10.2.1 g10.2.2))])) rfl rfl rfl (W_loadA (i := 0) rfl Try.isAgg92 sz92 (Opd.tmp rfl) rfl rfl) ?_
  refine RegL.re (Ω2 := [oBlk b1 [(pEq (.string ByteArray.empty)), (pEq (.int .i64 (0 : Int))), (pEq (.slice none 0 0)), (pEq (.slice none 0 0))], oBlk b2 [(pEq (.string a_0.Name)), (pEq (.int .i64 a_0.Gain)), (pEq (.slice g6.1 g6.2.1 g6.2.2)), (pEq (.slice g10.1 g10.2.1 g10.2.2))], oSl 2 1 (cK .i64) g10.1 g10.2.1 g10.2.2 x9, oSl 2 1 (cK .i64) g6.1 g6.2.1 g6.2.2 x5]) (fun h => SatO.pick 3 h) ?_
  refine RegL.stepN (γ := Unit) (p := fun _ => pAny) (Ω' := fun _ => [oBlk b1 [(pEq (.string a_0.Name)), (pEq (.int .i64 a_0.Gain)), (pEq (.slice g6.1 g6.2.1 g6.2.2)), (pEq (.slice g10.1 g10.2.1 g10.2.2))], oBlk b2 [(pEq (.string a_0.Name)), (pEq (.int .i64 a_0.Gain)), (pEq (.slice g6.1 g6.2.1 g6.2.2)), (pEq (.slice g10.1 g10.2.1 g10.2.2))], oSl 2 1 (cK .i64) g10.1 g10.2.1 g10.2.2 x9, oSl 2 1 (cK .i64) g6.1 g6.2.1 g6.2.2 x5]) rfl rfl (M_storeA rfl sz92 (Opd.tmp rfl) (Opd.tmp rfl) (fun _ _ _ h => ones_of ((OneCs.cons OneC.str (OneCs.cons OneC.int (OneCs.cons OneC.slice (OneCs.cons OneC.slice OneCs.nil))))) h) rfl rfl) fun g13 => ?_
  refine RegL.nil ?_
  refine Ct.then_tr ?_
  refine Tr.weak (Γ' := [(2, (pEq (.pointer (some ⟨b1, 0, none⟩))))]) ⟨rfl, trivial⟩ ?_
  refine Tr.ret ?_
  refine Ct.re (Ω2 := [oSl 2 1 (cK .i64) g10.1 g10.2.1 g10.2.2 x9, oBlk b1 [(pEq (.string a_0.Name)), (pEq (.int .i64 a_0.Gain)), (pEq (.slice g6.1 g6.2.1 g6.2.2)), (pEq (.slice g10.1 g10.2.1 g10.2.2))], oBlk b2 [(pEq (.string a_0.Name)), (pEq (.int .i64 a_0.Gain)), (pEq (.slice g6.1 g6.2.1 g6.2.2)), (pEq (.slice g10.1 g10.2.1 g10.2.2))], oSl 2 1 (cK .i64) g6.1 g6.2.1 g6.2.2 x5]) (fun h => SatO.pick 2 h) ?_
  refine Ct.re (Ω2 := [oSl 2 1 (cK .i64) g6.1 g6.2.1 g6.2.2 x5, oSl 2 1 (cK .i64) g10.1 g10.2.1 g10.2.2 x9, oBlk b1 [(pEq (.string a_0.Name)), (pEq (.int .i64 a_0.Gain)), (pEq (.slice g6.1 g6.2.1 g6.2.2)), (pEq (.slice g10.1 g10.2.1 g10.2.2))], oBlk b2 [(pEq (.string a_0.Name)), (pEq (.int .i64 a_0.Gain)), (pEq (.slice g6.1 g6.2.1 g6.2.2)), (pEq (.slice g10.1 g10.2.1 g10.2.2))]]) (fun h => SatO.pick 3 h) ?_
  refine Ct.re (Ω2 := [oBlk b2 [(pEq (.string a_0.Name)), (pEq (.int .i64 a_0.Gain)), (pEq (.slice g6.1 g6.2.1 g6.2.2)), (pEq (.slice g10.1 g10.2.1 g10.2.2))], oSl 2 1 (cK .i64) g6.1 g6.2.1 g6.2.2 x5, oSl 2 1 (cK .i64) g10.1 g10.2.1 g10.2.2 x9, oBlk b1 [(pEq (.string a_0.Name)), (pEq (.int .i64 a_0.Gain)), (pEq (.slice g6.1 g6.2.1 g6.2.2)), (pEq (.slice g10.1 g10.2.1 g10.2.2))]]) (fun h => SatO.pick 3 h) ?_
  refine Ct.re (Ω2 := [oBlk b1 [(pEq (.string a_0.Name)), (pEq (.int .i64 a_0.Gain)), (pEq (.slice g6.1 g6.2.1 g6.2.2)), (pEq (.slice g10.1 g10.2.1 g10.2.2))], oBlk b2 [(pEq (.string a_0.Name)), (pEq (.int .i64 a_0.Gain)), (pEq (.slice g6.1 g6.2.1 g6.2.2)), (pEq (.slice g10.1 g10.2.1 g10.2.2))], oSl 2 1 (cK .i64) g6.1 g6.2.1 g6.2.2 x5, oSl 2 1 (cK .i64) g10.1 g10.2.1 g10.2.2 x9]) (fun h => SatO.pick 3 h) ?_
  replace h := Option.some.inj h; subst h
  exact Ct.retH1 (Ωx := [oBlk b1 [(pEq (.string a_0.Name)), (pEq (.int .i64 a_0.Gain)), (pEq (.slice g6.1 g6.2.1 g6.2.2)), (pEq (.slice g10.1 g10.2.1 g10.2.2))], oBlk b2 [(pEq (.string a_0.Name)), (pEq (.int .i64 a_0.Gain)), (pEq (.slice g6.1 g6.2.1 g6.2.2)), (pEq (.slice g10.1 g10.2.1 g10.2.2))]]) ((g6.1, g6.2.1, g6.2.2), (g10.1, g10.2.1, g10.2.2)) rfl (RvOk.cellA (i := 0) Try.isAgg92 sz92 rfl rfl rfl) rfl

theorem c_laws_toAntenna {a_0 : GAntenna} {r : GAntenna} (h : m_laws_toAntenna a_0 = some r) : CallJ Try.prog 111 [(pAgg (cGAntenna a_0))] (pAgg (cGAntenna r)) :=
  CallH.frozen (o_laws_toAntenna h) (fun g => (Conv.agg (Convs.cons Conv.refl (Convs.cons Conv.refl (Convs.cons (Conv.row 0 (fun _ => rfl) rfl) (Convs.cons (Conv.row 1 (fun _ => rfl) rfl) Convs.nil))))))

theorem o_laws_toAntennaS {a_0 : (List GAntenna)}  {r : (List GAntenna)} (h : m_laws_toAntennaS a_0 = some r) : CallH Try.prog 69 [(pSl 4 cGAntenna a_0)] [] (fun g : G3 => (pEq (.slice g.1 g.2.1 g.2.2))) (fun g : G3 => [oSl 92 4 cGAntenna g.1 g.2.1 g.2.2 r]) := by
  unfold m_laws_toAntennaS at h
  refine CallH.enter Try.func69 rfl Try.ntmps69 rfl fun W I0 H => ?_
  refine Tr.weak (Γ' := [(0, (pSl 4 cGAntenna a_0))]) ⟨rfl, trivial⟩ ?_
  refine Tr.seq ?_
  refine Tr.region ?_
  refine RegL.pure (p := (pEq (.slice none 0 0))) rfl rfl rfl (J_assign rfl Opd.con) ?_
  refine RegL.nil ?_
  refine Ct.then_tr ?_
  refine Tr.weak (Γ' := [(0, (pSl 4 cGAntenna a_0))]) ⟨rfl, trivial⟩ ?_
  refine Tr.seq ?_
  refine Tr.region ?_
  refine RegL.pure (p := (pSl 4 cGAntenna a_0)) rfl rfl rfl (J_move rfl (Opd.tmp rfl)) ?_
  refine RegL.pure (p := (pEq (.int .i64 (a_0.length : Int)))) rfl rfl rfl (J_len rfl Try.underlying51 (Opd.tmp rfl) rfl) ?_
  replace h := bind_some h; obtain ⟨x1, hx1, h⟩ := h
  refine RegL.step (γ := Option Addr) (p := fun a => pEq (.slice a ((a_0.length : Int)).toNat ((a_0.length : Int)).toNat)) (Ω' := fun a => [oSl 92 4 cGAntenna a ((a_0.length : Int)).toNat ((a_0.length : Int)).toNat x1]) rfl rfl rfl (M_make rfl Try.underlying59 el92 (by decide) (Opd.tmp rfl) hx1) fun o2 => ?_
  refine RegL.pure (p := (pEq (.slice o2 ((a_0.length : Int)).toNat ((a_0.length : Int)).toNat))) rfl rfl rfl (J_assign rfl (Opd.tmp rfl)) ?_
  refine RegL.nil ?_
  refine Ct.then_tr ?_
  refine Tr.weak (Γ' := [(0, (pSl 4 cGAntenna a_0)), (3, (pEq (.slice o2 ((a_0.length : Int)).toNat ((a_0.length : Int)).toNat)))]) ⟨rfl, rfl, trivial⟩ ?_
  refine Tr.seq ?_
  refine Tr.seq ?_
  refine Tr.region ?_
  refine RegL.pure (p := (pEq (.int .i64 (0 : Int)))) rfl rfl rfl (J_assign rfl Opd.con) ?_
  refine RegL.nil ?_
  refine Ct.then_tr ?_
  refine Tr.weak (Γ' := [(0, (pSl 4 cGAntenna a_0)), (3, (pEq (.slice o2 ((a_0.length : Int)).toNat ((a_0.length : Int)).toNat))), (4, (pEq (.int .i64 (0 : Int))))]) ⟨rfl, rfl, rfl, trivial⟩ ?_
  replace h := bind_some h; obtain ⟨x4, hx4, h⟩ := h
  refine Tr.cut (γ := G3) (Γm := fun g => [(3, (pEq (.slice g.1 g.2.1 g.2.2)))]) (Ωm := fun g => [oSl 92 4 cGAntenna g.1 g.2.1 g.2.2 x4]) ?_ (fun g16 => ?_)
  · clear h
    have h := hx4
    clear hx4
    refine Tr.block ?_
    refine Tr.weak (Γ' := [(0, (pSl 4 cGAntenna a_0)), (3, (pEq (.slice o2 ((a_0.length : Int)).toNat ((a_0.length : Int)).toNat))), (4, (pEq (.int .i64 (0 : Int))))]) ⟨rfl, rfl, rfl, trivial⟩ ?_
    refine Tr.loop (γ := G3) (σ := (Int × (List GAntenna))) (Γσ := fun s g => [(0, (pSl 4 cGAntenna a_0)), (3, (pEq (.slice g.1 g.2.1 g.2.2))), (4, (pEq (.int .i64 s.1)))]) (Ωσ := fun s g => [oSl 92 4 cGAntenna g.1 g.2.1 g.2.2 s.2]) (g := (o2, ((a_0.length : Int)).toNat, ((a_0.length : Int)).toNat)) h ?_
    clear h
    rintro ⟨v6, v7⟩ g8 t h
    replace h : m_laws_toAntennaS_B5 a_0 v6 v7 = some t := h
    unfold m_laws_toAntennaS_B5 at h
    refine Tr.weakO (Γ' := [(0, (pSl 4 cGAntenna a_0)), (3, (pEq (.slice g8.1 g8.2.1 g8.2.2))), (4, (pEq (.int .i64 v6)))]) (Ω' := [oSl 92 4 cGAntenna g8.1 g8.2.1 g8.2.2 v7]) rfl ⟨rfl, rfl, rfl, trivial⟩ ?_
    refine Tr.seq ?_
    refine Tr.seq ?_
    refine Tr.region ?_
    refine RegL.pure (p := (pEq (.int .i64 v6))) rfl rfl rfl (J_move rfl (Opd.tmp rfl)) ?_
    refine RegL.pure (p := (pSl 4 cGAntenna a_0)) rfl rfl rfl (J_move rfl (Opd.tmp rfl)) ?_
    refine RegL.pure (p := (pEq (.int .i64 (a_0.length : Int)))) rfl rfl rfl (J_len rfl Try.underlying51 (Opd.tmp rfl) rfl) ?_
    refine RegL.pure (p := (pEq (.bool (decide (v6 < (a_0.length : Int)))))) rfl rfl rfl (J_bin rfl (Opd.tmp rfl) (Opd.tmp rfl) B_lss) ?_
    refine RegL.nil ?_
    refine Ct.then_tr ?_
    refine Tr.weak (Γ' := [(0, (pSl 4 cGAntenna a_0)), (3, (pEq (.slice g8.1 g8.2.1 g8.2.2))), (4, (pEq (.int .i64 v6))), (11, (pEq (.bool (decide (v6 < (a_0.length : Int))))))]) ⟨rfl, rfl, rfl, rfl, trivial⟩ ?_
    refine Tr.cond (Opd.tmp rfl) (fun hc => ?_) (fun hc => ?_)
    · replace h := bif_t hc h
      refine Tr.skip ?_
      refine Ct.then_tr ?_
      refine Tr.weak (Γ' := [(0, (pSl 4 cGAntenna a_0)), (3, (pEq (.slice g8.1 g8.2.1 g8.2.2))), (4, (pEq (.int .i64 v6)))]) ⟨rfl, rfl, rfl, trivial⟩ ?_
      refine Tr.seq ?_
      refine Tr.block ?_
      refine Tr.region ?_
      refine RegL.pure (p := (pEq (.slice g8.1 g8.2.1 g8.2.2))) rfl rfl rfl (J_move rfl (Opd.tmp rfl)) ?_
      refine RegL.pure (p := (pEq (.int .i64 v6))) rfl rfl rfl (J_move rfl (Opd.tmp rfl)) ?_
      refine RegL.pure (p := (pSl 4 cGAntenna a_0)) rfl rfl rfl (J_move rfl (Opd.tmp rfl)) ?_
      refine RegL.pure (p := (pEq (.int .i64 v6))) rfl rfl rfl (J_move rfl (Opd.tmp rfl)) ?_
      replace h := bind_some h; obtain ⟨x9, hx9, h⟩ := h
      refine RegL.pure (p := (pPtr (cGAntenna x9))) rfl rfl rfl (J_idx rfl Try.underlying51 sz124 (Opd.tmp rfl) (Opd.tmp rfl) hx9) ?_
      refine RegL.pure (p := (pAgg (cGAntenna x9))) rfl rfl rfl (J_loadA rfl Try.isAgg124 sz124 (Opd.tmp rfl) rfl) ?_
      replace h := bind_some h; obtain ⟨x10, hx10, h⟩ := h
      refine RegL.step (γ := (G3 × G3)) (p := fun g => (pAgg [(pEq (.string x10.Name)), (pEq (.int .i64 x10.Gain)), (pEq (.slice g.1.1 g.1.2.1 g.1.2.2)), (pEq (.slice g.2.1 g.2.2.1 g.2.2.2))])) (Ω' := fun g => [oSl 2 1 (cK .i64) g.1.1 g.1.2.1 g.1.2.2 x10.Horizontal, oSl 2 1 (cK .i64) g.2.1 g.2.2.1 g.2.2.2 x10.Vertical, oSl 92 4 cGAntenna g8.1 g8.2.1 g8.2.2 v7]) rfl rfl rfl (M_callH (Ωi := []) rfl Try.call111 (o_laws_toAntenna hx10) (Opds.cons (Opd.tmp rfl) Opds.nil)) fun g11 => ?_
      replace h := bind_some h; obtain ⟨u14, hu14, h⟩ := h
      refine RegL.pureW (p := (pEq (.pointer (some ⟨blk g8.1, (v6).toNat * 4, none⟩)))) rfl rfl rfl (W_rowIdx (j := 2) rfl Try.underlying59 sz92 (Opd.tmp rfl) (Opd.tmp rfl) rfl (inB_some hu14)) ?_
      refine RegL.freezeC (Ωs := [oSl 2 1 (cK .i64) g11.1.1 g11.1.2.1 g11.1.2.2 x10.Horizontal, oSl 2 1 (cK .i64) g11.2.1 g11.2.2.1 g11.2.2.2 x10.Vertical]) [(20, (pAgg [(pEq (.string x10.Name)), (pEq (.int .i64 x10.Gain)), (pEq (.slice g11.1.1 g11.1.2.1 g11.1.2.2)), (pEq (.slice g11.2.1 g11.2.2.1 g11.2.2.2))]), (pAgg (cGAntenna x10)))] ⟨⟨rfl, (Conv.agg (Convs.cons Conv.refl (Convs.cons Conv.refl (Convs.cons (Conv.row 0 (fun _ => rfl) rfl) (Convs.cons (Conv.row 1 (fun _ => rfl) rfl) Convs.nil)))))⟩, trivial⟩ ?_
      refine RegL.stepN (γ := Unit) (p := fun _ => pAny) (Ω' := fun _ => [oSl 92 4 cGAntenna g8.1 g8.2.1 g8.2.2 (v7.set (v6).toNat x10)]) rfl rfl (M_rowStoreA rfl sz92 el92 (Opd.tmp rfl) (Opd.tmp rfl) (setL_of (inB_some hu14))) fun g15 => ?_
      refine RegL.nil ?_
      refine Ct.blk_normal ?_
      refine Ct.then_tr ?_
      refine Tr.weak (Γ' := [(0, (pSl 4 cGAntenna a_0)), (3, (pEq (.slice g8.1 g8.2.1 g8.2.2))), (4, (pEq (.int .i64 v6)))]) ⟨rfl, rfl, rfl, trivial⟩ ?_
      refine Tr.region ?_
      refine RegL.pure (p := (pEq (.int .i64 v6))) rfl rfl rfl (J_move rfl (Opd.tmp rfl)) ?_
      refine RegL.pure (p := (pEq (.int .i64 (w64 (v6 + (1 : Int)))))) rfl rfl rfl (J_bin rfl (Opd.tmp rfl) Opd.con B_add) ?_
      refine RegL.pure (p := (pEq (.int .i64 (w64 (v6 + (1 : Int)))))) rfl rfl rfl (J_assign rfl (Opd.tmp rfl)) ?_
      refine RegL.nil ?_
      replace h := Option.some.inj h; subst h
      exact Ct.again (g8.1, g8.2.1, g8.2.2) rfl ⟨rfl, rfl, rfl, trivial⟩
    · replace h := bif_f hc h
      refine Tr.exit ?_
      refine Ct.then_exit ?_
      replace h := map_some h; obtain ⟨r1, h, rfl⟩ := h
      refine Ct.out_exit fun e => ?_
      subst e
      refine Ct.blk_exit ?_
      replace h := Option.some.inj h; subst h
      exact Ct.mid (g8.1, g8.2.1, g8.2.2) rfl ⟨rfl, trivial⟩
  · clear hx4
    refine Ct.then_tr ?_
    refine Tr.weak (Γ' := [(3, (pEq (.slice g16.1 g16.2.1 g16.2.2)))]) ⟨rfl, trivial⟩ ?_
    refine Tr.seq ?_
    refine Tr.region ?_
    refine RegL.pure (p := (pEq (.slice g16.1 g16.2.1 g16.2.2))) rfl rfl rfl (J_move rfl (Opd.tmp rfl)) ?_
    refine RegL.pure (p := (pEq (.slice g16.1 g16.2.1 g16.2.2))) rfl rfl rfl (J_assign rfl (Opd.tmp rfl)) ?_
    refine RegL.nil ?_
    refine Ct.then_tr ?_
    refine Tr.weak (Γ' := [(2, (pEq (.slice g16.1 g16.2.1 g16.2.2)))]) ⟨rfl, trivial⟩ ?_
    refine Tr.ret ?_
    replace h := Option.some.inj h; subst h
    exact Ct.retH1 (Ωx := []) (g16.1, g16.2.1, g16.2.2) rfl (RvOk.tmp rfl) rfl

theorem c_laws_toAntennaS {a_0 : (List GAntenna)} {r : (List GAntenna)} (h : m_laws_toAntennaS a_0 = some r) : CallJ Try.prog 69 [(pSl 4 cGAntenna a_0)] (pSl 4 cGAntenna r) :=
  CallH.frozen (o_laws_toAntennaS h) (fun g => (Conv.row 0 (fun _ => rfl) rfl))

theorem c_laws_toMode {a_0 : GMode} {r : GMode} (h : m_laws_toMode a_0 = some r) : CallJ Try.prog 136 [(pAgg (cGMode a_0))] (pAgg (cGMode r)) := by
  unfold m_laws_toMode at h
  refine CallJ.enterH Try.func136 rfl Try.ntmps136 rfl fun W I0 H => ?_
  refine Tr.weak (Γ' := [(0, (pAgg (cGMode a_0)))]) ⟨rfl, trivial⟩ ?_
  refine Tr.seq ?_
  refine Tr.region ?_
  refine RegL.pure (p := (pPtr (cGMode a_0))) rfl rfl rfl (J_boxA rfl (Opd.tmp rfl)) ?_
  refine RegL.step (γ := Nat) (p := fun b => pEq (.pointer (some ⟨b, 0, none⟩))) (Ω' := fun b => [oBlk b [(pEq (.int .i64 (0 : Int))), (pEq (.int .i64 (0 : Int)))]]) rfl rfl rfl (M_alloc rfl zero130) fun b1 => ?_
  refine RegL.nil ?_
  refine Ct.then_tr ?_
  refine Tr.weak (Γ' := [(1, (pPtr (cGMode a_0))), (2, (pEq (.pointer (some ⟨b1, 0, none⟩))))]) ⟨rfl, rfl, trivial⟩ ?_
  refine Tr.seq ?_
  refine Tr.region ?_
  refine RegL.step (γ := Nat) (p := fun b => pEq (.pointer (some ⟨b, 0, none⟩))) (Ω' := fun b => [oBlk b [(pEq (.int .i64 (0 : Int))), (pEq (.int .i64 (0 : Int)))], oBlk b1 [(pEq (.int .i64 (0 : Int))), (pEq (.int .i64 (0 : Int)))]]) rfl rfl rfl (M_alloc rfl zero130) fun b2 => ?_
  refine RegL.nil ?_
  refine Ct.then_tr ?_
  refine Tr.weak (Γ' := [(1, (pPtr (cGMode a_0))), (2, (pEq (.pointer (some ⟨b1, 0, none⟩)))), (3, (pEq (.pointer (some ⟨b2, 0, none⟩))))]) ⟨rfl, rfl, rfl, trivial⟩ ?_
  refine Tr.seq ?_
  refine Tr.region ?_
  refine RegL.pure (p := (pPtr ((cK .i64) a_0.Need))) rfl rfl rfl (J_fieldAddr rfl Try.underlying155 rfl sz2 (by decide) (Opd.tmp rfl) rfl) ?_
  refine RegL.pure (p := (pEq (.int .i64 a_0.Need))) rfl rfl rfl (J_load rfl Try.isAgg2 (Opd.tmp rfl)) ?_
  refine RegL.pure (p := (pEq (.pointer (some ⟨b2, 0, none⟩)))) rfl rfl rfl (J_fieldAddrE rfl Try.underlying130 rfl sz2 (by decide) (Opd.tmp rfl) rfl) ?_
  refine RegL.stepN (γ := Unit) (p := fun _ => pAny) (Ω' := fun _ => [oBlk b2 [(pEq (.int .i64 a_0.Need)), (pEq (.int .i64 (0 : Int)))], oBlk b1 [(pEq (.int .i64 (0 : Int))), (pEq (.int .i64 (0 : Int)))]]) rfl rfl (M_store rfl sz2 (Opd.tmp rfl) (Opd.tmp rfl) OneC.int rfl rfl) fun g3 => ?_
  refine RegL.nil ?_
  refine Ct.then_tr ?_
  refine Tr.weak (Γ' := [(1, (pPtr (cGMode a_0))), (2, (pEq (.pointer (some ⟨b1, 0, none⟩)))), (3, (pEq (.pointer (some ⟨b2, 0, none⟩))))]) ⟨rfl, rfl, rfl, trivial⟩ ?_
  refine Tr.seq ?_
  refine Tr.region ?_
  refine RegL.pure (p := (pPtr ((cK .i64) a_0.Rate))) rfl rfl rfl (J_fieldAddr rfl Try.underlying155 rfl sz2 (by decide) (Opd.tmp rfl) rfl) ?_
  refine RegL.pure (p := (pEq (.int .i64 a_0.Rate))) rfl rfl rfl (J_load rfl Try.isAgg2 (Opd.tmp rfl)) ?_
  refine RegL.pure (p := (pEq (.pointer (some ⟨b2, 1, none⟩)))) rfl rfl rfl (J_fieldAddrE rfl Try.underlying130 rfl sz2 (by decide) (Opd.tmp rfl) rfl) ?_
  refine RegL.stepN (γ := Unit) (p := fun _ => pAny) (Ω' := fun _ => [oBlk b2 [(pEq (.int .i64 a_0.Need)), (pEq (.int .i64 a_0.Rate))], oBlk b1 [(pEq (.int .i64 (0 : Int))), (pEq (.int .i64 (0 : Int)))]]) rfl rfl (M_store rfl sz2 (Opd.tmp rfl) (Opd.tmp rfl) OneC.int rfl rfl) fun g4 => ?_
  refine RegL.nil ?_
  refine Ct.then_tr ?_
  refine Tr.weak (Γ' := [(2, (pEq (.pointer (some ⟨b1, 0, none⟩)))), (3, (pEq (.pointer (some ⟨b2, 0, none⟩))))]) ⟨rfl, rfl, trivial⟩ ?_
  refine Tr.seq ?_
  refine Tr.region ?_
  refine RegL.pureW (p := (pAgg (cGMode a_0))) rfl rfl rfl (W_loadA (i := 0) rfl Try.isAgg130 sz130 (Opd.tmp rfl) rfl rfl) ?_
  refine RegL.re (Ω2 := [oBlk b1 [(pEq (.int .i64 (0 : Int))), (pEq (.int .i64 (0 : Int)))], oBlk b2 [(pEq (.int .i64 a_0.Need)), (pEq (.int .i64 a_0.Rate))]]) (fun h => SatO.pick 1 h) ?_
  refine RegL.stepN (γ := Unit) (p := fun _ => pAny) (Ω' := fun _ => [oBlk b1 [(pEq (.int .i64 a_0.Need)), (pEq (.int .i64 a_0.Rate))], oBlk b2 [(pEq (.int .i64 a_0.Need)), (pEq (.int .i64 a_0.Rate))]]) rfl rfl (M_storeA rfl sz130 (Opd.tmp rfl) (Opd.tmp rfl) (fun _ _ _ h => ones_of ((OneCs.cons OneC.int (OneCs.cons OneC.int OneCs.nil))) h) rfl rfl) fun g5 => ?_
  refine RegL.nil ?_
  refine Ct.then_tr ?_
  refine Tr.weak (Γ' := [(2, (pEq (.pointer (some ⟨b1, 0, none⟩))))]) ⟨rfl, trivial⟩ ?_
  refine Tr.ret ?_
  replace h := Option.some.inj h; subst h
  exact Ct.retH1 (Ωx := [oBlk b1 [(pEq (.int .i64 a_0.Need)), (pEq (.int .i64 a_0.Rate))], oBlk b2 [(pEq (.int .i64 a_0.Need)), (pEq (.int .i64 a_0.Rate))]]) () rfl (RvOk.cellA (i := 0) Try.isAgg130 sz130 rfl rfl rfl) rfl

theorem o_laws_toModeS {a_0 : (List GMode)}  {r : (List GMode)} (h : m_laws_toModeS a_0 = some r) : CallH Try.prog 130 [(pSl 2 cGMode a_0)] [] (fun g : G3 => (pEq (.slice g.1 g.2.1 g.2.2))) (fun g : G3 => [oSl 130 2 cGMode g.1 g.2.1 g.2.2 r]) := by
  unfold m_laws_toModeS at h
  refine CallH.enter Try.func130 rfl Try.ntmps130 rfl fun W I0 H => ?_
  refine Tr.weak (Γ' := [(0, (pSl 2 cGMode a_0))]) ⟨rfl, trivial⟩ ?_
  refine Tr.seq ?_
  refine Tr.region ?_
  refine RegL.pure (p := (pEq (.slice none 0 0))) rfl rfl rfl (J_assign rfl Opd.con) ?_
  refine RegL.nil ?_
  refine Ct.then_tr ?_
  refine Tr.weak (Γ' := [(0, (pSl 2 cGMode a_0))]) ⟨rfl, trivial⟩ ?_
  refine Tr.seq ?_
  refine Tr.region ?_
  refine RegL.pure (p := (pSl 2 cGMode a_0)) rfl rfl rfl (J_move rfl (Opd.tmp rfl)) ?_
  refine RegL.pure (p := (pEq (.int .i64 (a_0.length : Int)))) rfl rfl rfl (J_len rfl Try.underlying126 (Opd.tmp rfl) rfl) ?_
  replace h := bind_some h; obtain ⟨x1, hx1, h⟩ := h
  refine RegL.step (γ := Option Addr) (p := fun a => pEq (.slice a ((a_0.length : Int)).toNat ((a_0.length : Int)).toNat)) (Ω' := fun a => [oSl 130 2 cGMode a ((a_0.length : Int)).toNat ((a_0.length : Int)).toNat x1]) rfl rfl rfl (M_make rfl Try.underlying94 el130 (by decide) (Opd.tmp rfl) hx1) fun o2 => ?_
  refine RegL.pure (p := (pEq (.slice o2 ((a_0.length : Int)).toNat ((a_0.length : Int)).toNat))) rfl rfl rfl (J_assign rfl (Opd.tmp rfl)) ?_
  refine RegL.nil ?_
  refine Ct.then_tr ?_
  refine Tr.weak (Γ' := [(0, (pSl 2 cGMode a_0)), (3, (pEq (.slice o2 ((a_0.length : Int)).toNat ((a_0.length : Int)).toNat)))]) ⟨rfl, rfl, trivial⟩ ?_
  refine Tr.seq ?_
  refine Tr.seq ?_
  refine Tr.region ?_
  refine RegL.pure (p := (pEq (.int .i64 (0 : Int)))) rfl rfl rfl (J_assign rfl Opd.con) ?_
  refine RegL.nil ?_
  refine Ct.then_tr ?_
  refine Tr.weak (Γ' := [(0, (pSl 2 cGMode a_0)), (3, (pEq (.slice o2 ((a_0.length : Int)).toNat ((a_0.length : Int)).toNat))), (4, (pEq (.int .i64 (0 : Int))))]) ⟨rfl, rfl, rfl, trivial⟩ ?_
  replace h := bind_some h; obtain ⟨x4, hx4, h⟩ := h
  refine Tr.cut (γ := G3) (Γm := fun g => [(3, (pEq (.slice g.1 g.2.1 g.2.2)))]) (Ωm := fun g => [oSl 130 2 cGMode g.1 g.2.1 g.2.2 x4]) ?_ (fun g13 => ?_)
  · clear h
    have h := hx4
    clear hx4
    refine Tr.block ?_
    refine Tr.weak (Γ' := [(0, (pSl 2 cGMode a_0)), (3, (pEq (.slice o2 ((a_0.length : Int)).toNat ((a_0.length : Int)).toNat))), (4, (pEq (.int .i64 (0 : Int))))]) ⟨rfl, rfl, rfl, trivial⟩ ?_
    refine Tr.loop (γ := G3) (σ := (Int × (List GMode))) (Γσ := fun s g => [(0, (pSl 2 cGMode a_0)), (3, (pEq (.slice g.1 g.2.1 g.2.2))), (4, (pEq (.int .i64 s.1)))]) (Ωσ := fun s g => [oSl 130 2 cGMode g.1 g.2.1 g.2.2 s.2]) (g := (o2, ((a_0.length : Int)).toNat, ((a_0.length : Int)).toNat)) h ?_
    clear h
    rintro ⟨v6, v7⟩ g8 t h
    replace h : m_laws_toModeS_B5 a_0 v6 v7 = some t := h
    unfold m_laws_toModeS_B5 at h
    refine Tr.weakO (Γ' := [(0, (pSl 2 cGMode a_0)), (3, (pEq (.slice g8.1 g8.2.1 g8.2.2))), (4, (pEq (.int .i64 v6)))]) (Ω' := [oSl 130 2 cGMode g8.1 g8.2.1 g8.2.2 v7]) rfl ⟨rfl, rfl, rfl, trivial⟩ ?_
    refine Tr.seq ?_
    refine Tr.seq ?_
    refine Tr.region ?_
    refine RegL.pure (p := (pEq (.int .i64 v6))) rfl rfl rfl (J_move rfl (Opd.tmp rfl)) ?_
    refine RegL.pure (p := (pSl 2 cGMode a_0)) rfl rfl rfl (J_move rfl (Opd.tmp rfl)) ?_
    refine RegL.pure (p := (pEq (.int .i64 (a_0.length : Int)))) rfl rfl rfl (J_len rfl Try.underlying126 (Opd.tmp rfl) rfl) ?_
    refine RegL.pure (p := (pEq (.bool (decide (v6 < (a_0.length : Int)))))) rfl rfl rfl (J_bin rfl (Opd.tmp rfl) (Opd.tmp rfl) B_lss) ?_
    refine RegL.nil ?_
    refine Ct.then_tr ?_
    refine Tr.weak (Γ' := [(0, (pSl 2 cGMode a_0)), (3, (pEq (.slice g8.1 g8.2.1 g8.2.2))), (4, (pEq (.int .i64 v6))), (11, (pEq (.bool (decide (v6 < (a_0.length : Int))))))]) ⟨rfl, rfl, rfl, rfl, trivial⟩ ?_
    refine Tr.cond (Opd.tmp rfl) (fun hc => ?_) (fun hc => ?_)
    · replace h := bif_t hc h
      refine Tr.skip ?_
      refine Ct.then_tr ?_
      refine Tr.weak (Γ' := [(0, (pSl 2 cGMode a_0)), (3, (pEq (.slice g8.1 g8.2.1 g8.2.2))), (4, (pEq (.int .i64 v6)))]) ⟨rfl, rfl, rfl, trivial⟩ ?_
      refine Tr.seq ?_
      refine Tr.block ?_
      refine Tr.region ?_
      refine RegL.pure (p := (pEq (.slice g8.1 g8.2.1 g8.2.2))) rfl rfl rfl (J_move rfl (Opd.tmp rfl)) ?_
      refine RegL.pure (p := (pEq (.int .i64 v6))) rfl rfl rfl (J_move rfl (Opd.tmp rfl)) ?_
      refine RegL.pure (p := (pSl 2 cGMode a_0)) rfl rfl rfl (J_move rfl (Opd.tmp rfl)) ?_
      refine RegL.pure (p := (pEq (.int .i64 v6))) rfl rfl rfl (J_move rfl (Opd.tmp rfl)) ?_
      replace h := bind_some h; obtain ⟨x9, hx9, h⟩ := h
      refine RegL.pure (p := (pPtr (cGMode x9))) rfl rfl rfl (J_idx rfl Try.underlying126 sz155 (Opd.tmp rfl) (Opd.tmp rfl) hx9) ?_
      refine RegL.pure (p := (pAgg (cGMode x9))) rfl rfl rfl (J_loadA rfl Try.isAgg155 sz155 (Opd.tmp rfl) rfl) ?_
      replace h := bind_some h; obtain ⟨x10, hx10, h⟩ := h
      refine RegL.pure (p := (pAgg (cGMode x10))) rfl rfl rfl (J_call rfl Try.call136 (c_laws_toMode hx10) (Opds.cons (Opd.tmp rfl) Opds.nil)) ?_
      replace h := bind_some h; obtain ⟨u11, hu11, h⟩ := h
      refine RegL.pureW (p := (pEq (.pointer (some ⟨blk g8.1, (v6).toNat * 2, none⟩)))) rfl rfl rfl (W_rowIdx (j := 0) rfl Try.underlying94 sz130 (Opd.tmp rfl) (Opd.tmp rfl) rfl (inB_some hu11)) ?_
      refine RegL.stepN (γ := Unit) (p := fun _ => pAny) (Ω' := fun _ => [oSl 130 2 cGMode g8.1 g8.2.1 g8.2.2 (v7.set (v6).toNat x10)]) rfl rfl (M_rowStoreA rfl sz130 el130 (Opd.tmp rfl) (Opd.tmp rfl) (setL_of (inB_some hu11))) fun g12 => ?_
      refine RegL.nil ?_
      refine Ct.blk_normal ?_
      refine Ct.then_tr ?_
      refine Tr.weak (Γ' := [(0, (pSl 2 cGMode a_0)), (3, (pEq (.slice g8.1 g8.2.1 g8.2.2))), (4, (pEq (.int .i64 v6)))]) ⟨rfl, rfl, rfl, trivial⟩ ?_
      refine Tr.region ?_
      refine RegL.pure (p := (pEq (.int .i64 v6))) rfl rfl rfl (J_move rfl (Opd.tmp rfl)) ?_
      refine RegL.pure (p := (pEq (.int .i64 (w64 (v6 + (1 : Int)))))) rfl rfl rfl (J_bin rfl (Opd.tmp rfl) Opd.con B_add) ?_
      refine RegL.pure (p := (pEq (.int .i64 (w64 (v6 + (1 : Int)))))) rfl rfl rfl (J_assign rfl (Opd.tmp rfl)) ?_
      refine RegL.nil ?_
      replace h := Option.some.inj h; subst h
      exact Ct.again (g8.1, g8.2.1, g8.2.2) rfl ⟨rfl, rfl, rfl, trivial⟩
    · replace h := bif_f hc h
      refine Tr.exit ?_
      refine Ct.then_exit ?_
      replace h := map_some h; obtain ⟨r1, h, rfl⟩ := h
      refine Ct.out_exit fun e => ?_
      subst e
      refine Ct.blk_exit ?_
      replace h := Option.some.inj h; subst h
      exact Ct.mid (g8.1, g8.2.1, g8.2.2) rfl ⟨rfl, trivial⟩
  · clear hx4
    refine Ct.then_tr ?_
    refine Tr.weak (Γ' := [(3, (pEq (.slice g13.1 g13.2.1 g13.2.2)))]) ⟨rfl, trivial⟩ ?_
    refine Tr.seq ?_
    refine Tr.region ?_
    refine RegL.pure (p := (pEq (.slice g13.1 g13.2.1 g13.2.2))) rfl rfl rfl (J_move rfl (Opd.tmp rfl)) ?_
    refine RegL.pure (p := (pEq (.slice g13.1 g13.2.1 g13.2.2))) rfl rfl rfl (J_assign rfl (Opd.tmp rfl)) ?_
    refine RegL.nil ?_
    refine Ct.then_tr ?_
    refine Tr.weak (Γ' := [(2, (pEq (.slice g13.1 g13.2.1 g13.2.2)))]) ⟨rfl, trivial⟩ ?_
    refine Tr.ret ?_
    replace h := Option.some.inj h; subst h
    exact Ct.retH1 (Ωx := []) (g13.1, g13.2.1, g13.2.2) rfl (RvOk.tmp rfl) rfl

theorem c_laws_toModeS {a_0 : (List GMode)} {r : (List GMode)} (h : m_laws_toModeS a_0 = some r) : CallJ Try.prog 130 [(pSl 2 cGMode a_0)] (pSl 2 cGMode r) :=
  CallH.frozen (o_laws_toModeS h) (fun g => (Conv.row 0 (fun _ => rfl) rfl))

theorem o_laws_toRadio {a_0 : GRadio}  {r : GRadio} (h : m_laws_toRadio a_0 = some r) : CallH Try.prog 112 [(pAgg (cGRadio a_0))] [] (fun g : G3 => (pAgg [(pEq (.string r.Name)), (pEq (.int .i64 r.Power)), (pEq (.int .i64 r.Feeder)), (pEq (.int .i64 r.Noise)), (pEq (.int .i64 r.Width)), (pEq (.slice g.1 g.2.1 g.2.2))])) (fun g : G3 => [oSl 130 2 cGMode g.1 g.2.1 g.2.2 r.Modes]) := by
  unfold m_laws_toRadio at h
  refine CallH.enter Try.func112 rfl Try.ntmps112 rfl fun W I0 H => ?_
  refine Tr.weak (Γ' := [(0, (pAgg (cGRadio a_0)))]) ⟨rfl, trivial⟩ ?_
  refine Tr.seq ?_
  refine Tr.region ?_
  refine RegL.pure (p := (pPtr (cGRadio a_0))) rfl rfl rfl (J_boxA rfl (Opd.tmp rfl)) ?_
  refine RegL.step (γ := Nat) (p := fun b => pEq (.pointer (some ⟨b, 0, none⟩))) (Ω' := fun b => [oBlk b [(pEq (.string ByteArray.empty)), (pEq (.int .i64 (0 : Int))), (pEq (.int .i64 (0 : Int))), (pEq (.int .i64 (0 : Int))), (pEq (.int .i64 (0 : Int))), (pEq (.slice none 0 0))]]) rfl rfl rfl (M_alloc rfl zero96) fun b1 => ?_
  refine RegL.nil ?_
  refine Ct.then_tr ?_
  refine Tr.weak (Γ' := [(1, (pPtr (cGRadio a_0))), (2, (pEq (.pointer (some ⟨b1, 0, none⟩))))]) ⟨rfl, rfl, trivial⟩ ?_
  refine Tr.seq ?_
  refine Tr.region ?_
  refine RegL.step (γ := Nat) (p := fun b => pEq (.pointer (some ⟨b, 0, none⟩))) (Ω' := fun b => [oBlk b [(pEq (.string ByteArray.empty)), (pEq (.int .i64 (0 : Int))), (pEq (.int .i64 (0 : Int))), (pEq (.int .i64 (0 : Int))), (pEq (.int .i64 (0 : Int))), (pEq (.slice none 0 0))], oBlk b1 [(pEq (.string ByteArray.empty)), (pEq (.int .i64 (0 : Int))), (pEq (.int .i64 (0 : Int))), (pEq (.int .i64 (0 : Int))), (pEq (.int .i64 (0 : Int))), (pEq (.slice none 0 0))]]) rfl rfl rfl (M_alloc rfl zero96) fun b2 => ?_
  refine RegL.nil ?_
  refine Ct.then_tr ?_
  refine Tr.weak (Γ' := [(1, (pPtr (cGRadio a_0))), (2, (pEq (.pointer (some ⟨b1, 0, none⟩)))), (3, (pEq (.pointer (some ⟨b2, 0, none⟩))))]) ⟨rfl, rfl, rfl, trivial⟩ ?_
  refine Tr.seq ?_
  refine Tr.region ?_
  refine RegL.pure (p := (pPtr (cS a_0.Name))) rfl rfl rfl (J_fieldAddr rfl Try.underlying128 rfl sz9 (by decide) (Opd.tmp rfl) rfl) ?_
  refine RegL.pure (p := (pEq (.string a_0.Name))) rfl rfl rfl (J_load rfl Try.isAgg9 (Opd.tmp rfl)) ?_
  refine RegL.pure (p := (pEq (.pointer (some ⟨b2, 0, none⟩)))) rfl rfl rfl (J_fieldAddrE rfl Try.underlying96 rfl sz9 (by decide) (Opd.tmp rfl) rfl) ?_
  refine RegL.stepN (γ := Unit) (p := fun _ => pAny) (Ω' := fun _ => [oBlk b2 [(pEq (.string a_0.Name)), (pEq (.int .i64 (0 : Int))), (pEq (.int .i64 (0 : Int))), (pEq (.int .i64 (0 : Int))), (pEq (.int .i64 (0 : Int))), (pEq (.slice none 0 0))], oBlk b1 [(pEq (.string ByteArray.empty)), (pEq (.int .i64 (0 : Int))), (pEq (.int .i64 (0 : Int))), (pEq (.int .i64 (0 : Int))), (pEq (.int .i64 (0 : Int))), (pEq (.slice none 0 0))]]) rfl rfl (M_store rfl sz9 (Opd.tmp rfl) (Opd.tmp rfl) OneC.str rfl rfl) fun g3 => ?_
  refine RegL.nil ?_
  refine Ct.then_tr ?_
  refine Tr.weak (Γ' := [(1, (pPtr (cGRadio a_0))), (2, (pEq (.pointer (some ⟨b1, 0, none⟩)))), (3, (pEq (.pointer (some ⟨b2, 0, none⟩))))]) ⟨rfl, rfl, rfl, trivial⟩ ?_
  refine Tr.seq ?_
  refine Tr.region ?_
  refine RegL.pure (p := (pPtr ((cK .i64) a_0.Power))) rfl rfl rfl (J_fieldAddr rfl Try.underlying128 rfl sz2 (by decide) (Opd.tmp rfl) rfl) ?_
  refine RegL.pure (p := (pEq (.int .i64 a_0.Power))) rfl rfl rfl (J_load rfl Try.isAgg2 (Opd.tmp rfl)) ?_
  refine RegL.pure (p := (pEq (.pointer (some ⟨b2, 1, none⟩)))) rfl rfl rfl (J_fieldAddrE rfl Try.underlying96 rfl sz2 (by decide) (Opd.tmp rfl) rfl) ?_
  refine RegL.stepN (γ := Unit) (p := fun _ => pAny) (Ω' := fun _ => [oBlk b2 [(pEq (.string a_0.Name)), (pEq (.int .i64 a_0.Power)), (pEq (.int .i64 (0 : Int))), (pEq (.int .i64 (0 : Int))), (pEq (.int .i64 (0 : Int))), (pEq (.slice none 0 0))], oBlk b1 [(pEq (.string ByteArray.empty)), (pEq (.int .i64 (0 : Int))), (pEq (.int .i64 (0 : Int))), (pEq (.int .i64 (0 : Int))), (pEq (.int .i64 (0 : Int))), (pEq (.slice none 0 0))]]) rfl rfl (M_store rfl sz2 (Opd.tmp rfl) (Opd.tmp rfl) OneC.int rfl rfl) fun g4 => ?_
  refine RegL.nil ?_
  refine Ct.then_tr ?_
  refine Tr.weak (Γ' := [(1, (pPtr (cGRadio a_0))), (2, (pEq (.pointer (some ⟨b1, 0, none⟩)))), (3, (pEq (.pointer (some ⟨b2, 0, none⟩))))]) ⟨rfl, rfl, rfl, trivial⟩ ?_
  refine Tr.seq ?_
  refine Tr.region ?_
  refine RegL.pure (p := (pPtr ((cK .i64) a_0.Feeder))) rfl rfl rfl (J_fieldAddr rfl Try.underlying128 rfl sz2 (by decide) (Opd.tmp rfl) rfl) ?_
  refine RegL.pure (p := (pEq (.int .i64 a_0.Feeder))) rfl rfl rfl (J_load rfl Try.isAgg2 (Opd.tmp rfl)) ?_
  refine RegL.pure (p := (pEq (.pointer (some ⟨b2, 2, none⟩)))) rfl rfl rfl (J_fieldAddrE rfl Try.underlying96 rfl sz2 (by decide) (Opd.tmp rfl) rfl) ?_
  refine RegL.stepN (γ := Unit) (p := fun _ => pAny) (Ω' := fun _ => [oBlk b2 [(pEq (.string a_0.Name)), (pEq (.int .i64 a_0.Power)), (pEq (.int .i64 a_0.Feeder)), (pEq (.int .i64 (0 : Int))), (pEq (.int .i64 (0 : Int))), (pEq (.slice none 0 0))], oBlk b1 [(pEq (.string ByteArray.empty)), (pEq (.int .i64 (0 : Int))), (pEq (.int .i64 (0 : Int))), (pEq (.int .i64 (0 : Int))), (pEq (.int .i64 (0 : Int))), (pEq (.slice none 0 0))]]) rfl rfl (M_store rfl sz2 (Opd.tmp rfl) (Opd.tmp rfl) OneC.int rfl rfl) fun g5 => ?_
  refine RegL.nil ?_
  refine Ct.then_tr ?_
  refine Tr.weak (Γ' := [(1, (pPtr (cGRadio a_0))), (2, (pEq (.pointer (some ⟨b1, 0, none⟩)))), (3, (pEq (.pointer (some ⟨b2, 0, none⟩))))]) ⟨rfl, rfl, rfl, trivial⟩ ?_
  refine Tr.seq ?_
  refine Tr.region ?_
  refine RegL.pure (p := (pPtr ((cK .i64) a_0.Noise))) rfl rfl rfl (J_fieldAddr rfl Try.underlying128 rfl sz2 (by decide) (Opd.tmp rfl) rfl) ?_
  refine RegL.pure (p := (pEq (.int .i64 a_0.Noise))) rfl rfl rfl (J_load rfl Try.isAgg2 (Opd.tmp rfl)) ?_
  refine RegL.pure (p := (pEq (.pointer (some ⟨b2, 3, none⟩)))) rfl rfl rfl (J_fieldAddrE rfl Try.underlying96 rfl sz2 (by decide) (Opd.tmp rfl) rfl) ?_
  refine RegL.stepN (γ := Unit) (p := fun _ => pAny) (Ω' := fun _ => [oBlk b2 [(pEq (.string a_0.Name)), (pEq (.int .i64 a_0.Power)), (pEq (.int .i64 a_0.Feeder)), (pEq (.int .i64 a_0.Noise)), (pEq (.int .i64 (0 : Int))), (pEq (.slice none 0 0))], oBlk b1 [(pEq (.string ByteArray.empty)), (pEq (.int .i64 (0 : Int))), (pEq (.int .i64 (0 : Int))), (pEq (.int .i64 (0 : Int))), (pEq (.int .i64 (0 : Int))), (pEq (.slice none 0 0))]]) rfl rfl (M_store rfl sz2 (Opd.tmp rfl) (Opd.tmp rfl) OneC.int rfl rfl) fun g6 => ?_
  refine RegL.nil ?_
  refine Ct.then_tr ?_
  refine Tr.weak (Γ' := [(1, (pPtr (cGRadio a_0))), (2, (pEq (.pointer (some ⟨b1, 0, none⟩)))), (3, (pEq (.pointer (some ⟨b2, 0, none⟩))))]) ⟨rfl, rfl, rfl, trivial⟩ ?_
  refine Tr.seq ?_
  refine Tr.region ?_
  refine RegL.pure (p := (pPtr ((cK .i64) a_0.Width))) rfl rfl rfl (J_fieldAddr rfl Try.underlying128 rfl sz2 (by decide) (Opd.tmp rfl) rfl) ?_
  refine RegL.pure (p := (pEq (.int .i64 a_0.Width))) rfl rfl rfl (J_load rfl Try.isAgg2 (Opd.tmp rfl)) ?_
  refine RegL.pure (p := (pEq (.pointer (some ⟨b2, 4, none⟩)))) rfl rfl rfl (J_fieldAddrE rfl Try.underlying96 rfl sz2 (by decide) (Opd.tmp rfl) rfl) ?_
  refine RegL.stepN (γ := Unit) (p := fun _ => pAny) (Ω' := fun _ => [oBlk b2 [(pEq (.string a_0.Name)), (pEq (.int .i64 a_0.Power)), (pEq (.int .i64 a_0.Feeder)), (pEq (.int .i64 a_0.Noise)), (pEq (.int .i64 a_0.Width)), (pEq (.slice none 0 0))], oBlk b1 [(pEq (.string ByteArray.empty)), (pEq (.int .i64 (0 : Int))), (pEq (.int .i64 (0 : Int))), (pEq (.int .i64 (0 : Int))), (pEq (.int .i64 (0 : Int))), (pEq (.slice none 0 0))]]) rfl rfl (M_store rfl sz2 (Opd.tmp rfl) (Opd.tmp rfl) OneC.int rfl rfl) fun g7 => ?_
  refine RegL.nil ?_
  refine Ct.then_tr ?_
  refine Tr.weak (Γ' := [(1, (pPtr (cGRadio a_0))), (2, (pEq (.pointer (some ⟨b1, 0, none⟩)))), (3, (pEq (.pointer (some ⟨b2, 0, none⟩))))]) ⟨rfl, rfl, rfl, trivial⟩ ?_
  refine Tr.seq ?_
  refine Tr.region ?_
  refine RegL.pure (p := (pPtr ((cSl 2 cGMode) a_0.Modes))) rfl rfl rfl (J_fieldAddr rfl Try.underlying128 rfl sz126 (by decide) (Opd.tmp rfl) rfl) ?_
  refine RegL.pure (p := (pSl 2 cGMode a_0.Modes)) rfl rfl rfl (J_load rfl Try.isAgg126 (Opd.tmp rfl)) ?_
  replace h := bind_some h; obtain ⟨x8, hx8, h⟩ := h
  refine RegL.step (γ := G3) (p := fun g => (pEq (.slice g.1 g.2.1 g.2.2))) (Ω' := fun g => [oSl 130 2 cGMode g.1 g.2.1 g.2.2 x8, oBlk b2 [(pEq (.string a_0.Name)), (pEq (.int .i64 a_0.Power)), (pEq (.int .i64 a_0.Feeder)), (pEq (.int .i64 a_0.Noise)), (pEq (.int .i64 a_0.Width)), (pEq (.slice none 0 0))], oBlk b1 [(pEq (.string ByteArray.empty)), (pEq (.int .i64 (0 : Int))), (pEq (.int .i64 (0 : Int))), (pEq (.int .i64 (0 : Int))), (pEq (.int .i64 (0 : Int))), (pEq (.slice none 0 0))]]) rfl rfl rfl (M_callH (Ωi := []) rfl Try.call130 (o_laws_toModeS hx8) (Opds.cons (Opd.tmp rfl) Opds.nil)) fun g9 => ?_
  refine RegL.pure (p := (pEq (.pointer (some ⟨b2, 5, none⟩)))) rfl rfl rfl (J_fieldAddrE rfl Try.underlying96 rfl sz94 (by decide) (Opd.tmp rfl) rfl) ?_
  refine RegL.re (Ω2 := [oBlk b2 [(pEq (.string a_0.Name)), (pEq (.int .i64 a_0.Power)), (pEq (.int .i64 a_0.Feeder)), (pEq (.int .i64 a_0.Noise)), (pEq (.int .i64 a_0.Width)), (pEq (.slice none 0 0))], oSl 130 2 cGMode g9.1 g9.2.1 g9.2.2 x8, oBlk b1 [(pEq (.string ByteArray.empty)), (pEq (.int .i64 (0 : Int))), (pEq (.int .i64 (0 : Int))), (pEq (.int .i64 (0 : Int))), (pEq (.int .i64 (0 : Int))), (pEq (.slice none 0 0))]]) (fun h => SatO.pick 1 h) ?_
  refine RegL.stepN (γ := Unit) (p := fun _ => pAny) (Ω' := fun _ => [oBlk b2 [(pEq (.string a_0.Name)), (pEq (.int .i64 a_0.Power)), (pEq (.int .i64 a_0.Feeder)), (pEq (.int .i64 a_0.Noise)), (pEq (.int .i64 a_0.Width)), (pEq (.slice g9.1 g9.2.1 g9.2.2))], oSl 130 2 cGMode g9.1 g9.2.1 g9.2.2 x8, oBlk b1 [(pEq (.string ByteArray.empty)), (pEq (.int .i64 (0 : Int))), (pEq (.int .i64 (0 : Int))), (pEq (.int .i64 (0 : Int))), (pEq (.int .i64 (0 : Int))), (pEq (.slice none 0 0))]]) rfl rfl (M_store rfl sz94 (Opd.tmp rfl) (Opd.tmp rfl) OneC.slice rfl rfl) fun g11 => ?_
  refine RegL.nil ?_
  refine Ct.then_tr ?_
  refine Tr.weak (Γ' := [(2, (pEq (.pointer (some ⟨b1, 0, none⟩)))), (3, (pEq (.pointer (some ⟨b2, 0, none⟩))))]) ⟨rfl, rfl, trivial⟩ ?_
  refine Tr.seq ?_
  refine Tr.region ?_
  refine RegL.pureW (p := (pAgg [(pEq (.string a_0.Name)), (pEq (.int .i64 a_0.Power)), (pEq (.int .i64 a_0.Feeder)), (pEq (.int .i64 a_0.Noise)), (pEq (.int .i64 a_0.Width)), (pEq (.slice g9.1 g9.2.1 g9.2.2))])) rfl rfl rfl (W_loadA (i := 0) rfl Try.isAgg96 sz96 (Opd.tmp rfl) rfl rfl) ?_
  refine RegL.re (Ω2 := [oBlk b1 [(pEq (.string ByteArray.empty)), (pEq (.int .i64 (0 : Int))), (pEq (.int .i64 (0 : Int))), (pEq (.int .i64 (0 : Int))), (pEq (.int .i64 (0 : Int))), (pEq (.slice none 0 0))], oBlk b2 [(pEq (.string a_0.Name)), (pEq (.int .i64 a_0.Power)), (pEq (.int .i64 a_0.Feeder)), (pEq (.int .i64 a_0.Noise)), (pEq (.int .i64 a_0.Width)), (pEq (.slice g9.1 g9.2.1 g9.2.2))], oSl 130 2 cGMode g9.1 g9.2.1 g9.2.2 x8]) (fun h => SatO.pick 2 h) ?_
  refine RegL.stepN (γ := Unit) (p := fun _ => pAny) (Ω' := fun _ => [oBlk b1 [(pEq (.string a_0.Name)), (pEq (.int .i64 a_0.Power)), (pEq (.int .i64 a_0.Feeder)), (pEq (.int .i64 a_0.Noise)), (pEq (.int .i64 a_0.Width)), (pEq (.slice g9.1 g9.2.1 g9.2.2))], oBlk b2 [(pEq (.string a_0.Name)), (pEq (.int .i64 a_0.Power)), (pEq (.int .i64 a_0.Feeder)), (pEq (.int .i64 a_0.Noise)), (pEq (.int .i64 a_0.Width)), (pEq (.slice g9.1 g9.2.1 g9.2.2))], oSl 130 2 cGMode g9.1 g9.2.1 g9.2.2 x8]) rfl rfl (M_storeA rfl sz96 (Opd.tmp rfl) (Opd.tmp rfl) (fun _ _ _ h => ones_of ((OneCs.cons OneC.str (OneCs.cons OneC.int (OneCs.cons OneC.int (OneCs.cons OneC.int (OneCs.cons OneC.int (OneCs.cons OneC.slice OneCs.nil))))))) h) rfl rfl) fun g12 => ?_
  refine RegL.nil ?_
  refine Ct.then_tr ?_
  refine Tr.weak (Γ' := [(2, (pEq (.pointer (some ⟨b1, 0, none⟩))))]) ⟨rfl, trivial⟩ ?_
  refine Tr.ret ?_
  replace h := Option.some.inj h; subst h
  exact Ct.retH1 (Ωx := [oBlk b1 [(pEq (.string a_0.Name)), (pEq (.int .i64 a_0.Power)), (pEq (.int .i64 a_0.Feeder)), (pEq (.int .i64 a_0.Noise)), (pEq (.int .i64 a_0.Width)), (pEq (.slice g9.1 g9.2.1 g9.2.2))], oBlk b2 [(pEq (.string a_0.Name)), (pEq (.int .i64 a_0.Power)), (pEq (.int .i64 a_0.Feeder)), (pEq (.int .i64 a_0.Noise)), (pEq (.int .i64 a_0.Width)), (pEq (.slice g9.1 g9.2.1 g9.2.2))]]) (g9.1, g9.2.1, g9.2.2) rfl (RvOk.cellA (i := 0) Try.isAgg96 sz96 rfl rfl rfl) rfl

theorem c_laws_toRadio {a_0 : GRadio} {r : GRadio} (h : m_laws_toRadio a_0 = some r) : CallJ Try.prog 112 [(pAgg (cGRadio a_0))] (pAgg (cGRadio r)) :=
  CallH.frozen (o_laws_toRadio h) (fun g => (Conv.agg (Convs.cons Conv.refl (Convs.cons Conv.refl (Convs.cons Conv.refl (Convs.cons Conv.refl (Convs.cons Conv.refl (Convs.cons (Conv.row 0 (fun _ => rfl) rfl) Convs.nil))))))))

theorem o_laws_toRadioS {a_0 : (List GRadio)}  {r : (List GRadio)} (h : m_laws_toRadioS a_0 = some r) : CallH Try.prog 70 [(pSl 6 cGRadio a_0)] [] (fun g : G3 => (pEq (.slice g.1 g.2.1 g.2.2))) (fun g : G3 => [oSl 96 6 cGRadio g.1 g.2.1 g.2.2 r]) := by
  unfold m_laws_toRadioS at h
  refine CallH.enter Try.func70 rfl Try.ntmps70 rfl fun W I0 H => ?_
  refine Tr.weak (Γ' := [(0, (pSl 6 cGRadio a_0))]) ⟨rfl, trivial⟩ ?_
  refine Tr.seq ?_
  refine Tr.region ?_
  refine RegL.pure (p := (pEq (.slice none 0 0))) rfl rfl rfl (J_assign rfl Opd.con) ?_
  refine RegL.nil ?_
  refine Ct.then_tr ?_
  refine Tr.weak (Γ' := [(0, (pSl 6 cGRadio a_0))]) ⟨rfl, trivial⟩ ?_
  refine Tr.seq ?_
  refine Tr.region ?_
  refine RegL.pure (p := (pSl 6 cGRadio a_0)) rfl rfl rfl (J_move rfl (Opd.tmp rfl)) ?_
  refine RegL.pure (p := (pEq (.int .i64 (a_0.length : Int)))) rfl rfl rfl (J_len rfl Try.underlying52 (Opd.tmp rfl) rfl) ?_
  replace h := bind_some h; obtain ⟨x1, hx1, h⟩ := h
  refine RegL.step (γ := Option Addr) (p := fun a => pEq (.slice a ((a_0.length : Int)).toNat ((a_0.length : Int)).toNat)) (Ω' := fun a => [oSl 96 6 cGRadio a ((a_0.length : Int)).toNat ((a_0.length : Int)).toNat x1]) rfl rfl rfl (M_make rfl Try.underlying60 el96 (by decide) (Opd.tmp rfl) hx1) fun o2 => ?_
  refine RegL.pure (p := (pEq (.slice o2 ((a_0.length : Int)).toNat ((a_0.length : Int)).toNat))) rfl rfl rfl (J_assign rfl (Opd.tmp rfl)) ?_
  refine RegL.nil ?_
  refine Ct.then_tr ?_
  refine Tr.weak (Γ' := [(0, (pSl 6 cGRadio a_0)), (3, (pEq (.slice o2 ((a_0.length : Int)).toNat ((a_0.length : Int)).toNat)))]) ⟨rfl, rfl, trivial⟩ ?_
  refine Tr.seq ?_
  refine Tr.seq ?_
  refine Tr.region ?_
  refine RegL.pure (p := (pEq (.int .i64 (0 : Int)))) rfl rfl rfl (J_assign rfl Opd.con) ?_
  refine RegL.nil ?_
  refine Ct.then_tr ?_
  refine Tr.weak (Γ' := [(0, (pSl 6 cGRadio a_0)), (3, (pEq (.slice o2 ((a_0.length : Int)).toNat ((a_0.length : Int)).toNat))), (4, (pEq (.int .i64 (0 : Int))))]) ⟨rfl, rfl, rfl, trivial⟩ ?_
  replace h := bind_some h; obtain ⟨x4, hx4, h⟩ := h
  refine Tr.cut (γ := G3) (Γm := fun g => [(3, (pEq (.slice g.1 g.2.1 g.2.2)))]) (Ωm := fun g => [oSl 96 6 cGRadio g.1 g.2.1 g.2.2 x4]) ?_ (fun g15 => ?_)
  · clear h
    have h := hx4
    clear hx4
    refine Tr.block ?_
    refine Tr.weak (Γ' := [(0, (pSl 6 cGRadio a_0)), (3, (pEq (.slice o2 ((a_0.length : Int)).toNat ((a_0.length : Int)).toNat))), (4, (pEq (.int .i64 (0 : Int))))]) ⟨rfl, rfl, rfl, trivial⟩ ?_
    refine Tr.loop (γ := G3) (σ := (Int × (List GRadio))) (Γσ := fun s g => [(0, (pSl 6 cGRadio a_0)), (3, (pEq (.slice g.1 g.2.1 g.2.2))), (4, (pEq (.int .i64 s.1)))]) (Ωσ := fun s g => [oSl 96 6 cGRadio g.1 g.2.1 g.2.2 s.2]) (g := (o2, ((a_0.length : Int)).toNat, ((a_0.length : Int)).toNat)) h ?_
    clear h
    rintro ⟨v6, v7⟩ g8 t h
    replace h : m_laws_toRadioS_B5 a_0 v6 v7 = some t := h
    unfold m_laws_toRadioS_B5 at h
    refine Tr.weakO (Γ' := [(0, (pSl 6 cGRadio a_0)), (3, (pEq (.slice g8.1 g8.2.1 g8.2.2))), (4, (pEq (.int .i64 v6)))]) (Ω' := [oSl 96 6 cGRadio g8.1 g8.2.1 g8.2.2 v7]) rfl ⟨rfl, rfl, rfl, trivial⟩ ?_
    refine Tr.seq ?_
    refine Tr.seq ?_
    refine Tr.region ?_
    refine RegL.pure (p := (pEq (.int .i64 v6))) rfl rfl rfl (J_move rfl (Opd.tmp rfl)) ?_
    refine RegL.pure (p := (pSl 6 cGRadio a_0)) rfl rfl rfl (J_move rfl (Opd.tmp rfl)) ?_
    refine RegL.pure (p := (pEq (.int .i64 (a_0.length : Int)))) rfl rfl rfl (J_len rfl Try.underlying52 (Opd.tmp rfl) rfl) ?_
    refine RegL.pure (p := (pEq (.bool (decide (v6 < (a_0.length : Int)))))) rfl rfl rfl (J_bin rfl (Opd.tmp rfl) (Opd.tmp rfl) B_lss) ?_
    refine RegL.nil ?_
    refine Ct.then_tr ?_
    refine Tr.weak (Γ' := [(0, (pSl 6 cGRadio a_0)), (3, (pEq (.slice g8.1 g8.2.1 g8.2.2))), (4, (pEq (.int .i64 v6))), (11, (pEq (.bool (decide (v6 < (a_0.length : Int))))))]) ⟨rfl, rfl, rfl, rfl, trivial⟩ ?_
    refine Tr.cond (Opd.tmp rfl) (fun hc => ?_) (fun hc => ?_)
    · replace h := bif_t hc h
      refine Tr.skip ?_
      refine Ct.then_tr ?_
      refine Tr.weak (Γ' := [(0, (pSl 6 cGRadio a_0)), (3, (pEq (.slice g8.1 g8.2.1 g8.2.2))), (4, (pEq (.int .i64 v6)))]) ⟨rfl, rfl, rfl, trivial⟩ ?_
      refine Tr.seq ?_
      refine Tr.block ?_
      refine Tr.region ?_
      refine RegL.pure (p := (pEq (.slice g8.1 g8.2.1 g8.2.2))) rfl rfl rfl (J_move rfl (Opd.tmp rfl)) ?_
      refine RegL.pure (p := (pEq (.int .i64 v6))) rfl rfl rfl (J_move rfl (Opd.tmp rfl)) ?_
      refine RegL.pure (p := (pSl 6 cGRadio a_0)) rfl rfl rfl (J_move rfl (Opd.tmp rfl)) ?_
      refine RegL.pure (p := (pEq (.int .i64 v6))) rfl rfl rfl (J_move rfl (Opd.tmp rfl)) ?_
      replace h := bind_some h; obtain ⟨x9, hx9, h⟩ := h
      refine RegL.pure (p := (pPtr (cGRadio x9))) rfl rfl rfl (J_idx rfl Try.underlying52 sz128 (Opd.tmp rfl) (Opd.tmp rfl) hx9) ?_
      refine RegL.pure (p := (pAgg (cGRadio x9))) rfl rfl rfl (J_loadA rfl Try.isAgg128 sz128 (Opd.tmp rfl) rfl) ?_
      replace h := bind_some h; obtain ⟨x10, hx10, h⟩ := h
      refine RegL.step (γ := G3) (p := fun g => (pAgg [(pEq (.string x10.Name)), (pEq (.int .i64 x10.Power)), (pEq (.int .i64 x10.Feeder)), (pEq (.int .i64 x10.Noise)), (pEq (.int .i64 x10.Width)), (pEq (.slice g.1 g.2.1 g.2.2))])) (Ω' := fun g => [oSl 130 2 cGMode g.1 g.2.1 g.2.2 x10.Modes, oSl 96 6 cGRadio g8.1 g8.2.1 g8.2.2 v7]) rfl rfl rfl (M_callH (Ωi := []) rfl Try.call112 (o_laws_toRadio hx10) (Opds.cons (Opd.tmp rfl) Opds.nil)) fun g11 => ?_
      replace h := bind_some h; obtain ⟨u13, hu13, h⟩ := h
      refine RegL.pureW (p := (pEq (.pointer (some ⟨blk g8.1, (v6).toNat * 6, none⟩)))) rfl rfl rfl (W_rowIdx (j := 1) rfl Try.underlying60 sz96 (Opd.tmp rfl) (Opd.tmp rfl) rfl (inB_some hu13)) ?_
      refine RegL.freezeC (Ωs := [oSl 130 2 cGMode g11.1 g11.2.1 g11.2.2 x10.Modes]) [(20, (pAgg [(pEq (.string x10.Name)), (pEq (.int .i64 x10.Power)), (pEq (.int .i64 x10.Feeder)), (pEq (.int .i64 x10.Noise)), (pEq (.int .i64 x10.Width)), (pEq (.slice g11.1 g11.2.1 g11.2.2))]), (pAgg (cGRadio x10)))] ⟨⟨rfl, (Conv.agg (Convs.cons Conv.refl (Convs.cons Conv.refl (Convs.cons Conv.refl (Convs.cons Conv.refl (Convs.cons Conv.refl (Convs.cons (Conv.row 0 (fun _ => rfl) rfl) Convs.nil)))))))⟩, trivial⟩ ?_
      refine RegL.stepN (γ := Unit) (p := fun _ => pAny) (Ω' := fun _ => [oSl 96 6 cGRadio g8.1 g8.2.1 g8.2.2 (v7.set (v6).toNat x10)]) rfl rfl (M_rowStoreA rfl sz96 el96 (Opd.tmp rfl) (Opd.tmp rfl) (setL_of (inB_some hu13))) fun g14 => ?_
      refine RegL.nil ?_
      refine Ct.blk_normal ?_
      refine Ct.then_tr ?_
      refine Tr.weak (Γ' := [(0, (pSl 6 cGRadio a_0)), (3, (pEq (.slice g8.1 g8.2.1 g8.2.2))), (4, (pEq (.int .i64 v6)))]) ⟨rfl, rfl, rfl, trivial⟩ ?_
      refine Tr.region ?_
      refine RegL.pure (p := (pEq (.int .i64 v6))) rfl rfl rfl (J_move rfl (Opd.tmp rfl)) ?_
      refine RegL.pure (p := (pEq (.int .i64 (w64 (v6 + (1 : Int)))))) rfl rfl rfl (J_bin rfl (Opd.tmp rfl) Opd.con B_add) ?_
      refine RegL.pure (p := (pEq (.int .i64 (w64 (v6 + (1 : Int)))))) rfl rfl rfl (J_assign rfl (Opd.tmp rfl)) ?_
      refine RegL.nil ?_
      replace h := Option.some.inj h; subst h
      exact Ct.again (g8.1, g8.2.1, g8.2.2) rfl ⟨rfl, rfl, rfl, trivial⟩
    · replace h := bif_f hc h
      refine Tr.exit ?_
      refine Ct.then_exit ?_
      replace h := map_some h; obtain ⟨r1, h, rfl⟩ := h
      refine Ct.out_exit fun e => ?_
      subst e
      refine Ct.blk_exit ?_
      replace h := Option.some.inj h; subst h
      exact Ct.mid (g8.1, g8.2.1, g8.2.2) rfl ⟨rfl, trivial⟩
  · clear hx4
    refine Ct.then_tr ?_
    refine Tr.weak (Γ' := [(3, (pEq (.slice g15.1 g15.2.1 g15.2.2)))]) ⟨rfl, trivial⟩ ?_
    refine Tr.seq ?_
    refine Tr.region ?_
    refine RegL.pure (p := (pEq (.slice g15.1 g15.2.1 g15.2.2))) rfl rfl rfl (J_move rfl (Opd.tmp rfl)) ?_
    refine RegL.pure (p := (pEq (.slice g15.1 g15.2.1 g15.2.2))) rfl rfl rfl (J_assign rfl (Opd.tmp rfl)) ?_
    refine RegL.nil ?_
    refine Ct.then_tr ?_
    refine Tr.weak (Γ' := [(2, (pEq (.slice g15.1 g15.2.1 g15.2.2)))]) ⟨rfl, trivial⟩ ?_
    refine Tr.ret ?_
    replace h := Option.some.inj h; subst h
    exact Ct.retH1 (Ωx := []) (g15.1, g15.2.1, g15.2.2) rfl (RvOk.tmp rfl) rfl

theorem c_laws_toRadioS {a_0 : (List GRadio)} {r : (List GRadio)} (h : m_laws_toRadioS a_0 = some r) : CallJ Try.prog 70 [(pSl 6 cGRadio a_0)] (pSl 6 cGRadio r) :=
  CallH.frozen (o_laws_toRadioS h) (fun g => (Conv.row 0 (fun _ => rfl) rfl))

theorem o_laws_toNetwork {a_0 : GNetwork}  {r : GNetwork} (h : m_laws_toNetwork a_0 = some r) : CallH Try.prog 29 [(pAgg (cGNetwork a_0))] [] (fun g : (G3 × G3 × G3 × G3) => (pAgg [(pEq (.slice g.1.1 g.1.2.1 g.1.2.2)), (pEq (.slice g.2.1.1 g.2.1.2.1 g.2.1.2.2)), (pEq (.slice g.2.2.1.1 g.2.2.1.2.1 g.2.2.1.2.2)), (pEq (.slice g.2.2.2.1 g.2.2.2.2.1 g.2.2.2.2.2))])) (fun g : (G3 × G3 × G3 × G3) => [oSl 87 4 cGSite g.1.1 g.1.2.1 g.1.2.2 r.Sites, oSl 89 9 cGSector g.2.1.1 g.2.1.2.1 g.2.1.2.2 r.Sectors, oSl 92 4 cGAntenna g.2.2.1.1 g.2.2.1.2.1 g.2.2.1.2.2 r.Antennas, oSl 96 6 cGRadio g.2.2.2.1 g.2.2.2.2.1 g.2.2.2.2.2 r.Radios]) := by
  unfold m_laws_toNetwork at h
  refine CallH.enter Try.func29 rfl Try.ntmps29 rfl fun W I0 H => ?_
  refine Tr.weak (Γ' := [(0, (pAgg (cGNetwork a_0)))]) ⟨rfl, trivial⟩ ?_
  refine Tr.seq ?_
  refine Tr.region ?_
  refine RegL.pure (p := (pPtr (cGNetwork a_0))) rfl rfl rfl (J_boxA rfl (Opd.tmp rfl)) ?_
  refine RegL.step (γ := Nat) (p := fun b => pEq (.pointer (some ⟨b, 0, none⟩))) (Ω' := fun b => [oBlk b [(pEq (.slice none 0 0)), (pEq (.slice none 0 0)), (pEq (.slice none 0 0)), (pEq (.slice none 0 0))]]) rfl rfl rfl (M_alloc rfl zero62) fun b1 => ?_
  refine RegL.nil ?_
  refine Ct.then_tr ?_
  refine Tr.weak (Γ' := [(1, (pPtr (cGNetwork a_0))), (2, (pEq (.pointer (some ⟨b1, 0, none⟩))))]) ⟨rfl, rfl, trivial⟩ ?_
  refine Tr.seq ?_
  refine Tr.region ?_
  refine RegL.step (γ := Nat) (p := fun b => pEq (.pointer (some ⟨b, 0, none⟩))) (Ω' := fun b => [oBlk b [(pEq (.slice none 0 0)), (pEq (.slice none 0 0)), (pEq (.slice none 0 0)), (pEq (.slice none 0 0))], oBlk b1 [(pEq (.slice none 0 0)), (pEq (.slice none 0 0)), (pEq (.slice none 0 0)), (pEq (.slice none 0 0))]]) rfl rfl rfl (M_alloc rfl zero62) fun b2 => ?_
  refine RegL.nil ?_
  refine Ct.then_tr ?_
  refine Tr.weak (Γ' := [(1, (pPtr (cGNetwork a_0))), (2, (pEq (.pointer (some ⟨b1, 0, none⟩)))), (3, (pEq (.pointer (some ⟨b2, 0, none⟩))))]) ⟨rfl, rfl, rfl, trivial⟩ ?_
  refine Tr.seq ?_
  refine Tr.region ?_
  refine RegL.pure (p := (pPtr ((cSl 4 cGSite) a_0.Sites))) rfl rfl rfl (J_fieldAddr rfl Try.underlying54 rfl sz49 (by decide) (Opd.tmp rfl) rfl) ?_
  refine RegL.pure (p := (pSl 4 cGSite a_0.Sites)) rfl rfl rfl (J_load rfl Try.isAgg49 (Opd.tmp rfl)) ?_
  replace h := bind_some h; obtain ⟨x3, hx3, h⟩ := h
  refine RegL.step (γ := G3) (p := fun g => (pEq (.slice g.1 g.2.1 g.2.2))) (Ω' := fun g => [oSl 87 4 cGSite g.1 g.2.1 g.2.2 x3, oBlk b2 [(pEq (.slice none 0 0)), (pEq (.slice none 0 0)), (pEq (.slice none 0 0)), (pEq (.slice none 0 0))], oBlk b1 [(pEq (.slice none 0 0)), (pEq (.slice none 0 0)), (pEq (.slice none 0 0)), (pEq (.slice none 0 0))]]) rfl rfl rfl (M_callH (Ωi := []) rfl Try.call67 (o_laws_toSiteS hx3) (Opds.cons (Opd.tmp rfl) Opds.nil)) fun g4 => ?_
  refine RegL.pure (p := (pEq (.pointer (some ⟨b2, 0, none⟩)))) rfl rfl rfl (J_fieldAddrE rfl Try.underlying62 rfl sz57 (by decide) (Opd.tmp rfl) rfl) ?_
  refine RegL.re (Ω2 := [oBlk b2 [(pEq (.slice none 0 0)), (pEq (.slice none 0 0)), (pEq (.slice none 0 0)), (pEq (.slice none 0 0))], oSl 87 4 cGSite g4.1 g4.2.1 g4.2.2 x3, oBlk b1 [(pEq (.slice none 0 0)), (pEq (.slice none 0 0)), (pEq (.slice none 0 0)), (pEq (.slice none 0 0))]]) (fun h => SatO.pick 1 h) ?_
  refine RegL.stepN (γ := Unit) (p := fun _ => pAny) (Ω' := fun _ => [oBlk b2 [(pEq (.slice g4.1 g4.2.1 g4.2.2)), (pEq (.slice none 0 0)), (pEq (.slice none 0 0)), (pEq (.slice none 0 0))], oSl 87 4 cGSite g4.1 g4.2.1 g4.2.2 x3, oBlk b1 [(pEq (.slice none 0 0)), (pEq (.slice none 0 0)), (pEq (.slice none 0 0)), (pEq (.slice none 0 0))]]) rfl rfl (M_store rfl sz57 (Opd.tmp rfl) (Opd.tmp rfl) OneC.slice rfl rfl) fun g6 => ?_
  refine RegL.nil ?_
  refine Ct.then_tr ?_
  refine Tr.weak (Γ' := [(1, (pPtr (cGNetwork a_0))), (2, (pEq (.pointer (some ⟨b1, 0, none⟩)))), (3, (pEq (.pointer (some ⟨b2, 0, none⟩))))]) ⟨rfl, rfl, rfl, trivial⟩ ?_
  refine Tr.seq ?_
  refine Tr.region ?_
  refine RegL.pure (p := (pPtr ((cSl 9 cGSector) a_0.Sectors))) rfl rfl rfl (J_fieldAddr rfl Try.underlying54 rfl sz50 (by decide) (Opd.tmp rfl) rfl) ?_
  refine RegL.pure (p := (pSl 9 cGSector a_0.Sectors)) rfl rfl rfl (J_load rfl Try.isAgg50 (Opd.tmp rfl)) ?_
  replace h := bind_some h; obtain ⟨x7, hx7, h⟩ := h
  refine RegL.step (γ := G3) (p := fun g => (pEq (.slice g.1 g.2.1 g.2.2))) (Ω' := fun g => [oSl 89 9 cGSector g.1 g.2.1 g.2.2 x7, oBlk b2 [(pEq (.slice g4.1 g4.2.1 g4.2.2)), (pEq (.slice none 0 0)), (pEq (.slice none 0 0)), (pEq (.slice none 0 0))], oSl 87 4 cGSite g4.1 g4.2.1 g4.2.2 x3, oBlk b1 [(pEq (.slice none 0 0)), (pEq (.slice none 0 0)), (pEq (.slice none 0 0)), (pEq (.slice none 0 0))]]) rfl rfl rfl (M_callH (Ωi := []) rfl Try.call68 (o_laws_toSectorS hx7) (Opds.cons (Opd.tmp rfl) Opds.nil)) fun g8 => ?_
  refine RegL.pure (p := (pEq (.pointer (some ⟨b2, 1, none⟩)))) rfl rfl rfl (J_fieldAddrE rfl Try.underlying62 rfl sz58 (by decide) (Opd.tmp rfl) rfl) ?_
  refine RegL.re (Ω2 := [oBlk b2 [(pEq (.slice g4.1 g4.2.1 g4.2.2)), (pEq (.slice none 0 0)), (pEq (.slice none 0 0)), (pEq (.slice none 0 0))], oSl 89 9 cGSector g8.1 g8.2.1 g8.2.2 x7, oSl 87 4 cGSite g4.1 g4.2.1 g4.2.2 x3, oBlk b1 [(pEq (.slice none 0 0)), (pEq (.slice none 0 0)), (pEq (.slice none 0 0)), (pEq (.slice none 0 0))]]) (fun h => SatO.pick 1 h) ?_
  refine RegL.stepN (γ := Unit) (p := fun _ => pAny) (Ω' := fun _ => [oBlk b2 [(pEq (.slice g4.1 g4.2.1 g4.2.2)), (pEq (.slice g8.1 g8.2.1 g8.2.2)), (pEq (.slice none 0 0)), (pEq (.slice none 0 0))], oSl 89 9 cGSector g8.1 g8.2.1 g8.2.2 x7, oSl 87 4 cGSite g4.1 g4.2.1 g4.2.2 x3, oBlk b1 [(pEq (.slice none 0 0)), (pEq (.slice none 0 0)), (pEq (.slice none 0 0)), (pEq (.slice none 0 0))]]) rfl rfl (M_store rfl sz58 (Opd.tmp rfl) (Opd.tmp rfl) OneC.slice rfl rfl) fun g10 => ?_
  refine RegL.nil ?_
  refine Ct.then_tr ?_
  refine Tr.weak (Γ' := [(1, (pPtr (cGNetwork a_0))), (2, (pEq (.pointer (some ⟨b1, 0, none⟩)))), (3, (pEq (.pointer (some ⟨b2, 0, none⟩))))]) ⟨rfl, rfl, rfl, trivial⟩ ?_
  refine Tr.seq ?_
  refine Tr.region ?_
  refine RegL.pure (p := (pPtr ((cSl 4 cGAntenna) a_0.Antennas))) rfl rfl rfl (J_fieldAddr rfl Try.underlying54 rfl sz51 (by decide) (Opd.tmp rfl) rfl) ?_
  refine RegL.pure (p := (pSl 4 cGAntenna a_0.Antennas)) rfl rfl rfl (J_load rfl Try.isAgg51 (Opd.tmp rfl)) ?_
  replace h := bind_some h; obtain ⟨x11, hx11, h⟩ := h
  refine RegL.step (γ := G3) (p := fun g => (pEq (.slice g.1 g.2.1 g.2.2))) (Ω' := fun g => [oSl 92 4 cGAntenna g.1 g.2.1 g.2.2 x11, oBlk b2 [(pEq (.slice g4.1 g4.2.1 g4.2.2)), (pEq (.slice g8.1 g8.2.1 g8.2.2)), (pEq (.slice none 0 0)), (pEq (.slice none 0 0))], oSl 89 9 cGSector g8.1 g8.2.1 g8.2.2 x7, oSl 87 4 cGSite g4.1 g4.2.1 g4.2.2 x3, oBlk b1 [(pEq (.slice none 0 0)), (pEq (.slice none 0 0)), (pEq (.slice none 0 0)), (pEq (.slice none 0 0))]]) rfl rfl rfl (M_callH (Ωi := []) rfl Try.call69 (o_laws_toAntennaS hx11) (Opds.cons (Opd.tmp rfl) Opds.nil)) fun g12 => ?_
  refine RegL.pure (p := (pEq (.pointer (some ⟨b2, 2, none⟩)))) rfl rfl rfl (J_fieldAddrE rfl Try.underlying62 rfl sz59 (by decide) (Opd.tmp rfl) rfl) ?_
  refine RegL.re (Ω2 := [oBlk b2 [(pEq (.slice g4.1 g4.2.1 g4.2.2)), (pEq (.slice g8.1 g8.2.1 g8.2.2)), (pEq (.slice none 0 0)), (pEq (.slice none 0 0))], oSl 92 4 cGAntenna g12.1 g12.2.1 g12.2.2 x11, oSl 89 9 cGSector g8.1 g8.2.1 g8.2.2 x7, oSl 87 4 cGSite g4.1 g4.2.1 g4.2.2 x3, oBlk b1 [(pEq (.slice none 0 0)), (pEq (.slice none 0 0)), (pEq (.slice none 0 0)), (pEq (.slice none 0 0))]]) (fun h => SatO.pick 1 h) ?_
  refine RegL.stepN (γ := Unit) (p := fun _ => pAny) (Ω' := fun _ => [oBlk b2 [(pEq (.slice g4.1 g4.2.1 g4.2.2)), (pEq (.slice g8.1 g8.2.1 g8.2.2)), (pEq (.slice g12.1 g12.2.1 g12.2.2)), (pEq (.slice none 0 0))], oSl 92 4 cGAntenna g12.1 g12.2.1 g12.2.2 x11, oSl 89 9 cGSector g8.1 g8.2.1 g8.2.2 x7, oSl 87 4 cGSite g4.1 g4.2.1 g4.2.2 x3, oBlk b1 [(pEq (.slice none 0 0)), (pEq (.slice none 0 0)), (pEq (.slice none 0 0)), (pEq (.slice none 0 0))]]) rfl rfl (M_store rfl sz59 (Opd.tmp rfl) (Opd.tmp rfl) OneC.slice rfl rfl) fun g14 => ?_
  refine RegL.nil ?_
  refine Ct.then_tr ?_
  refine Tr.weak (Γ' := [(1, (pPtr (cGNetwork a_0))), (2, (pEq (.pointer (some ⟨b1, 0, none⟩)))), (3, (pEq (.pointer (some ⟨b2, 0, none⟩))))]) ⟨rfl, rfl, rfl, trivial⟩ ?_
  refine Tr.seq ?_
  refine Tr.region ?_
  refine RegL.pure (p := (pPtr ((cSl 6 cGRadio) a_0.Radios))) rfl rfl rfl (J_fieldAddr rfl Try.underlying54 rfl sz52 (by decide) (Opd.tmp rfl) rfl) ?_
  refine RegL.pure (p := (pSl 6 cGRadio a_0.Radios)) rfl rfl rfl (J_load rfl Try.isAgg52 (Opd.tmp rfl)) ?_
  replace h := bind_some h; obtain ⟨x15, hx15, h⟩ := h
  refine RegL.step (γ := G3) (p := fun g => (pEq (.slice g.1 g.2.1 g.2.2))) (Ω' := fun g => [oSl 96 6 cGRadio g.1 g.2.1 g.2.2 x15, oBlk b2 [(pEq (.slice g4.1 g4.2.1 g4.2.2)), (pEq (.slice g8.1 g8.2.1 g8.2.2)), (pEq (.slice g12.1 g12.2.1 g12.2.2)), (pEq (.slice none 0 0))], oSl 92 4 cGAntenna g12.1 g12.2.1 g12.2.2 x11, oSl 89 9 cGSector g8.1 g8.2.1 g8.2.2 x7, oSl 87 4 cGSite g4.1 g4.2.1 g4.2.2 x3, oBlk b1 [(pEq (.slice none 0 0)), (pEq (.slice none 0 0)), (pEq (.slice none 0 0)), (pEq (.slice none 0 0))]]) rfl rfl rfl (M_callH (Ωi := []) rfl Try.call70 (o_laws_toRadioS hx15) (Opds.cons (Opd.tmp rfl) Opds.nil)) fun g16 => ?_
  refine RegL.pure (p := (pEq (.pointer (some ⟨b2, 3, none⟩)))) rfl rfl rfl (J_fieldAddrE rfl Try.underlying62 rfl sz60 (by decide) (Opd.tmp rfl) rfl) ?_
  refine RegL.re (Ω2 := [oBlk b2 [(pEq (.slice g4.1 g4.2.1 g4.2.2)), (pEq (.slice g8.1 g8.2.1 g8.2.2)), (pEq (.slice g12.1 g12.2.1 g12.2.2)), (pEq (.slice none 0 0))], oSl 96 6 cGRadio g16.1 g16.2.1 g16.2.2 x15, oSl 92 4 cGAntenna g12.1 g12.2.1 g12.2.2 x11, oSl 89 9 cGSector g8.1 g8.2.1 g8.2.2 x7, oSl 87 4 cGSite g4.1 g4.2.1 g4.2.2 x3, oBlk b1 [(pEq (.slice none 0 0)), (pEq (.slice none 0 0)), (pEq (.slice none 0 0)), (pEq (.slice none 0 0))]]) (fun h => SatO.pick 1 h) ?_
  refine RegL.stepN (γ := Unit) (p := fun _ => pAny) (Ω' := fun _ => [oBlk b2 [(pEq (.slice g4.1 g4.2.1 g4.2.2)), (pEq (.slice g8.1 g8.2.1 g8.2.2)), (pEq (.slice g12.1 g12.2.1 g12.2.2)), (pEq (.slice g16.1 g16.2.1 g16.2.2))], oSl 96 6 cGRadio g16.1 g16.2.1 g16.2.2 x15, oSl 92 4 cGAntenna g12.1 g12.2.1 g12.2.2 x11, oSl 89 9 cGSector g8.1 g8.2.1 g8.2.2 x7, oSl 87 4 cGSite g4.1 g4.2.1 g4.2.2 x3, oBlk b1 [(pEq (.slice none 0 0)), (pEq (.slice none 0 0)), (pEq (.slice none 0 0)), (pEq (.slice none 0 0))]]) rfl rfl (M_store rfl sz60 (Opd.tmp rfl) (Opd.tmp rfl) OneC.slice rfl rfl) fun g18 => ?_
  refine RegL.nil ?_
  refine Ct.then_tr ?_
  refine Tr.weak (Γ' := [(2, (pEq (.pointer (some ⟨b1, 0, none⟩)))), (3, (pEq (.pointer (some ⟨b2, 0, none⟩))))]) ⟨rfl, rfl, trivial⟩ ?_
  refine Tr.seq ?_
  refine Tr.region ?_
  refine RegL.pureW (p := (pAgg [(pEq (.slice g4.1 g4.2.1 g4.2.2)), (pEq (.slice g8.1 g8.2.1 g8.2.2)), (pEq (.slice g12.1 g12.2.1 g12.2.2)), (pEq (.slice g16.1 g16.2.1 g16.2.2))])) rfl rfl rfl (W_loadA (i := 0) rfl Try.isAgg62 sz62 (Opd.tmp rfl) rfl rfl) ?_
  refine RegL.re (Ω2 := [oBlk b1 [(pEq (.slice none 0 0)), (pEq (.slice none 0 0)), (pEq (.slice none 0 0)), (pEq (.slice none 0 0))], oBlk b2 [(pEq (.slice g4.1 g4.2.1 g4.2.2)), (pEq (.slice g8.1 g8.2.1 g8.2.2)), (pEq (.slice g12.1 g12.2.1 g12.2.2)), (pEq (.slice g16.1 g16.2.1 g16.2.2))], oSl 96 6 cGRadio g16.1 g16.2.1 g16.2.2 x15, oSl 92 4 cGAntenna g12.1 g12.2.1 g12.2.2 x11, oSl 89 9 cGSector g8.1 g8.2.1 g8.2.2 x7, oSl 87 4 cGSite g4.1 g4.2.1 g4.2.2 x3]) (fun h => SatO.pick 5 h) ?_
  refine RegL.stepN (γ := Unit) (p := fun _ => pAny) (Ω' := fun _ => [oBlk b1 [(pEq (.slice g4.1 g4.2.1 g4.2.2)), (pEq (.slice g8.1 g8.2.1 g8.2.2)), (pEq (.slice g12.1 g12.2.1 g12.2.2)), (pEq (.slice g16.1 g16.2.1 g16.2.2))], oBlk b2 [(pEq (.slice g4.1 g4.2.1 g4.2.2)), (pEq (.slice g8.1 g8.2.1 g8.2.2)), (pEq (.slice g12.1 g12.2.1 g12.2.2)), (pEq (.slice g16.1 g16.2.1 g16.2.2))], oSl 96 6 cGRadio g16.1 g16.2.1 g16.2.2 x15, oSl 92 4 cGAntenna g12.1 g12.2.1 g12.2.2 x11, oSl 89 9 cGSector g8.1 g8.2.1 g8.2.2 x7, oSl 87 4 cGSite g4.1 g4.2.1 g4.2.2 x3]) rfl rfl (M_storeA rfl sz62 (Opd.tmp rfl) (Opd.tmp rfl) (fun _ _ _ h => ones_of ((OneCs.cons OneC.slice (OneCs.cons OneC.slice (OneCs.cons OneC.slice (OneCs.cons OneC.slice OneCs.nil))))) h) rfl rfl) fun g19 => ?_
  refine RegL.nil ?_
  refine Ct.then_tr ?_
  refine Tr.weak (Γ' := [(2, (pEq (.pointer (some ⟨b1, 0, none⟩))))]) ⟨rfl, trivial⟩ ?_
  refine Tr.ret ?_
  refine Ct.re (Ω2 := [oSl 96 6 cGRadio g16.1 g16.2.1 g16.2.2 x15, oBlk b1 [(pEq (.slice g4.1 g4.2.1 g4.2.2)), (pEq (.slice g8.1 g8.2.1 g8.2.2)), (pEq (.slice g12.1 g12.2.1 g12.2.2)), (pEq (.slice g16.1 g16.2.1 g16.2.2))], oBlk b2 [(pEq (.slice g4.1 g4.2.1 g4.2.2)), (pEq (.slice g8.1 g8.2.1 g8.2.2)), (pEq (.slice g12.1 g12.2.1 g12.2.2)), (pEq (.slice g16.1 g16.2.1 g16.2.2))], oSl 92 4 cGAntenna g12.1 g12.2.1 g12.2.2 x11, oSl 89 9 cGSector g8.1 g8.2.1 g8.2.2 x7, oSl 87 4 cGSite g4.1 g4.2.1 g4.2.2 x3]) (fun h => SatO.pick 2 h) ?_
  refine Ct.re (Ω2 := [oSl 92 4 cGAntenna g12.1 g12.2.1 g12.2.2 x11, oSl 96 6 cGRadio g16.1 g16.2.1 g16.2.2 x15, oBlk b1 [(pEq (.slice g4.1 g4.2.1 g4.2.2)), (pEq (.slice g8.1 g8.2.1 g8.2.2)), (pEq (.slice g12.1 g12.2.1 g12.2.2)), (pEq (.slice g16.1 g16.2.1 g16.2.2))], oBlk b2 [(pEq (.slice g4.1 g4.2.1 g4.2.2)), (pEq (.slice g8.1 g8.2.1 g8.2.2)), (pEq (.slice g12.1 g12.2.1 g12.2.2)), (pEq (.slice g16.1 g16.2.1 g16.2.2))], oSl 89 9 cGSector g8.1 g8.2.1 g8.2.2 x7, oSl 87 4 cGSite g4.1 g4.2.1 g4.2.2 x3]) (fun h => SatO.pick 3 h) ?_
  refine Ct.re (Ω2 := [oSl 89 9 cGSector g8.1 g8.2.1 g8.2.2 x7, oSl 92 4 cGAntenna g12.1 g12.2.1 g12.2.2 x11, oSl 96 6 cGRadio g16.1 g16.2.1 g16.2.2 x15, oBlk b1 [(pEq (.slice g4.1 g4.2.1 g4.2.2)), (pEq (.slice g8.1 g8.2.1 g8.2.2)), (pEq (.slice g12.1 g12.2.1 g12.2.2)), (pEq (.slice g16.1 g16.2.1 g16.2.2))], oBlk b2 [(pEq (.slice g4.1 g4.2.1 g4.2.2)), (pEq (.slice g8.1 g8.2.1 g8.2.2)), (pEq (.slice g12.1 g12.2.1 g12.2.2)), (pEq (.slice g16.1 g16.2.1 g16.2.2))], oSl 87 4 cGSite g4.1 g4.2.1 g4.2.2 x3]) (fun h => SatO.pick 4 h) ?_
  refine Ct.re (Ω2 := [oSl 87 4 cGSite g4.1 g4.2.1 g4.2.2 x3, oSl 89 9 cGSector g8.1 g8.2.1 g8.2.2 x7, oSl 92 4 cGAntenna g12.1 g12.2.1 g12.2.2 x11, oSl 96 6 cGRadio g16.1 g16.2.1 g16.2.2 x15, oBlk b1 [(pEq (.slice g4.1 g4.2.1 g4.2.2)), (pEq (.slice g8.1 g8.2.1 g8.2.2)), (pEq (.slice g12.1 g12.2.1 g12.2.2)), (pEq (.slice g16.1 g16.2.1 g16.2.2))], oBlk b2 [(pEq (.slice g4.1 g4.2.1 g4.2.2)), (pEq (.slice g8.1 g8.2.1 g8.2.2)), (pEq (.slice g12.1 g12.2.1 g12.2.2)), (pEq (.slice g16.1 g16.2.1 g16.2.2))]]) (fun h => SatO.pick 5 h) ?_
  refine Ct.re (Ω2 := [oBlk b2 [(pEq (.slice g4.1 g4.2.1 g4.2.2)), (pEq (.slice g8.1 g8.2.1 g8.2.2)), (pEq (.slice g12.1 g12.2.1 g12.2.2)), (pEq (.slice g16.1 g16.2.1 g16.2.2))], oSl 87 4 cGSite g4.1 g4.2.1 g4.2.2 x3, oSl 89 9 cGSector g8.1 g8.2.1 g8.2.2 x7, oSl 92 4 cGAntenna g12.1 g12.2.1 g12.2.2 x11, oSl 96 6 cGRadio g16.1 g16.2.1 g16.2.2 x15, oBlk b1 [(pEq (.slice g4.1 g4.2.1 g4.2.2)), (pEq (.slice g8.1 g8.2.1 g8.2.2)), (pEq (.slice g12.1 g12.2.1 g12.2.2)), (pEq (.slice g16.1 g16.2.1 g16.2.2))]]) (fun h => SatO.pick 5 h) ?_
  refine Ct.re (Ω2 := [oBlk b1 [(pEq (.slice g4.1 g4.2.1 g4.2.2)), (pEq (.slice g8.1 g8.2.1 g8.2.2)), (pEq (.slice g12.1 g12.2.1 g12.2.2)), (pEq (.slice g16.1 g16.2.1 g16.2.2))], oBlk b2 [(pEq (.slice g4.1 g4.2.1 g4.2.2)), (pEq (.slice g8.1 g8.2.1 g8.2.2)), (pEq (.slice g12.1 g12.2.1 g12.2.2)), (pEq (.slice g16.1 g16.2.1 g16.2.2))], oSl 87 4 cGSite g4.1 g4.2.1 g4.2.2 x3, oSl 89 9 cGSector g8.1 g8.2.1 g8.2.2 x7, oSl 92 4 cGAntenna g12.1 g12.2.1 g12.2.2 x11, oSl 96 6 cGRadio g16.1 g16.2.1 g16.2.2 x15]) (fun h => SatO.pick 5 h) ?_
  replace h := Option.some.inj h; subst h
  exact Ct.retH1 (Ωx := [oBlk b1 [(pEq (.slice g4.1 g4.2.1 g4.2.2)), (pEq (.slice g8.1 g8.2.1 g8.2.2)), (pEq (.slice g12.1 g12.2.1 g12.2.2)), (pEq (.slice g16.1 g16.2.1 g16.2.2))], oBlk b2 [(pEq (.slice g4.1 g4.2.1 g4.2.2)), (pEq (.slice g8.1 g8.2.1 g8.2.2)), (pEq (.slice g12.1 g12.2.1 g12.2.2)), (pEq (.slice g16.1 g16.2.1 g16.2.2))]]) ((g4.1, g4.2.1, g4.2.2), (g8.1, g8.2.1, g8.2.2), (g12.1, g12.2.1, g12.2.2), (g16.1, g16.2.1, g16.2.2)) rfl (RvOk.cellA (i := 0) Try.isAgg62 sz62 rfl rfl rfl) rfl

theorem c_laws_toNetwork {a_0 : GNetwork} {r : GNetwork} (h : m_laws_toNetwork a_0 = some r) : CallJ Try.prog 29 [(pAgg (cGNetwork a_0))] (pAgg (cGNetwork r)) :=
  CallH.frozen (o_laws_toNetwork h) (fun g => (Conv.agg (Convs.cons (Conv.row 0 (fun _ => rfl) rfl) (Convs.cons (Conv.row 1 (fun _ => rfl) rfl) (Convs.cons (Conv.row 2 (fun _ => rfl) rfl) (Convs.cons (Conv.row 3 (fun _ => rfl) rfl) Convs.nil))))))

theorem c_spec_l00Same {a_0 : (List Int)} {b_1 : (List Int)} {r : Bool} (h : m_spec_l00Same a_0 b_1 = some r) : CallJ Try.prog 108 [(pSl 1 (cK .i64) a_0), (pSl 1 (cK .i64) b_1)] (pEq (.bool r)) := by
  unfold m_spec_l00Same at h
  refine CallJ.enterH Try.func108 rfl Try.ntmps108 rfl fun W I0 H => ?_
  refine Tr.weak (Γ' := [(0, (pSl 1 (cK .i64) a_0)), (1, (pSl 1 (cK .i64) b_1))]) ⟨rfl, rfl, trivial⟩ ?_
  refine Tr.seq ?_
  refine Tr.region ?_
  refine RegL.pure (p := (pEq (.bool false))) rfl rfl rfl (J_assign rfl Opd.con) ?_
  refine RegL.nil ?_
  refine Ct.then_tr ?_
  refine Tr.weak (Γ' := [(0, (pSl 1 (cK .i64) a_0)), (1, (pSl 1 (cK .i64) b_1))]) ⟨rfl, rfl, trivial⟩ ?_
  refine Tr.seq ?_
  refine Tr.seq ?_
  refine Tr.region ?_
  refine RegL.pure (p := (pSl 1 (cK .i64) a_0)) rfl rfl rfl (J_move rfl (Opd.tmp rfl)) ?_
  refine RegL.pure (p := (pEq (.int .i64 (a_0.length : Int)))) rfl rfl rfl (J_len rfl Try.underlying23 (Opd.tmp rfl) rfl) ?_
  refine RegL.pure (p := (pSl 1 (cK .i64) b_1)) rfl rfl rfl (J_move rfl (Opd.tmp rfl)) ?_
  refine RegL.pure (p := (pEq (.int .i64 (b_1.length : Int)))) rfl rfl rfl (J_len rfl Try.underlying23 (Opd.tmp rfl) rfl) ?_
  refine RegL.pure (p := (pEq (.bool ((a_0.length : Int) != (b_1.length : Int))))) rfl rfl rfl (J_bin rfl (Opd.tmp rfl) (Opd.tmp rfl) B_neq) ?_
  refine RegL.nil ?_
  refine Ct.then_tr ?_
  refine Tr.weak (Γ' := [(0, (pSl 1 (cK .i64) a_0)), (1, (pSl 1 (cK .i64) b_1)), (10, (pEq (.bool ((a_0.length : Int) != (b_1.length : Int)))))]) ⟨rfl, rfl, rfl, trivial⟩ ?_
  refine Tr.cond (Opd.tmp rfl) (fun hc => ?_) (fun hc => ?_)
  · replace h := bif_t hc h
    refine Tr.seq ?_
    refine Tr.region ?_
    refine RegL.pure (p := (pEq (.bool false))) rfl rfl rfl (J_assign rfl Opd.con) ?_
    refine RegL.nil ?_
    refine Ct.then_tr ?_
    refine Tr.weak (Γ' := [(4, (pEq (.bool false)))]) ⟨rfl, trivial⟩ ?_
    refine Tr.ret ?_
    refine Ct.then_ret ?_
    replace h := Option.some.inj h; subst h
    exact Ct.retH1 (Ωx := []) () rfl (RvOk.tmp rfl) rfl
  · replace h := bif_f hc h
    refine Tr.skip ?_
    refine Ct.then_tr ?_
    refine Tr.weak (Γ' := [(0, (pSl 1 (cK .i64) a_0)), (1, (pSl 1 (cK .i64) b_1))]) ⟨rfl, rfl, trivial⟩ ?_
    refine Tr.seq ?_
    refine Tr.seq ?_
    refine Tr.region ?_
    refine RegL.pure (p := (pEq (.int .i64 (0 : Int)))) rfl rfl rfl (J_assign rfl Opd.con) ?_
    refine RegL.nil ?_
    refine Ct.then_tr ?_
    refine Tr.weak (Γ' := [(0, (pSl 1 (cK .i64) a_0)), (1, (pSl 1 (cK .i64) b_1)), (5, (pEq (.int .i64 (0 : Int))))]) ⟨rfl, rfl, rfl, trivial⟩ ?_
    refine Tr.block ?_
    refine Tr.weak (Γ' := [(0, (pSl 1 (cK .i64) a_0)), (1, (pSl 1 (cK .i64) b_1)), (5, (pEq (.int .i64 (0 : Int))))]) ⟨rfl, rfl, rfl, trivial⟩ ?_
    refine Tr.loop (γ := Unit) (σ := Int) (Γσ := fun s g => [(0, (pSl 1 (cK .i64) a_0)), (1, (pSl 1 (cK .i64) b_1)), (5, (pEq (.int .i64 s)))]) (Ωσ := fun s g => []) (g := ()) h ?_
    clear h
    rintro v2 g3 t h
    replace h : m_spec_l00Same_B1 a_0 b_1 v2 = some t := h
    unfold m_spec_l00Same_B1 at h
    refine Tr.weakO (Γ' := [(0, (pSl 1 (cK .i64) a_0)), (1, (pSl 1 (cK .i64) b_1)), (5, (pEq (.int .i64 v2)))]) (Ω' := []) rfl ⟨rfl, rfl, rfl, trivial⟩ ?_
    refine Tr.seq ?_
    refine Tr.seq ?_
    refine Tr.region ?_
    refine RegL.pure (p := (pEq (.int .i64 v2))) rfl rfl rfl (J_move rfl (Opd.tmp rfl)) ?_
    refine RegL.pure (p := (pSl 1 (cK .i64) a_0)) rfl rfl rfl (J_move rfl (Opd.tmp rfl)) ?_
    refine RegL.pure (p := (pEq (.int .i64 (a_0.length : Int)))) rfl rfl rfl (J_len rfl Try.underlying23 (Opd.tmp rfl) rfl) ?_
    refine RegL.pure (p := (pEq (.bool (decide (v2 < (a_0.length : Int)))))) rfl rfl rfl (J_bin rfl (Opd.tmp rfl) (Opd.tmp rfl) B_lss) ?_
    refine RegL.nil ?_
    refine Ct.then_tr ?_
    refine Tr.weak (Γ' := [(0, (pSl 1 (cK .i64) a_0)), (1, (pSl 1 (cK .i64) b_1)), (5, (pEq (.int .i64 v2))), (14, (pEq (.bool (decide (v2 < (a_0.length : Int))))))]) ⟨rfl, rfl, rfl, rfl, trivial⟩ ?_
    refine Tr.cond (Opd.tmp rfl) (fun hc => ?_) (fun hc => ?_)
    · replace h := bif_t hc h
      refine Tr.skip ?_
      refine Ct.then_tr ?_
      refine Tr.weak (Γ' := [(0, (pSl 1 (cK .i64) a_0)), (1, (pSl 1 (cK .i64) b_1)), (5, (pEq (.int .i64 v2)))]) ⟨rfl, rfl, rfl, trivial⟩ ?_
      refine Tr.seq ?_
      refine Tr.block ?_
      refine Tr.seq ?_
      replace h := bind_some h; obtain ⟨x4, hx4, h⟩ := h
      replace h := bind_some h; obtain ⟨x5, hx5, h⟩ := h
      refine Tr.drawD (n := 26) (m := 9) (es := [some (Ent.mk [(0, (pSl 1 (cK .i64) a_0))] (pSl 1 (cK .i64) a_0) true), some (Ent.mk [(5, (pEq (.int .i64 v2)))] (pEq (.int .i64 v2)) true), some (Ent.mk [(17, (pSl 1 (cK .i64) a_0)), (18, (pEq (.int .i64 v2)))] (pPtr ((cK .i64) x4)) true), some (Ent.mk [(19, (pPtr ((cK .i64) x4)))] (pEq (.int .i64 x4)) true), some (Ent.mk [(1, (pSl 1 (cK .i64) b_1))] (pSl 1 (cK .i64) b_1) true), some (Ent.mk [(5, (pEq (.int .i64 v2)))] (pEq (.int .i64 v2)) true), some (Ent.mk [(21, (pSl 1 (cK .i64) b_1)), (22, (pEq (.int .i64 v2)))] (pPtr ((cK .i64) x5)) true), some (Ent.mk [(23, (pPtr ((cK .i64) x5)))] (pEq (.int .i64 x5)) true), some (Ent.mk [(20, (pEq (.int .i64 x4))), (24, (pEq (.int .i64 x5)))] (pEq (.bool (x4 != x5))) true)]) (rd := [[0], [5], [17, 18], [19], [1], [5], [21, 22], [23], [20, 24]]) rfl hmix (by kernel_rfl) fun hD => ?_
      refine RD.fin (es := [Ent.mk [(0, (pSl 1 (cK .i64) a_0))] (pSl 1 (cK .i64) a_0) true, Ent.mk [(5, (pEq (.int .i64 v2)))] (pEq (.int .i64 v2)) true, Ent.mk [(17, (pSl 1 (cK .i64) a_0)), (18, (pEq (.int .i64 v2)))] (pPtr ((cK .i64) x4)) true, Ent.mk [(19, (pPtr ((cK .i64) x4)))] (pEq (.int .i64 x4)) true, Ent.mk [(1, (pSl 1 (cK .i64) b_1))] (pSl 1 (cK .i64) b_1) true, Ent.mk [(5, (pEq (.int .i64 v2)))] (pEq (.int .i64 v2)) true, Ent.mk [(21, (pSl 1 (cK .i64) b_1)), (22, (pEq (.int .i64 v2)))] (pPtr ((cK .i64) x5)) true, Ent.mk [(23, (pPtr ((cK .i64) x5)))] (pEq (.int .i64 x5)) true, Ent.mk [(20, (pEq (.int .i64 x4))), (24, (pEq (.int .i64 x5)))] (pEq (.bool (x4 != x5))) true]) (done := []) hD ⟨.inr ⟨(OpJ.w (J_move rfl (Opd.tmp rfl))), ⟨rfl, trivial⟩, rfl, rfl⟩, ⟨.inr ⟨(OpJ.w (J_move rfl (Opd.tmp rfl))), ⟨rfl, trivial⟩, rfl, rfl⟩, ⟨.inr ⟨(OpJ.w (J_idx rfl Try.underlying23 sz2 (Opd.tmp rfl) (Opd.tmp rfl) hx4)), ⟨rfl, rfl, trivial⟩, rfl, rfl⟩, ⟨.inr ⟨(OpJ.w (J_load rfl Try.isAgg2 (Opd.tmp rfl))), ⟨rfl, trivial⟩, rfl, rfl⟩, ⟨.inr ⟨(OpJ.w (J_move rfl (Opd.tmp rfl))), ⟨rfl, trivial⟩, rfl, rfl⟩, ⟨.inr ⟨(OpJ.w (J_move rfl (Opd.tmp rfl))), ⟨rfl, trivial⟩, rfl, rfl⟩, ⟨.inr ⟨(OpJ.w (J_idx rfl Try.underlying23 sz2 (Opd.tmp rfl) (Opd.tmp rfl) hx5)), ⟨rfl, rfl, trivial⟩, rfl, rfl⟩, ⟨.inr ⟨(OpJ.w (J_load rfl Try.isAgg2 (Opd.tmp rfl))), ⟨rfl, trivial⟩, rfl, rfl⟩, ⟨.inr ⟨(OpJ.w (J_bin rfl (Opd.tmp rfl) (Opd.tmp rfl) B_neq)), ⟨rfl, rfl, trivial⟩, rfl, rfl⟩, trivial⟩⟩⟩⟩⟩⟩⟩⟩⟩ ?_
      refine RegL.nil ?_
      refine Ct.then_tr ?_
      refine Tr.weak (Γ' := [(0, (pSl 1 (cK .i64) a_0)), (1, (pSl 1 (cK .i64) b_1)), (5, (pEq (.int .i64 v2))), (25, (pEq (.bool (x4 != x5))))]) ⟨rfl, rfl, rfl, rfl, trivial⟩ ?_
      refine Tr.cond (Opd.tmp rfl) (fun hc => ?_) (fun hc => ?_)
      · replace h := bif_t hc h
        refine Tr.seq ?_
        refine Tr.region ?_
        refine RegL.pure (p := (pEq (.bool false))) rfl rfl rfl (J_assign rfl Opd.con) ?_
        refine RegL.nil ?_
        refine Ct.then_tr ?_
        refine Tr.weak (Γ' := [(4, (pEq (.bool false)))]) ⟨rfl, trivial⟩ ?_
        refine Tr.ret ?_
        refine Ct.blk_ret ?_
        refine Ct.then_ret ?_
        replace h := map_some h; obtain ⟨r1, h, rfl⟩ := h
        refine Ct.out_ret fun e => ?_
        subst e
        refine Ct.blk_ret ?_
        refine Ct.then_ret ?_
        replace h := Option.some.inj h; subst h
        exact Ct.retH1 (Ωx := []) () rfl (RvOk.tmp rfl) rfl
      · replace h := bif_f hc h
        refine Tr.skip ?_
        refine Ct.blk_normal ?_
        refine Ct.then_tr ?_
        refine Tr.weak (Γ' := [(0, (pSl 1 (cK .i64) a_0)), (1, (pSl 1 (cK .i64) b_1)), (5, (pEq (.int .i64 v2)))]) ⟨rfl, rfl, rfl, trivial⟩ ?_
        refine Tr.region ?_
        refine RegL.pure (p := (pEq (.int .i64 v2))) rfl rfl rfl (J_move rfl (Opd.tmp rfl)) ?_
        refine RegL.pure (p := (pEq (.int .i64 (w64 (v2 + (1 : Int)))))) rfl rfl rfl (J_bin rfl (Opd.tmp rfl) Opd.con B_add) ?_
        refine RegL.pure (p := (pEq (.int .i64 (w64 (v2 + (1 : Int)))))) rfl rfl rfl (J_assign rfl (Opd.tmp rfl)) ?_
        refine RegL.nil ?_
        replace h := Option.some.inj h; subst h
        exact Ct.again () rfl ⟨rfl, rfl, rfl, trivial⟩
    · replace h := bif_f hc h
      refine Tr.exit ?_
      refine Ct.then_exit ?_
      replace h := map_some h; obtain ⟨r1, h, rfl⟩ := h
      refine Ct.out_exit fun e => ?_
      subst e
      refine Ct.blk_exit ?_
      refine Ct.then_tr ?_
      refine Tr.weak (Γ' := []) trivial ?_
      refine Tr.seq ?_
      refine Tr.region ?_
      refine RegL.pure (p := (pEq (.bool true))) rfl rfl rfl (J_assign rfl Opd.con) ?_
      refine RegL.nil ?_
      refine Ct.then_tr ?_
      refine Tr.weak (Γ' := [(4, (pEq (.bool true)))]) ⟨rfl, trivial⟩ ?_
      refine Tr.ret ?_
      replace h := Option.some.inj h; subst h
      exact Ct.retH1 (Ωx := []) () rfl (RvOk.tmp rfl) rfl

theorem c_spec_SameAntenna {a_0 : GAntenna} {b_1 : GAntenna} {r : Bool} (h : m_spec_SameAntenna a_0 b_1 = some r) : CallJ Try.prog 65 [(pAgg (cGAntenna a_0)), (pAgg (cGAntenna b_1))] (pEq (.bool r)) := by
  unfold m_spec_SameAntenna at h
  refine CallJ.enterH Try.func65 rfl Try.ntmps65 rfl fun W I0 H => ?_
  refine Tr.weak (Γ' := [(0, (pAgg (cGAntenna a_0))), (1, (pAgg (cGAntenna b_1)))]) ⟨rfl, rfl, trivial⟩ ?_
  refine Tr.seq ?_
  refine Tr.region ?_
  refine RegL.pure (p := (pPtr (cGAntenna a_0))) rfl rfl rfl (J_boxA rfl (Opd.tmp rfl)) ?_
  refine RegL.pure (p := (pPtr (cGAntenna b_1))) rfl rfl rfl (J_boxA rfl (Opd.tmp rfl)) ?_
  refine RegL.pure (p := (pEq (.bool false))) rfl rfl rfl (J_assign rfl Opd.con) ?_
  refine RegL.nil ?_
  refine Ct.then_tr ?_
  refine Tr.weak (Γ' := [(2, (pPtr (cGAntenna a_0))), (3, (pPtr (cGAntenna b_1)))]) ⟨rfl, rfl, trivial⟩ ?_
  refine Tr.seq ?_
  replace h := bind_some h; obtain ⟨x1, hx1, h⟩ := h
  refine Tr.cut (γ := Unit) (Γm := fun g => [(4, (pEq (.bool x1)))]) (Ωm := fun g => []) ?_ (fun g7 => ?_)
  · clear h
    have h := hx1
    clear hx1
    refine Tr.region ?_
    refine RegL.pure (p := (pPtr (cS a_0.Name))) rfl rfl rfl (J_fieldAddr rfl Try.underlying92 rfl sz9 (by decide) (Opd.tmp rfl) rfl) ?_
    refine RegL.pure (p := (pEq (.string a_0.Name))) rfl rfl rfl (J_load rfl Try.isAgg9 (Opd.tmp rfl)) ?_
    refine RegL.pure (p := (pPtr (cS b_1.Name))) rfl rfl rfl (J_fieldAddr rfl Try.underlying92 rfl sz9 (by decide) (Opd.tmp rfl) rfl) ?_
    refine RegL.pure (p := (pEq (.string b_1.Name))) rfl rfl rfl (J_load rfl Try.isAgg9 (Opd.tmp rfl)) ?_
    refine RegL.pure (p := (pEq (.bool (a_0.Name.toList == b_1.Name.toList)))) rfl rfl rfl (J_bin rfl (Opd.tmp rfl) (Opd.tmp rfl) B_seql) ?_
    refine RegL.pure (p := (pEq (.bool (a_0.Name.toList == b_1.Name.toList)))) rfl rfl rfl (J_move rfl (Opd.tmp rfl)) ?_
    rcases Bool.eq_false_or_eq_true (a_0.Name.toList == b_1.Name.toList) with hc2 | hc2
    · replace h := bif_t hc2 h
      refine RegL.pureG (p := (pPtr ((cK .i64) a_0.Gain))) rfl rfl rfl hc2 rfl rfl (J_fieldAddr rfl Try.underlying92 rfl sz2 (by decide) (Opd.tmp rfl) rfl) ?_
      refine RegL.pureG (p := (pEq (.int .i64 a_0.Gain))) rfl rfl rfl hc2 rfl rfl (J_load rfl Try.isAgg2 (Opd.tmp rfl)) ?_
      refine RegL.pureG (p := (pPtr ((cK .i64) b_1.Gain))) rfl rfl rfl hc2 rfl rfl (J_fieldAddr rfl Try.underlying92 rfl sz2 (by decide) (Opd.tmp rfl) rfl) ?_
      refine RegL.pureG (p := (pEq (.int .i64 b_1.Gain))) rfl rfl rfl hc2 rfl rfl (J_load rfl Try.isAgg2 (Opd.tmp rfl)) ?_
      refine RegL.pureG (p := (pEq (.bool (a_0.Gain == b_1.Gain)))) rfl rfl rfl hc2 rfl rfl (J_bin rfl (Opd.tmp rfl) (Opd.tmp rfl) B_eql) ?_
      refine RegL.pure (p := (pEq (.bool (a_0.Gain == b_1.Gain)))) rfl rfl rfl (J_pick rfl (Opd.tmp rfl) (fun _ => (Opd.tmp rfl)) (fun hf => absurd (hc2.symm.trans hf) (by decide))) ?_
      refine RegL.pure (p := (pEq (.bool (a_0.Gain == b_1.Gain)))) rfl rfl rfl (J_move rfl (Opd.tmp rfl)) ?_
      rcases Bool.eq_false_or_eq_true (a_0.Gain == b_1.Gain) with hc3 | hc3
      · replace h := bif_t hc3 h
        refine RegL.pureG (p := (pPtr ((cSl 1 (cK .i64)) a_0.Horizontal))) rfl rfl rfl hc3 rfl rfl (J_fieldAddr rfl Try.underlying92 rfl sz23 (by decide) (Opd.tmp rfl) rfl) ?_
        refine RegL.pureG (p := (pSl 1 (cK .i64) a_0.Horizontal)) rfl rfl rfl hc3 rfl rfl (J_load rfl Try.isAgg23 (Opd.tmp rfl)) ?_
        refine RegL.pureG (p := (pPtr ((cSl 1 (cK .i64)) b_1.Horizontal))) rfl rfl rfl hc3 rfl rfl (J_fieldAddr rfl Try.underlying92 rfl sz23 (by decide) (Opd.tmp rfl) rfl) ?_
        refine RegL.pureG (p := (pSl 1 (cK .i64) b_1.Horizontal)) rfl rfl rfl hc3 rfl rfl (J_load rfl Try.isAgg23 (Opd.tmp rfl)) ?_
        replace h := bind_some h; obtain ⟨x4, hx4, h⟩ := h
        refine RegL.pureG (p := (pEq (.bool x4))) rfl rfl rfl hc3 rfl rfl (J_call rfl Try.call108 (c_spec_l00Same hx4) (Opds.cons (Opd.tmp rfl) (Opds.cons (Opd.tmp rfl) Opds.nil))) ?_
        refine RegL.pure (p := (pEq (.bool x4))) rfl rfl rfl (J_pick rfl (Opd.tmp rfl) (fun _ => (Opd.tmp rfl)) (fun hf => absurd (hc3.symm.trans hf) (by decide))) ?_
        refine RegL.pure (p := (pEq (.bool x4))) rfl rfl rfl (J_move rfl (Opd.tmp rfl)) ?_
        rcases Bool.eq_false_or_eq_true x4 with hc5 | hc5
        · replace h := bif_t hc5 h
          refine RegL.pureG (p := (pPtr ((cSl 1 (cK .i64)) a_0.Vertical))) rfl rfl rfl hc5 rfl rfl (J_fieldAddr rfl Try.underlying92 rfl sz23 (by decide) (Opd.tmp rfl) rfl) ?_
          refine RegL.pureG (p := (pSl 1 (cK .i64) a_0.Vertical)) rfl rfl rfl hc5 rfl rfl (J_load rfl Try.isAgg23 (Opd.tmp rfl)) ?_
          refine RegL.pureG (p := (pPtr ((cSl 1 (cK .i64)) b_1.Vertical))) rfl rfl rfl hc5 rfl rfl (J_fieldAddr rfl Try.underlying92 rfl sz23 (by decide) (Opd.tmp rfl) rfl) ?_
          refine RegL.pureG (p := (pSl 1 (cK .i64) b_1.Vertical)) rfl rfl rfl hc5 rfl rfl (J_load rfl Try.isAgg23 (Opd.tmp rfl)) ?_
          replace h := bind_some h; obtain ⟨x6, hx6, h⟩ := h
          refine RegL.pureG (p := (pEq (.bool x6))) rfl rfl rfl hc5 rfl rfl (J_call rfl Try.call108 (c_spec_l00Same hx6) (Opds.cons (Opd.tmp rfl) (Opds.cons (Opd.tmp rfl) Opds.nil))) ?_
          refine RegL.pure (p := (pEq (.bool x6))) rfl rfl rfl (J_pick rfl (Opd.tmp rfl) (fun _ => (Opd.tmp rfl)) (fun hf => absurd (hc5.symm.trans hf) (by decide))) ?_
          refine RegL.pure (p := (pEq (.bool x6))) rfl rfl rfl (J_assign rfl (Opd.tmp rfl)) ?_
          refine RegL.nil ?_
          replace h := Option.some.inj h; subst h
          exact Ct.mid () rfl ⟨rfl, trivial⟩
        · replace h := bif_f hc5 h
          refine RegL.skipG rfl rfl rfl hc5 rfl rfl ?_
          refine RegL.skipG rfl rfl rfl hc5 rfl rfl ?_
          refine RegL.skipG rfl rfl rfl hc5 rfl rfl ?_
          refine RegL.skipG rfl rfl rfl hc5 rfl rfl ?_
          refine RegL.skipG rfl rfl rfl hc5 rfl rfl ?_
          refine RegL.pure (p := (pEq (.bool false))) rfl rfl rfl (J_pick rfl (Opd.tmp rfl) (fun hf => absurd (hc5.symm.trans hf) (by decide)) (fun _ => Opd.con)) ?_
          refine RegL.pure (p := (pEq (.bool false))) rfl rfl rfl (J_assign rfl (Opd.tmp rfl)) ?_
          refine RegL.nil ?_
          replace h := Option.some.inj h; subst h
          exact Ct.mid () rfl ⟨rfl, trivial⟩
      · replace h := bif_f hc3 h
        refine RegL.skipG rfl rfl rfl hc3 rfl rfl ?_
        refine RegL.skipG rfl rfl rfl hc3 rfl rfl ?_
        refine RegL.skipG rfl rfl rfl hc3 rfl rfl ?_
        refine RegL.skipG rfl rfl rfl hc3 rfl rfl ?_
        refine RegL.skipG rfl rfl rfl hc3 rfl rfl ?_
        refine RegL.pure (p := (pEq (.bool false))) rfl rfl rfl (J_pick rfl (Opd.tmp rfl) (fun hf => absurd (hc3.symm.trans hf) (by decide)) (fun _ => Opd.con)) ?_
        refine RegL.pure (p := (pEq (.bool false))) rfl rfl rfl (J_move rfl (Opd.tmp rfl)) ?_
        refine RegL.skipG rfl rfl rfl rfl rfl rfl ?_
        refine RegL.skipG rfl rfl rfl rfl rfl rfl ?_
        refine RegL.skipG rfl rfl rfl rfl rfl rfl ?_
        refine RegL.skipG rfl rfl rfl rfl rfl rfl ?_
        refine RegL.skipG rfl rfl rfl rfl rfl rfl ?_
        refine RegL.pure (p := (pEq (.bool false))) rfl rfl rfl (J_pick rfl (Opd.tmp rfl) (fun hf => absurd hf (by decide)) (fun _ => Opd.con)) ?_
        refine RegL.pure (p := (pEq (.bool false))) rfl rfl rfl (J_assign rfl (Opd.tmp rfl)) ?_
        refine RegL.nil ?_
        replace h := Option.some.inj h; subst h
        exact Ct.mid () rfl ⟨rfl, trivial⟩
    · replace h := bif_f hc2 h
      refine RegL.skipG rfl rfl rfl hc2 rfl rfl ?_
      refine RegL.skipG rfl rfl rfl hc2 rfl rfl ?_
      refine RegL.skipG rfl rfl rfl hc2 rfl rfl ?_
      refine RegL.skipG rfl rfl rfl hc2 rfl rfl ?_
      refine RegL.skipG rfl rfl rfl hc2 rfl rfl ?_
      refine RegL.pure (p := (pEq (.bool false))) rfl rfl rfl (J_pick rfl (Opd.tmp rfl) (fun hf => absurd (hc2.symm.trans hf) (by decide)) (fun _ => Opd.con)) ?_
      refine RegL.pure (p := (pEq (.bool false))) rfl rfl rfl (J_move rfl (Opd.tmp rfl)) ?_
      refine RegL.skipG rfl rfl rfl rfl rfl rfl ?_
      refine RegL.skipG rfl rfl rfl rfl rfl rfl ?_
      refine RegL.skipG rfl rfl rfl rfl rfl rfl ?_
      refine RegL.skipG rfl rfl rfl rfl rfl rfl ?_
      refine RegL.skipG rfl rfl rfl rfl rfl rfl ?_
      refine RegL.pure (p := (pEq (.bool false))) rfl rfl rfl (J_pick rfl (Opd.tmp rfl) (fun hf => absurd hf (by decide)) (fun _ => Opd.con)) ?_
      refine RegL.pure (p := (pEq (.bool false))) rfl rfl rfl (J_move rfl (Opd.tmp rfl)) ?_
      refine RegL.skipG rfl rfl rfl rfl rfl rfl ?_
      refine RegL.skipG rfl rfl rfl rfl rfl rfl ?_
      refine RegL.skipG rfl rfl rfl rfl rfl rfl ?_
      refine RegL.skipG rfl rfl rfl rfl rfl rfl ?_
      refine RegL.skipG rfl rfl rfl rfl rfl rfl ?_
      refine RegL.pure (p := (pEq (.bool false))) rfl rfl rfl (J_pick rfl (Opd.tmp rfl) (fun hf => absurd hf (by decide)) (fun _ => Opd.con)) ?_
      refine RegL.pure (p := (pEq (.bool false))) rfl rfl rfl (J_assign rfl (Opd.tmp rfl)) ?_
      refine RegL.nil ?_
      replace h := Option.some.inj h; subst h
      exact Ct.mid () rfl ⟨rfl, trivial⟩
  · clear hx1
    refine Ct.then_tr ?_
    refine Tr.weak (Γ' := [(4, (pEq (.bool x1)))]) ⟨rfl, trivial⟩ ?_
    refine Tr.ret ?_
    replace h := Option.some.inj h; subst h
    exact Ct.retH1 (Ωx := []) () rfl (RvOk.tmp rfl) rfl


end Go.Proofs.Ytipkpdobbeggnaa.fnExactSameNetworkW
