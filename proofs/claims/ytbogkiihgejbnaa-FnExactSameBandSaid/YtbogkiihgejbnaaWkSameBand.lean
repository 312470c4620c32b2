/-
  The walks that the law FnExactSameBand reaches: each function computes its model. Printed by our own program.
-/
import Derived.Test.YtbogkiihgejbnaaProg
import Derived.Test.YtbogkiihgejbnaaMod
import Derived.KernelRfl
namespace Go.Proofs.Ytbogkiihgejbnaa.fnExactSameBandW
open Go Go.RowKit Go.Wk
set_option linter.unusedVariables false
set_option maxRecDepth 100000
theorem hmix : Try.prog.follows .mixedOrders = true := by kernel_rfl
theorem sz2 : ∀ w, (Go.sizeOf 2).run Try.prog w = .ok 1 w := fun _ => by kernel_rfl
theorem sz9 : ∀ w, (Go.sizeOf 9).run Try.prog w = .ok 1 w := fun _ => by kernel_rfl
theorem sz23 : ∀ w, (Go.sizeOf 23).run Try.prog w = .ok 5 w := fun _ => by kernel_rfl
theorem sz26 : ∀ w, (Go.sizeOf 26).run Try.prog w = .ok 5 w := fun _ => by kernel_rfl
theorem zero26 : Zero Try.prog 26 [(pEq (.string ByteArray.empty)), (pEq (.int .i64 (0 : Int))), (pEq (.int .i64 (0 : Int))), (pEq (.int .i64 (0 : Int))), (pEq (.int .i64 (0 : Int)))] := ⟨(.agg #[.string ByteArray.empty, .int .i64 0, .int .i64 0, .int .i64 0, .int .i64 0]), [.string ByteArray.empty, .int .i64 0, .int .i64 0, .int .i64 0, .int .i64 0], fun _ => by kernel_rfl, rfl, fun _ _ => ⟨rfl, ⟨rfl, ⟨rfl, ⟨rfl, ⟨rfl, trivial⟩⟩⟩⟩⟩⟩
theorem steql26 {x y : Operand} (a b : GBand) : BinR .eql 26 x y (.agg #[.string a.Name, .int .i64 a.Low, .int .i64 a.High, .int .i64 a.Raster, .int .i64 a.Duplex]) (.agg #[.string b.Name, .int .i64 b.Low, .int .i64 b.High, .int .i64 b.Raster, .int .i64 b.Duplex]) (.bool ((a.Name.toList == b.Name.toList) && ((a.Low == b.Low) && ((a.High == b.High) && ((a.Raster == b.Raster) && ((a.Duplex == b.Duplex) && true)))))) Try.prog := B_steql Try.underlying26 Try.stoodInHeld26 Try.eqGuardType26 (EqF.cons (by decide) Try.isAgg9 rfl rfl (SE_str Try.underlying9) (EqF.cons (by decide) Try.isAgg2 rfl rfl (SE_int Try.underlying2) (EqF.cons (by decide) Try.isAgg2 rfl rfl (SE_int Try.underlying2) (EqF.cons (by decide) Try.isAgg2 rfl rfl (SE_int Try.underlying2) (EqF.cons (by decide) Try.isAgg2 rfl rfl (SE_int Try.underlying2) EqF.nil)))))
theorem stneq26 {x y : Operand} (a b : GBand) : BinR .neq 26 x y (.agg #[.string a.Name, .int .i64 a.Low, .int .i64 a.High, .int .i64 a.Raster, .int .i64 a.Duplex]) (.agg #[.string b.Name, .int .i64 b.Low, .int .i64 b.High, .int .i64 b.Raster, .int .i64 b.Duplex]) (.bool (!((a.Name.toList == b.Name.toList) && ((a.Low == b.Low) && ((a.High == b.High) && ((a.Raster == b.Raster) && ((a.Duplex == b.Duplex) && true))))))) Try.prog := B_stneq Try.underlying26 Try.stoodInHeld26 Try.eqGuardType26 (EqF.cons (by decide) Try.isAgg9 rfl rfl (SE_str Try.underlying9) (EqF.cons (by decide) Try.isAgg2 rfl rfl (SE_int Try.underlying2) (EqF.cons (by decide) Try.isAgg2 rfl rfl (SE_int Try.underlying2) (EqF.cons (by decide) Try.isAgg2 rfl rfl (SE_int Try.underlying2) (EqF.cons (by decide) Try.isAgg2 rfl rfl (SE_int Try.underlying2) EqF.nil)))))

theorem c_laws_szBand {a_0 : GBand} {left_1 : Int} {r : Int} (h : m_laws_szBand a_0 left_1 = some r) : CallJ Try.prog 9 [(pAgg (cGBand a_0)), (pEq (.int .i64 left_1))] (pEq (.int .i64 r)) := by
  unfold m_laws_szBand at h
  refine CallJ.enter Try.func9 rfl Try.ntmps9 rfl fun W I0 => ?_
  refine Tr.weak (Γ' := [(0, (pAgg (cGBand a_0))), (1, (pEq (.int .i64 left_1)))]) ⟨rfl, rfl, trivial⟩ ?_
  refine Tr.seq ?_
  refine Tr.region ?_
  refine RegL.pure (p := (pPtr (cGBand a_0))) rfl rfl rfl (J_boxA rfl (Opd.tmp rfl)) ?_
  refine RegL.pure (p := (pEq (.int .i64 (0 : Int)))) rfl rfl rfl (J_assign rfl Opd.con) ?_
  refine RegL.nil ?_
  refine Ct.then_tr ?_
  refine Tr.weak (Γ' := [(1, (pEq (.int .i64 left_1))), (2, (pPtr (cGBand a_0)))]) ⟨rfl, rfl, trivial⟩ ?_
  refine Tr.seq ?_
  refine Tr.region ?_
  refine RegL.pure (p := (pEq (.int .i64 left_1))) rfl rfl rfl (J_move rfl (Opd.tmp rfl)) ?_
  refine RegL.pure (p := (pPtr (cS a_0.Name))) rfl rfl rfl (J_fieldAddr rfl Try.underlying23 rfl sz9 (by decide) (Opd.tmp rfl) rfl) ?_
  refine RegL.pure (p := (pEq (.string a_0.Name))) rfl rfl rfl (J_load rfl Try.isAgg9 (Opd.tmp rfl)) ?_
  refine RegL.pure (p := (pEq (.int .i64 (a_0.Name.size : Int)))) rfl rfl rfl (J_slen rfl Try.underlying9 (Opd.tmp rfl) rfl) ?_
  refine RegL.pure (p := (pEq (.int .i64 (w64 (left_1 - (a_0.Name.size : Int)))))) rfl rfl rfl (J_bin rfl (Opd.tmp rfl) (Opd.tmp rfl) B_sub) ?_
  refine RegL.pure (p := (pEq (.int .i64 (w64 (left_1 - (a_0.Name.size : Int)))))) rfl rfl rfl (J_assign rfl (Opd.tmp rfl)) ?_
  refine RegL.nil ?_
  refine Ct.then_tr ?_
  refine Tr.weak (Γ' := [(1, (pEq (.int .i64 (w64 (left_1 - (a_0.Name.size : Int))))))]) ⟨rfl, trivial⟩ ?_
  refine Tr.seq ?_
  refine Tr.seq ?_
  refine Tr.region ?_
  refine RegL.pure (p := (pEq (.int .i64 (w64 (left_1 - (a_0.Name.size : Int)))))) rfl rfl rfl (J_move rfl (Opd.tmp rfl)) ?_
  refine RegL.pure (p := (pEq (.bool (decide ((w64 (left_1 - (a_0.Name.size : Int))) < (0 : Int)))))) rfl rfl rfl (J_bin rfl (Opd.tmp rfl) Opd.con B_lss) ?_
  refine RegL.nil ?_
  refine Ct.then_tr ?_
  refine Tr.weak (Γ' := [(1, (pEq (.int .i64 (w64 (left_1 - (a_0.Name.size : Int)))))), (11, (pEq (.bool (decide ((w64 (left_1 - (a_0.Name.size : Int))) < (0 : Int))))))]) ⟨rfl, rfl, trivial⟩ ?_
  refine Tr.cond (Opd.tmp rfl) (fun hc => ?_) (fun hc => ?_)
  · replace h := bif_t hc h
    refine Tr.seq ?_
    refine Tr.region ?_
    refine RegL.pure (p := (pEq (.int .i64 (-1 : Int)))) rfl rfl rfl (J_assign rfl Opd.con) ?_
    refine RegL.nil ?_
    refine Ct.then_tr ?_
    refine Tr.weak (Γ' := [(4, (pEq (.int .i64 (-1 : Int))))]) ⟨rfl, trivial⟩ ?_
    refine Tr.ret ?_
    refine Ct.then_ret ?_
    replace h := Option.some.inj h; subst h
    exact Ct.ret1 rfl rfl
  · replace h := bif_f hc h
    refine Tr.skip ?_
    refine Ct.then_tr ?_
    refine Tr.weak (Γ' := [(1, (pEq (.int .i64 (w64 (left_1 - (a_0.Name.size : Int))))))]) ⟨rfl, trivial⟩ ?_
    refine Tr.seq ?_
    refine Tr.region ?_
    refine RegL.pure (p := (pEq (.int .i64 (w64 (left_1 - (a_0.Name.size : Int)))))) rfl rfl rfl (J_move rfl (Opd.tmp rfl)) ?_
    refine RegL.pure (p := (pEq (.int .i64 (w64 (left_1 - (a_0.Name.size : Int)))))) rfl rfl rfl (J_assign rfl (Opd.tmp rfl)) ?_
    refine RegL.nil ?_
    refine Ct.then_tr ?_
    refine Tr.weak (Γ' := [(4, (pEq (.int .i64 (w64 (left_1 - (a_0.Name.size : Int))))))]) ⟨rfl, trivial⟩ ?_
    refine Tr.ret ?_
    replace h := Option.some.inj h; subst h
    exact Ct.ret1 rfl rfl

theorem c_laws_toBand {a_0 : GBand} {r : GBand} (h : m_laws_toBand a_0 = some r) : CallJ Try.prog 11 [(pAgg (cGBand a_0))] (pAgg (cGBand r)) := by
  unfold m_laws_toBand at h
  refine CallJ.enter Try.func11 rfl Try.ntmps11 rfl fun W I0 => ?_
  refine Tr.weak (Γ' := [(0, (pAgg (cGBand a_0)))]) ⟨rfl, trivial⟩ ?_
  refine Tr.seq ?_
  refine Tr.region ?_
  refine RegL.pure (p := (pPtr (cGBand a_0))) rfl rfl rfl (J_boxA rfl (Opd.tmp rfl)) ?_
  refine RegL.step (γ := Nat) (p := fun b => pEq (.pointer (some ⟨b, 0, none⟩))) (Ω' := fun b => [oBlk b [(pEq (.string ByteArray.empty)), (pEq (.int .i64 (0 : Int))), (pEq (.int .i64 (0 : Int))), (pEq (.int .i64 (0 : Int))), (pEq (.int .i64 (0 : Int)))]]) rfl rfl rfl (M_alloc rfl zero26) fun b1 => ?_
  refine RegL.nil ?_
  refine Ct.then_tr ?_
  refine Tr.weak (Γ' := [(1, (pPtr (cGBand a_0))), (2, (pEq (.pointer (some ⟨b1, 0, none⟩))))]) ⟨rfl, rfl, trivial⟩ ?_
  refine Tr.seq ?_
  refine Tr.region ?_
  refine RegL.step (γ := Nat) (p := fun b => pEq (.pointer (some ⟨b, 0, none⟩))) (Ω' := fun b => [oBlk b [(pEq (.string ByteArray.empty)), (pEq (.int .i64 (0 : Int))), (pEq (.int .i64 (0 : Int))), (pEq (.int .i64 (0 : Int))), (pEq (.int .i64 (0 : Int)))], oBlk b1 [(pEq (.string ByteArray.empty)), (pEq (.int .i64 (0 : Int))), (pEq (.int .i64 (0 : Int))), (pEq (.int .i64 (0 : Int))), (pEq (.int .i64 (0 : Int)))]]) rfl rfl rfl (M_alloc rfl zero26) fun b2 => ?_
  refine RegL.nil ?_
  refine Ct.then_tr ?_
  refine Tr.weak (Γ' := [(1, (pPtr (cGBand a_0))), (2, (pEq (.pointer (some ⟨b1, 0, none⟩)))), (3, (pEq (.pointer (some ⟨b2, 0, none⟩))))]) ⟨rfl, rfl, rfl, trivial⟩ ?_
  refine Tr.seq ?_
  refine Tr.region ?_
  refine RegL.pure (p := (pPtr (cS a_0.Name))) rfl rfl rfl (J_fieldAddr rfl Try.underlying23 rfl sz9 (by decide) (Opd.tmp rfl) rfl) ?_
  refine RegL.pure (p := (pEq (.string a_0.Name))) rfl rfl rfl (J_load rfl Try.isAgg9 (Opd.tmp rfl)) ?_
  refine RegL.pure (p := (pEq (.pointer (some ⟨b2, 0, none⟩)))) rfl rfl rfl (J_fieldAddrE rfl Try.underlying26 rfl sz9 (by decide) (Opd.tmp rfl) rfl) ?_
  refine RegL.stepN (γ := Unit) (p := fun _ => pAny) (Ω' := fun _ => [oBlk b2 [(pEq (.string a_0.Name)), (pEq (.int .i64 (0 : Int))), (pEq (.int .i64 (0 : Int))), (pEq (.int .i64 (0 : Int))), (pEq (.int .i64 (0 : Int)))], oBlk b1 [(pEq (.string ByteArray.empty)), (pEq (.int .i64 (0 : Int))), (pEq (.int .i64 (0 : Int))), (pEq (.int .i64 (0 : Int))), (pEq (.int .i64 (0 : Int)))]]) rfl rfl (M_store rfl sz9 (Opd.tmp rfl) (Opd.tmp rfl) OneC.str rfl rfl) fun _ => ?_
  refine RegL.nil ?_
  refine Ct.then_tr ?_
  refine Tr.weak (Γ' := [(1, (pPtr (cGBand a_0))), (2, (pEq (.pointer (some ⟨b1, 0, none⟩)))), (3, (pEq (.pointer (some ⟨b2, 0, none⟩))))]) ⟨rfl, rfl, rfl, trivial⟩ ?_
  refine Tr.seq ?_
  refine Tr.region ?_
  refine RegL.pure (p := (pPtr ((cK .i64) a_0.Low))) rfl rfl rfl (J_fieldAddr rfl Try.underlying23 rfl sz2 (by decide) (Opd.tmp rfl) rfl) ?_
  refine RegL.pure (p := (pEq (.int .i64 a_0.Low))) rfl rfl rfl (J_load rfl Try.isAgg2 (Opd.tmp rfl)) ?_
  refine RegL.pure (p := (pEq (.pointer (some ⟨b2, 1, none⟩)))) rfl rfl rfl (J_fieldAddrE rfl Try.underlying26 rfl sz2 (by decide) (Opd.tmp rfl) rfl) ?_
  refine RegL.stepN (γ := Unit) (p := fun _ => pAny) (Ω' := fun _ => [oBlk b2 [(pEq (.string a_0.Name)), (pEq (.int .i64 a_0.Low)), (pEq (.int .i64 (0 : Int))), (pEq (.int .i64 (0 : Int))), (pEq (.int .i64 (0 : Int)))], oBlk b1 [(pEq (.string ByteArray.empty)), (pEq (.int .i64 (0 : Int))), (pEq (.int .i64 (0 : Int))), (pEq (.int .i64 (0 : Int))), (pEq (.int .i64 (0 : Int)))]]) rfl rfl (M_store rfl sz2 (Opd.tmp rfl) (Opd.tmp rfl) OneC.int rfl rfl) fun _ => ?_
  refine RegL.nil ?_
  refine Ct.then_tr ?_
  refine Tr.weak (Γ' := [(1, (pPtr (cGBand a_0))), (2, (pEq (.pointer (some ⟨b1, 0, none⟩)))), (3, (pEq (.pointer (some ⟨b2, 0, none⟩))))]) ⟨rfl, rfl, rfl, trivial⟩ ?_
  refine Tr.seq ?_
  refine Tr.region ?_
  refine RegL.pure (p := (pPtr ((cK .i64) a_0.High))) rfl rfl rfl (J_fieldAddr rfl Try.underlying23 rfl sz2 (by decide) (Opd.tmp rfl) rfl) ?_
  refine RegL.pure (p := (pEq (.int .i64 a_0.High))) rfl rfl rfl (J_load rfl Try.isAgg2 (Opd.tmp rfl)) ?_
  refine RegL.pure (p := (pEq (.pointer (some ⟨b2, 2, none⟩)))) rfl rfl rfl (J_fieldAddrE rfl Try.underlying26 rfl sz2 (by decide) (Opd.tmp rfl) rfl) ?_
  refine RegL.stepN (γ := Unit) (p := fun _ => pAny) (Ω' := fun _ => [oBlk b2 [(pEq (.string a_0.Name)), (pEq (.int .i64 a_0.Low)), (pEq (.int .i64 a_0.High)), (pEq (.int .i64 (0 : Int))), (pEq (.int .i64 (0 : Int)))], oBlk b1 [(pEq (.string ByteArray.empty)), (pEq (.int .i64 (0 : Int))), (pEq (.int .i64 (0 : Int))), (pEq (.int .i64 (0 : Int))), (pEq (.int .i64 (0 : Int)))]]) rfl rfl (M_store rfl sz2 (Opd.tmp rfl) (Opd.tmp rfl) OneC.int rfl rfl) fun _ => ?_
  refine RegL.nil ?_
  refine Ct.then_tr ?_
  refine Tr.weak (Γ' := [(1, (pPtr (cGBand a_0))), (2, (pEq (.pointer (some ⟨b1, 0, none⟩)))), (3, (pEq (.pointer (some ⟨b2, 0, none⟩))))]) ⟨rfl, rfl, rfl, trivial⟩ ?_
  refine Tr.seq ?_
  refine Tr.region ?_
  refine RegL.pure (p := (pPtr ((cK .i64) a_0.Raster))) rfl rfl rfl (J_fieldAddr rfl Try.underlying23 rfl sz2 (by decide) (Opd.tmp rfl) rfl) ?_
  refine RegL.pure (p := (pEq (.int .i64 a_0.Raster))) rfl rfl rfl (J_load rfl Try.isAgg2 (Opd.tmp rfl)) ?_
  refine RegL.pure (p := (pEq (.pointer (some ⟨b2, 3, none⟩)))) rfl rfl rfl (J_fieldAddrE rfl Try.underlying26 rfl sz2 (by decide) (Opd.tmp rfl) rfl) ?_
  refine RegL.stepN (γ := Unit) (p := fun _ => pAny) (Ω' := fun _ => [oBlk b2 [(pEq (.string a_0.Name)), (pEq (.int .i64 a_0.Low)), (pEq (.int .i64 a_0.High)), (pEq (.int .i64 a_0.Raster)), (pEq (.int .i64 (0 : Int)))], oBlk b1 [(pEq (.string ByteArray.empty)), (pEq (.int .i64 (0 : Int))), (pEq (.int .i64 (0 : Int))), (pEq (.int .i64 (0 : Int))), (pEq (.int .i64 (0 : Int)))]]) rfl rfl (M_store rfl sz2 (Opd.tmp rfl) (Opd.tmp rfl) OneC.int rfl rfl) fun _ => ?_
  refine RegL.nil ?_
  refine Ct.then_tr ?_
  refine Tr.weak (Γ' := [(1, (pPtr (cGBand a_0))), (2, (pEq (.pointer (some ⟨b1, 0, none⟩)))), (3, (pEq (.pointer (some ⟨b2, 0, none⟩))))]) ⟨rfl, rfl, rfl, trivial⟩ ?_
  refine Tr.seq ?_
  refine Tr.region ?_
  refine RegL.pure (p := (pPtr ((cK .i64) a_0.Duplex))) rfl rfl rfl (J_fieldAddr rfl Try.underlying23 rfl sz2 (by decide) (Opd.tmp rfl) rfl) ?_
  refine RegL.pure (p := (pEq (.int .i64 a_0.Duplex))) rfl rfl rfl (J_load rfl Try.isAgg2 (Opd.tmp rfl)) ?_
  refine RegL.pure (p := (pEq (.pointer (some ⟨b2, 4, none⟩)))) rfl rfl rfl (J_fieldAddrE rfl Try.underlying26 rfl sz2 (by decide) (Opd.tmp rfl) rfl) ?_
  refine RegL.stepN (γ := Unit) (p := fun _ => pAny) (Ω' := fun _ => [oBlk b2 [(pEq (.string a_0.Name)), (pEq (.int .i64 a_0.Low)), (pEq (.int .i64 a_0.High)), (pEq (.int .i64 a_0.Raster)), (pEq (.int .i64 a_0.Duplex))], oBlk b1 [(pEq (.string ByteArray.empty)), (pEq (.int .i64 (0 : Int))), (pEq (.int .i64 (0 : Int))), (pEq (.int .i64 (0 : Int))), (pEq (.int .i64 (0 : Int)))]]) rfl rfl (M_store rfl sz2 (Opd.tmp rfl) (Opd.tmp rfl) OneC.int rfl rfl) fun _ => ?_
  refine RegL.nil ?_
  refine Ct.then_tr ?_
  refine Tr.weak (Γ' := [(2, (pEq (.pointer (some ⟨b1, 0, none⟩)))), (3, (pEq (.pointer (some ⟨b2, 0, none⟩))))]) ⟨rfl, rfl, trivial⟩ ?_
  refine Tr.seq ?_
  refine Tr.region ?_
  refine RegL.pureW (p := (pAgg (cGBand (GBand.mk a_0.Name a_0.Low a_0.High a_0.Raster a_0.Duplex)))) rfl rfl rfl (W_loadA (i := 0) rfl Try.isAgg26 sz26 (Opd.tmp rfl) rfl rfl) ?_
  refine RegL.perm perm1 ?_
  refine RegL.stepN (γ := Unit) (p := fun _ => pAny) (Ω' := fun _ => [oBlk b1 [(pEq (.string (GBand.mk a_0.Name a_0.Low a_0.High a_0.Raster a_0.Duplex).Name)), (pEq (.int .i64 (GBand.mk a_0.Name a_0.Low a_0.High a_0.Raster a_0.Duplex).Low)), (pEq (.int .i64 (GBand.mk a_0.Name a_0.Low a_0.High a_0.Raster a_0.Duplex).High)), (pEq (.int .i64 (GBand.mk a_0.Name a_0.Low a_0.High a_0.Raster a_0.Duplex).Raster)), (pEq (.int .i64 (GBand.mk a_0.Name a_0.Low a_0.High a_0.Raster a_0.Duplex).Duplex))], oBlk b2 [(pEq (.string a_0.Name)), (pEq (.int .i64 a_0.Low)), (pEq (.int .i64 a_0.High)), (pEq (.int .i64 a_0.Raster)), (pEq (.int .i64 a_0.Duplex))]]) rfl rfl (M_storeA rfl sz26 (Opd.tmp rfl) (Opd.tmp rfl) (fun _ _ _ h => ones_of ((OneCs.cons OneC.str (OneCs.cons OneC.int (OneCs.cons OneC.int (OneCs.cons OneC.int (OneCs.cons OneC.int OneCs.nil)))))) h) rfl rfl) fun _ => ?_
  refine RegL.nil ?_
  refine Ct.then_tr ?_
  refine Tr.weak (Γ' := [(2, (pEq (.pointer (some ⟨b1, 0, none⟩))))]) ⟨rfl, trivial⟩ ?_
  refine Tr.ret ?_
  replace h := Option.some.inj h; subst h
  refine Ct.perm perm1 ?_
  refine Ct.drop ?_
  exact Ct.retA rfl Try.isAgg26 sz26 rfl rfl

theorem c_spec_SameBand {a_0 : GBand} {b_1 : GBand} {r : Bool} (h : m_spec_SameBand a_0 b_1 = some r) : CallJ Try.prog 10 [(pAgg (cGBand a_0)), (pAgg (cGBand b_1))] (pEq (.bool r)) := by
  unfold m_spec_SameBand at h
  refine CallJ.enter Try.func10 rfl Try.ntmps10 rfl fun W I0 => ?_
  refine Tr.weak (Γ' := [(0, (pAgg (cGBand a_0))), (1, (pAgg (cGBand b_1)))]) ⟨rfl, rfl, trivial⟩ ?_
  refine Tr.seq ?_
  refine Tr.region ?_
  refine RegL.pure (p := (pPtr (cGBand a_0))) rfl rfl rfl (J_boxA rfl (Opd.tmp rfl)) ?_
  refine RegL.pure (p := (pPtr (cGBand b_1))) rfl rfl rfl (J_boxA rfl (Opd.tmp rfl)) ?_
  refine RegL.pure (p := (pEq (.bool false))) rfl rfl rfl (J_assign rfl Opd.con) ?_
  refine RegL.nil ?_
  refine Ct.then_tr ?_
  refine Tr.weak (Γ' := [(2, (pPtr (cGBand a_0))), (3, (pPtr (cGBand b_1)))]) ⟨rfl, rfl, trivial⟩ ?_
  refine Tr.seq ?_
  refine Tr.region ?_
  refine RegL.pure (p := (pAgg (cGBand a_0))) rfl rfl rfl (J_loadA rfl Try.isAgg26 sz26 (Opd.tmp rfl) rfl) ?_
  refine RegL.pure (p := (pAgg (cGBand b_1))) rfl rfl rfl (J_loadA rfl Try.isAgg26 sz26 (Opd.tmp rfl) rfl) ?_
  refine RegL.pure (p := (pEq (.bool ((a_0.Name.toList == b_1.Name.toList) && ((a_0.Low == b_1.Low) && ((a_0.High == b_1.High) && ((a_0.Raster == b_1.Raster) && ((a_0.Duplex == b_1.Duplex) && true)))))))) rfl rfl rfl (J_steq rfl (Opd.tmp rfl) (Opd.tmp rfl) rfl rfl (steql26 a_0 b_1)) ?_
  refine RegL.pure (p := (pEq (.bool ((a_0.Name.toList == b_1.Name.toList) && ((a_0.Low == b_1.Low) && ((a_0.High == b_1.High) && ((a_0.Raster == b_1.Raster) && ((a_0.Duplex == b_1.Duplex) && true)))))))) rfl rfl rfl (J_assign rfl (Opd.tmp rfl)) ?_
  refine RegL.nil ?_
  refine Ct.then_tr ?_
  refine Tr.weak (Γ' := [(4, (pEq (.bool ((a_0.Name.toList == b_1.Name.toList) && ((a_0.Low == b_1.Low) && ((a_0.High == b_1.High) && ((a_0.Raster == b_1.Raster) && ((a_0.Duplex == b_1.Duplex) && true))))))))]) ⟨rfl, trivial⟩ ?_
  refine Tr.ret ?_
  replace h := Option.some.inj h; subst h
  exact Ct.ret1 rfl rfl

theorem c_impl_SameBand {a_0 : GBand} {b_1 : GBand} {r : Bool} (h : m_impl_SameBand a_0 b_1 = some r) : CallJ Try.prog 12 [(pAgg (cGBand a_0)), (pAgg (cGBand b_1))] (pEq (.bool r)) := by
  unfold m_impl_SameBand at h
  refine CallJ.enter Try.func12 rfl Try.ntmps12 rfl fun W I0 => ?_
  refine Tr.weak (Γ' := [(0, (pAgg (cGBand a_0))), (1, (pAgg (cGBand b_1)))]) ⟨rfl, rfl, trivial⟩ ?_
  refine Tr.seq ?_
  refine Tr.region ?_
  refine RegL.pure (p := (pPtr (cGBand a_0))) rfl rfl rfl (J_boxA rfl (Opd.tmp rfl)) ?_
  refine RegL.pure (p := (pPtr (cGBand b_1))) rfl rfl rfl (J_boxA rfl (Opd.tmp rfl)) ?_
  refine RegL.pure (p := (pEq (.bool false))) rfl rfl rfl (J_assign rfl Opd.con) ?_
  refine RegL.nil ?_
  refine Ct.then_tr ?_
  refine Tr.weak (Γ' := [(2, (pPtr (cGBand a_0))), (3, (pPtr (cGBand b_1)))]) ⟨rfl, rfl, trivial⟩ ?_
  refine Tr.seq ?_
  refine Tr.region ?_
  refine RegL.pure (p := (pAgg (cGBand a_0))) rfl rfl rfl (J_loadA rfl Try.isAgg26 sz26 (Opd.tmp rfl) rfl) ?_
  refine RegL.pure (p := (pAgg (cGBand b_1))) rfl rfl rfl (J_loadA rfl Try.isAgg26 sz26 (Opd.tmp rfl) rfl) ?_
  refine RegL.pure (p := (pEq (.bool ((a_0.Name.toList == b_1.Name.toList) && ((a_0.Low == b_1.Low) && ((a_0.High == b_1.High) && ((a_0.Raster == b_1.Raster) && ((a_0.Duplex == b_1.Duplex) && true)))))))) rfl rfl rfl (J_steq rfl (Opd.tmp rfl) (Opd.tmp rfl) rfl rfl (steql26 a_0 b_1)) ?_
  refine RegL.pure (p := (pEq (.bool ((a_0.Name.toList == b_1.Name.toList) && ((a_0.Low == b_1.Low) && ((a_0.High == b_1.High) && ((a_0.Raster == b_1.Raster) && ((a_0.Duplex == b_1.Duplex) && true)))))))) rfl rfl rfl (J_assign rfl (Opd.tmp rfl)) ?_
  refine RegL.nil ?_
  refine Ct.then_tr ?_
  refine Tr.weak (Γ' := [(4, (pEq (.bool ((a_0.Name.toList == b_1.Name.toList) && ((a_0.Low == b_1.Low) && ((a_0.High == b_1.High) && ((a_0.Raster == b_1.Raster) && ((a_0.Duplex == b_1.Duplex) && true))))))))]) ⟨rfl, trivial⟩ ?_
  refine Tr.ret ?_
  replace h := Option.some.inj h; subst h
  exact Ct.ret1 rfl rfl

theorem c_laws_FnExactSameBand {aA_0 : GBand} {aB_1 : GBand} {r : Bool} (h : m_laws_FnExactSameBand aA_0 aB_1 = some r) : CallJ Try.prog 3 [(pAgg (cGBand aA_0)), (pAgg (cGBand aB_1))] (pEq (.bool r)) := by
  unfold m_laws_FnExactSameBand at h
  refine CallJ.enter Try.func3 rfl Try.ntmps3 rfl fun W I0 => ?_
  refine Tr.weak (Γ' := [(0, (pAgg (cGBand aA_0))), (1, (pAgg (cGBand aB_1)))]) ⟨rfl, rfl, trivial⟩ ?_
  refine Tr.seq ?_
  refine Tr.region ?_
  refine RegL.pure (p := (pPtr (cGBand aA_0))) rfl rfl rfl (J_boxA rfl (Opd.tmp rfl)) ?_
  refine RegL.pure (p := (pPtr (cGBand aB_1))) rfl rfl rfl (J_boxA rfl (Opd.tmp rfl)) ?_
  refine RegL.pure (p := (pEq (.bool false))) rfl rfl rfl (J_assign rfl Opd.con) ?_
  refine RegL.nil ?_
  refine Ct.then_tr ?_
  refine Tr.weak (Γ' := [(2, (pPtr (cGBand aA_0))), (3, (pPtr (cGBand aB_1)))]) ⟨rfl, rfl, trivial⟩ ?_
  refine Tr.seq ?_
  refine Tr.region ?_
  refine RegL.pure (p := (pEq (.int .i64 (1048576 : Int)))) rfl rfl rfl (J_assign rfl Opd.con) ?_
  refine RegL.nil ?_
  refine Ct.then_tr ?_
  refine Tr.weak (Γ' := [(2, (pPtr (cGBand aA_0))), (3, (pPtr (cGBand aB_1))), (5, (pEq (.int .i64 (1048576 : Int))))]) ⟨rfl, rfl, rfl, trivial⟩ ?_
  refine Tr.seq ?_
  refine Tr.region ?_
  refine RegL.pure (p := (pAgg (cGBand aA_0))) rfl rfl rfl (J_loadA rfl Try.isAgg23 sz23 (Opd.tmp rfl) rfl) ?_
  refine RegL.pure (p := (pEq (.int .i64 (1048576 : Int)))) rfl rfl rfl (J_move rfl (Opd.tmp rfl)) ?_
  replace h := bind_some h; obtain ⟨x1, hx1, h⟩ := h
  refine RegL.pure (p := (pEq (.int .i64 x1))) rfl rfl rfl (J_call rfl Try.call9 (c_laws_szBand hx1) (Opds.cons (Opd.tmp rfl) (Opds.cons (Opd.tmp rfl) Opds.nil))) ?_
  refine RegL.pure (p := (pEq (.int .i64 x1))) rfl rfl rfl (J_assign rfl (Opd.tmp rfl)) ?_
  refine RegL.nil ?_
  refine Ct.then_tr ?_
  refine Tr.weak (Γ' := [(2, (pPtr (cGBand aA_0))), (3, (pPtr (cGBand aB_1))), (5, (pEq (.int .i64 x1)))]) ⟨rfl, rfl, rfl, trivial⟩ ?_
  refine Tr.seq ?_
  refine Tr.seq ?_
  refine Tr.region ?_
  refine RegL.pure (p := (pEq (.int .i64 x1))) rfl rfl rfl (J_move rfl (Opd.tmp rfl)) ?_
  refine RegL.pure (p := (pEq (.bool (decide (x1 < (0 : Int)))))) rfl rfl rfl (J_bin rfl (Opd.tmp rfl) Opd.con B_lss) ?_
  refine RegL.nil ?_
  refine Ct.then_tr ?_
  refine Tr.weak (Γ' := [(2, (pPtr (cGBand aA_0))), (3, (pPtr (cGBand aB_1))), (5, (pEq (.int .i64 x1))), (12, (pEq (.bool (decide (x1 < (0 : Int))))))]) ⟨rfl, rfl, rfl, rfl, trivial⟩ ?_
  refine Tr.cond (Opd.tmp rfl) (fun hc => ?_) (fun hc => ?_)
  · replace h := bif_t hc h
    refine Tr.seq ?_
    refine Tr.region ?_
    refine RegL.pure (p := (pEq (.bool true))) rfl rfl rfl (J_assign rfl Opd.con) ?_
    refine RegL.nil ?_
    refine Ct.then_tr ?_
    refine Tr.weak (Γ' := [(4, (pEq (.bool true)))]) ⟨rfl, trivial⟩ ?_
    refine Tr.ret ?_
    refine Ct.then_ret ?_
    replace h := Option.some.inj h; subst h
    exact Ct.ret1 rfl rfl
  · replace h := bif_f hc h
    refine Tr.skip ?_
    refine Ct.then_tr ?_
    refine Tr.weak (Γ' := [(2, (pPtr (cGBand aA_0))), (3, (pPtr (cGBand aB_1))), (5, (pEq (.int .i64 x1)))]) ⟨rfl, rfl, rfl, trivial⟩ ?_
    refine Tr.seq ?_
    refine Tr.region ?_
    refine RegL.pure (p := (pAgg (cGBand aB_1))) rfl rfl rfl (J_loadA rfl Try.isAgg23 sz23 (Opd.tmp rfl) rfl) ?_
    refine RegL.pure (p := (pEq (.int .i64 x1))) rfl rfl rfl (J_move rfl (Opd.tmp rfl)) ?_
    replace h := bind_some h; obtain ⟨x2, hx2, h⟩ := h
    refine RegL.pure (p := (pEq (.int .i64 x2))) rfl rfl rfl (J_call rfl Try.call9 (c_laws_szBand hx2) (Opds.cons (Opd.tmp rfl) (Opds.cons (Opd.tmp rfl) Opds.nil))) ?_
    refine RegL.pure (p := (pEq (.int .i64 x2))) rfl rfl rfl (J_assign rfl (Opd.tmp rfl)) ?_
    refine RegL.nil ?_
    refine Ct.then_tr ?_
    refine Tr.weak (Γ' := [(2, (pPtr (cGBand aA_0))), (3, (pPtr (cGBand aB_1))), (5, (pEq (.int .i64 x2)))]) ⟨rfl, rfl, rfl, trivial⟩ ?_
    refine Tr.seq ?_
    refine Tr.seq ?_
    refine Tr.region ?_
    refine RegL.pure (p := (pEq (.int .i64 x2))) rfl rfl rfl (J_move rfl (Opd.tmp rfl)) ?_
    refine RegL.pure (p := (pEq (.bool (decide (x2 < (0 : Int)))))) rfl rfl rfl (J_bin rfl (Opd.tmp rfl) Opd.con B_lss) ?_
    refine RegL.nil ?_
    refine Ct.then_tr ?_
    refine Tr.weak (Γ' := [(2, (pPtr (cGBand aA_0))), (3, (pPtr (cGBand aB_1))), (17, (pEq (.bool (decide (x2 < (0 : Int))))))]) ⟨rfl, rfl, rfl, trivial⟩ ?_
    refine Tr.cond (Opd.tmp rfl) (fun hc => ?_) (fun hc => ?_)
    · replace h := bif_t hc h
      refine Tr.seq ?_
      refine Tr.region ?_
      refine RegL.pure (p := (pEq (.bool true))) rfl rfl rfl (J_assign rfl Opd.con) ?_
      refine RegL.nil ?_
      refine Ct.then_tr ?_
      refine Tr.weak (Γ' := [(4, (pEq (.bool true)))]) ⟨rfl, trivial⟩ ?_
      refine Tr.ret ?_
      refine Ct.then_ret ?_
      replace h := Option.some.inj h; subst h
      exact Ct.ret1 rfl rfl
    · replace h := bif_f hc h
      refine Tr.skip ?_
      refine Ct.then_tr ?_
      refine Tr.weak (Γ' := [(2, (pPtr (cGBand aA_0))), (3, (pPtr (cGBand aB_1)))]) ⟨rfl, rfl, trivial⟩ ?_
      refine Tr.seq ?_
      replace h := bind_some h; obtain ⟨x3, hx3, h⟩ := h
      replace h := bind_some h; obtain ⟨x4, hx4, h⟩ := h
      replace h := bind_some h; obtain ⟨x5, hx5, h⟩ := h
      refine Tr.draw (n := 31) (es := [Ent.mk [(2, (pPtr (cGBand aA_0)))] (pAgg (cGBand aA_0)) true, Ent.mk [(18, (pAgg (cGBand aA_0)))] (pAgg (cGBand x3)) true, Ent.mk [(3, (pPtr (cGBand aB_1)))] (pAgg (cGBand aB_1)) true, Ent.mk [(20, (pAgg (cGBand aB_1)))] (pAgg (cGBand x4)) true, Ent.mk [(19, (pAgg (cGBand x3))), (21, (pAgg (cGBand x4)))] (pEq (.bool x5)) true, Ent.mk [(22, (pEq (.bool x5)))] (pEq (.bool x5)) true]) (rd := [[2], [18], [3], [20], [19, 21], [22]]) rfl hmix rfl (by kernel_rfl) ⟨⟨(OpJ.w (J_loadA rfl Try.isAgg23 sz23 (Opd.tmp rfl) rfl)), ⟨rfl, trivial⟩, rfl⟩, ⟨(OpJ.w (J_call rfl Try.call11 (c_laws_toBand hx3) (Opds.cons (Opd.tmp rfl) Opds.nil))), ⟨rfl, trivial⟩, rfl⟩, ⟨(OpJ.w (J_loadA rfl Try.isAgg23 sz23 (Opd.tmp rfl) rfl)), ⟨rfl, trivial⟩, rfl⟩, ⟨(OpJ.w (J_call rfl Try.call11 (c_laws_toBand hx4) (Opds.cons (Opd.tmp rfl) Opds.nil))), ⟨rfl, trivial⟩, rfl⟩, ⟨(OpJ.w (J_call rfl Try.call10 (c_spec_SameBand hx5) (Opds.cons (Opd.tmp rfl) (Opds.cons (Opd.tmp rfl) Opds.nil)))), ⟨rfl, rfl, trivial⟩, rfl⟩, ⟨(OpJ.w (J_assign rfl (Opd.tmp rfl))), ⟨rfl, trivial⟩, rfl⟩, trivial⟩ ?_
      refine Ct.then_tr ?_
      refine Tr.weak (Γ' := [(2, (pPtr (cGBand aA_0))), (3, (pPtr (cGBand aB_1))), (6, (pEq (.bool x5)))]) ⟨rfl, rfl, rfl, trivial⟩ ?_
      refine Tr.seq ?_
      replace h := bind_some h; obtain ⟨x6, hx6, h⟩ := h
      replace h := bind_some h; obtain ⟨x7, hx7, h⟩ := h
      replace h := bind_some h; obtain ⟨x8, hx8, h⟩ := h
      refine Tr.draw (n := 31) (es := [Ent.mk [(2, (pPtr (cGBand aA_0)))] (pAgg (cGBand aA_0)) true, Ent.mk [(23, (pAgg (cGBand aA_0)))] (pAgg (cGBand x6)) true, Ent.mk [(3, (pPtr (cGBand aB_1)))] (pAgg (cGBand aB_1)) true, Ent.mk [(25, (pAgg (cGBand aB_1)))] (pAgg (cGBand x7)) true, Ent.mk [(24, (pAgg (cGBand x6))), (26, (pAgg (cGBand x7)))] (pEq (.bool x8)) true, Ent.mk [(27, (pEq (.bool x8)))] (pEq (.bool x8)) true]) (rd := [[2], [23], [3], [25], [24, 26], [27]]) rfl hmix rfl (by kernel_rfl) ⟨⟨(OpJ.w (J_loadA rfl Try.isAgg23 sz23 (Opd.tmp rfl) rfl)), ⟨rfl, trivial⟩, rfl⟩, ⟨(OpJ.w (J_call rfl Try.call11 (c_laws_toBand hx6) (Opds.cons (Opd.tmp rfl) Opds.nil))), ⟨rfl, trivial⟩, rfl⟩, ⟨(OpJ.w (J_loadA rfl Try.isAgg23 sz23 (Opd.tmp rfl) rfl)), ⟨rfl, trivial⟩, rfl⟩, ⟨(OpJ.w (J_call rfl Try.call11 (c_laws_toBand hx7) (Opds.cons (Opd.tmp rfl) Opds.nil))), ⟨rfl, trivial⟩, rfl⟩, ⟨(OpJ.w (J_call rfl Try.call12 (c_impl_SameBand hx8) (Opds.cons (Opd.tmp rfl) (Opds.cons (Opd.tmp rfl) Opds.nil)))), ⟨rfl, rfl, trivial⟩, rfl⟩, ⟨(OpJ.w (J_assign rfl (Opd.tmp rfl))), ⟨rfl, trivial⟩, rfl⟩, trivial⟩ ?_
      refine Ct.then_tr ?_
      refine Tr.weak (Γ' := [(6, (pEq (.bool x5))), (7, (pEq (.bool x8)))]) ⟨rfl, rfl, trivial⟩ ?_
      refine Tr.seq ?_
      refine Tr.seq ?_
      refine Tr.region ?_
      refine RegL.pure (p := (pEq (.bool x8))) rfl rfl rfl (J_move rfl (Opd.tmp rfl)) ?_
      refine RegL.pure (p := (pEq (.bool x5))) rfl rfl rfl (J_move rfl (Opd.tmp rfl)) ?_
      refine RegL.pure (p := (pEq (.bool (x8 != x5)))) rfl rfl rfl (J_bin rfl (Opd.tmp rfl) (Opd.tmp rfl) (B_bneq Try.underlying4)) ?_
      refine RegL.nil ?_
      refine Ct.then_tr ?_
      refine Tr.weak (Γ' := [(30, (pEq (.bool (x8 != x5))))]) ⟨rfl, trivial⟩ ?_
      refine Tr.cond (Opd.tmp rfl) (fun hc => ?_) (fun hc => ?_)
      · replace h := bif_t hc h
        refine Tr.seq ?_
        refine Tr.region ?_
        refine RegL.pure (p := (pEq (.bool false))) rfl rfl rfl (J_assign rfl Opd.con) ?_
        refine RegL.nil ?_
        refine Ct.then_tr ?_
        refine Tr.weak (Γ' := [(4, (pEq (.bool false)))]) ⟨rfl, trivial⟩ ?_
        refine Tr.ret ?_
        refine Ct.then_ret ?_
        replace h := Option.some.inj h; subst h
        exact Ct.ret1 rfl rfl
      · replace h := bif_f hc h
        refine Tr.skip ?_
        refine Ct.then_tr ?_
        refine Tr.weak (Γ' := []) trivial ?_
        refine Tr.seq ?_
        refine Tr.region ?_
        refine RegL.pure (p := (pEq (.bool true))) rfl rfl rfl (J_assign rfl Opd.con) ?_
        refine RegL.nil ?_
        refine Ct.then_tr ?_
        refine Tr.weak (Γ' := [(4, (pEq (.bool true)))]) ⟨rfl, trivial⟩ ?_
        refine Tr.ret ?_
        replace h := Option.some.inj h; subst h
        exact Ct.ret1 rfl rfl
end Go.Proofs.Ytbogkiihgejbnaa.fnExactSameBandW
