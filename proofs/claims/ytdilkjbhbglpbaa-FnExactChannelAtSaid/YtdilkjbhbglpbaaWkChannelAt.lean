/-
  The walks that the law FnExactChannelAt reaches: each function computes its model. Printed by our own program.
-/
import Derived.Test.YtdilkjbhbglpbaaProg
import Derived.Test.YtdilkjbhbglpbaaMod
import Derived.KernelRfl
namespace Go.Proofs.Ytdilkjbhbglpbaa.fnExactChannelAtW
open Go Go.RowKit Go.Wk
set_option linter.unusedVariables false
set_option maxRecDepth 100000
theorem hmix : Try.prog.follows .mixedOrders = true := by kernel_rfl
theorem sz2 : ∀ w, (Go.sizeOf 2).run Try.prog w = .ok 1 w := fun _ => by kernel_rfl
theorem sz9 : ∀ w, (Go.sizeOf 9).run Try.prog w = .ok 1 w := fun _ => by kernel_rfl
theorem sz29 : ∀ w, (Go.sizeOf 29).run Try.prog w = .ok 5 w := fun _ => by kernel_rfl
theorem sz32 : ∀ w, (Go.sizeOf 32).run Try.prog w = .ok 5 w := fun _ => by kernel_rfl
theorem zero32 : Zero Try.prog 32 [(pEq (.string ByteArray.empty)), (pEq (.int .i64 (0 : Int))), (pEq (.int .i64 (0 : Int))), (pEq (.int .i64 (0 : Int))), (pEq (.int .i64 (0 : Int)))] := ⟨(.agg #[.string ByteArray.empty, .int .i64 0, .int .i64 0, .int .i64 0, .int .i64 0]), [.string ByteArray.empty, .int .i64 0, .int .i64 0, .int .i64 0, .int .i64 0], fun _ => by kernel_rfl, rfl, fun _ _ => ⟨rfl, ⟨rfl, ⟨rfl, ⟨rfl, ⟨rfl, trivial⟩⟩⟩⟩⟩⟩

theorem c_laws_szBand {a_0 : GBand} {left_1 : Int} {r : Int} (h : m_laws_szBand a_0 left_1 = some r) : CallJ Try.prog 19 [(pAgg (cGBand a_0)), (pEq (.int .i64 left_1))] (pEq (.int .i64 r)) := by
  unfold m_laws_szBand at h
  refine CallJ.enter Try.func19 rfl Try.ntmps19 rfl fun W I0 => ?_
  refine Tr.weak (Γ' := [(0, (pAgg (cGBand a_0))), (1, (pEq (.int .i64 left_1)))]) ⟨rfl, rfl, trivial⟩ ?_
  refine Tr.seq ?_
  refine Tr.region ?_
  refine RegL.pure (p := (pPtr (cGBand a_0))) rfl rfl rfl (J_boxA rfl (Opd.tmp rfl)) ?_
  refine RegL.pure (p := (pEq (.int .i64 (0 : Int)))) rfl rfl rfl (J_assign rfl Opd.con) ?_
  refine RegL.nil ?_
  refine Ct.then_tr ?_
  refine Tr.weak (Γ' := [(1, (pEq (.int .i64 left_1))), (2, (pPtr (cGBand a_0)))]) ⟨rfl, rfl, trivial⟩ ?_
  refine Tr.seq ?_
  refine Tr.region ?_
  refine RegL.pure (p := (pEq (.int .i64 left_1))) rfl rfl rfl (J_move rfl (Opd.tmp rfl)) ?_
  refine RegL.pure (p := (pPtr (cS a_0.Name))) rfl rfl rfl (J_fieldAddr rfl Try.underlying29 rfl sz9 (by decide) (Opd.tmp rfl) rfl) ?_
  refine RegL.pure (p := (pEq (.string a_0.Name))) rfl rfl rfl (J_load rfl Try.isAgg9 (Opd.tmp rfl)) ?_
  refine RegL.pure (p := (pEq (.int .i64 (a_0.Name.size : Int)))) rfl rfl rfl (J_slen rfl Try.underlying9 (Opd.tmp rfl) rfl) ?_
  refine RegL.pure (p := (pEq (.int .i64 (w64 (left_1 - (a_0.Name.size : Int)))))) rfl rfl rfl (J_bin rfl (Opd.tmp rfl) (Opd.tmp rfl) B_sub) ?_
  refine RegL.pure (p := (pEq (.int .i64 (w64 (left_1 - (a_0.Name.size : Int)))))) rfl rfl rfl (J_assign rfl (Opd.tmp rfl)) ?_
  refine RegL.nil ?_
  refine Ct.then_tr ?_
  refine Tr.weak (Γ' := [(1, (pEq (.int .i64 (w64 (left_1 - (a_0.Name.size : Int))))))]) ⟨rfl, trivial⟩ ?_
  refine Tr.seq ?_
  refine Tr.seq ?_
  refine Tr.region ?_
  refine RegL.pure (p := (pEq (.int .i64 (w64 (left_1 - (a_0.Name.size : Int)))))) rfl rfl rfl (J_move rfl (Opd.tmp rfl)) ?_
  refine RegL.pure (p := (pEq (.bool (decide ((w64 (left_1 - (a_0.Name.size : Int))) < (0 : Int)))))) rfl rfl rfl (J_bin rfl (Opd.tmp rfl) Opd.con B_lss) ?_
  refine RegL.nil ?_
  refine Ct.then_tr ?_
  refine Tr.weak (Γ' := [(1, (pEq (.int .i64 (w64 (left_1 - (a_0.Name.size : Int)))))), (11, (pEq (.bool (decide ((w64 (left_1 - (a_0.Name.size : Int))) < (0 : Int))))))]) ⟨rfl, rfl, trivial⟩ ?_
  refine Tr.cond (Opd.tmp rfl) (fun hc => ?_) (fun hc => ?_)
  · replace h := bif_t hc h
    refine Tr.seq ?_
    refine Tr.region ?_
    refine RegL.pure (p := (pEq (.int .i64 (-1 : Int)))) rfl rfl rfl (J_assign rfl Opd.con) ?_
    refine RegL.nil ?_
    refine Ct.then_tr ?_
    refine Tr.weak (Γ' := [(4, (pEq (.int .i64 (-1 : Int))))]) ⟨rfl, trivial⟩ ?_
    refine Tr.ret ?_
    refine Ct.then_ret ?_
    replace h := Option.some.inj h; subst h
    exact Ct.ret1 rfl rfl
  · replace h := bif_f hc h
    refine Tr.skip ?_
    refine Ct.then_tr ?_
    refine Tr.weak (Γ' := [(1, (pEq (.int .i64 (w64 (left_1 - (a_0.Name.size : Int))))))]) ⟨rfl, trivial⟩ ?_
    refine Tr.seq ?_
    refine Tr.region ?_
    refine RegL.pure (p := (pEq (.int .i64 (w64 (left_1 - (a_0.Name.size : Int)))))) rfl rfl rfl (J_move rfl (Opd.tmp rfl)) ?_
    refine RegL.pure (p := (pEq (.int .i64 (w64 (left_1 - (a_0.Name.size : Int)))))) rfl rfl rfl (J_assign rfl (Opd.tmp rfl)) ?_
    refine RegL.nil ?_
    refine Ct.then_tr ?_
    refine Tr.weak (Γ' := [(4, (pEq (.int .i64 (w64 (left_1 - (a_0.Name.size : Int))))))]) ⟨rfl, trivial⟩ ?_
    refine Tr.ret ?_
    replace h := Option.some.inj h; subst h
    exact Ct.ret1 rfl rfl

theorem c_laws_toBand {a_0 : GBand} {r : GBand} (h : m_laws_toBand a_0 = some r) : CallJ Try.prog 21 [(pAgg (cGBand a_0))] (pAgg (cGBand r)) := by
  unfold m_laws_toBand at h
  refine CallJ.enter Try.func21 rfl Try.ntmps21 rfl fun W I0 => ?_
  refine Tr.weak (Γ' := [(0, (pAgg (cGBand a_0)))]) ⟨rfl, trivial⟩ ?_
  refine Tr.seq ?_
  refine Tr.region ?_
  refine RegL.pure (p := (pPtr (cGBand a_0))) rfl rfl rfl (J_boxA rfl (Opd.tmp rfl)) ?_
  refine RegL.step (γ := Nat) (p := fun b => pEq (.pointer (some ⟨b, 0, none⟩))) (Ω' := fun b => [oBlk b [(pEq (.string ByteArray.empty)), (pEq (.int .i64 (0 : Int))), (pEq (.int .i64 (0 : Int))), (pEq (.int .i64 (0 : Int))), (pEq (.int .i64 (0 : Int)))]]) rfl rfl rfl (M_alloc rfl zero32) fun b1 => ?_
  refine RegL.nil ?_
  refine Ct.then_tr ?_
  refine Tr.weak (Γ' := [(1, (pPtr (cGBand a_0))), (2, (pEq (.pointer (some ⟨b1, 0, none⟩))))]) ⟨rfl, rfl, trivial⟩ ?_
  refine Tr.seq ?_
  refine Tr.region ?_
  refine RegL.step (γ := Nat) (p := fun b => pEq (.pointer (some ⟨b, 0, none⟩))) (Ω' := fun b => [oBlk b [(pEq (.string ByteArray.empty)), (pEq (.int .i64 (0 : Int))), (pEq (.int .i64 (0 : Int))), (pEq (.int .i64 (0 : Int))), (pEq (.int .i64 (0 : Int)))], oBlk b1 [(pEq (.string ByteArray.empty)), (pEq (.int .i64 (0 : Int))), (pEq (.int .i64 (0 : Int))), (pEq (.int .i64 (0 : Int))), (pEq (.int .i64 (0 : Int)))]]) rfl rfl rfl (M_alloc rfl zero32) fun b2 => ?_
  refine RegL.nil ?_
  refine Ct.then_tr ?_
  refine Tr.weak (Γ' := [(1, (pPtr (cGBand a_0))), (2, (pEq (.pointer (some ⟨b1, 0, none⟩)))), (3, (pEq (.pointer (some ⟨b2, 0, none⟩))))]) ⟨rfl, rfl, rfl, trivial⟩ ?_
  refine Tr.seq ?_
  refine Tr.region ?_
  refine RegL.pure (p := (pPtr (cS a_0.Name))) rfl rfl rfl (J_fieldAddr rfl Try.underlying29 rfl sz9 (by decide) (Opd.tmp rfl) rfl) ?_
  refine RegL.pure (p := (pEq (.string a_0.Name))) rfl rfl rfl (J_load rfl Try.isAgg9 (Opd.tmp rfl)) ?_
  refine RegL.pure (p := (pEq (.pointer (some ⟨b2, 0, none⟩)))) rfl rfl rfl (J_fieldAddrE rfl Try.underlying32 rfl sz9 (by decide) (Opd.tmp rfl) rfl) ?_
  refine RegL.stepN (γ := Unit) (p := fun _ => pAny) (Ω' := fun _ => [oBlk b2 [(pEq (.string a_0.Name)), (pEq (.int .i64 (0 : Int))), (pEq (.int .i64 (0 : Int))), (pEq (.int .i64 (0 : Int))), (pEq (.int .i64 (0 : Int)))], oBlk b1 [(pEq (.string ByteArray.empty)), (pEq (.int .i64 (0 : Int))), (pEq (.int .i64 (0 : Int))), (pEq (.int .i64 (0 : Int))), (pEq (.int .i64 (0 : Int)))]]) rfl rfl (M_store rfl sz9 (Opd.tmp rfl) (Opd.tmp rfl) OneC.str rfl rfl) fun _ => ?_
  refine RegL.nil ?_
  refine Ct.then_tr ?_
  refine Tr.weak (Γ' := [(1, (pPtr (cGBand a_0))), (2, (pEq (.pointer (some ⟨b1, 0, none⟩)))), (3, (pEq (.pointer (some ⟨b2, 0, none⟩))))]) ⟨rfl, rfl, rfl, trivial⟩ ?_
  refine Tr.seq ?_
  refine Tr.region ?_
  refine RegL.pure (p := (pPtr ((cK .i64) a_0.Low))) rfl rfl rfl (J_fieldAddr rfl Try.underlying29 rfl sz2 (by decide) (Opd.tmp rfl) rfl) ?_
  refine RegL.pure (p := (pEq (.int .i64 a_0.Low))) rfl rfl rfl (J_load rfl Try.isAgg2 (Opd.tmp rfl)) ?_
  refine RegL.pure (p := (pEq (.pointer (some ⟨b2, 1, none⟩)))) rfl rfl rfl (J_fieldAddrE rfl Try.underlying32 rfl sz2 (by decide) (Opd.tmp rfl) rfl) ?_
  refine RegL.stepN (γ := Unit) (p := fun _ => pAny) (Ω' := fun _ => [oBlk b2 [(pEq (.string a_0.Name)), (pEq (.int .i64 a_0.Low)), (pEq (.int .i64 (0 : Int))), (pEq (.int .i64 (0 : Int))), (pEq (.int .i64 (0 : Int)))], oBlk b1 [(pEq (.string ByteArray.empty)), (pEq (.int .i64 (0 : Int))), (pEq (.int .i64 (0 : Int))), (pEq (.int .i64 (0 : Int))), (pEq (.int .i64 (0 : Int)))]]) rfl rfl (M_store rfl sz2 (Opd.tmp rfl) (Opd.tmp rfl) OneC.int rfl rfl) fun _ => ?_
  refine RegL.nil ?_
  refine Ct.then_tr ?_
  refine Tr.weak (Γ' := [(1, (pPtr (cGBand a_0))), (2, (pEq (.pointer (some ⟨b1, 0, none⟩)))), (3, (pEq (.pointer (some ⟨b2, 0, none⟩))))]) ⟨rfl, rfl, rfl, trivial⟩ ?_
  refine Tr.seq ?_
  refine Tr.region ?_
  refine RegL.pure (p := (pPtr ((cK .i64) a_0.High))) rfl rfl rfl (J_fieldAddr rfl Try.underlying29 rfl sz2 (by decide) (Opd.tmp rfl) rfl) ?_
  refine RegL.pure (p := (pEq (.int .i64 a_0.High))) rfl rfl rfl (J_load rfl Try.isAgg2 (Opd.tmp rfl)) ?_
  refine RegL.pure (p := (pEq (.pointer (some ⟨b2, 2, none⟩)))) rfl rfl rfl (J_fieldAddrE rfl Try.underlying32 rfl sz2 (by decide) (Opd.tmp rfl) rfl) ?_
  refine RegL.stepN (γ := Unit) (p := fun _ => pAny) (Ω' := fun _ => [oBlk b2 [(pEq (.string a_0.Name)), (pEq (.int .i64 a_0.Low)), (pEq (.int .i64 a_0.High)), (pEq (.int .i64 (0 : Int))), (pEq (.int .i64 (0 : Int)))], oBlk b1 [(pEq (.string ByteArray.empty)), (pEq (.int .i64 (0 : Int))), (pEq (.int .i64 (0 : Int))), (pEq (.int .i64 (0 : Int))), (pEq (.int .i64 (0 : Int)))]]) rfl rfl (M_store rfl sz2 (Opd.tmp rfl) (Opd.tmp rfl) OneC.int rfl rfl) fun _ => ?_
  refine RegL.nil ?_
  refine Ct.then_tr ?_
  refine Tr.weak (Γ' := [(1, (pPtr (cGBand a_0))), (2, (pEq (.pointer (some ⟨b1, 0, none⟩)))), (3, (pEq (.pointer (some ⟨b2, 0, none⟩))))]) ⟨rfl, rfl, rfl, trivial⟩ ?_
  refine Tr.seq ?_
  refine Tr.region ?_
  refine RegL.pure (p := (pPtr ((cK .i64) a_0.Raster))) rfl rfl rfl (J_fieldAddr rfl Try.underlying29 rfl sz2 (by decide) (Opd.tmp rfl) rfl) ?_
  refine RegL.pure (p := (pEq (.int .i64 a_0.Raster))) rfl rfl rfl (J_load rfl Try.isAgg2 (Opd.tmp rfl)) ?_
  refine RegL.pure (p := (pEq (.pointer (some ⟨b2, 3, none⟩)))) rfl rfl rfl (J_fieldAddrE rfl Try.underlying32 rfl sz2 (by decide) (Opd.tmp rfl) rfl) ?_
  refine RegL.stepN (γ := Unit) (p := fun _ => pAny) (Ω' := fun _ => [oBlk b2 [(pEq (.string a_0.Name)), (pEq (.int .i64 a_0.Low)), (pEq (.int .i64 a_0.High)), (pEq (.int .i64 a_0.Raster)), (pEq (.int .i64 (0 : Int)))], oBlk b1 [(pEq (.string ByteArray.empty)), (pEq (.int .i64 (0 : Int))), (pEq (.int .i64 (0 : Int))), (pEq (.int .i64 (0 : Int))), (pEq (.int .i64 (0 : Int)))]]) rfl rfl (M_store rfl sz2 (Opd.tmp rfl) (Opd.tmp rfl) OneC.int rfl rfl) fun _ => ?_
  refine RegL.nil ?_
  refine Ct.then_tr ?_
  refine Tr.weak (Γ' := [(1, (pPtr (cGBand a_0))), (2, (pEq (.pointer (some ⟨b1, 0, none⟩)))), (3, (pEq (.pointer (some ⟨b2, 0, none⟩))))]) ⟨rfl, rfl, rfl, trivial⟩ ?_
  refine Tr.seq ?_
  refine Tr.region ?_
  refine RegL.pure (p := (pPtr ((cK .i64) a_0.Duplex))) rfl rfl rfl (J_fieldAddr rfl Try.underlying29 rfl sz2 (by decide) (Opd.tmp rfl) rfl) ?_
  refine RegL.pure (p := (pEq (.int .i64 a_0.Duplex))) rfl rfl rfl (J_load rfl Try.isAgg2 (Opd.tmp rfl)) ?_
  refine RegL.pure (p := (pEq (.pointer (some ⟨b2, 4, none⟩)))) rfl rfl rfl (J_fieldAddrE rfl Try.underlying32 rfl sz2 (by decide) (Opd.tmp rfl) rfl) ?_
  refine RegL.stepN (γ := Unit) (p := fun _ => pAny) (Ω' := fun _ => [oBlk b2 [(pEq (.string a_0.Name)), (pEq (.int .i64 a_0.Low)), (pEq (.int .i64 a_0.High)), (pEq (.int .i64 a_0.Raster)), (pEq (.int .i64 a_0.Duplex))], oBlk b1 [(pEq (.string ByteArray.empty)), (pEq (.int .i64 (0 : Int))), (pEq (.int .i64 (0 : Int))), (pEq (.int .i64 (0 : Int))), (pEq (.int .i64 (0 : Int)))]]) rfl rfl (M_store rfl sz2 (Opd.tmp rfl) (Opd.tmp rfl) OneC.int rfl rfl) fun _ => ?_
  refine RegL.nil ?_
  refine Ct.then_tr ?_
  refine Tr.weak (Γ' := [(2, (pEq (.pointer (some ⟨b1, 0, none⟩)))), (3, (pEq (.pointer (some ⟨b2, 0, none⟩))))]) ⟨rfl, rfl, trivial⟩ ?_
  refine Tr.seq ?_
  refine Tr.region ?_
  refine RegL.pureW (p := (pAgg (cGBand (GBand.mk a_0.Name a_0.Low a_0.High a_0.Raster a_0.Duplex)))) rfl rfl rfl (W_loadA (i := 0) rfl Try.isAgg32 sz32 (Opd.tmp rfl) rfl rfl) ?_
  refine RegL.perm perm1 ?_
  refine RegL.stepN (γ := Unit) (p := fun _ => pAny) (Ω' := fun _ => [oBlk b1 [(pEq (.string (GBand.mk a_0.Name a_0.Low a_0.High a_0.Raster a_0.Duplex).Name)), (pEq (.int .i64 (GBand.mk a_0.Name a_0.Low a_0.High a_0.Raster a_0.Duplex).Low)), (pEq (.int .i64 (GBand.mk a_0.Name a_0.Low a_0.High a_0.Raster a_0.Duplex).High)), (pEq (.int .i64 (GBand.mk a_0.Name a_0.Low a_0.High a_0.Raster a_0.Duplex).Raster)), (pEq (.int .i64 (GBand.mk a_0.Name a_0.Low a_0.High a_0.Raster a_0.Duplex).Duplex))], oBlk b2 [(pEq (.string a_0.Name)), (pEq (.int .i64 a_0.Low)), (pEq (.int .i64 a_0.High)), (pEq (.int .i64 a_0.Raster)), (pEq (.int .i64 a_0.Duplex))]]) rfl rfl (M_storeA rfl sz32 (Opd.tmp rfl) (Opd.tmp rfl) (fun _ _ _ h => ones_of ((OneCs.cons OneC.str (OneCs.cons OneC.int (OneCs.cons OneC.int (OneCs.cons OneC.int (OneCs.cons OneC.int OneCs.nil)))))) h) rfl rfl) fun _ => ?_
  refine RegL.nil ?_
  refine Ct.then_tr ?_
  refine Tr.weak (Γ' := [(2, (pEq (.pointer (some ⟨b1, 0, none⟩))))]) ⟨rfl, trivial⟩ ?_
  refine Tr.ret ?_
  replace h := Option.some.inj h; subst h
  refine Ct.perm perm1 ?_
  refine Ct.drop ?_
  exact Ct.retA rfl Try.isAgg32 sz32 rfl rfl

theorem c_spec_l01Small {c_0 : Int} {r : Bool} (h : m_spec_l01Small c_0 = some r) : CallJ Try.prog 105 [(pEq (.int .u8 c_0))] (pEq (.bool r)) := by
  unfold m_spec_l01Small at h
  refine CallJ.enter Try.func105 rfl Try.ntmps105 rfl fun W I0 => ?_
  refine Tr.weak (Γ' := [(0, (pEq (.int .u8 c_0)))]) ⟨rfl, trivial⟩ ?_
  refine Tr.seq ?_
  refine Tr.region ?_
  refine RegL.pure (p := (pEq (.bool false))) rfl rfl rfl (J_assign rfl Opd.con) ?_
  refine RegL.nil ?_
  refine Ct.then_tr ?_
  refine Tr.weak (Γ' := [(0, (pEq (.int .u8 c_0)))]) ⟨rfl, trivial⟩ ?_
  refine Tr.seq ?_
  replace h := bind_some h; obtain ⟨x1, hx1, h⟩ := h
  refine Tr.cut (γ := Unit) (Γm := fun g => [(2, (pEq (.bool x1)))]) (Ωm := fun g => []) ?_ (fun g3 => ?_)
  · clear h
    have h := hx1
    clear hx1
    refine Tr.region ?_
    refine RegL.pure (p := (pEq (.int .u8 c_0))) rfl rfl rfl (J_move rfl (Opd.tmp rfl)) ?_
    refine RegL.pure (p := (pEq (.bool (decide ((97 : Int) ≤ c_0))))) rfl rfl rfl (J_bin rfl (Opd.tmp rfl) Opd.con B_geq) ?_
    refine RegL.pure (p := (pEq (.bool (decide ((97 : Int) ≤ c_0))))) rfl rfl rfl (J_move rfl (Opd.tmp rfl)) ?_
    rcases Bool.eq_false_or_eq_true (decide ((97 : Int) ≤ c_0)) with hc2 | hc2
    · replace h := bif_t hc2 h
      refine RegL.pureG (p := (pEq (.int .u8 c_0))) rfl rfl rfl hc2 rfl rfl (J_move rfl (Opd.tmp rfl)) ?_
      refine RegL.pureG (p := (pEq (.bool (decide (c_0 ≤ (122 : Int)))))) rfl rfl rfl hc2 rfl rfl (J_bin rfl (Opd.tmp rfl) Opd.con B_leq) ?_
      refine RegL.pure (p := (pEq (.bool (decide (c_0 ≤ (122 : Int)))))) rfl rfl rfl (J_pick rfl (Opd.tmp rfl) (fun _ => (Opd.tmp rfl)) (fun hf => absurd (hc2.symm.trans hf) (by decide))) ?_
      refine RegL.pure (p := (pEq (.bool (decide (c_0 ≤ (122 : Int)))))) rfl rfl rfl (J_assign rfl (Opd.tmp rfl)) ?_
      refine RegL.nil ?_
      replace h := Option.some.inj h; subst h
      exact Ct.mid () rfl ⟨rfl, trivial⟩
    · replace h := bif_f hc2 h
      refine RegL.skipG rfl rfl rfl hc2 rfl rfl ?_
      refine RegL.skipG rfl rfl rfl hc2 rfl rfl ?_
      refine RegL.pure (p := (pEq (.bool false))) rfl rfl rfl (J_pick rfl (Opd.tmp rfl) (fun hf => absurd (hc2.symm.trans hf) (by decide)) (fun _ => Opd.con)) ?_
      refine RegL.pure (p := (pEq (.bool false))) rfl rfl rfl (J_assign rfl (Opd.tmp rfl)) ?_
      refine RegL.nil ?_
      replace h := Option.some.inj h; subst h
      exact Ct.mid () rfl ⟨rfl, trivial⟩
  · clear hx1
    refine Ct.then_tr ?_
    refine Tr.weak (Γ' := [(2, (pEq (.bool x1)))]) ⟨rfl, trivial⟩ ?_
    refine Tr.ret ?_
    replace h := Option.some.inj h; subst h
    exact Ct.ret1 rfl rfl

theorem c_spec_l01Digit {c_0 : Int} {r : Bool} (h : m_spec_l01Digit c_0 = some r) : CallJ Try.prog 106 [(pEq (.int .u8 c_0))] (pEq (.bool r)) := by
  unfold m_spec_l01Digit at h
  refine CallJ.enter Try.func106 rfl Try.ntmps106 rfl fun W I0 => ?_
  refine Tr.weak (Γ' := [(0, (pEq (.int .u8 c_0)))]) ⟨rfl, trivial⟩ ?_
  refine Tr.seq ?_
  refine Tr.region ?_
  refine RegL.pure (p := (pEq (.bool false))) rfl rfl rfl (J_assign rfl Opd.con) ?_
  refine RegL.nil ?_
  refine Ct.then_tr ?_
  refine Tr.weak (Γ' := [(0, (pEq (.int .u8 c_0)))]) ⟨rfl, trivial⟩ ?_
  refine Tr.seq ?_
  replace h := bind_some h; obtain ⟨x1, hx1, h⟩ := h
  refine Tr.cut (γ := Unit) (Γm := fun g => [(2, (pEq (.bool x1)))]) (Ωm := fun g => []) ?_ (fun g3 => ?_)
  · clear h
    have h := hx1
    clear hx1
    refine Tr.region ?_
    refine RegL.pure (p := (pEq (.int .u8 c_0))) rfl rfl rfl (J_move rfl (Opd.tmp rfl)) ?_
    refine RegL.pure (p := (pEq (.bool (decide ((48 : Int) ≤ c_0))))) rfl rfl rfl (J_bin rfl (Opd.tmp rfl) Opd.con B_geq) ?_
    refine RegL.pure (p := (pEq (.bool (decide ((48 : Int) ≤ c_0))))) rfl rfl rfl (J_move rfl (Opd.tmp rfl)) ?_
    rcases Bool.eq_false_or_eq_true (decide ((48 : Int) ≤ c_0)) with hc2 | hc2
    · replace h := bif_t hc2 h
      refine RegL.pureG (p := (pEq (.int .u8 c_0))) rfl rfl rfl hc2 rfl rfl (J_move rfl (Opd.tmp rfl)) ?_
      refine RegL.pureG (p := (pEq (.bool (decide (c_0 ≤ (57 : Int)))))) rfl rfl rfl hc2 rfl rfl (J_bin rfl (Opd.tmp rfl) Opd.con B_leq) ?_
      refine RegL.pure (p := (pEq (.bool (decide (c_0 ≤ (57 : Int)))))) rfl rfl rfl (J_pick rfl (Opd.tmp rfl) (fun _ => (Opd.tmp rfl)) (fun hf => absurd (hc2.symm.trans hf) (by decide))) ?_
      refine RegL.pure (p := (pEq (.bool (decide (c_0 ≤ (57 : Int)))))) rfl rfl rfl (J_assign rfl (Opd.tmp rfl)) ?_
      refine RegL.nil ?_
      replace h := Option.some.inj h; subst h
      exact Ct.mid () rfl ⟨rfl, trivial⟩
    · replace h := bif_f hc2 h
      refine RegL.skipG rfl rfl rfl hc2 rfl rfl ?_
      refine RegL.skipG rfl rfl rfl hc2 rfl rfl ?_
      refine RegL.pure (p := (pEq (.bool false))) rfl rfl rfl (J_pick rfl (Opd.tmp rfl) (fun hf => absurd (hc2.symm.trans hf) (by decide)) (fun _ => Opd.con)) ?_
      refine RegL.pure (p := (pEq (.bool false))) rfl rfl rfl (J_assign rfl (Opd.tmp rfl)) ?_
      refine RegL.nil ?_
      replace h := Option.some.inj h; subst h
      exact Ct.mid () rfl ⟨rfl, trivial⟩
  · clear hx1
    refine Ct.then_tr ?_
    refine Tr.weak (Γ' := [(2, (pEq (.bool x1)))]) ⟨rfl, trivial⟩ ?_
    refine Tr.ret ?_
    replace h := Option.some.inj h; subst h
    exact Ct.ret1 rfl rfl

theorem c_spec_l01Name {s_0 : ByteArray} {r : Bool} (h : m_spec_l01Name s_0 = some r) : CallJ Try.prog 92 [(pEq (.string s_0))] (pEq (.bool r)) := by
  unfold m_spec_l01Name at h
  refine CallJ.enter Try.func92 rfl Try.ntmps92 rfl fun W I0 => ?_
  refine Tr.weak (Γ' := [(0, (pEq (.string s_0)))]) ⟨rfl, trivial⟩ ?_
  refine Tr.seq ?_
  refine Tr.region ?_
  refine RegL.pure (p := (pEq (.bool false))) rfl rfl rfl (J_assign rfl Opd.con) ?_
  refine RegL.nil ?_
  refine Ct.then_tr ?_
  refine Tr.weak (Γ' := [(0, (pEq (.string s_0)))]) ⟨rfl, trivial⟩ ?_
  refine Tr.seq ?_
  refine Tr.seq ?_
  replace h := bind_some h; obtain ⟨x1, hx1, h⟩ := h
  refine Tr.cut (γ := Unit) (Γm := fun g => [(0, (pEq (.string s_0))), (16, (pEq (.bool x1)))]) (Ωm := fun g => []) ?_ (fun g6 => ?_)
  · clear h
    have h := hx1
    clear hx1
    refine Tr.region ?_
    refine RegL.pure (p := (pEq (.string s_0))) rfl rfl rfl (J_move rfl (Opd.tmp rfl)) ?_
    refine RegL.pure (p := (pEq (.bool (s_0.toList == (ByteArray.mk #[]).toList)))) rfl rfl rfl (J_bin rfl (Opd.tmp rfl) Opd.con B_seql) ?_
    refine RegL.pure (p := (pEq (.bool (s_0.toList == (ByteArray.mk #[]).toList)))) rfl rfl rfl (J_move rfl (Opd.tmp rfl)) ?_
    rcases Bool.eq_false_or_eq_true (s_0.toList == (ByteArray.mk #[]).toList) with hc2 | hc2
    · replace h := bif_t hc2 h
      refine RegL.skipG rfl rfl rfl hc2 rfl rfl ?_
      refine RegL.skipG rfl rfl rfl hc2 rfl rfl ?_
      refine RegL.skipG rfl rfl rfl hc2 rfl rfl ?_
      refine RegL.pure (p := (pEq (.bool true))) rfl rfl rfl (J_pick rfl (Opd.tmp rfl) (fun _ => Opd.con) (fun hf => absurd (hc2.symm.trans hf) (by decide))) ?_
      refine RegL.pure (p := (pEq (.bool true))) rfl rfl rfl (J_move rfl (Opd.tmp rfl)) ?_
      refine RegL.skipG rfl rfl rfl rfl rfl rfl ?_
      refine RegL.skipG rfl rfl rfl rfl rfl rfl ?_
      refine RegL.skipG rfl rfl rfl rfl rfl rfl ?_
      refine RegL.skipG rfl rfl rfl rfl rfl rfl ?_
      refine RegL.pure (p := (pEq (.bool true))) rfl rfl rfl (J_pick rfl (Opd.tmp rfl) (fun _ => Opd.con) (fun hf => absurd hf (by decide))) ?_
      refine RegL.nil ?_
      replace h := Option.some.inj h; subst h
      exact Ct.mid () rfl ⟨rfl, rfl, trivial⟩
    · replace h := bif_f hc2 h
      refine RegL.pureG (p := (pEq (.string s_0))) rfl rfl rfl hc2 rfl rfl (J_move rfl (Opd.tmp rfl)) ?_
      refine RegL.pureG (p := (pEq (.int .i64 (s_0.size : Int)))) rfl rfl rfl hc2 rfl rfl (J_slen rfl Try.underlying9 (Opd.tmp rfl) rfl) ?_
      refine RegL.pureG (p := (pEq (.bool (decide ((10 : Int) < (s_0.size : Int)))))) rfl rfl rfl hc2 rfl rfl (J_bin rfl (Opd.tmp rfl) Opd.con B_gtr) ?_
      refine RegL.pure (p := (pEq (.bool (decide ((10 : Int) < (s_0.size : Int)))))) rfl rfl rfl (J_pick rfl (Opd.tmp rfl) (fun hf => absurd (hc2.symm.trans hf) (by decide)) (fun _ => (Opd.tmp rfl))) ?_
      refine RegL.pure (p := (pEq (.bool (decide ((10 : Int) < (s_0.size : Int)))))) rfl rfl rfl (J_move rfl (Opd.tmp rfl)) ?_
      rcases Bool.eq_false_or_eq_true (decide ((10 : Int) < (s_0.size : Int))) with hc3 | hc3
      · replace h := bif_t hc3 h
        refine RegL.skipG rfl rfl rfl hc3 rfl rfl ?_
        refine RegL.skipG rfl rfl rfl hc3 rfl rfl ?_
        refine RegL.skipG rfl rfl rfl hc3 rfl rfl ?_
        refine RegL.skipG rfl rfl rfl hc3 rfl rfl ?_
        refine RegL.pure (p := (pEq (.bool true))) rfl rfl rfl (J_pick rfl (Opd.tmp rfl) (fun _ => Opd.con) (fun hf => absurd (hc3.symm.trans hf) (by decide))) ?_
        refine RegL.nil ?_
        replace h := Option.some.inj h; subst h
        exact Ct.mid () rfl ⟨rfl, rfl, trivial⟩
      · replace h := bif_f hc3 h
        refine RegL.pureG (p := (pEq (.string s_0))) rfl rfl rfl hc3 rfl rfl (J_move rfl (Opd.tmp rfl)) ?_
        replace h := bind_some h; obtain ⟨y4, hy4, h⟩ := h
        refine RegL.pureG (p := (pEq (.int .u8 (y4.toNat : Int)))) rfl rfl rfl hc3 rfl rfl (J_sidx rfl Try.underlying9 (Opd.tmp rfl) Opd.con hy4) ?_
        replace h := bind_some h; obtain ⟨x5, hx5, h⟩ := h
        refine RegL.pureG (p := (pEq (.bool x5))) rfl rfl rfl hc3 rfl rfl (J_call rfl Try.call105 (c_spec_l01Small hx5) (Opds.cons (Opd.tmp rfl) Opds.nil)) ?_
        refine RegL.pureG (p := (pEq (.bool (!x5)))) rfl rfl rfl hc3 rfl rfl (J_not rfl (Opd.tmp rfl)) ?_
        refine RegL.pure (p := (pEq (.bool (!x5)))) rfl rfl rfl (J_pick rfl (Opd.tmp rfl) (fun hf => absurd (hc3.symm.trans hf) (by decide)) (fun _ => (Opd.tmp rfl))) ?_
        refine RegL.nil ?_
        replace h := Option.some.inj h; subst h
        exact Ct.mid () rfl ⟨rfl, rfl, trivial⟩
  · clear hx1
    refine Ct.then_tr ?_
    refine Tr.weak (Γ' := [(0, (pEq (.string s_0))), (16, (pEq (.bool x1)))]) ⟨rfl, rfl, trivial⟩ ?_
    refine Tr.cond (Opd.tmp rfl) (fun hc => ?_) (fun hc => ?_)
    · replace h := bif_t hc h
      refine Tr.seq ?_
      refine Tr.region ?_
      refine RegL.pure (p := (pEq (.bool false))) rfl rfl rfl (J_assign rfl Opd.con) ?_
      refine RegL.nil ?_
      refine Ct.then_tr ?_
      refine Tr.weak (Γ' := [(2, (pEq (.bool false)))]) ⟨rfl, trivial⟩ ?_
      refine Tr.ret ?_
      refine Ct.then_ret ?_
      replace h := Option.some.inj h; subst h
      exact Ct.ret1 rfl rfl
    · replace h := bif_f hc h
      refine Tr.skip ?_
      refine Ct.then_tr ?_
      refine Tr.weak (Γ' := [(0, (pEq (.string s_0)))]) ⟨rfl, trivial⟩ ?_
      refine Tr.seq ?_
      refine Tr.seq ?_
      refine Tr.region ?_
      refine RegL.pure (p := (pEq (.int .i64 (0 : Int)))) rfl rfl rfl (J_assign rfl Opd.con) ?_
      refine RegL.nil ?_
      refine Ct.then_tr ?_
      refine Tr.weak (Γ' := [(0, (pEq (.string s_0))), (3, (pEq (.int .i64 (0 : Int))))]) ⟨rfl, rfl, trivial⟩ ?_
      refine Tr.block ?_
      refine Tr.weak (Γ' := [(0, (pEq (.string s_0))), (3, (pEq (.int .i64 (0 : Int))))]) ⟨rfl, rfl, trivial⟩ ?_
      refine Tr.loop (γ := Unit) (σ := Int) (Γσ := fun s g => [(0, (pEq (.string s_0))), (3, (pEq (.int .i64 s)))]) (Ωσ := fun s g => []) (g := ()) h ?_
      clear h
      rintro v8 g9 t h
      replace h : m_spec_l01Name_B7 s_0 v8 = some t := h
      unfold m_spec_l01Name_B7 at h
      refine Tr.weakO (Γ' := [(0, (pEq (.string s_0))), (3, (pEq (.int .i64 v8)))]) (Ω' := []) rfl ⟨rfl, rfl, trivial⟩ ?_
      refine Tr.seq ?_
      refine Tr.seq ?_
      refine Tr.region ?_
      refine RegL.pure (p := (pEq (.int .i64 v8))) rfl rfl rfl (J_move rfl (Opd.tmp rfl)) ?_
      refine RegL.pure (p := (pEq (.string s_0))) rfl rfl rfl (J_move rfl (Opd.tmp rfl)) ?_
      refine RegL.pure (p := (pEq (.int .i64 (s_0.size : Int)))) rfl rfl rfl (J_slen rfl Try.underlying9 (Opd.tmp rfl) rfl) ?_
      refine RegL.pure (p := (pEq (.bool (decide (v8 < (s_0.size : Int)))))) rfl rfl rfl (J_bin rfl (Opd.tmp rfl) (Opd.tmp rfl) B_lss) ?_
      refine RegL.nil ?_
      refine Ct.then_tr ?_
      refine Tr.weak (Γ' := [(0, (pEq (.string s_0))), (3, (pEq (.int .i64 v8))), (20, (pEq (.bool (decide (v8 < (s_0.size : Int))))))]) ⟨rfl, rfl, rfl, trivial⟩ ?_
      refine Tr.cond (Opd.tmp rfl) (fun hc => ?_) (fun hc => ?_)
      · replace h := bif_t hc h
        refine Tr.skip ?_
        refine Ct.then_tr ?_
        refine Tr.weak (Γ' := [(0, (pEq (.string s_0))), (3, (pEq (.int .i64 v8)))]) ⟨rfl, rfl, trivial⟩ ?_
        refine Tr.seq ?_
        refine Tr.block ?_
        refine Tr.seq ?_
        replace h := bind_some h; obtain ⟨x10, hx10, h⟩ := h
        refine Tr.cut (γ := Unit) (Γm := fun g => [(0, (pEq (.string s_0))), (3, (pEq (.int .i64 v8))), (34, (pEq (.bool x10)))]) (Ωm := fun g => []) ?_ (fun g16 => ?_)
        · clear h
          have h := hx10
          clear hx10
          refine Tr.region ?_
          refine RegL.pure (p := (pEq (.string s_0))) rfl rfl rfl (J_move rfl (Opd.tmp rfl)) ?_
          refine RegL.pure (p := (pEq (.int .i64 v8))) rfl rfl rfl (J_move rfl (Opd.tmp rfl)) ?_
          replace h := bind_some h; obtain ⟨y11, hy11, h⟩ := h
          refine RegL.pure (p := (pEq (.int .u8 (y11.toNat : Int)))) rfl rfl rfl (J_sidx rfl Try.underlying9 (Opd.tmp rfl) (Opd.tmp rfl) hy11) ?_
          replace h := bind_some h; obtain ⟨x12, hx12, h⟩ := h
          refine RegL.pure (p := (pEq (.bool x12))) rfl rfl rfl (J_call rfl Try.call105 (c_spec_l01Small hx12) (Opds.cons (Opd.tmp rfl) Opds.nil)) ?_
          refine RegL.pure (p := (pEq (.bool (!x12)))) rfl rfl rfl (J_not rfl (Opd.tmp rfl)) ?_
          refine RegL.pure (p := (pEq (.bool (!x12)))) rfl rfl rfl (J_move rfl (Opd.tmp rfl)) ?_
          rcases Bool.eq_false_or_eq_true (!x12) with hc13 | hc13
          · replace h := bif_t hc13 h
            refine RegL.pureG (p := (pEq (.string s_0))) rfl rfl rfl hc13 rfl rfl (J_move rfl (Opd.tmp rfl)) ?_
            refine RegL.pureG (p := (pEq (.int .i64 v8))) rfl rfl rfl hc13 rfl rfl (J_move rfl (Opd.tmp rfl)) ?_
            replace h := bind_some h; obtain ⟨y14, hy14, h⟩ := h
            refine RegL.pureG (p := (pEq (.int .u8 (y14.toNat : Int)))) rfl rfl rfl hc13 rfl rfl (J_sidx rfl Try.underlying9 (Opd.tmp rfl) (Opd.tmp rfl) hy14) ?_
            replace h := bind_some h; obtain ⟨x15, hx15, h⟩ := h
            refine RegL.pureG (p := (pEq (.bool x15))) rfl rfl rfl hc13 rfl rfl (J_call rfl Try.call106 (c_spec_l01Digit hx15) (Opds.cons (Opd.tmp rfl) Opds.nil)) ?_
            refine RegL.pureG (p := (pEq (.bool (!x15)))) rfl rfl rfl hc13 rfl rfl (J_not rfl (Opd.tmp rfl)) ?_
            refine RegL.pure (p := (pEq (.bool (!x15)))) rfl rfl rfl (J_pick rfl (Opd.tmp rfl) (fun _ => (Opd.tmp rfl)) (fun hf => absurd (hc13.symm.trans hf) (by decide))) ?_
            refine RegL.nil ?_
            replace h := Option.some.inj h; subst h
            exact Ct.mid () rfl ⟨rfl, rfl, rfl, trivial⟩
          · replace h := bif_f hc13 h
            refine RegL.skipG rfl rfl rfl hc13 rfl rfl ?_
            refine RegL.skipG rfl rfl rfl hc13 rfl rfl ?_
            refine RegL.skipG rfl rfl rfl hc13 rfl rfl ?_
            refine RegL.skipG rfl rfl rfl hc13 rfl rfl ?_
            refine RegL.skipG rfl rfl rfl hc13 rfl rfl ?_
            refine RegL.pure (p := (pEq (.bool false))) rfl rfl rfl (J_pick rfl (Opd.tmp rfl) (fun hf => absurd (hc13.symm.trans hf) (by decide)) (fun _ => Opd.con)) ?_
            refine RegL.nil ?_
            replace h := Option.some.inj h; subst h
            exact Ct.mid () rfl ⟨rfl, rfl, rfl, trivial⟩
        · clear hx10
          refine Ct.then_tr ?_
          refine Tr.weak (Γ' := [(0, (pEq (.string s_0))), (3, (pEq (.int .i64 v8))), (34, (pEq (.bool x10)))]) ⟨rfl, rfl, rfl, trivial⟩ ?_
          refine Tr.cond (Opd.tmp rfl) (fun hc => ?_) (fun hc => ?_)
          · replace h := bif_t hc h
            refine Tr.seq ?_
            refine Tr.region ?_
            refine RegL.pure (p := (pEq (.bool false))) rfl rfl rfl (J_assign rfl Opd.con) ?_
            refine RegL.nil ?_
            refine Ct.then_tr ?_
            refine Tr.weak (Γ' := [(2, (pEq (.bool false)))]) ⟨rfl, trivial⟩ ?_
            refine Tr.ret ?_
            refine Ct.blk_ret ?_
            refine Ct.then_ret ?_
            replace h := map_some h; obtain ⟨r1, h, rfl⟩ := h
            refine Ct.out_ret fun e => ?_
            subst e
            refine Ct.blk_ret ?_
            refine Ct.then_ret ?_
            replace h := Option.some.inj h; subst h
            exact Ct.ret1 rfl rfl
          · replace h := bif_f hc h
            refine Tr.skip ?_
            refine Ct.blk_normal ?_
            refine Ct.then_tr ?_
            refine Tr.weak (Γ' := [(0, (pEq (.string s_0))), (3, (pEq (.int .i64 v8)))]) ⟨rfl, rfl, trivial⟩ ?_
            refine Tr.region ?_
            refine RegL.pure (p := (pEq (.int .i64 v8))) rfl rfl rfl (J_move rfl (Opd.tmp rfl)) ?_
            refine RegL.pure (p := (pEq (.int .i64 (w64 (v8 + (1 : Int)))))) rfl rfl rfl (J_bin rfl (Opd.tmp rfl) Opd.con B_add) ?_
            refine RegL.pure (p := (pEq (.int .i64 (w64 (v8 + (1 : Int)))))) rfl rfl rfl (J_assign rfl (Opd.tmp rfl)) ?_
            refine RegL.nil ?_
            replace h := Option.some.inj h; subst h
            exact Ct.again () rfl ⟨rfl, rfl, trivial⟩
      · replace h := bif_f hc h
        refine Tr.exit ?_
        refine Ct.then_exit ?_
        replace h := map_some h; obtain ⟨r1, h, rfl⟩ := h
        refine Ct.out_exit fun e => ?_
        subst e
        refine Ct.blk_exit ?_
        refine Ct.then_tr ?_
        refine Tr.weak (Γ' := []) trivial ?_
        refine Tr.seq ?_
        refine Tr.region ?_
        refine RegL.pure (p := (pEq (.bool true))) rfl rfl rfl (J_assign rfl Opd.con) ?_
        refine RegL.nil ?_
        refine Ct.then_tr ?_
        refine Tr.weak (Γ' := [(2, (pEq (.bool true)))]) ⟨rfl, trivial⟩ ?_
        refine Tr.ret ?_
        replace h := Option.some.inj h; subst h
        exact Ct.ret1 rfl rfl

theorem c_spec_l00In {n_0 : Int} {low_1 : Int} {high_2 : Int} {r : Bool} (h : m_spec_l00In n_0 low_1 high_2 = some r) : CallJ Try.prog 81 [(pEq (.int .i64 n_0)), (pEq (.int .i64 low_1)), (pEq (.int .i64 high_2))] (pEq (.bool r)) := by
  unfold m_spec_l00In at h
  refine CallJ.enter Try.func81 rfl Try.ntmps81 rfl fun W I0 => ?_
  refine Tr.weak (Γ' := [(0, (pEq (.int .i64 n_0))), (1, (pEq (.int .i64 low_1))), (2, (pEq (.int .i64 high_2)))]) ⟨rfl, rfl, rfl, trivial⟩ ?_
  refine Tr.seq ?_
  refine Tr.region ?_
  refine RegL.pure (p := (pEq (.bool false))) rfl rfl rfl (J_assign rfl Opd.con) ?_
  refine RegL.nil ?_
  refine Ct.then_tr ?_
  refine Tr.weak (Γ' := [(0, (pEq (.int .i64 n_0))), (1, (pEq (.int .i64 low_1))), (2, (pEq (.int .i64 high_2)))]) ⟨rfl, rfl, rfl, trivial⟩ ?_
  refine Tr.seq ?_
  replace h := bind_some h; obtain ⟨x1, hx1, h⟩ := h
  refine Tr.cut (γ := Unit) (Γm := fun g => [(6, (pEq (.bool x1)))]) (Ωm := fun g => []) ?_ (fun g3 => ?_)
  · clear h
    have h := hx1
    clear hx1
    refine Tr.region ?_
    refine RegL.pure (p := (pEq (.int .i64 n_0))) rfl rfl rfl (J_move rfl (Opd.tmp rfl)) ?_
    refine RegL.pure (p := (pEq (.int .i64 low_1))) rfl rfl rfl (J_move rfl (Opd.tmp rfl)) ?_
    refine RegL.pure (p := (pEq (.bool (decide (low_1 ≤ n_0))))) rfl rfl rfl (J_bin rfl (Opd.tmp rfl) (Opd.tmp rfl) B_geq) ?_
    refine RegL.pure (p := (pEq (.bool (decide (low_1 ≤ n_0))))) rfl rfl rfl (J_move rfl (Opd.tmp rfl)) ?_
    rcases Bool.eq_false_or_eq_true (decide (low_1 ≤ n_0)) with hc2 | hc2
    · replace h := bif_t hc2 h
      refine RegL.pureG (p := (pEq (.int .i64 n_0))) rfl rfl rfl hc2 rfl rfl (J_move rfl (Opd.tmp rfl)) ?_
      refine RegL.pureG (p := (pEq (.int .i64 high_2))) rfl rfl rfl hc2 rfl rfl (J_move rfl (Opd.tmp rfl)) ?_
      refine RegL.pureG (p := (pEq (.bool (decide (n_0 ≤ high_2))))) rfl rfl rfl hc2 rfl rfl (J_bin rfl (Opd.tmp rfl) (Opd.tmp rfl) B_leq) ?_
      refine RegL.pure (p := (pEq (.bool (decide (n_0 ≤ high_2))))) rfl rfl rfl (J_pick rfl (Opd.tmp rfl) (fun _ => (Opd.tmp rfl)) (fun hf => absurd (hc2.symm.trans hf) (by decide))) ?_
      refine RegL.pure (p := (pEq (.bool (decide (n_0 ≤ high_2))))) rfl rfl rfl (J_assign rfl (Opd.tmp rfl)) ?_
      refine RegL.nil ?_
      replace h := Option.some.inj h; subst h
      exact Ct.mid () rfl ⟨rfl, trivial⟩
    · replace h := bif_f hc2 h
      refine RegL.skipG rfl rfl rfl hc2 rfl rfl ?_
      refine RegL.skipG rfl rfl rfl hc2 rfl rfl ?_
      refine RegL.skipG rfl rfl rfl hc2 rfl rfl ?_
      refine RegL.pure (p := (pEq (.bool false))) rfl rfl rfl (J_pick rfl (Opd.tmp rfl) (fun hf => absurd (hc2.symm.trans hf) (by decide)) (fun _ => Opd.con)) ?_
      refine RegL.pure (p := (pEq (.bool false))) rfl rfl rfl (J_assign rfl (Opd.tmp rfl)) ?_
      refine RegL.nil ?_
      replace h := Option.some.inj h; subst h
      exact Ct.mid () rfl ⟨rfl, trivial⟩
  · clear hx1
    refine Ct.then_tr ?_
    refine Tr.weak (Γ' := [(6, (pEq (.bool x1)))]) ⟨rfl, trivial⟩ ?_
    refine Tr.ret ?_
    replace h := Option.some.inj h; subst h
    exact Ct.ret1 rfl rfl

theorem c_spec_l15Count {b_0 : GBand} {r : Int} (h : m_spec_l15Count b_0 = some r) : CallJ Try.prog 66 [(pPtr (cGBand b_0))] (pEq (.int .i64 r)) := by
  unfold m_spec_l15Count at h
  refine CallJ.enter Try.func66 rfl Try.ntmps66 rfl fun W I0 => ?_
  refine Tr.weak (Γ' := [(0, (pPtr (cGBand b_0)))]) ⟨rfl, trivial⟩ ?_
  refine Tr.seq ?_
  refine Tr.region ?_
  refine RegL.pure (p := (pEq (.int .i64 (0 : Int)))) rfl rfl rfl (J_assign rfl Opd.con) ?_
  refine RegL.nil ?_
  refine Ct.then_tr ?_
  refine Tr.weak (Γ' := [(0, (pPtr (cGBand b_0)))]) ⟨rfl, trivial⟩ ?_
  refine Tr.seq ?_
  replace h := bind_some h; obtain ⟨x1, hx1, h⟩ := h
  refine Tr.draw (n := 17) (es := [Ent.mk [(0, (pPtr (cGBand b_0)))] (pPtr (cGBand b_0)) true, Ent.mk [(3, (pPtr (cGBand b_0)))] (pPtr (cGBand b_0)) true, Ent.mk [(4, (pPtr (cGBand b_0)))] (pPtr ((cK .i64) b_0.High)) true, Ent.mk [(5, (pPtr ((cK .i64) b_0.High)))] (pEq (.int .i64 b_0.High)) true, Ent.mk [(0, (pPtr (cGBand b_0)))] (pPtr (cGBand b_0)) true, Ent.mk [(7, (pPtr (cGBand b_0)))] (pPtr (cGBand b_0)) true, Ent.mk [(8, (pPtr (cGBand b_0)))] (pPtr ((cK .i64) b_0.Low)) true, Ent.mk [(9, (pPtr ((cK .i64) b_0.Low)))] (pEq (.int .i64 b_0.Low)) true, Ent.mk [(6, (pEq (.int .i64 b_0.High))), (10, (pEq (.int .i64 b_0.Low)))] (pEq (.int .i64 (w64 (b_0.High - b_0.Low)))) true, Ent.mk [(0, (pPtr (cGBand b_0)))] (pPtr (cGBand b_0)) true, Ent.mk [(12, (pPtr (cGBand b_0)))] (pPtr (cGBand b_0)) true, Ent.mk [(13, (pPtr (cGBand b_0)))] (pPtr ((cK .i64) b_0.Raster)) true, Ent.mk [(14, (pPtr ((cK .i64) b_0.Raster)))] (pEq (.int .i64 b_0.Raster)) true, Ent.mk [(11, (pEq (.int .i64 (w64 (b_0.High - b_0.Low))))), (15, (pEq (.int .i64 b_0.Raster)))] (pEq (.int .i64 x1)) true, Ent.mk [(16, (pEq (.int .i64 x1)))] (pEq (.int .i64 x1)) true]) (rd := [[0], [3], [4], [5], [0], [7], [8], [9], [6, 10], [0], [12], [13], [14], [11, 15], [16]]) rfl hmix rfl (by kernel_rfl) ⟨⟨(OpJ.w (J_move rfl (Opd.tmp rfl))), ⟨rfl, trivial⟩, rfl⟩, ⟨(OpJ.w (J_nilCheck rfl (Opd.tmp rfl))), ⟨rfl, trivial⟩, rfl⟩, ⟨(OpJ.w (J_fieldAddr rfl Try.underlying32 rfl sz2 (by decide) (Opd.tmp rfl) rfl)), ⟨rfl, trivial⟩, rfl⟩, ⟨(OpJ.w (J_load rfl Try.isAgg2 (Opd.tmp rfl))), ⟨rfl, trivial⟩, rfl⟩, ⟨(OpJ.w (J_move rfl (Opd.tmp rfl))), ⟨rfl, trivial⟩, rfl⟩, ⟨(OpJ.w (J_nilCheck rfl (Opd.tmp rfl))), ⟨rfl, trivial⟩, rfl⟩, ⟨(OpJ.w (J_fieldAddr rfl Try.underlying32 rfl sz2 (by decide) (Opd.tmp rfl) rfl)), ⟨rfl, trivial⟩, rfl⟩, ⟨(OpJ.w (J_load rfl Try.isAgg2 (Opd.tmp rfl))), ⟨rfl, trivial⟩, rfl⟩, ⟨(OpJ.w (J_bin rfl (Opd.tmp rfl) (Opd.tmp rfl) B_sub)), ⟨rfl, rfl, trivial⟩, rfl⟩, ⟨(OpJ.w (J_move rfl (Opd.tmp rfl))), ⟨rfl, trivial⟩, rfl⟩, ⟨(OpJ.w (J_nilCheck rfl (Opd.tmp rfl))), ⟨rfl, trivial⟩, rfl⟩, ⟨(OpJ.w (J_fieldAddr rfl Try.underlying32 rfl sz2 (by decide) (Opd.tmp rfl) rfl)), ⟨rfl, trivial⟩, rfl⟩, ⟨(OpJ.w (J_load rfl Try.isAgg2 (Opd.tmp rfl))), ⟨rfl, trivial⟩, rfl⟩, ⟨(OpJ.w (J_bin rfl (Opd.tmp rfl) (Opd.tmp rfl) (B_qdiv hx1))), ⟨rfl, rfl, trivial⟩, rfl⟩, ⟨(OpJ.w (J_assign rfl (Opd.tmp rfl))), ⟨rfl, trivial⟩, rfl⟩, trivial⟩ ?_
  refine Ct.then_tr ?_
  refine Tr.weak (Γ' := [(2, (pEq (.int .i64 x1)))]) ⟨rfl, trivial⟩ ?_
  refine Tr.ret ?_
  replace h := Option.some.inj h; subst h
  exact Ct.ret1 rfl rfl

theorem c_spec_l15Ok {a_0 : GBand} {r : Bool} (h : m_spec_l15Ok a_0 = some r) : CallJ Try.prog 62 [(pPtr (cGBand a_0))] (pEq (.bool r)) := by
  unfold m_spec_l15Ok at h
  refine CallJ.enter Try.func62 rfl Try.ntmps62 rfl fun W I0 => ?_
  refine Tr.weak (Γ' := [(0, (pPtr (cGBand a_0)))]) ⟨rfl, trivial⟩ ?_
  refine Tr.seq ?_
  refine Tr.region ?_
  refine RegL.pure (p := (pEq (.bool false))) rfl rfl rfl (J_assign rfl Opd.con) ?_
  refine RegL.nil ?_
  refine Ct.then_tr ?_
  refine Tr.weak (Γ' := [(0, (pPtr (cGBand a_0)))]) ⟨rfl, trivial⟩ ?_
  refine Tr.seq ?_
  refine Tr.seq ?_
  replace h := bind_some h; obtain ⟨x1, hx1, h⟩ := h
  refine Tr.cut (γ := Unit) (Γm := fun g => [(0, (pPtr (cGBand a_0))), (40, (pEq (.bool x1)))]) (Ωm := fun g => []) ?_ (fun g11 => ?_)
  · clear h
    have h := hx1
    clear hx1
    refine Tr.region ?_
    refine RegL.pure (p := (pPtr (cGBand a_0))) rfl rfl rfl (J_move rfl (Opd.tmp rfl)) ?_
    refine RegL.pure (p := (pPtr (cGBand a_0))) rfl rfl rfl (J_nilCheck rfl (Opd.tmp rfl)) ?_
    refine RegL.pure (p := (pPtr (cS a_0.Name))) rfl rfl rfl (J_fieldAddr rfl Try.underlying32 rfl sz9 (by decide) (Opd.tmp rfl) rfl) ?_
    refine RegL.pure (p := (pEq (.string a_0.Name))) rfl rfl rfl (J_load rfl Try.isAgg9 (Opd.tmp rfl)) ?_
    replace h := bind_some h; obtain ⟨x2, hx2, h⟩ := h
    refine RegL.pure (p := (pEq (.bool x2))) rfl rfl rfl (J_call rfl Try.call92 (c_spec_l01Name hx2) (Opds.cons (Opd.tmp rfl) Opds.nil)) ?_
    refine RegL.pure (p := (pEq (.bool (!x2)))) rfl rfl rfl (J_not rfl (Opd.tmp rfl)) ?_
    refine RegL.pure (p := (pEq (.bool (!x2)))) rfl rfl rfl (J_move rfl (Opd.tmp rfl)) ?_
    rcases Bool.eq_false_or_eq_true (!x2) with hc3 | hc3
    · replace h := bif_t hc3 h
      refine RegL.skipG rfl rfl rfl hc3 rfl rfl ?_
      refine RegL.skipG rfl rfl rfl hc3 rfl rfl ?_
      refine RegL.skipG rfl rfl rfl hc3 rfl rfl ?_
      refine RegL.skipG rfl rfl rfl hc3 rfl rfl ?_
      refine RegL.skipG rfl rfl rfl hc3 rfl rfl ?_
      refine RegL.skipG rfl rfl rfl hc3 rfl rfl ?_
      refine RegL.pure (p := (pEq (.bool true))) rfl rfl rfl (J_pick rfl (Opd.tmp rfl) (fun _ => Opd.con) (fun hf => absurd (hc3.symm.trans hf) (by decide))) ?_
      refine RegL.pure (p := (pEq (.bool true))) rfl rfl rfl (J_move rfl (Opd.tmp rfl)) ?_
      refine RegL.skipG rfl rfl rfl rfl rfl rfl ?_
      refine RegL.skipG rfl rfl rfl rfl rfl rfl ?_
      refine RegL.skipG rfl rfl rfl rfl rfl rfl ?_
      refine RegL.skipG rfl rfl rfl rfl rfl rfl ?_
      refine RegL.skipG rfl rfl rfl rfl rfl rfl ?_
      refine RegL.skipG rfl rfl rfl rfl rfl rfl ?_
      refine RegL.pure (p := (pEq (.bool true))) rfl rfl rfl (J_pick rfl (Opd.tmp rfl) (fun _ => Opd.con) (fun hf => absurd hf (by decide))) ?_
      refine RegL.pure (p := (pEq (.bool true))) rfl rfl rfl (J_move rfl (Opd.tmp rfl)) ?_
      refine RegL.skipG rfl rfl rfl rfl rfl rfl ?_
      refine RegL.skipG rfl rfl rfl rfl rfl rfl ?_
      refine RegL.skipG rfl rfl rfl rfl rfl rfl ?_
      refine RegL.skipG rfl rfl rfl rfl rfl rfl ?_
      refine RegL.skipG rfl rfl rfl rfl rfl rfl ?_
      refine RegL.skipG rfl rfl rfl rfl rfl rfl ?_
      refine RegL.pure (p := (pEq (.bool true))) rfl rfl rfl (J_pick rfl (Opd.tmp rfl) (fun _ => Opd.con) (fun hf => absurd hf (by decide))) ?_
      refine RegL.pure (p := (pEq (.bool true))) rfl rfl rfl (J_move rfl (Opd.tmp rfl)) ?_
      refine RegL.skipG rfl rfl rfl rfl rfl rfl ?_
      refine RegL.skipG rfl rfl rfl rfl rfl rfl ?_
      refine RegL.skipG rfl rfl rfl rfl rfl rfl ?_
      refine RegL.skipG rfl rfl rfl rfl rfl rfl ?_
      refine RegL.skipG rfl rfl rfl rfl rfl rfl ?_
      refine RegL.skipG rfl rfl rfl rfl rfl rfl ?_
      refine RegL.pure (p := (pEq (.bool true))) rfl rfl rfl (J_pick rfl (Opd.tmp rfl) (fun _ => Opd.con) (fun hf => absurd hf (by decide))) ?_
      refine RegL.nil ?_
      replace h := Option.some.inj h; subst h
      exact Ct.mid () rfl ⟨rfl, rfl, trivial⟩
    · replace h := bif_f hc3 h
      refine RegL.pureG (p := (pPtr (cGBand a_0))) rfl rfl rfl hc3 rfl rfl (J_move rfl (Opd.tmp rfl)) ?_
      refine RegL.pureG (p := (pPtr (cGBand a_0))) rfl rfl rfl hc3 rfl rfl (J_nilCheck rfl (Opd.tmp rfl)) ?_
      refine RegL.pureG (p := (pPtr ((cK .i64) a_0.Low))) rfl rfl rfl hc3 rfl rfl (J_fieldAddr rfl Try.underlying32 rfl sz2 (by decide) (Opd.tmp rfl) rfl) ?_
      refine RegL.pureG (p := (pEq (.int .i64 a_0.Low))) rfl rfl rfl hc3 rfl rfl (J_load rfl Try.isAgg2 (Opd.tmp rfl)) ?_
      replace h := bind_some h; obtain ⟨x4, hx4, h⟩ := h
      refine RegL.pureG (p := (pEq (.bool x4))) rfl rfl rfl hc3 rfl rfl (J_call rfl Try.call81 (c_spec_l00In hx4) (Opds.cons (Opd.tmp rfl) (Opds.cons Opd.con (Opds.cons Opd.con Opds.nil)))) ?_
      refine RegL.pureG (p := (pEq (.bool (!x4)))) rfl rfl rfl hc3 rfl rfl (J_not rfl (Opd.tmp rfl)) ?_
      refine RegL.pure (p := (pEq (.bool (!x4)))) rfl rfl rfl (J_pick rfl (Opd.tmp rfl) (fun hf => absurd (hc3.symm.trans hf) (by decide)) (fun _ => (Opd.tmp rfl))) ?_
      refine RegL.pure (p := (pEq (.bool (!x4)))) rfl rfl rfl (J_move rfl (Opd.tmp rfl)) ?_
      rcases Bool.eq_false_or_eq_true (!x4) with hc5 | hc5
      · replace h := bif_t hc5 h
        refine RegL.skipG rfl rfl rfl hc5 rfl rfl ?_
        refine RegL.skipG rfl rfl rfl hc5 rfl rfl ?_
        refine RegL.skipG rfl rfl rfl hc5 rfl rfl ?_
        refine RegL.skipG rfl rfl rfl hc5 rfl rfl ?_
        refine RegL.skipG rfl rfl rfl hc5 rfl rfl ?_
        refine RegL.skipG rfl rfl rfl hc5 rfl rfl ?_
        refine RegL.pure (p := (pEq (.bool true))) rfl rfl rfl (J_pick rfl (Opd.tmp rfl) (fun _ => Opd.con) (fun hf => absurd (hc5.symm.trans hf) (by decide))) ?_
        refine RegL.pure (p := (pEq (.bool true))) rfl rfl rfl (J_move rfl (Opd.tmp rfl)) ?_
        refine RegL.skipG rfl rfl rfl rfl rfl rfl ?_
        refine RegL.skipG rfl rfl rfl rfl rfl rfl ?_
        refine RegL.skipG rfl rfl rfl rfl rfl rfl ?_
        refine RegL.skipG rfl rfl rfl rfl rfl rfl ?_
        refine RegL.skipG rfl rfl rfl rfl rfl rfl ?_
        refine RegL.skipG rfl rfl rfl rfl rfl rfl ?_
        refine RegL.pure (p := (pEq (.bool true))) rfl rfl rfl (J_pick rfl (Opd.tmp rfl) (fun _ => Opd.con) (fun hf => absurd hf (by decide))) ?_
        refine RegL.pure (p := (pEq (.bool true))) rfl rfl rfl (J_move rfl (Opd.tmp rfl)) ?_
        refine RegL.skipG rfl rfl rfl rfl rfl rfl ?_
        refine RegL.skipG rfl rfl rfl rfl rfl rfl ?_
        refine RegL.skipG rfl rfl rfl rfl rfl rfl ?_
        refine RegL.skipG rfl rfl rfl rfl rfl rfl ?_
        refine RegL.skipG rfl rfl rfl rfl rfl rfl ?_
        refine RegL.skipG rfl rfl rfl rfl rfl rfl ?_
        refine RegL.pure (p := (pEq (.bool true))) rfl rfl rfl (J_pick rfl (Opd.tmp rfl) (fun _ => Opd.con) (fun hf => absurd hf (by decide))) ?_
        refine RegL.nil ?_
        replace h := Option.some.inj h; subst h
        exact Ct.mid () rfl ⟨rfl, rfl, trivial⟩
      · replace h := bif_f hc5 h
        refine RegL.pureG (p := (pPtr (cGBand a_0))) rfl rfl rfl hc5 rfl rfl (J_move rfl (Opd.tmp rfl)) ?_
        refine RegL.pureG (p := (pPtr (cGBand a_0))) rfl rfl rfl hc5 rfl rfl (J_nilCheck rfl (Opd.tmp rfl)) ?_
        refine RegL.pureG (p := (pPtr ((cK .i64) a_0.High))) rfl rfl rfl hc5 rfl rfl (J_fieldAddr rfl Try.underlying32 rfl sz2 (by decide) (Opd.tmp rfl) rfl) ?_
        refine RegL.pureG (p := (pEq (.int .i64 a_0.High))) rfl rfl rfl hc5 rfl rfl (J_load rfl Try.isAgg2 (Opd.tmp rfl)) ?_
        replace h := bind_some h; obtain ⟨x6, hx6, h⟩ := h
        refine RegL.pureG (p := (pEq (.bool x6))) rfl rfl rfl hc5 rfl rfl (J_call rfl Try.call81 (c_spec_l00In hx6) (Opds.cons (Opd.tmp rfl) (Opds.cons Opd.con (Opds.cons Opd.con Opds.nil)))) ?_
        refine RegL.pureG (p := (pEq (.bool (!x6)))) rfl rfl rfl hc5 rfl rfl (J_not rfl (Opd.tmp rfl)) ?_
        refine RegL.pure (p := (pEq (.bool (!x6)))) rfl rfl rfl (J_pick rfl (Opd.tmp rfl) (fun hf => absurd (hc5.symm.trans hf) (by decide)) (fun _ => (Opd.tmp rfl))) ?_
        refine RegL.pure (p := (pEq (.bool (!x6)))) rfl rfl rfl (J_move rfl (Opd.tmp rfl)) ?_
        rcases Bool.eq_false_or_eq_true (!x6) with hc7 | hc7
        · replace h := bif_t hc7 h
          refine RegL.skipG rfl rfl rfl hc7 rfl rfl ?_
          refine RegL.skipG rfl rfl rfl hc7 rfl rfl ?_
          refine RegL.skipG rfl rfl rfl hc7 rfl rfl ?_
          refine RegL.skipG rfl rfl rfl hc7 rfl rfl ?_
          refine RegL.skipG rfl rfl rfl hc7 rfl rfl ?_
          refine RegL.skipG rfl rfl rfl hc7 rfl rfl ?_
          refine RegL.pure (p := (pEq (.bool true))) rfl rfl rfl (J_pick rfl (Opd.tmp rfl) (fun _ => Opd.con) (fun hf => absurd (hc7.symm.trans hf) (by decide))) ?_
          refine RegL.pure (p := (pEq (.bool true))) rfl rfl rfl (J_move rfl (Opd.tmp rfl)) ?_
          refine RegL.skipG rfl rfl rfl rfl rfl rfl ?_
          refine RegL.skipG rfl rfl rfl rfl rfl rfl ?_
          refine RegL.skipG rfl rfl rfl rfl rfl rfl ?_
          refine RegL.skipG rfl rfl rfl rfl rfl rfl ?_
          refine RegL.skipG rfl rfl rfl rfl rfl rfl ?_
          refine RegL.skipG rfl rfl rfl rfl rfl rfl ?_
          refine RegL.pure (p := (pEq (.bool true))) rfl rfl rfl (J_pick rfl (Opd.tmp rfl) (fun _ => Opd.con) (fun hf => absurd hf (by decide))) ?_
          refine RegL.nil ?_
          replace h := Option.some.inj h; subst h
          exact Ct.mid () rfl ⟨rfl, rfl, trivial⟩
        · replace h := bif_f hc7 h
          refine RegL.pureG (p := (pPtr (cGBand a_0))) rfl rfl rfl hc7 rfl rfl (J_move rfl (Opd.tmp rfl)) ?_
          refine RegL.pureG (p := (pPtr (cGBand a_0))) rfl rfl rfl hc7 rfl rfl (J_nilCheck rfl (Opd.tmp rfl)) ?_
          refine RegL.pureG (p := (pPtr ((cK .i64) a_0.Raster))) rfl rfl rfl hc7 rfl rfl (J_fieldAddr rfl Try.underlying32 rfl sz2 (by decide) (Opd.tmp rfl) rfl) ?_
          refine RegL.pureG (p := (pEq (.int .i64 a_0.Raster))) rfl rfl rfl hc7 rfl rfl (J_load rfl Try.isAgg2 (Opd.tmp rfl)) ?_
          replace h := bind_some h; obtain ⟨x8, hx8, h⟩ := h
          refine RegL.pureG (p := (pEq (.bool x8))) rfl rfl rfl hc7 rfl rfl (J_call rfl Try.call81 (c_spec_l00In hx8) (Opds.cons (Opd.tmp rfl) (Opds.cons Opd.con (Opds.cons Opd.con Opds.nil)))) ?_
          refine RegL.pureG (p := (pEq (.bool (!x8)))) rfl rfl rfl hc7 rfl rfl (J_not rfl (Opd.tmp rfl)) ?_
          refine RegL.pure (p := (pEq (.bool (!x8)))) rfl rfl rfl (J_pick rfl (Opd.tmp rfl) (fun hf => absurd (hc7.symm.trans hf) (by decide)) (fun _ => (Opd.tmp rfl))) ?_
          refine RegL.pure (p := (pEq (.bool (!x8)))) rfl rfl rfl (J_move rfl (Opd.tmp rfl)) ?_
          rcases Bool.eq_false_or_eq_true (!x8) with hc9 | hc9
          · replace h := bif_t hc9 h
            refine RegL.skipG rfl rfl rfl hc9 rfl rfl ?_
            refine RegL.skipG rfl rfl rfl hc9 rfl rfl ?_
            refine RegL.skipG rfl rfl rfl hc9 rfl rfl ?_
            refine RegL.skipG rfl rfl rfl hc9 rfl rfl ?_
            refine RegL.skipG rfl rfl rfl hc9 rfl rfl ?_
            refine RegL.skipG rfl rfl rfl hc9 rfl rfl ?_
            refine RegL.pure (p := (pEq (.bool true))) rfl rfl rfl (J_pick rfl (Opd.tmp rfl) (fun _ => Opd.con) (fun hf => absurd (hc9.symm.trans hf) (by decide))) ?_
            refine RegL.nil ?_
            replace h := Option.some.inj h; subst h
            exact Ct.mid () rfl ⟨rfl, rfl, trivial⟩
          · replace h := bif_f hc9 h
            refine RegL.pureG (p := (pPtr (cGBand a_0))) rfl rfl rfl hc9 rfl rfl (J_move rfl (Opd.tmp rfl)) ?_
            refine RegL.pureG (p := (pPtr (cGBand a_0))) rfl rfl rfl hc9 rfl rfl (J_nilCheck rfl (Opd.tmp rfl)) ?_
            refine RegL.pureG (p := (pPtr ((cK .i64) a_0.Duplex))) rfl rfl rfl hc9 rfl rfl (J_fieldAddr rfl Try.underlying32 rfl sz2 (by decide) (Opd.tmp rfl) rfl) ?_
            refine RegL.pureG (p := (pEq (.int .i64 a_0.Duplex))) rfl rfl rfl hc9 rfl rfl (J_load rfl Try.isAgg2 (Opd.tmp rfl)) ?_
            replace h := bind_some h; obtain ⟨x10, hx10, h⟩ := h
            refine RegL.pureG (p := (pEq (.bool x10))) rfl rfl rfl hc9 rfl rfl (J_call rfl Try.call81 (c_spec_l00In hx10) (Opds.cons (Opd.tmp rfl) (Opds.cons Opd.con (Opds.cons Opd.con Opds.nil)))) ?_
            refine RegL.pureG (p := (pEq (.bool (!x10)))) rfl rfl rfl hc9 rfl rfl (J_not rfl (Opd.tmp rfl)) ?_
            refine RegL.pure (p := (pEq (.bool (!x10)))) rfl rfl rfl (J_pick rfl (Opd.tmp rfl) (fun hf => absurd (hc9.symm.trans hf) (by decide)) (fun _ => (Opd.tmp rfl))) ?_
            refine RegL.nil ?_
            replace h := Option.some.inj h; subst h
            exact Ct.mid () rfl ⟨rfl, rfl, trivial⟩
  · clear hx1
    refine Ct.then_tr ?_
    refine Tr.weak (Γ' := [(0, (pPtr (cGBand a_0))), (40, (pEq (.bool x1)))]) ⟨rfl, rfl, trivial⟩ ?_
    refine Tr.cond (Opd.tmp rfl) (fun hc => ?_) (fun hc => ?_)
    · replace h := bif_t hc h
      refine Tr.seq ?_
      refine Tr.region ?_
      refine RegL.pure (p := (pEq (.bool false))) rfl rfl rfl (J_assign rfl Opd.con) ?_
      refine RegL.nil ?_
      refine Ct.then_tr ?_
      refine Tr.weak (Γ' := [(2, (pEq (.bool false)))]) ⟨rfl, trivial⟩ ?_
      refine Tr.ret ?_
      refine Ct.then_ret ?_
      replace h := Option.some.inj h; subst h
      exact Ct.ret1 rfl rfl
    · replace h := bif_f hc h
      refine Tr.skip ?_
      refine Ct.then_tr ?_
      refine Tr.weak (Γ' := [(0, (pPtr (cGBand a_0)))]) ⟨rfl, trivial⟩ ?_
      refine Tr.seq ?_
      refine Tr.seq ?_
      refine Tr.region ?_
      refine RegL.pure (p := (pPtr (cGBand a_0))) rfl rfl rfl (J_move rfl (Opd.tmp rfl)) ?_
      replace h := bind_some h; obtain ⟨x12, hx12, h⟩ := h
      refine RegL.pure (p := (pEq (.int .i64 x12))) rfl rfl rfl (J_call rfl Try.call66 (c_spec_l15Count hx12) (Opds.cons (Opd.tmp rfl) Opds.nil)) ?_
      replace h := bind_some h; obtain ⟨x13, hx13, h⟩ := h
      refine RegL.pure (p := (pEq (.bool x13))) rfl rfl rfl (J_call rfl Try.call81 (c_spec_l00In hx13) (Opds.cons (Opd.tmp rfl) (Opds.cons Opd.con (Opds.cons Opd.con Opds.nil)))) ?_
      refine RegL.pure (p := (pEq (.bool (!x13)))) rfl rfl rfl (J_not rfl (Opd.tmp rfl)) ?_
      refine RegL.nil ?_
      refine Ct.then_tr ?_
      refine Tr.weak (Γ' := [(0, (pPtr (cGBand a_0))), (44, (pEq (.bool (!x13))))]) ⟨rfl, rfl, trivial⟩ ?_
      refine Tr.cond (Opd.tmp rfl) (fun hc => ?_) (fun hc => ?_)
      · replace h := bif_t hc h
        refine Tr.seq ?_
        refine Tr.region ?_
        refine RegL.pure (p := (pEq (.bool false))) rfl rfl rfl (J_assign rfl Opd.con) ?_
        refine RegL.nil ?_
        refine Ct.then_tr ?_
        refine Tr.weak (Γ' := [(2, (pEq (.bool false)))]) ⟨rfl, trivial⟩ ?_
        refine Tr.ret ?_
        refine Ct.then_ret ?_
        replace h := Option.some.inj h; subst h
        exact Ct.ret1 rfl rfl
      · replace h := bif_f hc h
        refine Tr.skip ?_
        refine Ct.then_tr ?_
        refine Tr.weak (Γ' := [(0, (pPtr (cGBand a_0)))]) ⟨rfl, trivial⟩ ?_
        refine Tr.seq ?_
        replace h := bind_some h; obtain ⟨x14, hx14, h⟩ := h
        refine Tr.cut (γ := Unit) (Γm := fun g => [(2, (pEq (.bool x14)))]) (Ωm := fun g => []) ?_ (fun g17 => ?_)
        · clear h
          have h := hx14
          clear hx14
          rcases Bool.eq_false_or_eq_true (a_0.Duplex == (0 : Int)) with hc15 | hc15
          · replace h := bif_t hc15 h
            refine Tr.draw (n := 78) (es := [Ent.mk [(0, (pPtr (cGBand a_0)))] (pPtr (cGBand a_0)) true, Ent.mk [(45, (pPtr (cGBand a_0)))] (pPtr (cGBand a_0)) true, Ent.mk [(46, (pPtr (cGBand a_0)))] (pPtr ((cK .i64) a_0.Duplex)) true, Ent.mk [(47, (pPtr ((cK .i64) a_0.Duplex)))] (pEq (.int .i64 a_0.Duplex)) true, Ent.mk [(48, (pEq (.int .i64 a_0.Duplex)))] (pEq (.bool (a_0.Duplex == (0 : Int)))) true, Ent.mk [(49, (pEq (.bool (a_0.Duplex == (0 : Int)))))] (pEq (.bool (a_0.Duplex == (0 : Int)))) true, Ent.mk [] (pEq undef) false, Ent.mk [] (pEq undef) false, Ent.mk [] (pEq undef) false, Ent.mk [] (pEq undef) false, Ent.mk [] (pEq undef) false, Ent.mk [] (pEq undef) false, Ent.mk [] (pEq undef) false, Ent.mk [] (pEq undef) false, Ent.mk [] (pEq undef) false, Ent.mk [] (pEq undef) false, Ent.mk [] (pEq undef) false, Ent.mk [] (pEq undef) false, Ent.mk [] (pEq undef) false, Ent.mk [] (pEq undef) false, Ent.mk [] (pEq undef) false, Ent.mk [] (pEq undef) false, Ent.mk [] (pEq undef) false, Ent.mk [] (pEq undef) false, Ent.mk [] (pEq undef) false, Ent.mk [] (pEq undef) false, Ent.mk [] (pEq undef) false, Ent.mk [] (pEq undef) false, Ent.mk [] (pEq undef) false, Ent.mk [] (pEq undef) false, Ent.mk [] (pEq undef) false, Ent.mk [] (pEq undef) false, Ent.mk [(50, (pEq (.bool (a_0.Duplex == (0 : Int))))), (76, (pEq undef))] (pEq (.bool true)) true, Ent.mk [(77, (pEq (.bool true)))] (pEq (.bool true)) true]) (rd := [[0], [45], [46], [47], [48], [49], [], [], [], [], [], [], [], [], [], [], [], [], [], [], [], [], [], [], [], [], [], [], [], [], [], [], [50, 76], [77]]) rfl hmix rfl (by kernel_rfl) ⟨⟨(OpJ.w (J_move rfl (Opd.tmp rfl))), ⟨rfl, trivial⟩, rfl⟩, ⟨(OpJ.w (J_nilCheck rfl (Opd.tmp rfl))), ⟨rfl, trivial⟩, rfl⟩, ⟨(OpJ.w (J_fieldAddr rfl Try.underlying32 rfl sz2 (by decide) (Opd.tmp rfl) rfl)), ⟨rfl, trivial⟩, rfl⟩, ⟨(OpJ.w (J_load rfl Try.isAgg2 (Opd.tmp rfl))), ⟨rfl, trivial⟩, rfl⟩, ⟨(OpJ.w (J_bin rfl (Opd.tmp rfl) Opd.con B_eql)), ⟨rfl, trivial⟩, rfl⟩, ⟨(OpJ.w (J_move rfl (Opd.tmp rfl))), ⟨rfl, trivial⟩, rfl⟩, ⟨rfl, trivial, (.inl ⟨_, rfl, by simp [hc15]⟩)⟩, ⟨rfl, trivial, (.inl ⟨_, rfl, by simp [hc15]⟩)⟩, ⟨rfl, trivial, (.inl ⟨_, rfl, by simp [hc15]⟩)⟩, ⟨rfl, trivial, (.inl ⟨_, rfl, by simp [hc15]⟩)⟩, ⟨rfl, trivial, (.inl ⟨_, rfl, by simp [hc15]⟩)⟩, ⟨rfl, trivial, (.inl ⟨_, rfl, by simp [hc15]⟩)⟩, ⟨rfl, trivial, (.inl ⟨_, rfl, by simp [hc15]⟩)⟩, ⟨rfl, trivial, (.inl ⟨_, rfl, by simp [hc15]⟩)⟩, ⟨rfl, trivial, (.inl ⟨_, rfl, by simp [hc15]⟩)⟩, ⟨rfl, trivial, (.inl ⟨_, rfl, by simp [hc15]⟩)⟩, ⟨rfl, trivial, (.inl ⟨_, rfl, by simp [hc15]⟩)⟩, ⟨rfl, trivial, (.inl ⟨_, rfl, by simp [hc15]⟩)⟩, ⟨rfl, trivial, (.inl ⟨_, rfl, by simp [hc15]⟩)⟩, ⟨rfl, trivial, (.inl ⟨_, rfl, by simp [hc15]⟩)⟩, ⟨rfl, trivial, (.inl ⟨_, rfl, by simp [hc15]⟩)⟩, ⟨rfl, trivial, (.inr ⟨rfl, rfl⟩)⟩, ⟨rfl, trivial, (.inr ⟨rfl, rfl⟩)⟩, ⟨rfl, trivial, (.inr ⟨rfl, rfl⟩)⟩, ⟨rfl, trivial, (.inr ⟨rfl, rfl⟩)⟩, ⟨rfl, trivial, (.inr ⟨rfl, rfl⟩)⟩, ⟨rfl, trivial, (.inr ⟨rfl, rfl⟩)⟩, ⟨rfl, trivial, (.inr ⟨rfl, rfl⟩)⟩, ⟨rfl, trivial, (.inr ⟨rfl, rfl⟩)⟩, ⟨rfl, trivial, (.inr ⟨rfl, rfl⟩)⟩, ⟨rfl, trivial, (.inr ⟨rfl, rfl⟩)⟩, ⟨rfl, trivial, (.inl ⟨_, rfl, by simp [hc15]⟩)⟩, ⟨(OpJ.w (J_pick rfl (Opd.tmp rfl) (fun _ => Opd.con) (fun hf => absurd (hc15.symm.trans hf) (by decide)))), ⟨rfl, rfl, trivial⟩, rfl⟩, ⟨(OpJ.w (J_assign rfl (Opd.tmp rfl))), ⟨rfl, trivial⟩, rfl⟩, trivial⟩ ?_
            replace h := Option.some.inj h; subst h
            exact Ct.mid () rfl ⟨rfl, trivial⟩
          · replace h := bif_f hc15 h
            rcases Bool.eq_false_or_eq_true (decide ((w64 (a_0.High - a_0.Low)) ≤ a_0.Duplex)) with hc16 | hc16
            · replace h := bif_t hc16 h
              refine Tr.draw (n := 78) (es := [Ent.mk [(0, (pPtr (cGBand a_0)))] (pPtr (cGBand a_0)) true, Ent.mk [(45, (pPtr (cGBand a_0)))] (pPtr (cGBand a_0)) true, Ent.mk [(46, (pPtr (cGBand a_0)))] (pPtr ((cK .i64) a_0.Duplex)) true, Ent.mk [(47, (pPtr ((cK .i64) a_0.Duplex)))] (pEq (.int .i64 a_0.Duplex)) true, Ent.mk [(48, (pEq (.int .i64 a_0.Duplex)))] (pEq (.bool (a_0.Duplex == (0 : Int)))) true, Ent.mk [(49, (pEq (.bool (a_0.Duplex == (0 : Int)))))] (pEq (.bool (a_0.Duplex == (0 : Int)))) true, Ent.mk [(0, (pPtr (cGBand a_0)))] (pPtr (cGBand a_0)) true, Ent.mk [(51, (pPtr (cGBand a_0)))] (pPtr (cGBand a_0)) true, Ent.mk [(52, (pPtr (cGBand a_0)))] (pPtr ((cK .i64) a_0.Duplex)) true, Ent.mk [(53, (pPtr ((cK .i64) a_0.Duplex)))] (pEq (.int .i64 a_0.Duplex)) true, Ent.mk [(0, (pPtr (cGBand a_0)))] (pPtr (cGBand a_0)) true, Ent.mk [(55, (pPtr (cGBand a_0)))] (pPtr (cGBand a_0)) true, Ent.mk [(56, (pPtr (cGBand a_0)))] (pPtr ((cK .i64) a_0.High)) true, Ent.mk [(57, (pPtr ((cK .i64) a_0.High)))] (pEq (.int .i64 a_0.High)) true, Ent.mk [(0, (pPtr (cGBand a_0)))] (pPtr (cGBand a_0)) true, Ent.mk [(59, (pPtr (cGBand a_0)))] (pPtr (cGBand a_0)) true, Ent.mk [(60, (pPtr (cGBand a_0)))] (pPtr ((cK .i64) a_0.Low)) true, Ent.mk [(61, (pPtr ((cK .i64) a_0.Low)))] (pEq (.int .i64 a_0.Low)) true, Ent.mk [(58, (pEq (.int .i64 a_0.High))), (62, (pEq (.int .i64 a_0.Low)))] (pEq (.int .i64 (w64 (a_0.High - a_0.Low)))) true, Ent.mk [(54, (pEq (.int .i64 a_0.Duplex))), (63, (pEq (.int .i64 (w64 (a_0.High - a_0.Low)))))] (pEq (.bool (decide ((w64 (a_0.High - a_0.Low)) ≤ a_0.Duplex)))) true, Ent.mk [(64, (pEq (.bool (decide ((w64 (a_0.High - a_0.Low)) ≤ a_0.Duplex)))))] (pEq (.bool (decide ((w64 (a_0.High - a_0.Low)) ≤ a_0.Duplex)))) true, Ent.mk [(0, (pPtr (cGBand a_0)))] (pPtr (cGBand a_0)) true, Ent.mk [(66, (pPtr (cGBand a_0)))] (pPtr (cGBand a_0)) true, Ent.mk [(67, (pPtr (cGBand a_0)))] (pPtr ((cK .i64) a_0.High)) true, Ent.mk [(68, (pPtr ((cK .i64) a_0.High)))] (pEq (.int .i64 a_0.High)) true, Ent.mk [(0, (pPtr (cGBand a_0)))] (pPtr (cGBand a_0)) true, Ent.mk [(70, (pPtr (cGBand a_0)))] (pPtr (cGBand a_0)) true, Ent.mk [(71, (pPtr (cGBand a_0)))] (pPtr ((cK .i64) a_0.Duplex)) true, Ent.mk [(72, (pPtr ((cK .i64) a_0.Duplex)))] (pEq (.int .i64 a_0.Duplex)) true, Ent.mk [(69, (pEq (.int .i64 a_0.High))), (73, (pEq (.int .i64 a_0.Duplex)))] (pEq (.int .i64 (w64 (a_0.High + a_0.Duplex)))) true, Ent.mk [(74, (pEq (.int .i64 (w64 (a_0.High + a_0.Duplex)))))] (pEq (.bool (decide ((w64 (a_0.High + a_0.Duplex)) ≤ (100000000 : Int))))) true, Ent.mk [(65, (pEq (.bool (decide ((w64 (a_0.High - a_0.Low)) ≤ a_0.Duplex))))), (75, (pEq (.bool (decide ((w64 (a_0.High + a_0.Duplex)) ≤ (100000000 : Int))))))] (pEq (.bool (decide ((w64 (a_0.High + a_0.Duplex)) ≤ (100000000 : Int))))) true, Ent.mk [(50, (pEq (.bool (a_0.Duplex == (0 : Int))))), (76, (pEq (.bool (decide ((w64 (a_0.High + a_0.Duplex)) ≤ (100000000 : Int))))))] (pEq (.bool (decide ((w64 (a_0.High + a_0.Duplex)) ≤ (100000000 : Int))))) true, Ent.mk [(77, (pEq (.bool (decide ((w64 (a_0.High + a_0.Duplex)) ≤ (100000000 : Int))))))] (pEq (.bool (decide ((w64 (a_0.High + a_0.Duplex)) ≤ (100000000 : Int))))) true]) (rd := [[0], [45], [46], [47], [48], [49], [0], [51], [52], [53], [0], [55], [56], [57], [0], [59], [60], [61], [58, 62], [54, 63], [64], [0], [66], [67], [68], [0], [70], [71], [72], [69, 73], [74], [65, 75], [50, 76], [77]]) rfl hmix rfl (by kernel_rfl) ⟨⟨(OpJ.w (J_move rfl (Opd.tmp rfl))), ⟨rfl, trivial⟩, rfl⟩, ⟨(OpJ.w (J_nilCheck rfl (Opd.tmp rfl))), ⟨rfl, trivial⟩, rfl⟩, ⟨(OpJ.w (J_fieldAddr rfl Try.underlying32 rfl sz2 (by decide) (Opd.tmp rfl) rfl)), ⟨rfl, trivial⟩, rfl⟩, ⟨(OpJ.w (J_load rfl Try.isAgg2 (Opd.tmp rfl))), ⟨rfl, trivial⟩, rfl⟩, ⟨(OpJ.w (J_bin rfl (Opd.tmp rfl) Opd.con B_eql)), ⟨rfl, trivial⟩, rfl⟩, ⟨(OpJ.w (J_move rfl (Opd.tmp rfl))), ⟨rfl, trivial⟩, rfl⟩, ⟨(OpJ.w (J_move rfl (Opd.tmp rfl))), ⟨rfl, trivial⟩, (.inl ⟨_, rfl, by simp [hc15]⟩)⟩, ⟨(OpJ.w (J_nilCheck rfl (Opd.tmp rfl))), ⟨rfl, trivial⟩, (.inl ⟨_, rfl, by simp [hc15]⟩)⟩, ⟨(OpJ.w (J_fieldAddr rfl Try.underlying32 rfl sz2 (by decide) (Opd.tmp rfl) rfl)), ⟨rfl, trivial⟩, (.inl ⟨_, rfl, by simp [hc15]⟩)⟩, ⟨(OpJ.w (J_load rfl Try.isAgg2 (Opd.tmp rfl))), ⟨rfl, trivial⟩, (.inl ⟨_, rfl, by simp [hc15]⟩)⟩, ⟨(OpJ.w (J_move rfl (Opd.tmp rfl))), ⟨rfl, trivial⟩, (.inl ⟨_, rfl, by simp [hc15]⟩)⟩, ⟨(OpJ.w (J_nilCheck rfl (Opd.tmp rfl))), ⟨rfl, trivial⟩, (.inl ⟨_, rfl, by simp [hc15]⟩)⟩, ⟨(OpJ.w (J_fieldAddr rfl Try.underlying32 rfl sz2 (by decide) (Opd.tmp rfl) rfl)), ⟨rfl, trivial⟩, (.inl ⟨_, rfl, by simp [hc15]⟩)⟩, ⟨(OpJ.w (J_load rfl Try.isAgg2 (Opd.tmp rfl))), ⟨rfl, trivial⟩, (.inl ⟨_, rfl, by simp [hc15]⟩)⟩, ⟨(OpJ.w (J_move rfl (Opd.tmp rfl))), ⟨rfl, trivial⟩, (.inl ⟨_, rfl, by simp [hc15]⟩)⟩, ⟨(OpJ.w (J_nilCheck rfl (Opd.tmp rfl))), ⟨rfl, trivial⟩, (.inl ⟨_, rfl, by simp [hc15]⟩)⟩, ⟨(OpJ.w (J_fieldAddr rfl Try.underlying32 rfl sz2 (by decide) (Opd.tmp rfl) rfl)), ⟨rfl, trivial⟩, (.inl ⟨_, rfl, by simp [hc15]⟩)⟩, ⟨(OpJ.w (J_load rfl Try.isAgg2 (Opd.tmp rfl))), ⟨rfl, trivial⟩, (.inl ⟨_, rfl, by simp [hc15]⟩)⟩, ⟨(OpJ.w (J_bin rfl (Opd.tmp rfl) (Opd.tmp rfl) B_sub)), ⟨rfl, rfl, trivial⟩, (.inl ⟨_, rfl, by simp [hc15]⟩)⟩, ⟨(OpJ.w (J_bin rfl (Opd.tmp rfl) (Opd.tmp rfl) B_geq)), ⟨rfl, rfl, trivial⟩, (.inl ⟨_, rfl, by simp [hc15]⟩)⟩, ⟨(OpJ.w (J_move rfl (Opd.tmp rfl))), ⟨rfl, trivial⟩, (.inl ⟨_, rfl, by simp [hc15]⟩)⟩, ⟨(OpJ.w (J_move rfl (Opd.tmp rfl))), ⟨rfl, trivial⟩, (.inl ⟨_, rfl, by simp [hc16]⟩)⟩, ⟨(OpJ.w (J_nilCheck rfl (Opd.tmp rfl))), ⟨rfl, trivial⟩, (.inl ⟨_, rfl, by simp [hc16]⟩)⟩, ⟨(OpJ.w (J_fieldAddr rfl Try.underlying32 rfl sz2 (by decide) (Opd.tmp rfl) rfl)), ⟨rfl, trivial⟩, (.inl ⟨_, rfl, by simp [hc16]⟩)⟩, ⟨(OpJ.w (J_load rfl Try.isAgg2 (Opd.tmp rfl))), ⟨rfl, trivial⟩, (.inl ⟨_, rfl, by simp [hc16]⟩)⟩, ⟨(OpJ.w (J_move rfl (Opd.tmp rfl))), ⟨rfl, trivial⟩, (.inl ⟨_, rfl, by simp [hc16]⟩)⟩, ⟨(OpJ.w (J_nilCheck rfl (Opd.tmp rfl))), ⟨rfl, trivial⟩, (.inl ⟨_, rfl, by simp [hc16]⟩)⟩, ⟨(OpJ.w (J_fieldAddr rfl Try.underlying32 rfl sz2 (by decide) (Opd.tmp rfl) rfl)), ⟨rfl, trivial⟩, (.inl ⟨_, rfl, by simp [hc16]⟩)⟩, ⟨(OpJ.w (J_load rfl Try.isAgg2 (Opd.tmp rfl))), ⟨rfl, trivial⟩, (.inl ⟨_, rfl, by simp [hc16]⟩)⟩, ⟨(OpJ.w (J_bin rfl (Opd.tmp rfl) (Opd.tmp rfl) B_add)), ⟨rfl, rfl, trivial⟩, (.inl ⟨_, rfl, by simp [hc16]⟩)⟩, ⟨(OpJ.w (J_bin rfl (Opd.tmp rfl) Opd.con B_leq)), ⟨rfl, trivial⟩, (.inl ⟨_, rfl, by simp [hc16]⟩)⟩, ⟨(OpJ.w (J_pick rfl (Opd.tmp rfl) (fun _ => (Opd.tmp rfl)) (fun hf => absurd (hc16.symm.trans hf) (by decide)))), ⟨rfl, rfl, trivial⟩, (.inl ⟨_, rfl, by simp [hc15]⟩)⟩, ⟨(OpJ.w (J_pick rfl (Opd.tmp rfl) (fun hf => absurd (hc15.symm.trans hf) (by decide)) (fun _ => (Opd.tmp rfl)))), ⟨rfl, rfl, trivial⟩, rfl⟩, ⟨(OpJ.w (J_assign rfl (Opd.tmp rfl))), ⟨rfl, trivial⟩, rfl⟩, trivial⟩ ?_
              replace h := Option.some.inj h; subst h
              exact Ct.mid () rfl ⟨rfl, trivial⟩
            · replace h := bif_f hc16 h
              refine Tr.draw (n := 78) (es := [Ent.mk [(0, (pPtr (cGBand a_0)))] (pPtr (cGBand a_0)) true, Ent.mk [(45, (pPtr (cGBand a_0)))] (pPtr (cGBand a_0)) true, Ent.mk [(46, (pPtr (cGBand a_0)))] (pPtr ((cK .i64) a_0.Duplex)) true, Ent.mk [(47, (pPtr ((cK .i64) a_0.Duplex)))] (pEq (.int .i64 a_0.Duplex)) true, Ent.mk [(48, (pEq (.int .i64 a_0.Duplex)))] (pEq (.bool (a_0.Duplex == (0 : Int)))) true, Ent.mk [(49, (pEq (.bool (a_0.Duplex == (0 : Int)))))] (pEq (.bool (a_0.Duplex == (0 : Int)))) true, Ent.mk [(0, (pPtr (cGBand a_0)))] (pPtr (cGBand a_0)) true, Ent.mk [(51, (pPtr (cGBand a_0)))] (pPtr (cGBand a_0)) true, Ent.mk [(52, (pPtr (cGBand a_0)))] (pPtr ((cK .i64) a_0.Duplex)) true, Ent.mk [(53, (pPtr ((cK .i64) a_0.Duplex)))] (pEq (.int .i64 a_0.Duplex)) true, Ent.mk [(0, (pPtr (cGBand a_0)))] (pPtr (cGBand a_0)) true, Ent.mk [(55, (pPtr (cGBand a_0)))] (pPtr (cGBand a_0)) true, Ent.mk [(56, (pPtr (cGBand a_0)))] (pPtr ((cK .i64) a_0.High)) true, Ent.mk [(57, (pPtr ((cK .i64) a_0.High)))] (pEq (.int .i64 a_0.High)) true, Ent.mk [(0, (pPtr (cGBand a_0)))] (pPtr (cGBand a_0)) true, Ent.mk [(59, (pPtr (cGBand a_0)))] (pPtr (cGBand a_0)) true, Ent.mk [(60, (pPtr (cGBand a_0)))] (pPtr ((cK .i64) a_0.Low)) true, Ent.mk [(61, (pPtr ((cK .i64) a_0.Low)))] (pEq (.int .i64 a_0.Low)) true, Ent.mk [(58, (pEq (.int .i64 a_0.High))), (62, (pEq (.int .i64 a_0.Low)))] (pEq (.int .i64 (w64 (a_0.High - a_0.Low)))) true, Ent.mk [(54, (pEq (.int .i64 a_0.Duplex))), (63, (pEq (.int .i64 (w64 (a_0.High - a_0.Low)))))] (pEq (.bool (decide ((w64 (a_0.High - a_0.Low)) ≤ a_0.Duplex)))) true, Ent.mk [(64, (pEq (.bool (decide ((w64 (a_0.High - a_0.Low)) ≤ a_0.Duplex)))))] (pEq (.bool (decide ((w64 (a_0.High - a_0.Low)) ≤ a_0.Duplex)))) true, Ent.mk [] (pEq undef) false, Ent.mk [] (pEq undef) false, Ent.mk [] (pEq undef) false, Ent.mk [] (pEq undef) false, Ent.mk [] (pEq undef) false, Ent.mk [] (pEq undef) false, Ent.mk [] (pEq undef) false, Ent.mk [] (pEq undef) false, Ent.mk [] (pEq undef) false, Ent.mk [] (pEq undef) false, Ent.mk [(65, (pEq (.bool (decide ((w64 (a_0.High - a_0.Low)) ≤ a_0.Duplex))))), (75, (pEq undef))] (pEq (.bool false)) true, Ent.mk [(50, (pEq (.bool (a_0.Duplex == (0 : Int))))), (76, (pEq (.bool false)))] (pEq (.bool false)) true, Ent.mk [(77, (pEq (.bool false)))] (pEq (.bool false)) true]) (rd := [[0], [45], [46], [47], [48], [49], [0], [51], [52], [53], [0], [55], [56], [57], [0], [59], [60], [61], [58, 62], [54, 63], [64], [], [], [], [], [], [], [], [], [], [], [65, 75], [50, 76], [77]]) rfl hmix rfl (by kernel_rfl) ⟨⟨(OpJ.w (J_move rfl (Opd.tmp rfl))), ⟨rfl, trivial⟩, rfl⟩, ⟨(OpJ.w (J_nilCheck rfl (Opd.tmp rfl))), ⟨rfl, trivial⟩, rfl⟩, ⟨(OpJ.w (J_fieldAddr rfl Try.underlying32 rfl sz2 (by decide) (Opd.tmp rfl) rfl)), ⟨rfl, trivial⟩, rfl⟩, ⟨(OpJ.w (J_load rfl Try.isAgg2 (Opd.tmp rfl))), ⟨rfl, trivial⟩, rfl⟩, ⟨(OpJ.w (J_bin rfl (Opd.tmp rfl) Opd.con B_eql)), ⟨rfl, trivial⟩, rfl⟩, ⟨(OpJ.w (J_move rfl (Opd.tmp rfl))), ⟨rfl, trivial⟩, rfl⟩, ⟨(OpJ.w (J_move rfl (Opd.tmp rfl))), ⟨rfl, trivial⟩, (.inl ⟨_, rfl, by simp [hc15]⟩)⟩, ⟨(OpJ.w (J_nilCheck rfl (Opd.tmp rfl))), ⟨rfl, trivial⟩, (.inl ⟨_, rfl, by simp [hc15]⟩)⟩, ⟨(OpJ.w (J_fieldAddr rfl Try.underlying32 rfl sz2 (by decide) (Opd.tmp rfl) rfl)), ⟨rfl, trivial⟩, (.inl ⟨_, rfl, by simp [hc15]⟩)⟩, ⟨(OpJ.w (J_load rfl Try.isAgg2 (Opd.tmp rfl))), ⟨rfl, trivial⟩, (.inl ⟨_, rfl, by simp [hc15]⟩)⟩, ⟨(OpJ.w (J_move rfl (Opd.tmp rfl))), ⟨rfl, trivial⟩, (.inl ⟨_, rfl, by simp [hc15]⟩)⟩, ⟨(OpJ.w (J_nilCheck rfl (Opd.tmp rfl))), ⟨rfl, trivial⟩, (.inl ⟨_, rfl, by simp [hc15]⟩)⟩, ⟨(OpJ.w (J_fieldAddr rfl Try.underlying32 rfl sz2 (by decide) (Opd.tmp rfl) rfl)), ⟨rfl, trivial⟩, (.inl ⟨_, rfl, by simp [hc15]⟩)⟩, ⟨(OpJ.w (J_load rfl Try.isAgg2 (Opd.tmp rfl))), ⟨rfl, trivial⟩, (.inl ⟨_, rfl, by simp [hc15]⟩)⟩, ⟨(OpJ.w (J_move rfl (Opd.tmp rfl))), ⟨rfl, trivial⟩, (.inl ⟨_, rfl, by simp [hc15]⟩)⟩, ⟨(OpJ.w (J_nilCheck rfl (Opd.tmp rfl))), ⟨rfl, trivial⟩, (.inl ⟨_, rfl, by simp [hc15]⟩)⟩, ⟨(OpJ.w (J_fieldAddr rfl Try.underlying32 rfl sz2 (by decide) (Opd.tmp rfl) rfl)), ⟨rfl, trivial⟩, (.inl ⟨_, rfl, by simp [hc15]⟩)⟩, ⟨(OpJ.w (J_load rfl Try.isAgg2 (Opd.tmp rfl))), ⟨rfl, trivial⟩, (.inl ⟨_, rfl, by simp [hc15]⟩)⟩, ⟨(OpJ.w (J_bin rfl (Opd.tmp rfl) (Opd.tmp rfl) B_sub)), ⟨rfl, rfl, trivial⟩, (.inl ⟨_, rfl, by simp [hc15]⟩)⟩, ⟨(OpJ.w (J_bin rfl (Opd.tmp rfl) (Opd.tmp rfl) B_geq)), ⟨rfl, rfl, trivial⟩, (.inl ⟨_, rfl, by simp [hc15]⟩)⟩, ⟨(OpJ.w (J_move rfl (Opd.tmp rfl))), ⟨rfl, trivial⟩, (.inl ⟨_, rfl, by simp [hc15]⟩)⟩, ⟨rfl, trivial, (.inl ⟨_, rfl, by simp [hc16]⟩)⟩, ⟨rfl, trivial, (.inl ⟨_, rfl, by simp [hc16]⟩)⟩, ⟨rfl, trivial, (.inl ⟨_, rfl, by simp [hc16]⟩)⟩, ⟨rfl, trivial, (.inl ⟨_, rfl, by simp [hc16]⟩)⟩, ⟨rfl, trivial, (.inl ⟨_, rfl, by simp [hc16]⟩)⟩, ⟨rfl, trivial, (.inl ⟨_, rfl, by simp [hc16]⟩)⟩, ⟨rfl, trivial, (.inl ⟨_, rfl, by simp [hc16]⟩)⟩, ⟨rfl, trivial, (.inl ⟨_, rfl, by simp [hc16]⟩)⟩, ⟨rfl, trivial, (.inl ⟨_, rfl, by simp [hc16]⟩)⟩, ⟨rfl, trivial, (.inl ⟨_, rfl, by simp [hc16]⟩)⟩, ⟨(OpJ.w (J_pick rfl (Opd.tmp rfl) (fun hf => absurd (hc16.symm.trans hf) (by decide)) (fun _ => Opd.con))), ⟨rfl, rfl, trivial⟩, (.inl ⟨_, rfl, by simp [hc15]⟩)⟩, ⟨(OpJ.w (J_pick rfl (Opd.tmp rfl) (fun hf => absurd (hc15.symm.trans hf) (by decide)) (fun _ => (Opd.tmp rfl)))), ⟨rfl, rfl, trivial⟩, rfl⟩, ⟨(OpJ.w (J_assign rfl (Opd.tmp rfl))), ⟨rfl, trivial⟩, rfl⟩, trivial⟩ ?_
              replace h := Option.some.inj h; subst h
              exact Ct.mid () rfl ⟨rfl, trivial⟩
        · clear hx14
          refine Ct.then_tr ?_
          refine Tr.weak (Γ' := [(2, (pEq (.bool x14)))]) ⟨rfl, trivial⟩ ?_
          refine Tr.ret ?_
          replace h := Option.some.inj h; subst h
          exact Ct.ret1 rfl rfl

theorem c_spec_ChannelAt {b_0 : GBand} {f_1 : Int} {r : (Int × Int)} (h : m_spec_ChannelAt b_0 f_1 = some r) : CallJ Try.prog 23 [(pAgg (cGBand b_0)), (pEq (.int .i64 f_1))] (pTup [(pEq (.int .i64 r.1)), (pEq (.int .i64 r.2))]) := by
  unfold m_spec_ChannelAt at h
  refine CallJ.enter Try.func23 rfl Try.ntmps23 rfl fun W I0 => ?_
  refine Tr.weak (Γ' := [(0, (pAgg (cGBand b_0))), (1, (pEq (.int .i64 f_1)))]) ⟨rfl, rfl, trivial⟩ ?_
  refine Tr.seq ?_
  refine Tr.region ?_
  refine RegL.pure (p := (pPtr (cGBand b_0))) rfl rfl rfl (J_boxA rfl (Opd.tmp rfl)) ?_
  refine RegL.pure (p := (pEq (.int .i64 (0 : Int)))) rfl rfl rfl (J_assign rfl Opd.con) ?_
  refine RegL.pure (p := (pEq (.int .i64 (0 : Int)))) rfl rfl rfl (J_assign rfl Opd.con) ?_
  refine RegL.nil ?_
  refine Ct.then_tr ?_
  refine Tr.weak (Γ' := [(1, (pEq (.int .i64 f_1))), (2, (pPtr (cGBand b_0)))]) ⟨rfl, rfl, trivial⟩ ?_
  refine Tr.seq ?_
  refine Tr.seq ?_
  refine Tr.region ?_
  replace h := bind_some h; obtain ⟨x1, hx1, h⟩ := h
  refine RegL.pure (p := (pEq (.bool x1))) rfl rfl rfl (J_call rfl Try.call62 (c_spec_l15Ok hx1) (Opds.cons (Opd.tmp rfl) Opds.nil)) ?_
  refine RegL.pure (p := (pEq (.bool (!x1)))) rfl rfl rfl (J_not rfl (Opd.tmp rfl)) ?_
  refine RegL.nil ?_
  refine Ct.then_tr ?_
  refine Tr.weak (Γ' := [(1, (pEq (.int .i64 f_1))), (2, (pPtr (cGBand b_0))), (7, (pEq (.bool (!x1))))]) ⟨rfl, rfl, rfl, trivial⟩ ?_
  refine Tr.cond (Opd.tmp rfl) (fun hc => ?_) (fun hc => ?_)
  · replace h := bif_t hc h
    refine Tr.seq ?_
    refine Tr.region ?_
    refine RegL.pure (p := (pEq (.int .i64 (0 : Int)))) rfl rfl rfl (J_assign rfl Opd.con) ?_
    refine RegL.pure (p := (pEq (.int .i64 (1 : Int)))) rfl rfl rfl (J_assign rfl Opd.con) ?_
    refine RegL.nil ?_
    refine Ct.then_tr ?_
    refine Tr.weak (Γ' := [(4, (pEq (.int .i64 (0 : Int)))), (5, (pEq (.int .i64 (1 : Int))))]) ⟨rfl, rfl, trivial⟩ ?_
    refine Tr.ret ?_
    refine Ct.then_ret ?_
    replace h := Option.some.inj h; subst h
    exact Ct.ret2 rfl rfl rfl
  · replace h := bif_f hc h
    refine Tr.skip ?_
    refine Ct.then_tr ?_
    refine Tr.weak (Γ' := [(1, (pEq (.int .i64 f_1))), (2, (pPtr (cGBand b_0)))]) ⟨rfl, rfl, trivial⟩ ?_
    refine Tr.seq ?_
    refine Tr.seq ?_
    replace h := bind_some h; obtain ⟨x2, hx2, h⟩ := h
    refine Tr.cut (γ := Unit) (Γm := fun g => [(1, (pEq (.int .i64 f_1))), (2, (pPtr (cGBand b_0))), (22, (pEq (.bool x2)))]) (Ωm := fun g => []) ?_ (fun g5 => ?_)
    · clear h
      have h := hx2
      clear hx2
      rcases Bool.eq_false_or_eq_true (decide (f_1 < b_0.Low)) with hc3 | hc3
      · replace h := bif_t hc3 h
        refine Tr.draw (n := 30) (es := [Ent.mk [(1, (pEq (.int .i64 f_1)))] (pEq (.int .i64 f_1)) true, Ent.mk [(2, (pPtr (cGBand b_0)))] (pPtr ((cK .i64) b_0.Low)) true, Ent.mk [(9, (pPtr ((cK .i64) b_0.Low)))] (pEq (.int .i64 b_0.Low)) true, Ent.mk [(8, (pEq (.int .i64 f_1))), (10, (pEq (.int .i64 b_0.Low)))] (pEq (.bool (decide (f_1 < b_0.Low)))) true, Ent.mk [(11, (pEq (.bool (decide (f_1 < b_0.Low)))))] (pEq (.bool (decide (f_1 < b_0.Low)))) true, Ent.mk [] (pEq undef) false, Ent.mk [] (pEq undef) false, Ent.mk [] (pEq undef) false, Ent.mk [] (pEq undef) false, Ent.mk [] (pEq undef) false, Ent.mk [] (pEq undef) false, Ent.mk [] (pEq undef) false, Ent.mk [] (pEq undef) false, Ent.mk [] (pEq undef) false, Ent.mk [(12, (pEq (.bool (decide (f_1 < b_0.Low))))), (21, (pEq undef))] (pEq (.bool true)) true]) (rd := [[1], [2], [9], [8, 10], [11], [], [], [], [], [], [], [], [], [], [12, 21]]) rfl hmix rfl (by kernel_rfl) ⟨⟨(OpJ.w (J_move rfl (Opd.tmp rfl))), ⟨rfl, trivial⟩, rfl⟩, ⟨(OpJ.w (J_fieldAddr rfl Try.underlying32 rfl sz2 (by decide) (Opd.tmp rfl) rfl)), ⟨rfl, trivial⟩, rfl⟩, ⟨(OpJ.w (J_load rfl Try.isAgg2 (Opd.tmp rfl))), ⟨rfl, trivial⟩, rfl⟩, ⟨(OpJ.w (J_bin rfl (Opd.tmp rfl) (Opd.tmp rfl) B_lss)), ⟨rfl, rfl, trivial⟩, rfl⟩, ⟨(OpJ.w (J_move rfl (Opd.tmp rfl))), ⟨rfl, trivial⟩, rfl⟩, ⟨rfl, trivial, (.inl ⟨_, rfl, by simp [hc3]⟩)⟩, ⟨rfl, trivial, (.inl ⟨_, rfl, by simp [hc3]⟩)⟩, ⟨rfl, trivial, (.inl ⟨_, rfl, by simp [hc3]⟩)⟩, ⟨rfl, trivial, (.inl ⟨_, rfl, by simp [hc3]⟩)⟩, ⟨rfl, trivial, (.inl ⟨_, rfl, by simp [hc3]⟩)⟩, ⟨rfl, trivial, (.inl ⟨_, rfl, by simp [hc3]⟩)⟩, ⟨rfl, trivial, (.inl ⟨_, rfl, by simp [hc3]⟩)⟩, ⟨rfl, trivial, (.inl ⟨_, rfl, by simp [hc3]⟩)⟩, ⟨rfl, trivial, (.inl ⟨_, rfl, by simp [hc3]⟩)⟩, ⟨(OpJ.w (J_pick rfl (Opd.tmp rfl) (fun _ => Opd.con) (fun hf => absurd (hc3.symm.trans hf) (by decide)))), ⟨rfl, rfl, trivial⟩, rfl⟩, trivial⟩ ?_
        replace h := Option.some.inj h; subst h
        exact Ct.mid () rfl ⟨rfl, rfl, rfl, trivial⟩
      · replace h := bif_f hc3 h
        replace h := bind_some h; obtain ⟨x4, hx4, h⟩ := h
        refine Tr.draw (n := 30) (es := [Ent.mk [(1, (pEq (.int .i64 f_1)))] (pEq (.int .i64 f_1)) true, Ent.mk [(2, (pPtr (cGBand b_0)))] (pPtr ((cK .i64) b_0.Low)) true, Ent.mk [(9, (pPtr ((cK .i64) b_0.Low)))] (pEq (.int .i64 b_0.Low)) true, Ent.mk [(8, (pEq (.int .i64 f_1))), (10, (pEq (.int .i64 b_0.Low)))] (pEq (.bool (decide (f_1 < b_0.Low)))) true, Ent.mk [(11, (pEq (.bool (decide (f_1 < b_0.Low)))))] (pEq (.bool (decide (f_1 < b_0.Low)))) true, Ent.mk [(1, (pEq (.int .i64 f_1)))] (pEq (.int .i64 f_1)) true, Ent.mk [(2, (pPtr (cGBand b_0)))] (pPtr ((cK .i64) b_0.Low)) true, Ent.mk [(14, (pPtr ((cK .i64) b_0.Low)))] (pEq (.int .i64 b_0.Low)) true, Ent.mk [(2, (pPtr (cGBand b_0)))] (pEq (.int .i64 x4)) true, Ent.mk [(2, (pPtr (cGBand b_0)))] (pPtr ((cK .i64) b_0.Raster)) true, Ent.mk [(17, (pPtr ((cK .i64) b_0.Raster)))] (pEq (.int .i64 b_0.Raster)) true, Ent.mk [(16, (pEq (.int .i64 x4))), (18, (pEq (.int .i64 b_0.Raster)))] (pEq (.int .i64 (w64 (x4 * b_0.Raster)))) true, Ent.mk [(15, (pEq (.int .i64 b_0.Low))), (19, (pEq (.int .i64 (w64 (x4 * b_0.Raster)))))] (pEq (.int .i64 (w64 (b_0.Low + (w64 (x4 * b_0.Raster)))))) true, Ent.mk [(13, (pEq (.int .i64 f_1))), (20, (pEq (.int .i64 (w64 (b_0.Low + (w64 (x4 * b_0.Raster)))))))] (pEq (.bool (decide ((w64 (b_0.Low + (w64 (x4 * b_0.Raster)))) ≤ f_1)))) true, Ent.mk [(12, (pEq (.bool (decide (f_1 < b_0.Low))))), (21, (pEq (.bool (decide ((w64 (b_0.Low + (w64 (x4 * b_0.Raster)))) ≤ f_1)))))] (pEq (.bool (decide ((w64 (b_0.Low + (w64 (x4 * b_0.Raster)))) ≤ f_1)))) true]) (rd := [[1], [2], [9], [8, 10], [11], [1], [2], [14], [2], [2], [17], [16, 18], [15, 19], [13, 20], [12, 21]]) rfl hmix rfl (by kernel_rfl) ⟨⟨(OpJ.w (J_move rfl (Opd.tmp rfl))), ⟨rfl, trivial⟩, rfl⟩, ⟨(OpJ.w (J_fieldAddr rfl Try.underlying32 rfl sz2 (by decide) (Opd.tmp rfl) rfl)), ⟨rfl, trivial⟩, rfl⟩, ⟨(OpJ.w (J_load rfl Try.isAgg2 (Opd.tmp rfl))), ⟨rfl, trivial⟩, rfl⟩, ⟨(OpJ.w (J_bin rfl (Opd.tmp rfl) (Opd.tmp rfl) B_lss)), ⟨rfl, rfl, trivial⟩, rfl⟩, ⟨(OpJ.w (J_move rfl (Opd.tmp rfl))), ⟨rfl, trivial⟩, rfl⟩, ⟨(OpJ.w (J_move rfl (Opd.tmp rfl))), ⟨rfl, trivial⟩, (.inl ⟨_, rfl, by simp [hc3]⟩)⟩, ⟨(OpJ.w (J_fieldAddr rfl Try.underlying32 rfl sz2 (by decide) (Opd.tmp rfl) rfl)), ⟨rfl, trivial⟩, (.inl ⟨_, rfl, by simp [hc3]⟩)⟩, ⟨(OpJ.w (J_load rfl Try.isAgg2 (Opd.tmp rfl))), ⟨rfl, trivial⟩, (.inl ⟨_, rfl, by simp [hc3]⟩)⟩, ⟨(OpJ.w (J_call rfl Try.call66 (c_spec_l15Count hx4) (Opds.cons (Opd.tmp rfl) Opds.nil))), ⟨rfl, trivial⟩, (.inl ⟨_, rfl, by simp [hc3]⟩)⟩, ⟨(OpJ.w (J_fieldAddr rfl Try.underlying32 rfl sz2 (by decide) (Opd.tmp rfl) rfl)), ⟨rfl, trivial⟩, (.inl ⟨_, rfl, by simp [hc3]⟩)⟩, ⟨(OpJ.w (J_load rfl Try.isAgg2 (Opd.tmp rfl))), ⟨rfl, trivial⟩, (.inl ⟨_, rfl, by simp [hc3]⟩)⟩, ⟨(OpJ.w (J_bin rfl (Opd.tmp rfl) (Opd.tmp rfl) B_mul)), ⟨rfl, rfl, trivial⟩, (.inl ⟨_, rfl, by simp [hc3]⟩)⟩, ⟨(OpJ.w (J_bin rfl (Opd.tmp rfl) (Opd.tmp rfl) B_add)), ⟨rfl, rfl, trivial⟩, (.inl ⟨_, rfl, by simp [hc3]⟩)⟩, ⟨(OpJ.w (J_bin rfl (Opd.tmp rfl) (Opd.tmp rfl) B_geq)), ⟨rfl, rfl, trivial⟩, (.inl ⟨_, rfl, by simp [hc3]⟩)⟩, ⟨(OpJ.w (J_pick rfl (Opd.tmp rfl) (fun hf => absurd (hc3.symm.trans hf) (by decide)) (fun _ => (Opd.tmp rfl)))), ⟨rfl, rfl, trivial⟩, rfl⟩, trivial⟩ ?_
        replace h := Option.some.inj h; subst h
        exact Ct.mid () rfl ⟨rfl, rfl, rfl, trivial⟩
    · clear hx2
      refine Ct.then_tr ?_
      refine Tr.weak (Γ' := [(1, (pEq (.int .i64 f_1))), (2, (pPtr (cGBand b_0))), (22, (pEq (.bool x2)))]) ⟨rfl, rfl, rfl, trivial⟩ ?_
      refine Tr.cond (Opd.tmp rfl) (fun hc => ?_) (fun hc => ?_)
      · replace h := bif_t hc h
        refine Tr.seq ?_
        refine Tr.region ?_
        refine RegL.pure (p := (pEq (.int .i64 (0 : Int)))) rfl rfl rfl (J_assign rfl Opd.con) ?_
        refine RegL.pure (p := (pEq (.int .i64 (3 : Int)))) rfl rfl rfl (J_assign rfl Opd.con) ?_
        refine RegL.nil ?_
        refine Ct.then_tr ?_
        refine Tr.weak (Γ' := [(4, (pEq (.int .i64 (0 : Int)))), (5, (pEq (.int .i64 (3 : Int))))]) ⟨rfl, rfl, trivial⟩ ?_
        refine Tr.ret ?_
        refine Ct.then_ret ?_
        replace h := Option.some.inj h; subst h
        exact Ct.ret2 rfl rfl rfl
      · replace h := bif_f hc h
        refine Tr.skip ?_
        refine Ct.then_tr ?_
        refine Tr.weak (Γ' := [(1, (pEq (.int .i64 f_1))), (2, (pPtr (cGBand b_0)))]) ⟨rfl, rfl, trivial⟩ ?_
        refine Tr.seq ?_
        refine Tr.region ?_
        refine RegL.pure (p := (pEq (.int .i64 f_1))) rfl rfl rfl (J_move rfl (Opd.tmp rfl)) ?_
        refine RegL.pure (p := (pPtr ((cK .i64) b_0.Low))) rfl rfl rfl (J_fieldAddr rfl Try.underlying32 rfl sz2 (by decide) (Opd.tmp rfl) rfl) ?_
        refine RegL.pure (p := (pEq (.int .i64 b_0.Low))) rfl rfl rfl (J_load rfl Try.isAgg2 (Opd.tmp rfl)) ?_
        refine RegL.pure (p := (pEq (.int .i64 (w64 (f_1 - b_0.Low))))) rfl rfl rfl (J_bin rfl (Opd.tmp rfl) (Opd.tmp rfl) B_sub) ?_
        refine RegL.pure (p := (pPtr ((cK .i64) b_0.Raster))) rfl rfl rfl (J_fieldAddr rfl Try.underlying32 rfl sz2 (by decide) (Opd.tmp rfl) rfl) ?_
        refine RegL.pure (p := (pEq (.int .i64 b_0.Raster))) rfl rfl rfl (J_load rfl Try.isAgg2 (Opd.tmp rfl)) ?_
        replace h := bind_some h; obtain ⟨x6, hx6, h⟩ := h
        refine RegL.pure (p := (pEq (.int .i64 x6))) rfl rfl rfl (J_bin rfl (Opd.tmp rfl) (Opd.tmp rfl) (B_qdiv hx6)) ?_
        refine RegL.pure (p := (pEq (.int .i64 x6))) rfl rfl rfl (J_assign rfl (Opd.tmp rfl)) ?_
        refine RegL.pure (p := (pEq (.int .i64 (0 : Int)))) rfl rfl rfl (J_assign rfl Opd.con) ?_
        refine RegL.nil ?_
        refine Ct.then_tr ?_
        refine Tr.weak (Γ' := [(4, (pEq (.int .i64 x6))), (5, (pEq (.int .i64 (0 : Int))))]) ⟨rfl, rfl, trivial⟩ ?_
        refine Tr.ret ?_
        replace h := Option.some.inj h; subst h
        exact Ct.ret2 rfl rfl rfl

theorem c_impl_onlyNameBytes {s_0 : ByteArray} {r : Bool} (h : m_impl_onlyNameBytes s_0 = some r) : CallJ Try.prog 107 [(pEq (.string s_0))] (pEq (.bool r)) := by
  unfold m_impl_onlyNameBytes at h
  refine CallJ.enter Try.func107 rfl Try.ntmps107 rfl fun W I0 => ?_
  refine Tr.weak (Γ' := [(0, (pEq (.string s_0)))]) ⟨rfl, trivial⟩ ?_
  refine Tr.seq ?_
  refine Tr.region ?_
  refine RegL.pure (p := (pEq (.bool false))) rfl rfl rfl (J_assign rfl Opd.con) ?_
  refine RegL.nil ?_
  refine Ct.then_tr ?_
  refine Tr.weak (Γ' := [(0, (pEq (.string s_0)))]) ⟨rfl, trivial⟩ ?_
  refine Tr.seq ?_
  refine Tr.seq ?_
  refine Tr.region ?_
  refine RegL.pure (p := (pEq (.string s_0))) rfl rfl rfl (J_move rfl (Opd.tmp rfl)) ?_
  refine RegL.pure (p := (pEq (.int .i64 (s_0.size : Int)))) rfl rfl rfl (J_slen rfl Try.underlying9 (Opd.tmp rfl) rfl) ?_
  refine RegL.pure (p := (pEq (.int .i64 (0 : Int)))) rfl rfl rfl (J_move rfl Opd.con) ?_
  refine RegL.nil ?_
  refine Ct.then_tr ?_
  refine Tr.weak (Γ' := [(0, (pEq (.string s_0))), (6, (pEq (.int .i64 (s_0.size : Int)))), (7, (pEq (.int .i64 (0 : Int))))]) ⟨rfl, rfl, rfl, trivial⟩ ?_
  refine Tr.block ?_
  refine Tr.weak (Γ' := [(0, (pEq (.string s_0))), (6, (pEq (.int .i64 (s_0.size : Int)))), (7, (pEq (.int .i64 (0 : Int))))]) ⟨rfl, rfl, rfl, trivial⟩ ?_
  refine Tr.loop (γ := Unit) (σ := Int) (Γσ := fun s g => [(0, (pEq (.string s_0))), (6, (pEq (.int .i64 (s_0.size : Int)))), (7, (pEq (.int .i64 s)))]) (Ωσ := fun s g => []) (g := ()) h ?_
  clear h
  rintro v2 g3 t h
  replace h : m_impl_onlyNameBytes_B1 s_0 v2 = some t := h
  unfold m_impl_onlyNameBytes_B1 at h
  refine Tr.weakO (Γ' := [(0, (pEq (.string s_0))), (6, (pEq (.int .i64 (s_0.size : Int)))), (7, (pEq (.int .i64 v2)))]) (Ω' := []) rfl ⟨rfl, rfl, rfl, trivial⟩ ?_
  refine Tr.seq ?_
  refine Tr.region ?_
  refine RegL.pure (p := (pEq (.bool (decide (v2 < (s_0.size : Int)))))) rfl rfl rfl (J_bin rfl (Opd.tmp rfl) (Opd.tmp rfl) B_lss) ?_
  refine RegL.nil ?_
  refine Ct.then_tr ?_
  refine Tr.weak (Γ' := [(0, (pEq (.string s_0))), (6, (pEq (.int .i64 (s_0.size : Int)))), (7, (pEq (.int .i64 v2))), (8, (pEq (.bool (decide (v2 < (s_0.size : Int))))))]) ⟨rfl, rfl, rfl, rfl, trivial⟩ ?_
  refine Tr.seq ?_
  refine Tr.cond (Opd.tmp rfl) (fun hc => ?_) (fun hc => ?_)
  · replace h := bif_t hc h
    refine Tr.skip ?_
    refine Ct.then_tr ?_
    refine Tr.weak (Γ' := [(0, (pEq (.string s_0))), (6, (pEq (.int .i64 (s_0.size : Int)))), (7, (pEq (.int .i64 v2)))]) ⟨rfl, rfl, rfl, trivial⟩ ?_
    refine Tr.seq ?_
    refine Tr.block ?_
    refine Tr.seq ?_
    refine Tr.region ?_
    refine RegL.pure (p := (pEq (.int .i64 v2))) rfl rfl rfl (J_move rfl (Opd.tmp rfl)) ?_
    refine RegL.pure (p := (pEq (.int .i64 v2))) rfl rfl rfl (J_assign rfl (Opd.tmp rfl)) ?_
    refine RegL.nil ?_
    refine Ct.then_tr ?_
    refine Tr.weak (Γ' := [(0, (pEq (.string s_0))), (3, (pEq (.int .i64 v2))), (6, (pEq (.int .i64 (s_0.size : Int)))), (7, (pEq (.int .i64 v2)))]) ⟨rfl, rfl, rfl, rfl, trivial⟩ ?_
    refine Tr.seq ?_
    refine Tr.region ?_
    refine RegL.pure (p := (pEq (.string s_0))) rfl rfl rfl (J_move rfl (Opd.tmp rfl)) ?_
    refine RegL.pure (p := (pEq (.int .i64 v2))) rfl rfl rfl (J_move rfl (Opd.tmp rfl)) ?_
    replace h := bind_some h; obtain ⟨y4, hy4, h⟩ := h
    refine RegL.pure (p := (pEq (.int .u8 (y4.toNat : Int)))) rfl rfl rfl (J_sidx rfl Try.underlying9 (Opd.tmp rfl) (Opd.tmp rfl) hy4) ?_
    refine RegL.pure (p := (pEq (.int .u8 (y4.toNat : Int)))) rfl rfl rfl (J_assign rfl (Opd.tmp rfl)) ?_
    refine RegL.nil ?_
    refine Ct.then_tr ?_
    refine Tr.weak (Γ' := [(0, (pEq (.string s_0))), (4, (pEq (.int .u8 (y4.toNat : Int)))), (6, (pEq (.int .i64 (s_0.size : Int)))), (7, (pEq (.int .i64 v2)))]) ⟨rfl, rfl, rfl, rfl, trivial⟩ ?_
    refine Tr.seq ?_
    replace h := bind_some h; obtain ⟨x5, hx5, h⟩ := h
    refine Tr.cut (γ := Unit) (Γm := fun g => [(0, (pEq (.string s_0))), (6, (pEq (.int .i64 (s_0.size : Int)))), (7, (pEq (.int .i64 v2))), (26, (pEq (.bool x5)))]) (Ωm := fun g => []) ?_ (fun g10 => ?_)
    · clear h
      have h := hx5
      clear hx5
      refine Tr.region ?_
      refine RegL.pure (p := (pEq (.int .u8 (y4.toNat : Int)))) rfl rfl rfl (J_move rfl (Opd.tmp rfl)) ?_
      refine RegL.pure (p := (pEq (.bool (decide ((y4.toNat : Int) < (97 : Int)))))) rfl rfl rfl (J_bin rfl (Opd.tmp rfl) Opd.con B_lss) ?_
      refine RegL.pure (p := (pEq (.bool (decide ((y4.toNat : Int) < (97 : Int)))))) rfl rfl rfl (J_move rfl (Opd.tmp rfl)) ?_
      rcases Bool.eq_false_or_eq_true (decide ((y4.toNat : Int) < (97 : Int))) with hc6 | hc6
      · replace h := bif_t hc6 h
        refine RegL.skipG rfl rfl rfl hc6 rfl rfl ?_
        refine RegL.skipG rfl rfl rfl hc6 rfl rfl ?_
        refine RegL.pure (p := (pEq (.bool true))) rfl rfl rfl (J_pick rfl (Opd.tmp rfl) (fun _ => Opd.con) (fun hf => absurd (hc6.symm.trans hf) (by decide))) ?_
        refine RegL.pure (p := (pEq (.bool true))) rfl rfl rfl (J_move rfl (Opd.tmp rfl)) ?_
        refine RegL.pureG (p := (pEq (.int .u8 (y4.toNat : Int)))) rfl rfl rfl rfl rfl rfl (J_move rfl (Opd.tmp rfl)) ?_
        refine RegL.pureG (p := (pEq (.bool (decide ((y4.toNat : Int) < (48 : Int)))))) rfl rfl rfl rfl rfl rfl (J_bin rfl (Opd.tmp rfl) Opd.con B_lss) ?_
        refine RegL.pureG (p := (pEq (.bool (decide ((y4.toNat : Int) < (48 : Int)))))) rfl rfl rfl rfl rfl rfl (J_move rfl (Opd.tmp rfl)) ?_
        rcases Bool.eq_false_or_eq_true (decide ((y4.toNat : Int) < (48 : Int))) with hc7 | hc7
        · replace h := bif_t hc7 h
          refine RegL.skipG rfl rfl rfl hc7 rfl rfl ?_
          refine RegL.skipG rfl rfl rfl hc7 rfl rfl ?_
          refine RegL.pureG (p := (pEq (.bool true))) rfl rfl rfl rfl rfl rfl (J_pick rfl (Opd.tmp rfl) (fun _ => Opd.con) (fun hf => absurd (hc7.symm.trans hf) (by decide))) ?_
          refine RegL.pure (p := (pEq (.bool true))) rfl rfl rfl (J_pick rfl (Opd.tmp rfl) (fun _ => (Opd.tmp rfl)) (fun hf => absurd hf (by decide))) ?_
          refine RegL.nil ?_
          replace h := Option.some.inj h; subst h
          exact Ct.mid () rfl ⟨rfl, rfl, rfl, rfl, trivial⟩
        · replace h := bif_f hc7 h
          refine RegL.pureG (p := (pEq (.int .u8 (y4.toNat : Int)))) rfl rfl rfl hc7 rfl rfl (J_move rfl (Opd.tmp rfl)) ?_
          refine RegL.pureG (p := (pEq (.bool (decide ((57 : Int) < (y4.toNat : Int)))))) rfl rfl rfl hc7 rfl rfl (J_bin rfl (Opd.tmp rfl) Opd.con B_gtr) ?_
          refine RegL.pureG (p := (pEq (.bool (decide ((57 : Int) < (y4.toNat : Int)))))) rfl rfl rfl rfl rfl rfl (J_pick rfl (Opd.tmp rfl) (fun hf => absurd (hc7.symm.trans hf) (by decide)) (fun _ => (Opd.tmp rfl))) ?_
          refine RegL.pure (p := (pEq (.bool (decide ((57 : Int) < (y4.toNat : Int)))))) rfl rfl rfl (J_pick rfl (Opd.tmp rfl) (fun _ => (Opd.tmp rfl)) (fun hf => absurd hf (by decide))) ?_
          refine RegL.nil ?_
          replace h := Option.some.inj h; subst h
          exact Ct.mid () rfl ⟨rfl, rfl, rfl, rfl, trivial⟩
      · replace h := bif_f hc6 h
        refine RegL.pureG (p := (pEq (.int .u8 (y4.toNat : Int)))) rfl rfl rfl hc6 rfl rfl (J_move rfl (Opd.tmp rfl)) ?_
        refine RegL.pureG (p := (pEq (.bool (decide ((122 : Int) < (y4.toNat : Int)))))) rfl rfl rfl hc6 rfl rfl (J_bin rfl (Opd.tmp rfl) Opd.con B_gtr) ?_
        refine RegL.pure (p := (pEq (.bool (decide ((122 : Int) < (y4.toNat : Int)))))) rfl rfl rfl (J_pick rfl (Opd.tmp rfl) (fun hf => absurd (hc6.symm.trans hf) (by decide)) (fun _ => (Opd.tmp rfl))) ?_
        refine RegL.pure (p := (pEq (.bool (decide ((122 : Int) < (y4.toNat : Int)))))) rfl rfl rfl (J_move rfl (Opd.tmp rfl)) ?_
        rcases Bool.eq_false_or_eq_true (decide ((122 : Int) < (y4.toNat : Int))) with hc8 | hc8
        · replace h := bif_t hc8 h
          refine RegL.pureG (p := (pEq (.int .u8 (y4.toNat : Int)))) rfl rfl rfl hc8 rfl rfl (J_move rfl (Opd.tmp rfl)) ?_
          refine RegL.pureG (p := (pEq (.bool (decide ((y4.toNat : Int) < (48 : Int)))))) rfl rfl rfl hc8 rfl rfl (J_bin rfl (Opd.tmp rfl) Opd.con B_lss) ?_
          refine RegL.pureG (p := (pEq (.bool (decide ((y4.toNat : Int) < (48 : Int)))))) rfl rfl rfl hc8 rfl rfl (J_move rfl (Opd.tmp rfl)) ?_
          rcases Bool.eq_false_or_eq_true (decide ((y4.toNat : Int) < (48 : Int))) with hc9 | hc9
          · replace h := bif_t hc9 h
            refine RegL.skipG rfl rfl rfl hc9 rfl rfl ?_
            refine RegL.skipG rfl rfl rfl hc9 rfl rfl ?_
            refine RegL.pureG (p := (pEq (.bool true))) rfl rfl rfl hc8 rfl rfl (J_pick rfl (Opd.tmp rfl) (fun _ => Opd.con) (fun hf => absurd (hc9.symm.trans hf) (by decide))) ?_
            refine RegL.pure (p := (pEq (.bool true))) rfl rfl rfl (J_pick rfl (Opd.tmp rfl) (fun _ => (Opd.tmp rfl)) (fun hf => absurd (hc8.symm.trans hf) (by decide))) ?_
            refine RegL.nil ?_
            replace h := Option.some.inj h; subst h
            exact Ct.mid () rfl ⟨rfl, rfl, rfl, rfl, trivial⟩
          · replace h := bif_f hc9 h
            refine RegL.pureG (p := (pEq (.int .u8 (y4.toNat : Int)))) rfl rfl rfl hc9 rfl rfl (J_move rfl (Opd.tmp rfl)) ?_
            refine RegL.pureG (p := (pEq (.bool (decide ((57 : Int) < (y4.toNat : Int)))))) rfl rfl rfl hc9 rfl rfl (J_bin rfl (Opd.tmp rfl) Opd.con B_gtr) ?_
            refine RegL.pureG (p := (pEq (.bool (decide ((57 : Int) < (y4.toNat : Int)))))) rfl rfl rfl hc8 rfl rfl (J_pick rfl (Opd.tmp rfl) (fun hf => absurd (hc9.symm.trans hf) (by decide)) (fun _ => (Opd.tmp rfl))) ?_
            refine RegL.pure (p := (pEq (.bool (decide ((57 : Int) < (y4.toNat : Int)))))) rfl rfl rfl (J_pick rfl (Opd.tmp rfl) (fun _ => (Opd.tmp rfl)) (fun hf => absurd (hc8.symm.trans hf) (by decide))) ?_
            refine RegL.nil ?_
            replace h := Option.some.inj h; subst h
            exact Ct.mid () rfl ⟨rfl, rfl, rfl, rfl, trivial⟩
        · replace h := bif_f hc8 h
          refine RegL.skipG rfl rfl rfl hc8 rfl rfl ?_
          refine RegL.skipG rfl rfl rfl hc8 rfl rfl ?_
          refine RegL.skipG rfl rfl rfl hc8 rfl rfl ?_
          refine RegL.skipU rfl rfl rfl rfl rfl ?_
          refine RegL.skipU rfl rfl rfl rfl rfl ?_
          refine RegL.skipG rfl rfl rfl hc8 rfl rfl ?_
          refine RegL.pure (p := (pEq (.bool false))) rfl rfl rfl (J_pick rfl (Opd.tmp rfl) (fun hf => absurd (hc8.symm.trans hf) (by decide)) (fun _ => Opd.con)) ?_
          refine RegL.nil ?_
          replace h := Option.some.inj h; subst h
          exact Ct.mid () rfl ⟨rfl, rfl, rfl, rfl, trivial⟩
    · clear hx5
      refine Ct.then_tr ?_
      refine Tr.weak (Γ' := [(0, (pEq (.string s_0))), (6, (pEq (.int .i64 (s_0.size : Int)))), (7, (pEq (.int .i64 v2))), (26, (pEq (.bool x5)))]) ⟨rfl, rfl, rfl, rfl, trivial⟩ ?_
      refine Tr.cond (Opd.tmp rfl) (fun hc => ?_) (fun hc => ?_)
      · replace h := bif_t hc h
        refine Tr.seq ?_
        refine Tr.region ?_
        refine RegL.pure (p := (pEq (.bool false))) rfl rfl rfl (J_assign rfl Opd.con) ?_
        refine RegL.nil ?_
        refine Ct.then_tr ?_
        refine Tr.weak (Γ' := [(2, (pEq (.bool false)))]) ⟨rfl, trivial⟩ ?_
        refine Tr.ret ?_
        refine Ct.blk_ret ?_
        refine Ct.then_ret ?_
        replace h := map_some h; obtain ⟨r1, h, rfl⟩ := h
        refine Ct.out_ret fun e => ?_
        subst e
        refine Ct.blk_ret ?_
        refine Ct.then_ret ?_
        replace h := Option.some.inj h; subst h
        exact Ct.ret1 rfl rfl
      · replace h := bif_f hc h
        refine Tr.skip ?_
        refine Ct.blk_normal ?_
        refine Ct.then_tr ?_
        refine Tr.weak (Γ' := [(0, (pEq (.string s_0))), (6, (pEq (.int .i64 (s_0.size : Int)))), (7, (pEq (.int .i64 v2)))]) ⟨rfl, rfl, rfl, trivial⟩ ?_
        refine Tr.region ?_
        refine RegL.pure (p := (pEq (.int .i64 (w64 (v2 + (1 : Int)))))) rfl rfl rfl (J_bin rfl (Opd.tmp rfl) Opd.con B_add) ?_
        refine RegL.pure (p := (pEq (.int .i64 (w64 (v2 + (1 : Int)))))) rfl rfl rfl (J_move rfl (Opd.tmp rfl)) ?_
        refine RegL.nil ?_
        replace h := Option.some.inj h; subst h
        exact Ct.again () rfl ⟨rfl, rfl, rfl, trivial⟩
  · replace h := bif_f hc h
    refine Tr.exit ?_
    refine Ct.then_exit ?_
    replace h := map_some h; obtain ⟨r1, h, rfl⟩ := h
    refine Ct.out_exit fun e => ?_
    subst e
    refine Ct.blk_exit ?_
    refine Ct.then_tr ?_
    refine Tr.weak (Γ' := []) trivial ?_
    refine Tr.seq ?_
    refine Tr.region ?_
    refine RegL.pure (p := (pEq (.bool true))) rfl rfl rfl (J_assign rfl Opd.con) ?_
    refine RegL.nil ?_
    refine Ct.then_tr ?_
    refine Tr.weak (Γ' := [(2, (pEq (.bool true)))]) ⟨rfl, trivial⟩ ?_
    refine Tr.ret ?_
    replace h := Option.some.inj h; subst h
    exact Ct.ret1 rfl rfl

theorem c_impl_IsName {s_0 : ByteArray} {r : Bool} (h : m_impl_IsName s_0 = some r) : CallJ Try.prog 93 [(pEq (.string s_0))] (pEq (.bool r)) := by
  unfold m_impl_IsName at h
  refine CallJ.enter Try.func93 rfl Try.ntmps93 rfl fun W I0 => ?_
  refine Tr.weak (Γ' := [(0, (pEq (.string s_0)))]) ⟨rfl, trivial⟩ ?_
  refine Tr.seq ?_
  refine Tr.region ?_
  refine RegL.pure (p := (pEq (.bool false))) rfl rfl rfl (J_assign rfl Opd.con) ?_
  refine RegL.nil ?_
  refine Ct.then_tr ?_
  refine Tr.weak (Γ' := [(0, (pEq (.string s_0)))]) ⟨rfl, trivial⟩ ?_
  refine Tr.seq ?_
  refine Tr.seq ?_
  replace h := bind_some h; obtain ⟨x1, hx1, h⟩ := h
  refine Tr.cut (γ := Unit) (Γm := fun g => [(0, (pEq (.string s_0))), (20, (pEq (.bool x1)))]) (Ωm := fun g => []) ?_ (fun g7 => ?_)
  · clear h
    have h := hx1
    clear hx1
    refine Tr.region ?_
    refine RegL.pure (p := (pEq (.string s_0))) rfl rfl rfl (J_move rfl (Opd.tmp rfl)) ?_
    refine RegL.pure (p := (pEq (.int .i64 (s_0.size : Int)))) rfl rfl rfl (J_slen rfl Try.underlying9 (Opd.tmp rfl) rfl) ?_
    refine RegL.pure (p := (pEq (.bool (decide ((s_0.size : Int) < (1 : Int)))))) rfl rfl rfl (J_bin rfl (Opd.tmp rfl) Opd.con B_lss) ?_
    refine RegL.pure (p := (pEq (.bool (decide ((s_0.size : Int) < (1 : Int)))))) rfl rfl rfl (J_move rfl (Opd.tmp rfl)) ?_
    rcases Bool.eq_false_or_eq_true (decide ((s_0.size : Int) < (1 : Int))) with hc2 | hc2
    · replace h := bif_t hc2 h
      refine RegL.skipG rfl rfl rfl hc2 rfl rfl ?_
      refine RegL.skipG rfl rfl rfl hc2 rfl rfl ?_
      refine RegL.skipG rfl rfl rfl hc2 rfl rfl ?_
      refine RegL.pure (p := (pEq (.bool true))) rfl rfl rfl (J_pick rfl (Opd.tmp rfl) (fun _ => Opd.con) (fun hf => absurd (hc2.symm.trans hf) (by decide))) ?_
      refine RegL.pure (p := (pEq (.bool true))) rfl rfl rfl (J_move rfl (Opd.tmp rfl)) ?_
      refine RegL.skipG rfl rfl rfl rfl rfl rfl ?_
      refine RegL.skipG rfl rfl rfl rfl rfl rfl ?_
      refine RegL.skipG rfl rfl rfl rfl rfl rfl ?_
      refine RegL.pure (p := (pEq (.bool true))) rfl rfl rfl (J_pick rfl (Opd.tmp rfl) (fun _ => Opd.con) (fun hf => absurd hf (by decide))) ?_
      refine RegL.pure (p := (pEq (.bool true))) rfl rfl rfl (J_move rfl (Opd.tmp rfl)) ?_
      refine RegL.skipG rfl rfl rfl rfl rfl rfl ?_
      refine RegL.skipG rfl rfl rfl rfl rfl rfl ?_
      refine RegL.skipG rfl rfl rfl rfl rfl rfl ?_
      refine RegL.pure (p := (pEq (.bool true))) rfl rfl rfl (J_pick rfl (Opd.tmp rfl) (fun _ => Opd.con) (fun hf => absurd hf (by decide))) ?_
      refine RegL.nil ?_
      replace h := Option.some.inj h; subst h
      exact Ct.mid () rfl ⟨rfl, rfl, trivial⟩
    · replace h := bif_f hc2 h
      refine RegL.pureG (p := (pEq (.string s_0))) rfl rfl rfl hc2 rfl rfl (J_move rfl (Opd.tmp rfl)) ?_
      refine RegL.pureG (p := (pEq (.int .i64 (s_0.size : Int)))) rfl rfl rfl hc2 rfl rfl (J_slen rfl Try.underlying9 (Opd.tmp rfl) rfl) ?_
      refine RegL.pureG (p := (pEq (.bool (decide ((10 : Int) < (s_0.size : Int)))))) rfl rfl rfl hc2 rfl rfl (J_bin rfl (Opd.tmp rfl) Opd.con B_gtr) ?_
      refine RegL.pure (p := (pEq (.bool (decide ((10 : Int) < (s_0.size : Int)))))) rfl rfl rfl (J_pick rfl (Opd.tmp rfl) (fun hf => absurd (hc2.symm.trans hf) (by decide)) (fun _ => (Opd.tmp rfl))) ?_
      refine RegL.pure (p := (pEq (.bool (decide ((10 : Int) < (s_0.size : Int)))))) rfl rfl rfl (J_move rfl (Opd.tmp rfl)) ?_
      rcases Bool.eq_false_or_eq_true (decide ((10 : Int) < (s_0.size : Int))) with hc3 | hc3
      · replace h := bif_t hc3 h
        refine RegL.skipG rfl rfl rfl hc3 rfl rfl ?_
        refine RegL.skipG rfl rfl rfl hc3 rfl rfl ?_
        refine RegL.skipG rfl rfl rfl hc3 rfl rfl ?_
        refine RegL.pure (p := (pEq (.bool true))) rfl rfl rfl (J_pick rfl (Opd.tmp rfl) (fun _ => Opd.con) (fun hf => absurd (hc3.symm.trans hf) (by decide))) ?_
        refine RegL.pure (p := (pEq (.bool true))) rfl rfl rfl (J_move rfl (Opd.tmp rfl)) ?_
        refine RegL.skipG rfl rfl rfl rfl rfl rfl ?_
        refine RegL.skipG rfl rfl rfl rfl rfl rfl ?_
        refine RegL.skipG rfl rfl rfl rfl rfl rfl ?_
        refine RegL.pure (p := (pEq (.bool true))) rfl rfl rfl (J_pick rfl (Opd.tmp rfl) (fun _ => Opd.con) (fun hf => absurd hf (by decide))) ?_
        refine RegL.nil ?_
        replace h := Option.some.inj h; subst h
        exact Ct.mid () rfl ⟨rfl, rfl, trivial⟩
      · replace h := bif_f hc3 h
        refine RegL.pureG (p := (pEq (.string s_0))) rfl rfl rfl hc3 rfl rfl (J_move rfl (Opd.tmp rfl)) ?_
        replace h := bind_some h; obtain ⟨y4, hy4, h⟩ := h
        refine RegL.pureG (p := (pEq (.int .u8 (y4.toNat : Int)))) rfl rfl rfl hc3 rfl rfl (J_sidx rfl Try.underlying9 (Opd.tmp rfl) Opd.con hy4) ?_
        refine RegL.pureG (p := (pEq (.bool (decide ((y4.toNat : Int) < (97 : Int)))))) rfl rfl rfl hc3 rfl rfl (J_bin rfl (Opd.tmp rfl) Opd.con B_lss) ?_
        refine RegL.pure (p := (pEq (.bool (decide ((y4.toNat : Int) < (97 : Int)))))) rfl rfl rfl (J_pick rfl (Opd.tmp rfl) (fun hf => absurd (hc3.symm.trans hf) (by decide)) (fun _ => (Opd.tmp rfl))) ?_
        refine RegL.pure (p := (pEq (.bool (decide ((y4.toNat : Int) < (97 : Int)))))) rfl rfl rfl (J_move rfl (Opd.tmp rfl)) ?_
        rcases Bool.eq_false_or_eq_true (decide ((y4.toNat : Int) < (97 : Int))) with hc5 | hc5
        · replace h := bif_t hc5 h
          refine RegL.skipG rfl rfl rfl hc5 rfl rfl ?_
          refine RegL.skipG rfl rfl rfl hc5 rfl rfl ?_
          refine RegL.skipG rfl rfl rfl hc5 rfl rfl ?_
          refine RegL.pure (p := (pEq (.bool true))) rfl rfl rfl (J_pick rfl (Opd.tmp rfl) (fun _ => Opd.con) (fun hf => absurd (hc5.symm.trans hf) (by decide))) ?_
          refine RegL.nil ?_
          replace h := Option.some.inj h; subst h
          exact Ct.mid () rfl ⟨rfl, rfl, trivial⟩
        · replace h := bif_f hc5 h
          refine RegL.pureG (p := (pEq (.string s_0))) rfl rfl rfl hc5 rfl rfl (J_move rfl (Opd.tmp rfl)) ?_
          replace h := bind_some h; obtain ⟨y6, hy6, h⟩ := h
          refine RegL.pureG (p := (pEq (.int .u8 (y6.toNat : Int)))) rfl rfl rfl hc5 rfl rfl (J_sidx rfl Try.underlying9 (Opd.tmp rfl) Opd.con hy6) ?_
          refine RegL.pureG (p := (pEq (.bool (decide ((122 : Int) < (y6.toNat : Int)))))) rfl rfl rfl hc5 rfl rfl (J_bin rfl (Opd.tmp rfl) Opd.con B_gtr) ?_
          refine RegL.pure (p := (pEq (.bool (decide ((122 : Int) < (y6.toNat : Int)))))) rfl rfl rfl (J_pick rfl (Opd.tmp rfl) (fun hf => absurd (hc5.symm.trans hf) (by decide)) (fun _ => (Opd.tmp rfl))) ?_
          refine RegL.nil ?_
          replace h := Option.some.inj h; subst h
          exact Ct.mid () rfl ⟨rfl, rfl, trivial⟩
  · clear hx1
    refine Ct.then_tr ?_
    refine Tr.weak (Γ' := [(0, (pEq (.string s_0))), (20, (pEq (.bool x1)))]) ⟨rfl, rfl, trivial⟩ ?_
    refine Tr.cond (Opd.tmp rfl) (fun hc => ?_) (fun hc => ?_)
    · replace h := bif_t hc h
      refine Tr.seq ?_
      refine Tr.region ?_
      refine RegL.pure (p := (pEq (.bool false))) rfl rfl rfl (J_assign rfl Opd.con) ?_
      refine RegL.nil ?_
      refine Ct.then_tr ?_
      refine Tr.weak (Γ' := [(2, (pEq (.bool false)))]) ⟨rfl, trivial⟩ ?_
      refine Tr.ret ?_
      refine Ct.then_ret ?_
      replace h := Option.some.inj h; subst h
      exact Ct.ret1 rfl rfl
    · replace h := bif_f hc h
      refine Tr.skip ?_
      refine Ct.then_tr ?_
      refine Tr.weak (Γ' := [(0, (pEq (.string s_0)))]) ⟨rfl, trivial⟩ ?_
      refine Tr.seq ?_
      refine Tr.region ?_
      refine RegL.pure (p := (pEq (.string s_0))) rfl rfl rfl (J_move rfl (Opd.tmp rfl)) ?_
      replace h := bind_some h; obtain ⟨x8, hx8, h⟩ := h
      refine RegL.pure (p := (pEq (.bool x8))) rfl rfl rfl (J_call rfl Try.call107 (c_impl_onlyNameBytes hx8) (Opds.cons (Opd.tmp rfl) Opds.nil)) ?_
      refine RegL.pure (p := (pEq (.bool x8))) rfl rfl rfl (J_assign rfl (Opd.tmp rfl)) ?_
      refine RegL.nil ?_
      refine Ct.then_tr ?_
      refine Tr.weak (Γ' := [(2, (pEq (.bool x8)))]) ⟨rfl, trivial⟩ ?_
      refine Tr.ret ?_
      replace h := Option.some.inj h; subst h
      exact Ct.ret1 rfl rfl

theorem c_impl_within {n_0 : Int} {low_1 : Int} {high_2 : Int} {r : Bool} (h : m_impl_within n_0 low_1 high_2 = some r) : CallJ Try.prog 82 [(pEq (.int .i64 n_0)), (pEq (.int .i64 low_1)), (pEq (.int .i64 high_2))] (pEq (.bool r)) := by
  unfold m_impl_within at h
  refine CallJ.enter Try.func82 rfl Try.ntmps82 rfl fun W I0 => ?_
  refine Tr.weak (Γ' := [(0, (pEq (.int .i64 n_0))), (1, (pEq (.int .i64 low_1))), (2, (pEq (.int .i64 high_2)))]) ⟨rfl, rfl, rfl, trivial⟩ ?_
  refine Tr.seq ?_
  refine Tr.region ?_
  refine RegL.pure (p := (pEq (.bool false))) rfl rfl rfl (J_assign rfl Opd.con) ?_
  refine RegL.nil ?_
  refine Ct.then_tr ?_
  refine Tr.weak (Γ' := [(0, (pEq (.int .i64 n_0))), (1, (pEq (.int .i64 low_1))), (2, (pEq (.int .i64 high_2)))]) ⟨rfl, rfl, rfl, trivial⟩ ?_
  refine Tr.seq ?_
  replace h := bind_some h; obtain ⟨x1, hx1, h⟩ := h
  refine Tr.cut (γ := Unit) (Γm := fun g => [(6, (pEq (.bool x1)))]) (Ωm := fun g => []) ?_ (fun g3 => ?_)
  · clear h
    have h := hx1
    clear hx1
    refine Tr.region ?_
    refine RegL.pure (p := (pEq (.int .i64 n_0))) rfl rfl rfl (J_move rfl (Opd.tmp rfl)) ?_
    refine RegL.pure (p := (pEq (.int .i64 low_1))) rfl rfl rfl (J_move rfl (Opd.tmp rfl)) ?_
    refine RegL.pure (p := (pEq (.bool (decide (low_1 ≤ n_0))))) rfl rfl rfl (J_bin rfl (Opd.tmp rfl) (Opd.tmp rfl) B_geq) ?_
    refine RegL.pure (p := (pEq (.bool (decide (low_1 ≤ n_0))))) rfl rfl rfl (J_move rfl (Opd.tmp rfl)) ?_
    rcases Bool.eq_false_or_eq_true (decide (low_1 ≤ n_0)) with hc2 | hc2
    · replace h := bif_t hc2 h
      refine RegL.pureG (p := (pEq (.int .i64 n_0))) rfl rfl rfl hc2 rfl rfl (J_move rfl (Opd.tmp rfl)) ?_
      refine RegL.pureG (p := (pEq (.int .i64 high_2))) rfl rfl rfl hc2 rfl rfl (J_move rfl (Opd.tmp rfl)) ?_
      refine RegL.pureG (p := (pEq (.bool (decide (n_0 ≤ high_2))))) rfl rfl rfl hc2 rfl rfl (J_bin rfl (Opd.tmp rfl) (Opd.tmp rfl) B_leq) ?_
      refine RegL.pure (p := (pEq (.bool (decide (n_0 ≤ high_2))))) rfl rfl rfl (J_pick rfl (Opd.tmp rfl) (fun _ => (Opd.tmp rfl)) (fun hf => absurd (hc2.symm.trans hf) (by decide))) ?_
      refine RegL.pure (p := (pEq (.bool (decide (n_0 ≤ high_2))))) rfl rfl rfl (J_assign rfl (Opd.tmp rfl)) ?_
      refine RegL.nil ?_
      replace h := Option.some.inj h; subst h
      exact Ct.mid () rfl ⟨rfl, trivial⟩
    · replace h := bif_f hc2 h
      refine RegL.skipG rfl rfl rfl hc2 rfl rfl ?_
      refine RegL.skipG rfl rfl rfl hc2 rfl rfl ?_
      refine RegL.skipG rfl rfl rfl hc2 rfl rfl ?_
      refine RegL.pure (p := (pEq (.bool false))) rfl rfl rfl (J_pick rfl (Opd.tmp rfl) (fun hf => absurd (hc2.symm.trans hf) (by decide)) (fun _ => Opd.con)) ?_
      refine RegL.pure (p := (pEq (.bool false))) rfl rfl rfl (J_assign rfl (Opd.tmp rfl)) ?_
      refine RegL.nil ?_
      replace h := Option.some.inj h; subst h
      exact Ct.mid () rfl ⟨rfl, trivial⟩
  · clear hx1
    refine Ct.then_tr ?_
    refine Tr.weak (Γ' := [(6, (pEq (.bool x1)))]) ⟨rfl, trivial⟩ ?_
    refine Tr.ret ?_
    replace h := Option.some.inj h; subst h
    exact Ct.ret1 rfl rfl

theorem c_impl_Band_count {b_0 : GBand} {r : Int} (h : m_impl_Band_count b_0 = some r) : CallJ Try.prog 68 [(pAgg (cGBand b_0))] (pEq (.int .i64 r)) := by
  unfold m_impl_Band_count at h
  refine CallJ.enter Try.func68 rfl Try.ntmps68 rfl fun W I0 => ?_
  refine Tr.weak (Γ' := [(0, (pAgg (cGBand b_0)))]) ⟨rfl, trivial⟩ ?_
  refine Tr.seq ?_
  refine Tr.region ?_
  refine RegL.pure (p := (pPtr (cGBand b_0))) rfl rfl rfl (J_boxA rfl (Opd.tmp rfl)) ?_
  refine RegL.pure (p := (pEq (.int .i64 (0 : Int)))) rfl rfl rfl (J_assign rfl Opd.con) ?_
  refine RegL.nil ?_
  refine Ct.then_tr ?_
  refine Tr.weak (Γ' := [(1, (pPtr (cGBand b_0)))]) ⟨rfl, trivial⟩ ?_
  refine Tr.seq ?_
  refine Tr.region ?_
  refine RegL.pure (p := (pPtr ((cK .i64) b_0.High))) rfl rfl rfl (J_fieldAddr rfl Try.underlying32 rfl sz2 (by decide) (Opd.tmp rfl) rfl) ?_
  refine RegL.pure (p := (pEq (.int .i64 b_0.High))) rfl rfl rfl (J_load rfl Try.isAgg2 (Opd.tmp rfl)) ?_
  refine RegL.pure (p := (pPtr ((cK .i64) b_0.Low))) rfl rfl rfl (J_fieldAddr rfl Try.underlying32 rfl sz2 (by decide) (Opd.tmp rfl) rfl) ?_
  refine RegL.pure (p := (pEq (.int .i64 b_0.Low))) rfl rfl rfl (J_load rfl Try.isAgg2 (Opd.tmp rfl)) ?_
  refine RegL.pure (p := (pEq (.int .i64 (w64 (b_0.High - b_0.Low))))) rfl rfl rfl (J_bin rfl (Opd.tmp rfl) (Opd.tmp rfl) B_sub) ?_
  refine RegL.pure (p := (pPtr ((cK .i64) b_0.Raster))) rfl rfl rfl (J_fieldAddr rfl Try.underlying32 rfl sz2 (by decide) (Opd.tmp rfl) rfl) ?_
  refine RegL.pure (p := (pEq (.int .i64 b_0.Raster))) rfl rfl rfl (J_load rfl Try.isAgg2 (Opd.tmp rfl)) ?_
  replace h := bind_some h; obtain ⟨x1, hx1, h⟩ := h
  refine RegL.pure (p := (pEq (.int .i64 x1))) rfl rfl rfl (J_bin rfl (Opd.tmp rfl) (Opd.tmp rfl) (B_qdiv hx1)) ?_
  refine RegL.pure (p := (pEq (.int .i64 x1))) rfl rfl rfl (J_assign rfl (Opd.tmp rfl)) ?_
  refine RegL.nil ?_
  refine Ct.then_tr ?_
  refine Tr.weak (Γ' := [(2, (pEq (.int .i64 x1)))]) ⟨rfl, trivial⟩ ?_
  refine Tr.ret ?_
  replace h := Option.some.inj h; subst h
  exact Ct.ret1 rfl rfl

theorem c_impl_ValidBand {b_0 : GBand} {r : Bool} (h : m_impl_ValidBand b_0 = some r) : CallJ Try.prog 65 [(pAgg (cGBand b_0))] (pEq (.bool r)) := by
  unfold m_impl_ValidBand at h
  refine CallJ.enter Try.func65 rfl Try.ntmps65 rfl fun W I0 => ?_
  refine Tr.weak (Γ' := [(0, (pAgg (cGBand b_0)))]) ⟨rfl, trivial⟩ ?_
  refine Tr.seq ?_
  refine Tr.region ?_
  refine RegL.pure (p := (pPtr (cGBand b_0))) rfl rfl rfl (J_boxA rfl (Opd.tmp rfl)) ?_
  refine RegL.pure (p := (pEq (.bool false))) rfl rfl rfl (J_assign rfl Opd.con) ?_
  refine RegL.nil ?_
  refine Ct.then_tr ?_
  refine Tr.weak (Γ' := [(1, (pPtr (cGBand b_0)))]) ⟨rfl, trivial⟩ ?_
  refine Tr.seq ?_
  refine Tr.seq ?_
  replace h := bind_some h; obtain ⟨x1, hx1, h⟩ := h
  refine Tr.cut (γ := Unit) (Γm := fun g => [(1, (pPtr (cGBand b_0))), (32, (pEq (.bool x1)))]) (Ωm := fun g => []) ?_ (fun g12 => ?_)
  · clear h
    have h := hx1
    clear hx1
    refine Tr.region ?_
    refine RegL.pure (p := (pPtr (cS b_0.Name))) rfl rfl rfl (J_fieldAddr rfl Try.underlying32 rfl sz9 (by decide) (Opd.tmp rfl) rfl) ?_
    refine RegL.pure (p := (pEq (.string b_0.Name))) rfl rfl rfl (J_load rfl Try.isAgg9 (Opd.tmp rfl)) ?_
    replace h := bind_some h; obtain ⟨x2, hx2, h⟩ := h
    refine RegL.pure (p := (pEq (.bool x2))) rfl rfl rfl (J_call rfl Try.call93 (c_impl_IsName hx2) (Opds.cons (Opd.tmp rfl) Opds.nil)) ?_
    refine RegL.pure (p := (pEq (.bool (!x2)))) rfl rfl rfl (J_not rfl (Opd.tmp rfl)) ?_
    refine RegL.pure (p := (pEq (.bool (!x2)))) rfl rfl rfl (J_move rfl (Opd.tmp rfl)) ?_
    rcases Bool.eq_false_or_eq_true (!x2) with hc3 | hc3
    · replace h := bif_t hc3 h
      refine RegL.skipG rfl rfl rfl hc3 rfl rfl ?_
      refine RegL.skipG rfl rfl rfl hc3 rfl rfl ?_
      refine RegL.skipG rfl rfl rfl hc3 rfl rfl ?_
      refine RegL.skipG rfl rfl rfl hc3 rfl rfl ?_
      refine RegL.pure (p := (pEq (.bool true))) rfl rfl rfl (J_pick rfl (Opd.tmp rfl) (fun _ => Opd.con) (fun hf => absurd (hc3.symm.trans hf) (by decide))) ?_
      refine RegL.pure (p := (pEq (.bool true))) rfl rfl rfl (J_move rfl (Opd.tmp rfl)) ?_
      refine RegL.skipG rfl rfl rfl rfl rfl rfl ?_
      refine RegL.skipG rfl rfl rfl rfl rfl rfl ?_
      refine RegL.skipG rfl rfl rfl rfl rfl rfl ?_
      refine RegL.skipG rfl rfl rfl rfl rfl rfl ?_
      refine RegL.skipG rfl rfl rfl rfl rfl rfl ?_
      refine RegL.skipG rfl rfl rfl rfl rfl rfl ?_
      refine RegL.pure (p := (pEq (.bool true))) rfl rfl rfl (J_pick rfl (Opd.tmp rfl) (fun _ => Opd.con) (fun hf => absurd hf (by decide))) ?_
      refine RegL.pure (p := (pEq (.bool true))) rfl rfl rfl (J_move rfl (Opd.tmp rfl)) ?_
      refine RegL.skipG rfl rfl rfl rfl rfl rfl ?_
      refine RegL.skipG rfl rfl rfl rfl rfl rfl ?_
      refine RegL.skipG rfl rfl rfl rfl rfl rfl ?_
      refine RegL.skipG rfl rfl rfl rfl rfl rfl ?_
      refine RegL.pure (p := (pEq (.bool true))) rfl rfl rfl (J_pick rfl (Opd.tmp rfl) (fun _ => Opd.con) (fun hf => absurd hf (by decide))) ?_
      refine RegL.pure (p := (pEq (.bool true))) rfl rfl rfl (J_move rfl (Opd.tmp rfl)) ?_
      refine RegL.skipG rfl rfl rfl rfl rfl rfl ?_
      refine RegL.skipG rfl rfl rfl rfl rfl rfl ?_
      refine RegL.skipG rfl rfl rfl rfl rfl rfl ?_
      refine RegL.skipG rfl rfl rfl rfl rfl rfl ?_
      refine RegL.pure (p := (pEq (.bool true))) rfl rfl rfl (J_pick rfl (Opd.tmp rfl) (fun _ => Opd.con) (fun hf => absurd hf (by decide))) ?_
      refine RegL.nil ?_
      replace h := Option.some.inj h; subst h
      exact Ct.mid () rfl ⟨rfl, rfl, trivial⟩
    · replace h := bif_f hc3 h
      refine RegL.pureG (p := (pPtr ((cK .i64) b_0.Low))) rfl rfl rfl hc3 rfl rfl (J_fieldAddr rfl Try.underlying32 rfl sz2 (by decide) (Opd.tmp rfl) rfl) ?_
      refine RegL.pureG (p := (pEq (.int .i64 b_0.Low))) rfl rfl rfl hc3 rfl rfl (J_load rfl Try.isAgg2 (Opd.tmp rfl)) ?_
      replace h := bind_some h; obtain ⟨x4, hx4, h⟩ := h
      refine RegL.pureG (p := (pEq (.bool x4))) rfl rfl rfl hc3 rfl rfl (J_call rfl Try.call82 (c_impl_within hx4) (Opds.cons (Opd.tmp rfl) (Opds.cons Opd.con (Opds.cons Opd.con Opds.nil)))) ?_
      refine RegL.pureG (p := (pEq (.bool (!x4)))) rfl rfl rfl hc3 rfl rfl (J_not rfl (Opd.tmp rfl)) ?_
      refine RegL.pure (p := (pEq (.bool (!x4)))) rfl rfl rfl (J_pick rfl (Opd.tmp rfl) (fun hf => absurd (hc3.symm.trans hf) (by decide)) (fun _ => (Opd.tmp rfl))) ?_
      refine RegL.pure (p := (pEq (.bool (!x4)))) rfl rfl rfl (J_move rfl (Opd.tmp rfl)) ?_
      rcases Bool.eq_false_or_eq_true (!x4) with hc5 | hc5
      · replace h := bif_t hc5 h
        refine RegL.skipG rfl rfl rfl hc5 rfl rfl ?_
        refine RegL.skipG rfl rfl rfl hc5 rfl rfl ?_
        refine RegL.skipG rfl rfl rfl hc5 rfl rfl ?_
        refine RegL.skipG rfl rfl rfl hc5 rfl rfl ?_
        refine RegL.skipG rfl rfl rfl hc5 rfl rfl ?_
        refine RegL.skipG rfl rfl rfl hc5 rfl rfl ?_
        refine RegL.pure (p := (pEq (.bool true))) rfl rfl rfl (J_pick rfl (Opd.tmp rfl) (fun _ => Opd.con) (fun hf => absurd (hc5.symm.trans hf) (by decide))) ?_
        refine RegL.pure (p := (pEq (.bool true))) rfl rfl rfl (J_move rfl (Opd.tmp rfl)) ?_
        refine RegL.skipG rfl rfl rfl rfl rfl rfl ?_
        refine RegL.skipG rfl rfl rfl rfl rfl rfl ?_
        refine RegL.skipG rfl rfl rfl rfl rfl rfl ?_
        refine RegL.skipG rfl rfl rfl rfl rfl rfl ?_
        refine RegL.pure (p := (pEq (.bool true))) rfl rfl rfl (J_pick rfl (Opd.tmp rfl) (fun _ => Opd.con) (fun hf => absurd hf (by decide))) ?_
        refine RegL.pure (p := (pEq (.bool true))) rfl rfl rfl (J_move rfl (Opd.tmp rfl)) ?_
        refine RegL.skipG rfl rfl rfl rfl rfl rfl ?_
        refine RegL.skipG rfl rfl rfl rfl rfl rfl ?_
        refine RegL.skipG rfl rfl rfl rfl rfl rfl ?_
        refine RegL.skipG rfl rfl rfl rfl rfl rfl ?_
        refine RegL.pure (p := (pEq (.bool true))) rfl rfl rfl (J_pick rfl (Opd.tmp rfl) (fun _ => Opd.con) (fun hf => absurd hf (by decide))) ?_
        refine RegL.nil ?_
        replace h := Option.some.inj h; subst h
        exact Ct.mid () rfl ⟨rfl, rfl, trivial⟩
      · replace h := bif_f hc5 h
        refine RegL.pureG (p := (pPtr ((cK .i64) b_0.High))) rfl rfl rfl hc5 rfl rfl (J_fieldAddr rfl Try.underlying32 rfl sz2 (by decide) (Opd.tmp rfl) rfl) ?_
        refine RegL.pureG (p := (pEq (.int .i64 b_0.High))) rfl rfl rfl hc5 rfl rfl (J_load rfl Try.isAgg2 (Opd.tmp rfl)) ?_
        refine RegL.pureG (p := (pPtr ((cK .i64) b_0.Low))) rfl rfl rfl hc5 rfl rfl (J_fieldAddr rfl Try.underlying32 rfl sz2 (by decide) (Opd.tmp rfl) rfl) ?_
        refine RegL.pureG (p := (pEq (.int .i64 b_0.Low))) rfl rfl rfl hc5 rfl rfl (J_load rfl Try.isAgg2 (Opd.tmp rfl)) ?_
        replace h := bind_some h; obtain ⟨x6, hx6, h⟩ := h
        refine RegL.pureG (p := (pEq (.bool x6))) rfl rfl rfl hc5 rfl rfl (J_call rfl Try.call82 (c_impl_within hx6) (Opds.cons (Opd.tmp rfl) (Opds.cons (Opd.tmp rfl) (Opds.cons Opd.con Opds.nil)))) ?_
        refine RegL.pureG (p := (pEq (.bool (!x6)))) rfl rfl rfl hc5 rfl rfl (J_not rfl (Opd.tmp rfl)) ?_
        refine RegL.pure (p := (pEq (.bool (!x6)))) rfl rfl rfl (J_pick rfl (Opd.tmp rfl) (fun hf => absurd (hc5.symm.trans hf) (by decide)) (fun _ => (Opd.tmp rfl))) ?_
        refine RegL.pure (p := (pEq (.bool (!x6)))) rfl rfl rfl (J_move rfl (Opd.tmp rfl)) ?_
        rcases Bool.eq_false_or_eq_true (!x6) with hc7 | hc7
        · replace h := bif_t hc7 h
          refine RegL.skipG rfl rfl rfl hc7 rfl rfl ?_
          refine RegL.skipG rfl rfl rfl hc7 rfl rfl ?_
          refine RegL.skipG rfl rfl rfl hc7 rfl rfl ?_
          refine RegL.skipG rfl rfl rfl hc7 rfl rfl ?_
          refine RegL.pure (p := (pEq (.bool true))) rfl rfl rfl (J_pick rfl (Opd.tmp rfl) (fun _ => Opd.con) (fun hf => absurd (hc7.symm.trans hf) (by decide))) ?_
          refine RegL.pure (p := (pEq (.bool true))) rfl rfl rfl (J_move rfl (Opd.tmp rfl)) ?_
          refine RegL.skipG rfl rfl rfl rfl rfl rfl ?_
          refine RegL.skipG rfl rfl rfl rfl rfl rfl ?_
          refine RegL.skipG rfl rfl rfl rfl rfl rfl ?_
          refine RegL.skipG rfl rfl rfl rfl rfl rfl ?_
          refine RegL.pure (p := (pEq (.bool true))) rfl rfl rfl (J_pick rfl (Opd.tmp rfl) (fun _ => Opd.con) (fun hf => absurd hf (by decide))) ?_
          refine RegL.nil ?_
          replace h := Option.some.inj h; subst h
          exact Ct.mid () rfl ⟨rfl, rfl, trivial⟩
        · replace h := bif_f hc7 h
          refine RegL.pureG (p := (pPtr ((cK .i64) b_0.Raster))) rfl rfl rfl hc7 rfl rfl (J_fieldAddr rfl Try.underlying32 rfl sz2 (by decide) (Opd.tmp rfl) rfl) ?_
          refine RegL.pureG (p := (pEq (.int .i64 b_0.Raster))) rfl rfl rfl hc7 rfl rfl (J_load rfl Try.isAgg2 (Opd.tmp rfl)) ?_
          replace h := bind_some h; obtain ⟨x8, hx8, h⟩ := h
          refine RegL.pureG (p := (pEq (.bool x8))) rfl rfl rfl hc7 rfl rfl (J_call rfl Try.call82 (c_impl_within hx8) (Opds.cons (Opd.tmp rfl) (Opds.cons Opd.con (Opds.cons Opd.con Opds.nil)))) ?_
          refine RegL.pureG (p := (pEq (.bool (!x8)))) rfl rfl rfl hc7 rfl rfl (J_not rfl (Opd.tmp rfl)) ?_
          refine RegL.pure (p := (pEq (.bool (!x8)))) rfl rfl rfl (J_pick rfl (Opd.tmp rfl) (fun hf => absurd (hc7.symm.trans hf) (by decide)) (fun _ => (Opd.tmp rfl))) ?_
          refine RegL.pure (p := (pEq (.bool (!x8)))) rfl rfl rfl (J_move rfl (Opd.tmp rfl)) ?_
          rcases Bool.eq_false_or_eq_true (!x8) with hc9 | hc9
          · replace h := bif_t hc9 h
            refine RegL.skipG rfl rfl rfl hc9 rfl rfl ?_
            refine RegL.skipG rfl rfl rfl hc9 rfl rfl ?_
            refine RegL.skipG rfl rfl rfl hc9 rfl rfl ?_
            refine RegL.skipG rfl rfl rfl hc9 rfl rfl ?_
            refine RegL.pure (p := (pEq (.bool true))) rfl rfl rfl (J_pick rfl (Opd.tmp rfl) (fun _ => Opd.con) (fun hf => absurd (hc9.symm.trans hf) (by decide))) ?_
            refine RegL.nil ?_
            replace h := Option.some.inj h; subst h
            exact Ct.mid () rfl ⟨rfl, rfl, trivial⟩
          · replace h := bif_f hc9 h
            refine RegL.pureG (p := (pAgg (cGBand b_0))) rfl rfl rfl hc9 rfl rfl (J_loadA rfl Try.isAgg32 sz32 (Opd.tmp rfl) rfl) ?_
            replace h := bind_some h; obtain ⟨x10, hx10, h⟩ := h
            refine RegL.pureG (p := (pEq (.int .i64 x10))) rfl rfl rfl hc9 rfl rfl (J_call rfl Try.call68 (c_impl_Band_count hx10) (Opds.cons (Opd.tmp rfl) Opds.nil)) ?_
            replace h := bind_some h; obtain ⟨x11, hx11, h⟩ := h
            refine RegL.pureG (p := (pEq (.bool x11))) rfl rfl rfl hc9 rfl rfl (J_call rfl Try.call82 (c_impl_within hx11) (Opds.cons (Opd.tmp rfl) (Opds.cons Opd.con (Opds.cons Opd.con Opds.nil)))) ?_
            refine RegL.pureG (p := (pEq (.bool (!x11)))) rfl rfl rfl hc9 rfl rfl (J_not rfl (Opd.tmp rfl)) ?_
            refine RegL.pure (p := (pEq (.bool (!x11)))) rfl rfl rfl (J_pick rfl (Opd.tmp rfl) (fun hf => absurd (hc9.symm.trans hf) (by decide)) (fun _ => (Opd.tmp rfl))) ?_
            refine RegL.nil ?_
            replace h := Option.some.inj h; subst h
            exact Ct.mid () rfl ⟨rfl, rfl, trivial⟩
  · clear hx1
    refine Ct.then_tr ?_
    refine Tr.weak (Γ' := [(1, (pPtr (cGBand b_0))), (32, (pEq (.bool x1)))]) ⟨rfl, rfl, trivial⟩ ?_
    refine Tr.cond (Opd.tmp rfl) (fun hc => ?_) (fun hc => ?_)
    · replace h := bif_t hc h
      refine Tr.seq ?_
      refine Tr.region ?_
      refine RegL.pure (p := (pEq (.bool false))) rfl rfl rfl (J_assign rfl Opd.con) ?_
      refine RegL.nil ?_
      refine Ct.then_tr ?_
      refine Tr.weak (Γ' := [(2, (pEq (.bool false)))]) ⟨rfl, trivial⟩ ?_
      refine Tr.ret ?_
      refine Ct.then_ret ?_
      replace h := Option.some.inj h; subst h
      exact Ct.ret1 rfl rfl
    · replace h := bif_f hc h
      refine Tr.skip ?_
      refine Ct.then_tr ?_
      refine Tr.weak (Γ' := [(1, (pPtr (cGBand b_0)))]) ⟨rfl, trivial⟩ ?_
      refine Tr.seq ?_
      replace h := bind_some h; obtain ⟨x13, hx13, h⟩ := h
      refine Tr.cut (γ := Unit) (Γm := fun g => [(2, (pEq (.bool x13)))]) (Ωm := fun g => []) ?_ (fun g16 => ?_)
      · clear h
        have h := hx13
        clear hx13
        refine Tr.region ?_
        refine RegL.pure (p := (pPtr ((cK .i64) b_0.Duplex))) rfl rfl rfl (J_fieldAddr rfl Try.underlying32 rfl sz2 (by decide) (Opd.tmp rfl) rfl) ?_
        refine RegL.pure (p := (pEq (.int .i64 b_0.Duplex))) rfl rfl rfl (J_load rfl Try.isAgg2 (Opd.tmp rfl)) ?_
        refine RegL.pure (p := (pEq (.bool (b_0.Duplex == (0 : Int))))) rfl rfl rfl (J_bin rfl (Opd.tmp rfl) Opd.con B_eql) ?_
        refine RegL.pure (p := (pEq (.bool (b_0.Duplex == (0 : Int))))) rfl rfl rfl (J_move rfl (Opd.tmp rfl)) ?_
        rcases Bool.eq_false_or_eq_true (b_0.Duplex == (0 : Int)) with hc14 | hc14
        · replace h := bif_t hc14 h
          refine RegL.skipG rfl rfl rfl hc14 rfl rfl ?_
          refine RegL.skipG rfl rfl rfl hc14 rfl rfl ?_
          refine RegL.skipG rfl rfl rfl hc14 rfl rfl ?_
          refine RegL.skipG rfl rfl rfl hc14 rfl rfl ?_
          refine RegL.skipG rfl rfl rfl hc14 rfl rfl ?_
          refine RegL.skipG rfl rfl rfl hc14 rfl rfl ?_
          refine RegL.skipG rfl rfl rfl hc14 rfl rfl ?_
          refine RegL.skipG rfl rfl rfl hc14 rfl rfl ?_
          refine RegL.skipG rfl rfl rfl hc14 rfl rfl ?_
          refine RegL.skipG rfl rfl rfl hc14 rfl rfl ?_
          refine RegL.skipG rfl rfl rfl hc14 rfl rfl ?_
          refine RegL.pure (p := (pEq (.bool true))) rfl rfl rfl (J_pick rfl (Opd.tmp rfl) (fun _ => Opd.con) (fun hf => absurd (hc14.symm.trans hf) (by decide))) ?_
          refine RegL.pure (p := (pEq (.bool true))) rfl rfl rfl (J_assign rfl (Opd.tmp rfl)) ?_
          refine RegL.nil ?_
          replace h := Option.some.inj h; subst h
          exact Ct.mid () rfl ⟨rfl, trivial⟩
        · replace h := bif_f hc14 h
          refine RegL.pureG (p := (pPtr ((cK .i64) b_0.Duplex))) rfl rfl rfl hc14 rfl rfl (J_fieldAddr rfl Try.underlying32 rfl sz2 (by decide) (Opd.tmp rfl) rfl) ?_
          refine RegL.pureG (p := (pEq (.int .i64 b_0.Duplex))) rfl rfl rfl hc14 rfl rfl (J_load rfl Try.isAgg2 (Opd.tmp rfl)) ?_
          refine RegL.pureG (p := (pPtr ((cK .i64) b_0.High))) rfl rfl rfl hc14 rfl rfl (J_fieldAddr rfl Try.underlying32 rfl sz2 (by decide) (Opd.tmp rfl) rfl) ?_
          refine RegL.pureG (p := (pEq (.int .i64 b_0.High))) rfl rfl rfl hc14 rfl rfl (J_load rfl Try.isAgg2 (Opd.tmp rfl)) ?_
          refine RegL.pureG (p := (pPtr ((cK .i64) b_0.Low))) rfl rfl rfl hc14 rfl rfl (J_fieldAddr rfl Try.underlying32 rfl sz2 (by decide) (Opd.tmp rfl) rfl) ?_
          refine RegL.pureG (p := (pEq (.int .i64 b_0.Low))) rfl rfl rfl hc14 rfl rfl (J_load rfl Try.isAgg2 (Opd.tmp rfl)) ?_
          refine RegL.pureG (p := (pEq (.int .i64 (w64 (b_0.High - b_0.Low))))) rfl rfl rfl hc14 rfl rfl (J_bin rfl (Opd.tmp rfl) (Opd.tmp rfl) B_sub) ?_
          refine RegL.pureG (p := (pPtr ((cK .i64) b_0.High))) rfl rfl rfl hc14 rfl rfl (J_fieldAddr rfl Try.underlying32 rfl sz2 (by decide) (Opd.tmp rfl) rfl) ?_
          refine RegL.pureG (p := (pEq (.int .i64 b_0.High))) rfl rfl rfl hc14 rfl rfl (J_load rfl Try.isAgg2 (Opd.tmp rfl)) ?_
          refine RegL.pureG (p := (pEq (.int .i64 (w64 ((100000000 : Int) - b_0.High))))) rfl rfl rfl hc14 rfl rfl (J_bin rfl Opd.con (Opd.tmp rfl) B_sub) ?_
          replace h := bind_some h; obtain ⟨x15, hx15, h⟩ := h
          refine RegL.pureG (p := (pEq (.bool x15))) rfl rfl rfl hc14 rfl rfl (J_call rfl Try.call82 (c_impl_within hx15) (Opds.cons (Opd.tmp rfl) (Opds.cons (Opd.tmp rfl) (Opds.cons (Opd.tmp rfl) Opds.nil)))) ?_
          refine RegL.pure (p := (pEq (.bool x15))) rfl rfl rfl (J_pick rfl (Opd.tmp rfl) (fun hf => absurd (hc14.symm.trans hf) (by decide)) (fun _ => (Opd.tmp rfl))) ?_
          refine RegL.pure (p := (pEq (.bool x15))) rfl rfl rfl (J_assign rfl (Opd.tmp rfl)) ?_
          refine RegL.nil ?_
          replace h := Option.some.inj h; subst h
          exact Ct.mid () rfl ⟨rfl, trivial⟩
      · clear hx13
        refine Ct.then_tr ?_
        refine Tr.weak (Γ' := [(2, (pEq (.bool x13)))]) ⟨rfl, trivial⟩ ?_
        refine Tr.ret ?_
        replace h := Option.some.inj h; subst h
        exact Ct.ret1 rfl rfl

theorem c_impl_orNotFound {n_0 : Int} {ok_1 : Bool} {r : (Int × Int)} (h : m_impl_orNotFound n_0 ok_1 = some r) : CallJ Try.prog 67 [(pEq (.int .i64 n_0)), (pEq (.bool ok_1))] (pTup [(pEq (.int .i64 r.1)), (pEq (.int .i64 r.2))]) := by
  unfold m_impl_orNotFound at h
  refine CallJ.enter Try.func67 rfl Try.ntmps67 rfl fun W I0 => ?_
  refine Tr.weak (Γ' := [(0, (pEq (.int .i64 n_0))), (1, (pEq (.bool ok_1)))]) ⟨rfl, rfl, trivial⟩ ?_
  refine Tr.seq ?_
  refine Tr.region ?_
  refine RegL.pure (p := (pEq (.int .i64 (0 : Int)))) rfl rfl rfl (J_assign rfl Opd.con) ?_
  refine RegL.pure (p := (pEq (.int .i64 (0 : Int)))) rfl rfl rfl (J_assign rfl Opd.con) ?_
  refine RegL.nil ?_
  refine Ct.then_tr ?_
  refine Tr.weak (Γ' := [(0, (pEq (.int .i64 n_0))), (1, (pEq (.bool ok_1)))]) ⟨rfl, rfl, trivial⟩ ?_
  refine Tr.seq ?_
  refine Tr.seq ?_
  refine Tr.region ?_
  refine RegL.pure (p := (pEq (.bool ok_1))) rfl rfl rfl (J_move rfl (Opd.tmp rfl)) ?_
  refine RegL.pure (p := (pEq (.bool (!ok_1)))) rfl rfl rfl (J_not rfl (Opd.tmp rfl)) ?_
  refine RegL.nil ?_
  refine Ct.then_tr ?_
  refine Tr.weak (Γ' := [(0, (pEq (.int .i64 n_0))), (7, (pEq (.bool (!ok_1))))]) ⟨rfl, rfl, trivial⟩ ?_
  refine Tr.cond (Opd.tmp rfl) (fun hc => ?_) (fun hc => ?_)
  · replace h := bif_t hc h
    refine Tr.seq ?_
    refine Tr.region ?_
    refine RegL.pure (p := (pEq (.int .i64 (0 : Int)))) rfl rfl rfl (J_assign rfl Opd.con) ?_
    refine RegL.pure (p := (pEq (.int .i64 (3 : Int)))) rfl rfl rfl (J_assign rfl Opd.con) ?_
    refine RegL.nil ?_
    refine Ct.then_tr ?_
    refine Tr.weak (Γ' := [(4, (pEq (.int .i64 (0 : Int)))), (5, (pEq (.int .i64 (3 : Int))))]) ⟨rfl, rfl, trivial⟩ ?_
    refine Tr.ret ?_
    refine Ct.then_ret ?_
    replace h := Option.some.inj h; subst h
    exact Ct.ret2 rfl rfl rfl
  · replace h := bif_f hc h
    refine Tr.skip ?_
    refine Ct.then_tr ?_
    refine Tr.weak (Γ' := [(0, (pEq (.int .i64 n_0)))]) ⟨rfl, trivial⟩ ?_
    refine Tr.seq ?_
    refine Tr.region ?_
    refine RegL.pure (p := (pEq (.int .i64 n_0))) rfl rfl rfl (J_move rfl (Opd.tmp rfl)) ?_
    refine RegL.pure (p := (pEq (.int .i64 n_0))) rfl rfl rfl (J_assign rfl (Opd.tmp rfl)) ?_
    refine RegL.pure (p := (pEq (.int .i64 (0 : Int)))) rfl rfl rfl (J_assign rfl Opd.con) ?_
    refine RegL.nil ?_
    refine Ct.then_tr ?_
    refine Tr.weak (Γ' := [(4, (pEq (.int .i64 n_0))), (5, (pEq (.int .i64 (0 : Int))))]) ⟨rfl, rfl, trivial⟩ ?_
    refine Tr.ret ?_
    replace h := Option.some.inj h; subst h
    exact Ct.ret2 rfl rfl rfl

theorem c_impl_ChannelAt {b_0 : GBand} {f_1 : Int} {r : (Int × Int)} (h : m_impl_ChannelAt b_0 f_1 = some r) : CallJ Try.prog 24 [(pAgg (cGBand b_0)), (pEq (.int .i64 f_1))] (pTup [(pEq (.int .i64 r.1)), (pEq (.int .i64 r.2))]) := by
  unfold m_impl_ChannelAt at h
  refine CallJ.enter Try.func24 rfl Try.ntmps24 rfl fun W I0 => ?_
  refine Tr.weak (Γ' := [(0, (pAgg (cGBand b_0))), (1, (pEq (.int .i64 f_1)))]) ⟨rfl, rfl, trivial⟩ ?_
  refine Tr.seq ?_
  refine Tr.region ?_
  refine RegL.pure (p := (pPtr (cGBand b_0))) rfl rfl rfl (J_boxA rfl (Opd.tmp rfl)) ?_
  refine RegL.pure (p := (pEq (.int .i64 (0 : Int)))) rfl rfl rfl (J_assign rfl Opd.con) ?_
  refine RegL.pure (p := (pEq (.int .i64 (0 : Int)))) rfl rfl rfl (J_assign rfl Opd.con) ?_
  refine RegL.nil ?_
  refine Ct.then_tr ?_
  refine Tr.weak (Γ' := [(1, (pEq (.int .i64 f_1))), (2, (pPtr (cGBand b_0)))]) ⟨rfl, rfl, trivial⟩ ?_
  refine Tr.seq ?_
  refine Tr.seq ?_
  refine Tr.region ?_
  refine RegL.pure (p := (pAgg (cGBand b_0))) rfl rfl rfl (J_loadA rfl Try.isAgg32 sz32 (Opd.tmp rfl) rfl) ?_
  replace h := bind_some h; obtain ⟨x1, hx1, h⟩ := h
  refine RegL.pure (p := (pEq (.bool x1))) rfl rfl rfl (J_call rfl Try.call65 (c_impl_ValidBand hx1) (Opds.cons (Opd.tmp rfl) Opds.nil)) ?_
  refine RegL.pure (p := (pEq (.bool (!x1)))) rfl rfl rfl (J_not rfl (Opd.tmp rfl)) ?_
  refine RegL.nil ?_
  refine Ct.then_tr ?_
  refine Tr.weak (Γ' := [(1, (pEq (.int .i64 f_1))), (2, (pPtr (cGBand b_0))), (9, (pEq (.bool (!x1))))]) ⟨rfl, rfl, rfl, trivial⟩ ?_
  refine Tr.cond (Opd.tmp rfl) (fun hc => ?_) (fun hc => ?_)
  · replace h := bif_t hc h
    refine Tr.seq ?_
    refine Tr.region ?_
    refine RegL.pure (p := (pEq (.int .i64 (0 : Int)))) rfl rfl rfl (J_assign rfl Opd.con) ?_
    refine RegL.pure (p := (pEq (.int .i64 (1 : Int)))) rfl rfl rfl (J_assign rfl Opd.con) ?_
    refine RegL.nil ?_
    refine Ct.then_tr ?_
    refine Tr.weak (Γ' := [(4, (pEq (.int .i64 (0 : Int)))), (5, (pEq (.int .i64 (1 : Int))))]) ⟨rfl, rfl, trivial⟩ ?_
    refine Tr.ret ?_
    refine Ct.then_ret ?_
    replace h := Option.some.inj h; subst h
    exact Ct.ret2 rfl rfl rfl
  · replace h := bif_f hc h
    refine Tr.skip ?_
    refine Ct.then_tr ?_
    refine Tr.weak (Γ' := [(1, (pEq (.int .i64 f_1))), (2, (pPtr (cGBand b_0)))]) ⟨rfl, rfl, trivial⟩ ?_
    refine Tr.seq ?_
    refine Tr.seq ?_
    replace h := bind_some h; obtain ⟨x2, hx2, h⟩ := h
    refine Tr.cut (γ := Unit) (Γm := fun g => [(1, (pEq (.int .i64 f_1))), (2, (pPtr (cGBand b_0))), (17, (pEq (.bool x2)))]) (Ωm := fun g => []) ?_ (fun g4 => ?_)
    · clear h
      have h := hx2
      clear hx2
      refine Tr.region ?_
      refine RegL.pure (p := (pEq (.int .i64 f_1))) rfl rfl rfl (J_move rfl (Opd.tmp rfl)) ?_
      refine RegL.pure (p := (pPtr ((cK .i64) b_0.Low))) rfl rfl rfl (J_fieldAddr rfl Try.underlying32 rfl sz2 (by decide) (Opd.tmp rfl) rfl) ?_
      refine RegL.pure (p := (pEq (.int .i64 b_0.Low))) rfl rfl rfl (J_load rfl Try.isAgg2 (Opd.tmp rfl)) ?_
      refine RegL.pure (p := (pEq (.bool (decide (f_1 < b_0.Low))))) rfl rfl rfl (J_bin rfl (Opd.tmp rfl) (Opd.tmp rfl) B_lss) ?_
      refine RegL.pure (p := (pEq (.bool (decide (f_1 < b_0.Low))))) rfl rfl rfl (J_move rfl (Opd.tmp rfl)) ?_
      rcases Bool.eq_false_or_eq_true (decide (f_1 < b_0.Low)) with hc3 | hc3
      · replace h := bif_t hc3 h
        refine RegL.skipG rfl rfl rfl hc3 rfl rfl ?_
        refine RegL.skipG rfl rfl rfl hc3 rfl rfl ?_
        refine RegL.pure (p := (pEq (.bool true))) rfl rfl rfl (J_pick rfl (Opd.tmp rfl) (fun _ => Opd.con) (fun hf => absurd (hc3.symm.trans hf) (by decide))) ?_
        refine RegL.nil ?_
        replace h := Option.some.inj h; subst h
        exact Ct.mid () rfl ⟨rfl, rfl, rfl, trivial⟩
      · replace h := bif_f hc3 h
        refine RegL.pureG (p := (pEq (.int .i64 f_1))) rfl rfl rfl hc3 rfl rfl (J_move rfl (Opd.tmp rfl)) ?_
        refine RegL.pureG (p := (pEq (.bool (decide ((100000000 : Int) < f_1))))) rfl rfl rfl hc3 rfl rfl (J_bin rfl (Opd.tmp rfl) Opd.con B_gtr) ?_
        refine RegL.pure (p := (pEq (.bool (decide ((100000000 : Int) < f_1))))) rfl rfl rfl (J_pick rfl (Opd.tmp rfl) (fun hf => absurd (hc3.symm.trans hf) (by decide)) (fun _ => (Opd.tmp rfl))) ?_
        refine RegL.nil ?_
        replace h := Option.some.inj h; subst h
        exact Ct.mid () rfl ⟨rfl, rfl, rfl, trivial⟩
    · clear hx2
      refine Ct.then_tr ?_
      refine Tr.weak (Γ' := [(1, (pEq (.int .i64 f_1))), (2, (pPtr (cGBand b_0))), (17, (pEq (.bool x2)))]) ⟨rfl, rfl, rfl, trivial⟩ ?_
      refine Tr.cond (Opd.tmp rfl) (fun hc => ?_) (fun hc => ?_)
      · replace h := bif_t hc h
        refine Tr.seq ?_
        refine Tr.region ?_
        refine RegL.pure (p := (pEq (.int .i64 (0 : Int)))) rfl rfl rfl (J_assign rfl Opd.con) ?_
        refine RegL.pure (p := (pEq (.int .i64 (3 : Int)))) rfl rfl rfl (J_assign rfl Opd.con) ?_
        refine RegL.nil ?_
        refine Ct.then_tr ?_
        refine Tr.weak (Γ' := [(4, (pEq (.int .i64 (0 : Int)))), (5, (pEq (.int .i64 (3 : Int))))]) ⟨rfl, rfl, trivial⟩ ?_
        refine Tr.ret ?_
        refine Ct.then_ret ?_
        replace h := Option.some.inj h; subst h
        exact Ct.ret2 rfl rfl rfl
      · replace h := bif_f hc h
        refine Tr.skip ?_
        refine Ct.then_tr ?_
        refine Tr.weak (Γ' := [(1, (pEq (.int .i64 f_1))), (2, (pPtr (cGBand b_0)))]) ⟨rfl, rfl, trivial⟩ ?_
        refine Tr.seq ?_
        refine Tr.region ?_
        refine RegL.pure (p := (pEq (.int .i64 f_1))) rfl rfl rfl (J_move rfl (Opd.tmp rfl)) ?_
        refine RegL.pure (p := (pPtr ((cK .i64) b_0.Low))) rfl rfl rfl (J_fieldAddr rfl Try.underlying32 rfl sz2 (by decide) (Opd.tmp rfl) rfl) ?_
        refine RegL.pure (p := (pEq (.int .i64 b_0.Low))) rfl rfl rfl (J_load rfl Try.isAgg2 (Opd.tmp rfl)) ?_
        refine RegL.pure (p := (pEq (.int .i64 (w64 (f_1 - b_0.Low))))) rfl rfl rfl (J_bin rfl (Opd.tmp rfl) (Opd.tmp rfl) B_sub) ?_
        refine RegL.pure (p := (pPtr ((cK .i64) b_0.Raster))) rfl rfl rfl (J_fieldAddr rfl Try.underlying32 rfl sz2 (by decide) (Opd.tmp rfl) rfl) ?_
        refine RegL.pure (p := (pEq (.int .i64 b_0.Raster))) rfl rfl rfl (J_load rfl Try.isAgg2 (Opd.tmp rfl)) ?_
        replace h := bind_some h; obtain ⟨x5, hx5, h⟩ := h
        refine RegL.pure (p := (pEq (.int .i64 x5))) rfl rfl rfl (J_bin rfl (Opd.tmp rfl) (Opd.tmp rfl) (B_qdiv hx5)) ?_
        refine RegL.pure (p := (pEq (.int .i64 x5))) rfl rfl rfl (J_assign rfl (Opd.tmp rfl)) ?_
        refine RegL.nil ?_
        refine Ct.then_tr ?_
        refine Tr.weak (Γ' := [(2, (pPtr (cGBand b_0))), (6, (pEq (.int .i64 x5)))]) ⟨rfl, rfl, trivial⟩ ?_
        refine Tr.seq ?_
        refine Tr.region ?_
        refine RegL.pure (p := (pEq (.int .i64 x5))) rfl rfl rfl (J_move rfl (Opd.tmp rfl)) ?_
        refine RegL.pure (p := (pEq (.int .i64 x5))) rfl rfl rfl (J_move rfl (Opd.tmp rfl)) ?_
        refine RegL.pure (p := (pAgg (cGBand b_0))) rfl rfl rfl (J_loadA rfl Try.isAgg32 sz32 (Opd.tmp rfl) rfl) ?_
        replace h := bind_some h; obtain ⟨x6, hx6, h⟩ := h
        refine RegL.pure (p := (pEq (.int .i64 x6))) rfl rfl rfl (J_call rfl Try.call68 (c_impl_Band_count hx6) (Opds.cons (Opd.tmp rfl) Opds.nil)) ?_
        refine RegL.pure (p := (pEq (.bool (decide (x5 < x6))))) rfl rfl rfl (J_bin rfl (Opd.tmp rfl) (Opd.tmp rfl) B_lss) ?_
        replace h := bind_some h; obtain ⟨x7, hx7, h⟩ := h
        refine RegL.pure (p := (pTup [(pEq (.int .i64 x7.1)), (pEq (.int .i64 x7.2))])) rfl rfl rfl (J_call rfl Try.call67 (c_impl_orNotFound hx7) (Opds.cons (Opd.tmp rfl) (Opds.cons (Opd.tmp rfl) Opds.nil))) ?_
        refine RegL.pure (p := (pEq (.int .i64 x7.1))) rfl rfl rfl (J_extract rfl (Opd.tmp rfl) rfl) ?_
        refine RegL.pure (p := (pEq (.int .i64 x7.2))) rfl rfl rfl (J_extract rfl (Opd.tmp rfl) rfl) ?_
        refine RegL.pure (p := (pEq (.int .i64 x7.1))) rfl rfl rfl (J_assign rfl (Opd.tmp rfl)) ?_
        refine RegL.pure (p := (pEq (.int .i64 x7.2))) rfl rfl rfl (J_assign rfl (Opd.tmp rfl)) ?_
        refine RegL.nil ?_
        refine Ct.then_tr ?_
        refine Tr.weak (Γ' := [(4, (pEq (.int .i64 x7.1))), (5, (pEq (.int .i64 x7.2)))]) ⟨rfl, rfl, trivial⟩ ?_
        refine Tr.ret ?_
        replace h := Option.some.inj h; subst h
        exact Ct.ret2 rfl rfl rfl

theorem c_laws_FnExactChannelAt {aB_0 : GBand} {aF_1 : Int} {r : Bool} (h : m_laws_FnExactChannelAt aB_0 aF_1 = some r) : CallJ Try.prog 5 [(pAgg (cGBand aB_0)), (pEq (.int .i64 aF_1))] (pEq (.bool r)) := by
  unfold m_laws_FnExactChannelAt at h
  refine CallJ.enter Try.func5 rfl Try.ntmps5 rfl fun W I0 => ?_
  refine Tr.weak (Γ' := [(0, (pAgg (cGBand aB_0))), (1, (pEq (.int .i64 aF_1)))]) ⟨rfl, rfl, trivial⟩ ?_
  refine Tr.seq ?_
  refine Tr.region ?_
  refine RegL.pure (p := (pPtr (cGBand aB_0))) rfl rfl rfl (J_boxA rfl (Opd.tmp rfl)) ?_
  refine RegL.pure (p := (pEq (.bool false))) rfl rfl rfl (J_assign rfl Opd.con) ?_
  refine RegL.nil ?_
  refine Ct.then_tr ?_
  refine Tr.weak (Γ' := [(1, (pEq (.int .i64 aF_1))), (2, (pPtr (cGBand aB_0)))]) ⟨rfl, rfl, trivial⟩ ?_
  refine Tr.seq ?_
  refine Tr.region ?_
  refine RegL.pure (p := (pEq (.int .i64 (1048576 : Int)))) rfl rfl rfl (J_assign rfl Opd.con) ?_
  refine RegL.nil ?_
  refine Ct.then_tr ?_
  refine Tr.weak (Γ' := [(1, (pEq (.int .i64 aF_1))), (2, (pPtr (cGBand aB_0))), (5, (pEq (.int .i64 (1048576 : Int))))]) ⟨rfl, rfl, rfl, trivial⟩ ?_
  refine Tr.seq ?_
  refine Tr.region ?_
  refine RegL.pure (p := (pAgg (cGBand aB_0))) rfl rfl rfl (J_loadA rfl Try.isAgg29 sz29 (Opd.tmp rfl) rfl) ?_
  refine RegL.pure (p := (pEq (.int .i64 (1048576 : Int)))) rfl rfl rfl (J_move rfl (Opd.tmp rfl)) ?_
  replace h := bind_some h; obtain ⟨x1, hx1, h⟩ := h
  refine RegL.pure (p := (pEq (.int .i64 x1))) rfl rfl rfl (J_call rfl Try.call19 (c_laws_szBand hx1) (Opds.cons (Opd.tmp rfl) (Opds.cons (Opd.tmp rfl) Opds.nil))) ?_
  refine RegL.pure (p := (pEq (.int .i64 x1))) rfl rfl rfl (J_assign rfl (Opd.tmp rfl)) ?_
  refine RegL.nil ?_
  refine Ct.then_tr ?_
  refine Tr.weak (Γ' := [(1, (pEq (.int .i64 aF_1))), (2, (pPtr (cGBand aB_0))), (5, (pEq (.int .i64 x1)))]) ⟨rfl, rfl, rfl, trivial⟩ ?_
  refine Tr.seq ?_
  refine Tr.seq ?_
  refine Tr.region ?_
  refine RegL.pure (p := (pEq (.int .i64 x1))) rfl rfl rfl (J_move rfl (Opd.tmp rfl)) ?_
  refine RegL.pure (p := (pEq (.bool (decide (x1 < (0 : Int)))))) rfl rfl rfl (J_bin rfl (Opd.tmp rfl) Opd.con B_lss) ?_
  refine RegL.nil ?_
  refine Ct.then_tr ?_
  refine Tr.weak (Γ' := [(1, (pEq (.int .i64 aF_1))), (2, (pPtr (cGBand aB_0))), (14, (pEq (.bool (decide (x1 < (0 : Int))))))]) ⟨rfl, rfl, rfl, trivial⟩ ?_
  refine Tr.cond (Opd.tmp rfl) (fun hc => ?_) (fun hc => ?_)
  · replace h := bif_t hc h
    refine Tr.seq ?_
    refine Tr.region ?_
    refine RegL.pure (p := (pEq (.bool true))) rfl rfl rfl (J_assign rfl Opd.con) ?_
    refine RegL.nil ?_
    refine Ct.then_tr ?_
    refine Tr.weak (Γ' := [(4, (pEq (.bool true)))]) ⟨rfl, trivial⟩ ?_
    refine Tr.ret ?_
    refine Ct.then_ret ?_
    replace h := Option.some.inj h; subst h
    exact Ct.ret1 rfl rfl
  · replace h := bif_f hc h
    refine Tr.skip ?_
    refine Ct.then_tr ?_
    refine Tr.weak (Γ' := [(1, (pEq (.int .i64 aF_1))), (2, (pPtr (cGBand aB_0)))]) ⟨rfl, rfl, trivial⟩ ?_
    refine Tr.seq ?_
    refine Tr.region ?_
    refine RegL.pure (p := (pAgg (cGBand aB_0))) rfl rfl rfl (J_loadA rfl Try.isAgg29 sz29 (Opd.tmp rfl) rfl) ?_
    replace h := bind_some h; obtain ⟨x2, hx2, h⟩ := h
    refine RegL.pure (p := (pAgg (cGBand x2))) rfl rfl rfl (J_call rfl Try.call21 (c_laws_toBand hx2) (Opds.cons (Opd.tmp rfl) Opds.nil)) ?_
    refine RegL.pure (p := (pEq (.int .i64 aF_1))) rfl rfl rfl (J_move rfl (Opd.tmp rfl)) ?_
    replace h := bind_some h; obtain ⟨x3, hx3, h⟩ := h
    refine RegL.pure (p := (pTup [(pEq (.int .i64 x3.1)), (pEq (.int .i64 x3.2))])) rfl rfl rfl (J_call rfl Try.call23 (c_spec_ChannelAt hx3) (Opds.cons (Opd.tmp rfl) (Opds.cons (Opd.tmp rfl) Opds.nil))) ?_
    refine RegL.pure (p := (pTup [(pEq (.int .i64 x3.1)), (pEq (.int .i64 x3.2))])) rfl rfl rfl (J_move rfl (Opd.tmp rfl)) ?_
    refine RegL.pure (p := (pEq (.int .i64 x3.1))) rfl rfl rfl (J_extract rfl (Opd.tmp rfl) rfl) ?_
    refine RegL.pure (p := (pEq (.int .i64 x3.2))) rfl rfl rfl (J_extract rfl (Opd.tmp rfl) rfl) ?_
    refine RegL.pure (p := (pEq (.int .i64 x3.1))) rfl rfl rfl (J_assign rfl (Opd.tmp rfl)) ?_
    refine RegL.pure (p := (pEq (.int .i64 x3.2))) rfl rfl rfl (J_assign rfl (Opd.tmp rfl)) ?_
    refine RegL.nil ?_
    refine Ct.then_tr ?_
    refine Tr.weak (Γ' := [(1, (pEq (.int .i64 aF_1))), (2, (pPtr (cGBand aB_0))), (6, (pEq (.int .i64 x3.1))), (7, (pEq (.int .i64 x3.2)))]) ⟨rfl, rfl, rfl, rfl, trivial⟩ ?_
    refine Tr.seq ?_
    refine Tr.region ?_
    refine RegL.pure (p := (pAgg (cGBand aB_0))) rfl rfl rfl (J_loadA rfl Try.isAgg29 sz29 (Opd.tmp rfl) rfl) ?_
    replace h := bind_some h; obtain ⟨x4, hx4, h⟩ := h
    refine RegL.pure (p := (pAgg (cGBand x4))) rfl rfl rfl (J_call rfl Try.call21 (c_laws_toBand hx4) (Opds.cons (Opd.tmp rfl) Opds.nil)) ?_
    refine RegL.pure (p := (pEq (.int .i64 aF_1))) rfl rfl rfl (J_move rfl (Opd.tmp rfl)) ?_
    replace h := bind_some h; obtain ⟨x5, hx5, h⟩ := h
    refine RegL.pure (p := (pTup [(pEq (.int .i64 x5.1)), (pEq (.int .i64 x5.2))])) rfl rfl rfl (J_call rfl Try.call24 (c_impl_ChannelAt hx5) (Opds.cons (Opd.tmp rfl) (Opds.cons (Opd.tmp rfl) Opds.nil))) ?_
    refine RegL.pure (p := (pTup [(pEq (.int .i64 x5.1)), (pEq (.int .i64 x5.2))])) rfl rfl rfl (J_move rfl (Opd.tmp rfl)) ?_
    refine RegL.pure (p := (pEq (.int .i64 x5.1))) rfl rfl rfl (J_extract rfl (Opd.tmp rfl) rfl) ?_
    refine RegL.pure (p := (pEq (.int .i64 x5.2))) rfl rfl rfl (J_extract rfl (Opd.tmp rfl) rfl) ?_
    refine RegL.pure (p := (pEq (.int .i64 x5.1))) rfl rfl rfl (J_assign rfl (Opd.tmp rfl)) ?_
    refine RegL.pure (p := (pEq (.int .i64 x5.2))) rfl rfl rfl (J_assign rfl (Opd.tmp rfl)) ?_
    refine RegL.nil ?_
    refine Ct.then_tr ?_
    refine Tr.weak (Γ' := [(6, (pEq (.int .i64 x3.1))), (7, (pEq (.int .i64 x3.2))), (8, (pEq (.int .i64 x5.1))), (9, (pEq (.int .i64 x5.2)))]) ⟨rfl, rfl, rfl, rfl, trivial⟩ ?_
    refine Tr.seq ?_
    refine Tr.seq ?_
    replace h := bind_some h; obtain ⟨x6, hx6, h⟩ := h
    refine Tr.cut (γ := Unit) (Γm := fun g => [(36, (pEq (.bool x6)))]) (Ωm := fun g => []) ?_ (fun g8 => ?_)
    · clear h
      have h := hx6
      clear hx6
      refine Tr.region ?_
      refine RegL.pure (p := (pEq (.int .i64 x5.1))) rfl rfl rfl (J_move rfl (Opd.tmp rfl)) ?_
      refine RegL.pure (p := (pEq (.int .i64 x3.1))) rfl rfl rfl (J_move rfl (Opd.tmp rfl)) ?_
      refine RegL.pure (p := (pEq (.bool (x5.1 != x3.1)))) rfl rfl rfl (J_bin rfl (Opd.tmp rfl) (Opd.tmp rfl) B_neq) ?_
      refine RegL.pure (p := (pEq (.bool (x5.1 != x3.1)))) rfl rfl rfl (J_move rfl (Opd.tmp rfl)) ?_
      rcases Bool.eq_false_or_eq_true (x5.1 != x3.1) with hc7 | hc7
      · replace h := bif_t hc7 h
        refine RegL.skipG rfl rfl rfl hc7 rfl rfl ?_
        refine RegL.skipG rfl rfl rfl hc7 rfl rfl ?_
        refine RegL.skipG rfl rfl rfl hc7 rfl rfl ?_
        refine RegL.pure (p := (pEq (.bool true))) rfl rfl rfl (J_pick rfl (Opd.tmp rfl) (fun _ => Opd.con) (fun hf => absurd (hc7.symm.trans hf) (by decide))) ?_
        refine RegL.nil ?_
        replace h := Option.some.inj h; subst h
        exact Ct.mid () rfl ⟨rfl, trivial⟩
      · replace h := bif_f hc7 h
        refine RegL.pureG (p := (pEq (.int .i64 x5.2))) rfl rfl rfl hc7 rfl rfl (J_move rfl (Opd.tmp rfl)) ?_
        refine RegL.pureG (p := (pEq (.int .i64 x3.2))) rfl rfl rfl hc7 rfl rfl (J_move rfl (Opd.tmp rfl)) ?_
        refine RegL.pureG (p := (pEq (.bool (x5.2 != x3.2)))) rfl rfl rfl hc7 rfl rfl (J_bin rfl (Opd.tmp rfl) (Opd.tmp rfl) B_neq) ?_
        refine RegL.pure (p := (pEq (.bool (x5.2 != x3.2)))) rfl rfl rfl (J_pick rfl (Opd.tmp rfl) (fun hf => absurd (hc7.symm.trans hf) (by decide)) (fun _ => (Opd.tmp rfl))) ?_
        refine RegL.nil ?_
        replace h := Option.some.inj h; subst h
        exact Ct.mid () rfl ⟨rfl, trivial⟩
    · clear hx6
      refine Ct.then_tr ?_
      refine Tr.weak (Γ' := [(36, (pEq (.bool x6)))]) ⟨rfl, trivial⟩ ?_
      refine Tr.cond (Opd.tmp rfl) (fun hc => ?_) (fun hc => ?_)
      · replace h := bif_t hc h
        refine Tr.seq ?_
        refine Tr.region ?_
        refine RegL.pure (p := (pEq (.bool false))) rfl rfl rfl (J_assign rfl Opd.con) ?_
        refine RegL.nil ?_
        refine Ct.then_tr ?_
        refine Tr.weak (Γ' := [(4, (pEq (.bool false)))]) ⟨rfl, trivial⟩ ?_
        refine Tr.ret ?_
        refine Ct.then_ret ?_
        replace h := Option.some.inj h; subst h
        exact Ct.ret1 rfl rfl
      · replace h := bif_f hc h
        refine Tr.skip ?_
        refine Ct.then_tr ?_
        refine Tr.weak (Γ' := []) trivial ?_
        refine Tr.seq ?_
        refine Tr.region ?_
        refine RegL.pure (p := (pEq (.bool true))) rfl rfl rfl (J_assign rfl Opd.con) ?_
        refine RegL.nil ?_
        refine Ct.then_tr ?_
        refine Tr.weak (Γ' := [(4, (pEq (.bool true)))]) ⟨rfl, trivial⟩ ?_
        refine Tr.ret ?_
        replace h := Option.some.inj h; subst h
        exact Ct.ret1 rfl rfl
end Go.Proofs.Ytdilkjbhbglpbaa.fnExactChannelAtW
