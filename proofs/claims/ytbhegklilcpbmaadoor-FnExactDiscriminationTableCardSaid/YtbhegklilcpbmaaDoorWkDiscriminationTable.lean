/-
  The walks that the law FnExactDiscriminationTable reaches: each function computes its model. Printed by our own program.
-/
import Derived.Test.YtbhegklilcpbmaaDoorProg
import Derived.Test.YtbhegklilcpbmaaDoorMod
import Derived.Test.YtbhegklilcpbmaaDoorZero
import Derived.KernelRfl
import Derived.Test.YtbhegklilcpbmaaDoorWkDiscriminationTableb
namespace Go.Proofs.YtbhegklilcpbmaaDoor.fnExactDiscriminationTableW
open Go Go.RowKit Go.Wk
set_option linter.unusedVariables false
set_option maxRecDepth 100000


theorem c_laws_FnExactDiscriminationTable {a_0 : GMask} {a_1 : GMask} {a_2 : Int} {a_3 : Int} {r : Bool} (h : m_laws_FnExactDiscriminationTable a_0 a_1 a_2 a_3 = some r) : CallJ Tryd.prog 6 [(pAgg (cGMask a_0)), (pAgg (cGMask a_1)), (pG (pTab 1 .u64 Lib.pow10Tab) (pEq (.int .i64 a_2))), (pEq (.int .i64 a_3))] (pEq (.bool r)) := by
  unfold m_laws_FnExactDiscriminationTable at h
  refine CallJ.enterH Tryd.func6 rfl Tryd.ntmps6 rfl fun W I0 H => ?_
  refine Tr.tab (s := 2) (k := 99999) rfl ?_; refine Tr.weak (Γ' := [(0, (pAgg (cGMask a_0))), (1, (pAgg (cGMask a_1))), (2, (pEq (.int .i64 a_2))), (3, (pEq (.int .i64 a_3))), (99999, (pTab 1 .u64 Lib.pow10Tab))]) ⟨rfl, rfl, rfl, rfl, rfl, trivial⟩ ?_
  refine Tr.seq ?_
  refine Tr.region ?_
  refine RegL.pure (p := (pPtr (cGMask a_0))) rfl rfl rfl (J_boxA rfl (Opd.tmp rfl)) ?_
  refine RegL.pure (p := (pPtr (cGMask a_1))) rfl rfl rfl (J_boxA rfl (Opd.tmp rfl)) ?_
  refine RegL.pure (p := (pEq (.bool false))) rfl rfl rfl (J_assign rfl Opd.con) ?_
  refine RegL.nil ?_
  refine Ct.then_tr ?_
  refine Tr.weak (Γ' := [(2, (pEq (.int .i64 a_2))), (3, (pEq (.int .i64 a_3))), (4, (pPtr (cGMask a_0))), (5, (pPtr (cGMask a_1))), (99999, (pTab 1 .u64 Lib.pow10Tab))]) ⟨rfl, rfl, rfl, rfl, rfl, trivial⟩ ?_
  refine Tr.seq ?_
  refine Tr.region ?_
  refine RegL.pure (p := (pEq (.int .i64 (1048576 : Int)))) rfl rfl rfl (J_assign rfl Opd.con) ?_
  refine RegL.nil ?_
  refine Ct.then_tr ?_
  refine Tr.weak (Γ' := [(2, (pEq (.int .i64 a_2))), (3, (pEq (.int .i64 a_3))), (4, (pPtr (cGMask a_0))), (5, (pPtr (cGMask a_1))), (9, (pEq (.int .i64 (1048576 : Int)))), (99999, (pTab 1 .u64 Lib.pow10Tab))]) ⟨rfl, rfl, rfl, rfl, rfl, rfl, trivial⟩ ?_
  refine Tr.seq ?_
  refine Tr.region ?_
  refine RegL.pure (p := (pAgg (cGMask a_0))) rfl rfl rfl (J_loadA rfl Tryd.isAgg36 sz36 (Opd.tmp rfl) rfl) ?_
  refine RegL.pure (p := (pEq (.int .i64 (1048576 : Int)))) rfl rfl rfl (J_move rfl (Opd.tmp rfl)) ?_
  replace h := bind_some h; obtain ⟨x1, hx1, h⟩ := h
  refine RegL.pure (p := (pEq (.int .i64 x1))) rfl rfl rfl (J_call rfl Tryd.call18 (c_laws_szMask hx1) (Opds.cons (Opd.tmp rfl) (Opds.cons (Opd.tmp rfl) Opds.nil))) ?_
  refine RegL.pure (p := (pEq (.int .i64 x1))) rfl rfl rfl (J_assign rfl (Opd.tmp rfl)) ?_
  refine RegL.nil ?_
  refine Ct.then_tr ?_
  refine Tr.weak (Γ' := [(2, (pEq (.int .i64 a_2))), (3, (pEq (.int .i64 a_3))), (4, (pPtr (cGMask a_0))), (5, (pPtr (cGMask a_1))), (9, (pEq (.int .i64 x1))), (99999, (pTab 1 .u64 Lib.pow10Tab))]) ⟨rfl, rfl, rfl, rfl, rfl, rfl, trivial⟩ ?_
  refine Tr.seq ?_
  refine Tr.seq ?_
  refine Tr.region ?_
  refine RegL.pure (p := (pEq (.int .i64 x1))) rfl rfl rfl (J_move rfl (Opd.tmp rfl)) ?_
  refine RegL.pure (p := (pEq (.bool (decide (x1 < (0 : Int)))))) rfl rfl rfl (J_bin rfl (Opd.tmp rfl) Opd.con B_lss) ?_
  refine RegL.nil ?_
  refine Ct.then_tr ?_
  refine Tr.weak (Γ' := [(2, (pEq (.int .i64 a_2))), (3, (pEq (.int .i64 a_3))), (4, (pPtr (cGMask a_0))), (5, (pPtr (cGMask a_1))), (9, (pEq (.int .i64 x1))), (25, (pEq (.bool (decide (x1 < (0 : Int)))))), (99999, (pTab 1 .u64 Lib.pow10Tab))]) ⟨rfl, rfl, rfl, rfl, rfl, rfl, rfl, trivial⟩ ?_
  refine Tr.cond (Opd.tmp rfl) (fun hc => ?_) (fun hc => ?_)
  · replace h := bif_t hc h
    refine Tr.seq ?_
    refine Tr.region ?_
    refine RegL.pure (p := (pEq (.bool true))) rfl rfl rfl (J_assign rfl Opd.con) ?_
    refine RegL.nil ?_
    refine Ct.then_tr ?_
    refine Tr.weak (Γ' := [(8, (pEq (.bool true))), (99999, (pTab 1 .u64 Lib.pow10Tab))]) ⟨rfl, rfl, trivial⟩ ?_
    refine Tr.ret ?_
    refine Ct.then_ret ?_
    replace h := Option.some.inj h; subst h
    exact Ct.retH1 (Ωx := []) () rfl (RvOk.tmp rfl) rfl
  · replace h := bif_f hc h
    refine Tr.skip ?_
    refine Ct.then_tr ?_
    refine Tr.weak (Γ' := [(2, (pEq (.int .i64 a_2))), (3, (pEq (.int .i64 a_3))), (4, (pPtr (cGMask a_0))), (5, (pPtr (cGMask a_1))), (9, (pEq (.int .i64 x1))), (99999, (pTab 1 .u64 Lib.pow10Tab))]) ⟨rfl, rfl, rfl, rfl, rfl, rfl, trivial⟩ ?_
    refine Tr.seq ?_
    refine Tr.region ?_
    refine RegL.pure (p := (pAgg (cGMask a_1))) rfl rfl rfl (J_loadA rfl Tryd.isAgg36 sz36 (Opd.tmp rfl) rfl) ?_
    refine RegL.pure (p := (pEq (.int .i64 x1))) rfl rfl rfl (J_move rfl (Opd.tmp rfl)) ?_
    replace h := bind_some h; obtain ⟨x2, hx2, h⟩ := h
    refine RegL.pure (p := (pEq (.int .i64 x2))) rfl rfl rfl (J_call rfl Tryd.call18 (c_laws_szMask hx2) (Opds.cons (Opd.tmp rfl) (Opds.cons (Opd.tmp rfl) Opds.nil))) ?_
    refine RegL.pure (p := (pEq (.int .i64 x2))) rfl rfl rfl (J_assign rfl (Opd.tmp rfl)) ?_
    refine RegL.nil ?_
    refine Ct.then_tr ?_
    refine Tr.weak (Γ' := [(2, (pEq (.int .i64 a_2))), (3, (pEq (.int .i64 a_3))), (4, (pPtr (cGMask a_0))), (5, (pPtr (cGMask a_1))), (9, (pEq (.int .i64 x2))), (99999, (pTab 1 .u64 Lib.pow10Tab))]) ⟨rfl, rfl, rfl, rfl, rfl, rfl, trivial⟩ ?_
    refine Tr.seq ?_
    refine Tr.seq ?_
    refine Tr.region ?_
    refine RegL.pure (p := (pEq (.int .i64 x2))) rfl rfl rfl (J_move rfl (Opd.tmp rfl)) ?_
    refine RegL.pure (p := (pEq (.bool (decide (x2 < (0 : Int)))))) rfl rfl rfl (J_bin rfl (Opd.tmp rfl) Opd.con B_lss) ?_
    refine RegL.nil ?_
    refine Ct.then_tr ?_
    refine Tr.weak (Γ' := [(2, (pEq (.int .i64 a_2))), (3, (pEq (.int .i64 a_3))), (4, (pPtr (cGMask a_0))), (5, (pPtr (cGMask a_1))), (30, (pEq (.bool (decide (x2 < (0 : Int)))))), (99999, (pTab 1 .u64 Lib.pow10Tab))]) ⟨rfl, rfl, rfl, rfl, rfl, rfl, trivial⟩ ?_
    refine Tr.cond (Opd.tmp rfl) (fun hc => ?_) (fun hc => ?_)
    · replace h := bif_t hc h
      refine Tr.seq ?_
      refine Tr.region ?_
      refine RegL.pure (p := (pEq (.bool true))) rfl rfl rfl (J_assign rfl Opd.con) ?_
      refine RegL.nil ?_
      refine Ct.then_tr ?_
      refine Tr.weak (Γ' := [(8, (pEq (.bool true))), (99999, (pTab 1 .u64 Lib.pow10Tab))]) ⟨rfl, rfl, trivial⟩ ?_
      refine Tr.ret ?_
      refine Ct.then_ret ?_
      replace h := Option.some.inj h; subst h
      exact Ct.retH1 (Ωx := []) () rfl (RvOk.tmp rfl) rfl
    · replace h := bif_f hc h
      refine Tr.skip ?_
      refine Ct.then_tr ?_
      refine Tr.weak (Γ' := [(2, (pEq (.int .i64 a_2))), (3, (pEq (.int .i64 a_3))), (4, (pPtr (cGMask a_0))), (5, (pPtr (cGMask a_1))), (99999, (pTab 1 .u64 Lib.pow10Tab))]) ⟨rfl, rfl, rfl, rfl, rfl, trivial⟩ ?_
      refine Tr.seq ?_
      replace h := bind_some h; obtain ⟨x3, hx3, h⟩ := h
      replace h := bind_some h; obtain ⟨x4, hx4, h⟩ := h
      replace h := bind_some h; obtain ⟨x5, hx5, h⟩ := h
      refine Tr.drawD (n := 129) (m := 11) (es := [some (Ent.mk [(4, (pPtr (cGMask a_0)))] (pAgg (cGMask a_0)) true), some (Ent.mk [(32, (pAgg (cGMask a_0)))] (pAgg (cGMask x3)) true), some (Ent.mk [(5, (pPtr (cGMask a_1)))] (pAgg (cGMask a_1)) true), some (Ent.mk [(34, (pAgg (cGMask a_1)))] (pAgg (cGMask x4)) true), some (Ent.mk [(2, (pEq (.int .i64 a_2)))] (pEq (.int .i64 a_2)) true), some (Ent.mk [(3, (pEq (.int .i64 a_3)))] (pEq (.int .i64 a_3)) true), some (Ent.mk [(33, (pAgg (cGMask x3))), (35, (pAgg (cGMask x4))), (36, (pEq (.int .i64 a_2))), (37, (pEq (.int .i64 a_3)))] (pTup [(pSl 1 (cK .i64) x5.1), (pEq (.int .i64 x5.2))]) true), some (Ent.mk [(38, (pTup [(pSl 1 (cK .i64) x5.1), (pEq (.int .i64 x5.2))]))] (pTup [(pSl 1 (cK .i64) x5.1), (pEq (.int .i64 x5.2))]) true), some (Ent.mk [(31, (pTup [(pSl 1 (cK .i64) x5.1), (pEq (.int .i64 x5.2))]))] (pSl 1 (cK .i64) x5.1) true), some (Ent.mk [(31, (pTup [(pSl 1 (cK .i64) x5.1), (pEq (.int .i64 x5.2))]))] (pEq (.int .i64 x5.2)) true), some (Ent.mk [(39, (pSl 1 (cK .i64) x5.1))] (pSl 1 (cK .i64) x5.1) true)]) (rd := [[4], [32], [5], [34], [2], [3], [33, 35, 36, 37], [38], [31], [31], [39]]) rfl hmix (by kernel_rfl) fun hD => ?_
      refine RD.fin (es := [Ent.mk [(4, (pPtr (cGMask a_0)))] (pAgg (cGMask a_0)) true, Ent.mk [(32, (pAgg (cGMask a_0)))] (pAgg (cGMask x3)) true, Ent.mk [(5, (pPtr (cGMask a_1)))] (pAgg (cGMask a_1)) true, Ent.mk [(34, (pAgg (cGMask a_1)))] (pAgg (cGMask x4)) true, Ent.mk [(2, (pEq (.int .i64 a_2)))] (pEq (.int .i64 a_2)) true, Ent.mk [(3, (pEq (.int .i64 a_3)))] (pEq (.int .i64 a_3)) true, Ent.mk [(33, (pAgg (cGMask x3))), (35, (pAgg (cGMask x4))), (36, (pEq (.int .i64 a_2))), (37, (pEq (.int .i64 a_3)))] (pTup [(pSl 1 (cK .i64) x5.1), (pEq (.int .i64 x5.2))]) true, Ent.mk [(38, (pTup [(pSl 1 (cK .i64) x5.1), (pEq (.int .i64 x5.2))]))] (pTup [(pSl 1 (cK .i64) x5.1), (pEq (.int .i64 x5.2))]) true, Ent.mk [(31, (pTup [(pSl 1 (cK .i64) x5.1), (pEq (.int .i64 x5.2))]))] (pSl 1 (cK .i64) x5.1) true, Ent.mk [(31, (pTup [(pSl 1 (cK .i64) x5.1), (pEq (.int .i64 x5.2))]))] (pEq (.int .i64 x5.2)) true, Ent.mk [(39, (pSl 1 (cK .i64) x5.1))] (pSl 1 (cK .i64) x5.1) true]) (done := []) hD ⟨.inr ⟨(OpJ.w (J_loadA rfl Tryd.isAgg36 sz36 (Opd.tmp rfl) rfl)), ⟨rfl, trivial⟩, rfl, rfl⟩, ⟨.inr ⟨(OpJ.w (J_call rfl Tryd.call20 (c_laws_toMask hx3) (Opds.cons (Opd.tmp rfl) Opds.nil))), ⟨rfl, trivial⟩, rfl, rfl⟩, ⟨.inr ⟨(OpJ.w (J_loadA rfl Tryd.isAgg36 sz36 (Opd.tmp rfl) rfl)), ⟨rfl, trivial⟩, rfl, rfl⟩, ⟨.inr ⟨(OpJ.w (J_call rfl Tryd.call20 (c_laws_toMask hx4) (Opds.cons (Opd.tmp rfl) Opds.nil))), ⟨rfl, trivial⟩, rfl, rfl⟩, ⟨.inr ⟨(OpJ.w (J_move rfl (Opd.tmp rfl))), ⟨rfl, trivial⟩, rfl, rfl⟩, ⟨.inr ⟨(OpJ.w (J_move rfl (Opd.tmp rfl))), ⟨rfl, trivial⟩, rfl, rfl⟩, ⟨.inr ⟨(OpJ.w (J_call rfl Tryd.call23 (c_spec_DiscriminationTable hx5) (Opds.cons (Opd.tmp rfl) (Opds.cons (Opd.tmp rfl) (Opds.cons (Opd.tmp rfl) (Opds.cons (Opd.tmp rfl) Opds.nil)))))), ⟨rfl, rfl, rfl, rfl, trivial⟩, rfl, rfl⟩, ⟨.inr ⟨(OpJ.w (J_move rfl (Opd.tmp rfl))), ⟨rfl, trivial⟩, rfl, rfl⟩, ⟨.inr ⟨(OpJ.w (J_extract rfl (Opd.tmp rfl) rfl)), ⟨rfl, trivial⟩, rfl, rfl⟩, ⟨.inr ⟨(OpJ.w (J_extract rfl (Opd.tmp rfl) rfl)), ⟨rfl, trivial⟩, rfl, rfl⟩, ⟨.inr ⟨(OpJ.w (J_assign rfl (Opd.tmp rfl))), ⟨rfl, trivial⟩, rfl, rfl⟩, trivial⟩⟩⟩⟩⟩⟩⟩⟩⟩⟩⟩ ?_
      refine RegL.pure (p := (pEq (.int .i64 x5.2))) rfl rfl rfl (J_assign rfl (Opd.tmp rfl)) ?_
      refine RegL.nil ?_
      refine Ct.then_tr ?_
      refine Tr.weak (Γ' := [(2, (pEq (.int .i64 a_2))), (3, (pEq (.int .i64 a_3))), (4, (pPtr (cGMask a_0))), (5, (pPtr (cGMask a_1))), (10, (pSl 1 (cK .i64) x5.1)), (11, (pEq (.int .i64 x5.2))), (99999, (pTab 1 .u64 Lib.pow10Tab))]) ⟨rfl, rfl, rfl, rfl, rfl, rfl, rfl, trivial⟩ ?_
      refine Tr.seq ?_
      refine Tr.region ?_
      refine RegL.pure (p := (pAgg (cGMask a_0))) rfl rfl rfl (J_loadA rfl Tryd.isAgg36 sz36 (Opd.tmp rfl) rfl) ?_
      replace h := bind_some h; obtain ⟨x6, hx6, h⟩ := h
      refine RegL.step (γ := (G3 × G3)) (p := fun g => (pAgg [(pEq (.slice g.1.1 g.1.2.1 g.1.2.2)), (pEq (.slice g.2.1 g.2.2.1 g.2.2.2))])) (Ω' := fun g => [oSl 2 1 (cK .i64) g.1.1 g.1.2.1 g.1.2.2 x6.Offsets, oSl 2 1 (cK .i64) g.2.1 g.2.2.1 g.2.2.2 x6.Losses]) rfl rfl rfl (M_callH (Ωi := []) rfl Tryd.call20 (o_laws_toMask hx6) (Opds.cons (Opd.tmp rfl) Opds.nil)) fun g7 => ?_
      refine RegL.step (γ := Nat) (p := fun b => pEq (.pointer (some ⟨b, 0, none⟩))) (Ω' := fun b => [oBlk b [(pEq (.slice none 0 0)), (pEq (.slice none 0 0))], oSl 2 1 (cK .i64) g7.1.1 g7.1.2.1 g7.1.2.2 x6.Offsets, oSl 2 1 (cK .i64) g7.2.1 g7.2.2.1 g7.2.2.2 x6.Losses]) rfl rfl rfl (M_alloc rfl zero39) fun b10 => ?_
      refine RegL.stepN (γ := Unit) (p := fun _ => pAny) (Ω' := fun _ => [oBlk b10 [(pEq (.slice g7.1.1 g7.1.2.1 g7.1.2.2)), (pEq (.slice g7.2.1 g7.2.2.1 g7.2.2.2))], oSl 2 1 (cK .i64) g7.1.1 g7.1.2.1 g7.1.2.2 x6.Offsets, oSl 2 1 (cK .i64) g7.2.1 g7.2.2.1 g7.2.2.2 x6.Losses]) rfl rfl (M_storeA rfl sz39 (Opd.tmp rfl) (Opd.tmp rfl) (fun _ _ _ h => ones_of ((OneCs.cons OneC.slice (OneCs.cons OneC.slice OneCs.nil))) h) rfl rfl) fun g11 => ?_
      refine RegL.nil ?_
      refine Ct.then_tr ?_
      refine Tr.weak (Γ' := [(2, (pEq (.int .i64 a_2))), (3, (pEq (.int .i64 a_3))), (4, (pPtr (cGMask a_0))), (5, (pPtr (cGMask a_1))), (10, (pSl 1 (cK .i64) x5.1)), (11, (pEq (.int .i64 x5.2))), (12, (pEq (.pointer (some ⟨b10, 0, none⟩)))), (99999, (pTab 1 .u64 Lib.pow10Tab))]) ⟨rfl, rfl, rfl, rfl, rfl, rfl, rfl, rfl, trivial⟩ ?_
      refine Tr.seq ?_
      refine Tr.region ?_
      refine RegL.pure (p := (pAgg (cGMask a_1))) rfl rfl rfl (J_loadA rfl Tryd.isAgg36 sz36 (Opd.tmp rfl) rfl) ?_
      replace h := bind_some h; obtain ⟨x12, hx12, h⟩ := h
      refine RegL.step (γ := (G3 × G3)) (p := fun g => (pAgg [(pEq (.slice g.1.1 g.1.2.1 g.1.2.2)), (pEq (.slice g.2.1 g.2.2.1 g.2.2.2))])) (Ω' := fun g => [oSl 2 1 (cK .i64) g.1.1 g.1.2.1 g.1.2.2 x12.Offsets, oSl 2 1 (cK .i64) g.2.1 g.2.2.1 g.2.2.2 x12.Losses, oBlk b10 [(pEq (.slice g7.1.1 g7.1.2.1 g7.1.2.2)), (pEq (.slice g7.2.1 g7.2.2.1 g7.2.2.2))], oSl 2 1 (cK .i64) g7.1.1 g7.1.2.1 g7.1.2.2 x6.Offsets, oSl 2 1 (cK .i64) g7.2.1 g7.2.2.1 g7.2.2.2 x6.Losses]) rfl rfl rfl (M_callH (Ωi := []) rfl Tryd.call20 (o_laws_toMask hx12) (Opds.cons (Opd.tmp rfl) Opds.nil)) fun g13 => ?_
      refine RegL.step (γ := Nat) (p := fun b => pEq (.pointer (some ⟨b, 0, none⟩))) (Ω' := fun b => [oBlk b [(pEq (.slice none 0 0)), (pEq (.slice none 0 0))], oSl 2 1 (cK .i64) g13.1.1 g13.1.2.1 g13.1.2.2 x12.Offsets, oSl 2 1 (cK .i64) g13.2.1 g13.2.2.1 g13.2.2.2 x12.Losses, oBlk b10 [(pEq (.slice g7.1.1 g7.1.2.1 g7.1.2.2)), (pEq (.slice g7.2.1 g7.2.2.1 g7.2.2.2))], oSl 2 1 (cK .i64) g7.1.1 g7.1.2.1 g7.1.2.2 x6.Offsets, oSl 2 1 (cK .i64) g7.2.1 g7.2.2.1 g7.2.2.2 x6.Losses]) rfl rfl rfl (M_alloc rfl zero39) fun b16 => ?_
      refine RegL.stepN (γ := Unit) (p := fun _ => pAny) (Ω' := fun _ => [oBlk b16 [(pEq (.slice g13.1.1 g13.1.2.1 g13.1.2.2)), (pEq (.slice g13.2.1 g13.2.2.1 g13.2.2.2))], oSl 2 1 (cK .i64) g13.1.1 g13.1.2.1 g13.1.2.2 x12.Offsets, oSl 2 1 (cK .i64) g13.2.1 g13.2.2.1 g13.2.2.2 x12.Losses, oBlk b10 [(pEq (.slice g7.1.1 g7.1.2.1 g7.1.2.2)), (pEq (.slice g7.2.1 g7.2.2.1 g7.2.2.2))], oSl 2 1 (cK .i64) g7.1.1 g7.1.2.1 g7.1.2.2 x6.Offsets, oSl 2 1 (cK .i64) g7.2.1 g7.2.2.1 g7.2.2.2 x6.Losses]) rfl rfl (M_storeA rfl sz39 (Opd.tmp rfl) (Opd.tmp rfl) (fun _ _ _ h => ones_of ((OneCs.cons OneC.slice (OneCs.cons OneC.slice OneCs.nil))) h) rfl rfl) fun g17 => ?_
      refine RegL.nil ?_
      refine Ct.then_tr ?_
      refine Tr.weak (Γ' := [(2, (pEq (.int .i64 a_2))), (3, (pEq (.int .i64 a_3))), (4, (pPtr (cGMask a_0))), (5, (pPtr (cGMask a_1))), (10, (pSl 1 (cK .i64) x5.1)), (11, (pEq (.int .i64 x5.2))), (12, (pEq (.pointer (some ⟨b10, 0, none⟩)))), (13, (pEq (.pointer (some ⟨b16, 0, none⟩)))), (99999, (pTab 1 .u64 Lib.pow10Tab))]) ⟨rfl, rfl, rfl, rfl, rfl, rfl, rfl, rfl, rfl, trivial⟩ ?_
      refine Tr.seq ?_
      refine Tr.region ?_
      refine RegL.pureW (p := (pAgg [(pEq (.slice g7.1.1 g7.1.2.1 g7.1.2.2)), (pEq (.slice g7.2.1 g7.2.2.1 g7.2.2.2))])) rfl rfl rfl (W_loadA (i := 3) rfl Tryd.isAgg39 sz39 (Opd.tmp rfl) rfl rfl) ?_
      refine RegL.pureW (p := (pAgg [(pEq (.slice g13.1.1 g13.1.2.1 g13.1.2.2)), (pEq (.slice g13.2.1 g13.2.2.1 g13.2.2.2))])) rfl rfl rfl (W_loadA (i := 0) rfl Tryd.isAgg39 sz39 (Opd.tmp rfl) rfl rfl) ?_
      refine RegL.pure (p := (pEq (.int .i64 a_2))) rfl rfl rfl (J_move rfl (Opd.tmp rfl)) ?_
      refine RegL.pure (p := (pEq (.int .i64 a_3))) rfl rfl rfl (J_move rfl (Opd.tmp rfl)) ?_
      replace h := bind_some h; obtain ⟨x18, hx18, h⟩ := h
      refine RegL.step (γ := G3) (p := fun g => (pTup [(pEq (.slice g.1 g.2.1 g.2.2)), (pEq (.int .i64 x18.2))])) (Ω' := fun g => [oSl 2 1 (cK .i64) g.1 g.2.1 g.2.2 x18.1, oBlk b16 [(pEq (.slice g13.1.1 g13.1.2.1 g13.1.2.2)), (pEq (.slice g13.2.1 g13.2.2.1 g13.2.2.2))], oSl 2 1 (cK .i64) g13.1.1 g13.1.2.1 g13.1.2.2 x12.Offsets, oSl 2 1 (cK .i64) g13.2.1 g13.2.2.1 g13.2.2.2 x12.Losses, oBlk b10 [(pEq (.slice g7.1.1 g7.1.2.1 g7.1.2.2)), (pEq (.slice g7.2.1 g7.2.2.1 g7.2.2.2))], oSl 2 1 (cK .i64) g7.1.1 g7.1.2.1 g7.1.2.2 x6.Offsets, oSl 2 1 (cK .i64) g7.2.1 g7.2.2.1 g7.2.2.2 x6.Losses]) rfl rfl rfl (M_callHB (Ωi := []) rfl Tryd.call24 (o_impl_DiscriminationTable hx18) (OpdsA.cons (OpdA.conv rfl (Conv.agg (Convs.cons (Conv.row (f := (cK .i64)) 4 (fun _ => rfl) rfl) (Convs.cons (Conv.row (f := (cK .i64)) 5 (fun _ => rfl) rfl) Convs.nil)))) (OpdsA.cons (OpdA.conv rfl (Conv.agg (Convs.cons (Conv.row (f := (cK .i64)) 1 (fun _ => rfl) rfl) (Convs.cons (Conv.row (f := (cK .i64)) 2 (fun _ => rfl) rfl) Convs.nil)))) (OpdsA.cons (OpdA.of (Opd.tab (Opd.tmp rfl) 99999 rfl)) (OpdsA.cons (OpdA.of (Opd.tmp rfl)) OpdsA.nil)))) (fun _ => (FreeP.tup ⟨FreeP.eq, ⟨FreeP.eq, trivial⟩⟩)) (fun _ => ⟨(FreeO.sl (fun _ => ⟨FreeP.eq, trivial⟩)), trivial⟩)) fun g19 => ?_
      refine RegL.pure (p := (pTup [(pEq (.slice g19.1 g19.2.1 g19.2.2)), (pEq (.int .i64 x18.2))])) rfl rfl rfl (J_move rfl (Opd.tmp rfl)) ?_
      refine RegL.pure (p := (pEq (.slice g19.1 g19.2.1 g19.2.2))) rfl rfl rfl (J_extract rfl (Opd.tmp rfl) rfl) ?_
      refine RegL.pure (p := (pEq (.int .i64 x18.2))) rfl rfl rfl (J_extract rfl (Opd.tmp rfl) rfl) ?_
      refine RegL.pure (p := (pEq (.slice g19.1 g19.2.1 g19.2.2))) rfl rfl rfl (J_assign rfl (Opd.tmp rfl)) ?_
      refine RegL.pure (p := (pEq (.int .i64 x18.2))) rfl rfl rfl (J_assign rfl (Opd.tmp rfl)) ?_
      refine RegL.nil ?_
      refine Ct.then_tr ?_
      refine Tr.weak (Γ' := [(2, (pEq (.int .i64 a_2))), (3, (pEq (.int .i64 a_3))), (4, (pPtr (cGMask a_0))), (5, (pPtr (cGMask a_1))), (10, (pSl 1 (cK .i64) x5.1)), (11, (pEq (.int .i64 x5.2))), (12, (pEq (.pointer (some ⟨b10, 0, none⟩)))), (13, (pEq (.pointer (some ⟨b16, 0, none⟩)))), (14, (pEq (.slice g19.1 g19.2.1 g19.2.2))), (15, (pEq (.int .i64 x18.2))), (99999, (pTab 1 .u64 Lib.pow10Tab))]) ⟨rfl, rfl, rfl, rfl, rfl, rfl, rfl, rfl, rfl, rfl, rfl, trivial⟩ ?_
      refine Tr.seq ?_
      refine Tr.seq ?_
      replace h := bind_some h; obtain ⟨x21, hx21, h⟩ := h
      refine Tr.cut (γ := Unit) (Γm := fun g => [(2, (pEq (.int .i64 a_2))), (3, (pEq (.int .i64 a_3))), (4, (pPtr (cGMask a_0))), (5, (pPtr (cGMask a_1))), (10, (pSl 1 (cK .i64) x5.1)), (11, (pEq (.int .i64 x5.2))), (12, (pEq (.pointer (some ⟨b10, 0, none⟩)))), (13, (pEq (.pointer (some ⟨b16, 0, none⟩)))), (14, (pEq (.slice g19.1 g19.2.1 g19.2.2))), (15, (pEq (.int .i64 x18.2))), (61, (pEq (.bool x21))), (99999, (pTab 1 .u64 Lib.pow10Tab))]) (Ωm := fun g => [oSl 2 1 (cK .i64) g19.1 g19.2.1 g19.2.2 x18.1, oBlk b16 [(pEq (.slice g13.1.1 g13.1.2.1 g13.1.2.2)), (pEq (.slice g13.2.1 g13.2.2.1 g13.2.2.2))], oSl 2 1 (cK .i64) g13.1.1 g13.1.2.1 g13.1.2.2 x12.Offsets, oSl 2 1 (cK .i64) g13.2.1 g13.2.2.1 g13.2.2.2 x12.Losses, oBlk b10 [(pEq (.slice g7.1.1 g7.1.2.1 g7.1.2.2)), (pEq (.slice g7.2.1 g7.2.2.1 g7.2.2.2))], oSl 2 1 (cK .i64) g7.1.1 g7.1.2.1 g7.1.2.2 x6.Offsets, oSl 2 1 (cK .i64) g7.2.1 g7.2.2.1 g7.2.2.2 x6.Losses]) ?_ (fun g24 => ?_)
      · clear h
        have h := hx21
        clear hx21
        refine Tr.region ?_
        refine RegL.pure (p := (pEq (.slice g19.1 g19.2.1 g19.2.2))) rfl rfl rfl (J_move rfl (Opd.tmp rfl)) ?_
        refine RegL.pure (p := (pSl 1 (cK .i64) x5.1)) rfl rfl rfl (J_move rfl (Opd.tmp rfl)) ?_
        replace h := bind_some h; obtain ⟨x22, hx22, h⟩ := h
        refine RegL.pureW (p := (pEq (.bool x22))) rfl rfl rfl (W_call rfl Tryd.call12 (c_laws_eqInt64S hx22) (OpdsA.cons (OpdA.conv rfl (Conv.row (f := (cK .i64)) 0 (fun _ => rfl) rfl)) (OpdsA.cons (OpdA.of (Opd.tmp rfl)) OpdsA.nil)) FreeP.eq) ?_
        refine RegL.pure (p := (pEq (.bool (!x22)))) rfl rfl rfl (J_not rfl (Opd.tmp rfl)) ?_
        refine RegL.pure (p := (pEq (.bool (!x22)))) rfl rfl rfl (J_move rfl (Opd.tmp rfl)) ?_
        rcases Bool.eq_false_or_eq_true (!x22) with hc23 | hc23
        · replace h := bif_t hc23 h
          refine RegL.skipG rfl rfl rfl hc23 rfl rfl ?_
          refine RegL.skipG rfl rfl rfl hc23 rfl rfl ?_
          refine RegL.skipG rfl rfl rfl hc23 rfl rfl ?_
          refine RegL.pure (p := (pEq (.bool true))) rfl rfl rfl (J_pick rfl (Opd.tmp rfl) (fun _ => Opd.con) (fun hf => absurd (hc23.symm.trans hf) (by decide))) ?_
          refine RegL.nil ?_
          replace h := Option.some.inj h; subst h
          exact Ct.mid () rfl ⟨rfl, rfl, rfl, rfl, rfl, rfl, rfl, rfl, rfl, rfl, rfl, rfl, trivial⟩
        · replace h := bif_f hc23 h
          refine RegL.pureG (p := (pEq (.int .i64 x18.2))) rfl rfl rfl hc23 rfl rfl (J_move rfl (Opd.tmp rfl)) ?_
          refine RegL.pureG (p := (pEq (.int .i64 x5.2))) rfl rfl rfl hc23 rfl rfl (J_move rfl (Opd.tmp rfl)) ?_
          refine RegL.pureG (p := (pEq (.bool (x18.2 != x5.2)))) rfl rfl rfl hc23 rfl rfl (J_bin rfl (Opd.tmp rfl) (Opd.tmp rfl) B_neq) ?_
          refine RegL.pure (p := (pEq (.bool (x18.2 != x5.2)))) rfl rfl rfl (J_pick rfl (Opd.tmp rfl) (fun hf => absurd (hc23.symm.trans hf) (by decide)) (fun _ => (Opd.tmp rfl))) ?_
          refine RegL.nil ?_
          replace h := Option.some.inj h; subst h
          exact Ct.mid () rfl ⟨rfl, rfl, rfl, rfl, rfl, rfl, rfl, rfl, rfl, rfl, rfl, rfl, trivial⟩
      · clear hx21
        refine Ct.then_tr ?_
        refine Tr.weak (Γ' := [(2, (pEq (.int .i64 a_2))), (3, (pEq (.int .i64 a_3))), (4, (pPtr (cGMask a_0))), (5, (pPtr (cGMask a_1))), (10, (pSl 1 (cK .i64) x5.1)), (11, (pEq (.int .i64 x5.2))), (12, (pEq (.pointer (some ⟨b10, 0, none⟩)))), (13, (pEq (.pointer (some ⟨b16, 0, none⟩)))), (14, (pEq (.slice g19.1 g19.2.1 g19.2.2))), (15, (pEq (.int .i64 x18.2))), (61, (pEq (.bool x21))), (99999, (pTab 1 .u64 Lib.pow10Tab))]) ⟨rfl, rfl, rfl, rfl, rfl, rfl, rfl, rfl, rfl, rfl, rfl, rfl, trivial⟩ ?_
        refine Tr.cond (Opd.tmp rfl) (fun hc => ?_) (fun hc => ?_)
        · replace h := bif_t hc h
          refine Tr.seq ?_
          refine Tr.region ?_
          refine RegL.pure (p := (pEq (.bool false))) rfl rfl rfl (J_assign rfl Opd.con) ?_
          refine RegL.nil ?_
          refine Ct.then_tr ?_
          refine Tr.weak (Γ' := [(8, (pEq (.bool false))), (99999, (pTab 1 .u64 Lib.pow10Tab))]) ⟨rfl, rfl, trivial⟩ ?_
          refine Tr.ret ?_
          refine Ct.then_ret ?_
          replace h := Option.some.inj h; subst h
          exact Ct.retH1 (Ωx := [oSl 2 1 (cK .i64) g19.1 g19.2.1 g19.2.2 x18.1, oBlk b16 [(pEq (.slice g13.1.1 g13.1.2.1 g13.1.2.2)), (pEq (.slice g13.2.1 g13.2.2.1 g13.2.2.2))], oSl 2 1 (cK .i64) g13.1.1 g13.1.2.1 g13.1.2.2 x12.Offsets, oSl 2 1 (cK .i64) g13.2.1 g13.2.2.1 g13.2.2.2 x12.Losses, oBlk b10 [(pEq (.slice g7.1.1 g7.1.2.1 g7.1.2.2)), (pEq (.slice g7.2.1 g7.2.2.1 g7.2.2.2))], oSl 2 1 (cK .i64) g7.1.1 g7.1.2.1 g7.1.2.2 x6.Offsets, oSl 2 1 (cK .i64) g7.2.1 g7.2.2.1 g7.2.2.2 x6.Losses]) () rfl (RvOk.tmp rfl) rfl
        · replace h := bif_f hc h
          refine Tr.skip ?_
          refine Ct.then_tr ?_
          refine Tr.weak (Γ' := [(2, (pEq (.int .i64 a_2))), (3, (pEq (.int .i64 a_3))), (4, (pPtr (cGMask a_0))), (5, (pPtr (cGMask a_1))), (10, (pSl 1 (cK .i64) x5.1)), (11, (pEq (.int .i64 x5.2))), (12, (pEq (.pointer (some ⟨b10, 0, none⟩)))), (13, (pEq (.pointer (some ⟨b16, 0, none⟩)))), (14, (pEq (.slice g19.1 g19.2.1 g19.2.2))), (15, (pEq (.int .i64 x18.2))), (99999, (pTab 1 .u64 Lib.pow10Tab))]) ⟨rfl, rfl, rfl, rfl, rfl, rfl, rfl, rfl, rfl, rfl, rfl, trivial⟩ ?_
          refine Tr.seq ?_
          refine Tr.seq ?_
          replace h := bind_some h; obtain ⟨x25, hx25, h⟩ := h
          replace h := bind_some h; obtain ⟨x26, hx26, h⟩ := h
          refine Tr.drawD (n := 129) (m := 5) (es := [some (Ent.mk [(12, (pEq (.pointer (some ⟨b10, 0, none⟩))))] (pAgg [(pEq (.slice g7.1.1 g7.1.2.1 g7.1.2.2)), (pEq (.slice g7.2.1 g7.2.2.1 g7.2.2.2))]) true), some (Ent.mk [(4, (pPtr (cGMask a_0)))] (pAgg (cGMask a_0)) true), some (Ent.mk [(63, (pAgg (cGMask a_0)))] (pAgg (cGMask x25)) true), some (Ent.mk [(62, (pAgg [(pEq (.slice g7.1.1 g7.1.2.1 g7.1.2.2)), (pEq (.slice g7.2.1 g7.2.2.1 g7.2.2.2))])), (64, (pAgg (cGMask x25)))] (pEq (.bool x26)) true), some (Ent.mk [(65, (pEq (.bool x26)))] (pEq (.bool (!x26))) true)]) (rd := [[12], [4], [63], [62, 64], [65]]) rfl hmix (by kernel_rfl) fun hD => ?_
          refine RD.fin (es := [Ent.mk [(12, (pEq (.pointer (some ⟨b10, 0, none⟩))))] (pAgg [(pEq (.slice g7.1.1 g7.1.2.1 g7.1.2.2)), (pEq (.slice g7.2.1 g7.2.2.1 g7.2.2.2))]) true, Ent.mk [(4, (pPtr (cGMask a_0)))] (pAgg (cGMask a_0)) true, Ent.mk [(63, (pAgg (cGMask a_0)))] (pAgg (cGMask x25)) true, Ent.mk [(62, (pAgg [(pEq (.slice g7.1.1 g7.1.2.1 g7.1.2.2)), (pEq (.slice g7.2.1 g7.2.2.1 g7.2.2.2))])), (64, (pAgg (cGMask x25)))] (pEq (.bool x26)) true, Ent.mk [(65, (pEq (.bool x26)))] (pEq (.bool (!x26))) true]) (done := []) hD ⟨.inr ⟨(W_loadA (i := 4) rfl Tryd.isAgg39 sz39 (Opd.tmp rfl) rfl rfl), ⟨rfl, trivial⟩, rfl, rfl⟩, ⟨.inr ⟨(OpJ.w (J_loadA rfl Tryd.isAgg36 sz36 (Opd.tmp rfl) rfl)), ⟨rfl, trivial⟩, rfl, rfl⟩, ⟨.inr ⟨(OpJ.w (J_call rfl Tryd.call20 (c_laws_toMask hx25) (Opds.cons (Opd.tmp rfl) Opds.nil))), ⟨rfl, trivial⟩, rfl, rfl⟩, ⟨.inr ⟨(W_call rfl Tryd.call22 (c_laws_eqMask hx26) (OpdsA.cons (OpdA.conv rfl (Conv.agg (Convs.cons (Conv.row (f := (cK .i64)) 5 (fun _ => rfl) rfl) (Convs.cons (Conv.row (f := (cK .i64)) 6 (fun _ => rfl) rfl) Convs.nil)))) (OpdsA.cons (OpdA.of (Opd.tmp rfl)) OpdsA.nil)) FreeP.eq), ⟨rfl, rfl, trivial⟩, rfl, rfl⟩, ⟨.inr ⟨(OpJ.w (J_not rfl (Opd.tmp rfl))), ⟨rfl, trivial⟩, rfl, rfl⟩, trivial⟩⟩⟩⟩⟩ ?_
          refine RegL.nil ?_
          refine Ct.then_tr ?_
          refine Tr.weak (Γ' := [(2, (pEq (.int .i64 a_2))), (3, (pEq (.int .i64 a_3))), (4, (pPtr (cGMask a_0))), (5, (pPtr (cGMask a_1))), (10, (pSl 1 (cK .i64) x5.1)), (11, (pEq (.int .i64 x5.2))), (12, (pEq (.pointer (some ⟨b10, 0, none⟩)))), (13, (pEq (.pointer (some ⟨b16, 0, none⟩)))), (14, (pEq (.slice g19.1 g19.2.1 g19.2.2))), (15, (pEq (.int .i64 x18.2))), (66, (pEq (.bool (!x26)))), (99999, (pTab 1 .u64 Lib.pow10Tab))]) ⟨rfl, rfl, rfl, rfl, rfl, rfl, rfl, rfl, rfl, rfl, rfl, rfl, trivial⟩ ?_
          refine Tr.cond (Opd.tmp rfl) (fun hc => ?_) (fun hc => ?_)
          · replace h := bif_t hc h
            refine Tr.seq ?_
            refine Tr.region ?_
            refine RegL.pure (p := (pEq (.bool false))) rfl rfl rfl (J_assign rfl Opd.con) ?_
            refine RegL.nil ?_
            refine Ct.then_tr ?_
            refine Tr.weak (Γ' := [(8, (pEq (.bool false))), (99999, (pTab 1 .u64 Lib.pow10Tab))]) ⟨rfl, rfl, trivial⟩ ?_
            refine Tr.ret ?_
            refine Ct.then_ret ?_
            replace h := Option.some.inj h; subst h
            exact Ct.retH1 (Ωx := [oSl 2 1 (cK .i64) g19.1 g19.2.1 g19.2.2 x18.1, oBlk b16 [(pEq (.slice g13.1.1 g13.1.2.1 g13.1.2.2)), (pEq (.slice g13.2.1 g13.2.2.1 g13.2.2.2))], oSl 2 1 (cK .i64) g13.1.1 g13.1.2.1 g13.1.2.2 x12.Offsets, oSl 2 1 (cK .i64) g13.2.1 g13.2.2.1 g13.2.2.2 x12.Losses, oBlk b10 [(pEq (.slice g7.1.1 g7.1.2.1 g7.1.2.2)), (pEq (.slice g7.2.1 g7.2.2.1 g7.2.2.2))], oSl 2 1 (cK .i64) g7.1.1 g7.1.2.1 g7.1.2.2 x6.Offsets, oSl 2 1 (cK .i64) g7.2.1 g7.2.2.1 g7.2.2.2 x6.Losses]) () rfl (RvOk.tmp rfl) rfl
          · replace h := bif_f hc h
            refine Tr.skip ?_
            refine Ct.then_tr ?_
            refine Tr.weak (Γ' := [(2, (pEq (.int .i64 a_2))), (3, (pEq (.int .i64 a_3))), (4, (pPtr (cGMask a_0))), (5, (pPtr (cGMask a_1))), (10, (pSl 1 (cK .i64) x5.1)), (11, (pEq (.int .i64 x5.2))), (12, (pEq (.pointer (some ⟨b10, 0, none⟩)))), (13, (pEq (.pointer (some ⟨b16, 0, none⟩)))), (14, (pEq (.slice g19.1 g19.2.1 g19.2.2))), (15, (pEq (.int .i64 x18.2))), (99999, (pTab 1 .u64 Lib.pow10Tab))]) ⟨rfl, rfl, rfl, rfl, rfl, rfl, rfl, rfl, rfl, rfl, rfl, trivial⟩ ?_
            refine Tr.seq ?_
            refine Tr.seq ?_
            replace h := bind_some h; obtain ⟨x27, hx27, h⟩ := h
            replace h := bind_some h; obtain ⟨x28, hx28, h⟩ := h
            refine Tr.drawD (n := 129) (m := 5) (es := [some (Ent.mk [(13, (pEq (.pointer (some ⟨b16, 0, none⟩))))] (pAgg [(pEq (.slice g13.1.1 g13.1.2.1 g13.1.2.2)), (pEq (.slice g13.2.1 g13.2.2.1 g13.2.2.2))]) true), some (Ent.mk [(5, (pPtr (cGMask a_1)))] (pAgg (cGMask a_1)) true), some (Ent.mk [(68, (pAgg (cGMask a_1)))] (pAgg (cGMask x27)) true), some (Ent.mk [(67, (pAgg [(pEq (.slice g13.1.1 g13.1.2.1 g13.1.2.2)), (pEq (.slice g13.2.1 g13.2.2.1 g13.2.2.2))])), (69, (pAgg (cGMask x27)))] (pEq (.bool x28)) true), some (Ent.mk [(70, (pEq (.bool x28)))] (pEq (.bool (!x28))) true)]) (rd := [[13], [5], [68], [67, 69], [70]]) rfl hmix (by kernel_rfl) fun hD => ?_
            refine RD.fin (es := [Ent.mk [(13, (pEq (.pointer (some ⟨b16, 0, none⟩))))] (pAgg [(pEq (.slice g13.1.1 g13.1.2.1 g13.1.2.2)), (pEq (.slice g13.2.1 g13.2.2.1 g13.2.2.2))]) true, Ent.mk [(5, (pPtr (cGMask a_1)))] (pAgg (cGMask a_1)) true, Ent.mk [(68, (pAgg (cGMask a_1)))] (pAgg (cGMask x27)) true, Ent.mk [(67, (pAgg [(pEq (.slice g13.1.1 g13.1.2.1 g13.1.2.2)), (pEq (.slice g13.2.1 g13.2.2.1 g13.2.2.2))])), (69, (pAgg (cGMask x27)))] (pEq (.bool x28)) true, Ent.mk [(70, (pEq (.bool x28)))] (pEq (.bool (!x28))) true]) (done := []) hD ⟨.inr ⟨(W_loadA (i := 1) rfl Tryd.isAgg39 sz39 (Opd.tmp rfl) rfl rfl), ⟨rfl, trivial⟩, rfl, rfl⟩, ⟨.inr ⟨(OpJ.w (J_loadA rfl Tryd.isAgg36 sz36 (Opd.tmp rfl) rfl)), ⟨rfl, trivial⟩, rfl, rfl⟩, ⟨.inr ⟨(OpJ.w (J_call rfl Tryd.call20 (c_laws_toMask hx27) (Opds.cons (Opd.tmp rfl) Opds.nil))), ⟨rfl, trivial⟩, rfl, rfl⟩, ⟨.inr ⟨(W_call rfl Tryd.call22 (c_laws_eqMask hx28) (OpdsA.cons (OpdA.conv rfl (Conv.agg (Convs.cons (Conv.row (f := (cK .i64)) 2 (fun _ => rfl) rfl) (Convs.cons (Conv.row (f := (cK .i64)) 3 (fun _ => rfl) rfl) Convs.nil)))) (OpdsA.cons (OpdA.of (Opd.tmp rfl)) OpdsA.nil)) FreeP.eq), ⟨rfl, rfl, trivial⟩, rfl, rfl⟩, ⟨.inr ⟨(OpJ.w (J_not rfl (Opd.tmp rfl))), ⟨rfl, trivial⟩, rfl, rfl⟩, trivial⟩⟩⟩⟩⟩ ?_
            refine RegL.nil ?_
            refine Ct.then_tr ?_
            refine Tr.weak (Γ' := [(2, (pEq (.int .i64 a_2))), (3, (pEq (.int .i64 a_3))), (4, (pPtr (cGMask a_0))), (5, (pPtr (cGMask a_1))), (10, (pSl 1 (cK .i64) x5.1)), (11, (pEq (.int .i64 x5.2))), (12, (pEq (.pointer (some ⟨b10, 0, none⟩)))), (13, (pEq (.pointer (some ⟨b16, 0, none⟩)))), (14, (pEq (.slice g19.1 g19.2.1 g19.2.2))), (15, (pEq (.int .i64 x18.2))), (71, (pEq (.bool (!x28)))), (99999, (pTab 1 .u64 Lib.pow10Tab))]) ⟨rfl, rfl, rfl, rfl, rfl, rfl, rfl, rfl, rfl, rfl, rfl, rfl, trivial⟩ ?_
            refine Tr.cond (Opd.tmp rfl) (fun hc => ?_) (fun hc => ?_)
            · replace h := bif_t hc h
              refine Tr.seq ?_
              refine Tr.region ?_
              refine RegL.pure (p := (pEq (.bool false))) rfl rfl rfl (J_assign rfl Opd.con) ?_
              refine RegL.nil ?_
              refine Ct.then_tr ?_
              refine Tr.weak (Γ' := [(8, (pEq (.bool false))), (99999, (pTab 1 .u64 Lib.pow10Tab))]) ⟨rfl, rfl, trivial⟩ ?_
              refine Tr.ret ?_
              refine Ct.then_ret ?_
              replace h := Option.some.inj h; subst h
              exact Ct.retH1 (Ωx := [oSl 2 1 (cK .i64) g19.1 g19.2.1 g19.2.2 x18.1, oBlk b16 [(pEq (.slice g13.1.1 g13.1.2.1 g13.1.2.2)), (pEq (.slice g13.2.1 g13.2.2.1 g13.2.2.2))], oSl 2 1 (cK .i64) g13.1.1 g13.1.2.1 g13.1.2.2 x12.Offsets, oSl 2 1 (cK .i64) g13.2.1 g13.2.2.1 g13.2.2.2 x12.Losses, oBlk b10 [(pEq (.slice g7.1.1 g7.1.2.1 g7.1.2.2)), (pEq (.slice g7.2.1 g7.2.2.1 g7.2.2.2))], oSl 2 1 (cK .i64) g7.1.1 g7.1.2.1 g7.1.2.2 x6.Offsets, oSl 2 1 (cK .i64) g7.2.1 g7.2.2.1 g7.2.2.2 x6.Losses]) () rfl (RvOk.tmp rfl) rfl
            · replace h := bif_f hc h
              refine Tr.skip ?_
              refine Ct.then_tr ?_
              refine Tr.weak (Γ' := [(2, (pEq (.int .i64 a_2))), (3, (pEq (.int .i64 a_3))), (4, (pPtr (cGMask a_0))), (5, (pPtr (cGMask a_1))), (10, (pSl 1 (cK .i64) x5.1)), (11, (pEq (.int .i64 x5.2))), (12, (pEq (.pointer (some ⟨b10, 0, none⟩)))), (13, (pEq (.pointer (some ⟨b16, 0, none⟩)))), (14, (pEq (.slice g19.1 g19.2.1 g19.2.2))), (15, (pEq (.int .i64 x18.2))), (99999, (pTab 1 .u64 Lib.pow10Tab))]) ⟨rfl, rfl, rfl, rfl, rfl, rfl, rfl, rfl, rfl, rfl, rfl, trivial⟩ ?_
              refine Tr.seq ?_
              refine Tr.region ?_
              refine RegL.pure (p := (pEq (.int .i64 (1 : Int)))) rfl rfl rfl (J_assign rfl Opd.con) ?_
              refine RegL.nil ?_
              refine Ct.then_tr ?_
              refine Tr.weak (Γ' := [(2, (pEq (.int .i64 a_2))), (3, (pEq (.int .i64 a_3))), (4, (pPtr (cGMask a_0))), (5, (pPtr (cGMask a_1))), (10, (pSl 1 (cK .i64) x5.1)), (11, (pEq (.int .i64 x5.2))), (12, (pEq (.pointer (some ⟨b10, 0, none⟩)))), (13, (pEq (.pointer (some ⟨b16, 0, none⟩)))), (14, (pEq (.slice g19.1 g19.2.1 g19.2.2))), (15, (pEq (.int .i64 x18.2))), (16, (pEq (.int .i64 (1 : Int)))), (99999, (pTab 1 .u64 Lib.pow10Tab))]) ⟨rfl, rfl, rfl, rfl, rfl, rfl, rfl, rfl, rfl, rfl, rfl, rfl, trivial⟩ ?_
              refine Tr.seq ?_
              refine Tr.region ?_
              refine RegL.pureW (p := (pAgg [(pEq (.slice g7.1.1 g7.1.2.1 g7.1.2.2)), (pEq (.slice g7.2.1 g7.2.2.1 g7.2.2.2))])) rfl rfl rfl (W_loadA (i := 4) rfl Tryd.isAgg39 sz39 (Opd.tmp rfl) rfl rfl) ?_
              refine RegL.pure (p := (pEq (.int .i64 (1 : Int)))) rfl rfl rfl (J_move rfl (Opd.tmp rfl)) ?_
              replace h := bind_some h; obtain ⟨x29, hx29, h⟩ := h
              refine RegL.re (Ω2 := [oSl 2 1 (cK .i64) g7.2.1 g7.2.2.1 g7.2.2.2 x6.Losses, oSl 2 1 (cK .i64) g19.1 g19.2.1 g19.2.2 x18.1, oBlk b16 [(pEq (.slice g13.1.1 g13.1.2.1 g13.1.2.2)), (pEq (.slice g13.2.1 g13.2.2.1 g13.2.2.2))], oSl 2 1 (cK .i64) g13.1.1 g13.1.2.1 g13.1.2.2 x12.Offsets, oSl 2 1 (cK .i64) g13.2.1 g13.2.2.1 g13.2.2.2 x12.Losses, oBlk b10 [(pEq (.slice g7.1.1 g7.1.2.1 g7.1.2.2)), (pEq (.slice g7.2.1 g7.2.2.1 g7.2.2.2))], oSl 2 1 (cK .i64) g7.1.1 g7.1.2.1 g7.1.2.2 x6.Offsets]) (fun h => SatO.pick 6 h) ?_
              refine RegL.re (Ω2 := [oSl 2 1 (cK .i64) g7.1.1 g7.1.2.1 g7.1.2.2 x6.Offsets, oSl 2 1 (cK .i64) g7.2.1 g7.2.2.1 g7.2.2.2 x6.Losses, oSl 2 1 (cK .i64) g19.1 g19.2.1 g19.2.2 x18.1, oBlk b16 [(pEq (.slice g13.1.1 g13.1.2.1 g13.1.2.2)), (pEq (.slice g13.2.1 g13.2.2.1 g13.2.2.2))], oSl 2 1 (cK .i64) g13.1.1 g13.1.2.1 g13.1.2.2 x12.Offsets, oSl 2 1 (cK .i64) g13.2.1 g13.2.2.1 g13.2.2.2 x12.Losses, oBlk b10 [(pEq (.slice g7.1.1 g7.1.2.1 g7.1.2.2)), (pEq (.slice g7.2.1 g7.2.2.1 g7.2.2.2))]]) (fun h => SatO.pick 6 h) ?_
              refine RegL.step (γ := Unit) (p := fun g => (pEq (.int .i64 x29.1))) (Ω' := fun g => [oSl 2 1 (cK .i64) g7.1.1 g7.1.2.1 g7.1.2.2 x29.2.1, oSl 2 1 (cK .i64) g7.2.1 g7.2.2.1 g7.2.2.2 x29.2.2, oSl 2 1 (cK .i64) g19.1 g19.2.1 g19.2.2 x18.1, oBlk b16 [(pEq (.slice g13.1.1 g13.1.2.1 g13.1.2.2)), (pEq (.slice g13.2.1 g13.2.2.1 g13.2.2.2))], oSl 2 1 (cK .i64) g13.1.1 g13.1.2.1 g13.1.2.2 x12.Offsets, oSl 2 1 (cK .i64) g13.2.1 g13.2.2.1 g13.2.2.2 x12.Losses, oBlk b10 [(pEq (.slice g7.1.1 g7.1.2.1 g7.1.2.2)), (pEq (.slice g7.2.1 g7.2.2.1 g7.2.2.2))]]) rfl rfl rfl (M_callH (Ωi := [oSl 2 1 (cK .i64) g7.1.1 g7.1.2.1 g7.1.2.2 x6.Offsets, oSl 2 1 (cK .i64) g7.2.1 g7.2.2.1 g7.2.2.2 x6.Losses]) rfl Tryd.call25 (o_laws_markMask hx29) (Opds.cons (Opd.tmp rfl) (Opds.cons (Opd.tmp rfl) Opds.nil))) fun g30 => ?_
              refine RegL.pure (p := (pEq (.int .i64 x29.1))) rfl rfl rfl (J_assign rfl (Opd.tmp rfl)) ?_
              refine RegL.nil ?_
              refine Ct.then_tr ?_
              refine Tr.weak (Γ' := [(2, (pEq (.int .i64 a_2))), (3, (pEq (.int .i64 a_3))), (4, (pPtr (cGMask a_0))), (5, (pPtr (cGMask a_1))), (10, (pSl 1 (cK .i64) x5.1)), (11, (pEq (.int .i64 x5.2))), (13, (pEq (.pointer (some ⟨b16, 0, none⟩)))), (14, (pEq (.slice g19.1 g19.2.1 g19.2.2))), (15, (pEq (.int .i64 x18.2))), (16, (pEq (.int .i64 x29.1))), (99999, (pTab 1 .u64 Lib.pow10Tab))]) ⟨rfl, rfl, rfl, rfl, rfl, rfl, rfl, rfl, rfl, rfl, rfl, trivial⟩ ?_
              refine Tr.seq ?_
              refine Tr.region ?_
              refine RegL.pureW (p := (pAgg [(pEq (.slice g13.1.1 g13.1.2.1 g13.1.2.2)), (pEq (.slice g13.2.1 g13.2.2.1 g13.2.2.2))])) rfl rfl rfl (W_loadA (i := 3) rfl Tryd.isAgg39 sz39 (Opd.tmp rfl) rfl rfl) ?_
              refine RegL.pure (p := (pEq (.int .i64 x29.1))) rfl rfl rfl (J_move rfl (Opd.tmp rfl)) ?_
              replace h := bind_some h; obtain ⟨x31, hx31, h⟩ := h
              refine RegL.re (Ω2 := [oSl 2 1 (cK .i64) g13.2.1 g13.2.2.1 g13.2.2.2 x12.Losses, oSl 2 1 (cK .i64) g7.1.1 g7.1.2.1 g7.1.2.2 x29.2.1, oSl 2 1 (cK .i64) g7.2.1 g7.2.2.1 g7.2.2.2 x29.2.2, oSl 2 1 (cK .i64) g19.1 g19.2.1 g19.2.2 x18.1, oBlk b16 [(pEq (.slice g13.1.1 g13.1.2.1 g13.1.2.2)), (pEq (.slice g13.2.1 g13.2.2.1 g13.2.2.2))], oSl 2 1 (cK .i64) g13.1.1 g13.1.2.1 g13.1.2.2 x12.Offsets, oBlk b10 [(pEq (.slice g7.1.1 g7.1.2.1 g7.1.2.2)), (pEq (.slice g7.2.1 g7.2.2.1 g7.2.2.2))]]) (fun h => SatO.pick 5 h) ?_
              refine RegL.re (Ω2 := [oSl 2 1 (cK .i64) g13.1.1 g13.1.2.1 g13.1.2.2 x12.Offsets, oSl 2 1 (cK .i64) g13.2.1 g13.2.2.1 g13.2.2.2 x12.Losses, oSl 2 1 (cK .i64) g7.1.1 g7.1.2.1 g7.1.2.2 x29.2.1, oSl 2 1 (cK .i64) g7.2.1 g7.2.2.1 g7.2.2.2 x29.2.2, oSl 2 1 (cK .i64) g19.1 g19.2.1 g19.2.2 x18.1, oBlk b16 [(pEq (.slice g13.1.1 g13.1.2.1 g13.1.2.2)), (pEq (.slice g13.2.1 g13.2.2.1 g13.2.2.2))], oBlk b10 [(pEq (.slice g7.1.1 g7.1.2.1 g7.1.2.2)), (pEq (.slice g7.2.1 g7.2.2.1 g7.2.2.2))]]) (fun h => SatO.pick 5 h) ?_
              refine RegL.step (γ := Unit) (p := fun g => (pEq (.int .i64 x31.1))) (Ω' := fun g => [oSl 2 1 (cK .i64) g13.1.1 g13.1.2.1 g13.1.2.2 x31.2.1, oSl 2 1 (cK .i64) g13.2.1 g13.2.2.1 g13.2.2.2 x31.2.2, oSl 2 1 (cK .i64) g7.1.1 g7.1.2.1 g7.1.2.2 x29.2.1, oSl 2 1 (cK .i64) g7.2.1 g7.2.2.1 g7.2.2.2 x29.2.2, oSl 2 1 (cK .i64) g19.1 g19.2.1 g19.2.2 x18.1, oBlk b16 [(pEq (.slice g13.1.1 g13.1.2.1 g13.1.2.2)), (pEq (.slice g13.2.1 g13.2.2.1 g13.2.2.2))], oBlk b10 [(pEq (.slice g7.1.1 g7.1.2.1 g7.1.2.2)), (pEq (.slice g7.2.1 g7.2.2.1 g7.2.2.2))]]) rfl rfl rfl (M_callH (Ωi := [oSl 2 1 (cK .i64) g13.1.1 g13.1.2.1 g13.1.2.2 x12.Offsets, oSl 2 1 (cK .i64) g13.2.1 g13.2.2.1 g13.2.2.2 x12.Losses]) rfl Tryd.call25 (o_laws_markMask hx31) (Opds.cons (Opd.tmp rfl) (Opds.cons (Opd.tmp rfl) Opds.nil))) fun g32 => ?_
              refine RegL.pure (p := (pEq (.int .i64 x31.1))) rfl rfl rfl (J_assign rfl (Opd.tmp rfl)) ?_
              refine RegL.nil ?_
              refine Ct.then_tr ?_
              refine Tr.weak (Γ' := [(2, (pEq (.int .i64 a_2))), (3, (pEq (.int .i64 a_3))), (4, (pPtr (cGMask a_0))), (5, (pPtr (cGMask a_1))), (10, (pSl 1 (cK .i64) x5.1)), (11, (pEq (.int .i64 x5.2))), (14, (pEq (.slice g19.1 g19.2.1 g19.2.2))), (15, (pEq (.int .i64 x18.2))), (16, (pEq (.int .i64 x31.1))), (99999, (pTab 1 .u64 Lib.pow10Tab))]) ⟨rfl, rfl, rfl, rfl, rfl, rfl, rfl, rfl, rfl, rfl, trivial⟩ ?_
              refine Tr.seq ?_
              refine Tr.seq ?_
              replace h := bind_some h; obtain ⟨x33, hx33, h⟩ := h
              refine Tr.cut (γ := Unit) (Γm := fun g => [(2, (pEq (.int .i64 a_2))), (3, (pEq (.int .i64 a_3))), (4, (pPtr (cGMask a_0))), (5, (pPtr (cGMask a_1))), (10, (pSl 1 (cK .i64) x5.1)), (11, (pEq (.int .i64 x5.2))), (14, (pEq (.slice g19.1 g19.2.1 g19.2.2))), (90, (pEq (.bool x33))), (99999, (pTab 1 .u64 Lib.pow10Tab))]) (Ωm := fun g => [oSl 2 1 (cK .i64) g19.1 g19.2.1 g19.2.2 x18.1]) ?_ (fun g37 => ?_)
              · clear h
                have h := hx33
                clear hx33
                refine Tr.region ?_
                refine RegL.pure (p := (pEq (.int .i64 x31.1))) rfl rfl rfl (J_move rfl (Opd.tmp rfl)) ?_
                refine RegL.pure (p := (pEq (.bool (decide (x31.1 < (0 : Int)))))) rfl rfl rfl (J_bin rfl (Opd.tmp rfl) Opd.con B_lss) ?_
                refine RegL.pure (p := (pEq (.bool (decide (x31.1 < (0 : Int)))))) rfl rfl rfl (J_move rfl (Opd.tmp rfl)) ?_
                rcases Bool.eq_false_or_eq_true (decide (x31.1 < (0 : Int))) with hc34 | hc34
                · replace h := bif_t hc34 h
                  refine RegL.skipG rfl rfl rfl hc34 rfl rfl ?_
                  refine RegL.skipG rfl rfl rfl hc34 rfl rfl ?_
                  refine RegL.skipG rfl rfl rfl hc34 rfl rfl ?_
                  refine RegL.skipG rfl rfl rfl hc34 rfl rfl ?_
                  refine RegL.pure (p := (pEq (.bool true))) rfl rfl rfl (J_pick rfl (Opd.tmp rfl) (fun _ => Opd.con) (fun hf => absurd (hc34.symm.trans hf) (by decide))) ?_
                  refine RegL.pure (p := (pEq (.bool true))) rfl rfl rfl (J_move rfl (Opd.tmp rfl)) ?_
                  refine RegL.skipG rfl rfl rfl rfl rfl rfl ?_
                  refine RegL.skipG rfl rfl rfl rfl rfl rfl ?_
                  refine RegL.skipG rfl rfl rfl rfl rfl rfl ?_
                  refine RegL.pure (p := (pEq (.bool true))) rfl rfl rfl (J_pick rfl (Opd.tmp rfl) (fun _ => Opd.con) (fun hf => absurd hf (by decide))) ?_
                  refine RegL.nil ?_
                  refine Ct.re (Ω2 := [oSl 2 1 (cK .i64) g13.2.1 g13.2.2.1 g13.2.2.2 x31.2.2, oSl 2 1 (cK .i64) g7.1.1 g7.1.2.1 g7.1.2.2 x29.2.1, oSl 2 1 (cK .i64) g7.2.1 g7.2.2.1 g7.2.2.2 x29.2.2, oSl 2 1 (cK .i64) g19.1 g19.2.1 g19.2.2 x18.1, oBlk b16 [(pEq (.slice g13.1.1 g13.1.2.1 g13.1.2.2)), (pEq (.slice g13.2.1 g13.2.2.1 g13.2.2.2))], oBlk b10 [(pEq (.slice g7.1.1 g7.1.2.1 g7.1.2.2)), (pEq (.slice g7.2.1 g7.2.2.1 g7.2.2.2))]]) (fun h => SatO.rest h) ?_
                  refine Ct.re (Ω2 := [oSl 2 1 (cK .i64) g7.1.1 g7.1.2.1 g7.1.2.2 x29.2.1, oSl 2 1 (cK .i64) g7.2.1 g7.2.2.1 g7.2.2.2 x29.2.2, oSl 2 1 (cK .i64) g19.1 g19.2.1 g19.2.2 x18.1, oBlk b16 [(pEq (.slice g13.1.1 g13.1.2.1 g13.1.2.2)), (pEq (.slice g13.2.1 g13.2.2.1 g13.2.2.2))], oBlk b10 [(pEq (.slice g7.1.1 g7.1.2.1 g7.1.2.2)), (pEq (.slice g7.2.1 g7.2.2.1 g7.2.2.2))]]) (fun h => SatO.rest h) ?_
                  refine Ct.re (Ω2 := [oSl 2 1 (cK .i64) g7.2.1 g7.2.2.1 g7.2.2.2 x29.2.2, oSl 2 1 (cK .i64) g19.1 g19.2.1 g19.2.2 x18.1, oBlk b16 [(pEq (.slice g13.1.1 g13.1.2.1 g13.1.2.2)), (pEq (.slice g13.2.1 g13.2.2.1 g13.2.2.2))], oBlk b10 [(pEq (.slice g7.1.1 g7.1.2.1 g7.1.2.2)), (pEq (.slice g7.2.1 g7.2.2.1 g7.2.2.2))]]) (fun h => SatO.rest h) ?_
                  refine Ct.re (Ω2 := [oSl 2 1 (cK .i64) g19.1 g19.2.1 g19.2.2 x18.1, oBlk b16 [(pEq (.slice g13.1.1 g13.1.2.1 g13.1.2.2)), (pEq (.slice g13.2.1 g13.2.2.1 g13.2.2.2))], oBlk b10 [(pEq (.slice g7.1.1 g7.1.2.1 g7.1.2.2)), (pEq (.slice g7.2.1 g7.2.2.1 g7.2.2.2))]]) (fun h => SatO.rest h) ?_
                  refine Ct.re (Ω2 := [oBlk b16 [(pEq (.slice g13.1.1 g13.1.2.1 g13.1.2.2)), (pEq (.slice g13.2.1 g13.2.2.1 g13.2.2.2))], oSl 2 1 (cK .i64) g19.1 g19.2.1 g19.2.2 x18.1, oBlk b10 [(pEq (.slice g7.1.1 g7.1.2.1 g7.1.2.2)), (pEq (.slice g7.2.1 g7.2.2.1 g7.2.2.2))]]) (fun h => SatO.pick 1 h) ?_
                  refine Ct.re (Ω2 := [oSl 2 1 (cK .i64) g19.1 g19.2.1 g19.2.2 x18.1, oBlk b10 [(pEq (.slice g7.1.1 g7.1.2.1 g7.1.2.2)), (pEq (.slice g7.2.1 g7.2.2.1 g7.2.2.2))]]) (fun h => SatO.rest h) ?_
                  refine Ct.re (Ω2 := [oBlk b10 [(pEq (.slice g7.1.1 g7.1.2.1 g7.1.2.2)), (pEq (.slice g7.2.1 g7.2.2.1 g7.2.2.2))], oSl 2 1 (cK .i64) g19.1 g19.2.1 g19.2.2 x18.1]) (fun h => SatO.pick 1 h) ?_
                  refine Ct.re (Ω2 := [oSl 2 1 (cK .i64) g19.1 g19.2.1 g19.2.2 x18.1]) (fun h => SatO.rest h) ?_
                  replace h := Option.some.inj h; subst h
                  exact Ct.mid () rfl ⟨rfl, rfl, rfl, rfl, rfl, rfl, rfl, rfl, rfl, trivial⟩
                · replace h := bif_f hc34 h
                  refine RegL.pureG (p := (pEq (.slice g19.1 g19.2.1 g19.2.2))) rfl rfl rfl hc34 rfl rfl (J_move rfl (Opd.tmp rfl)) ?_
                  refine RegL.pureG (p := (pSl 1 (cK .i64) x5.1)) rfl rfl rfl hc34 rfl rfl (J_move rfl (Opd.tmp rfl)) ?_
                  replace h := bind_some h; obtain ⟨x35, hx35, h⟩ := h
                  refine RegL.pureGW (p := (pEq (.bool x35))) rfl rfl rfl hc34 rfl rfl (W_call rfl Tryd.call12 (c_laws_eqInt64S hx35) (OpdsA.cons (OpdA.conv rfl (Conv.row (f := (cK .i64)) 4 (fun _ => rfl) rfl)) (OpdsA.cons (OpdA.of (Opd.tmp rfl)) OpdsA.nil)) FreeP.eq) ?_
                  refine RegL.pureG (p := (pEq (.bool (!x35)))) rfl rfl rfl hc34 rfl rfl (J_not rfl (Opd.tmp rfl)) ?_
                  refine RegL.pure (p := (pEq (.bool (!x35)))) rfl rfl rfl (J_pick rfl (Opd.tmp rfl) (fun hf => absurd (hc34.symm.trans hf) (by decide)) (fun _ => (Opd.tmp rfl))) ?_
                  refine RegL.pure (p := (pEq (.bool (!x35)))) rfl rfl rfl (J_move rfl (Opd.tmp rfl)) ?_
                  rcases Bool.eq_false_or_eq_true (!x35) with hc36 | hc36
                  · replace h := bif_t hc36 h
                    refine RegL.skipG rfl rfl rfl hc36 rfl rfl ?_
                    refine RegL.skipG rfl rfl rfl hc36 rfl rfl ?_
                    refine RegL.skipG rfl rfl rfl hc36 rfl rfl ?_
                    refine RegL.pure (p := (pEq (.bool true))) rfl rfl rfl (J_pick rfl (Opd.tmp rfl) (fun _ => Opd.con) (fun hf => absurd (hc36.symm.trans hf) (by decide))) ?_
                    refine RegL.nil ?_
                    refine Ct.re (Ω2 := [oSl 2 1 (cK .i64) g13.2.1 g13.2.2.1 g13.2.2.2 x31.2.2, oSl 2 1 (cK .i64) g7.1.1 g7.1.2.1 g7.1.2.2 x29.2.1, oSl 2 1 (cK .i64) g7.2.1 g7.2.2.1 g7.2.2.2 x29.2.2, oSl 2 1 (cK .i64) g19.1 g19.2.1 g19.2.2 x18.1, oBlk b16 [(pEq (.slice g13.1.1 g13.1.2.1 g13.1.2.2)), (pEq (.slice g13.2.1 g13.2.2.1 g13.2.2.2))], oBlk b10 [(pEq (.slice g7.1.1 g7.1.2.1 g7.1.2.2)), (pEq (.slice g7.2.1 g7.2.2.1 g7.2.2.2))]]) (fun h => SatO.rest h) ?_
                    refine Ct.re (Ω2 := [oSl 2 1 (cK .i64) g7.1.1 g7.1.2.1 g7.1.2.2 x29.2.1, oSl 2 1 (cK .i64) g7.2.1 g7.2.2.1 g7.2.2.2 x29.2.2, oSl 2 1 (cK .i64) g19.1 g19.2.1 g19.2.2 x18.1, oBlk b16 [(pEq (.slice g13.1.1 g13.1.2.1 g13.1.2.2)), (pEq (.slice g13.2.1 g13.2.2.1 g13.2.2.2))], oBlk b10 [(pEq (.slice g7.1.1 g7.1.2.1 g7.1.2.2)), (pEq (.slice g7.2.1 g7.2.2.1 g7.2.2.2))]]) (fun h => SatO.rest h) ?_
                    refine Ct.re (Ω2 := [oSl 2 1 (cK .i64) g7.2.1 g7.2.2.1 g7.2.2.2 x29.2.2, oSl 2 1 (cK .i64) g19.1 g19.2.1 g19.2.2 x18.1, oBlk b16 [(pEq (.slice g13.1.1 g13.1.2.1 g13.1.2.2)), (pEq (.slice g13.2.1 g13.2.2.1 g13.2.2.2))], oBlk b10 [(pEq (.slice g7.1.1 g7.1.2.1 g7.1.2.2)), (pEq (.slice g7.2.1 g7.2.2.1 g7.2.2.2))]]) (fun h => SatO.rest h) ?_
                    refine Ct.re (Ω2 := [oSl 2 1 (cK .i64) g19.1 g19.2.1 g19.2.2 x18.1, oBlk b16 [(pEq (.slice g13.1.1 g13.1.2.1 g13.1.2.2)), (pEq (.slice g13.2.1 g13.2.2.1 g13.2.2.2))], oBlk b10 [(pEq (.slice g7.1.1 g7.1.2.1 g7.1.2.2)), (pEq (.slice g7.2.1 g7.2.2.1 g7.2.2.2))]]) (fun h => SatO.rest h) ?_
                    refine Ct.re (Ω2 := [oBlk b16 [(pEq (.slice g13.1.1 g13.1.2.1 g13.1.2.2)), (pEq (.slice g13.2.1 g13.2.2.1 g13.2.2.2))], oSl 2 1 (cK .i64) g19.1 g19.2.1 g19.2.2 x18.1, oBlk b10 [(pEq (.slice g7.1.1 g7.1.2.1 g7.1.2.2)), (pEq (.slice g7.2.1 g7.2.2.1 g7.2.2.2))]]) (fun h => SatO.pick 1 h) ?_
                    refine Ct.re (Ω2 := [oSl 2 1 (cK .i64) g19.1 g19.2.1 g19.2.2 x18.1, oBlk b10 [(pEq (.slice g7.1.1 g7.1.2.1 g7.1.2.2)), (pEq (.slice g7.2.1 g7.2.2.1 g7.2.2.2))]]) (fun h => SatO.rest h) ?_
                    refine Ct.re (Ω2 := [oBlk b10 [(pEq (.slice g7.1.1 g7.1.2.1 g7.1.2.2)), (pEq (.slice g7.2.1 g7.2.2.1 g7.2.2.2))], oSl 2 1 (cK .i64) g19.1 g19.2.1 g19.2.2 x18.1]) (fun h => SatO.pick 1 h) ?_
                    refine Ct.re (Ω2 := [oSl 2 1 (cK .i64) g19.1 g19.2.1 g19.2.2 x18.1]) (fun h => SatO.rest h) ?_
                    replace h := Option.some.inj h; subst h
                    exact Ct.mid () rfl ⟨rfl, rfl, rfl, rfl, rfl, rfl, rfl, rfl, rfl, trivial⟩
                  · replace h := bif_f hc36 h
                    refine RegL.pureG (p := (pEq (.int .i64 x18.2))) rfl rfl rfl hc36 rfl rfl (J_move rfl (Opd.tmp rfl)) ?_
                    refine RegL.pureG (p := (pEq (.int .i64 x5.2))) rfl rfl rfl hc36 rfl rfl (J_move rfl (Opd.tmp rfl)) ?_
                    refine RegL.pureG (p := (pEq (.bool (x18.2 != x5.2)))) rfl rfl rfl hc36 rfl rfl (J_bin rfl (Opd.tmp rfl) (Opd.tmp rfl) B_neq) ?_
                    refine RegL.pure (p := (pEq (.bool (x18.2 != x5.2)))) rfl rfl rfl (J_pick rfl (Opd.tmp rfl) (fun hf => absurd (hc36.symm.trans hf) (by decide)) (fun _ => (Opd.tmp rfl))) ?_
                    refine RegL.nil ?_
                    refine Ct.re (Ω2 := [oSl 2 1 (cK .i64) g13.2.1 g13.2.2.1 g13.2.2.2 x31.2.2, oSl 2 1 (cK .i64) g7.1.1 g7.1.2.1 g7.1.2.2 x29.2.1, oSl 2 1 (cK .i64) g7.2.1 g7.2.2.1 g7.2.2.2 x29.2.2, oSl 2 1 (cK .i64) g19.1 g19.2.1 g19.2.2 x18.1, oBlk b16 [(pEq (.slice g13.1.1 g13.1.2.1 g13.1.2.2)), (pEq (.slice g13.2.1 g13.2.2.1 g13.2.2.2))], oBlk b10 [(pEq (.slice g7.1.1 g7.1.2.1 g7.1.2.2)), (pEq (.slice g7.2.1 g7.2.2.1 g7.2.2.2))]]) (fun h => SatO.rest h) ?_
                    refine Ct.re (Ω2 := [oSl 2 1 (cK .i64) g7.1.1 g7.1.2.1 g7.1.2.2 x29.2.1, oSl 2 1 (cK .i64) g7.2.1 g7.2.2.1 g7.2.2.2 x29.2.2, oSl 2 1 (cK .i64) g19.1 g19.2.1 g19.2.2 x18.1, oBlk b16 [(pEq (.slice g13.1.1 g13.1.2.1 g13.1.2.2)), (pEq (.slice g13.2.1 g13.2.2.1 g13.2.2.2))], oBlk b10 [(pEq (.slice g7.1.1 g7.1.2.1 g7.1.2.2)), (pEq (.slice g7.2.1 g7.2.2.1 g7.2.2.2))]]) (fun h => SatO.rest h) ?_
                    refine Ct.re (Ω2 := [oSl 2 1 (cK .i64) g7.2.1 g7.2.2.1 g7.2.2.2 x29.2.2, oSl 2 1 (cK .i64) g19.1 g19.2.1 g19.2.2 x18.1, oBlk b16 [(pEq (.slice g13.1.1 g13.1.2.1 g13.1.2.2)), (pEq (.slice g13.2.1 g13.2.2.1 g13.2.2.2))], oBlk b10 [(pEq (.slice g7.1.1 g7.1.2.1 g7.1.2.2)), (pEq (.slice g7.2.1 g7.2.2.1 g7.2.2.2))]]) (fun h => SatO.rest h) ?_
                    refine Ct.re (Ω2 := [oSl 2 1 (cK .i64) g19.1 g19.2.1 g19.2.2 x18.1, oBlk b16 [(pEq (.slice g13.1.1 g13.1.2.1 g13.1.2.2)), (pEq (.slice g13.2.1 g13.2.2.1 g13.2.2.2))], oBlk b10 [(pEq (.slice g7.1.1 g7.1.2.1 g7.1.2.2)), (pEq (.slice g7.2.1 g7.2.2.1 g7.2.2.2))]]) (fun h => SatO.rest h) ?_
                    refine Ct.re (Ω2 := [oBlk b16 [(pEq (.slice g13.1.1 g13.1.2.1 g13.1.2.2)), (pEq (.slice g13.2.1 g13.2.2.1 g13.2.2.2))], oSl 2 1 (cK .i64) g19.1 g19.2.1 g19.2.2 x18.1, oBlk b10 [(pEq (.slice g7.1.1 g7.1.2.1 g7.1.2.2)), (pEq (.slice g7.2.1 g7.2.2.1 g7.2.2.2))]]) (fun h => SatO.pick 1 h) ?_
                    refine Ct.re (Ω2 := [oSl 2 1 (cK .i64) g19.1 g19.2.1 g19.2.2 x18.1, oBlk b10 [(pEq (.slice g7.1.1 g7.1.2.1 g7.1.2.2)), (pEq (.slice g7.2.1 g7.2.2.1 g7.2.2.2))]]) (fun h => SatO.rest h) ?_
                    refine Ct.re (Ω2 := [oBlk b10 [(pEq (.slice g7.1.1 g7.1.2.1 g7.1.2.2)), (pEq (.slice g7.2.1 g7.2.2.1 g7.2.2.2))], oSl 2 1 (cK .i64) g19.1 g19.2.1 g19.2.2 x18.1]) (fun h => SatO.pick 1 h) ?_
                    refine Ct.re (Ω2 := [oSl 2 1 (cK .i64) g19.1 g19.2.1 g19.2.2 x18.1]) (fun h => SatO.rest h) ?_
                    replace h := Option.some.inj h; subst h
                    exact Ct.mid () rfl ⟨rfl, rfl, rfl, rfl, rfl, rfl, rfl, rfl, rfl, trivial⟩
              · clear hx33
                refine Ct.then_tr ?_
                refine Tr.weak (Γ' := [(2, (pEq (.int .i64 a_2))), (3, (pEq (.int .i64 a_3))), (4, (pPtr (cGMask a_0))), (5, (pPtr (cGMask a_1))), (10, (pSl 1 (cK .i64) x5.1)), (11, (pEq (.int .i64 x5.2))), (14, (pEq (.slice g19.1 g19.2.1 g19.2.2))), (90, (pEq (.bool x33))), (99999, (pTab 1 .u64 Lib.pow10Tab))]) ⟨rfl, rfl, rfl, rfl, rfl, rfl, rfl, rfl, rfl, trivial⟩ ?_
                refine Tr.cond (Opd.tmp rfl) (fun hc => ?_) (fun hc => ?_)
                · replace h := bif_t hc h
                  refine Tr.seq ?_
                  refine Tr.region ?_
                  refine RegL.pure (p := (pEq (.bool false))) rfl rfl rfl (J_assign rfl Opd.con) ?_
                  refine RegL.nil ?_
                  refine Ct.then_tr ?_
                  refine Tr.weak (Γ' := [(8, (pEq (.bool false))), (99999, (pTab 1 .u64 Lib.pow10Tab))]) ⟨rfl, rfl, trivial⟩ ?_
                  refine Tr.ret ?_
                  refine Ct.then_ret ?_
                  replace h := Option.some.inj h; subst h
                  exact Ct.retH1 (Ωx := [oSl 2 1 (cK .i64) g19.1 g19.2.1 g19.2.2 x18.1]) () rfl (RvOk.tmp rfl) rfl
                · replace h := bif_f hc h
                  refine Tr.skip ?_
                  refine Ct.then_tr ?_
                  refine Tr.weak (Γ' := [(2, (pEq (.int .i64 a_2))), (3, (pEq (.int .i64 a_3))), (4, (pPtr (cGMask a_0))), (5, (pPtr (cGMask a_1))), (10, (pSl 1 (cK .i64) x5.1)), (11, (pEq (.int .i64 x5.2))), (14, (pEq (.slice g19.1 g19.2.1 g19.2.2))), (99999, (pTab 1 .u64 Lib.pow10Tab))]) ⟨rfl, rfl, rfl, rfl, rfl, rfl, rfl, rfl, trivial⟩ ?_
                  refine Tr.seq ?_
                  refine Tr.region ?_
                  refine RegL.pure (p := (pEq (.int .i64 (1 : Int)))) rfl rfl rfl (J_assign rfl Opd.con) ?_
                  refine RegL.nil ?_
                  refine Ct.then_tr ?_
                  refine Tr.weak (Γ' := [(2, (pEq (.int .i64 a_2))), (3, (pEq (.int .i64 a_3))), (4, (pPtr (cGMask a_0))), (5, (pPtr (cGMask a_1))), (10, (pSl 1 (cK .i64) x5.1)), (11, (pEq (.int .i64 x5.2))), (14, (pEq (.slice g19.1 g19.2.1 g19.2.2))), (17, (pEq (.int .i64 (1 : Int)))), (99999, (pTab 1 .u64 Lib.pow10Tab))]) ⟨rfl, rfl, rfl, rfl, rfl, rfl, rfl, rfl, rfl, trivial⟩ ?_
                  refine Tr.seq ?_
                  refine Tr.region ?_
                  refine RegL.pure (p := (pEq (.slice g19.1 g19.2.1 g19.2.2))) rfl rfl rfl (J_move rfl (Opd.tmp rfl)) ?_
                  refine RegL.pure (p := (pEq (.int .i64 (1 : Int)))) rfl rfl rfl (J_move rfl (Opd.tmp rfl)) ?_
                  replace h := bind_some h; obtain ⟨x38, hx38, h⟩ := h
                  refine RegL.step (γ := Unit) (p := fun g => (pEq (.int .i64 x38.1))) (Ω' := fun g => [oSl 2 1 (cK .i64) g19.1 g19.2.1 g19.2.2 x38.2]) rfl rfl rfl (M_callH (Ωi := [oSl 2 1 (cK .i64) g19.1 g19.2.1 g19.2.2 x18.1]) rfl Tryd.call26 (o_laws_markInt64S hx38) (Opds.cons (Opd.tmp rfl) (Opds.cons (Opd.tmp rfl) Opds.nil))) fun g39 => ?_
                  refine RegL.pure (p := (pEq (.int .i64 x38.1))) rfl rfl rfl (J_assign rfl (Opd.tmp rfl)) ?_
                  refine RegL.nil ?_
                  refine Ct.then_tr ?_
                  refine Tr.weak (Γ' := [(2, (pEq (.int .i64 a_2))), (3, (pEq (.int .i64 a_3))), (4, (pPtr (cGMask a_0))), (5, (pPtr (cGMask a_1))), (10, (pSl 1 (cK .i64) x5.1)), (11, (pEq (.int .i64 x5.2))), (14, (pEq (.slice g19.1 g19.2.1 g19.2.2))), (17, (pEq (.int .i64 x38.1))), (99999, (pTab 1 .u64 Lib.pow10Tab))]) ⟨rfl, rfl, rfl, rfl, rfl, rfl, rfl, rfl, rfl, trivial⟩ ?_
                  refine Tr.seq ?_
                  refine Tr.region ?_
                  refine RegL.pure (p := (pEq (.int .i64 (1 : Int)))) rfl rfl rfl (J_assign rfl Opd.con) ?_
                  refine RegL.nil ?_
                  refine Ct.then_tr ?_
                  refine Tr.weak (Γ' := [(2, (pEq (.int .i64 a_2))), (3, (pEq (.int .i64 a_3))), (4, (pPtr (cGMask a_0))), (5, (pPtr (cGMask a_1))), (10, (pSl 1 (cK .i64) x5.1)), (11, (pEq (.int .i64 x5.2))), (14, (pEq (.slice g19.1 g19.2.1 g19.2.2))), (17, (pEq (.int .i64 x38.1))), (18, (pEq (.int .i64 (1 : Int)))), (99999, (pTab 1 .u64 Lib.pow10Tab))]) ⟨rfl, rfl, rfl, rfl, rfl, rfl, rfl, rfl, rfl, rfl, trivial⟩ ?_
                  refine Tr.seq ?_
                  refine Tr.region ?_
                  refine RegL.pure (p := (pEq (.slice g19.1 g19.2.1 g19.2.2))) rfl rfl rfl (J_move rfl (Opd.tmp rfl)) ?_
                  refine RegL.pure (p := (pEq (.int .i64 (1 : Int)))) rfl rfl rfl (J_move rfl (Opd.tmp rfl)) ?_
                  replace h := bind_some h; obtain ⟨x40, hx40, h⟩ := h
                  refine RegL.pureW (p := (pEq (.int .i64 x40))) rfl rfl rfl (W_call rfl Tryd.call27 (c_laws_heldInt64S hx40) (OpdsA.cons (OpdA.conv rfl (Conv.row (f := (cK .i64)) 0 (fun _ => rfl) rfl)) (OpdsA.cons (OpdA.of (Opd.tmp rfl)) OpdsA.nil)) FreeP.eq) ?_
                  refine RegL.pure (p := (pEq (.int .i64 x40))) rfl rfl rfl (J_assign rfl (Opd.tmp rfl)) ?_
                  refine RegL.nil ?_
                  refine Ct.then_tr ?_
                  refine Tr.weak (Γ' := [(2, (pEq (.int .i64 a_2))), (3, (pEq (.int .i64 a_3))), (4, (pPtr (cGMask a_0))), (5, (pPtr (cGMask a_1))), (10, (pSl 1 (cK .i64) x5.1)), (11, (pEq (.int .i64 x5.2))), (14, (pEq (.slice g19.1 g19.2.1 g19.2.2))), (17, (pEq (.int .i64 x38.1))), (18, (pEq (.int .i64 x40))), (99999, (pTab 1 .u64 Lib.pow10Tab))]) ⟨rfl, rfl, rfl, rfl, rfl, rfl, rfl, rfl, rfl, rfl, trivial⟩ ?_
                  refine Tr.seq ?_
                  refine Tr.seq ?_
                  refine Tr.region ?_
                  refine RegL.pure (p := (pEq (.int .i64 x40))) rfl rfl rfl (J_move rfl (Opd.tmp rfl)) ?_
                  refine RegL.pure (p := (pEq (.bool (decide (x40 < (0 : Int)))))) rfl rfl rfl (J_bin rfl (Opd.tmp rfl) Opd.con B_lss) ?_
                  refine RegL.nil ?_
                  refine Ct.then_tr ?_
                  refine Tr.weak (Γ' := [(2, (pEq (.int .i64 a_2))), (3, (pEq (.int .i64 a_3))), (4, (pPtr (cGMask a_0))), (5, (pPtr (cGMask a_1))), (10, (pSl 1 (cK .i64) x5.1)), (11, (pEq (.int .i64 x5.2))), (14, (pEq (.slice g19.1 g19.2.1 g19.2.2))), (17, (pEq (.int .i64 x38.1))), (18, (pEq (.int .i64 x40))), (98, (pEq (.bool (decide (x40 < (0 : Int)))))), (99999, (pTab 1 .u64 Lib.pow10Tab))]) ⟨rfl, rfl, rfl, rfl, rfl, rfl, rfl, rfl, rfl, rfl, rfl, trivial⟩ ?_
                  refine Tr.cond (Opd.tmp rfl) (fun hc => ?_) (fun hc => ?_)
                  · replace h := bif_t hc h
                    refine Tr.seq ?_
                    refine Tr.region ?_
                    refine RegL.pure (p := (pEq (.bool false))) rfl rfl rfl (J_assign rfl Opd.con) ?_
                    refine RegL.nil ?_
                    refine Ct.then_tr ?_
                    refine Tr.weak (Γ' := [(8, (pEq (.bool false))), (99999, (pTab 1 .u64 Lib.pow10Tab))]) ⟨rfl, rfl, trivial⟩ ?_
                    refine Tr.ret ?_
                    refine Ct.then_ret ?_
                    replace h := Option.some.inj h; subst h
                    exact Ct.retH1 (Ωx := [oSl 2 1 (cK .i64) g19.1 g19.2.1 g19.2.2 x38.2]) () rfl (RvOk.tmp rfl) rfl
                  · replace h := bif_f hc h
                    refine Tr.skip ?_
                    refine Ct.then_tr ?_
                    refine Tr.weak (Γ' := [(2, (pEq (.int .i64 a_2))), (3, (pEq (.int .i64 a_3))), (4, (pPtr (cGMask a_0))), (5, (pPtr (cGMask a_1))), (10, (pSl 1 (cK .i64) x5.1)), (11, (pEq (.int .i64 x5.2))), (14, (pEq (.slice g19.1 g19.2.1 g19.2.2))), (17, (pEq (.int .i64 x38.1))), (18, (pEq (.int .i64 x40))), (99999, (pTab 1 .u64 Lib.pow10Tab))]) ⟨rfl, rfl, rfl, rfl, rfl, rfl, rfl, rfl, rfl, rfl, trivial⟩ ?_
                    refine Tr.seq ?_
                    refine Tr.seq ?_
                    refine Tr.region ?_
                    refine RegL.pure (p := (pEq (.int .i64 x40))) rfl rfl rfl (J_move rfl (Opd.tmp rfl)) ?_
                    refine RegL.pure (p := (pEq (.int .i64 x38.1))) rfl rfl rfl (J_move rfl (Opd.tmp rfl)) ?_
                    refine RegL.pure (p := (pEq (.bool (x40 != x38.1)))) rfl rfl rfl (J_bin rfl (Opd.tmp rfl) (Opd.tmp rfl) B_neq) ?_
                    refine RegL.nil ?_
                    refine Ct.then_tr ?_
                    refine Tr.weak (Γ' := [(2, (pEq (.int .i64 a_2))), (3, (pEq (.int .i64 a_3))), (4, (pPtr (cGMask a_0))), (5, (pPtr (cGMask a_1))), (10, (pSl 1 (cK .i64) x5.1)), (11, (pEq (.int .i64 x5.2))), (14, (pEq (.slice g19.1 g19.2.1 g19.2.2))), (17, (pEq (.int .i64 x38.1))), (101, (pEq (.bool (x40 != x38.1)))), (99999, (pTab 1 .u64 Lib.pow10Tab))]) ⟨rfl, rfl, rfl, rfl, rfl, rfl, rfl, rfl, rfl, rfl, trivial⟩ ?_
                    refine Tr.cond (Opd.tmp rfl) (fun hc => ?_) (fun hc => ?_)
                    · replace h := bif_t hc h
                      refine Tr.seq ?_
                      refine Tr.region ?_
                      refine RegL.pure (p := (pEq (.bool false))) rfl rfl rfl (J_assign rfl Opd.con) ?_
                      refine RegL.nil ?_
                      refine Ct.then_tr ?_
                      refine Tr.weak (Γ' := [(8, (pEq (.bool false))), (99999, (pTab 1 .u64 Lib.pow10Tab))]) ⟨rfl, rfl, trivial⟩ ?_
                      refine Tr.ret ?_
                      refine Ct.then_ret ?_
                      replace h := Option.some.inj h; subst h
                      exact Ct.retH1 (Ωx := [oSl 2 1 (cK .i64) g19.1 g19.2.1 g19.2.2 x38.2]) () rfl (RvOk.tmp rfl) rfl
                    · replace h := bif_f hc h
                      refine Tr.skip ?_
                      refine Ct.then_tr ?_
                      refine Tr.weak (Γ' := [(2, (pEq (.int .i64 a_2))), (3, (pEq (.int .i64 a_3))), (4, (pPtr (cGMask a_0))), (5, (pPtr (cGMask a_1))), (10, (pSl 1 (cK .i64) x5.1)), (11, (pEq (.int .i64 x5.2))), (14, (pEq (.slice g19.1 g19.2.1 g19.2.2))), (17, (pEq (.int .i64 x38.1))), (99999, (pTab 1 .u64 Lib.pow10Tab))]) ⟨rfl, rfl, rfl, rfl, rfl, rfl, rfl, rfl, rfl, trivial⟩ ?_
                      refine Tr.seq ?_
                      replace h := bind_some h; obtain ⟨x41, hx41, h⟩ := h
                      replace h := bind_some h; obtain ⟨x42, hx42, h⟩ := h
                      replace h := bind_some h; obtain ⟨x43, hx43, h⟩ := h
                      refine Tr.drawD (n := 129) (m := 11) (es := [some (Ent.mk [(4, (pPtr (cGMask a_0)))] (pAgg (cGMask a_0)) true), some (Ent.mk [(103, (pAgg (cGMask a_0)))] (pAgg (cGMask x41)) true), some (Ent.mk [(5, (pPtr (cGMask a_1)))] (pAgg (cGMask a_1)) true), some (Ent.mk [(105, (pAgg (cGMask a_1)))] (pAgg (cGMask x42)) true), some (Ent.mk [(2, (pEq (.int .i64 a_2)))] (pEq (.int .i64 a_2)) true), some (Ent.mk [(3, (pEq (.int .i64 a_3)))] (pEq (.int .i64 a_3)) true), some (Ent.mk [(104, (pAgg (cGMask x41))), (106, (pAgg (cGMask x42))), (107, (pEq (.int .i64 a_2))), (108, (pEq (.int .i64 a_3))), (99999, (pTab 1 .u64 Lib.pow10Tab))] (pTup [(pSl 1 (cK .i64) x43.1), (pEq (.int .i64 x43.2))]) true), some (Ent.mk [(109, (pTup [(pSl 1 (cK .i64) x43.1), (pEq (.int .i64 x43.2))]))] (pTup [(pSl 1 (cK .i64) x43.1), (pEq (.int .i64 x43.2))]) true), some (Ent.mk [(102, (pTup [(pSl 1 (cK .i64) x43.1), (pEq (.int .i64 x43.2))]))] (pSl 1 (cK .i64) x43.1) true), some (Ent.mk [(102, (pTup [(pSl 1 (cK .i64) x43.1), (pEq (.int .i64 x43.2))]))] (pEq (.int .i64 x43.2)) true), some (Ent.mk [(110, (pSl 1 (cK .i64) x43.1))] (pSl 1 (cK .i64) x43.1) true)]) (rd := [[4], [103], [5], [105], [2], [3], [104, 106, 107, 108, 99999], [109], [102], [102], [110]]) rfl hmix (by kernel_rfl) fun hD => ?_
                      refine RD.fin (es := [Ent.mk [(4, (pPtr (cGMask a_0)))] (pAgg (cGMask a_0)) true, Ent.mk [(103, (pAgg (cGMask a_0)))] (pAgg (cGMask x41)) true, Ent.mk [(5, (pPtr (cGMask a_1)))] (pAgg (cGMask a_1)) true, Ent.mk [(105, (pAgg (cGMask a_1)))] (pAgg (cGMask x42)) true, Ent.mk [(2, (pEq (.int .i64 a_2)))] (pEq (.int .i64 a_2)) true, Ent.mk [(3, (pEq (.int .i64 a_3)))] (pEq (.int .i64 a_3)) true, Ent.mk [(104, (pAgg (cGMask x41))), (106, (pAgg (cGMask x42))), (107, (pEq (.int .i64 a_2))), (108, (pEq (.int .i64 a_3))), (99999, (pTab 1 .u64 Lib.pow10Tab))] (pTup [(pSl 1 (cK .i64) x43.1), (pEq (.int .i64 x43.2))]) true, Ent.mk [(109, (pTup [(pSl 1 (cK .i64) x43.1), (pEq (.int .i64 x43.2))]))] (pTup [(pSl 1 (cK .i64) x43.1), (pEq (.int .i64 x43.2))]) true, Ent.mk [(102, (pTup [(pSl 1 (cK .i64) x43.1), (pEq (.int .i64 x43.2))]))] (pSl 1 (cK .i64) x43.1) true, Ent.mk [(102, (pTup [(pSl 1 (cK .i64) x43.1), (pEq (.int .i64 x43.2))]))] (pEq (.int .i64 x43.2)) true, Ent.mk [(110, (pSl 1 (cK .i64) x43.1))] (pSl 1 (cK .i64) x43.1) true]) (done := []) hD ⟨.inr ⟨(OpJ.w (J_loadA rfl Tryd.isAgg36 sz36 (Opd.tmp rfl) rfl)), ⟨rfl, trivial⟩, rfl, rfl⟩, ⟨.inr ⟨(OpJ.w (J_call rfl Tryd.call20 (c_laws_toMask hx41) (Opds.cons (Opd.tmp rfl) Opds.nil))), ⟨rfl, trivial⟩, rfl, rfl⟩, ⟨.inr ⟨(OpJ.w (J_loadA rfl Tryd.isAgg36 sz36 (Opd.tmp rfl) rfl)), ⟨rfl, trivial⟩, rfl, rfl⟩, ⟨.inr ⟨(OpJ.w (J_call rfl Tryd.call20 (c_laws_toMask hx42) (Opds.cons (Opd.tmp rfl) Opds.nil))), ⟨rfl, trivial⟩, rfl, rfl⟩, ⟨.inr ⟨(OpJ.w (J_move rfl (Opd.tmp rfl))), ⟨rfl, trivial⟩, rfl, rfl⟩, ⟨.inr ⟨(OpJ.w (J_move rfl (Opd.tmp rfl))), ⟨rfl, trivial⟩, rfl, rfl⟩, ⟨.inr ⟨(OpJ.w (J_call rfl Tryd.call24 (c_impl_DiscriminationTable hx43) (Opds.cons (Opd.tmp rfl) (Opds.cons (Opd.tmp rfl) (Opds.cons (Opd.tab (Opd.tmp rfl) 99999 rfl) (Opds.cons (Opd.tmp rfl) Opds.nil)))))), ⟨rfl, rfl, rfl, rfl, rfl, trivial⟩, rfl, rfl⟩, ⟨.inr ⟨(OpJ.w (J_move rfl (Opd.tmp rfl))), ⟨rfl, trivial⟩, rfl, rfl⟩, ⟨.inr ⟨(OpJ.w (J_extract rfl (Opd.tmp rfl) rfl)), ⟨rfl, trivial⟩, rfl, rfl⟩, ⟨.inr ⟨(OpJ.w (J_extract rfl (Opd.tmp rfl) rfl)), ⟨rfl, trivial⟩, rfl, rfl⟩, ⟨.inr ⟨(OpJ.w (J_assign rfl (Opd.tmp rfl))), ⟨rfl, trivial⟩, rfl, rfl⟩, trivial⟩⟩⟩⟩⟩⟩⟩⟩⟩⟩⟩ ?_
                      refine RegL.pure (p := (pEq (.int .i64 x43.2))) rfl rfl rfl (J_assign rfl (Opd.tmp rfl)) ?_
                      refine RegL.nil ?_
                      refine Ct.then_tr ?_
                      refine Tr.weak (Γ' := [(10, (pSl 1 (cK .i64) x5.1)), (11, (pEq (.int .i64 x5.2))), (14, (pEq (.slice g19.1 g19.2.1 g19.2.2))), (17, (pEq (.int .i64 x38.1))), (19, (pSl 1 (cK .i64) x43.1)), (20, (pEq (.int .i64 x43.2))), (99999, (pTab 1 .u64 Lib.pow10Tab))]) ⟨rfl, rfl, rfl, rfl, rfl, rfl, rfl, trivial⟩ ?_
                      refine Tr.seq ?_
                      refine Tr.seq ?_
                      replace h := bind_some h; obtain ⟨x44, hx44, h⟩ := h
                      refine Tr.cut (γ := Unit) (Γm := fun g => [(14, (pEq (.slice g19.1 g19.2.1 g19.2.2))), (17, (pEq (.int .i64 x38.1))), (120, (pEq (.bool x44))), (99999, (pTab 1 .u64 Lib.pow10Tab))]) (Ωm := fun g => [oSl 2 1 (cK .i64) g19.1 g19.2.1 g19.2.2 x38.2]) ?_ (fun g47 => ?_)
                      · clear h
                        have h := hx44
                        clear hx44
                        refine Tr.region ?_
                        refine RegL.pure (p := (pSl 1 (cK .i64) x43.1)) rfl rfl rfl (J_move rfl (Opd.tmp rfl)) ?_
                        refine RegL.pure (p := (pSl 1 (cK .i64) x5.1)) rfl rfl rfl (J_move rfl (Opd.tmp rfl)) ?_
                        replace h := bind_some h; obtain ⟨x45, hx45, h⟩ := h
                        refine RegL.pure (p := (pEq (.bool x45))) rfl rfl rfl (J_call rfl Tryd.call12 (c_laws_eqInt64S hx45) (Opds.cons (Opd.tmp rfl) (Opds.cons (Opd.tmp rfl) Opds.nil))) ?_
                        refine RegL.pure (p := (pEq (.bool (!x45)))) rfl rfl rfl (J_not rfl (Opd.tmp rfl)) ?_
                        refine RegL.pure (p := (pEq (.bool (!x45)))) rfl rfl rfl (J_move rfl (Opd.tmp rfl)) ?_
                        rcases Bool.eq_false_or_eq_true (!x45) with hc46 | hc46
                        · replace h := bif_t hc46 h
                          refine RegL.skipG rfl rfl rfl hc46 rfl rfl ?_
                          refine RegL.skipG rfl rfl rfl hc46 rfl rfl ?_
                          refine RegL.skipG rfl rfl rfl hc46 rfl rfl ?_
                          refine RegL.pure (p := (pEq (.bool true))) rfl rfl rfl (J_pick rfl (Opd.tmp rfl) (fun _ => Opd.con) (fun hf => absurd (hc46.symm.trans hf) (by decide))) ?_
                          refine RegL.nil ?_
                          replace h := Option.some.inj h; subst h
                          exact Ct.mid () rfl ⟨rfl, rfl, rfl, rfl, trivial⟩
                        · replace h := bif_f hc46 h
                          refine RegL.pureG (p := (pEq (.int .i64 x43.2))) rfl rfl rfl hc46 rfl rfl (J_move rfl (Opd.tmp rfl)) ?_
                          refine RegL.pureG (p := (pEq (.int .i64 x5.2))) rfl rfl rfl hc46 rfl rfl (J_move rfl (Opd.tmp rfl)) ?_
                          refine RegL.pureG (p := (pEq (.bool (x43.2 != x5.2)))) rfl rfl rfl hc46 rfl rfl (J_bin rfl (Opd.tmp rfl) (Opd.tmp rfl) B_neq) ?_
                          refine RegL.pure (p := (pEq (.bool (x43.2 != x5.2)))) rfl rfl rfl (J_pick rfl (Opd.tmp rfl) (fun hf => absurd (hc46.symm.trans hf) (by decide)) (fun _ => (Opd.tmp rfl))) ?_
                          refine RegL.nil ?_
                          replace h := Option.some.inj h; subst h
                          exact Ct.mid () rfl ⟨rfl, rfl, rfl, rfl, trivial⟩
                      · clear hx44
                        refine Ct.then_tr ?_
                        refine Tr.weak (Γ' := [(14, (pEq (.slice g19.1 g19.2.1 g19.2.2))), (17, (pEq (.int .i64 x38.1))), (120, (pEq (.bool x44))), (99999, (pTab 1 .u64 Lib.pow10Tab))]) ⟨rfl, rfl, rfl, rfl, trivial⟩ ?_
                        refine Tr.cond (Opd.tmp rfl) (fun hc => ?_) (fun hc => ?_)
                        · replace h := bif_t hc h
                          refine Tr.seq ?_
                          refine Tr.region ?_
                          refine RegL.pure (p := (pEq (.bool false))) rfl rfl rfl (J_assign rfl Opd.con) ?_
                          refine RegL.nil ?_
                          refine Ct.then_tr ?_
                          refine Tr.weak (Γ' := [(8, (pEq (.bool false))), (99999, (pTab 1 .u64 Lib.pow10Tab))]) ⟨rfl, rfl, trivial⟩ ?_
                          refine Tr.ret ?_
                          refine Ct.then_ret ?_
                          replace h := Option.some.inj h; subst h
                          exact Ct.retH1 (Ωx := [oSl 2 1 (cK .i64) g19.1 g19.2.1 g19.2.2 x38.2]) () rfl (RvOk.tmp rfl) rfl
                        · replace h := bif_f hc h
                          refine Tr.skip ?_
                          refine Ct.then_tr ?_
                          refine Tr.weak (Γ' := [(14, (pEq (.slice g19.1 g19.2.1 g19.2.2))), (17, (pEq (.int .i64 x38.1))), (99999, (pTab 1 .u64 Lib.pow10Tab))]) ⟨rfl, rfl, rfl, trivial⟩ ?_
                          refine Tr.seq ?_
                          refine Tr.region ?_
                          refine RegL.pure (p := (pEq (.int .i64 (1 : Int)))) rfl rfl rfl (J_assign rfl Opd.con) ?_
                          refine RegL.nil ?_
                          refine Ct.then_tr ?_
                          refine Tr.weak (Γ' := [(14, (pEq (.slice g19.1 g19.2.1 g19.2.2))), (17, (pEq (.int .i64 x38.1))), (18, (pEq (.int .i64 (1 : Int)))), (99999, (pTab 1 .u64 Lib.pow10Tab))]) ⟨rfl, rfl, rfl, rfl, trivial⟩ ?_
                          refine Tr.seq ?_
                          refine Tr.region ?_
                          refine RegL.pure (p := (pEq (.slice g19.1 g19.2.1 g19.2.2))) rfl rfl rfl (J_move rfl (Opd.tmp rfl)) ?_
                          refine RegL.pure (p := (pEq (.int .i64 (1 : Int)))) rfl rfl rfl (J_move rfl (Opd.tmp rfl)) ?_
                          replace h := bind_some h; obtain ⟨x48, hx48, h⟩ := h
                          refine RegL.pureW (p := (pEq (.int .i64 x48))) rfl rfl rfl (W_call rfl Tryd.call27 (c_laws_heldInt64S hx48) (OpdsA.cons (OpdA.conv rfl (Conv.row (f := (cK .i64)) 0 (fun _ => rfl) rfl)) (OpdsA.cons (OpdA.of (Opd.tmp rfl)) OpdsA.nil)) FreeP.eq) ?_
                          refine RegL.pure (p := (pEq (.int .i64 x48))) rfl rfl rfl (J_assign rfl (Opd.tmp rfl)) ?_
                          refine RegL.nil ?_
                          refine Ct.then_tr ?_
                          refine Tr.weak (Γ' := [(17, (pEq (.int .i64 x38.1))), (18, (pEq (.int .i64 x48))), (99999, (pTab 1 .u64 Lib.pow10Tab))]) ⟨rfl, rfl, rfl, trivial⟩ ?_
                          refine Tr.seq ?_
                          refine Tr.seq ?_
                          refine Tr.region ?_
                          refine RegL.pure (p := (pEq (.int .i64 x48))) rfl rfl rfl (J_move rfl (Opd.tmp rfl)) ?_
                          refine RegL.pure (p := (pEq (.bool (decide (x48 < (0 : Int)))))) rfl rfl rfl (J_bin rfl (Opd.tmp rfl) Opd.con B_lss) ?_
                          refine RegL.nil ?_
                          refine Ct.then_tr ?_
                          refine Tr.weak (Γ' := [(17, (pEq (.int .i64 x38.1))), (18, (pEq (.int .i64 x48))), (125, (pEq (.bool (decide (x48 < (0 : Int)))))), (99999, (pTab 1 .u64 Lib.pow10Tab))]) ⟨rfl, rfl, rfl, rfl, trivial⟩ ?_
                          refine Tr.cond (Opd.tmp rfl) (fun hc => ?_) (fun hc => ?_)
                          · replace h := bif_t hc h
                            refine Tr.seq ?_
                            refine Tr.region ?_
                            refine RegL.pure (p := (pEq (.bool false))) rfl rfl rfl (J_assign rfl Opd.con) ?_
                            refine RegL.nil ?_
                            refine Ct.then_tr ?_
                            refine Tr.weak (Γ' := [(8, (pEq (.bool false))), (99999, (pTab 1 .u64 Lib.pow10Tab))]) ⟨rfl, rfl, trivial⟩ ?_
                            refine Tr.ret ?_
                            refine Ct.then_ret ?_
                            replace h := Option.some.inj h; subst h
                            exact Ct.retH1 (Ωx := [oSl 2 1 (cK .i64) g19.1 g19.2.1 g19.2.2 x38.2]) () rfl (RvOk.tmp rfl) rfl
                          · replace h := bif_f hc h
                            refine Tr.skip ?_
                            refine Ct.then_tr ?_
                            refine Tr.weak (Γ' := [(17, (pEq (.int .i64 x38.1))), (18, (pEq (.int .i64 x48))), (99999, (pTab 1 .u64 Lib.pow10Tab))]) ⟨rfl, rfl, rfl, trivial⟩ ?_
                            refine Tr.seq ?_
                            refine Tr.seq ?_
                            refine Tr.region ?_
                            refine RegL.pure (p := (pEq (.int .i64 x48))) rfl rfl rfl (J_move rfl (Opd.tmp rfl)) ?_
                            refine RegL.pure (p := (pEq (.int .i64 x38.1))) rfl rfl rfl (J_move rfl (Opd.tmp rfl)) ?_
                            refine RegL.pure (p := (pEq (.bool (x48 != x38.1)))) rfl rfl rfl (J_bin rfl (Opd.tmp rfl) (Opd.tmp rfl) B_neq) ?_
                            refine RegL.nil ?_
                            refine Ct.then_tr ?_
                            refine Tr.weak (Γ' := [(128, (pEq (.bool (x48 != x38.1)))), (99999, (pTab 1 .u64 Lib.pow10Tab))]) ⟨rfl, rfl, trivial⟩ ?_
                            refine Tr.cond (Opd.tmp rfl) (fun hc => ?_) (fun hc => ?_)
                            · replace h := bif_t hc h
                              refine Tr.seq ?_
                              refine Tr.region ?_
                              refine RegL.pure (p := (pEq (.bool false))) rfl rfl rfl (J_assign rfl Opd.con) ?_
                              refine RegL.nil ?_
                              refine Ct.then_tr ?_
                              refine Tr.weak (Γ' := [(8, (pEq (.bool false))), (99999, (pTab 1 .u64 Lib.pow10Tab))]) ⟨rfl, rfl, trivial⟩ ?_
                              refine Tr.ret ?_
                              refine Ct.then_ret ?_
                              replace h := Option.some.inj h; subst h
                              exact Ct.retH1 (Ωx := [oSl 2 1 (cK .i64) g19.1 g19.2.1 g19.2.2 x38.2]) () rfl (RvOk.tmp rfl) rfl
                            · replace h := bif_f hc h
                              refine Tr.skip ?_
                              refine Ct.then_tr ?_
                              refine Tr.weak (Γ' := [(99999, (pTab 1 .u64 Lib.pow10Tab))]) ⟨rfl, trivial⟩ ?_
                              refine Tr.seq ?_
                              refine Tr.region ?_
                              refine RegL.pure (p := (pEq (.bool true))) rfl rfl rfl (J_assign rfl Opd.con) ?_
                              refine RegL.nil ?_
                              refine Ct.then_tr ?_
                              refine Tr.weak (Γ' := [(8, (pEq (.bool true))), (99999, (pTab 1 .u64 Lib.pow10Tab))]) ⟨rfl, rfl, trivial⟩ ?_
                              refine Tr.ret ?_
                              replace h := Option.some.inj h; subst h
                              exact Ct.retH1 (Ωx := [oSl 2 1 (cK .i64) g19.1 g19.2.1 g19.2.2 x38.2]) () rfl (RvOk.tmp rfl) rfl

end Go.Proofs.YtbhegklilcpbmaaDoor.fnExactDiscriminationTableW
