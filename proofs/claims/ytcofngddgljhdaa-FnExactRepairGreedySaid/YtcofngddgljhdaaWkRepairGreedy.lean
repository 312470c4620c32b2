/-
  The walks that the law FnExactRepairGreedy reaches: each function computes its model. Printed by our own program.
-/
import Derived.Test.YtcofngddgljhdaaProg
import Derived.Test.YtcofngddgljhdaaMod
import Derived.Test.YtcofngddgljhdaaMore
import Derived.KernelRfl
import Derived.Test.YtcofngddgljhdaaWkRepairGreedyb
namespace Go.Proofs.Ytcofngddgljhdaa.fnExactRepairGreedyW
open Go Go.RowKit Go.Wk
set_option linter.unusedVariables false
set_option maxRecDepth 100000


theorem c_laws_FnExactRepairGreedy {a_0 : GProblem} {a_1 : (List Int)} {a_2 : Int} {r : Bool} (h : m_laws_FnExactRepairGreedy a_0 a_1 a_2 = some r) : CallJ Try.prog 6 [(pAgg (cGProblem a_0)), (pSl 1 (cK .i64) a_1), (pEq (.int .i64 a_2))] (pEq (.bool r)) := by
  unfold m_laws_FnExactRepairGreedy at h
  refine CallJ.enterH Try.func6 rfl Try.ntmps6 rfl fun W I0 H => ?_
  refine Tr.weak (Γ' := [(0, (pAgg (cGProblem a_0))), (1, (pSl 1 (cK .i64) a_1)), (2, (pEq (.int .i64 a_2)))]) ⟨rfl, rfl, rfl, trivial⟩ ?_
  refine Tr.seq ?_
  refine Tr.region ?_
  refine RegL.pure (p := (pPtr (cGProblem a_0))) rfl rfl rfl (J_boxA rfl (Opd.tmp rfl)) ?_
  refine RegL.pure (p := (pEq (.bool false))) rfl rfl rfl (J_assign rfl Opd.con) ?_
  refine RegL.nil ?_
  refine Ct.then_tr ?_
  refine Tr.weak (Γ' := [(1, (pSl 1 (cK .i64) a_1)), (2, (pEq (.int .i64 a_2))), (3, (pPtr (cGProblem a_0)))]) ⟨rfl, rfl, rfl, trivial⟩ ?_
  refine Tr.seq ?_
  refine Tr.seq ?_
  refine Tr.region ?_
  refine RegL.pure (p := (pSl 1 (cK .i64) a_1)) rfl rfl rfl (J_move rfl (Opd.tmp rfl)) ?_
  refine RegL.pure (p := (pEq (.int .i64 (a_1.length : Int)))) rfl rfl rfl (J_len rfl Try.underlying25 (Opd.tmp rfl) rfl) ?_
  refine RegL.pure (p := (pEq (.bool (decide ((1048576 : Int) < (a_1.length : Int)))))) rfl rfl rfl (J_bin rfl (Opd.tmp rfl) Opd.con B_gtr) ?_
  refine RegL.nil ?_
  refine Ct.then_tr ?_
  refine Tr.weak (Γ' := [(1, (pSl 1 (cK .i64) a_1)), (2, (pEq (.int .i64 a_2))), (3, (pPtr (cGProblem a_0))), (24, (pEq (.bool (decide ((1048576 : Int) < (a_1.length : Int))))))]) ⟨rfl, rfl, rfl, rfl, trivial⟩ ?_
  refine Tr.cond (Opd.tmp rfl) (fun hc => ?_) (fun hc => ?_)
  · replace h := bif_t hc h
    refine Tr.seq ?_
    refine Tr.region ?_
    refine RegL.pure (p := (pEq (.bool true))) rfl rfl rfl (J_assign rfl Opd.con) ?_
    refine RegL.nil ?_
    refine Ct.then_tr ?_
    refine Tr.weak (Γ' := [(6, (pEq (.bool true)))]) ⟨rfl, trivial⟩ ?_
    refine Tr.ret ?_
    refine Ct.then_ret ?_
    replace h := Option.some.inj h; subst h
    exact Ct.retH1 (Ωx := []) () rfl (RvOk.tmp rfl) rfl
  · replace h := bif_f hc h
    refine Tr.skip ?_
    refine Ct.then_tr ?_
    refine Tr.weak (Γ' := [(1, (pSl 1 (cK .i64) a_1)), (2, (pEq (.int .i64 a_2))), (3, (pPtr (cGProblem a_0)))]) ⟨rfl, rfl, rfl, trivial⟩ ?_
    refine Tr.seq ?_
    refine Tr.region ?_
    refine RegL.pure (p := (pEq (.int .i64 (1048576 : Int)))) rfl rfl rfl (J_assign rfl Opd.con) ?_
    refine RegL.nil ?_
    refine Ct.then_tr ?_
    refine Tr.weak (Γ' := [(1, (pSl 1 (cK .i64) a_1)), (2, (pEq (.int .i64 a_2))), (3, (pPtr (cGProblem a_0))), (7, (pEq (.int .i64 (1048576 : Int))))]) ⟨rfl, rfl, rfl, rfl, trivial⟩ ?_
    refine Tr.seq ?_
    refine Tr.region ?_
    refine RegL.pure (p := (pAgg (cGProblem a_0))) rfl rfl rfl (J_loadA rfl Try.isAgg24 sz24 (Opd.tmp rfl) rfl) ?_
    refine RegL.pure (p := (pEq (.int .i64 (1048576 : Int)))) rfl rfl rfl (J_move rfl (Opd.tmp rfl)) ?_
    replace h := bind_some h; obtain ⟨x1, hx1, h⟩ := h
    refine RegL.pure (p := (pEq (.int .i64 x1))) rfl rfl rfl (J_call rfl Try.call12 (c_laws_szProblem hx1) (Opds.cons (Opd.tmp rfl) (Opds.cons (Opd.tmp rfl) Opds.nil))) ?_
    refine RegL.pure (p := (pEq (.int .i64 x1))) rfl rfl rfl (J_assign rfl (Opd.tmp rfl)) ?_
    refine RegL.nil ?_
    refine Ct.then_tr ?_
    refine Tr.weak (Γ' := [(1, (pSl 1 (cK .i64) a_1)), (2, (pEq (.int .i64 a_2))), (3, (pPtr (cGProblem a_0))), (7, (pEq (.int .i64 x1)))]) ⟨rfl, rfl, rfl, rfl, trivial⟩ ?_
    refine Tr.seq ?_
    refine Tr.seq ?_
    refine Tr.region ?_
    refine RegL.pure (p := (pEq (.int .i64 x1))) rfl rfl rfl (J_move rfl (Opd.tmp rfl)) ?_
    refine RegL.pure (p := (pEq (.bool (decide (x1 < (0 : Int)))))) rfl rfl rfl (J_bin rfl (Opd.tmp rfl) Opd.con B_lss) ?_
    refine RegL.nil ?_
    refine Ct.then_tr ?_
    refine Tr.weak (Γ' := [(1, (pSl 1 (cK .i64) a_1)), (2, (pEq (.int .i64 a_2))), (3, (pPtr (cGProblem a_0))), (29, (pEq (.bool (decide (x1 < (0 : Int))))))]) ⟨rfl, rfl, rfl, rfl, trivial⟩ ?_
    refine Tr.cond (Opd.tmp rfl) (fun hc => ?_) (fun hc => ?_)
    · replace h := bif_t hc h
      refine Tr.seq ?_
      refine Tr.region ?_
      refine RegL.pure (p := (pEq (.bool true))) rfl rfl rfl (J_assign rfl Opd.con) ?_
      refine RegL.nil ?_
      refine Ct.then_tr ?_
      refine Tr.weak (Γ' := [(6, (pEq (.bool true)))]) ⟨rfl, trivial⟩ ?_
      refine Tr.ret ?_
      refine Ct.then_ret ?_
      replace h := Option.some.inj h; subst h
      exact Ct.retH1 (Ωx := []) () rfl (RvOk.tmp rfl) rfl
    · replace h := bif_f hc h
      refine Tr.skip ?_
      refine Ct.then_tr ?_
      refine Tr.weak (Γ' := [(1, (pSl 1 (cK .i64) a_1)), (2, (pEq (.int .i64 a_2))), (3, (pPtr (cGProblem a_0)))]) ⟨rfl, rfl, rfl, trivial⟩ ?_
      refine Tr.seq ?_
      refine Tr.region ?_
      refine RegL.pure (p := (pAgg (cGProblem a_0))) rfl rfl rfl (J_loadA rfl Try.isAgg24 sz24 (Opd.tmp rfl) rfl) ?_
      replace h := bind_some h; obtain ⟨x2, hx2, h⟩ := h
      refine RegL.pure (p := (pAgg (cGProblem x2))) rfl rfl rfl (J_call rfl Try.call14 (c_laws_toProblem hx2) (Opds.cons (Opd.tmp rfl) Opds.nil)) ?_
      refine RegL.pure (p := (pSl 1 (cK .i64) a_1)) rfl rfl rfl (J_move rfl (Opd.tmp rfl)) ?_
      replace h := bind_some h; obtain ⟨x3, hx3, h⟩ := h
      refine RegL.pure (p := (pSl 1 (cK .i64) x3)) rfl rfl rfl (J_call rfl Try.call15 (c_laws_toInt64S hx3) (Opds.cons (Opd.tmp rfl) Opds.nil)) ?_
      refine RegL.pure (p := (pEq (.int .i64 a_2))) rfl rfl rfl (J_move rfl (Opd.tmp rfl)) ?_
      replace h := bind_some h; obtain ⟨x4, hx4, h⟩ := h
      refine RegL.pure (p := (pTup [(pSl 1 (cK .i64) x4.1), (pEq (.int .i64 x4.2.1)), (pEq (.int .i64 x4.2.2))])) rfl rfl rfl (J_call rfl Try.call26 (c_spec_RepairGreedy hx4) (Opds.cons (Opd.tmp rfl) (Opds.cons (Opd.tmp rfl) (Opds.cons (Opd.tmp rfl) Opds.nil)))) ?_
      refine RegL.pure (p := (pTup [(pSl 1 (cK .i64) x4.1), (pEq (.int .i64 x4.2.1)), (pEq (.int .i64 x4.2.2))])) rfl rfl rfl (J_move rfl (Opd.tmp rfl)) ?_
      refine RegL.pure (p := (pSl 1 (cK .i64) x4.1)) rfl rfl rfl (J_extract rfl (Opd.tmp rfl) rfl) ?_
      refine RegL.pure (p := (pEq (.int .i64 x4.2.1))) rfl rfl rfl (J_extract rfl (Opd.tmp rfl) rfl) ?_
      refine RegL.pure (p := (pEq (.int .i64 x4.2.2))) rfl rfl rfl (J_extract rfl (Opd.tmp rfl) rfl) ?_
      refine RegL.pure (p := (pSl 1 (cK .i64) x4.1)) rfl rfl rfl (J_assign rfl (Opd.tmp rfl)) ?_
      refine RegL.pure (p := (pEq (.int .i64 x4.2.1))) rfl rfl rfl (J_assign rfl (Opd.tmp rfl)) ?_
      refine RegL.pure (p := (pEq (.int .i64 x4.2.2))) rfl rfl rfl (J_assign rfl (Opd.tmp rfl)) ?_
      refine RegL.nil ?_
      refine Ct.then_tr ?_
      refine Tr.weak (Γ' := [(1, (pSl 1 (cK .i64) a_1)), (2, (pEq (.int .i64 a_2))), (3, (pPtr (cGProblem a_0))), (8, (pSl 1 (cK .i64) x4.1)), (9, (pEq (.int .i64 x4.2.1))), (10, (pEq (.int .i64 x4.2.2)))]) ⟨rfl, rfl, rfl, rfl, rfl, rfl, trivial⟩ ?_
      refine Tr.seq ?_
      refine Tr.region ?_
      refine RegL.pure (p := (pAgg (cGProblem a_0))) rfl rfl rfl (J_loadA rfl Try.isAgg24 sz24 (Opd.tmp rfl) rfl) ?_
      replace h := bind_some h; obtain ⟨x5, hx5, h⟩ := h
      refine RegL.step (γ := ((G3 × List G3) × (G3 × List G3))) (p := fun g => (pAgg [(pEq (.slice g.1.1.1 g.1.1.2.1 g.1.1.2.2)), (pEq (.slice g.2.1.1 g.2.1.2.1 g.2.1.2.2))])) (Ω' := fun g => [oSS 25 2 1 (cK .i64) g.1.1.1 g.1.1.2.1 g.1.1.2.2 g.1.2 x5.Domains, oSS 25 2 1 (cK .i64) g.2.1.1 g.2.1.2.1 g.2.1.2.2 g.2.2 x5.Apart]) rfl rfl rfl (M_callH (Ωi := []) rfl Try.call14 (o_laws_toProblem hx5) (Opds.cons (Opd.tmp rfl) Opds.nil)) fun g6 => ?_
      refine RegL.step (γ := Nat) (p := fun b => pEq (.pointer (some ⟨b, 0, none⟩))) (Ω' := fun b => [oBlk b [(pEq (.slice none 0 0)), (pEq (.slice none 0 0))], oSS 25 2 1 (cK .i64) g6.1.1.1 g6.1.1.2.1 g6.1.1.2.2 g6.1.2 x5.Domains, oSS 25 2 1 (cK .i64) g6.2.1.1 g6.2.1.2.1 g6.2.1.2.2 g6.2.2 x5.Apart]) rfl rfl rfl (M_alloc rfl zero29) fun b9 => ?_
      refine RegL.stepN (γ := Unit) (p := fun _ => pAny) (Ω' := fun _ => [oBlk b9 [(pEq (.slice g6.1.1.1 g6.1.1.2.1 g6.1.1.2.2)), (pEq (.slice g6.2.1.1 g6.2.1.2.1 g6.2.1.2.2))], oSS 25 2 1 (cK .i64) g6.1.1.1 g6.1.1.2.1 g6.1.1.2.2 g6.1.2 x5.Domains, oSS 25 2 1 (cK .i64) g6.2.1.1 g6.2.1.2.1 g6.2.1.2.2 g6.2.2 x5.Apart]) rfl rfl (M_storeA rfl sz29 (Opd.tmp rfl) (Opd.tmp rfl) (fun _ _ _ h => ones_of ((OneCs.cons OneC.slice (OneCs.cons OneC.slice OneCs.nil))) h) rfl rfl) fun g10 => ?_
      refine RegL.nil ?_
      refine Ct.then_tr ?_
      refine Tr.weak (Γ' := [(1, (pSl 1 (cK .i64) a_1)), (2, (pEq (.int .i64 a_2))), (3, (pPtr (cGProblem a_0))), (8, (pSl 1 (cK .i64) x4.1)), (9, (pEq (.int .i64 x4.2.1))), (10, (pEq (.int .i64 x4.2.2))), (11, (pEq (.pointer (some ⟨b9, 0, none⟩))))]) ⟨rfl, rfl, rfl, rfl, rfl, rfl, rfl, trivial⟩ ?_
      refine Tr.seq ?_
      refine Tr.region ?_
      refine RegL.pure (p := (pSl 1 (cK .i64) a_1)) rfl rfl rfl (J_move rfl (Opd.tmp rfl)) ?_
      replace h := bind_some h; obtain ⟨x11, hx11, h⟩ := h
      refine RegL.step (γ := G3) (p := fun g => (pEq (.slice g.1 g.2.1 g.2.2))) (Ω' := fun g => [oSl 2 1 (cK .i64) g.1 g.2.1 g.2.2 x11, oBlk b9 [(pEq (.slice g6.1.1.1 g6.1.1.2.1 g6.1.1.2.2)), (pEq (.slice g6.2.1.1 g6.2.1.2.1 g6.2.1.2.2))], oSS 25 2 1 (cK .i64) g6.1.1.1 g6.1.1.2.1 g6.1.1.2.2 g6.1.2 x5.Domains, oSS 25 2 1 (cK .i64) g6.2.1.1 g6.2.1.2.1 g6.2.1.2.2 g6.2.2 x5.Apart]) rfl rfl rfl (M_callH (Ωi := []) rfl Try.call15 (o_laws_toInt64S hx11) (Opds.cons (Opd.tmp rfl) Opds.nil)) fun g12 => ?_
      refine RegL.pure (p := (pEq (.slice g12.1 g12.2.1 g12.2.2))) rfl rfl rfl (J_assign rfl (Opd.tmp rfl)) ?_
      refine RegL.nil ?_
      refine Ct.then_tr ?_
      refine Tr.weak (Γ' := [(1, (pSl 1 (cK .i64) a_1)), (2, (pEq (.int .i64 a_2))), (3, (pPtr (cGProblem a_0))), (8, (pSl 1 (cK .i64) x4.1)), (9, (pEq (.int .i64 x4.2.1))), (10, (pEq (.int .i64 x4.2.2))), (11, (pEq (.pointer (some ⟨b9, 0, none⟩)))), (12, (pEq (.slice g12.1 g12.2.1 g12.2.2)))]) ⟨rfl, rfl, rfl, rfl, rfl, rfl, rfl, rfl, trivial⟩ ?_
      refine Tr.seq ?_
      refine Tr.region ?_
      refine RegL.pureW (p := (pAgg [(pEq (.slice g6.1.1.1 g6.1.1.2.1 g6.1.1.2.2)), (pEq (.slice g6.2.1.1 g6.2.1.2.1 g6.2.1.2.2))])) rfl rfl rfl (W_loadA (i := 1) rfl Try.isAgg29 sz29 (Opd.tmp rfl) rfl rfl) ?_
      refine RegL.pure (p := (pEq (.slice g12.1 g12.2.1 g12.2.2))) rfl rfl rfl (J_move rfl (Opd.tmp rfl)) ?_
      refine RegL.pure (p := (pEq (.int .i64 a_2))) rfl rfl rfl (J_move rfl (Opd.tmp rfl)) ?_
      replace h := bind_some h; obtain ⟨x14, hx14, h⟩ := h
      refine RegL.step (γ := G3) (p := fun g => (pTup [(pEq (.slice g.1 g.2.1 g.2.2)), (pEq (.int .i64 x14.2.1)), (pEq (.int .i64 x14.2.2))])) (Ω' := fun g => [oSl 2 1 (cK .i64) g.1 g.2.1 g.2.2 x14.1, oSl 2 1 (cK .i64) g12.1 g12.2.1 g12.2.2 x11, oBlk b9 [(pEq (.slice g6.1.1.1 g6.1.1.2.1 g6.1.1.2.2)), (pEq (.slice g6.2.1.1 g6.2.1.2.1 g6.2.1.2.2))], oSS 25 2 1 (cK .i64) g6.1.1.1 g6.1.1.2.1 g6.1.1.2.2 g6.1.2 x5.Domains, oSS 25 2 1 (cK .i64) g6.2.1.1 g6.2.1.2.1 g6.2.1.2.2 g6.2.2 x5.Apart]) rfl rfl rfl (M_callHB (Ωi := []) rfl Try.call27 (o_impl_RepairGreedy hx14) (OpdsA.cons (OpdA.conv rfl (Conv.agg (Convs.cons (Conv.nest 2 (fun _ => rfl) rfl) (Convs.cons (Conv.nest 3 (fun _ => rfl) rfl) Convs.nil)))) (OpdsA.cons (OpdA.conv rfl (Conv.row 0 (fun _ => rfl) rfl)) (OpdsA.cons (OpdA.of (Opd.tmp rfl)) OpdsA.nil))) (fun _ => (FreeP.tup ⟨FreeP.eq, ⟨FreeP.eq, ⟨FreeP.eq, trivial⟩⟩⟩)) (fun _ => ⟨(FreeO.sl (fun _ => ⟨FreeP.eq, trivial⟩)), trivial⟩)) fun g15 => ?_
      refine RegL.pure (p := (pTup [(pEq (.slice g15.1 g15.2.1 g15.2.2)), (pEq (.int .i64 x14.2.1)), (pEq (.int .i64 x14.2.2))])) rfl rfl rfl (J_move rfl (Opd.tmp rfl)) ?_
      refine RegL.pure (p := (pEq (.slice g15.1 g15.2.1 g15.2.2))) rfl rfl rfl (J_extract rfl (Opd.tmp rfl) rfl) ?_
      refine RegL.pure (p := (pEq (.int .i64 x14.2.1))) rfl rfl rfl (J_extract rfl (Opd.tmp rfl) rfl) ?_
      refine RegL.pure (p := (pEq (.int .i64 x14.2.2))) rfl rfl rfl (J_extract rfl (Opd.tmp rfl) rfl) ?_
      refine RegL.pure (p := (pEq (.slice g15.1 g15.2.1 g15.2.2))) rfl rfl rfl (J_assign rfl (Opd.tmp rfl)) ?_
      refine RegL.pure (p := (pEq (.int .i64 x14.2.1))) rfl rfl rfl (J_assign rfl (Opd.tmp rfl)) ?_
      refine RegL.pure (p := (pEq (.int .i64 x14.2.2))) rfl rfl rfl (J_assign rfl (Opd.tmp rfl)) ?_
      refine RegL.nil ?_
      refine Ct.then_tr ?_
      refine Tr.weak (Γ' := [(1, (pSl 1 (cK .i64) a_1)), (2, (pEq (.int .i64 a_2))), (3, (pPtr (cGProblem a_0))), (8, (pSl 1 (cK .i64) x4.1)), (9, (pEq (.int .i64 x4.2.1))), (10, (pEq (.int .i64 x4.2.2))), (11, (pEq (.pointer (some ⟨b9, 0, none⟩)))), (12, (pEq (.slice g12.1 g12.2.1 g12.2.2))), (13, (pEq (.slice g15.1 g15.2.1 g15.2.2))), (14, (pEq (.int .i64 x14.2.1))), (15, (pEq (.int .i64 x14.2.2)))]) ⟨rfl, rfl, rfl, rfl, rfl, rfl, rfl, rfl, rfl, rfl, rfl, trivial⟩ ?_
      refine Tr.seq ?_
      refine Tr.seq ?_
      replace h := bind_some h; obtain ⟨x17, hx17, h⟩ := h
      refine Tr.cut (γ := Unit) (Γm := fun g => [(1, (pSl 1 (cK .i64) a_1)), (2, (pEq (.int .i64 a_2))), (3, (pPtr (cGProblem a_0))), (8, (pSl 1 (cK .i64) x4.1)), (9, (pEq (.int .i64 x4.2.1))), (10, (pEq (.int .i64 x4.2.2))), (11, (pEq (.pointer (some ⟨b9, 0, none⟩)))), (12, (pEq (.slice g12.1 g12.2.1 g12.2.2))), (13, (pEq (.slice g15.1 g15.2.1 g15.2.2))), (14, (pEq (.int .i64 x14.2.1))), (15, (pEq (.int .i64 x14.2.2))), (65, (pEq (.bool x17)))]) (Ωm := fun g => [oSl 2 1 (cK .i64) g15.1 g15.2.1 g15.2.2 x14.1, oSl 2 1 (cK .i64) g12.1 g12.2.1 g12.2.2 x11, oBlk b9 [(pEq (.slice g6.1.1.1 g6.1.1.2.1 g6.1.1.2.2)), (pEq (.slice g6.2.1.1 g6.2.1.2.1 g6.2.1.2.2))], oSS 25 2 1 (cK .i64) g6.1.1.1 g6.1.1.2.1 g6.1.1.2.2 g6.1.2 x5.Domains, oSS 25 2 1 (cK .i64) g6.2.1.1 g6.2.1.2.1 g6.2.1.2.2 g6.2.2 x5.Apart]) ?_ (fun g21 => ?_)
      · clear h
        have h := hx17
        clear hx17
        refine Tr.region ?_
        refine RegL.pure (p := (pEq (.slice g15.1 g15.2.1 g15.2.2))) rfl rfl rfl (J_move rfl (Opd.tmp rfl)) ?_
        refine RegL.pure (p := (pSl 1 (cK .i64) x4.1)) rfl rfl rfl (J_move rfl (Opd.tmp rfl)) ?_
        replace h := bind_some h; obtain ⟨x18, hx18, h⟩ := h
        refine RegL.pureW (p := (pEq (.bool x18))) rfl rfl rfl (W_call rfl Try.call17 (c_laws_eqInt64S hx18) (OpdsA.cons (OpdA.conv rfl (Conv.row 0 (fun _ => rfl) rfl)) (OpdsA.cons (OpdA.of (Opd.tmp rfl)) OpdsA.nil)) FreeP.eq) ?_
        refine RegL.pure (p := (pEq (.bool (!x18)))) rfl rfl rfl (J_not rfl (Opd.tmp rfl)) ?_
        refine RegL.pure (p := (pEq (.bool (!x18)))) rfl rfl rfl (J_move rfl (Opd.tmp rfl)) ?_
        rcases Bool.eq_false_or_eq_true (!x18) with hc19 | hc19
        · replace h := bif_t hc19 h
          refine RegL.skipG rfl rfl rfl hc19 rfl rfl ?_
          refine RegL.skipG rfl rfl rfl hc19 rfl rfl ?_
          refine RegL.skipG rfl rfl rfl hc19 rfl rfl ?_
          refine RegL.pure (p := (pEq (.bool true))) rfl rfl rfl (J_pick rfl (Opd.tmp rfl) (fun _ => Opd.con) (fun hf => absurd (hc19.symm.trans hf) (by decide))) ?_
          refine RegL.pure (p := (pEq (.bool true))) rfl rfl rfl (J_move rfl (Opd.tmp rfl)) ?_
          refine RegL.skipG rfl rfl rfl rfl rfl rfl ?_
          refine RegL.skipG rfl rfl rfl rfl rfl rfl ?_
          refine RegL.skipG rfl rfl rfl rfl rfl rfl ?_
          refine RegL.pure (p := (pEq (.bool true))) rfl rfl rfl (J_pick rfl (Opd.tmp rfl) (fun _ => Opd.con) (fun hf => absurd hf (by decide))) ?_
          refine RegL.nil ?_
          replace h := Option.some.inj h; subst h
          exact Ct.mid () rfl ⟨rfl, rfl, rfl, rfl, rfl, rfl, rfl, rfl, rfl, rfl, rfl, rfl, trivial⟩
        · replace h := bif_f hc19 h
          refine RegL.pureG (p := (pEq (.int .i64 x14.2.1))) rfl rfl rfl hc19 rfl rfl (J_move rfl (Opd.tmp rfl)) ?_
          refine RegL.pureG (p := (pEq (.int .i64 x4.2.1))) rfl rfl rfl hc19 rfl rfl (J_move rfl (Opd.tmp rfl)) ?_
          refine RegL.pureG (p := (pEq (.bool (x14.2.1 != x4.2.1)))) rfl rfl rfl hc19 rfl rfl (J_bin rfl (Opd.tmp rfl) (Opd.tmp rfl) B_neq) ?_
          refine RegL.pure (p := (pEq (.bool (x14.2.1 != x4.2.1)))) rfl rfl rfl (J_pick rfl (Opd.tmp rfl) (fun hf => absurd (hc19.symm.trans hf) (by decide)) (fun _ => (Opd.tmp rfl))) ?_
          refine RegL.pure (p := (pEq (.bool (x14.2.1 != x4.2.1)))) rfl rfl rfl (J_move rfl (Opd.tmp rfl)) ?_
          rcases Bool.eq_false_or_eq_true (x14.2.1 != x4.2.1) with hc20 | hc20
          · replace h := bif_t hc20 h
            refine RegL.skipG rfl rfl rfl hc20 rfl rfl ?_
            refine RegL.skipG rfl rfl rfl hc20 rfl rfl ?_
            refine RegL.skipG rfl rfl rfl hc20 rfl rfl ?_
            refine RegL.pure (p := (pEq (.bool true))) rfl rfl rfl (J_pick rfl (Opd.tmp rfl) (fun _ => Opd.con) (fun hf => absurd (hc20.symm.trans hf) (by decide))) ?_
            refine RegL.nil ?_
            replace h := Option.some.inj h; subst h
            exact Ct.mid () rfl ⟨rfl, rfl, rfl, rfl, rfl, rfl, rfl, rfl, rfl, rfl, rfl, rfl, trivial⟩
          · replace h := bif_f hc20 h
            refine RegL.pureG (p := (pEq (.int .i64 x14.2.2))) rfl rfl rfl hc20 rfl rfl (J_move rfl (Opd.tmp rfl)) ?_
            refine RegL.pureG (p := (pEq (.int .i64 x4.2.2))) rfl rfl rfl hc20 rfl rfl (J_move rfl (Opd.tmp rfl)) ?_
            refine RegL.pureG (p := (pEq (.bool (x14.2.2 != x4.2.2)))) rfl rfl rfl hc20 rfl rfl (J_bin rfl (Opd.tmp rfl) (Opd.tmp rfl) B_neq) ?_
            refine RegL.pure (p := (pEq (.bool (x14.2.2 != x4.2.2)))) rfl rfl rfl (J_pick rfl (Opd.tmp rfl) (fun hf => absurd (hc20.symm.trans hf) (by decide)) (fun _ => (Opd.tmp rfl))) ?_
            refine RegL.nil ?_
            replace h := Option.some.inj h; subst h
            exact Ct.mid () rfl ⟨rfl, rfl, rfl, rfl, rfl, rfl, rfl, rfl, rfl, rfl, rfl, rfl, trivial⟩
      · clear hx17
        refine Ct.then_tr ?_
        refine Tr.weak (Γ' := [(1, (pSl 1 (cK .i64) a_1)), (2, (pEq (.int .i64 a_2))), (3, (pPtr (cGProblem a_0))), (8, (pSl 1 (cK .i64) x4.1)), (9, (pEq (.int .i64 x4.2.1))), (10, (pEq (.int .i64 x4.2.2))), (11, (pEq (.pointer (some ⟨b9, 0, none⟩)))), (12, (pEq (.slice g12.1 g12.2.1 g12.2.2))), (13, (pEq (.slice g15.1 g15.2.1 g15.2.2))), (14, (pEq (.int .i64 x14.2.1))), (15, (pEq (.int .i64 x14.2.2))), (65, (pEq (.bool x17)))]) ⟨rfl, rfl, rfl, rfl, rfl, rfl, rfl, rfl, rfl, rfl, rfl, rfl, trivial⟩ ?_
        refine Tr.cond (Opd.tmp rfl) (fun hc => ?_) (fun hc => ?_)
        · replace h := bif_t hc h
          refine Tr.seq ?_
          refine Tr.region ?_
          refine RegL.pure (p := (pEq (.bool false))) rfl rfl rfl (J_assign rfl Opd.con) ?_
          refine RegL.nil ?_
          refine Ct.then_tr ?_
          refine Tr.weak (Γ' := [(6, (pEq (.bool false)))]) ⟨rfl, trivial⟩ ?_
          refine Tr.ret ?_
          refine Ct.then_ret ?_
          replace h := Option.some.inj h; subst h
          exact Ct.retH1 (Ωx := [oSl 2 1 (cK .i64) g15.1 g15.2.1 g15.2.2 x14.1, oSl 2 1 (cK .i64) g12.1 g12.2.1 g12.2.2 x11, oBlk b9 [(pEq (.slice g6.1.1.1 g6.1.1.2.1 g6.1.1.2.2)), (pEq (.slice g6.2.1.1 g6.2.1.2.1 g6.2.1.2.2))], oSS 25 2 1 (cK .i64) g6.1.1.1 g6.1.1.2.1 g6.1.1.2.2 g6.1.2 x5.Domains, oSS 25 2 1 (cK .i64) g6.2.1.1 g6.2.1.2.1 g6.2.1.2.2 g6.2.2 x5.Apart]) () rfl (RvOk.tmp rfl) rfl
        · replace h := bif_f hc h
          refine Tr.skip ?_
          refine Ct.then_tr ?_
          refine Tr.weak (Γ' := [(1, (pSl 1 (cK .i64) a_1)), (2, (pEq (.int .i64 a_2))), (3, (pPtr (cGProblem a_0))), (8, (pSl 1 (cK .i64) x4.1)), (9, (pEq (.int .i64 x4.2.1))), (10, (pEq (.int .i64 x4.2.2))), (11, (pEq (.pointer (some ⟨b9, 0, none⟩)))), (12, (pEq (.slice g12.1 g12.2.1 g12.2.2))), (13, (pEq (.slice g15.1 g15.2.1 g15.2.2))), (14, (pEq (.int .i64 x14.2.1))), (15, (pEq (.int .i64 x14.2.2)))]) ⟨rfl, rfl, rfl, rfl, rfl, rfl, rfl, rfl, rfl, rfl, rfl, trivial⟩ ?_
          refine Tr.seq ?_
          refine Tr.seq ?_
          replace h := bind_some h; obtain ⟨x22, hx22, h⟩ := h
          replace h := bind_some h; obtain ⟨x23, hx23, h⟩ := h
          refine Tr.drawD (n := 143) (m := 5) (es := [some (Ent.mk [(11, (pEq (.pointer (some ⟨b9, 0, none⟩))))] (pAgg [(pEq (.slice g6.1.1.1 g6.1.1.2.1 g6.1.1.2.2)), (pEq (.slice g6.2.1.1 g6.2.1.2.1 g6.2.1.2.2))]) true), some (Ent.mk [(3, (pPtr (cGProblem a_0)))] (pAgg (cGProblem a_0)) true), some (Ent.mk [(67, (pAgg (cGProblem a_0)))] (pAgg (cGProblem x22)) true), some (Ent.mk [(66, (pAgg [(pEq (.slice g6.1.1.1 g6.1.1.2.1 g6.1.1.2.2)), (pEq (.slice g6.2.1.1 g6.2.1.2.1 g6.2.1.2.2))])), (68, (pAgg (cGProblem x22)))] (pEq (.bool x23)) true), some (Ent.mk [(69, (pEq (.bool x23)))] (pEq (.bool (!x23))) true)]) (rd := [[11], [3], [67], [66, 68], [69]]) rfl hmix (by kernel_rfl) fun hD => ?_
          refine RD.fin (es := [Ent.mk [(11, (pEq (.pointer (some ⟨b9, 0, none⟩))))] (pAgg [(pEq (.slice g6.1.1.1 g6.1.1.2.1 g6.1.1.2.2)), (pEq (.slice g6.2.1.1 g6.2.1.2.1 g6.2.1.2.2))]) true, Ent.mk [(3, (pPtr (cGProblem a_0)))] (pAgg (cGProblem a_0)) true, Ent.mk [(67, (pAgg (cGProblem a_0)))] (pAgg (cGProblem x22)) true, Ent.mk [(66, (pAgg [(pEq (.slice g6.1.1.1 g6.1.1.2.1 g6.1.1.2.2)), (pEq (.slice g6.2.1.1 g6.2.1.2.1 g6.2.1.2.2))])), (68, (pAgg (cGProblem x22)))] (pEq (.bool x23)) true, Ent.mk [(69, (pEq (.bool x23)))] (pEq (.bool (!x23))) true]) (done := []) hD ⟨.inr ⟨(W_loadA (i := 2) rfl Try.isAgg29 sz29 (Opd.tmp rfl) rfl rfl), ⟨rfl, trivial⟩, rfl, rfl⟩, ⟨.inr ⟨(OpJ.w (J_loadA rfl Try.isAgg24 sz24 (Opd.tmp rfl) rfl)), ⟨rfl, trivial⟩, rfl, rfl⟩, ⟨.inr ⟨(OpJ.w (J_call rfl Try.call14 (c_laws_toProblem hx22) (Opds.cons (Opd.tmp rfl) Opds.nil))), ⟨rfl, trivial⟩, rfl, rfl⟩, ⟨.inr ⟨(W_call rfl Try.call18 (c_laws_eqProblem hx23) (OpdsA.cons (OpdA.conv rfl (Conv.agg (Convs.cons (Conv.nest 3 (fun _ => rfl) rfl) (Convs.cons (Conv.nest 4 (fun _ => rfl) rfl) Convs.nil)))) (OpdsA.cons (OpdA.of (Opd.tmp rfl)) OpdsA.nil)) FreeP.eq), ⟨rfl, rfl, trivial⟩, rfl, rfl⟩, ⟨.inr ⟨(OpJ.w (J_not rfl (Opd.tmp rfl))), ⟨rfl, trivial⟩, rfl, rfl⟩, trivial⟩⟩⟩⟩⟩ ?_
          refine RegL.nil ?_
          refine Ct.then_tr ?_
          refine Tr.weak (Γ' := [(1, (pSl 1 (cK .i64) a_1)), (2, (pEq (.int .i64 a_2))), (3, (pPtr (cGProblem a_0))), (8, (pSl 1 (cK .i64) x4.1)), (9, (pEq (.int .i64 x4.2.1))), (10, (pEq (.int .i64 x4.2.2))), (11, (pEq (.pointer (some ⟨b9, 0, none⟩)))), (12, (pEq (.slice g12.1 g12.2.1 g12.2.2))), (13, (pEq (.slice g15.1 g15.2.1 g15.2.2))), (14, (pEq (.int .i64 x14.2.1))), (15, (pEq (.int .i64 x14.2.2))), (70, (pEq (.bool (!x23))))]) ⟨rfl, rfl, rfl, rfl, rfl, rfl, rfl, rfl, rfl, rfl, rfl, rfl, trivial⟩ ?_
          refine Tr.cond (Opd.tmp rfl) (fun hc => ?_) (fun hc => ?_)
          · replace h := bif_t hc h
            refine Tr.seq ?_
            refine Tr.region ?_
            refine RegL.pure (p := (pEq (.bool false))) rfl rfl rfl (J_assign rfl Opd.con) ?_
            refine RegL.nil ?_
            refine Ct.then_tr ?_
            refine Tr.weak (Γ' := [(6, (pEq (.bool false)))]) ⟨rfl, trivial⟩ ?_
            refine Tr.ret ?_
            refine Ct.then_ret ?_
            replace h := Option.some.inj h; subst h
            exact Ct.retH1 (Ωx := [oSl 2 1 (cK .i64) g15.1 g15.2.1 g15.2.2 x14.1, oSl 2 1 (cK .i64) g12.1 g12.2.1 g12.2.2 x11, oBlk b9 [(pEq (.slice g6.1.1.1 g6.1.1.2.1 g6.1.1.2.2)), (pEq (.slice g6.2.1.1 g6.2.1.2.1 g6.2.1.2.2))], oSS 25 2 1 (cK .i64) g6.1.1.1 g6.1.1.2.1 g6.1.1.2.2 g6.1.2 x5.Domains, oSS 25 2 1 (cK .i64) g6.2.1.1 g6.2.1.2.1 g6.2.1.2.2 g6.2.2 x5.Apart]) () rfl (RvOk.tmp rfl) rfl
          · replace h := bif_f hc h
            refine Tr.skip ?_
            refine Ct.then_tr ?_
            refine Tr.weak (Γ' := [(1, (pSl 1 (cK .i64) a_1)), (2, (pEq (.int .i64 a_2))), (3, (pPtr (cGProblem a_0))), (8, (pSl 1 (cK .i64) x4.1)), (9, (pEq (.int .i64 x4.2.1))), (10, (pEq (.int .i64 x4.2.2))), (11, (pEq (.pointer (some ⟨b9, 0, none⟩)))), (12, (pEq (.slice g12.1 g12.2.1 g12.2.2))), (13, (pEq (.slice g15.1 g15.2.1 g15.2.2))), (14, (pEq (.int .i64 x14.2.1))), (15, (pEq (.int .i64 x14.2.2)))]) ⟨rfl, rfl, rfl, rfl, rfl, rfl, rfl, rfl, rfl, rfl, rfl, trivial⟩ ?_
            refine Tr.seq ?_
            refine Tr.seq ?_
            refine Tr.region ?_
            refine RegL.pure (p := (pEq (.slice g12.1 g12.2.1 g12.2.2))) rfl rfl rfl (J_move rfl (Opd.tmp rfl)) ?_
            refine RegL.pure (p := (pSl 1 (cK .i64) a_1)) rfl rfl rfl (J_move rfl (Opd.tmp rfl)) ?_
            replace h := bind_some h; obtain ⟨x24, hx24, h⟩ := h
            refine RegL.pure (p := (pSl 1 (cK .i64) x24)) rfl rfl rfl (J_call rfl Try.call15 (c_laws_toInt64S hx24) (Opds.cons (Opd.tmp rfl) Opds.nil)) ?_
            replace h := bind_some h; obtain ⟨x25, hx25, h⟩ := h
            refine RegL.pureW (p := (pEq (.bool x25))) rfl rfl rfl (W_call rfl Try.call17 (c_laws_eqInt64S hx25) (OpdsA.cons (OpdA.conv rfl (Conv.row 1 (fun _ => rfl) rfl)) (OpdsA.cons (OpdA.of (Opd.tmp rfl)) OpdsA.nil)) FreeP.eq) ?_
            refine RegL.pure (p := (pEq (.bool (!x25)))) rfl rfl rfl (J_not rfl (Opd.tmp rfl)) ?_
            refine RegL.nil ?_
            refine Ct.then_tr ?_
            refine Tr.weak (Γ' := [(1, (pSl 1 (cK .i64) a_1)), (2, (pEq (.int .i64 a_2))), (3, (pPtr (cGProblem a_0))), (8, (pSl 1 (cK .i64) x4.1)), (9, (pEq (.int .i64 x4.2.1))), (10, (pEq (.int .i64 x4.2.2))), (11, (pEq (.pointer (some ⟨b9, 0, none⟩)))), (12, (pEq (.slice g12.1 g12.2.1 g12.2.2))), (13, (pEq (.slice g15.1 g15.2.1 g15.2.2))), (14, (pEq (.int .i64 x14.2.1))), (15, (pEq (.int .i64 x14.2.2))), (75, (pEq (.bool (!x25))))]) ⟨rfl, rfl, rfl, rfl, rfl, rfl, rfl, rfl, rfl, rfl, rfl, rfl, trivial⟩ ?_
            refine Tr.cond (Opd.tmp rfl) (fun hc => ?_) (fun hc => ?_)
            · replace h := bif_t hc h
              refine Tr.seq ?_
              refine Tr.region ?_
              refine RegL.pure (p := (pEq (.bool false))) rfl rfl rfl (J_assign rfl Opd.con) ?_
              refine RegL.nil ?_
              refine Ct.then_tr ?_
              refine Tr.weak (Γ' := [(6, (pEq (.bool false)))]) ⟨rfl, trivial⟩ ?_
              refine Tr.ret ?_
              refine Ct.then_ret ?_
              replace h := Option.some.inj h; subst h
              exact Ct.retH1 (Ωx := [oSl 2 1 (cK .i64) g15.1 g15.2.1 g15.2.2 x14.1, oSl 2 1 (cK .i64) g12.1 g12.2.1 g12.2.2 x11, oBlk b9 [(pEq (.slice g6.1.1.1 g6.1.1.2.1 g6.1.1.2.2)), (pEq (.slice g6.2.1.1 g6.2.1.2.1 g6.2.1.2.2))], oSS 25 2 1 (cK .i64) g6.1.1.1 g6.1.1.2.1 g6.1.1.2.2 g6.1.2 x5.Domains, oSS 25 2 1 (cK .i64) g6.2.1.1 g6.2.1.2.1 g6.2.1.2.2 g6.2.2 x5.Apart]) () rfl (RvOk.tmp rfl) rfl
            · replace h := bif_f hc h
              refine Tr.skip ?_
              refine Ct.then_tr ?_
              refine Tr.weak (Γ' := [(1, (pSl 1 (cK .i64) a_1)), (2, (pEq (.int .i64 a_2))), (3, (pPtr (cGProblem a_0))), (8, (pSl 1 (cK .i64) x4.1)), (9, (pEq (.int .i64 x4.2.1))), (10, (pEq (.int .i64 x4.2.2))), (11, (pEq (.pointer (some ⟨b9, 0, none⟩)))), (12, (pEq (.slice g12.1 g12.2.1 g12.2.2))), (13, (pEq (.slice g15.1 g15.2.1 g15.2.2))), (14, (pEq (.int .i64 x14.2.1))), (15, (pEq (.int .i64 x14.2.2)))]) ⟨rfl, rfl, rfl, rfl, rfl, rfl, rfl, rfl, rfl, rfl, rfl, trivial⟩ ?_
              refine Tr.seq ?_
              refine Tr.region ?_
              refine RegL.pure (p := (pEq (.int .i64 (1 : Int)))) rfl rfl rfl (J_assign rfl Opd.con) ?_
              refine RegL.nil ?_
              refine Ct.then_tr ?_
              refine Tr.weak (Γ' := [(1, (pSl 1 (cK .i64) a_1)), (2, (pEq (.int .i64 a_2))), (3, (pPtr (cGProblem a_0))), (8, (pSl 1 (cK .i64) x4.1)), (9, (pEq (.int .i64 x4.2.1))), (10, (pEq (.int .i64 x4.2.2))), (11, (pEq (.pointer (some ⟨b9, 0, none⟩)))), (12, (pEq (.slice g12.1 g12.2.1 g12.2.2))), (13, (pEq (.slice g15.1 g15.2.1 g15.2.2))), (14, (pEq (.int .i64 x14.2.1))), (15, (pEq (.int .i64 x14.2.2))), (16, (pEq (.int .i64 (1 : Int))))]) ⟨rfl, rfl, rfl, rfl, rfl, rfl, rfl, rfl, rfl, rfl, rfl, rfl, trivial⟩ ?_
              refine Tr.seq ?_
              refine Tr.region ?_
              refine RegL.pureW (p := (pAgg [(pEq (.slice g6.1.1.1 g6.1.1.2.1 g6.1.1.2.2)), (pEq (.slice g6.2.1.1 g6.2.1.2.1 g6.2.1.2.2))])) rfl rfl rfl (W_loadA (i := 2) rfl Try.isAgg29 sz29 (Opd.tmp rfl) rfl rfl) ?_
              refine RegL.pure (p := (pEq (.int .i64 (1 : Int)))) rfl rfl rfl (J_move rfl (Opd.tmp rfl)) ?_
              replace h := bind_some h; obtain ⟨x26, hx26, h⟩ := h
              refine RegL.re (Ω2 := [oSS 25 2 1 (cK .i64) g6.2.1.1 g6.2.1.2.1 g6.2.1.2.2 g6.2.2 x5.Apart, oSl 2 1 (cK .i64) g15.1 g15.2.1 g15.2.2 x14.1, oSl 2 1 (cK .i64) g12.1 g12.2.1 g12.2.2 x11, oBlk b9 [(pEq (.slice g6.1.1.1 g6.1.1.2.1 g6.1.1.2.2)), (pEq (.slice g6.2.1.1 g6.2.1.2.1 g6.2.1.2.2))], oSS 25 2 1 (cK .i64) g6.1.1.1 g6.1.1.2.1 g6.1.1.2.2 g6.1.2 x5.Domains]) (fun h => SatO.pick 4 h) ?_
              refine RegL.re (Ω2 := [oSS 25 2 1 (cK .i64) g6.1.1.1 g6.1.1.2.1 g6.1.1.2.2 g6.1.2 x5.Domains, oSS 25 2 1 (cK .i64) g6.2.1.1 g6.2.1.2.1 g6.2.1.2.2 g6.2.2 x5.Apart, oSl 2 1 (cK .i64) g15.1 g15.2.1 g15.2.2 x14.1, oSl 2 1 (cK .i64) g12.1 g12.2.1 g12.2.2 x11, oBlk b9 [(pEq (.slice g6.1.1.1 g6.1.1.2.1 g6.1.1.2.2)), (pEq (.slice g6.2.1.1 g6.2.1.2.1 g6.2.1.2.2))]]) (fun h => SatO.pick 4 h) ?_
              refine RegL.step (γ := Unit) (p := fun g => (pEq (.int .i64 x26.1))) (Ω' := fun g => [oSS 25 2 1 (cK .i64) g6.1.1.1 g6.1.1.2.1 g6.1.1.2.2 g6.1.2 x26.2.1, oSS 25 2 1 (cK .i64) g6.2.1.1 g6.2.1.2.1 g6.2.1.2.2 g6.2.2 x26.2.2, oSl 2 1 (cK .i64) g15.1 g15.2.1 g15.2.2 x14.1, oSl 2 1 (cK .i64) g12.1 g12.2.1 g12.2.2 x11, oBlk b9 [(pEq (.slice g6.1.1.1 g6.1.1.2.1 g6.1.1.2.2)), (pEq (.slice g6.2.1.1 g6.2.1.2.1 g6.2.1.2.2))]]) rfl rfl rfl (M_callH (Ωi := [oSS 25 2 1 (cK .i64) g6.1.1.1 g6.1.1.2.1 g6.1.1.2.2 g6.1.2 x5.Domains, oSS 25 2 1 (cK .i64) g6.2.1.1 g6.2.1.2.1 g6.2.1.2.2 g6.2.2 x5.Apart]) rfl Try.call19 (o_laws_markProblem hx26) (Opds.cons (Opd.tmp rfl) (Opds.cons (Opd.tmp rfl) Opds.nil))) fun g27 => ?_
              refine RegL.pure (p := (pEq (.int .i64 x26.1))) rfl rfl rfl (J_assign rfl (Opd.tmp rfl)) ?_
              refine RegL.nil ?_
              refine Ct.then_tr ?_
              refine Tr.weak (Γ' := [(1, (pSl 1 (cK .i64) a_1)), (2, (pEq (.int .i64 a_2))), (3, (pPtr (cGProblem a_0))), (8, (pSl 1 (cK .i64) x4.1)), (9, (pEq (.int .i64 x4.2.1))), (10, (pEq (.int .i64 x4.2.2))), (12, (pEq (.slice g12.1 g12.2.1 g12.2.2))), (13, (pEq (.slice g15.1 g15.2.1 g15.2.2))), (14, (pEq (.int .i64 x14.2.1))), (15, (pEq (.int .i64 x14.2.2))), (16, (pEq (.int .i64 x26.1)))]) ⟨rfl, rfl, rfl, rfl, rfl, rfl, rfl, rfl, rfl, rfl, rfl, trivial⟩ ?_
              refine Tr.seq ?_
              refine Tr.region ?_
              refine RegL.pure (p := (pEq (.slice g12.1 g12.2.1 g12.2.2))) rfl rfl rfl (J_move rfl (Opd.tmp rfl)) ?_
              refine RegL.pure (p := (pEq (.int .i64 x26.1))) rfl rfl rfl (J_move rfl (Opd.tmp rfl)) ?_
              replace h := bind_some h; obtain ⟨x28, hx28, h⟩ := h
              refine RegL.re (Ω2 := [oSl 2 1 (cK .i64) g12.1 g12.2.1 g12.2.2 x11, oSS 25 2 1 (cK .i64) g6.1.1.1 g6.1.1.2.1 g6.1.1.2.2 g6.1.2 x26.2.1, oSS 25 2 1 (cK .i64) g6.2.1.1 g6.2.1.2.1 g6.2.1.2.2 g6.2.2 x26.2.2, oSl 2 1 (cK .i64) g15.1 g15.2.1 g15.2.2 x14.1, oBlk b9 [(pEq (.slice g6.1.1.1 g6.1.1.2.1 g6.1.1.2.2)), (pEq (.slice g6.2.1.1 g6.2.1.2.1 g6.2.1.2.2))]]) (fun h => SatO.pick 3 h) ?_
              refine RegL.step (γ := Unit) (p := fun g => (pEq (.int .i64 x28.1))) (Ω' := fun g => [oSl 2 1 (cK .i64) g12.1 g12.2.1 g12.2.2 x28.2, oSS 25 2 1 (cK .i64) g6.1.1.1 g6.1.1.2.1 g6.1.1.2.2 g6.1.2 x26.2.1, oSS 25 2 1 (cK .i64) g6.2.1.1 g6.2.1.2.1 g6.2.1.2.2 g6.2.2 x26.2.2, oSl 2 1 (cK .i64) g15.1 g15.2.1 g15.2.2 x14.1, oBlk b9 [(pEq (.slice g6.1.1.1 g6.1.1.2.1 g6.1.1.2.2)), (pEq (.slice g6.2.1.1 g6.2.1.2.1 g6.2.1.2.2))]]) rfl rfl rfl (M_callH (Ωi := [oSl 2 1 (cK .i64) g12.1 g12.2.1 g12.2.2 x11]) rfl Try.call20 (o_laws_markInt64S hx28) (Opds.cons (Opd.tmp rfl) (Opds.cons (Opd.tmp rfl) Opds.nil))) fun g29 => ?_
              refine RegL.pure (p := (pEq (.int .i64 x28.1))) rfl rfl rfl (J_assign rfl (Opd.tmp rfl)) ?_
              refine RegL.nil ?_
              refine Ct.then_tr ?_
              refine Tr.weak (Γ' := [(1, (pSl 1 (cK .i64) a_1)), (2, (pEq (.int .i64 a_2))), (3, (pPtr (cGProblem a_0))), (8, (pSl 1 (cK .i64) x4.1)), (9, (pEq (.int .i64 x4.2.1))), (10, (pEq (.int .i64 x4.2.2))), (13, (pEq (.slice g15.1 g15.2.1 g15.2.2))), (14, (pEq (.int .i64 x14.2.1))), (15, (pEq (.int .i64 x14.2.2))), (16, (pEq (.int .i64 x28.1)))]) ⟨rfl, rfl, rfl, rfl, rfl, rfl, rfl, rfl, rfl, rfl, trivial⟩ ?_
              refine Tr.seq ?_
              refine Tr.seq ?_
              replace h := bind_some h; obtain ⟨x30, hx30, h⟩ := h
              refine Tr.cut (γ := Unit) (Γm := fun g => [(1, (pSl 1 (cK .i64) a_1)), (2, (pEq (.int .i64 a_2))), (3, (pPtr (cGProblem a_0))), (8, (pSl 1 (cK .i64) x4.1)), (9, (pEq (.int .i64 x4.2.1))), (10, (pEq (.int .i64 x4.2.2))), (13, (pEq (.slice g15.1 g15.2.1 g15.2.2))), (99, (pEq (.bool x30)))]) (Ωm := fun g => [oSl 2 1 (cK .i64) g15.1 g15.2.1 g15.2.2 x14.1]) ?_ (fun g35 => ?_)
              · clear h
                have h := hx30
                clear hx30
                refine Tr.region ?_
                refine RegL.pure (p := (pEq (.int .i64 x28.1))) rfl rfl rfl (J_move rfl (Opd.tmp rfl)) ?_
                refine RegL.pure (p := (pEq (.bool (decide (x28.1 < (0 : Int)))))) rfl rfl rfl (J_bin rfl (Opd.tmp rfl) Opd.con B_lss) ?_
                refine RegL.pure (p := (pEq (.bool (decide (x28.1 < (0 : Int)))))) rfl rfl rfl (J_move rfl (Opd.tmp rfl)) ?_
                rcases Bool.eq_false_or_eq_true (decide (x28.1 < (0 : Int))) with hc31 | hc31
                · replace h := bif_t hc31 h
                  refine RegL.skipG rfl rfl rfl hc31 rfl rfl ?_
                  refine RegL.skipG rfl rfl rfl hc31 rfl rfl ?_
                  refine RegL.skipG rfl rfl rfl hc31 rfl rfl ?_
                  refine RegL.skipG rfl rfl rfl hc31 rfl rfl ?_
                  refine RegL.pure (p := (pEq (.bool true))) rfl rfl rfl (J_pick rfl (Opd.tmp rfl) (fun _ => Opd.con) (fun hf => absurd (hc31.symm.trans hf) (by decide))) ?_
                  refine RegL.pure (p := (pEq (.bool true))) rfl rfl rfl (J_move rfl (Opd.tmp rfl)) ?_
                  refine RegL.skipG rfl rfl rfl rfl rfl rfl ?_
                  refine RegL.skipG rfl rfl rfl rfl rfl rfl ?_
                  refine RegL.skipG rfl rfl rfl rfl rfl rfl ?_
                  refine RegL.pure (p := (pEq (.bool true))) rfl rfl rfl (J_pick rfl (Opd.tmp rfl) (fun _ => Opd.con) (fun hf => absurd hf (by decide))) ?_
                  refine RegL.pure (p := (pEq (.bool true))) rfl rfl rfl (J_move rfl (Opd.tmp rfl)) ?_
                  refine RegL.skipG rfl rfl rfl rfl rfl rfl ?_
                  refine RegL.skipG rfl rfl rfl rfl rfl rfl ?_
                  refine RegL.skipG rfl rfl rfl rfl rfl rfl ?_
                  refine RegL.pure (p := (pEq (.bool true))) rfl rfl rfl (J_pick rfl (Opd.tmp rfl) (fun _ => Opd.con) (fun hf => absurd hf (by decide))) ?_
                  refine RegL.nil ?_
                  refine Ct.re (Ω2 := [oSS 25 2 1 (cK .i64) g6.1.1.1 g6.1.1.2.1 g6.1.1.2.2 g6.1.2 x26.2.1, oSS 25 2 1 (cK .i64) g6.2.1.1 g6.2.1.2.1 g6.2.1.2.2 g6.2.2 x26.2.2, oSl 2 1 (cK .i64) g15.1 g15.2.1 g15.2.2 x14.1, oBlk b9 [(pEq (.slice g6.1.1.1 g6.1.1.2.1 g6.1.1.2.2)), (pEq (.slice g6.2.1.1 g6.2.1.2.1 g6.2.1.2.2))]]) (fun h => SatO.rest h) ?_
                  refine Ct.re (Ω2 := [oSS 25 2 1 (cK .i64) g6.2.1.1 g6.2.1.2.1 g6.2.1.2.2 g6.2.2 x26.2.2, oSl 2 1 (cK .i64) g15.1 g15.2.1 g15.2.2 x14.1, oBlk b9 [(pEq (.slice g6.1.1.1 g6.1.1.2.1 g6.1.1.2.2)), (pEq (.slice g6.2.1.1 g6.2.1.2.1 g6.2.1.2.2))]]) (fun h => SatO.rest h) ?_
                  refine Ct.re (Ω2 := [oSl 2 1 (cK .i64) g15.1 g15.2.1 g15.2.2 x14.1, oBlk b9 [(pEq (.slice g6.1.1.1 g6.1.1.2.1 g6.1.1.2.2)), (pEq (.slice g6.2.1.1 g6.2.1.2.1 g6.2.1.2.2))]]) (fun h => SatO.rest h) ?_
                  refine Ct.re (Ω2 := [oBlk b9 [(pEq (.slice g6.1.1.1 g6.1.1.2.1 g6.1.1.2.2)), (pEq (.slice g6.2.1.1 g6.2.1.2.1 g6.2.1.2.2))], oSl 2 1 (cK .i64) g15.1 g15.2.1 g15.2.2 x14.1]) (fun h => SatO.pick 1 h) ?_
                  refine Ct.re (Ω2 := [oSl 2 1 (cK .i64) g15.1 g15.2.1 g15.2.2 x14.1]) (fun h => SatO.rest h) ?_
                  replace h := Option.some.inj h; subst h
                  exact Ct.mid () rfl ⟨rfl, rfl, rfl, rfl, rfl, rfl, rfl, rfl, trivial⟩
                · replace h := bif_f hc31 h
                  refine RegL.pureG (p := (pEq (.slice g15.1 g15.2.1 g15.2.2))) rfl rfl rfl hc31 rfl rfl (J_move rfl (Opd.tmp rfl)) ?_
                  refine RegL.pureG (p := (pSl 1 (cK .i64) x4.1)) rfl rfl rfl hc31 rfl rfl (J_move rfl (Opd.tmp rfl)) ?_
                  replace h := bind_some h; obtain ⟨x32, hx32, h⟩ := h
                  refine RegL.pureGW (p := (pEq (.bool x32))) rfl rfl rfl hc31 rfl rfl (W_call rfl Try.call17 (c_laws_eqInt64S hx32) (OpdsA.cons (OpdA.conv rfl (Conv.row 3 (fun _ => rfl) rfl)) (OpdsA.cons (OpdA.of (Opd.tmp rfl)) OpdsA.nil)) FreeP.eq) ?_
                  refine RegL.pureG (p := (pEq (.bool (!x32)))) rfl rfl rfl hc31 rfl rfl (J_not rfl (Opd.tmp rfl)) ?_
                  refine RegL.pure (p := (pEq (.bool (!x32)))) rfl rfl rfl (J_pick rfl (Opd.tmp rfl) (fun hf => absurd (hc31.symm.trans hf) (by decide)) (fun _ => (Opd.tmp rfl))) ?_
                  refine RegL.pure (p := (pEq (.bool (!x32)))) rfl rfl rfl (J_move rfl (Opd.tmp rfl)) ?_
                  rcases Bool.eq_false_or_eq_true (!x32) with hc33 | hc33
                  · replace h := bif_t hc33 h
                    refine RegL.skipG rfl rfl rfl hc33 rfl rfl ?_
                    refine RegL.skipG rfl rfl rfl hc33 rfl rfl ?_
                    refine RegL.skipG rfl rfl rfl hc33 rfl rfl ?_
                    refine RegL.pure (p := (pEq (.bool true))) rfl rfl rfl (J_pick rfl (Opd.tmp rfl) (fun _ => Opd.con) (fun hf => absurd (hc33.symm.trans hf) (by decide))) ?_
                    refine RegL.pure (p := (pEq (.bool true))) rfl rfl rfl (J_move rfl (Opd.tmp rfl)) ?_
                    refine RegL.skipG rfl rfl rfl rfl rfl rfl ?_
                    refine RegL.skipG rfl rfl rfl rfl rfl rfl ?_
                    refine RegL.skipG rfl rfl rfl rfl rfl rfl ?_
                    refine RegL.pure (p := (pEq (.bool true))) rfl rfl rfl (J_pick rfl (Opd.tmp rfl) (fun _ => Opd.con) (fun hf => absurd hf (by decide))) ?_
                    refine RegL.nil ?_
                    refine Ct.re (Ω2 := [oSS 25 2 1 (cK .i64) g6.1.1.1 g6.1.1.2.1 g6.1.1.2.2 g6.1.2 x26.2.1, oSS 25 2 1 (cK .i64) g6.2.1.1 g6.2.1.2.1 g6.2.1.2.2 g6.2.2 x26.2.2, oSl 2 1 (cK .i64) g15.1 g15.2.1 g15.2.2 x14.1, oBlk b9 [(pEq (.slice g6.1.1.1 g6.1.1.2.1 g6.1.1.2.2)), (pEq (.slice g6.2.1.1 g6.2.1.2.1 g6.2.1.2.2))]]) (fun h => SatO.rest h) ?_
                    refine Ct.re (Ω2 := [oSS 25 2 1 (cK .i64) g6.2.1.1 g6.2.1.2.1 g6.2.1.2.2 g6.2.2 x26.2.2, oSl 2 1 (cK .i64) g15.1 g15.2.1 g15.2.2 x14.1, oBlk b9 [(pEq (.slice g6.1.1.1 g6.1.1.2.1 g6.1.1.2.2)), (pEq (.slice g6.2.1.1 g6.2.1.2.1 g6.2.1.2.2))]]) (fun h => SatO.rest h) ?_
                    refine Ct.re (Ω2 := [oSl 2 1 (cK .i64) g15.1 g15.2.1 g15.2.2 x14.1, oBlk b9 [(pEq (.slice g6.1.1.1 g6.1.1.2.1 g6.1.1.2.2)), (pEq (.slice g6.2.1.1 g6.2.1.2.1 g6.2.1.2.2))]]) (fun h => SatO.rest h) ?_
                    refine Ct.re (Ω2 := [oBlk b9 [(pEq (.slice g6.1.1.1 g6.1.1.2.1 g6.1.1.2.2)), (pEq (.slice g6.2.1.1 g6.2.1.2.1 g6.2.1.2.2))], oSl 2 1 (cK .i64) g15.1 g15.2.1 g15.2.2 x14.1]) (fun h => SatO.pick 1 h) ?_
                    refine Ct.re (Ω2 := [oSl 2 1 (cK .i64) g15.1 g15.2.1 g15.2.2 x14.1]) (fun h => SatO.rest h) ?_
                    replace h := Option.some.inj h; subst h
                    exact Ct.mid () rfl ⟨rfl, rfl, rfl, rfl, rfl, rfl, rfl, rfl, trivial⟩
                  · replace h := bif_f hc33 h
                    refine RegL.pureG (p := (pEq (.int .i64 x14.2.1))) rfl rfl rfl hc33 rfl rfl (J_move rfl (Opd.tmp rfl)) ?_
                    refine RegL.pureG (p := (pEq (.int .i64 x4.2.1))) rfl rfl rfl hc33 rfl rfl (J_move rfl (Opd.tmp rfl)) ?_
                    refine RegL.pureG (p := (pEq (.bool (x14.2.1 != x4.2.1)))) rfl rfl rfl hc33 rfl rfl (J_bin rfl (Opd.tmp rfl) (Opd.tmp rfl) B_neq) ?_
                    refine RegL.pure (p := (pEq (.bool (x14.2.1 != x4.2.1)))) rfl rfl rfl (J_pick rfl (Opd.tmp rfl) (fun hf => absurd (hc33.symm.trans hf) (by decide)) (fun _ => (Opd.tmp rfl))) ?_
                    refine RegL.pure (p := (pEq (.bool (x14.2.1 != x4.2.1)))) rfl rfl rfl (J_move rfl (Opd.tmp rfl)) ?_
                    rcases Bool.eq_false_or_eq_true (x14.2.1 != x4.2.1) with hc34 | hc34
                    · replace h := bif_t hc34 h
                      refine RegL.skipG rfl rfl rfl hc34 rfl rfl ?_
                      refine RegL.skipG rfl rfl rfl hc34 rfl rfl ?_
                      refine RegL.skipG rfl rfl rfl hc34 rfl rfl ?_
                      refine RegL.pure (p := (pEq (.bool true))) rfl rfl rfl (J_pick rfl (Opd.tmp rfl) (fun _ => Opd.con) (fun hf => absurd (hc34.symm.trans hf) (by decide))) ?_
                      refine RegL.nil ?_
                      refine Ct.re (Ω2 := [oSS 25 2 1 (cK .i64) g6.1.1.1 g6.1.1.2.1 g6.1.1.2.2 g6.1.2 x26.2.1, oSS 25 2 1 (cK .i64) g6.2.1.1 g6.2.1.2.1 g6.2.1.2.2 g6.2.2 x26.2.2, oSl 2 1 (cK .i64) g15.1 g15.2.1 g15.2.2 x14.1, oBlk b9 [(pEq (.slice g6.1.1.1 g6.1.1.2.1 g6.1.1.2.2)), (pEq (.slice g6.2.1.1 g6.2.1.2.1 g6.2.1.2.2))]]) (fun h => SatO.rest h) ?_
                      refine Ct.re (Ω2 := [oSS 25 2 1 (cK .i64) g6.2.1.1 g6.2.1.2.1 g6.2.1.2.2 g6.2.2 x26.2.2, oSl 2 1 (cK .i64) g15.1 g15.2.1 g15.2.2 x14.1, oBlk b9 [(pEq (.slice g6.1.1.1 g6.1.1.2.1 g6.1.1.2.2)), (pEq (.slice g6.2.1.1 g6.2.1.2.1 g6.2.1.2.2))]]) (fun h => SatO.rest h) ?_
                      refine Ct.re (Ω2 := [oSl 2 1 (cK .i64) g15.1 g15.2.1 g15.2.2 x14.1, oBlk b9 [(pEq (.slice g6.1.1.1 g6.1.1.2.1 g6.1.1.2.2)), (pEq (.slice g6.2.1.1 g6.2.1.2.1 g6.2.1.2.2))]]) (fun h => SatO.rest h) ?_
                      refine Ct.re (Ω2 := [oBlk b9 [(pEq (.slice g6.1.1.1 g6.1.1.2.1 g6.1.1.2.2)), (pEq (.slice g6.2.1.1 g6.2.1.2.1 g6.2.1.2.2))], oSl 2 1 (cK .i64) g15.1 g15.2.1 g15.2.2 x14.1]) (fun h => SatO.pick 1 h) ?_
                      refine Ct.re (Ω2 := [oSl 2 1 (cK .i64) g15.1 g15.2.1 g15.2.2 x14.1]) (fun h => SatO.rest h) ?_
                      replace h := Option.some.inj h; subst h
                      exact Ct.mid () rfl ⟨rfl, rfl, rfl, rfl, rfl, rfl, rfl, rfl, trivial⟩
                    · replace h := bif_f hc34 h
                      refine RegL.pureG (p := (pEq (.int .i64 x14.2.2))) rfl rfl rfl hc34 rfl rfl (J_move rfl (Opd.tmp rfl)) ?_
                      refine RegL.pureG (p := (pEq (.int .i64 x4.2.2))) rfl rfl rfl hc34 rfl rfl (J_move rfl (Opd.tmp rfl)) ?_
                      refine RegL.pureG (p := (pEq (.bool (x14.2.2 != x4.2.2)))) rfl rfl rfl hc34 rfl rfl (J_bin rfl (Opd.tmp rfl) (Opd.tmp rfl) B_neq) ?_
                      refine RegL.pure (p := (pEq (.bool (x14.2.2 != x4.2.2)))) rfl rfl rfl (J_pick rfl (Opd.tmp rfl) (fun hf => absurd (hc34.symm.trans hf) (by decide)) (fun _ => (Opd.tmp rfl))) ?_
                      refine RegL.nil ?_
                      refine Ct.re (Ω2 := [oSS 25 2 1 (cK .i64) g6.1.1.1 g6.1.1.2.1 g6.1.1.2.2 g6.1.2 x26.2.1, oSS 25 2 1 (cK .i64) g6.2.1.1 g6.2.1.2.1 g6.2.1.2.2 g6.2.2 x26.2.2, oSl 2 1 (cK .i64) g15.1 g15.2.1 g15.2.2 x14.1, oBlk b9 [(pEq (.slice g6.1.1.1 g6.1.1.2.1 g6.1.1.2.2)), (pEq (.slice g6.2.1.1 g6.2.1.2.1 g6.2.1.2.2))]]) (fun h => SatO.rest h) ?_
                      refine Ct.re (Ω2 := [oSS 25 2 1 (cK .i64) g6.2.1.1 g6.2.1.2.1 g6.2.1.2.2 g6.2.2 x26.2.2, oSl 2 1 (cK .i64) g15.1 g15.2.1 g15.2.2 x14.1, oBlk b9 [(pEq (.slice g6.1.1.1 g6.1.1.2.1 g6.1.1.2.2)), (pEq (.slice g6.2.1.1 g6.2.1.2.1 g6.2.1.2.2))]]) (fun h => SatO.rest h) ?_
                      refine Ct.re (Ω2 := [oSl 2 1 (cK .i64) g15.1 g15.2.1 g15.2.2 x14.1, oBlk b9 [(pEq (.slice g6.1.1.1 g6.1.1.2.1 g6.1.1.2.2)), (pEq (.slice g6.2.1.1 g6.2.1.2.1 g6.2.1.2.2))]]) (fun h => SatO.rest h) ?_
                      refine Ct.re (Ω2 := [oBlk b9 [(pEq (.slice g6.1.1.1 g6.1.1.2.1 g6.1.1.2.2)), (pEq (.slice g6.2.1.1 g6.2.1.2.1 g6.2.1.2.2))], oSl 2 1 (cK .i64) g15.1 g15.2.1 g15.2.2 x14.1]) (fun h => SatO.pick 1 h) ?_
                      refine Ct.re (Ω2 := [oSl 2 1 (cK .i64) g15.1 g15.2.1 g15.2.2 x14.1]) (fun h => SatO.rest h) ?_
                      replace h := Option.some.inj h; subst h
                      exact Ct.mid () rfl ⟨rfl, rfl, rfl, rfl, rfl, rfl, rfl, rfl, trivial⟩
              · clear hx30
                refine Ct.then_tr ?_
                refine Tr.weak (Γ' := [(1, (pSl 1 (cK .i64) a_1)), (2, (pEq (.int .i64 a_2))), (3, (pPtr (cGProblem a_0))), (8, (pSl 1 (cK .i64) x4.1)), (9, (pEq (.int .i64 x4.2.1))), (10, (pEq (.int .i64 x4.2.2))), (13, (pEq (.slice g15.1 g15.2.1 g15.2.2))), (99, (pEq (.bool x30)))]) ⟨rfl, rfl, rfl, rfl, rfl, rfl, rfl, rfl, trivial⟩ ?_
                refine Tr.cond (Opd.tmp rfl) (fun hc => ?_) (fun hc => ?_)
                · replace h := bif_t hc h
                  refine Tr.seq ?_
                  refine Tr.region ?_
                  refine RegL.pure (p := (pEq (.bool false))) rfl rfl rfl (J_assign rfl Opd.con) ?_
                  refine RegL.nil ?_
                  refine Ct.then_tr ?_
                  refine Tr.weak (Γ' := [(6, (pEq (.bool false)))]) ⟨rfl, trivial⟩ ?_
                  refine Tr.ret ?_
                  refine Ct.then_ret ?_
                  replace h := Option.some.inj h; subst h
                  exact Ct.retH1 (Ωx := [oSl 2 1 (cK .i64) g15.1 g15.2.1 g15.2.2 x14.1]) () rfl (RvOk.tmp rfl) rfl
                · replace h := bif_f hc h
                  refine Tr.skip ?_
                  refine Ct.then_tr ?_
                  refine Tr.weak (Γ' := [(1, (pSl 1 (cK .i64) a_1)), (2, (pEq (.int .i64 a_2))), (3, (pPtr (cGProblem a_0))), (8, (pSl 1 (cK .i64) x4.1)), (9, (pEq (.int .i64 x4.2.1))), (10, (pEq (.int .i64 x4.2.2))), (13, (pEq (.slice g15.1 g15.2.1 g15.2.2)))]) ⟨rfl, rfl, rfl, rfl, rfl, rfl, rfl, trivial⟩ ?_
                  refine Tr.seq ?_
                  refine Tr.region ?_
                  refine RegL.pure (p := (pEq (.int .i64 (1 : Int)))) rfl rfl rfl (J_assign rfl Opd.con) ?_
                  refine RegL.nil ?_
                  refine Ct.then_tr ?_
                  refine Tr.weak (Γ' := [(1, (pSl 1 (cK .i64) a_1)), (2, (pEq (.int .i64 a_2))), (3, (pPtr (cGProblem a_0))), (8, (pSl 1 (cK .i64) x4.1)), (9, (pEq (.int .i64 x4.2.1))), (10, (pEq (.int .i64 x4.2.2))), (13, (pEq (.slice g15.1 g15.2.1 g15.2.2))), (17, (pEq (.int .i64 (1 : Int))))]) ⟨rfl, rfl, rfl, rfl, rfl, rfl, rfl, rfl, trivial⟩ ?_
                  refine Tr.seq ?_
                  refine Tr.region ?_
                  refine RegL.pure (p := (pEq (.slice g15.1 g15.2.1 g15.2.2))) rfl rfl rfl (J_move rfl (Opd.tmp rfl)) ?_
                  refine RegL.pure (p := (pEq (.int .i64 (1 : Int)))) rfl rfl rfl (J_move rfl (Opd.tmp rfl)) ?_
                  replace h := bind_some h; obtain ⟨x36, hx36, h⟩ := h
                  refine RegL.step (γ := Unit) (p := fun g => (pEq (.int .i64 x36.1))) (Ω' := fun g => [oSl 2 1 (cK .i64) g15.1 g15.2.1 g15.2.2 x36.2]) rfl rfl rfl (M_callH (Ωi := [oSl 2 1 (cK .i64) g15.1 g15.2.1 g15.2.2 x14.1]) rfl Try.call20 (o_laws_markInt64S hx36) (Opds.cons (Opd.tmp rfl) (Opds.cons (Opd.tmp rfl) Opds.nil))) fun g37 => ?_
                  refine RegL.pure (p := (pEq (.int .i64 x36.1))) rfl rfl rfl (J_assign rfl (Opd.tmp rfl)) ?_
                  refine RegL.nil ?_
                  refine Ct.then_tr ?_
                  refine Tr.weak (Γ' := [(1, (pSl 1 (cK .i64) a_1)), (2, (pEq (.int .i64 a_2))), (3, (pPtr (cGProblem a_0))), (8, (pSl 1 (cK .i64) x4.1)), (9, (pEq (.int .i64 x4.2.1))), (10, (pEq (.int .i64 x4.2.2))), (13, (pEq (.slice g15.1 g15.2.1 g15.2.2))), (17, (pEq (.int .i64 x36.1)))]) ⟨rfl, rfl, rfl, rfl, rfl, rfl, rfl, rfl, trivial⟩ ?_
                  refine Tr.seq ?_
                  refine Tr.region ?_
                  refine RegL.pure (p := (pEq (.int .i64 (1 : Int)))) rfl rfl rfl (J_assign rfl Opd.con) ?_
                  refine RegL.nil ?_
                  refine Ct.then_tr ?_
                  refine Tr.weak (Γ' := [(1, (pSl 1 (cK .i64) a_1)), (2, (pEq (.int .i64 a_2))), (3, (pPtr (cGProblem a_0))), (8, (pSl 1 (cK .i64) x4.1)), (9, (pEq (.int .i64 x4.2.1))), (10, (pEq (.int .i64 x4.2.2))), (13, (pEq (.slice g15.1 g15.2.1 g15.2.2))), (17, (pEq (.int .i64 x36.1))), (18, (pEq (.int .i64 (1 : Int))))]) ⟨rfl, rfl, rfl, rfl, rfl, rfl, rfl, rfl, rfl, trivial⟩ ?_
                  refine Tr.seq ?_
                  refine Tr.region ?_
                  refine RegL.pure (p := (pEq (.slice g15.1 g15.2.1 g15.2.2))) rfl rfl rfl (J_move rfl (Opd.tmp rfl)) ?_
                  refine RegL.pure (p := (pEq (.int .i64 (1 : Int)))) rfl rfl rfl (J_move rfl (Opd.tmp rfl)) ?_
                  replace h := bind_some h; obtain ⟨x38, hx38, h⟩ := h
                  refine RegL.pureW (p := (pEq (.int .i64 x38))) rfl rfl rfl (W_call rfl Try.call21 (c_laws_heldInt64S hx38) (OpdsA.cons (OpdA.conv rfl (Conv.row 0 (fun _ => rfl) rfl)) (OpdsA.cons (OpdA.of (Opd.tmp rfl)) OpdsA.nil)) FreeP.eq) ?_
                  refine RegL.pure (p := (pEq (.int .i64 x38))) rfl rfl rfl (J_assign rfl (Opd.tmp rfl)) ?_
                  refine RegL.nil ?_
                  refine Ct.then_tr ?_
                  refine Tr.weak (Γ' := [(1, (pSl 1 (cK .i64) a_1)), (2, (pEq (.int .i64 a_2))), (3, (pPtr (cGProblem a_0))), (8, (pSl 1 (cK .i64) x4.1)), (9, (pEq (.int .i64 x4.2.1))), (10, (pEq (.int .i64 x4.2.2))), (13, (pEq (.slice g15.1 g15.2.1 g15.2.2))), (17, (pEq (.int .i64 x36.1))), (18, (pEq (.int .i64 x38)))]) ⟨rfl, rfl, rfl, rfl, rfl, rfl, rfl, rfl, rfl, trivial⟩ ?_
                  refine Tr.seq ?_
                  refine Tr.seq ?_
                  refine Tr.region ?_
                  refine RegL.pure (p := (pEq (.int .i64 x38))) rfl rfl rfl (J_move rfl (Opd.tmp rfl)) ?_
                  refine RegL.pure (p := (pEq (.bool (decide (x38 < (0 : Int)))))) rfl rfl rfl (J_bin rfl (Opd.tmp rfl) Opd.con B_lss) ?_
                  refine RegL.nil ?_
                  refine Ct.then_tr ?_
                  refine Tr.weak (Γ' := [(1, (pSl 1 (cK .i64) a_1)), (2, (pEq (.int .i64 a_2))), (3, (pPtr (cGProblem a_0))), (8, (pSl 1 (cK .i64) x4.1)), (9, (pEq (.int .i64 x4.2.1))), (10, (pEq (.int .i64 x4.2.2))), (13, (pEq (.slice g15.1 g15.2.1 g15.2.2))), (17, (pEq (.int .i64 x36.1))), (18, (pEq (.int .i64 x38))), (107, (pEq (.bool (decide (x38 < (0 : Int))))))]) ⟨rfl, rfl, rfl, rfl, rfl, rfl, rfl, rfl, rfl, rfl, trivial⟩ ?_
                  refine Tr.cond (Opd.tmp rfl) (fun hc => ?_) (fun hc => ?_)
                  · replace h := bif_t hc h
                    refine Tr.seq ?_
                    refine Tr.region ?_
                    refine RegL.pure (p := (pEq (.bool false))) rfl rfl rfl (J_assign rfl Opd.con) ?_
                    refine RegL.nil ?_
                    refine Ct.then_tr ?_
                    refine Tr.weak (Γ' := [(6, (pEq (.bool false)))]) ⟨rfl, trivial⟩ ?_
                    refine Tr.ret ?_
                    refine Ct.then_ret ?_
                    replace h := Option.some.inj h; subst h
                    exact Ct.retH1 (Ωx := [oSl 2 1 (cK .i64) g15.1 g15.2.1 g15.2.2 x36.2]) () rfl (RvOk.tmp rfl) rfl
                  · replace h := bif_f hc h
                    refine Tr.skip ?_
                    refine Ct.then_tr ?_
                    refine Tr.weak (Γ' := [(1, (pSl 1 (cK .i64) a_1)), (2, (pEq (.int .i64 a_2))), (3, (pPtr (cGProblem a_0))), (8, (pSl 1 (cK .i64) x4.1)), (9, (pEq (.int .i64 x4.2.1))), (10, (pEq (.int .i64 x4.2.2))), (13, (pEq (.slice g15.1 g15.2.1 g15.2.2))), (17, (pEq (.int .i64 x36.1))), (18, (pEq (.int .i64 x38)))]) ⟨rfl, rfl, rfl, rfl, rfl, rfl, rfl, rfl, rfl, trivial⟩ ?_
                    refine Tr.seq ?_
                    refine Tr.seq ?_
                    refine Tr.region ?_
                    refine RegL.pure (p := (pEq (.int .i64 x38))) rfl rfl rfl (J_move rfl (Opd.tmp rfl)) ?_
                    refine RegL.pure (p := (pEq (.int .i64 x36.1))) rfl rfl rfl (J_move rfl (Opd.tmp rfl)) ?_
                    refine RegL.pure (p := (pEq (.bool (x38 != x36.1)))) rfl rfl rfl (J_bin rfl (Opd.tmp rfl) (Opd.tmp rfl) B_neq) ?_
                    refine RegL.nil ?_
                    refine Ct.then_tr ?_
                    refine Tr.weak (Γ' := [(1, (pSl 1 (cK .i64) a_1)), (2, (pEq (.int .i64 a_2))), (3, (pPtr (cGProblem a_0))), (8, (pSl 1 (cK .i64) x4.1)), (9, (pEq (.int .i64 x4.2.1))), (10, (pEq (.int .i64 x4.2.2))), (13, (pEq (.slice g15.1 g15.2.1 g15.2.2))), (17, (pEq (.int .i64 x36.1))), (110, (pEq (.bool (x38 != x36.1))))]) ⟨rfl, rfl, rfl, rfl, rfl, rfl, rfl, rfl, rfl, trivial⟩ ?_
                    refine Tr.cond (Opd.tmp rfl) (fun hc => ?_) (fun hc => ?_)
                    · replace h := bif_t hc h
                      refine Tr.seq ?_
                      refine Tr.region ?_
                      refine RegL.pure (p := (pEq (.bool false))) rfl rfl rfl (J_assign rfl Opd.con) ?_
                      refine RegL.nil ?_
                      refine Ct.then_tr ?_
                      refine Tr.weak (Γ' := [(6, (pEq (.bool false)))]) ⟨rfl, trivial⟩ ?_
                      refine Tr.ret ?_
                      refine Ct.then_ret ?_
                      replace h := Option.some.inj h; subst h
                      exact Ct.retH1 (Ωx := [oSl 2 1 (cK .i64) g15.1 g15.2.1 g15.2.2 x36.2]) () rfl (RvOk.tmp rfl) rfl
                    · replace h := bif_f hc h
                      refine Tr.skip ?_
                      refine Ct.then_tr ?_
                      refine Tr.weak (Γ' := [(1, (pSl 1 (cK .i64) a_1)), (2, (pEq (.int .i64 a_2))), (3, (pPtr (cGProblem a_0))), (8, (pSl 1 (cK .i64) x4.1)), (9, (pEq (.int .i64 x4.2.1))), (10, (pEq (.int .i64 x4.2.2))), (13, (pEq (.slice g15.1 g15.2.1 g15.2.2))), (17, (pEq (.int .i64 x36.1)))]) ⟨rfl, rfl, rfl, rfl, rfl, rfl, rfl, rfl, trivial⟩ ?_
                      refine Tr.seq ?_
                      refine Tr.region ?_
                      refine RegL.pure (p := (pAgg (cGProblem a_0))) rfl rfl rfl (J_loadA rfl Try.isAgg24 sz24 (Opd.tmp rfl) rfl) ?_
                      replace h := bind_some h; obtain ⟨x39, hx39, h⟩ := h
                      refine RegL.pure (p := (pAgg (cGProblem x39))) rfl rfl rfl (J_call rfl Try.call14 (c_laws_toProblem hx39) (Opds.cons (Opd.tmp rfl) Opds.nil)) ?_
                      refine RegL.pure (p := (pSl 1 (cK .i64) a_1)) rfl rfl rfl (J_move rfl (Opd.tmp rfl)) ?_
                      replace h := bind_some h; obtain ⟨x40, hx40, h⟩ := h
                      refine RegL.pure (p := (pSl 1 (cK .i64) x40)) rfl rfl rfl (J_call rfl Try.call15 (c_laws_toInt64S hx40) (Opds.cons (Opd.tmp rfl) Opds.nil)) ?_
                      refine RegL.pure (p := (pEq (.int .i64 a_2))) rfl rfl rfl (J_move rfl (Opd.tmp rfl)) ?_
                      replace h := bind_some h; obtain ⟨x41, hx41, h⟩ := h
                      refine RegL.pure (p := (pTup [(pSl 1 (cK .i64) x41.1), (pEq (.int .i64 x41.2.1)), (pEq (.int .i64 x41.2.2))])) rfl rfl rfl (J_call rfl Try.call27 (c_impl_RepairGreedy hx41) (Opds.cons (Opd.tmp rfl) (Opds.cons (Opd.tmp rfl) (Opds.cons (Opd.tmp rfl) Opds.nil)))) ?_
                      refine RegL.pure (p := (pTup [(pSl 1 (cK .i64) x41.1), (pEq (.int .i64 x41.2.1)), (pEq (.int .i64 x41.2.2))])) rfl rfl rfl (J_move rfl (Opd.tmp rfl)) ?_
                      refine RegL.pure (p := (pSl 1 (cK .i64) x41.1)) rfl rfl rfl (J_extract rfl (Opd.tmp rfl) rfl) ?_
                      refine RegL.pure (p := (pEq (.int .i64 x41.2.1))) rfl rfl rfl (J_extract rfl (Opd.tmp rfl) rfl) ?_
                      refine RegL.pure (p := (pEq (.int .i64 x41.2.2))) rfl rfl rfl (J_extract rfl (Opd.tmp rfl) rfl) ?_
                      refine RegL.pure (p := (pSl 1 (cK .i64) x41.1)) rfl rfl rfl (J_assign rfl (Opd.tmp rfl)) ?_
                      refine RegL.pure (p := (pEq (.int .i64 x41.2.1))) rfl rfl rfl (J_assign rfl (Opd.tmp rfl)) ?_
                      refine RegL.pure (p := (pEq (.int .i64 x41.2.2))) rfl rfl rfl (J_assign rfl (Opd.tmp rfl)) ?_
                      refine RegL.nil ?_
                      refine Ct.then_tr ?_
                      refine Tr.weak (Γ' := [(8, (pSl 1 (cK .i64) x4.1)), (9, (pEq (.int .i64 x4.2.1))), (10, (pEq (.int .i64 x4.2.2))), (13, (pEq (.slice g15.1 g15.2.1 g15.2.2))), (17, (pEq (.int .i64 x36.1))), (19, (pSl 1 (cK .i64) x41.1)), (20, (pEq (.int .i64 x41.2.1))), (21, (pEq (.int .i64 x41.2.2)))]) ⟨rfl, rfl, rfl, rfl, rfl, rfl, rfl, rfl, trivial⟩ ?_
                      refine Tr.seq ?_
                      refine Tr.seq ?_
                      replace h := bind_some h; obtain ⟨x42, hx42, h⟩ := h
                      refine Tr.cut (γ := Unit) (Γm := fun g => [(13, (pEq (.slice g15.1 g15.2.1 g15.2.2))), (17, (pEq (.int .i64 x36.1))), (134, (pEq (.bool x42)))]) (Ωm := fun g => [oSl 2 1 (cK .i64) g15.1 g15.2.1 g15.2.2 x36.2]) ?_ (fun g46 => ?_)
                      · clear h
                        have h := hx42
                        clear hx42
                        refine Tr.region ?_
                        refine RegL.pure (p := (pSl 1 (cK .i64) x41.1)) rfl rfl rfl (J_move rfl (Opd.tmp rfl)) ?_
                        refine RegL.pure (p := (pSl 1 (cK .i64) x4.1)) rfl rfl rfl (J_move rfl (Opd.tmp rfl)) ?_
                        replace h := bind_some h; obtain ⟨x43, hx43, h⟩ := h
                        refine RegL.pure (p := (pEq (.bool x43))) rfl rfl rfl (J_call rfl Try.call17 (c_laws_eqInt64S hx43) (Opds.cons (Opd.tmp rfl) (Opds.cons (Opd.tmp rfl) Opds.nil))) ?_
                        refine RegL.pure (p := (pEq (.bool (!x43)))) rfl rfl rfl (J_not rfl (Opd.tmp rfl)) ?_
                        refine RegL.pure (p := (pEq (.bool (!x43)))) rfl rfl rfl (J_move rfl (Opd.tmp rfl)) ?_
                        rcases Bool.eq_false_or_eq_true (!x43) with hc44 | hc44
                        · replace h := bif_t hc44 h
                          refine RegL.skipG rfl rfl rfl hc44 rfl rfl ?_
                          refine RegL.skipG rfl rfl rfl hc44 rfl rfl ?_
                          refine RegL.skipG rfl rfl rfl hc44 rfl rfl ?_
                          refine RegL.pure (p := (pEq (.bool true))) rfl rfl rfl (J_pick rfl (Opd.tmp rfl) (fun _ => Opd.con) (fun hf => absurd (hc44.symm.trans hf) (by decide))) ?_
                          refine RegL.pure (p := (pEq (.bool true))) rfl rfl rfl (J_move rfl (Opd.tmp rfl)) ?_
                          refine RegL.skipG rfl rfl rfl rfl rfl rfl ?_
                          refine RegL.skipG rfl rfl rfl rfl rfl rfl ?_
                          refine RegL.skipG rfl rfl rfl rfl rfl rfl ?_
                          refine RegL.pure (p := (pEq (.bool true))) rfl rfl rfl (J_pick rfl (Opd.tmp rfl) (fun _ => Opd.con) (fun hf => absurd hf (by decide))) ?_
                          refine RegL.nil ?_
                          replace h := Option.some.inj h; subst h
                          exact Ct.mid () rfl ⟨rfl, rfl, rfl, trivial⟩
                        · replace h := bif_f hc44 h
                          refine RegL.pureG (p := (pEq (.int .i64 x41.2.1))) rfl rfl rfl hc44 rfl rfl (J_move rfl (Opd.tmp rfl)) ?_
                          refine RegL.pureG (p := (pEq (.int .i64 x4.2.1))) rfl rfl rfl hc44 rfl rfl (J_move rfl (Opd.tmp rfl)) ?_
                          refine RegL.pureG (p := (pEq (.bool (x41.2.1 != x4.2.1)))) rfl rfl rfl hc44 rfl rfl (J_bin rfl (Opd.tmp rfl) (Opd.tmp rfl) B_neq) ?_
                          refine RegL.pure (p := (pEq (.bool (x41.2.1 != x4.2.1)))) rfl rfl rfl (J_pick rfl (Opd.tmp rfl) (fun hf => absurd (hc44.symm.trans hf) (by decide)) (fun _ => (Opd.tmp rfl))) ?_
                          refine RegL.pure (p := (pEq (.bool (x41.2.1 != x4.2.1)))) rfl rfl rfl (J_move rfl (Opd.tmp rfl)) ?_
                          rcases Bool.eq_false_or_eq_true (x41.2.1 != x4.2.1) with hc45 | hc45
                          · replace h := bif_t hc45 h
                            refine RegL.skipG rfl rfl rfl hc45 rfl rfl ?_
                            refine RegL.skipG rfl rfl rfl hc45 rfl rfl ?_
                            refine RegL.skipG rfl rfl rfl hc45 rfl rfl ?_
                            refine RegL.pure (p := (pEq (.bool true))) rfl rfl rfl (J_pick rfl (Opd.tmp rfl) (fun _ => Opd.con) (fun hf => absurd (hc45.symm.trans hf) (by decide))) ?_
                            refine RegL.nil ?_
                            replace h := Option.some.inj h; subst h
                            exact Ct.mid () rfl ⟨rfl, rfl, rfl, trivial⟩
                          · replace h := bif_f hc45 h
                            refine RegL.pureG (p := (pEq (.int .i64 x41.2.2))) rfl rfl rfl hc45 rfl rfl (J_move rfl (Opd.tmp rfl)) ?_
                            refine RegL.pureG (p := (pEq (.int .i64 x4.2.2))) rfl rfl rfl hc45 rfl rfl (J_move rfl (Opd.tmp rfl)) ?_
                            refine RegL.pureG (p := (pEq (.bool (x41.2.2 != x4.2.2)))) rfl rfl rfl hc45 rfl rfl (J_bin rfl (Opd.tmp rfl) (Opd.tmp rfl) B_neq) ?_
                            refine RegL.pure (p := (pEq (.bool (x41.2.2 != x4.2.2)))) rfl rfl rfl (J_pick rfl (Opd.tmp rfl) (fun hf => absurd (hc45.symm.trans hf) (by decide)) (fun _ => (Opd.tmp rfl))) ?_
                            refine RegL.nil ?_
                            replace h := Option.some.inj h; subst h
                            exact Ct.mid () rfl ⟨rfl, rfl, rfl, trivial⟩
                      · clear hx42
                        refine Ct.then_tr ?_
                        refine Tr.weak (Γ' := [(13, (pEq (.slice g15.1 g15.2.1 g15.2.2))), (17, (pEq (.int .i64 x36.1))), (134, (pEq (.bool x42)))]) ⟨rfl, rfl, rfl, trivial⟩ ?_
                        refine Tr.cond (Opd.tmp rfl) (fun hc => ?_) (fun hc => ?_)
                        · replace h := bif_t hc h
                          refine Tr.seq ?_
                          refine Tr.region ?_
                          refine RegL.pure (p := (pEq (.bool false))) rfl rfl rfl (J_assign rfl Opd.con) ?_
                          refine RegL.nil ?_
                          refine Ct.then_tr ?_
                          refine Tr.weak (Γ' := [(6, (pEq (.bool false)))]) ⟨rfl, trivial⟩ ?_
                          refine Tr.ret ?_
                          refine Ct.then_ret ?_
                          replace h := Option.some.inj h; subst h
                          exact Ct.retH1 (Ωx := [oSl 2 1 (cK .i64) g15.1 g15.2.1 g15.2.2 x36.2]) () rfl (RvOk.tmp rfl) rfl
                        · replace h := bif_f hc h
                          refine Tr.skip ?_
                          refine Ct.then_tr ?_
                          refine Tr.weak (Γ' := [(13, (pEq (.slice g15.1 g15.2.1 g15.2.2))), (17, (pEq (.int .i64 x36.1)))]) ⟨rfl, rfl, trivial⟩ ?_
                          refine Tr.seq ?_
                          refine Tr.region ?_
                          refine RegL.pure (p := (pEq (.int .i64 (1 : Int)))) rfl rfl rfl (J_assign rfl Opd.con) ?_
                          refine RegL.nil ?_
                          refine Ct.then_tr ?_
                          refine Tr.weak (Γ' := [(13, (pEq (.slice g15.1 g15.2.1 g15.2.2))), (17, (pEq (.int .i64 x36.1))), (18, (pEq (.int .i64 (1 : Int))))]) ⟨rfl, rfl, rfl, trivial⟩ ?_
                          refine Tr.seq ?_
                          refine Tr.region ?_
                          refine RegL.pure (p := (pEq (.slice g15.1 g15.2.1 g15.2.2))) rfl rfl rfl (J_move rfl (Opd.tmp rfl)) ?_
                          refine RegL.pure (p := (pEq (.int .i64 (1 : Int)))) rfl rfl rfl (J_move rfl (Opd.tmp rfl)) ?_
                          replace h := bind_some h; obtain ⟨x47, hx47, h⟩ := h
                          refine RegL.pureW (p := (pEq (.int .i64 x47))) rfl rfl rfl (W_call rfl Try.call21 (c_laws_heldInt64S hx47) (OpdsA.cons (OpdA.conv rfl (Conv.row 0 (fun _ => rfl) rfl)) (OpdsA.cons (OpdA.of (Opd.tmp rfl)) OpdsA.nil)) FreeP.eq) ?_
                          refine RegL.pure (p := (pEq (.int .i64 x47))) rfl rfl rfl (J_assign rfl (Opd.tmp rfl)) ?_
                          refine RegL.nil ?_
                          refine Ct.then_tr ?_
                          refine Tr.weak (Γ' := [(17, (pEq (.int .i64 x36.1))), (18, (pEq (.int .i64 x47)))]) ⟨rfl, rfl, trivial⟩ ?_
                          refine Tr.seq ?_
                          refine Tr.seq ?_
                          refine Tr.region ?_
                          refine RegL.pure (p := (pEq (.int .i64 x47))) rfl rfl rfl (J_move rfl (Opd.tmp rfl)) ?_
                          refine RegL.pure (p := (pEq (.bool (decide (x47 < (0 : Int)))))) rfl rfl rfl (J_bin rfl (Opd.tmp rfl) Opd.con B_lss) ?_
                          refine RegL.nil ?_
                          refine Ct.then_tr ?_
                          refine Tr.weak (Γ' := [(17, (pEq (.int .i64 x36.1))), (18, (pEq (.int .i64 x47))), (139, (pEq (.bool (decide (x47 < (0 : Int))))))]) ⟨rfl, rfl, rfl, trivial⟩ ?_
                          refine Tr.cond (Opd.tmp rfl) (fun hc => ?_) (fun hc => ?_)
                          · replace h := bif_t hc h
                            refine Tr.seq ?_
                            refine Tr.region ?_
                            refine RegL.pure (p := (pEq (.bool false))) rfl rfl rfl (J_assign rfl Opd.con) ?_
                            refine RegL.nil ?_
                            refine Ct.then_tr ?_
                            refine Tr.weak (Γ' := [(6, (pEq (.bool false)))]) ⟨rfl, trivial⟩ ?_
                            refine Tr.ret ?_
                            refine Ct.then_ret ?_
                            replace h := Option.some.inj h; subst h
                            exact Ct.retH1 (Ωx := [oSl 2 1 (cK .i64) g15.1 g15.2.1 g15.2.2 x36.2]) () rfl (RvOk.tmp rfl) rfl
                          · replace h := bif_f hc h
                            refine Tr.skip ?_
                            refine Ct.then_tr ?_
                            refine Tr.weak (Γ' := [(17, (pEq (.int .i64 x36.1))), (18, (pEq (.int .i64 x47)))]) ⟨rfl, rfl, trivial⟩ ?_
                            refine Tr.seq ?_
                            refine Tr.seq ?_
                            refine Tr.region ?_
                            refine RegL.pure (p := (pEq (.int .i64 x47))) rfl rfl rfl (J_move rfl (Opd.tmp rfl)) ?_
                            refine RegL.pure (p := (pEq (.int .i64 x36.1))) rfl rfl rfl (J_move rfl (Opd.tmp rfl)) ?_
                            refine RegL.pure (p := (pEq (.bool (x47 != x36.1)))) rfl rfl rfl (J_bin rfl (Opd.tmp rfl) (Opd.tmp rfl) B_neq) ?_
                            refine RegL.nil ?_
                            refine Ct.then_tr ?_
                            refine Tr.weak (Γ' := [(142, (pEq (.bool (x47 != x36.1))))]) ⟨rfl, trivial⟩ ?_
                            refine Tr.cond (Opd.tmp rfl) (fun hc => ?_) (fun hc => ?_)
                            · replace h := bif_t hc h
                              refine Tr.seq ?_
                              refine Tr.region ?_
                              refine RegL.pure (p := (pEq (.bool false))) rfl rfl rfl (J_assign rfl Opd.con) ?_
                              refine RegL.nil ?_
                              refine Ct.then_tr ?_
                              refine Tr.weak (Γ' := [(6, (pEq (.bool false)))]) ⟨rfl, trivial⟩ ?_
                              refine Tr.ret ?_
                              refine Ct.then_ret ?_
                              replace h := Option.some.inj h; subst h
                              exact Ct.retH1 (Ωx := [oSl 2 1 (cK .i64) g15.1 g15.2.1 g15.2.2 x36.2]) () rfl (RvOk.tmp rfl) rfl
                            · replace h := bif_f hc h
                              refine Tr.skip ?_
                              refine Ct.then_tr ?_
                              refine Tr.weak (Γ' := []) trivial ?_
                              refine Tr.seq ?_
                              refine Tr.region ?_
                              refine RegL.pure (p := (pEq (.bool true))) rfl rfl rfl (J_assign rfl Opd.con) ?_
                              refine RegL.nil ?_
                              refine Ct.then_tr ?_
                              refine Tr.weak (Γ' := [(6, (pEq (.bool true)))]) ⟨rfl, trivial⟩ ?_
                              refine Tr.ret ?_
                              replace h := Option.some.inj h; subst h
                              exact Ct.retH1 (Ωx := [oSl 2 1 (cK .i64) g15.1 g15.2.1 g15.2.2 x36.2]) () rfl (RvOk.tmp rfl) rfl

end Go.Proofs.Ytcofngddgljhdaa.fnExactRepairGreedyW
