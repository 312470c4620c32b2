/-
  The walks that the law FnExactGreedyAssign reaches: each function computes its model. Printed by our own program.
-/
import Derived.Test.YtfadnbelnfofbaaProg
import Derived.Test.YtfadnbelnfofbaaMod
import Derived.Test.YtfadnbelnfofbaaZero
import Derived.KernelRfl
import Derived.Test.YtfadnbelnfofbaaWkGreedyAssignb
namespace Go.Proofs.Ytfadnbelnfofbaa.fnExactGreedyAssignW
open Go Go.RowKit Go.Wk
set_option linter.unusedVariables false
set_option maxRecDepth 100000


theorem c_laws_FnExactGreedyAssign {a_0 : GProblem} {a_1 : (List Int)} {r : Bool} (h : m_laws_FnExactGreedyAssign a_0 a_1 = some r) : CallJ Try.prog 4 [(pAgg (cGProblem a_0)), (pSl 1 (cK .i64) a_1)] (pEq (.bool r)) := by
  unfold m_laws_FnExactGreedyAssign at h
  refine CallJ.enterH Try.func4 rfl Try.ntmps4 rfl fun W I0 H => ?_
  refine Tr.weak (Γ' := [(0, (pAgg (cGProblem a_0))), (1, (pSl 1 (cK .i64) a_1))]) ⟨rfl, rfl, trivial⟩ ?_
  refine Tr.seq ?_
  refine Tr.region ?_
  refine RegL.pure (p := (pPtr (cGProblem a_0))) rfl rfl rfl (J_boxA rfl (Opd.tmp rfl)) ?_
  refine RegL.pure (p := (pEq (.bool false))) rfl rfl rfl (J_assign rfl Opd.con) ?_
  refine RegL.nil ?_
  refine Ct.then_tr ?_
  refine Tr.weak (Γ' := [(1, (pSl 1 (cK .i64) a_1)), (2, (pPtr (cGProblem a_0)))]) ⟨rfl, rfl, trivial⟩ ?_
  refine Tr.seq ?_
  refine Tr.seq ?_
  refine Tr.region ?_
  refine RegL.pure (p := (pSl 1 (cK .i64) a_1)) rfl rfl rfl (J_move rfl (Opd.tmp rfl)) ?_
  refine RegL.pure (p := (pEq (.int .i64 (a_1.length : Int)))) rfl rfl rfl (J_len rfl Try.underlying26 (Opd.tmp rfl) rfl) ?_
  refine RegL.pure (p := (pEq (.bool (decide ((1048576 : Int) < (a_1.length : Int)))))) rfl rfl rfl (J_bin rfl (Opd.tmp rfl) Opd.con B_gtr) ?_
  refine RegL.nil ?_
  refine Ct.then_tr ?_
  refine Tr.weak (Γ' := [(1, (pSl 1 (cK .i64) a_1)), (2, (pPtr (cGProblem a_0))), (19, (pEq (.bool (decide ((1048576 : Int) < (a_1.length : Int))))))]) ⟨rfl, rfl, rfl, trivial⟩ ?_
  refine Tr.cond (Opd.tmp rfl) (fun hc => ?_) (fun hc => ?_)
  · replace h := bif_t hc h
    refine Tr.seq ?_
    refine Tr.region ?_
    refine RegL.pure (p := (pEq (.bool true))) rfl rfl rfl (J_assign rfl Opd.con) ?_
    refine RegL.nil ?_
    refine Ct.then_tr ?_
    refine Tr.weak (Γ' := [(4, (pEq (.bool true)))]) ⟨rfl, trivial⟩ ?_
    refine Tr.ret ?_
    refine Ct.then_ret ?_
    replace h := Option.some.inj h; subst h
    exact Ct.retH1 (Ωx := []) () rfl (RvOk.tmp rfl) rfl
  · replace h := bif_f hc h
    refine Tr.skip ?_
    refine Ct.then_tr ?_
    refine Tr.weak (Γ' := [(1, (pSl 1 (cK .i64) a_1)), (2, (pPtr (cGProblem a_0)))]) ⟨rfl, rfl, trivial⟩ ?_
    refine Tr.seq ?_
    refine Tr.region ?_
    refine RegL.pure (p := (pEq (.int .i64 (1048576 : Int)))) rfl rfl rfl (J_assign rfl Opd.con) ?_
    refine RegL.nil ?_
    refine Ct.then_tr ?_
    refine Tr.weak (Γ' := [(1, (pSl 1 (cK .i64) a_1)), (2, (pPtr (cGProblem a_0))), (5, (pEq (.int .i64 (1048576 : Int))))]) ⟨rfl, rfl, rfl, trivial⟩ ?_
    refine Tr.seq ?_
    refine Tr.region ?_
    refine RegL.pure (p := (pAgg (cGProblem a_0))) rfl rfl rfl (J_loadA rfl Try.isAgg24 sz24 (Opd.tmp rfl) rfl) ?_
    refine RegL.pure (p := (pEq (.int .i64 (1048576 : Int)))) rfl rfl rfl (J_move rfl (Opd.tmp rfl)) ?_
    replace h := bind_some h; obtain ⟨x1, hx1, h⟩ := h
    refine RegL.pure (p := (pEq (.int .i64 x1))) rfl rfl rfl (J_call rfl Try.call8 (c_laws_szProblem hx1) (Opds.cons (Opd.tmp rfl) (Opds.cons (Opd.tmp rfl) Opds.nil))) ?_
    refine RegL.pure (p := (pEq (.int .i64 x1))) rfl rfl rfl (J_assign rfl (Opd.tmp rfl)) ?_
    refine RegL.nil ?_
    refine Ct.then_tr ?_
    refine Tr.weak (Γ' := [(1, (pSl 1 (cK .i64) a_1)), (2, (pPtr (cGProblem a_0))), (5, (pEq (.int .i64 x1)))]) ⟨rfl, rfl, rfl, trivial⟩ ?_
    refine Tr.seq ?_
    refine Tr.seq ?_
    refine Tr.region ?_
    refine RegL.pure (p := (pEq (.int .i64 x1))) rfl rfl rfl (J_move rfl (Opd.tmp rfl)) ?_
    refine RegL.pure (p := (pEq (.bool (decide (x1 < (0 : Int)))))) rfl rfl rfl (J_bin rfl (Opd.tmp rfl) Opd.con B_lss) ?_
    refine RegL.nil ?_
    refine Ct.then_tr ?_
    refine Tr.weak (Γ' := [(1, (pSl 1 (cK .i64) a_1)), (2, (pPtr (cGProblem a_0))), (24, (pEq (.bool (decide (x1 < (0 : Int))))))]) ⟨rfl, rfl, rfl, trivial⟩ ?_
    refine Tr.cond (Opd.tmp rfl) (fun hc => ?_) (fun hc => ?_)
    · replace h := bif_t hc h
      refine Tr.seq ?_
      refine Tr.region ?_
      refine RegL.pure (p := (pEq (.bool true))) rfl rfl rfl (J_assign rfl Opd.con) ?_
      refine RegL.nil ?_
      refine Ct.then_tr ?_
      refine Tr.weak (Γ' := [(4, (pEq (.bool true)))]) ⟨rfl, trivial⟩ ?_
      refine Tr.ret ?_
      refine Ct.then_ret ?_
      replace h := Option.some.inj h; subst h
      exact Ct.retH1 (Ωx := []) () rfl (RvOk.tmp rfl) rfl
    · replace h := bif_f hc h
      refine Tr.skip ?_
      refine Ct.then_tr ?_
      refine Tr.weak (Γ' := [(1, (pSl 1 (cK .i64) a_1)), (2, (pPtr (cGProblem a_0)))]) ⟨rfl, rfl, trivial⟩ ?_
      refine Tr.seq ?_
      refine Tr.region ?_
      refine RegL.pure (p := (pAgg (cGProblem a_0))) rfl rfl rfl (J_loadA rfl Try.isAgg24 sz24 (Opd.tmp rfl) rfl) ?_
      replace h := bind_some h; obtain ⟨x2, hx2, h⟩ := h
      refine RegL.pure (p := (pAgg (cGProblem x2))) rfl rfl rfl (J_call rfl Try.call10 (c_laws_toProblem hx2) (Opds.cons (Opd.tmp rfl) Opds.nil)) ?_
      refine RegL.pure (p := (pSl 1 (cK .i64) a_1)) rfl rfl rfl (J_move rfl (Opd.tmp rfl)) ?_
      replace h := bind_some h; obtain ⟨x3, hx3, h⟩ := h
      refine RegL.pure (p := (pSl 1 (cK .i64) x3)) rfl rfl rfl (J_call rfl Try.call18 (c_laws_toInt64S hx3) (Opds.cons (Opd.tmp rfl) Opds.nil)) ?_
      replace h := bind_some h; obtain ⟨x4, hx4, h⟩ := h
      refine RegL.pure (p := (pTup [(pSl 1 (cK .i64) x4.1), (pEq (.int .i64 x4.2))])) rfl rfl rfl (J_call rfl Try.call17 (c_spec_GreedyAssign hx4) (Opds.cons (Opd.tmp rfl) (Opds.cons (Opd.tmp rfl) Opds.nil))) ?_
      refine RegL.pure (p := (pTup [(pSl 1 (cK .i64) x4.1), (pEq (.int .i64 x4.2))])) rfl rfl rfl (J_move rfl (Opd.tmp rfl)) ?_
      refine RegL.pure (p := (pSl 1 (cK .i64) x4.1)) rfl rfl rfl (J_extract rfl (Opd.tmp rfl) rfl) ?_
      refine RegL.pure (p := (pEq (.int .i64 x4.2))) rfl rfl rfl (J_extract rfl (Opd.tmp rfl) rfl) ?_
      refine RegL.pure (p := (pSl 1 (cK .i64) x4.1)) rfl rfl rfl (J_assign rfl (Opd.tmp rfl)) ?_
      refine RegL.pure (p := (pEq (.int .i64 x4.2))) rfl rfl rfl (J_assign rfl (Opd.tmp rfl)) ?_
      refine RegL.nil ?_
      refine Ct.then_tr ?_
      refine Tr.weak (Γ' := [(1, (pSl 1 (cK .i64) a_1)), (2, (pPtr (cGProblem a_0))), (6, (pSl 1 (cK .i64) x4.1)), (7, (pEq (.int .i64 x4.2)))]) ⟨rfl, rfl, rfl, rfl, trivial⟩ ?_
      refine Tr.seq ?_
      refine Tr.region ?_
      refine RegL.pure (p := (pAgg (cGProblem a_0))) rfl rfl rfl (J_loadA rfl Try.isAgg24 sz24 (Opd.tmp rfl) rfl) ?_
      replace h := bind_some h; obtain ⟨x5, hx5, h⟩ := h
      refine RegL.step (γ := ((G3 × List G3) × (G3 × List G3))) (p := fun g => (pAgg [(pEq (.slice g.1.1.1 g.1.1.2.1 g.1.1.2.2)), (pEq (.slice g.2.1.1 g.2.1.2.1 g.2.1.2.2))])) (Ω' := fun g => [oSS 26 2 1 (cK .i64) g.1.1.1 g.1.1.2.1 g.1.1.2.2 g.1.2 x5.Domains, oSS 26 2 1 (cK .i64) g.2.1.1 g.2.1.2.1 g.2.1.2.2 g.2.2 x5.Apart]) rfl rfl rfl (M_callH (Ωi := []) rfl Try.call10 (o_laws_toProblem hx5) (Opds.cons (Opd.tmp rfl) Opds.nil)) fun g6 => ?_
      refine RegL.step (γ := Nat) (p := fun b => pEq (.pointer (some ⟨b, 0, none⟩))) (Ω' := fun b => [oBlk b [(pEq (.slice none 0 0)), (pEq (.slice none 0 0))], oSS 26 2 1 (cK .i64) g6.1.1.1 g6.1.1.2.1 g6.1.1.2.2 g6.1.2 x5.Domains, oSS 26 2 1 (cK .i64) g6.2.1.1 g6.2.1.2.1 g6.2.1.2.2 g6.2.2 x5.Apart]) rfl rfl rfl (M_alloc rfl zero29) fun b9 => ?_
      refine RegL.stepN (γ := Unit) (p := fun _ => pAny) (Ω' := fun _ => [oBlk b9 [(pEq (.slice g6.1.1.1 g6.1.1.2.1 g6.1.1.2.2)), (pEq (.slice g6.2.1.1 g6.2.1.2.1 g6.2.1.2.2))], oSS 26 2 1 (cK .i64) g6.1.1.1 g6.1.1.2.1 g6.1.1.2.2 g6.1.2 x5.Domains, oSS 26 2 1 (cK .i64) g6.2.1.1 g6.2.1.2.1 g6.2.1.2.2 g6.2.2 x5.Apart]) rfl rfl (M_storeA rfl sz29 (Opd.tmp rfl) (Opd.tmp rfl) (fun _ _ _ h => ones_of ((OneCs.cons OneC.slice (OneCs.cons OneC.slice OneCs.nil))) h) rfl rfl) fun g10 => ?_
      refine RegL.nil ?_
      refine Ct.then_tr ?_
      refine Tr.weak (Γ' := [(1, (pSl 1 (cK .i64) a_1)), (2, (pPtr (cGProblem a_0))), (6, (pSl 1 (cK .i64) x4.1)), (7, (pEq (.int .i64 x4.2))), (8, (pEq (.pointer (some ⟨b9, 0, none⟩))))]) ⟨rfl, rfl, rfl, rfl, rfl, trivial⟩ ?_
      refine Tr.seq ?_
      refine Tr.region ?_
      refine RegL.pure (p := (pSl 1 (cK .i64) a_1)) rfl rfl rfl (J_move rfl (Opd.tmp rfl)) ?_
      replace h := bind_some h; obtain ⟨x11, hx11, h⟩ := h
      refine RegL.step (γ := G3) (p := fun g => (pEq (.slice g.1 g.2.1 g.2.2))) (Ω' := fun g => [oSl 2 1 (cK .i64) g.1 g.2.1 g.2.2 x11, oBlk b9 [(pEq (.slice g6.1.1.1 g6.1.1.2.1 g6.1.1.2.2)), (pEq (.slice g6.2.1.1 g6.2.1.2.1 g6.2.1.2.2))], oSS 26 2 1 (cK .i64) g6.1.1.1 g6.1.1.2.1 g6.1.1.2.2 g6.1.2 x5.Domains, oSS 26 2 1 (cK .i64) g6.2.1.1 g6.2.1.2.1 g6.2.1.2.2 g6.2.2 x5.Apart]) rfl rfl rfl (M_callH (Ωi := []) rfl Try.call18 (o_laws_toInt64S hx11) (Opds.cons (Opd.tmp rfl) Opds.nil)) fun g12 => ?_
      refine RegL.pure (p := (pEq (.slice g12.1 g12.2.1 g12.2.2))) rfl rfl rfl (J_assign rfl (Opd.tmp rfl)) ?_
      refine RegL.nil ?_
      refine Ct.then_tr ?_
      refine Tr.weak (Γ' := [(1, (pSl 1 (cK .i64) a_1)), (2, (pPtr (cGProblem a_0))), (6, (pSl 1 (cK .i64) x4.1)), (7, (pEq (.int .i64 x4.2))), (8, (pEq (.pointer (some ⟨b9, 0, none⟩)))), (9, (pEq (.slice g12.1 g12.2.1 g12.2.2)))]) ⟨rfl, rfl, rfl, rfl, rfl, rfl, trivial⟩ ?_
      refine Tr.seq ?_
      refine Tr.region ?_
      refine RegL.pureW (p := (pAgg [(pEq (.slice g6.1.1.1 g6.1.1.2.1 g6.1.1.2.2)), (pEq (.slice g6.2.1.1 g6.2.1.2.1 g6.2.1.2.2))])) rfl rfl rfl (W_loadA (i := 1) rfl Try.isAgg29 sz29 (Opd.tmp rfl) rfl rfl) ?_
      refine RegL.pure (p := (pEq (.slice g12.1 g12.2.1 g12.2.2))) rfl rfl rfl (J_move rfl (Opd.tmp rfl)) ?_
      replace h := bind_some h; obtain ⟨x14, hx14, h⟩ := h
      refine RegL.step (γ := G3) (p := fun g => (pTup [(pEq (.slice g.1 g.2.1 g.2.2)), (pEq (.int .i64 x14.2))])) (Ω' := fun g => [oSl 2 1 (cK .i64) g.1 g.2.1 g.2.2 x14.1, oSl 2 1 (cK .i64) g12.1 g12.2.1 g12.2.2 x11, oBlk b9 [(pEq (.slice g6.1.1.1 g6.1.1.2.1 g6.1.1.2.2)), (pEq (.slice g6.2.1.1 g6.2.1.2.1 g6.2.1.2.2))], oSS 26 2 1 (cK .i64) g6.1.1.1 g6.1.1.2.1 g6.1.1.2.2 g6.1.2 x5.Domains, oSS 26 2 1 (cK .i64) g6.2.1.1 g6.2.1.2.1 g6.2.1.2.2 g6.2.2 x5.Apart]) rfl rfl rfl (M_callHB (Ωi := []) rfl Try.call19 (o_impl_GreedyAssign hx14) (OpdsA.cons (OpdA.conv rfl (Conv.agg (Convs.cons (Conv.nest 2 (fun _ => rfl) rfl) (Convs.cons (Conv.nest 3 (fun _ => rfl) rfl) Convs.nil)))) (OpdsA.cons (OpdA.conv rfl (Conv.row (f := (cK .i64)) 0 (fun _ => rfl) rfl)) OpdsA.nil)) (fun _ => (FreeP.tup ⟨FreeP.eq, ⟨FreeP.eq, trivial⟩⟩)) (fun _ => ⟨(FreeO.sl (fun _ => ⟨FreeP.eq, trivial⟩)), trivial⟩)) fun g15 => ?_
      refine RegL.pure (p := (pTup [(pEq (.slice g15.1 g15.2.1 g15.2.2)), (pEq (.int .i64 x14.2))])) rfl rfl rfl (J_move rfl (Opd.tmp rfl)) ?_
      refine RegL.pure (p := (pEq (.slice g15.1 g15.2.1 g15.2.2))) rfl rfl rfl (J_extract rfl (Opd.tmp rfl) rfl) ?_
      refine RegL.pure (p := (pEq (.int .i64 x14.2))) rfl rfl rfl (J_extract rfl (Opd.tmp rfl) rfl) ?_
      refine RegL.pure (p := (pEq (.slice g15.1 g15.2.1 g15.2.2))) rfl rfl rfl (J_assign rfl (Opd.tmp rfl)) ?_
      refine RegL.pure (p := (pEq (.int .i64 x14.2))) rfl rfl rfl (J_assign rfl (Opd.tmp rfl)) ?_
      refine RegL.nil ?_
      refine Ct.then_tr ?_
      refine Tr.weak (Γ' := [(1, (pSl 1 (cK .i64) a_1)), (2, (pPtr (cGProblem a_0))), (6, (pSl 1 (cK .i64) x4.1)), (7, (pEq (.int .i64 x4.2))), (8, (pEq (.pointer (some ⟨b9, 0, none⟩)))), (9, (pEq (.slice g12.1 g12.2.1 g12.2.2))), (10, (pEq (.slice g15.1 g15.2.1 g15.2.2))), (11, (pEq (.int .i64 x14.2)))]) ⟨rfl, rfl, rfl, rfl, rfl, rfl, rfl, rfl, trivial⟩ ?_
      refine Tr.seq ?_
      refine Tr.seq ?_
      replace h := bind_some h; obtain ⟨x17, hx17, h⟩ := h
      refine Tr.cut (γ := Unit) (Γm := fun g => [(1, (pSl 1 (cK .i64) a_1)), (2, (pPtr (cGProblem a_0))), (6, (pSl 1 (cK .i64) x4.1)), (7, (pEq (.int .i64 x4.2))), (8, (pEq (.pointer (some ⟨b9, 0, none⟩)))), (9, (pEq (.slice g12.1 g12.2.1 g12.2.2))), (10, (pEq (.slice g15.1 g15.2.1 g15.2.2))), (11, (pEq (.int .i64 x14.2))), (51, (pEq (.bool x17)))]) (Ωm := fun g => [oSl 2 1 (cK .i64) g15.1 g15.2.1 g15.2.2 x14.1, oSl 2 1 (cK .i64) g12.1 g12.2.1 g12.2.2 x11, oBlk b9 [(pEq (.slice g6.1.1.1 g6.1.1.2.1 g6.1.1.2.2)), (pEq (.slice g6.2.1.1 g6.2.1.2.1 g6.2.1.2.2))], oSS 26 2 1 (cK .i64) g6.1.1.1 g6.1.1.2.1 g6.1.1.2.2 g6.1.2 x5.Domains, oSS 26 2 1 (cK .i64) g6.2.1.1 g6.2.1.2.1 g6.2.1.2.2 g6.2.2 x5.Apart]) ?_ (fun g20 => ?_)
      · clear h
        have h := hx17
        clear hx17
        refine Tr.region ?_
        refine RegL.pure (p := (pEq (.slice g15.1 g15.2.1 g15.2.2))) rfl rfl rfl (J_move rfl (Opd.tmp rfl)) ?_
        refine RegL.pure (p := (pSl 1 (cK .i64) x4.1)) rfl rfl rfl (J_move rfl (Opd.tmp rfl)) ?_
        replace h := bind_some h; obtain ⟨x18, hx18, h⟩ := h
        refine RegL.pureW (p := (pEq (.bool x18))) rfl rfl rfl (W_call rfl Try.call12 (c_laws_eqInt64S hx18) (OpdsA.cons (OpdA.conv rfl (Conv.row (f := (cK .i64)) 0 (fun _ => rfl) rfl)) (OpdsA.cons (OpdA.of (Opd.tmp rfl)) OpdsA.nil)) FreeP.eq) ?_
        refine RegL.pure (p := (pEq (.bool (!x18)))) rfl rfl rfl (J_not rfl (Opd.tmp rfl)) ?_
        refine RegL.pure (p := (pEq (.bool (!x18)))) rfl rfl rfl (J_move rfl (Opd.tmp rfl)) ?_
        rcases Bool.eq_false_or_eq_true (!x18) with hc19 | hc19
        · replace h := bif_t hc19 h
          refine RegL.skipG rfl rfl rfl hc19 rfl rfl ?_
          refine RegL.skipG rfl rfl rfl hc19 rfl rfl ?_
          refine RegL.skipG rfl rfl rfl hc19 rfl rfl ?_
          refine RegL.pure (p := (pEq (.bool true))) rfl rfl rfl (J_pick rfl (Opd.tmp rfl) (fun _ => Opd.con) (fun hf => absurd (hc19.symm.trans hf) (by decide))) ?_
          refine RegL.nil ?_
          replace h := Option.some.inj h; subst h
          exact Ct.mid () rfl ⟨rfl, rfl, rfl, rfl, rfl, rfl, rfl, rfl, rfl, trivial⟩
        · replace h := bif_f hc19 h
          refine RegL.pureG (p := (pEq (.int .i64 x14.2))) rfl rfl rfl hc19 rfl rfl (J_move rfl (Opd.tmp rfl)) ?_
          refine RegL.pureG (p := (pEq (.int .i64 x4.2))) rfl rfl rfl hc19 rfl rfl (J_move rfl (Opd.tmp rfl)) ?_
          refine RegL.pureG (p := (pEq (.bool (x14.2 != x4.2)))) rfl rfl rfl hc19 rfl rfl (J_bin rfl (Opd.tmp rfl) (Opd.tmp rfl) B_neq) ?_
          refine RegL.pure (p := (pEq (.bool (x14.2 != x4.2)))) rfl rfl rfl (J_pick rfl (Opd.tmp rfl) (fun hf => absurd (hc19.symm.trans hf) (by decide)) (fun _ => (Opd.tmp rfl))) ?_
          refine RegL.nil ?_
          replace h := Option.some.inj h; subst h
          exact Ct.mid () rfl ⟨rfl, rfl, rfl, rfl, rfl, rfl, rfl, rfl, rfl, trivial⟩
      · clear hx17
        refine Ct.then_tr ?_
        refine Tr.weak (Γ' := [(1, (pSl 1 (cK .i64) a_1)), (2, (pPtr (cGProblem a_0))), (6, (pSl 1 (cK .i64) x4.1)), (7, (pEq (.int .i64 x4.2))), (8, (pEq (.pointer (some ⟨b9, 0, none⟩)))), (9, (pEq (.slice g12.1 g12.2.1 g12.2.2))), (10, (pEq (.slice g15.1 g15.2.1 g15.2.2))), (11, (pEq (.int .i64 x14.2))), (51, (pEq (.bool x17)))]) ⟨rfl, rfl, rfl, rfl, rfl, rfl, rfl, rfl, rfl, trivial⟩ ?_
        refine Tr.cond (Opd.tmp rfl) (fun hc => ?_) (fun hc => ?_)
        · replace h := bif_t hc h
          refine Tr.seq ?_
          refine Tr.region ?_
          refine RegL.pure (p := (pEq (.bool false))) rfl rfl rfl (J_assign rfl Opd.con) ?_
          refine RegL.nil ?_
          refine Ct.then_tr ?_
          refine Tr.weak (Γ' := [(4, (pEq (.bool false)))]) ⟨rfl, trivial⟩ ?_
          refine Tr.ret ?_
          refine Ct.then_ret ?_
          replace h := Option.some.inj h; subst h
          exact Ct.retH1 (Ωx := [oSl 2 1 (cK .i64) g15.1 g15.2.1 g15.2.2 x14.1, oSl 2 1 (cK .i64) g12.1 g12.2.1 g12.2.2 x11, oBlk b9 [(pEq (.slice g6.1.1.1 g6.1.1.2.1 g6.1.1.2.2)), (pEq (.slice g6.2.1.1 g6.2.1.2.1 g6.2.1.2.2))], oSS 26 2 1 (cK .i64) g6.1.1.1 g6.1.1.2.1 g6.1.1.2.2 g6.1.2 x5.Domains, oSS 26 2 1 (cK .i64) g6.2.1.1 g6.2.1.2.1 g6.2.1.2.2 g6.2.2 x5.Apart]) () rfl (RvOk.tmp rfl) rfl
        · replace h := bif_f hc h
          refine Tr.skip ?_
          refine Ct.then_tr ?_
          refine Tr.weak (Γ' := [(1, (pSl 1 (cK .i64) a_1)), (2, (pPtr (cGProblem a_0))), (6, (pSl 1 (cK .i64) x4.1)), (7, (pEq (.int .i64 x4.2))), (8, (pEq (.pointer (some ⟨b9, 0, none⟩)))), (9, (pEq (.slice g12.1 g12.2.1 g12.2.2))), (10, (pEq (.slice g15.1 g15.2.1 g15.2.2))), (11, (pEq (.int .i64 x14.2)))]) ⟨rfl, rfl, rfl, rfl, rfl, rfl, rfl, rfl, trivial⟩ ?_
          refine Tr.seq ?_
          refine Tr.seq ?_
          replace h := bind_some h; obtain ⟨x21, hx21, h⟩ := h
          replace h := bind_some h; obtain ⟨x22, hx22, h⟩ := h
          refine Tr.drawD (n := 117) (m := 5) (es := [some (Ent.mk [(8, (pEq (.pointer (some ⟨b9, 0, none⟩))))] (pAgg [(pEq (.slice g6.1.1.1 g6.1.1.2.1 g6.1.1.2.2)), (pEq (.slice g6.2.1.1 g6.2.1.2.1 g6.2.1.2.2))]) true), some (Ent.mk [(2, (pPtr (cGProblem a_0)))] (pAgg (cGProblem a_0)) true), some (Ent.mk [(53, (pAgg (cGProblem a_0)))] (pAgg (cGProblem x21)) true), some (Ent.mk [(52, (pAgg [(pEq (.slice g6.1.1.1 g6.1.1.2.1 g6.1.1.2.2)), (pEq (.slice g6.2.1.1 g6.2.1.2.1 g6.2.1.2.2))])), (54, (pAgg (cGProblem x21)))] (pEq (.bool x22)) true), some (Ent.mk [(55, (pEq (.bool x22)))] (pEq (.bool (!x22))) true)]) (rd := [[8], [2], [53], [52, 54], [55]]) rfl hmix (by kernel_rfl) fun hD => ?_
          refine RD.fin (es := [Ent.mk [(8, (pEq (.pointer (some ⟨b9, 0, none⟩))))] (pAgg [(pEq (.slice g6.1.1.1 g6.1.1.2.1 g6.1.1.2.2)), (pEq (.slice g6.2.1.1 g6.2.1.2.1 g6.2.1.2.2))]) true, Ent.mk [(2, (pPtr (cGProblem a_0)))] (pAgg (cGProblem a_0)) true, Ent.mk [(53, (pAgg (cGProblem a_0)))] (pAgg (cGProblem x21)) true, Ent.mk [(52, (pAgg [(pEq (.slice g6.1.1.1 g6.1.1.2.1 g6.1.1.2.2)), (pEq (.slice g6.2.1.1 g6.2.1.2.1 g6.2.1.2.2))])), (54, (pAgg (cGProblem x21)))] (pEq (.bool x22)) true, Ent.mk [(55, (pEq (.bool x22)))] (pEq (.bool (!x22))) true]) (done := []) hD ⟨.inr ⟨(W_loadA (i := 2) rfl Try.isAgg29 sz29 (Opd.tmp rfl) rfl rfl), ⟨rfl, trivial⟩, rfl, rfl⟩, ⟨.inr ⟨(OpJ.w (J_loadA rfl Try.isAgg24 sz24 (Opd.tmp rfl) rfl)), ⟨rfl, trivial⟩, rfl, rfl⟩, ⟨.inr ⟨(OpJ.w (J_call rfl Try.call10 (c_laws_toProblem hx21) (Opds.cons (Opd.tmp rfl) Opds.nil))), ⟨rfl, trivial⟩, rfl, rfl⟩, ⟨.inr ⟨(W_call rfl Try.call13 (c_laws_eqProblem hx22) (OpdsA.cons (OpdA.conv rfl (Conv.agg (Convs.cons (Conv.nest 3 (fun _ => rfl) rfl) (Convs.cons (Conv.nest 4 (fun _ => rfl) rfl) Convs.nil)))) (OpdsA.cons (OpdA.of (Opd.tmp rfl)) OpdsA.nil)) FreeP.eq), ⟨rfl, rfl, trivial⟩, rfl, rfl⟩, ⟨.inr ⟨(OpJ.w (J_not rfl (Opd.tmp rfl))), ⟨rfl, trivial⟩, rfl, rfl⟩, trivial⟩⟩⟩⟩⟩ ?_
          refine RegL.nil ?_
          refine Ct.then_tr ?_
          refine Tr.weak (Γ' := [(1, (pSl 1 (cK .i64) a_1)), (2, (pPtr (cGProblem a_0))), (6, (pSl 1 (cK .i64) x4.1)), (7, (pEq (.int .i64 x4.2))), (8, (pEq (.pointer (some ⟨b9, 0, none⟩)))), (9, (pEq (.slice g12.1 g12.2.1 g12.2.2))), (10, (pEq (.slice g15.1 g15.2.1 g15.2.2))), (11, (pEq (.int .i64 x14.2))), (56, (pEq (.bool (!x22))))]) ⟨rfl, rfl, rfl, rfl, rfl, rfl, rfl, rfl, rfl, trivial⟩ ?_
          refine Tr.cond (Opd.tmp rfl) (fun hc => ?_) (fun hc => ?_)
          · replace h := bif_t hc h
            refine Tr.seq ?_
            refine Tr.region ?_
            refine RegL.pure (p := (pEq (.bool false))) rfl rfl rfl (J_assign rfl Opd.con) ?_
            refine RegL.nil ?_
            refine Ct.then_tr ?_
            refine Tr.weak (Γ' := [(4, (pEq (.bool false)))]) ⟨rfl, trivial⟩ ?_
            refine Tr.ret ?_
            refine Ct.then_ret ?_
            replace h := Option.some.inj h; subst h
            exact Ct.retH1 (Ωx := [oSl 2 1 (cK .i64) g15.1 g15.2.1 g15.2.2 x14.1, oSl 2 1 (cK .i64) g12.1 g12.2.1 g12.2.2 x11, oBlk b9 [(pEq (.slice g6.1.1.1 g6.1.1.2.1 g6.1.1.2.2)), (pEq (.slice g6.2.1.1 g6.2.1.2.1 g6.2.1.2.2))], oSS 26 2 1 (cK .i64) g6.1.1.1 g6.1.1.2.1 g6.1.1.2.2 g6.1.2 x5.Domains, oSS 26 2 1 (cK .i64) g6.2.1.1 g6.2.1.2.1 g6.2.1.2.2 g6.2.2 x5.Apart]) () rfl (RvOk.tmp rfl) rfl
          · replace h := bif_f hc h
            refine Tr.skip ?_
            refine Ct.then_tr ?_
            refine Tr.weak (Γ' := [(1, (pSl 1 (cK .i64) a_1)), (2, (pPtr (cGProblem a_0))), (6, (pSl 1 (cK .i64) x4.1)), (7, (pEq (.int .i64 x4.2))), (8, (pEq (.pointer (some ⟨b9, 0, none⟩)))), (9, (pEq (.slice g12.1 g12.2.1 g12.2.2))), (10, (pEq (.slice g15.1 g15.2.1 g15.2.2))), (11, (pEq (.int .i64 x14.2)))]) ⟨rfl, rfl, rfl, rfl, rfl, rfl, rfl, rfl, trivial⟩ ?_
            refine Tr.seq ?_
            refine Tr.seq ?_
            refine Tr.region ?_
            refine RegL.pure (p := (pEq (.slice g12.1 g12.2.1 g12.2.2))) rfl rfl rfl (J_move rfl (Opd.tmp rfl)) ?_
            refine RegL.pure (p := (pSl 1 (cK .i64) a_1)) rfl rfl rfl (J_move rfl (Opd.tmp rfl)) ?_
            replace h := bind_some h; obtain ⟨x23, hx23, h⟩ := h
            refine RegL.pure (p := (pSl 1 (cK .i64) x23)) rfl rfl rfl (J_call rfl Try.call18 (c_laws_toInt64S hx23) (Opds.cons (Opd.tmp rfl) Opds.nil)) ?_
            replace h := bind_some h; obtain ⟨x24, hx24, h⟩ := h
            refine RegL.pureW (p := (pEq (.bool x24))) rfl rfl rfl (W_call rfl Try.call12 (c_laws_eqInt64S hx24) (OpdsA.cons (OpdA.conv rfl (Conv.row (f := (cK .i64)) 1 (fun _ => rfl) rfl)) (OpdsA.cons (OpdA.of (Opd.tmp rfl)) OpdsA.nil)) FreeP.eq) ?_
            refine RegL.pure (p := (pEq (.bool (!x24)))) rfl rfl rfl (J_not rfl (Opd.tmp rfl)) ?_
            refine RegL.nil ?_
            refine Ct.then_tr ?_
            refine Tr.weak (Γ' := [(1, (pSl 1 (cK .i64) a_1)), (2, (pPtr (cGProblem a_0))), (6, (pSl 1 (cK .i64) x4.1)), (7, (pEq (.int .i64 x4.2))), (8, (pEq (.pointer (some ⟨b9, 0, none⟩)))), (9, (pEq (.slice g12.1 g12.2.1 g12.2.2))), (10, (pEq (.slice g15.1 g15.2.1 g15.2.2))), (11, (pEq (.int .i64 x14.2))), (61, (pEq (.bool (!x24))))]) ⟨rfl, rfl, rfl, rfl, rfl, rfl, rfl, rfl, rfl, trivial⟩ ?_
            refine Tr.cond (Opd.tmp rfl) (fun hc => ?_) (fun hc => ?_)
            · replace h := bif_t hc h
              refine Tr.seq ?_
              refine Tr.region ?_
              refine RegL.pure (p := (pEq (.bool false))) rfl rfl rfl (J_assign rfl Opd.con) ?_
              refine RegL.nil ?_
              refine Ct.then_tr ?_
              refine Tr.weak (Γ' := [(4, (pEq (.bool false)))]) ⟨rfl, trivial⟩ ?_
              refine Tr.ret ?_
              refine Ct.then_ret ?_
              replace h := Option.some.inj h; subst h
              exact Ct.retH1 (Ωx := [oSl 2 1 (cK .i64) g15.1 g15.2.1 g15.2.2 x14.1, oSl 2 1 (cK .i64) g12.1 g12.2.1 g12.2.2 x11, oBlk b9 [(pEq (.slice g6.1.1.1 g6.1.1.2.1 g6.1.1.2.2)), (pEq (.slice g6.2.1.1 g6.2.1.2.1 g6.2.1.2.2))], oSS 26 2 1 (cK .i64) g6.1.1.1 g6.1.1.2.1 g6.1.1.2.2 g6.1.2 x5.Domains, oSS 26 2 1 (cK .i64) g6.2.1.1 g6.2.1.2.1 g6.2.1.2.2 g6.2.2 x5.Apart]) () rfl (RvOk.tmp rfl) rfl
            · replace h := bif_f hc h
              refine Tr.skip ?_
              refine Ct.then_tr ?_
              refine Tr.weak (Γ' := [(1, (pSl 1 (cK .i64) a_1)), (2, (pPtr (cGProblem a_0))), (6, (pSl 1 (cK .i64) x4.1)), (7, (pEq (.int .i64 x4.2))), (8, (pEq (.pointer (some ⟨b9, 0, none⟩)))), (9, (pEq (.slice g12.1 g12.2.1 g12.2.2))), (10, (pEq (.slice g15.1 g15.2.1 g15.2.2))), (11, (pEq (.int .i64 x14.2)))]) ⟨rfl, rfl, rfl, rfl, rfl, rfl, rfl, rfl, trivial⟩ ?_
              refine Tr.seq ?_
              refine Tr.region ?_
              refine RegL.pure (p := (pEq (.int .i64 (1 : Int)))) rfl rfl rfl (J_assign rfl Opd.con) ?_
              refine RegL.nil ?_
              refine Ct.then_tr ?_
              refine Tr.weak (Γ' := [(1, (pSl 1 (cK .i64) a_1)), (2, (pPtr (cGProblem a_0))), (6, (pSl 1 (cK .i64) x4.1)), (7, (pEq (.int .i64 x4.2))), (8, (pEq (.pointer (some ⟨b9, 0, none⟩)))), (9, (pEq (.slice g12.1 g12.2.1 g12.2.2))), (10, (pEq (.slice g15.1 g15.2.1 g15.2.2))), (11, (pEq (.int .i64 x14.2))), (12, (pEq (.int .i64 (1 : Int))))]) ⟨rfl, rfl, rfl, rfl, rfl, rfl, rfl, rfl, rfl, trivial⟩ ?_
              refine Tr.seq ?_
              refine Tr.region ?_
              refine RegL.pureW (p := (pAgg [(pEq (.slice g6.1.1.1 g6.1.1.2.1 g6.1.1.2.2)), (pEq (.slice g6.2.1.1 g6.2.1.2.1 g6.2.1.2.2))])) rfl rfl rfl (W_loadA (i := 2) rfl Try.isAgg29 sz29 (Opd.tmp rfl) rfl rfl) ?_
              refine RegL.pure (p := (pEq (.int .i64 (1 : Int)))) rfl rfl rfl (J_move rfl (Opd.tmp rfl)) ?_
              replace h := bind_some h; obtain ⟨x25, hx25, h⟩ := h
              refine RegL.re (Ω2 := [oSS 26 2 1 (cK .i64) g6.2.1.1 g6.2.1.2.1 g6.2.1.2.2 g6.2.2 x5.Apart, oSl 2 1 (cK .i64) g15.1 g15.2.1 g15.2.2 x14.1, oSl 2 1 (cK .i64) g12.1 g12.2.1 g12.2.2 x11, oBlk b9 [(pEq (.slice g6.1.1.1 g6.1.1.2.1 g6.1.1.2.2)), (pEq (.slice g6.2.1.1 g6.2.1.2.1 g6.2.1.2.2))], oSS 26 2 1 (cK .i64) g6.1.1.1 g6.1.1.2.1 g6.1.1.2.2 g6.1.2 x5.Domains]) (fun h => SatO.pick 4 h) ?_
              refine RegL.re (Ω2 := [oSS 26 2 1 (cK .i64) g6.1.1.1 g6.1.1.2.1 g6.1.1.2.2 g6.1.2 x5.Domains, oSS 26 2 1 (cK .i64) g6.2.1.1 g6.2.1.2.1 g6.2.1.2.2 g6.2.2 x5.Apart, oSl 2 1 (cK .i64) g15.1 g15.2.1 g15.2.2 x14.1, oSl 2 1 (cK .i64) g12.1 g12.2.1 g12.2.2 x11, oBlk b9 [(pEq (.slice g6.1.1.1 g6.1.1.2.1 g6.1.1.2.2)), (pEq (.slice g6.2.1.1 g6.2.1.2.1 g6.2.1.2.2))]]) (fun h => SatO.pick 4 h) ?_
              refine RegL.step (γ := Unit) (p := fun g => (pEq (.int .i64 x25.1))) (Ω' := fun g => [oSS 26 2 1 (cK .i64) g6.1.1.1 g6.1.1.2.1 g6.1.1.2.2 g6.1.2 x25.2.1, oSS 26 2 1 (cK .i64) g6.2.1.1 g6.2.1.2.1 g6.2.1.2.2 g6.2.2 x25.2.2, oSl 2 1 (cK .i64) g15.1 g15.2.1 g15.2.2 x14.1, oSl 2 1 (cK .i64) g12.1 g12.2.1 g12.2.2 x11, oBlk b9 [(pEq (.slice g6.1.1.1 g6.1.1.2.1 g6.1.1.2.2)), (pEq (.slice g6.2.1.1 g6.2.1.2.1 g6.2.1.2.2))]]) rfl rfl rfl (M_callH (Ωi := [oSS 26 2 1 (cK .i64) g6.1.1.1 g6.1.1.2.1 g6.1.1.2.2 g6.1.2 x5.Domains, oSS 26 2 1 (cK .i64) g6.2.1.1 g6.2.1.2.1 g6.2.1.2.2 g6.2.2 x5.Apart]) rfl Try.call14 (o_laws_markProblem hx25) (Opds.cons (Opd.tmp rfl) (Opds.cons (Opd.tmp rfl) Opds.nil))) fun g26 => ?_
              refine RegL.pure (p := (pEq (.int .i64 x25.1))) rfl rfl rfl (J_assign rfl (Opd.tmp rfl)) ?_
              refine RegL.nil ?_
              refine Ct.then_tr ?_
              refine Tr.weak (Γ' := [(1, (pSl 1 (cK .i64) a_1)), (2, (pPtr (cGProblem a_0))), (6, (pSl 1 (cK .i64) x4.1)), (7, (pEq (.int .i64 x4.2))), (9, (pEq (.slice g12.1 g12.2.1 g12.2.2))), (10, (pEq (.slice g15.1 g15.2.1 g15.2.2))), (11, (pEq (.int .i64 x14.2))), (12, (pEq (.int .i64 x25.1)))]) ⟨rfl, rfl, rfl, rfl, rfl, rfl, rfl, rfl, trivial⟩ ?_
              refine Tr.seq ?_
              refine Tr.region ?_
              refine RegL.pure (p := (pEq (.slice g12.1 g12.2.1 g12.2.2))) rfl rfl rfl (J_move rfl (Opd.tmp rfl)) ?_
              refine RegL.pure (p := (pEq (.int .i64 x25.1))) rfl rfl rfl (J_move rfl (Opd.tmp rfl)) ?_
              replace h := bind_some h; obtain ⟨x27, hx27, h⟩ := h
              refine RegL.re (Ω2 := [oSl 2 1 (cK .i64) g12.1 g12.2.1 g12.2.2 x11, oSS 26 2 1 (cK .i64) g6.1.1.1 g6.1.1.2.1 g6.1.1.2.2 g6.1.2 x25.2.1, oSS 26 2 1 (cK .i64) g6.2.1.1 g6.2.1.2.1 g6.2.1.2.2 g6.2.2 x25.2.2, oSl 2 1 (cK .i64) g15.1 g15.2.1 g15.2.2 x14.1, oBlk b9 [(pEq (.slice g6.1.1.1 g6.1.1.2.1 g6.1.1.2.2)), (pEq (.slice g6.2.1.1 g6.2.1.2.1 g6.2.1.2.2))]]) (fun h => SatO.pick 3 h) ?_
              refine RegL.step (γ := Unit) (p := fun g => (pEq (.int .i64 x27.1))) (Ω' := fun g => [oSl 2 1 (cK .i64) g12.1 g12.2.1 g12.2.2 x27.2, oSS 26 2 1 (cK .i64) g6.1.1.1 g6.1.1.2.1 g6.1.1.2.2 g6.1.2 x25.2.1, oSS 26 2 1 (cK .i64) g6.2.1.1 g6.2.1.2.1 g6.2.1.2.2 g6.2.2 x25.2.2, oSl 2 1 (cK .i64) g15.1 g15.2.1 g15.2.2 x14.1, oBlk b9 [(pEq (.slice g6.1.1.1 g6.1.1.2.1 g6.1.1.2.2)), (pEq (.slice g6.2.1.1 g6.2.1.2.1 g6.2.1.2.2))]]) rfl rfl rfl (M_callH (Ωi := [oSl 2 1 (cK .i64) g12.1 g12.2.1 g12.2.2 x11]) rfl Try.call15 (o_laws_markInt64S hx27) (Opds.cons (Opd.tmp rfl) (Opds.cons (Opd.tmp rfl) Opds.nil))) fun g28 => ?_
              refine RegL.pure (p := (pEq (.int .i64 x27.1))) rfl rfl rfl (J_assign rfl (Opd.tmp rfl)) ?_
              refine RegL.nil ?_
              refine Ct.then_tr ?_
              refine Tr.weak (Γ' := [(1, (pSl 1 (cK .i64) a_1)), (2, (pPtr (cGProblem a_0))), (6, (pSl 1 (cK .i64) x4.1)), (7, (pEq (.int .i64 x4.2))), (10, (pEq (.slice g15.1 g15.2.1 g15.2.2))), (11, (pEq (.int .i64 x14.2))), (12, (pEq (.int .i64 x27.1)))]) ⟨rfl, rfl, rfl, rfl, rfl, rfl, rfl, trivial⟩ ?_
              refine Tr.seq ?_
              refine Tr.seq ?_
              replace h := bind_some h; obtain ⟨x29, hx29, h⟩ := h
              refine Tr.cut (γ := Unit) (Γm := fun g => [(1, (pSl 1 (cK .i64) a_1)), (2, (pPtr (cGProblem a_0))), (6, (pSl 1 (cK .i64) x4.1)), (7, (pEq (.int .i64 x4.2))), (10, (pEq (.slice g15.1 g15.2.1 g15.2.2))), (80, (pEq (.bool x29)))]) (Ωm := fun g => [oSl 2 1 (cK .i64) g15.1 g15.2.1 g15.2.2 x14.1]) ?_ (fun g33 => ?_)
              · clear h
                have h := hx29
                clear hx29
                refine Tr.region ?_
                refine RegL.pure (p := (pEq (.int .i64 x27.1))) rfl rfl rfl (J_move rfl (Opd.tmp rfl)) ?_
                refine RegL.pure (p := (pEq (.bool (decide (x27.1 < (0 : Int)))))) rfl rfl rfl (J_bin rfl (Opd.tmp rfl) Opd.con B_lss) ?_
                refine RegL.pure (p := (pEq (.bool (decide (x27.1 < (0 : Int)))))) rfl rfl rfl (J_move rfl (Opd.tmp rfl)) ?_
                rcases Bool.eq_false_or_eq_true (decide (x27.1 < (0 : Int))) with hc30 | hc30
                · replace h := bif_t hc30 h
                  refine RegL.skipG rfl rfl rfl hc30 rfl rfl ?_
                  refine RegL.skipG rfl rfl rfl hc30 rfl rfl ?_
                  refine RegL.skipG rfl rfl rfl hc30 rfl rfl ?_
                  refine RegL.skipG rfl rfl rfl hc30 rfl rfl ?_
                  refine RegL.pure (p := (pEq (.bool true))) rfl rfl rfl (J_pick rfl (Opd.tmp rfl) (fun _ => Opd.con) (fun hf => absurd (hc30.symm.trans hf) (by decide))) ?_
                  refine RegL.pure (p := (pEq (.bool true))) rfl rfl rfl (J_move rfl (Opd.tmp rfl)) ?_
                  refine RegL.skipG rfl rfl rfl rfl rfl rfl ?_
                  refine RegL.skipG rfl rfl rfl rfl rfl rfl ?_
                  refine RegL.skipG rfl rfl rfl rfl rfl rfl ?_
                  refine RegL.pure (p := (pEq (.bool true))) rfl rfl rfl (J_pick rfl (Opd.tmp rfl) (fun _ => Opd.con) (fun hf => absurd hf (by decide))) ?_
                  refine RegL.nil ?_
                  refine Ct.re (Ω2 := [oSS 26 2 1 (cK .i64) g6.1.1.1 g6.1.1.2.1 g6.1.1.2.2 g6.1.2 x25.2.1, oSS 26 2 1 (cK .i64) g6.2.1.1 g6.2.1.2.1 g6.2.1.2.2 g6.2.2 x25.2.2, oSl 2 1 (cK .i64) g15.1 g15.2.1 g15.2.2 x14.1, oBlk b9 [(pEq (.slice g6.1.1.1 g6.1.1.2.1 g6.1.1.2.2)), (pEq (.slice g6.2.1.1 g6.2.1.2.1 g6.2.1.2.2))]]) (fun h => SatO.rest h) ?_
                  refine Ct.re (Ω2 := [oSS 26 2 1 (cK .i64) g6.2.1.1 g6.2.1.2.1 g6.2.1.2.2 g6.2.2 x25.2.2, oSl 2 1 (cK .i64) g15.1 g15.2.1 g15.2.2 x14.1, oBlk b9 [(pEq (.slice g6.1.1.1 g6.1.1.2.1 g6.1.1.2.2)), (pEq (.slice g6.2.1.1 g6.2.1.2.1 g6.2.1.2.2))]]) (fun h => SatO.rest h) ?_
                  refine Ct.re (Ω2 := [oSl 2 1 (cK .i64) g15.1 g15.2.1 g15.2.2 x14.1, oBlk b9 [(pEq (.slice g6.1.1.1 g6.1.1.2.1 g6.1.1.2.2)), (pEq (.slice g6.2.1.1 g6.2.1.2.1 g6.2.1.2.2))]]) (fun h => SatO.rest h) ?_
                  refine Ct.re (Ω2 := [oBlk b9 [(pEq (.slice g6.1.1.1 g6.1.1.2.1 g6.1.1.2.2)), (pEq (.slice g6.2.1.1 g6.2.1.2.1 g6.2.1.2.2))], oSl 2 1 (cK .i64) g15.1 g15.2.1 g15.2.2 x14.1]) (fun h => SatO.pick 1 h) ?_
                  refine Ct.re (Ω2 := [oSl 2 1 (cK .i64) g15.1 g15.2.1 g15.2.2 x14.1]) (fun h => SatO.rest h) ?_
                  replace h := Option.some.inj h; subst h
                  exact Ct.mid () rfl ⟨rfl, rfl, rfl, rfl, rfl, rfl, trivial⟩
                · replace h := bif_f hc30 h
                  refine RegL.pureG (p := (pEq (.slice g15.1 g15.2.1 g15.2.2))) rfl rfl rfl hc30 rfl rfl (J_move rfl (Opd.tmp rfl)) ?_
                  refine RegL.pureG (p := (pSl 1 (cK .i64) x4.1)) rfl rfl rfl hc30 rfl rfl (J_move rfl (Opd.tmp rfl)) ?_
                  replace h := bind_some h; obtain ⟨x31, hx31, h⟩ := h
                  refine RegL.pureGW (p := (pEq (.bool x31))) rfl rfl rfl hc30 rfl rfl (W_call rfl Try.call12 (c_laws_eqInt64S hx31) (OpdsA.cons (OpdA.conv rfl (Conv.row (f := (cK .i64)) 3 (fun _ => rfl) rfl)) (OpdsA.cons (OpdA.of (Opd.tmp rfl)) OpdsA.nil)) FreeP.eq) ?_
                  refine RegL.pureG (p := (pEq (.bool (!x31)))) rfl rfl rfl hc30 rfl rfl (J_not rfl (Opd.tmp rfl)) ?_
                  refine RegL.pure (p := (pEq (.bool (!x31)))) rfl rfl rfl (J_pick rfl (Opd.tmp rfl) (fun hf => absurd (hc30.symm.trans hf) (by decide)) (fun _ => (Opd.tmp rfl))) ?_
                  refine RegL.pure (p := (pEq (.bool (!x31)))) rfl rfl rfl (J_move rfl (Opd.tmp rfl)) ?_
                  rcases Bool.eq_false_or_eq_true (!x31) with hc32 | hc32
                  · replace h := bif_t hc32 h
                    refine RegL.skipG rfl rfl rfl hc32 rfl rfl ?_
                    refine RegL.skipG rfl rfl rfl hc32 rfl rfl ?_
                    refine RegL.skipG rfl rfl rfl hc32 rfl rfl ?_
                    refine RegL.pure (p := (pEq (.bool true))) rfl rfl rfl (J_pick rfl (Opd.tmp rfl) (fun _ => Opd.con) (fun hf => absurd (hc32.symm.trans hf) (by decide))) ?_
                    refine RegL.nil ?_
                    refine Ct.re (Ω2 := [oSS 26 2 1 (cK .i64) g6.1.1.1 g6.1.1.2.1 g6.1.1.2.2 g6.1.2 x25.2.1, oSS 26 2 1 (cK .i64) g6.2.1.1 g6.2.1.2.1 g6.2.1.2.2 g6.2.2 x25.2.2, oSl 2 1 (cK .i64) g15.1 g15.2.1 g15.2.2 x14.1, oBlk b9 [(pEq (.slice g6.1.1.1 g6.1.1.2.1 g6.1.1.2.2)), (pEq (.slice g6.2.1.1 g6.2.1.2.1 g6.2.1.2.2))]]) (fun h => SatO.rest h) ?_
                    refine Ct.re (Ω2 := [oSS 26 2 1 (cK .i64) g6.2.1.1 g6.2.1.2.1 g6.2.1.2.2 g6.2.2 x25.2.2, oSl 2 1 (cK .i64) g15.1 g15.2.1 g15.2.2 x14.1, oBlk b9 [(pEq (.slice g6.1.1.1 g6.1.1.2.1 g6.1.1.2.2)), (pEq (.slice g6.2.1.1 g6.2.1.2.1 g6.2.1.2.2))]]) (fun h => SatO.rest h) ?_
                    refine Ct.re (Ω2 := [oSl 2 1 (cK .i64) g15.1 g15.2.1 g15.2.2 x14.1, oBlk b9 [(pEq (.slice g6.1.1.1 g6.1.1.2.1 g6.1.1.2.2)), (pEq (.slice g6.2.1.1 g6.2.1.2.1 g6.2.1.2.2))]]) (fun h => SatO.rest h) ?_
                    refine Ct.re (Ω2 := [oBlk b9 [(pEq (.slice g6.1.1.1 g6.1.1.2.1 g6.1.1.2.2)), (pEq (.slice g6.2.1.1 g6.2.1.2.1 g6.2.1.2.2))], oSl 2 1 (cK .i64) g15.1 g15.2.1 g15.2.2 x14.1]) (fun h => SatO.pick 1 h) ?_
                    refine Ct.re (Ω2 := [oSl 2 1 (cK .i64) g15.1 g15.2.1 g15.2.2 x14.1]) (fun h => SatO.rest h) ?_
                    replace h := Option.some.inj h; subst h
                    exact Ct.mid () rfl ⟨rfl, rfl, rfl, rfl, rfl, rfl, trivial⟩
                  · replace h := bif_f hc32 h
                    refine RegL.pureG (p := (pEq (.int .i64 x14.2))) rfl rfl rfl hc32 rfl rfl (J_move rfl (Opd.tmp rfl)) ?_
                    refine RegL.pureG (p := (pEq (.int .i64 x4.2))) rfl rfl rfl hc32 rfl rfl (J_move rfl (Opd.tmp rfl)) ?_
                    refine RegL.pureG (p := (pEq (.bool (x14.2 != x4.2)))) rfl rfl rfl hc32 rfl rfl (J_bin rfl (Opd.tmp rfl) (Opd.tmp rfl) B_neq) ?_
                    refine RegL.pure (p := (pEq (.bool (x14.2 != x4.2)))) rfl rfl rfl (J_pick rfl (Opd.tmp rfl) (fun hf => absurd (hc32.symm.trans hf) (by decide)) (fun _ => (Opd.tmp rfl))) ?_
                    refine RegL.nil ?_
                    refine Ct.re (Ω2 := [oSS 26 2 1 (cK .i64) g6.1.1.1 g6.1.1.2.1 g6.1.1.2.2 g6.1.2 x25.2.1, oSS 26 2 1 (cK .i64) g6.2.1.1 g6.2.1.2.1 g6.2.1.2.2 g6.2.2 x25.2.2, oSl 2 1 (cK .i64) g15.1 g15.2.1 g15.2.2 x14.1, oBlk b9 [(pEq (.slice g6.1.1.1 g6.1.1.2.1 g6.1.1.2.2)), (pEq (.slice g6.2.1.1 g6.2.1.2.1 g6.2.1.2.2))]]) (fun h => SatO.rest h) ?_
                    refine Ct.re (Ω2 := [oSS 26 2 1 (cK .i64) g6.2.1.1 g6.2.1.2.1 g6.2.1.2.2 g6.2.2 x25.2.2, oSl 2 1 (cK .i64) g15.1 g15.2.1 g15.2.2 x14.1, oBlk b9 [(pEq (.slice g6.1.1.1 g6.1.1.2.1 g6.1.1.2.2)), (pEq (.slice g6.2.1.1 g6.2.1.2.1 g6.2.1.2.2))]]) (fun h => SatO.rest h) ?_
                    refine Ct.re (Ω2 := [oSl 2 1 (cK .i64) g15.1 g15.2.1 g15.2.2 x14.1, oBlk b9 [(pEq (.slice g6.1.1.1 g6.1.1.2.1 g6.1.1.2.2)), (pEq (.slice g6.2.1.1 g6.2.1.2.1 g6.2.1.2.2))]]) (fun h => SatO.rest h) ?_
                    refine Ct.re (Ω2 := [oBlk b9 [(pEq (.slice g6.1.1.1 g6.1.1.2.1 g6.1.1.2.2)), (pEq (.slice g6.2.1.1 g6.2.1.2.1 g6.2.1.2.2))], oSl 2 1 (cK .i64) g15.1 g15.2.1 g15.2.2 x14.1]) (fun h => SatO.pick 1 h) ?_
                    refine Ct.re (Ω2 := [oSl 2 1 (cK .i64) g15.1 g15.2.1 g15.2.2 x14.1]) (fun h => SatO.rest h) ?_
                    replace h := Option.some.inj h; subst h
                    exact Ct.mid () rfl ⟨rfl, rfl, rfl, rfl, rfl, rfl, trivial⟩
              · clear hx29
                refine Ct.then_tr ?_
                refine Tr.weak (Γ' := [(1, (pSl 1 (cK .i64) a_1)), (2, (pPtr (cGProblem a_0))), (6, (pSl 1 (cK .i64) x4.1)), (7, (pEq (.int .i64 x4.2))), (10, (pEq (.slice g15.1 g15.2.1 g15.2.2))), (80, (pEq (.bool x29)))]) ⟨rfl, rfl, rfl, rfl, rfl, rfl, trivial⟩ ?_
                refine Tr.cond (Opd.tmp rfl) (fun hc => ?_) (fun hc => ?_)
                · replace h := bif_t hc h
                  refine Tr.seq ?_
                  refine Tr.region ?_
                  refine RegL.pure (p := (pEq (.bool false))) rfl rfl rfl (J_assign rfl Opd.con) ?_
                  refine RegL.nil ?_
                  refine Ct.then_tr ?_
                  refine Tr.weak (Γ' := [(4, (pEq (.bool false)))]) ⟨rfl, trivial⟩ ?_
                  refine Tr.ret ?_
                  refine Ct.then_ret ?_
                  replace h := Option.some.inj h; subst h
                  exact Ct.retH1 (Ωx := [oSl 2 1 (cK .i64) g15.1 g15.2.1 g15.2.2 x14.1]) () rfl (RvOk.tmp rfl) rfl
                · replace h := bif_f hc h
                  refine Tr.skip ?_
                  refine Ct.then_tr ?_
                  refine Tr.weak (Γ' := [(1, (pSl 1 (cK .i64) a_1)), (2, (pPtr (cGProblem a_0))), (6, (pSl 1 (cK .i64) x4.1)), (7, (pEq (.int .i64 x4.2))), (10, (pEq (.slice g15.1 g15.2.1 g15.2.2)))]) ⟨rfl, rfl, rfl, rfl, rfl, trivial⟩ ?_
                  refine Tr.seq ?_
                  refine Tr.region ?_
                  refine RegL.pure (p := (pEq (.int .i64 (1 : Int)))) rfl rfl rfl (J_assign rfl Opd.con) ?_
                  refine RegL.nil ?_
                  refine Ct.then_tr ?_
                  refine Tr.weak (Γ' := [(1, (pSl 1 (cK .i64) a_1)), (2, (pPtr (cGProblem a_0))), (6, (pSl 1 (cK .i64) x4.1)), (7, (pEq (.int .i64 x4.2))), (10, (pEq (.slice g15.1 g15.2.1 g15.2.2))), (13, (pEq (.int .i64 (1 : Int))))]) ⟨rfl, rfl, rfl, rfl, rfl, rfl, trivial⟩ ?_
                  refine Tr.seq ?_
                  refine Tr.region ?_
                  refine RegL.pure (p := (pEq (.slice g15.1 g15.2.1 g15.2.2))) rfl rfl rfl (J_move rfl (Opd.tmp rfl)) ?_
                  refine RegL.pure (p := (pEq (.int .i64 (1 : Int)))) rfl rfl rfl (J_move rfl (Opd.tmp rfl)) ?_
                  replace h := bind_some h; obtain ⟨x34, hx34, h⟩ := h
                  refine RegL.step (γ := Unit) (p := fun g => (pEq (.int .i64 x34.1))) (Ω' := fun g => [oSl 2 1 (cK .i64) g15.1 g15.2.1 g15.2.2 x34.2]) rfl rfl rfl (M_callH (Ωi := [oSl 2 1 (cK .i64) g15.1 g15.2.1 g15.2.2 x14.1]) rfl Try.call15 (o_laws_markInt64S hx34) (Opds.cons (Opd.tmp rfl) (Opds.cons (Opd.tmp rfl) Opds.nil))) fun g35 => ?_
                  refine RegL.pure (p := (pEq (.int .i64 x34.1))) rfl rfl rfl (J_assign rfl (Opd.tmp rfl)) ?_
                  refine RegL.nil ?_
                  refine Ct.then_tr ?_
                  refine Tr.weak (Γ' := [(1, (pSl 1 (cK .i64) a_1)), (2, (pPtr (cGProblem a_0))), (6, (pSl 1 (cK .i64) x4.1)), (7, (pEq (.int .i64 x4.2))), (10, (pEq (.slice g15.1 g15.2.1 g15.2.2))), (13, (pEq (.int .i64 x34.1)))]) ⟨rfl, rfl, rfl, rfl, rfl, rfl, trivial⟩ ?_
                  refine Tr.seq ?_
                  refine Tr.region ?_
                  refine RegL.pure (p := (pEq (.int .i64 (1 : Int)))) rfl rfl rfl (J_assign rfl Opd.con) ?_
                  refine RegL.nil ?_
                  refine Ct.then_tr ?_
                  refine Tr.weak (Γ' := [(1, (pSl 1 (cK .i64) a_1)), (2, (pPtr (cGProblem a_0))), (6, (pSl 1 (cK .i64) x4.1)), (7, (pEq (.int .i64 x4.2))), (10, (pEq (.slice g15.1 g15.2.1 g15.2.2))), (13, (pEq (.int .i64 x34.1))), (14, (pEq (.int .i64 (1 : Int))))]) ⟨rfl, rfl, rfl, rfl, rfl, rfl, rfl, trivial⟩ ?_
                  refine Tr.seq ?_
                  refine Tr.region ?_
                  refine RegL.pure (p := (pEq (.slice g15.1 g15.2.1 g15.2.2))) rfl rfl rfl (J_move rfl (Opd.tmp rfl)) ?_
                  refine RegL.pure (p := (pEq (.int .i64 (1 : Int)))) rfl rfl rfl (J_move rfl (Opd.tmp rfl)) ?_
                  replace h := bind_some h; obtain ⟨x36, hx36, h⟩ := h
                  refine RegL.pureW (p := (pEq (.int .i64 x36))) rfl rfl rfl (W_call rfl Try.call16 (c_laws_heldInt64S hx36) (OpdsA.cons (OpdA.conv rfl (Conv.row (f := (cK .i64)) 0 (fun _ => rfl) rfl)) (OpdsA.cons (OpdA.of (Opd.tmp rfl)) OpdsA.nil)) FreeP.eq) ?_
                  refine RegL.pure (p := (pEq (.int .i64 x36))) rfl rfl rfl (J_assign rfl (Opd.tmp rfl)) ?_
                  refine RegL.nil ?_
                  refine Ct.then_tr ?_
                  refine Tr.weak (Γ' := [(1, (pSl 1 (cK .i64) a_1)), (2, (pPtr (cGProblem a_0))), (6, (pSl 1 (cK .i64) x4.1)), (7, (pEq (.int .i64 x4.2))), (10, (pEq (.slice g15.1 g15.2.1 g15.2.2))), (13, (pEq (.int .i64 x34.1))), (14, (pEq (.int .i64 x36)))]) ⟨rfl, rfl, rfl, rfl, rfl, rfl, rfl, trivial⟩ ?_
                  refine Tr.seq ?_
                  refine Tr.seq ?_
                  refine Tr.region ?_
                  refine RegL.pure (p := (pEq (.int .i64 x36))) rfl rfl rfl (J_move rfl (Opd.tmp rfl)) ?_
                  refine RegL.pure (p := (pEq (.bool (decide (x36 < (0 : Int)))))) rfl rfl rfl (J_bin rfl (Opd.tmp rfl) Opd.con B_lss) ?_
                  refine RegL.nil ?_
                  refine Ct.then_tr ?_
                  refine Tr.weak (Γ' := [(1, (pSl 1 (cK .i64) a_1)), (2, (pPtr (cGProblem a_0))), (6, (pSl 1 (cK .i64) x4.1)), (7, (pEq (.int .i64 x4.2))), (10, (pEq (.slice g15.1 g15.2.1 g15.2.2))), (13, (pEq (.int .i64 x34.1))), (14, (pEq (.int .i64 x36))), (88, (pEq (.bool (decide (x36 < (0 : Int))))))]) ⟨rfl, rfl, rfl, rfl, rfl, rfl, rfl, rfl, trivial⟩ ?_
                  refine Tr.cond (Opd.tmp rfl) (fun hc => ?_) (fun hc => ?_)
                  · replace h := bif_t hc h
                    refine Tr.seq ?_
                    refine Tr.region ?_
                    refine RegL.pure (p := (pEq (.bool false))) rfl rfl rfl (J_assign rfl Opd.con) ?_
                    refine RegL.nil ?_
                    refine Ct.then_tr ?_
                    refine Tr.weak (Γ' := [(4, (pEq (.bool false)))]) ⟨rfl, trivial⟩ ?_
                    refine Tr.ret ?_
                    refine Ct.then_ret ?_
                    replace h := Option.some.inj h; subst h
                    exact Ct.retH1 (Ωx := [oSl 2 1 (cK .i64) g15.1 g15.2.1 g15.2.2 x34.2]) () rfl (RvOk.tmp rfl) rfl
                  · replace h := bif_f hc h
                    refine Tr.skip ?_
                    refine Ct.then_tr ?_
                    refine Tr.weak (Γ' := [(1, (pSl 1 (cK .i64) a_1)), (2, (pPtr (cGProblem a_0))), (6, (pSl 1 (cK .i64) x4.1)), (7, (pEq (.int .i64 x4.2))), (10, (pEq (.slice g15.1 g15.2.1 g15.2.2))), (13, (pEq (.int .i64 x34.1))), (14, (pEq (.int .i64 x36)))]) ⟨rfl, rfl, rfl, rfl, rfl, rfl, rfl, trivial⟩ ?_
                    refine Tr.seq ?_
                    refine Tr.seq ?_
                    refine Tr.region ?_
                    refine RegL.pure (p := (pEq (.int .i64 x36))) rfl rfl rfl (J_move rfl (Opd.tmp rfl)) ?_
                    refine RegL.pure (p := (pEq (.int .i64 x34.1))) rfl rfl rfl (J_move rfl (Opd.tmp rfl)) ?_
                    refine RegL.pure (p := (pEq (.bool (x36 != x34.1)))) rfl rfl rfl (J_bin rfl (Opd.tmp rfl) (Opd.tmp rfl) B_neq) ?_
                    refine RegL.nil ?_
                    refine Ct.then_tr ?_
                    refine Tr.weak (Γ' := [(1, (pSl 1 (cK .i64) a_1)), (2, (pPtr (cGProblem a_0))), (6, (pSl 1 (cK .i64) x4.1)), (7, (pEq (.int .i64 x4.2))), (10, (pEq (.slice g15.1 g15.2.1 g15.2.2))), (13, (pEq (.int .i64 x34.1))), (91, (pEq (.bool (x36 != x34.1))))]) ⟨rfl, rfl, rfl, rfl, rfl, rfl, rfl, trivial⟩ ?_
                    refine Tr.cond (Opd.tmp rfl) (fun hc => ?_) (fun hc => ?_)
                    · replace h := bif_t hc h
                      refine Tr.seq ?_
                      refine Tr.region ?_
                      refine RegL.pure (p := (pEq (.bool false))) rfl rfl rfl (J_assign rfl Opd.con) ?_
                      refine RegL.nil ?_
                      refine Ct.then_tr ?_
                      refine Tr.weak (Γ' := [(4, (pEq (.bool false)))]) ⟨rfl, trivial⟩ ?_
                      refine Tr.ret ?_
                      refine Ct.then_ret ?_
                      replace h := Option.some.inj h; subst h
                      exact Ct.retH1 (Ωx := [oSl 2 1 (cK .i64) g15.1 g15.2.1 g15.2.2 x34.2]) () rfl (RvOk.tmp rfl) rfl
                    · replace h := bif_f hc h
                      refine Tr.skip ?_
                      refine Ct.then_tr ?_
                      refine Tr.weak (Γ' := [(1, (pSl 1 (cK .i64) a_1)), (2, (pPtr (cGProblem a_0))), (6, (pSl 1 (cK .i64) x4.1)), (7, (pEq (.int .i64 x4.2))), (10, (pEq (.slice g15.1 g15.2.1 g15.2.2))), (13, (pEq (.int .i64 x34.1)))]) ⟨rfl, rfl, rfl, rfl, rfl, rfl, trivial⟩ ?_
                      refine Tr.seq ?_
                      refine Tr.region ?_
                      refine RegL.pure (p := (pAgg (cGProblem a_0))) rfl rfl rfl (J_loadA rfl Try.isAgg24 sz24 (Opd.tmp rfl) rfl) ?_
                      replace h := bind_some h; obtain ⟨x37, hx37, h⟩ := h
                      refine RegL.pure (p := (pAgg (cGProblem x37))) rfl rfl rfl (J_call rfl Try.call10 (c_laws_toProblem hx37) (Opds.cons (Opd.tmp rfl) Opds.nil)) ?_
                      refine RegL.pure (p := (pSl 1 (cK .i64) a_1)) rfl rfl rfl (J_move rfl (Opd.tmp rfl)) ?_
                      replace h := bind_some h; obtain ⟨x38, hx38, h⟩ := h
                      refine RegL.pure (p := (pSl 1 (cK .i64) x38)) rfl rfl rfl (J_call rfl Try.call18 (c_laws_toInt64S hx38) (Opds.cons (Opd.tmp rfl) Opds.nil)) ?_
                      replace h := bind_some h; obtain ⟨x39, hx39, h⟩ := h
                      refine RegL.pure (p := (pTup [(pSl 1 (cK .i64) x39.1), (pEq (.int .i64 x39.2))])) rfl rfl rfl (J_call rfl Try.call19 (c_impl_GreedyAssign hx39) (Opds.cons (Opd.tmp rfl) (Opds.cons (Opd.tmp rfl) Opds.nil))) ?_
                      refine RegL.pure (p := (pTup [(pSl 1 (cK .i64) x39.1), (pEq (.int .i64 x39.2))])) rfl rfl rfl (J_move rfl (Opd.tmp rfl)) ?_
                      refine RegL.pure (p := (pSl 1 (cK .i64) x39.1)) rfl rfl rfl (J_extract rfl (Opd.tmp rfl) rfl) ?_
                      refine RegL.pure (p := (pEq (.int .i64 x39.2))) rfl rfl rfl (J_extract rfl (Opd.tmp rfl) rfl) ?_
                      refine RegL.pure (p := (pSl 1 (cK .i64) x39.1)) rfl rfl rfl (J_assign rfl (Opd.tmp rfl)) ?_
                      refine RegL.pure (p := (pEq (.int .i64 x39.2))) rfl rfl rfl (J_assign rfl (Opd.tmp rfl)) ?_
                      refine RegL.nil ?_
                      refine Ct.then_tr ?_
                      refine Tr.weak (Γ' := [(6, (pSl 1 (cK .i64) x4.1)), (7, (pEq (.int .i64 x4.2))), (10, (pEq (.slice g15.1 g15.2.1 g15.2.2))), (13, (pEq (.int .i64 x34.1))), (15, (pSl 1 (cK .i64) x39.1)), (16, (pEq (.int .i64 x39.2)))]) ⟨rfl, rfl, rfl, rfl, rfl, rfl, trivial⟩ ?_
                      refine Tr.seq ?_
                      refine Tr.seq ?_
                      replace h := bind_some h; obtain ⟨x40, hx40, h⟩ := h
                      refine Tr.cut (γ := Unit) (Γm := fun g => [(10, (pEq (.slice g15.1 g15.2.1 g15.2.2))), (13, (pEq (.int .i64 x34.1))), (108, (pEq (.bool x40)))]) (Ωm := fun g => [oSl 2 1 (cK .i64) g15.1 g15.2.1 g15.2.2 x34.2]) ?_ (fun g43 => ?_)
                      · clear h
                        have h := hx40
                        clear hx40
                        refine Tr.region ?_
                        refine RegL.pure (p := (pSl 1 (cK .i64) x39.1)) rfl rfl rfl (J_move rfl (Opd.tmp rfl)) ?_
                        refine RegL.pure (p := (pSl 1 (cK .i64) x4.1)) rfl rfl rfl (J_move rfl (Opd.tmp rfl)) ?_
                        replace h := bind_some h; obtain ⟨x41, hx41, h⟩ := h
                        refine RegL.pure (p := (pEq (.bool x41))) rfl rfl rfl (J_call rfl Try.call12 (c_laws_eqInt64S hx41) (Opds.cons (Opd.tmp rfl) (Opds.cons (Opd.tmp rfl) Opds.nil))) ?_
                        refine RegL.pure (p := (pEq (.bool (!x41)))) rfl rfl rfl (J_not rfl (Opd.tmp rfl)) ?_
                        refine RegL.pure (p := (pEq (.bool (!x41)))) rfl rfl rfl (J_move rfl (Opd.tmp rfl)) ?_
                        rcases Bool.eq_false_or_eq_true (!x41) with hc42 | hc42
                        · replace h := bif_t hc42 h
                          refine RegL.skipG rfl rfl rfl hc42 rfl rfl ?_
                          refine RegL.skipG rfl rfl rfl hc42 rfl rfl ?_
                          refine RegL.skipG rfl rfl rfl hc42 rfl rfl ?_
                          refine RegL.pure (p := (pEq (.bool true))) rfl rfl rfl (J_pick rfl (Opd.tmp rfl) (fun _ => Opd.con) (fun hf => absurd (hc42.symm.trans hf) (by decide))) ?_
                          refine RegL.nil ?_
                          replace h := Option.some.inj h; subst h
                          exact Ct.mid () rfl ⟨rfl, rfl, rfl, trivial⟩
                        · replace h := bif_f hc42 h
                          refine RegL.pureG (p := (pEq (.int .i64 x39.2))) rfl rfl rfl hc42 rfl rfl (J_move rfl (Opd.tmp rfl)) ?_
                          refine RegL.pureG (p := (pEq (.int .i64 x4.2))) rfl rfl rfl hc42 rfl rfl (J_move rfl (Opd.tmp rfl)) ?_
                          refine RegL.pureG (p := (pEq (.bool (x39.2 != x4.2)))) rfl rfl rfl hc42 rfl rfl (J_bin rfl (Opd.tmp rfl) (Opd.tmp rfl) B_neq) ?_
                          refine RegL.pure (p := (pEq (.bool (x39.2 != x4.2)))) rfl rfl rfl (J_pick rfl (Opd.tmp rfl) (fun hf => absurd (hc42.symm.trans hf) (by decide)) (fun _ => (Opd.tmp rfl))) ?_
                          refine RegL.nil ?_
                          replace h := Option.some.inj h; subst h
                          exact Ct.mid () rfl ⟨rfl, rfl, rfl, trivial⟩
                      · clear hx40
                        refine Ct.then_tr ?_
                        refine Tr.weak (Γ' := [(10, (pEq (.slice g15.1 g15.2.1 g15.2.2))), (13, (pEq (.int .i64 x34.1))), (108, (pEq (.bool x40)))]) ⟨rfl, rfl, rfl, trivial⟩ ?_
                        refine Tr.cond (Opd.tmp rfl) (fun hc => ?_) (fun hc => ?_)
                        · replace h := bif_t hc h
                          refine Tr.seq ?_
                          refine Tr.region ?_
                          refine RegL.pure (p := (pEq (.bool false))) rfl rfl rfl (J_assign rfl Opd.con) ?_
                          refine RegL.nil ?_
                          refine Ct.then_tr ?_
                          refine Tr.weak (Γ' := [(4, (pEq (.bool false)))]) ⟨rfl, trivial⟩ ?_
                          refine Tr.ret ?_
                          refine Ct.then_ret ?_
                          replace h := Option.some.inj h; subst h
                          exact Ct.retH1 (Ωx := [oSl 2 1 (cK .i64) g15.1 g15.2.1 g15.2.2 x34.2]) () rfl (RvOk.tmp rfl) rfl
                        · replace h := bif_f hc h
                          refine Tr.skip ?_
                          refine Ct.then_tr ?_
                          refine Tr.weak (Γ' := [(10, (pEq (.slice g15.1 g15.2.1 g15.2.2))), (13, (pEq (.int .i64 x34.1)))]) ⟨rfl, rfl, trivial⟩ ?_
                          refine Tr.seq ?_
                          refine Tr.region ?_
                          refine RegL.pure (p := (pEq (.int .i64 (1 : Int)))) rfl rfl rfl (J_assign rfl Opd.con) ?_
                          refine RegL.nil ?_
                          refine Ct.then_tr ?_
                          refine Tr.weak (Γ' := [(10, (pEq (.slice g15.1 g15.2.1 g15.2.2))), (13, (pEq (.int .i64 x34.1))), (14, (pEq (.int .i64 (1 : Int))))]) ⟨rfl, rfl, rfl, trivial⟩ ?_
                          refine Tr.seq ?_
                          refine Tr.region ?_
                          refine RegL.pure (p := (pEq (.slice g15.1 g15.2.1 g15.2.2))) rfl rfl rfl (J_move rfl (Opd.tmp rfl)) ?_
                          refine RegL.pure (p := (pEq (.int .i64 (1 : Int)))) rfl rfl rfl (J_move rfl (Opd.tmp rfl)) ?_
                          replace h := bind_some h; obtain ⟨x44, hx44, h⟩ := h
                          refine RegL.pureW (p := (pEq (.int .i64 x44))) rfl rfl rfl (W_call rfl Try.call16 (c_laws_heldInt64S hx44) (OpdsA.cons (OpdA.conv rfl (Conv.row (f := (cK .i64)) 0 (fun _ => rfl) rfl)) (OpdsA.cons (OpdA.of (Opd.tmp rfl)) OpdsA.nil)) FreeP.eq) ?_
                          refine RegL.pure (p := (pEq (.int .i64 x44))) rfl rfl rfl (J_assign rfl (Opd.tmp rfl)) ?_
                          refine RegL.nil ?_
                          refine Ct.then_tr ?_
                          refine Tr.weak (Γ' := [(13, (pEq (.int .i64 x34.1))), (14, (pEq (.int .i64 x44)))]) ⟨rfl, rfl, trivial⟩ ?_
                          refine Tr.seq ?_
                          refine Tr.seq ?_
                          refine Tr.region ?_
                          refine RegL.pure (p := (pEq (.int .i64 x44))) rfl rfl rfl (J_move rfl (Opd.tmp rfl)) ?_
                          refine RegL.pure (p := (pEq (.bool (decide (x44 < (0 : Int)))))) rfl rfl rfl (J_bin rfl (Opd.tmp rfl) Opd.con B_lss) ?_
                          refine RegL.nil ?_
                          refine Ct.then_tr ?_
                          refine Tr.weak (Γ' := [(13, (pEq (.int .i64 x34.1))), (14, (pEq (.int .i64 x44))), (113, (pEq (.bool (decide (x44 < (0 : Int))))))]) ⟨rfl, rfl, rfl, trivial⟩ ?_
                          refine Tr.cond (Opd.tmp rfl) (fun hc => ?_) (fun hc => ?_)
                          · replace h := bif_t hc h
                            refine Tr.seq ?_
                            refine Tr.region ?_
                            refine RegL.pure (p := (pEq (.bool false))) rfl rfl rfl (J_assign rfl Opd.con) ?_
                            refine RegL.nil ?_
                            refine Ct.then_tr ?_
                            refine Tr.weak (Γ' := [(4, (pEq (.bool false)))]) ⟨rfl, trivial⟩ ?_
                            refine Tr.ret ?_
                            refine Ct.then_ret ?_
                            replace h := Option.some.inj h; subst h
                            exact Ct.retH1 (Ωx := [oSl 2 1 (cK .i64) g15.1 g15.2.1 g15.2.2 x34.2]) () rfl (RvOk.tmp rfl) rfl
                          · replace h := bif_f hc h
                            refine Tr.skip ?_
                            refine Ct.then_tr ?_
                            refine Tr.weak (Γ' := [(13, (pEq (.int .i64 x34.1))), (14, (pEq (.int .i64 x44)))]) ⟨rfl, rfl, trivial⟩ ?_
                            refine Tr.seq ?_
                            refine Tr.seq ?_
                            refine Tr.region ?_
                            refine RegL.pure (p := (pEq (.int .i64 x44))) rfl rfl rfl (J_move rfl (Opd.tmp rfl)) ?_
                            refine RegL.pure (p := (pEq (.int .i64 x34.1))) rfl rfl rfl (J_move rfl (Opd.tmp rfl)) ?_
                            refine RegL.pure (p := (pEq (.bool (x44 != x34.1)))) rfl rfl rfl (J_bin rfl (Opd.tmp rfl) (Opd.tmp rfl) B_neq) ?_
                            refine RegL.nil ?_
                            refine Ct.then_tr ?_
                            refine Tr.weak (Γ' := [(116, (pEq (.bool (x44 != x34.1))))]) ⟨rfl, trivial⟩ ?_
                            refine Tr.cond (Opd.tmp rfl) (fun hc => ?_) (fun hc => ?_)
                            · replace h := bif_t hc h
                              refine Tr.seq ?_
                              refine Tr.region ?_
                              refine RegL.pure (p := (pEq (.bool false))) rfl rfl rfl (J_assign rfl Opd.con) ?_
                              refine RegL.nil ?_
                              refine Ct.then_tr ?_
                              refine Tr.weak (Γ' := [(4, (pEq (.bool false)))]) ⟨rfl, trivial⟩ ?_
                              refine Tr.ret ?_
                              refine Ct.then_ret ?_
                              replace h := Option.some.inj h; subst h
                              exact Ct.retH1 (Ωx := [oSl 2 1 (cK .i64) g15.1 g15.2.1 g15.2.2 x34.2]) () rfl (RvOk.tmp rfl) rfl
                            · replace h := bif_f hc h
                              refine Tr.skip ?_
                              refine Ct.then_tr ?_
                              refine Tr.weak (Γ' := []) trivial ?_
                              refine Tr.seq ?_
                              refine Tr.region ?_
                              refine RegL.pure (p := (pEq (.bool true))) rfl rfl rfl (J_assign rfl Opd.con) ?_
                              refine RegL.nil ?_
                              refine Ct.then_tr ?_
                              refine Tr.weak (Γ' := [(4, (pEq (.bool true)))]) ⟨rfl, trivial⟩ ?_
                              refine Tr.ret ?_
                              replace h := Option.some.inj h; subst h
                              exact Ct.retH1 (Ωx := [oSl 2 1 (cK .i64) g15.1 g15.2.1 g15.2.2 x34.2]) () rfl (RvOk.tmp rfl) rfl

end Go.Proofs.Ytfadnbelnfofbaa.fnExactGreedyAssignW
