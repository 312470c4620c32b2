/-
  The walks that the law FnExactCliqueBound reaches: each function computes its model. Printed by our own program.
-/
import Derived.Test.YtfadnbelnfofbaaProg
import Derived.Test.YtfadnbelnfofbaaMod
import Derived.Test.YtfadnbelnfofbaaZero
import Derived.KernelRfl
import Derived.Test.YtfadnbelnfofbaaWkCliqueBounda
namespace Go.Proofs.Ytfadnbelnfofbaa.fnExactCliqueBoundW
open Go Go.RowKit Go.Wk
set_option linter.unusedVariables false
set_option maxRecDepth 100000


theorem c_spec_CliqueBound {p_0 : GProblem} {budget_1 : Int} {r : (Int × Int)} (h : m_spec_CliqueBound p_0 budget_1 = some r) : CallJ Try.prog 24 [(pAgg (cGProblem p_0)), (pEq (.int .i64 budget_1))] (pTup [(pEq (.int .i64 r.1)), (pEq (.int .i64 r.2))]) := by
  unfold m_spec_CliqueBound at h
  refine CallJ.enterH Try.func24 rfl Try.ntmps24 rfl fun W I0 H => ?_
  refine Tr.weak (Γ' := [(0, (pAgg (cGProblem p_0))), (1, (pEq (.int .i64 budget_1)))]) ⟨rfl, rfl, trivial⟩ ?_
  refine Tr.seq ?_
  refine Tr.region ?_
  refine RegL.pure (p := (pPtr (cGProblem p_0))) rfl rfl rfl (J_boxA rfl (Opd.tmp rfl)) ?_
  refine RegL.pure (p := (pEq (.int .i64 (0 : Int)))) rfl rfl rfl (J_assign rfl Opd.con) ?_
  refine RegL.pure (p := (pEq (.int .i64 (0 : Int)))) rfl rfl rfl (J_assign rfl Opd.con) ?_
  refine RegL.nil ?_
  refine Ct.then_tr ?_
  refine Tr.weak (Γ' := [(1, (pEq (.int .i64 budget_1))), (2, (pPtr (cGProblem p_0)))]) ⟨rfl, rfl, trivial⟩ ?_
  refine Tr.seq ?_
  refine Tr.seq ?_
  refine Tr.region ?_
  replace h := bind_some h; obtain ⟨x1, hx1, h⟩ := h
  refine RegL.pure (p := (pEq (.bool x1))) rfl rfl rfl (J_call rfl Try.call27 (c_spec_l17Ok hx1) (Opds.cons (Opd.tmp rfl) Opds.nil)) ?_
  refine RegL.pure (p := (pEq (.bool (!x1)))) rfl rfl rfl (J_not rfl (Opd.tmp rfl)) ?_
  refine RegL.nil ?_
  refine Ct.then_tr ?_
  refine Tr.weak (Γ' := [(1, (pEq (.int .i64 budget_1))), (2, (pPtr (cGProblem p_0))), (11, (pEq (.bool (!x1))))]) ⟨rfl, rfl, rfl, trivial⟩ ?_
  refine Tr.cond (Opd.tmp rfl) (fun hc => ?_) (fun hc => ?_)
  · replace h := bif_t hc h
    refine Tr.seq ?_
    refine Tr.region ?_
    refine RegL.pure (p := (pEq (.int .i64 (0 : Int)))) rfl rfl rfl (J_assign rfl Opd.con) ?_
    refine RegL.pure (p := (pEq (.int .i64 (1 : Int)))) rfl rfl rfl (J_assign rfl Opd.con) ?_
    refine RegL.nil ?_
    refine Ct.then_tr ?_
    refine Tr.weak (Γ' := [(4, (pEq (.int .i64 (0 : Int)))), (5, (pEq (.int .i64 (1 : Int))))]) ⟨rfl, rfl, trivial⟩ ?_
    refine Tr.ret ?_
    refine Ct.then_ret ?_
    replace h := Option.some.inj h; subst h
    exact Ct.retH2 (Ωx := []) () rfl (RvOk.tmp rfl) (RvOk.tmp rfl) rfl rfl
  · replace h := bif_f hc h
    refine Tr.skip ?_
    refine Ct.then_tr ?_
    refine Tr.weak (Γ' := [(1, (pEq (.int .i64 budget_1))), (2, (pPtr (cGProblem p_0)))]) ⟨rfl, rfl, trivial⟩ ?_
    refine Tr.seq ?_
    refine Tr.seq ?_
    refine Tr.region ?_
    refine RegL.pure (p := (pEq (.int .i64 budget_1))) rfl rfl rfl (J_move rfl (Opd.tmp rfl)) ?_
    replace h := bind_some h; obtain ⟨x2, hx2, h⟩ := h
    refine RegL.pure (p := (pEq (.bool x2))) rfl rfl rfl (J_call rfl Try.call57 (c_spec_l00In hx2) (Opds.cons (Opd.tmp rfl) (Opds.cons Opd.con (Opds.cons Opd.con Opds.nil)))) ?_
    refine RegL.pure (p := (pEq (.bool (!x2)))) rfl rfl rfl (J_not rfl (Opd.tmp rfl)) ?_
    refine RegL.nil ?_
    refine Ct.then_tr ?_
    refine Tr.weak (Γ' := [(1, (pEq (.int .i64 budget_1))), (2, (pPtr (cGProblem p_0))), (14, (pEq (.bool (!x2))))]) ⟨rfl, rfl, rfl, trivial⟩ ?_
    refine Tr.cond (Opd.tmp rfl) (fun hc => ?_) (fun hc => ?_)
    · replace h := bif_t hc h
      refine Tr.seq ?_
      refine Tr.region ?_
      refine RegL.pure (p := (pEq (.int .i64 (0 : Int)))) rfl rfl rfl (J_assign rfl Opd.con) ?_
      refine RegL.pure (p := (pEq (.int .i64 (2 : Int)))) rfl rfl rfl (J_assign rfl Opd.con) ?_
      refine RegL.nil ?_
      refine Ct.then_tr ?_
      refine Tr.weak (Γ' := [(4, (pEq (.int .i64 (0 : Int)))), (5, (pEq (.int .i64 (2 : Int))))]) ⟨rfl, rfl, trivial⟩ ?_
      refine Tr.ret ?_
      refine Ct.then_ret ?_
      replace h := Option.some.inj h; subst h
      exact Ct.retH2 (Ωx := []) () rfl (RvOk.tmp rfl) (RvOk.tmp rfl) rfl rfl
    · replace h := bif_f hc h
      refine Tr.skip ?_
      refine Ct.then_tr ?_
      refine Tr.weak (Γ' := [(1, (pEq (.int .i64 budget_1))), (2, (pPtr (cGProblem p_0)))]) ⟨rfl, rfl, trivial⟩ ?_
      refine Tr.seq ?_
      refine Tr.region ?_
      replace h := bind_some h; obtain ⟨x3, hx3, h⟩ := h
      refine RegL.pure (p := (pSl 1 (cK .i64) x3)) rfl rfl rfl (J_call rfl Try.call58 (c_spec_l17Values hx3) (Opds.cons (Opd.tmp rfl) Opds.nil)) ?_
      refine RegL.pure (p := (pSl 1 (cK .i64) x3)) rfl rfl rfl (J_assign rfl (Opd.tmp rfl)) ?_
      refine RegL.nil ?_
      refine Ct.then_tr ?_
      refine Tr.weak (Γ' := [(1, (pEq (.int .i64 budget_1))), (2, (pPtr (cGProblem p_0))), (6, (pSl 1 (cK .i64) x3))]) ⟨rfl, rfl, rfl, trivial⟩ ?_
      refine Tr.seq ?_
      refine Tr.region ?_
      refine RegL.pure (p := (pEq (.int .i64 (0 : Int)))) rfl rfl rfl (J_assign rfl Opd.con) ?_
      refine RegL.nil ?_
      refine Ct.then_tr ?_
      refine Tr.weak (Γ' := [(1, (pEq (.int .i64 budget_1))), (2, (pPtr (cGProblem p_0))), (6, (pSl 1 (cK .i64) x3)), (7, (pEq (.int .i64 (0 : Int))))]) ⟨rfl, rfl, rfl, rfl, trivial⟩ ?_
      refine Tr.seq ?_
      refine Tr.seq ?_
      refine Tr.region ?_
      refine RegL.pure (p := (pEq (.int .i64 (0 : Int)))) rfl rfl rfl (J_assign rfl Opd.con) ?_
      refine RegL.nil ?_
      refine Ct.then_tr ?_
      refine Tr.weak (Γ' := [(1, (pEq (.int .i64 budget_1))), (2, (pPtr (cGProblem p_0))), (6, (pSl 1 (cK .i64) x3)), (7, (pEq (.int .i64 (0 : Int)))), (8, (pEq (.int .i64 (0 : Int))))]) ⟨rfl, rfl, rfl, rfl, rfl, trivial⟩ ?_
      refine Tr.block ?_
      refine Tr.weak (Γ' := [(1, (pEq (.int .i64 budget_1))), (2, (pPtr (cGProblem p_0))), (6, (pSl 1 (cK .i64) x3)), (7, (pEq (.int .i64 (0 : Int)))), (8, (pEq (.int .i64 (0 : Int))))]) ⟨rfl, rfl, rfl, rfl, rfl, trivial⟩ ?_
      refine Tr.loop (γ := Unit) (σ := (Int × Int)) (Γσ := fun s g => [(1, (pEq (.int .i64 budget_1))), (2, (pPtr (cGProblem p_0))), (6, (pSl 1 (cK .i64) x3)), (7, (pEq (.int .i64 s.1))), (8, (pEq (.int .i64 s.2)))]) (Ωσ := fun s g => []) (g := ()) h ?_
      clear h
      rintro ⟨v5, v6⟩ g7 t h
      replace h : m_spec_CliqueBound_B4 p_0 budget_1 x3 v5 v6 = some t := h
      unfold m_spec_CliqueBound_B4 at h
      refine Tr.weakO (Γ' := [(1, (pEq (.int .i64 budget_1))), (2, (pPtr (cGProblem p_0))), (6, (pSl 1 (cK .i64) x3)), (7, (pEq (.int .i64 v5))), (8, (pEq (.int .i64 v6)))]) (Ω' := []) rfl ⟨rfl, rfl, rfl, rfl, rfl, trivial⟩ ?_
      refine Tr.seq ?_
      refine Tr.seq ?_
      refine Tr.region ?_
      refine RegL.pure (p := (pEq (.int .i64 v6))) rfl rfl rfl (J_move rfl (Opd.tmp rfl)) ?_
      refine RegL.pure (p := (pSl 1 (cK .i64) x3)) rfl rfl rfl (J_move rfl (Opd.tmp rfl)) ?_
      refine RegL.pure (p := (pEq (.int .i64 (x3.length : Int)))) rfl rfl rfl (J_len rfl Try.underlying26 (Opd.tmp rfl) rfl) ?_
      refine RegL.pure (p := (pEq (.bool (decide (v6 < (x3.length : Int)))))) rfl rfl rfl (J_bin rfl (Opd.tmp rfl) (Opd.tmp rfl) B_lss) ?_
      refine RegL.nil ?_
      refine Ct.then_tr ?_
      refine Tr.weak (Γ' := [(1, (pEq (.int .i64 budget_1))), (2, (pPtr (cGProblem p_0))), (6, (pSl 1 (cK .i64) x3)), (7, (pEq (.int .i64 v5))), (8, (pEq (.int .i64 v6))), (19, (pEq (.bool (decide (v6 < (x3.length : Int))))))]) ⟨rfl, rfl, rfl, rfl, rfl, rfl, trivial⟩ ?_
      refine Tr.cond (Opd.tmp rfl) (fun hc => ?_) (fun hc => ?_)
      · replace h := bif_t hc h
        refine Tr.skip ?_
        refine Ct.then_tr ?_
        refine Tr.weak (Γ' := [(1, (pEq (.int .i64 budget_1))), (2, (pPtr (cGProblem p_0))), (6, (pSl 1 (cK .i64) x3)), (7, (pEq (.int .i64 v5))), (8, (pEq (.int .i64 v6)))]) ⟨rfl, rfl, rfl, rfl, rfl, trivial⟩ ?_
        refine Tr.seq ?_
        refine Tr.block ?_
        refine Tr.seq ?_
        refine Tr.region ?_
        refine RegL.pure (p := (pSl 1 (cK .i64) x3)) rfl rfl rfl (J_move rfl (Opd.tmp rfl)) ?_
        refine RegL.pure (p := (pEq (.int .i64 v6))) rfl rfl rfl (J_move rfl (Opd.tmp rfl)) ?_
        replace h := bind_some h; obtain ⟨x8, hx8, h⟩ := h
        refine RegL.pure (p := (pPtr ((cK .i64) x8))) rfl rfl rfl (J_idx rfl Try.underlying26 sz2 (Opd.tmp rfl) (Opd.tmp rfl) hx8) ?_
        refine RegL.pure (p := (pEq (.int .i64 x8))) rfl rfl rfl (J_load rfl Try.isAgg2 (Opd.tmp rfl)) ?_
        refine RegL.pure (p := (pEq (.int .i64 budget_1))) rfl rfl rfl (J_move rfl (Opd.tmp rfl)) ?_
        replace h := bind_some h; obtain ⟨x9, hx9, h⟩ := h
        refine RegL.pure (p := (pPtr (cGL17Search x9))) rfl rfl rfl (J_call rfl Try.call59 (c_spec_l17Clique hx9) (Opds.cons (Opd.tmp rfl) (Opds.cons (Opd.tmp rfl) (Opds.cons (Opd.tmp rfl) Opds.nil)))) ?_
        refine RegL.pure (p := (pPtr (cGL17Search x9))) rfl rfl rfl (J_assign rfl (Opd.tmp rfl)) ?_
        refine RegL.nil ?_
        refine Ct.then_tr ?_
        refine Tr.weak (Γ' := [(1, (pEq (.int .i64 budget_1))), (2, (pPtr (cGProblem p_0))), (6, (pSl 1 (cK .i64) x3)), (7, (pEq (.int .i64 v5))), (8, (pEq (.int .i64 v6))), (9, (pPtr (cGL17Search x9)))]) ⟨rfl, rfl, rfl, rfl, rfl, rfl, trivial⟩ ?_
        refine Tr.seq ?_
        refine Tr.seq ?_
        refine Tr.region ?_
        refine RegL.pure (p := (pPtr (cGL17Search x9))) rfl rfl rfl (J_move rfl (Opd.tmp rfl)) ?_
        refine RegL.pure (p := (pPtr (cGL17Search x9))) rfl rfl rfl (J_nilCheck rfl (Opd.tmp rfl)) ?_
        refine RegL.pure (p := (pPtr ((cK .i64) x9.nodes))) rfl rfl rfl (J_fieldAddr rfl Try.underlying74 rfl sz2 (by decide) (Opd.tmp rfl) rfl) ?_
        refine RegL.pure (p := (pEq (.int .i64 x9.nodes))) rfl rfl rfl (J_load rfl Try.isAgg2 (Opd.tmp rfl)) ?_
        refine RegL.pure (p := (pEq (.int .i64 budget_1))) rfl rfl rfl (J_move rfl (Opd.tmp rfl)) ?_
        refine RegL.pure (p := (pEq (.bool (decide (budget_1 < x9.nodes))))) rfl rfl rfl (J_bin rfl (Opd.tmp rfl) (Opd.tmp rfl) B_gtr) ?_
        refine RegL.nil ?_
        refine Ct.then_tr ?_
        refine Tr.weak (Γ' := [(1, (pEq (.int .i64 budget_1))), (2, (pPtr (cGProblem p_0))), (6, (pSl 1 (cK .i64) x3)), (7, (pEq (.int .i64 v5))), (8, (pEq (.int .i64 v6))), (9, (pPtr (cGL17Search x9))), (33, (pEq (.bool (decide (budget_1 < x9.nodes)))))]) ⟨rfl, rfl, rfl, rfl, rfl, rfl, rfl, trivial⟩ ?_
        refine Tr.cond (Opd.tmp rfl) (fun hc => ?_) (fun hc => ?_)
        · replace h := bif_t hc h
          refine Tr.seq ?_
          refine Tr.region ?_
          refine RegL.pure (p := (pEq (.int .i64 (0 : Int)))) rfl rfl rfl (J_assign rfl Opd.con) ?_
          refine RegL.pure (p := (pEq (.int .i64 (5 : Int)))) rfl rfl rfl (J_assign rfl Opd.con) ?_
          refine RegL.nil ?_
          refine Ct.then_tr ?_
          refine Tr.weak (Γ' := [(4, (pEq (.int .i64 (0 : Int)))), (5, (pEq (.int .i64 (5 : Int))))]) ⟨rfl, rfl, trivial⟩ ?_
          refine Tr.ret ?_
          refine Ct.then_ret ?_
          refine Ct.blk_ret ?_
          refine Ct.then_ret ?_
          replace h := map_some h; obtain ⟨r1, h, rfl⟩ := h
          refine Ct.out_ret fun e => ?_
          subst e
          refine Ct.blk_ret ?_
          refine Ct.then_ret ?_
          replace h := Option.some.inj h; subst h
          exact Ct.retH2 (Ωx := []) () rfl (RvOk.tmp rfl) (RvOk.tmp rfl) rfl rfl
        · replace h := bif_f hc h
          refine Tr.skip ?_
          refine Ct.then_tr ?_
          refine Tr.weak (Γ' := [(1, (pEq (.int .i64 budget_1))), (2, (pPtr (cGProblem p_0))), (6, (pSl 1 (cK .i64) x3)), (7, (pEq (.int .i64 v5))), (8, (pEq (.int .i64 v6))), (9, (pPtr (cGL17Search x9)))]) ⟨rfl, rfl, rfl, rfl, rfl, rfl, trivial⟩ ?_
          replace h := bind_some h; obtain ⟨x10, hx10, h⟩ := h
          replace h := bind_some h; obtain ⟨x11, hx11, h⟩ := h
          refine Tr.drawD (n := 48) (m := 13) (es := [some (Ent.mk [(7, (pEq (.int .i64 v5)))] (pEq (.int .i64 v5)) true), some (Ent.mk [(6, (pSl 1 (cK .i64) x3))] (pSl 1 (cK .i64) x3) true), some (Ent.mk [(8, (pEq (.int .i64 v6)))] (pEq (.int .i64 v6)) true), some (Ent.mk [(35, (pSl 1 (cK .i64) x3)), (36, (pEq (.int .i64 v6)))] (pPtr ((cK .i64) x10)) true), some (Ent.mk [(37, (pPtr ((cK .i64) x10)))] (pEq (.int .i64 x10)) true), some (Ent.mk [(9, (pPtr (cGL17Search x9)))] (pPtr (cGL17Search x9)) true), some (Ent.mk [(39, (pPtr (cGL17Search x9)))] (pPtr (cGL17Search x9)) true), some (Ent.mk [(40, (pPtr (cGL17Search x9)))] (pPtr ((cSl 1 (cK .i64)) x9.best)) true), some (Ent.mk [(41, (pPtr ((cSl 1 (cK .i64)) x9.best)))] (pSl 1 (cK .i64) x9.best) true), some (Ent.mk [(42, (pSl 1 (cK .i64) x9.best))] (pEq (.int .i64 (x9.best.length : Int))) true), some (Ent.mk [(43, (pEq (.int .i64 (x9.best.length : Int))))] (pEq (.int .i64 (w64 ((x9.best.length : Int) - (1 : Int))))) true), some (Ent.mk [(38, (pEq (.int .i64 x10))), (44, (pEq (.int .i64 (w64 ((x9.best.length : Int) - (1 : Int))))))] (pEq (.int .i64 (w64 (x10 * (w64 ((x9.best.length : Int) - (1 : Int))))))) true), some (Ent.mk [(34, (pEq (.int .i64 v5))), (45, (pEq (.int .i64 (w64 (x10 * (w64 ((x9.best.length : Int) - (1 : Int))))))))] (pEq (.int .i64 x11)) true)]) (rd := [[7], [6], [8], [35, 36], [37], [9], [39], [40], [41], [42], [43], [38, 44], [34, 45]]) rfl hmix (by kernel_rfl) fun hD => ?_
          refine RD.fin (es := [Ent.mk [(7, (pEq (.int .i64 v5)))] (pEq (.int .i64 v5)) true, Ent.mk [(6, (pSl 1 (cK .i64) x3))] (pSl 1 (cK .i64) x3) true, Ent.mk [(8, (pEq (.int .i64 v6)))] (pEq (.int .i64 v6)) true, Ent.mk [(35, (pSl 1 (cK .i64) x3)), (36, (pEq (.int .i64 v6)))] (pPtr ((cK .i64) x10)) true, Ent.mk [(37, (pPtr ((cK .i64) x10)))] (pEq (.int .i64 x10)) true, Ent.mk [(9, (pPtr (cGL17Search x9)))] (pPtr (cGL17Search x9)) true, Ent.mk [(39, (pPtr (cGL17Search x9)))] (pPtr (cGL17Search x9)) true, Ent.mk [(40, (pPtr (cGL17Search x9)))] (pPtr ((cSl 1 (cK .i64)) x9.best)) true, Ent.mk [(41, (pPtr ((cSl 1 (cK .i64)) x9.best)))] (pSl 1 (cK .i64) x9.best) true, Ent.mk [(42, (pSl 1 (cK .i64) x9.best))] (pEq (.int .i64 (x9.best.length : Int))) true, Ent.mk [(43, (pEq (.int .i64 (x9.best.length : Int))))] (pEq (.int .i64 (w64 ((x9.best.length : Int) - (1 : Int))))) true, Ent.mk [(38, (pEq (.int .i64 x10))), (44, (pEq (.int .i64 (w64 ((x9.best.length : Int) - (1 : Int))))))] (pEq (.int .i64 (w64 (x10 * (w64 ((x9.best.length : Int) - (1 : Int))))))) true, Ent.mk [(34, (pEq (.int .i64 v5))), (45, (pEq (.int .i64 (w64 (x10 * (w64 ((x9.best.length : Int) - (1 : Int))))))))] (pEq (.int .i64 x11)) true]) (done := []) hD ⟨.inr ⟨(OpJ.w (J_move rfl (Opd.tmp rfl))), ⟨rfl, trivial⟩, rfl, rfl⟩, ⟨.inr ⟨(OpJ.w (J_move rfl (Opd.tmp rfl))), ⟨rfl, trivial⟩, rfl, rfl⟩, ⟨.inr ⟨(OpJ.w (J_move rfl (Opd.tmp rfl))), ⟨rfl, trivial⟩, rfl, rfl⟩, ⟨.inr ⟨(OpJ.w (J_idx rfl Try.underlying26 sz2 (Opd.tmp rfl) (Opd.tmp rfl) hx10)), ⟨rfl, rfl, trivial⟩, rfl, rfl⟩, ⟨.inr ⟨(OpJ.w (J_load rfl Try.isAgg2 (Opd.tmp rfl))), ⟨rfl, trivial⟩, rfl, rfl⟩, ⟨.inr ⟨(OpJ.w (J_move rfl (Opd.tmp rfl))), ⟨rfl, trivial⟩, rfl, rfl⟩, ⟨.inr ⟨(OpJ.w (J_nilCheck rfl (Opd.tmp rfl))), ⟨rfl, trivial⟩, rfl, rfl⟩, ⟨.inr ⟨(OpJ.w (J_fieldAddr rfl Try.underlying74 rfl sz26 (by decide) (Opd.tmp rfl) rfl)), ⟨rfl, trivial⟩, rfl, rfl⟩, ⟨.inr ⟨(OpJ.w (J_load rfl Try.isAgg26 (Opd.tmp rfl))), ⟨rfl, trivial⟩, rfl, rfl⟩, ⟨.inr ⟨(OpJ.w (J_len rfl Try.underlying26 (Opd.tmp rfl) rfl)), ⟨rfl, trivial⟩, rfl, rfl⟩, ⟨.inr ⟨(OpJ.w (J_bin rfl (Opd.tmp rfl) Opd.con B_sub)), ⟨rfl, trivial⟩, rfl, rfl⟩, ⟨.inr ⟨(OpJ.w (J_bin rfl (Opd.tmp rfl) (Opd.tmp rfl) B_mul)), ⟨rfl, rfl, trivial⟩, rfl, rfl⟩, ⟨.inr ⟨(OpJ.w (J_call rfl Try.call60 (c_spec_l00Max hx11) (Opds.cons (Opd.tmp rfl) (Opds.cons (Opd.tmp rfl) Opds.nil)))), ⟨rfl, rfl, trivial⟩, rfl, rfl⟩, trivial⟩⟩⟩⟩⟩⟩⟩⟩⟩⟩⟩⟩⟩ ?_
          refine RegL.pure (p := (pEq (.int .i64 x11))) rfl rfl rfl (J_assign rfl (Opd.tmp rfl)) ?_
          refine RegL.nil ?_
          refine Ct.blk_normal ?_
          refine Ct.then_tr ?_
          refine Tr.weak (Γ' := [(1, (pEq (.int .i64 budget_1))), (2, (pPtr (cGProblem p_0))), (6, (pSl 1 (cK .i64) x3)), (7, (pEq (.int .i64 x11))), (8, (pEq (.int .i64 v6)))]) ⟨rfl, rfl, rfl, rfl, rfl, trivial⟩ ?_
          refine Tr.region ?_
          refine RegL.pure (p := (pEq (.int .i64 v6))) rfl rfl rfl (J_move rfl (Opd.tmp rfl)) ?_
          refine RegL.pure (p := (pEq (.int .i64 (w64 (v6 + (1 : Int)))))) rfl rfl rfl (J_bin rfl (Opd.tmp rfl) Opd.con B_add) ?_
          refine RegL.pure (p := (pEq (.int .i64 (w64 (v6 + (1 : Int)))))) rfl rfl rfl (J_assign rfl (Opd.tmp rfl)) ?_
          refine RegL.nil ?_
          replace h := Option.some.inj h; subst h
          exact Ct.again () rfl ⟨rfl, rfl, rfl, rfl, rfl, trivial⟩
      · replace h := bif_f hc h
        refine Tr.exit ?_
        refine Ct.then_exit ?_
        replace h := map_some h; obtain ⟨r1, h, rfl⟩ := h
        refine Ct.out_exit fun e => ?_
        subst e
        refine Ct.blk_exit ?_
        refine Ct.then_tr ?_
        refine Tr.weak (Γ' := [(7, (pEq (.int .i64 v5)))]) ⟨rfl, trivial⟩ ?_
        refine Tr.seq ?_
        refine Tr.region ?_
        refine RegL.pure (p := (pEq (.int .i64 v5))) rfl rfl rfl (J_move rfl (Opd.tmp rfl)) ?_
        refine RegL.pure (p := (pEq (.int .i64 v5))) rfl rfl rfl (J_assign rfl (Opd.tmp rfl)) ?_
        refine RegL.pure (p := (pEq (.int .i64 (0 : Int)))) rfl rfl rfl (J_assign rfl Opd.con) ?_
        refine RegL.nil ?_
        refine Ct.then_tr ?_
        refine Tr.weak (Γ' := [(4, (pEq (.int .i64 v5))), (5, (pEq (.int .i64 (0 : Int))))]) ⟨rfl, rfl, trivial⟩ ?_
        refine Tr.ret ?_
        replace h := Option.some.inj h; subst h
        exact Ct.retH2 (Ωx := []) () rfl (RvOk.tmp rfl) (RvOk.tmp rfl) rfl rfl

theorem c_slices_IndexFunc_SSint64_int64 {s_0 : (List (List Int))} {f_1 : ((List Int) → Option Bool)} {r : Int} (h : m_slices_IndexFunc_SSint64_int64 s_0 f_1 = some r) : CallJ Try.prog 116 [(pSl 1 (cSl 1 (cK .i64)) s_0), (pFn Try.prog (fun x => [(pSl 1 (cK .i64) x)]) f_1 (fun y => (pEq (.bool y))))] (pEq (.int .i64 r)) := by
  unfold m_slices_IndexFunc_SSint64_int64 at h
  refine CallJ.enterH Try.func116 rfl Try.ntmps116 rfl fun W I0 H => ?_
  refine Tr.weak (Γ' := [(0, (pSl 1 (cSl 1 (cK .i64)) s_0)), (1, (pFn Try.prog (fun x => [(pSl 1 (cK .i64) x)]) f_1 (fun y => (pEq (.bool y)))))]) ⟨rfl, rfl, trivial⟩ ?_
  refine Tr.seq ?_
  refine Tr.region ?_
  refine RegL.pure (p := (pEq (.int .i64 (0 : Int)))) rfl rfl rfl (J_assign rfl Opd.con) ?_
  refine RegL.nil ?_
  refine Ct.then_tr ?_
  refine Tr.weak (Γ' := [(0, (pSl 1 (cSl 1 (cK .i64)) s_0)), (1, (pFn Try.prog (fun x => [(pSl 1 (cK .i64) x)]) f_1 (fun y => (pEq (.bool y)))))]) ⟨rfl, rfl, trivial⟩ ?_
  refine Tr.seq ?_
  refine Tr.seq ?_
  refine Tr.region ?_
  refine RegL.pure (p := (pSl 1 (cSl 1 (cK .i64)) s_0)) rfl rfl rfl (J_move rfl (Opd.tmp rfl)) ?_
  refine RegL.pure (p := (pEq (.int .i64 (s_0.length : Int)))) rfl rfl rfl (J_len rfl Try.underlying22 (Opd.tmp rfl) rfl) ?_
  refine RegL.pure (p := (pEq (.int .i64 (0 : Int)))) rfl rfl rfl (J_move rfl Opd.con) ?_
  refine RegL.nil ?_
  refine Ct.then_tr ?_
  refine Tr.weak (Γ' := [(0, (pSl 1 (cSl 1 (cK .i64)) s_0)), (1, (pFn Try.prog (fun x => [(pSl 1 (cK .i64) x)]) f_1 (fun y => (pEq (.bool y))))), (7, (pEq (.int .i64 (s_0.length : Int)))), (8, (pEq (.int .i64 (0 : Int))))]) ⟨rfl, rfl, rfl, rfl, trivial⟩ ?_
  refine Tr.block ?_
  refine Tr.weak (Γ' := [(0, (pSl 1 (cSl 1 (cK .i64)) s_0)), (1, (pFn Try.prog (fun x => [(pSl 1 (cK .i64) x)]) f_1 (fun y => (pEq (.bool y))))), (7, (pEq (.int .i64 (s_0.length : Int)))), (8, (pEq (.int .i64 (0 : Int))))]) ⟨rfl, rfl, rfl, rfl, trivial⟩ ?_
  refine Tr.loop (γ := Unit) (σ := Int) (Γσ := fun s g => [(0, (pSl 1 (cSl 1 (cK .i64)) s_0)), (1, (pFn Try.prog (fun x => [(pSl 1 (cK .i64) x)]) f_1 (fun y => (pEq (.bool y))))), (7, (pEq (.int .i64 (s_0.length : Int)))), (8, (pEq (.int .i64 s)))]) (Ωσ := fun s g => []) (g := ()) h ?_
  clear h
  rintro v2 g3 t h
  replace h : m_slices_IndexFunc_SSint64_int64_B1 s_0 f_1 v2 = some t := h
  unfold m_slices_IndexFunc_SSint64_int64_B1 at h
  refine Tr.weakO (Γ' := [(0, (pSl 1 (cSl 1 (cK .i64)) s_0)), (1, (pFn Try.prog (fun x => [(pSl 1 (cK .i64) x)]) f_1 (fun y => (pEq (.bool y))))), (7, (pEq (.int .i64 (s_0.length : Int)))), (8, (pEq (.int .i64 v2)))]) (Ω' := []) rfl ⟨rfl, rfl, rfl, rfl, trivial⟩ ?_
  refine Tr.seq ?_
  refine Tr.region ?_
  refine RegL.pure (p := (pEq (.bool (decide (v2 < (s_0.length : Int)))))) rfl rfl rfl (J_bin rfl (Opd.tmp rfl) (Opd.tmp rfl) B_lss) ?_
  refine RegL.nil ?_
  refine Ct.then_tr ?_
  refine Tr.weak (Γ' := [(0, (pSl 1 (cSl 1 (cK .i64)) s_0)), (1, (pFn Try.prog (fun x => [(pSl 1 (cK .i64) x)]) f_1 (fun y => (pEq (.bool y))))), (7, (pEq (.int .i64 (s_0.length : Int)))), (8, (pEq (.int .i64 v2))), (9, (pEq (.bool (decide (v2 < (s_0.length : Int))))))]) ⟨rfl, rfl, rfl, rfl, rfl, trivial⟩ ?_
  refine Tr.seq ?_
  refine Tr.cond (Opd.tmp rfl) (fun hc => ?_) (fun hc => ?_)
  · replace h := bif_t hc h
    refine Tr.skip ?_
    refine Ct.then_tr ?_
    refine Tr.weak (Γ' := [(0, (pSl 1 (cSl 1 (cK .i64)) s_0)), (1, (pFn Try.prog (fun x => [(pSl 1 (cK .i64) x)]) f_1 (fun y => (pEq (.bool y))))), (7, (pEq (.int .i64 (s_0.length : Int)))), (8, (pEq (.int .i64 v2)))]) ⟨rfl, rfl, rfl, rfl, trivial⟩ ?_
    refine Tr.seq ?_
    refine Tr.block ?_
    refine Tr.seq ?_
    refine Tr.region ?_
    refine RegL.pure (p := (pEq (.int .i64 v2))) rfl rfl rfl (J_move rfl (Opd.tmp rfl)) ?_
    refine RegL.pure (p := (pEq (.int .i64 v2))) rfl rfl rfl (J_assign rfl (Opd.tmp rfl)) ?_
    refine RegL.nil ?_
    refine Ct.then_tr ?_
    refine Tr.weak (Γ' := [(0, (pSl 1 (cSl 1 (cK .i64)) s_0)), (1, (pFn Try.prog (fun x => [(pSl 1 (cK .i64) x)]) f_1 (fun y => (pEq (.bool y))))), (5, (pEq (.int .i64 v2))), (7, (pEq (.int .i64 (s_0.length : Int)))), (8, (pEq (.int .i64 v2)))]) ⟨rfl, rfl, rfl, rfl, rfl, trivial⟩ ?_
    refine Tr.seq ?_
    refine Tr.region ?_
    refine RegL.pure (p := (pFn Try.prog (fun x => [(pSl 1 (cK .i64) x)]) f_1 (fun y => (pEq (.bool y))))) rfl rfl rfl (J_move rfl (Opd.tmp rfl)) ?_
    refine RegL.pure (p := (pSl 1 (cSl 1 (cK .i64)) s_0)) rfl rfl rfl (J_move rfl (Opd.tmp rfl)) ?_
    refine RegL.pure (p := (pEq (.int .i64 v2))) rfl rfl rfl (J_move rfl (Opd.tmp rfl)) ?_
    replace h := bind_some h; obtain ⟨x4, hx4, h⟩ := h
    refine RegL.pure (p := (pPtr ((cSl 1 (cK .i64)) x4))) rfl rfl rfl (J_idx rfl Try.underlying22 sz26 (Opd.tmp rfl) (Opd.tmp rfl) hx4) ?_
    refine RegL.pure (p := (pSl 1 (cK .i64) x4)) rfl rfl rfl (J_load rfl Try.isAgg26 (Opd.tmp rfl)) ?_
    replace h := bind_some h; obtain ⟨x5, hx5, h⟩ := h
    refine RegL.pure (p := (pEq (.bool x5))) rfl rfl rfl (J_callv (x := x4) rfl (Opd.tmp rfl) rfl (Opds.cons (Opd.tmp rfl) Opds.nil) hx5 rfl) ?_
    refine RegL.nil ?_
    refine Ct.then_tr ?_
    refine Tr.weak (Γ' := [(0, (pSl 1 (cSl 1 (cK .i64)) s_0)), (1, (pFn Try.prog (fun x => [(pSl 1 (cK .i64) x)]) f_1 (fun y => (pEq (.bool y))))), (5, (pEq (.int .i64 v2))), (7, (pEq (.int .i64 (s_0.length : Int)))), (8, (pEq (.int .i64 v2))), (16, (pEq (.bool x5)))]) ⟨rfl, rfl, rfl, rfl, rfl, rfl, trivial⟩ ?_
    refine Tr.cond (Opd.tmp rfl) (fun hc => ?_) (fun hc => ?_)
    · replace h := bif_t hc h
      refine Tr.seq ?_
      refine Tr.region ?_
      refine RegL.pure (p := (pEq (.int .i64 v2))) rfl rfl rfl (J_move rfl (Opd.tmp rfl)) ?_
      refine RegL.pure (p := (pEq (.int .i64 v2))) rfl rfl rfl (J_assign rfl (Opd.tmp rfl)) ?_
      refine RegL.nil ?_
      refine Ct.then_tr ?_
      refine Tr.weak (Γ' := [(4, (pEq (.int .i64 v2)))]) ⟨rfl, trivial⟩ ?_
      refine Tr.ret ?_
      refine Ct.blk_ret ?_
      refine Ct.then_ret ?_
      replace h := map_some h; obtain ⟨r1, h, rfl⟩ := h
      refine Ct.out_ret fun e => ?_
      subst e
      refine Ct.blk_ret ?_
      refine Ct.then_ret ?_
      replace h := Option.some.inj h; subst h
      exact Ct.retH1 (Ωx := []) () rfl (RvOk.tmp rfl) rfl
    · replace h := bif_f hc h
      refine Tr.skip ?_
      refine Ct.blk_normal ?_
      refine Ct.then_tr ?_
      refine Tr.weak (Γ' := [(0, (pSl 1 (cSl 1 (cK .i64)) s_0)), (1, (pFn Try.prog (fun x => [(pSl 1 (cK .i64) x)]) f_1 (fun y => (pEq (.bool y))))), (7, (pEq (.int .i64 (s_0.length : Int)))), (8, (pEq (.int .i64 v2)))]) ⟨rfl, rfl, rfl, rfl, trivial⟩ ?_
      refine Tr.region ?_
      refine RegL.pure (p := (pEq (.int .i64 (w64 (v2 + (1 : Int)))))) rfl rfl rfl (J_bin rfl (Opd.tmp rfl) Opd.con B_add) ?_
      refine RegL.pure (p := (pEq (.int .i64 (w64 (v2 + (1 : Int)))))) rfl rfl rfl (J_move rfl (Opd.tmp rfl)) ?_
      refine RegL.nil ?_
      replace h := Option.some.inj h; subst h
      exact Ct.again () rfl ⟨rfl, rfl, rfl, rfl, trivial⟩
  · replace h := bif_f hc h
    refine Tr.exit ?_
    refine Ct.then_exit ?_
    replace h := map_some h; obtain ⟨r1, h, rfl⟩ := h
    refine Ct.out_exit fun e => ?_
    subst e
    refine Ct.blk_exit ?_
    refine Ct.then_tr ?_
    refine Tr.weak (Γ' := []) trivial ?_
    refine Tr.seq ?_
    refine Tr.region ?_
    refine RegL.pure (p := (pEq (.int .i64 (-1 : Int)))) rfl rfl rfl (J_assign rfl Opd.con) ?_
    refine RegL.nil ?_
    refine Ct.then_tr ?_
    refine Tr.weak (Γ' := [(4, (pEq (.int .i64 (-1 : Int))))]) ⟨rfl, trivial⟩ ?_
    refine Tr.ret ?_
    replace h := Option.some.inj h; subst h
    exact Ct.retH1 (Ωx := []) () rfl (RvOk.tmp rfl) rfl

theorem c_slices_ContainsFunc_SSint64_int64 {s_0 : (List (List Int))} {f_1 : ((List Int) → Option Bool)} {r : Bool} (h : m_slices_ContainsFunc_SSint64_int64 s_0 f_1 = some r) : CallJ Try.prog 90 [(pSl 1 (cSl 1 (cK .i64)) s_0), (pFn Try.prog (fun x => [(pSl 1 (cK .i64) x)]) f_1 (fun y => (pEq (.bool y))))] (pEq (.bool r)) := by
  unfold m_slices_ContainsFunc_SSint64_int64 at h
  refine CallJ.enterH Try.func90 rfl Try.ntmps90 rfl fun W I0 H => ?_
  refine Tr.weak (Γ' := [(0, (pSl 1 (cSl 1 (cK .i64)) s_0)), (1, (pFn Try.prog (fun x => [(pSl 1 (cK .i64) x)]) f_1 (fun y => (pEq (.bool y)))))]) ⟨rfl, rfl, trivial⟩ ?_
  refine Tr.seq ?_
  refine Tr.region ?_
  refine RegL.pure (p := (pEq (.bool false))) rfl rfl rfl (J_assign rfl Opd.con) ?_
  refine RegL.nil ?_
  refine Ct.then_tr ?_
  refine Tr.weak (Γ' := [(0, (pSl 1 (cSl 1 (cK .i64)) s_0)), (1, (pFn Try.prog (fun x => [(pSl 1 (cK .i64) x)]) f_1 (fun y => (pEq (.bool y)))))]) ⟨rfl, rfl, trivial⟩ ?_
  refine Tr.seq ?_
  refine Tr.region ?_
  refine RegL.pure (p := (pSl 1 (cSl 1 (cK .i64)) s_0)) rfl rfl rfl (J_move rfl (Opd.tmp rfl)) ?_
  refine RegL.pure (p := (pFn Try.prog (fun x => [(pSl 1 (cK .i64) x)]) f_1 (fun y => (pEq (.bool y))))) rfl rfl rfl (J_move rfl (Opd.tmp rfl)) ?_
  replace h := bind_some h; obtain ⟨x1, hx1, h⟩ := h
  refine RegL.pure (p := (pEq (.int .i64 x1))) rfl rfl rfl (J_call rfl Try.call116 (c_slices_IndexFunc_SSint64_int64 hx1) (Opds.cons (Opd.tmp rfl) (Opds.cons (Opd.tmp rfl) Opds.nil))) ?_
  refine RegL.pure (p := (pEq (.bool (decide ((0 : Int) ≤ x1))))) rfl rfl rfl (J_bin rfl (Opd.tmp rfl) Opd.con B_geq) ?_
  refine RegL.pure (p := (pEq (.bool (decide ((0 : Int) ≤ x1))))) rfl rfl rfl (J_assign rfl (Opd.tmp rfl)) ?_
  refine RegL.nil ?_
  refine Ct.then_tr ?_
  refine Tr.weak (Γ' := [(4, (pEq (.bool (decide ((0 : Int) ≤ x1)))))]) ⟨rfl, trivial⟩ ?_
  refine Tr.ret ?_
  replace h := Option.some.inj h; subst h
  exact Ct.retH1 (Ωx := []) () rfl (RvOk.tmp rfl) rfl

theorem c_impl_increasing {list_0 : (List Int)} {r : Bool} (h : m_impl_increasing list_0 = some r) : CallJ Try.prog 117 [(pSl 1 (cK .i64) list_0)] (pEq (.bool r)) := by
  unfold m_impl_increasing at h
  refine CallJ.enterH Try.func117 rfl Try.ntmps117 rfl fun W I0 H => ?_
  refine Tr.weak (Γ' := [(0, (pSl 1 (cK .i64) list_0))]) ⟨rfl, trivial⟩ ?_
  refine Tr.seq ?_
  refine Tr.region ?_
  refine RegL.pure (p := (pEq (.bool false))) rfl rfl rfl (J_assign rfl Opd.con) ?_
  refine RegL.nil ?_
  refine Ct.then_tr ?_
  refine Tr.weak (Γ' := [(0, (pSl 1 (cK .i64) list_0))]) ⟨rfl, trivial⟩ ?_
  refine Tr.seq ?_
  refine Tr.seq ?_
  refine Tr.region ?_
  refine RegL.pure (p := (pEq (.int .i64 (1 : Int)))) rfl rfl rfl (J_assign rfl Opd.con) ?_
  refine RegL.nil ?_
  refine Ct.then_tr ?_
  refine Tr.weak (Γ' := [(0, (pSl 1 (cK .i64) list_0)), (3, (pEq (.int .i64 (1 : Int))))]) ⟨rfl, rfl, trivial⟩ ?_
  refine Tr.block ?_
  refine Tr.weak (Γ' := [(0, (pSl 1 (cK .i64) list_0)), (3, (pEq (.int .i64 (1 : Int))))]) ⟨rfl, rfl, trivial⟩ ?_
  refine Tr.loop (γ := Unit) (σ := Int) (Γσ := fun s g => [(0, (pSl 1 (cK .i64) list_0)), (3, (pEq (.int .i64 s)))]) (Ωσ := fun s g => []) (g := ()) h ?_
  clear h
  rintro v2 g3 t h
  replace h : m_impl_increasing_B1 list_0 v2 = some t := h
  unfold m_impl_increasing_B1 at h
  refine Tr.weakO (Γ' := [(0, (pSl 1 (cK .i64) list_0)), (3, (pEq (.int .i64 v2)))]) (Ω' := []) rfl ⟨rfl, rfl, trivial⟩ ?_
  refine Tr.seq ?_
  refine Tr.seq ?_
  refine Tr.region ?_
  refine RegL.pure (p := (pEq (.int .i64 v2))) rfl rfl rfl (J_move rfl (Opd.tmp rfl)) ?_
  refine RegL.pure (p := (pSl 1 (cK .i64) list_0)) rfl rfl rfl (J_move rfl (Opd.tmp rfl)) ?_
  refine RegL.pure (p := (pEq (.int .i64 (list_0.length : Int)))) rfl rfl rfl (J_len rfl Try.underlying26 (Opd.tmp rfl) rfl) ?_
  refine RegL.pure (p := (pEq (.bool (decide (v2 < (list_0.length : Int)))))) rfl rfl rfl (J_bin rfl (Opd.tmp rfl) (Opd.tmp rfl) B_lss) ?_
  refine RegL.nil ?_
  refine Ct.then_tr ?_
  refine Tr.weak (Γ' := [(0, (pSl 1 (cK .i64) list_0)), (3, (pEq (.int .i64 v2))), (7, (pEq (.bool (decide (v2 < (list_0.length : Int))))))]) ⟨rfl, rfl, rfl, trivial⟩ ?_
  refine Tr.cond (Opd.tmp rfl) (fun hc => ?_) (fun hc => ?_)
  · replace h := bif_t hc h
    refine Tr.skip ?_
    refine Ct.then_tr ?_
    refine Tr.weak (Γ' := [(0, (pSl 1 (cK .i64) list_0)), (3, (pEq (.int .i64 v2)))]) ⟨rfl, rfl, trivial⟩ ?_
    refine Tr.seq ?_
    refine Tr.block ?_
    refine Tr.seq ?_
    replace h := bind_some h; obtain ⟨x4, hx4, h⟩ := h
    replace h := bind_some h; obtain ⟨x5, hx5, h⟩ := h
    refine Tr.drawD (n := 20) (m := 10) (es := [some (Ent.mk [(0, (pSl 1 (cK .i64) list_0))] (pSl 1 (cK .i64) list_0) true), some (Ent.mk [(3, (pEq (.int .i64 v2)))] (pEq (.int .i64 v2)) true), some (Ent.mk [(10, (pSl 1 (cK .i64) list_0)), (11, (pEq (.int .i64 v2)))] (pPtr ((cK .i64) x4)) true), some (Ent.mk [(12, (pPtr ((cK .i64) x4)))] (pEq (.int .i64 x4)) true), some (Ent.mk [(0, (pSl 1 (cK .i64) list_0))] (pSl 1 (cK .i64) list_0) true), some (Ent.mk [(3, (pEq (.int .i64 v2)))] (pEq (.int .i64 v2)) true), some (Ent.mk [(15, (pEq (.int .i64 v2)))] (pEq (.int .i64 (w64 (v2 - (1 : Int))))) true), some (Ent.mk [(14, (pSl 1 (cK .i64) list_0)), (16, (pEq (.int .i64 (w64 (v2 - (1 : Int))))))] (pPtr ((cK .i64) x5)) true), some (Ent.mk [(17, (pPtr ((cK .i64) x5)))] (pEq (.int .i64 x5)) true), some (Ent.mk [(13, (pEq (.int .i64 x4))), (18, (pEq (.int .i64 x5)))] (pEq (.bool (decide (x4 ≤ x5)))) true)]) (rd := [[0], [3], [10, 11], [12], [0], [3], [15], [14, 16], [17], [13, 18]]) rfl hmix (by kernel_rfl) fun hD => ?_
    refine RD.fin (es := [Ent.mk [(0, (pSl 1 (cK .i64) list_0))] (pSl 1 (cK .i64) list_0) true, Ent.mk [(3, (pEq (.int .i64 v2)))] (pEq (.int .i64 v2)) true, Ent.mk [(10, (pSl 1 (cK .i64) list_0)), (11, (pEq (.int .i64 v2)))] (pPtr ((cK .i64) x4)) true, Ent.mk [(12, (pPtr ((cK .i64) x4)))] (pEq (.int .i64 x4)) true, Ent.mk [(0, (pSl 1 (cK .i64) list_0))] (pSl 1 (cK .i64) list_0) true, Ent.mk [(3, (pEq (.int .i64 v2)))] (pEq (.int .i64 v2)) true, Ent.mk [(15, (pEq (.int .i64 v2)))] (pEq (.int .i64 (w64 (v2 - (1 : Int))))) true, Ent.mk [(14, (pSl 1 (cK .i64) list_0)), (16, (pEq (.int .i64 (w64 (v2 - (1 : Int))))))] (pPtr ((cK .i64) x5)) true, Ent.mk [(17, (pPtr ((cK .i64) x5)))] (pEq (.int .i64 x5)) true, Ent.mk [(13, (pEq (.int .i64 x4))), (18, (pEq (.int .i64 x5)))] (pEq (.bool (decide (x4 ≤ x5)))) true]) (done := []) hD ⟨.inr ⟨(OpJ.w (J_move rfl (Opd.tmp rfl))), ⟨rfl, trivial⟩, rfl, rfl⟩, ⟨.inr ⟨(OpJ.w (J_move rfl (Opd.tmp rfl))), ⟨rfl, trivial⟩, rfl, rfl⟩, ⟨.inr ⟨(OpJ.w (J_idx rfl Try.underlying26 sz2 (Opd.tmp rfl) (Opd.tmp rfl) hx4)), ⟨rfl, rfl, trivial⟩, rfl, rfl⟩, ⟨.inr ⟨(OpJ.w (J_load rfl Try.isAgg2 (Opd.tmp rfl))), ⟨rfl, trivial⟩, rfl, rfl⟩, ⟨.inr ⟨(OpJ.w (J_move rfl (Opd.tmp rfl))), ⟨rfl, trivial⟩, rfl, rfl⟩, ⟨.inr ⟨(OpJ.w (J_move rfl (Opd.tmp rfl))), ⟨rfl, trivial⟩, rfl, rfl⟩, ⟨.inr ⟨(OpJ.w (J_bin rfl (Opd.tmp rfl) Opd.con B_sub)), ⟨rfl, trivial⟩, rfl, rfl⟩, ⟨.inr ⟨(OpJ.w (J_idx rfl Try.underlying26 sz2 (Opd.tmp rfl) (Opd.tmp rfl) hx5)), ⟨rfl, rfl, trivial⟩, rfl, rfl⟩, ⟨.inr ⟨(OpJ.w (J_load rfl Try.isAgg2 (Opd.tmp rfl))), ⟨rfl, trivial⟩, rfl, rfl⟩, ⟨.inr ⟨(OpJ.w (J_bin rfl (Opd.tmp rfl) (Opd.tmp rfl) B_leq)), ⟨rfl, rfl, trivial⟩, rfl, rfl⟩, trivial⟩⟩⟩⟩⟩⟩⟩⟩⟩⟩ ?_
    refine RegL.nil ?_
    refine Ct.then_tr ?_
    refine Tr.weak (Γ' := [(0, (pSl 1 (cK .i64) list_0)), (3, (pEq (.int .i64 v2))), (19, (pEq (.bool (decide (x4 ≤ x5)))))]) ⟨rfl, rfl, rfl, trivial⟩ ?_
    refine Tr.cond (Opd.tmp rfl) (fun hc => ?_) (fun hc => ?_)
    · replace h := bif_t hc h
      refine Tr.seq ?_
      refine Tr.region ?_
      refine RegL.pure (p := (pEq (.bool false))) rfl rfl rfl (J_assign rfl Opd.con) ?_
      refine RegL.nil ?_
      refine Ct.then_tr ?_
      refine Tr.weak (Γ' := [(2, (pEq (.bool false)))]) ⟨rfl, trivial⟩ ?_
      refine Tr.ret ?_
      refine Ct.blk_ret ?_
      refine Ct.then_ret ?_
      replace h := map_some h; obtain ⟨r1, h, rfl⟩ := h
      refine Ct.out_ret fun e => ?_
      subst e
      refine Ct.blk_ret ?_
      refine Ct.then_ret ?_
      replace h := Option.some.inj h; subst h
      exact Ct.retH1 (Ωx := []) () rfl (RvOk.tmp rfl) rfl
    · replace h := bif_f hc h
      refine Tr.skip ?_
      refine Ct.blk_normal ?_
      refine Ct.then_tr ?_
      refine Tr.weak (Γ' := [(0, (pSl 1 (cK .i64) list_0)), (3, (pEq (.int .i64 v2)))]) ⟨rfl, rfl, trivial⟩ ?_
      refine Tr.region ?_
      refine RegL.pure (p := (pEq (.int .i64 v2))) rfl rfl rfl (J_move rfl (Opd.tmp rfl)) ?_
      refine RegL.pure (p := (pEq (.int .i64 (w64 (v2 + (1 : Int)))))) rfl rfl rfl (J_bin rfl (Opd.tmp rfl) Opd.con B_add) ?_
      refine RegL.pure (p := (pEq (.int .i64 (w64 (v2 + (1 : Int)))))) rfl rfl rfl (J_assign rfl (Opd.tmp rfl)) ?_
      refine RegL.nil ?_
      replace h := Option.some.inj h; subst h
      exact Ct.again () rfl ⟨rfl, rfl, trivial⟩
  · replace h := bif_f hc h
    refine Tr.exit ?_
    refine Ct.then_exit ?_
    replace h := map_some h; obtain ⟨r1, h, rfl⟩ := h
    refine Ct.out_exit fun e => ?_
    subst e
    refine Ct.blk_exit ?_
    refine Ct.then_tr ?_
    refine Tr.weak (Γ' := []) trivial ?_
    refine Tr.seq ?_
    refine Tr.region ?_
    refine RegL.pure (p := (pEq (.bool true))) rfl rfl rfl (J_assign rfl Opd.con) ?_
    refine RegL.nil ?_
    refine Ct.then_tr ?_
    refine Tr.weak (Γ' := [(2, (pEq (.bool true)))]) ⟨rfl, trivial⟩ ?_
    refine Tr.ret ?_
    replace h := Option.some.inj h; subst h
    exact Ct.retH1 (Ωx := []) () rfl (RvOk.tmp rfl) rfl

theorem c_impl_within {n_0 : Int} {low_1 : Int} {high_2 : Int} {r : Bool} (h : m_impl_within n_0 low_1 high_2 = some r) : CallJ Try.prog 80 [(pEq (.int .i64 n_0)), (pEq (.int .i64 low_1)), (pEq (.int .i64 high_2))] (pEq (.bool r)) := by
  unfold m_impl_within at h
  refine CallJ.enterH Try.func80 rfl Try.ntmps80 rfl fun W I0 H => ?_
  refine Tr.weak (Γ' := [(0, (pEq (.int .i64 n_0))), (1, (pEq (.int .i64 low_1))), (2, (pEq (.int .i64 high_2)))]) ⟨rfl, rfl, rfl, trivial⟩ ?_
  refine Tr.seq ?_
  refine Tr.region ?_
  refine RegL.pure (p := (pEq (.bool false))) rfl rfl rfl (J_assign rfl Opd.con) ?_
  refine RegL.nil ?_
  refine Ct.then_tr ?_
  refine Tr.weak (Γ' := [(0, (pEq (.int .i64 n_0))), (1, (pEq (.int .i64 low_1))), (2, (pEq (.int .i64 high_2)))]) ⟨rfl, rfl, rfl, trivial⟩ ?_
  refine Tr.seq ?_
  replace h := bind_some h; obtain ⟨x1, hx1, h⟩ := h
  refine Tr.cut (γ := Unit) (Γm := fun g => [(6, (pEq (.bool x1)))]) (Ωm := fun g => []) ?_ (fun g3 => ?_)
  · clear h
    have h := hx1
    clear hx1
    refine Tr.region ?_
    refine RegL.pure (p := (pEq (.int .i64 n_0))) rfl rfl rfl (J_move rfl (Opd.tmp rfl)) ?_
    refine RegL.pure (p := (pEq (.int .i64 low_1))) rfl rfl rfl (J_move rfl (Opd.tmp rfl)) ?_
    refine RegL.pure (p := (pEq (.bool (decide (low_1 ≤ n_0))))) rfl rfl rfl (J_bin rfl (Opd.tmp rfl) (Opd.tmp rfl) B_geq) ?_
    refine RegL.pure (p := (pEq (.bool (decide (low_1 ≤ n_0))))) rfl rfl rfl (J_move rfl (Opd.tmp rfl)) ?_
    rcases Bool.eq_false_or_eq_true (decide (low_1 ≤ n_0)) with hc2 | hc2
    · replace h := bif_t hc2 h
      refine RegL.pureG (p := (pEq (.int .i64 n_0))) rfl rfl rfl hc2 rfl rfl (J_move rfl (Opd.tmp rfl)) ?_
      refine RegL.pureG (p := (pEq (.int .i64 high_2))) rfl rfl rfl hc2 rfl rfl (J_move rfl (Opd.tmp rfl)) ?_
      refine RegL.pureG (p := (pEq (.bool (decide (n_0 ≤ high_2))))) rfl rfl rfl hc2 rfl rfl (J_bin rfl (Opd.tmp rfl) (Opd.tmp rfl) B_leq) ?_
      refine RegL.pure (p := (pEq (.bool (decide (n_0 ≤ high_2))))) rfl rfl rfl (J_pick rfl (Opd.tmp rfl) (fun _ => (Opd.tmp rfl)) (fun hf => absurd (hc2.symm.trans hf) (by decide))) ?_
      refine RegL.pure (p := (pEq (.bool (decide (n_0 ≤ high_2))))) rfl rfl rfl (J_assign rfl (Opd.tmp rfl)) ?_
      refine RegL.nil ?_
      replace h := Option.some.inj h; subst h
      exact Ct.mid () rfl ⟨rfl, trivial⟩
    · replace h := bif_f hc2 h
      refine RegL.skipG rfl rfl rfl hc2 rfl rfl ?_
      refine RegL.skipG rfl rfl rfl hc2 rfl rfl ?_
      refine RegL.skipG rfl rfl rfl hc2 rfl rfl ?_
      refine RegL.pure (p := (pEq (.bool false))) rfl rfl rfl (J_pick rfl (Opd.tmp rfl) (fun hf => absurd (hc2.symm.trans hf) (by decide)) (fun _ => Opd.con)) ?_
      refine RegL.pure (p := (pEq (.bool false))) rfl rfl rfl (J_assign rfl (Opd.tmp rfl)) ?_
      refine RegL.nil ?_
      replace h := Option.some.inj h; subst h
      exact Ct.mid () rfl ⟨rfl, trivial⟩
  · clear hx1
    refine Ct.then_tr ?_
    refine Tr.weak (Γ' := [(6, (pEq (.bool x1)))]) ⟨rfl, trivial⟩ ?_
    refine Tr.ret ?_
    replace h := Option.some.inj h; subst h
    exact Ct.retH1 (Ωx := []) () rfl (RvOk.tmp rfl) rfl

theorem c_impl_allWithin_1 {n_0 : Int} {a_1 : Int} {a_2 : Int} {r : Bool} (h : m_impl_allWithin_1 n_0 a_1 a_2 = some r) : CallJ Try.prog 94 [(pEq (.int .i64 n_0)), (pPtr ((cK .i64) a_1)), (pPtr ((cK .i64) a_2))] (pEq (.bool r)) := by
  unfold m_impl_allWithin_1 at h
  refine CallJ.enterH Try.func94 rfl Try.ntmps94 rfl fun W I0 H => ?_
  refine Tr.weak (Γ' := [(0, (pEq (.int .i64 n_0))), (1, (pPtr ((cK .i64) a_1))), (2, (pPtr ((cK .i64) a_2)))]) ⟨rfl, rfl, rfl, trivial⟩ ?_
  refine Tr.seq ?_
  refine Tr.region ?_
  refine RegL.pure (p := (pEq (.bool false))) rfl rfl rfl (J_assign rfl Opd.con) ?_
  refine RegL.nil ?_
  refine Ct.then_tr ?_
  refine Tr.weak (Γ' := [(0, (pEq (.int .i64 n_0))), (1, (pPtr ((cK .i64) a_1))), (2, (pPtr ((cK .i64) a_2)))]) ⟨rfl, rfl, rfl, trivial⟩ ?_
  refine Tr.seq ?_
  refine Tr.region ?_
  refine RegL.pure (p := (pEq (.int .i64 n_0))) rfl rfl rfl (J_move rfl (Opd.tmp rfl)) ?_
  refine RegL.pure (p := (pEq (.int .i64 a_1))) rfl rfl rfl (J_load rfl Try.isAgg2 (Opd.tmp rfl)) ?_
  refine RegL.pure (p := (pEq (.int .i64 a_2))) rfl rfl rfl (J_load rfl Try.isAgg2 (Opd.tmp rfl)) ?_
  replace h := bind_some h; obtain ⟨x1, hx1, h⟩ := h
  refine RegL.pure (p := (pEq (.bool x1))) rfl rfl rfl (J_call rfl Try.call80 (c_impl_within hx1) (Opds.cons (Opd.tmp rfl) (Opds.cons (Opd.tmp rfl) (Opds.cons (Opd.tmp rfl) Opds.nil)))) ?_
  refine RegL.pure (p := (pEq (.bool (!x1)))) rfl rfl rfl (J_not rfl (Opd.tmp rfl)) ?_
  refine RegL.pure (p := (pEq (.bool (!x1)))) rfl rfl rfl (J_assign rfl (Opd.tmp rfl)) ?_
  refine RegL.nil ?_
  refine Ct.then_tr ?_
  refine Tr.weak (Γ' := [(4, (pEq (.bool (!x1))))]) ⟨rfl, trivial⟩ ?_
  refine Tr.ret ?_
  replace h := Option.some.inj h; subst h
  exact Ct.retH1 (Ωx := []) () rfl (RvOk.tmp rfl) rfl

theorem c_slices_IndexFunc_int64_int64 {s_0 : (List Int)} {f_1 : (Int → Option Bool)} {r : Int} (h : m_slices_IndexFunc_int64_int64 s_0 f_1 = some r) : CallJ Try.prog 118 [(pSl 1 (cK .i64) s_0), (pFn Try.prog (fun x => [(pEq (.int .i64 x))]) f_1 (fun y => (pEq (.bool y))))] (pEq (.int .i64 r)) := by
  unfold m_slices_IndexFunc_int64_int64 at h
  refine CallJ.enterH Try.func118 rfl Try.ntmps118 rfl fun W I0 H => ?_
  refine Tr.weak (Γ' := [(0, (pSl 1 (cK .i64) s_0)), (1, (pFn Try.prog (fun x => [(pEq (.int .i64 x))]) f_1 (fun y => (pEq (.bool y)))))]) ⟨rfl, rfl, trivial⟩ ?_
  refine Tr.seq ?_
  refine Tr.region ?_
  refine RegL.pure (p := (pEq (.int .i64 (0 : Int)))) rfl rfl rfl (J_assign rfl Opd.con) ?_
  refine RegL.nil ?_
  refine Ct.then_tr ?_
  refine Tr.weak (Γ' := [(0, (pSl 1 (cK .i64) s_0)), (1, (pFn Try.prog (fun x => [(pEq (.int .i64 x))]) f_1 (fun y => (pEq (.bool y)))))]) ⟨rfl, rfl, trivial⟩ ?_
  refine Tr.seq ?_
  refine Tr.seq ?_
  refine Tr.region ?_
  refine RegL.pure (p := (pSl 1 (cK .i64) s_0)) rfl rfl rfl (J_move rfl (Opd.tmp rfl)) ?_
  refine RegL.pure (p := (pEq (.int .i64 (s_0.length : Int)))) rfl rfl rfl (J_len rfl Try.underlying26 (Opd.tmp rfl) rfl) ?_
  refine RegL.pure (p := (pEq (.int .i64 (0 : Int)))) rfl rfl rfl (J_move rfl Opd.con) ?_
  refine RegL.nil ?_
  refine Ct.then_tr ?_
  refine Tr.weak (Γ' := [(0, (pSl 1 (cK .i64) s_0)), (1, (pFn Try.prog (fun x => [(pEq (.int .i64 x))]) f_1 (fun y => (pEq (.bool y))))), (7, (pEq (.int .i64 (s_0.length : Int)))), (8, (pEq (.int .i64 (0 : Int))))]) ⟨rfl, rfl, rfl, rfl, trivial⟩ ?_
  refine Tr.block ?_
  refine Tr.weak (Γ' := [(0, (pSl 1 (cK .i64) s_0)), (1, (pFn Try.prog (fun x => [(pEq (.int .i64 x))]) f_1 (fun y => (pEq (.bool y))))), (7, (pEq (.int .i64 (s_0.length : Int)))), (8, (pEq (.int .i64 (0 : Int))))]) ⟨rfl, rfl, rfl, rfl, trivial⟩ ?_
  refine Tr.loop (γ := Unit) (σ := Int) (Γσ := fun s g => [(0, (pSl 1 (cK .i64) s_0)), (1, (pFn Try.prog (fun x => [(pEq (.int .i64 x))]) f_1 (fun y => (pEq (.bool y))))), (7, (pEq (.int .i64 (s_0.length : Int)))), (8, (pEq (.int .i64 s)))]) (Ωσ := fun s g => []) (g := ()) h ?_
  clear h
  rintro v2 g3 t h
  replace h : m_slices_IndexFunc_int64_int64_B1 s_0 f_1 v2 = some t := h
  unfold m_slices_IndexFunc_int64_int64_B1 at h
  refine Tr.weakO (Γ' := [(0, (pSl 1 (cK .i64) s_0)), (1, (pFn Try.prog (fun x => [(pEq (.int .i64 x))]) f_1 (fun y => (pEq (.bool y))))), (7, (pEq (.int .i64 (s_0.length : Int)))), (8, (pEq (.int .i64 v2)))]) (Ω' := []) rfl ⟨rfl, rfl, rfl, rfl, trivial⟩ ?_
  refine Tr.seq ?_
  refine Tr.region ?_
  refine RegL.pure (p := (pEq (.bool (decide (v2 < (s_0.length : Int)))))) rfl rfl rfl (J_bin rfl (Opd.tmp rfl) (Opd.tmp rfl) B_lss) ?_
  refine RegL.nil ?_
  refine Ct.then_tr ?_
  refine Tr.weak (Γ' := [(0, (pSl 1 (cK .i64) s_0)), (1, (pFn Try.prog (fun x => [(pEq (.int .i64 x))]) f_1 (fun y => (pEq (.bool y))))), (7, (pEq (.int .i64 (s_0.length : Int)))), (8, (pEq (.int .i64 v2))), (9, (pEq (.bool (decide (v2 < (s_0.length : Int))))))]) ⟨rfl, rfl, rfl, rfl, rfl, trivial⟩ ?_
  refine Tr.seq ?_
  refine Tr.cond (Opd.tmp rfl) (fun hc => ?_) (fun hc => ?_)
  · replace h := bif_t hc h
    refine Tr.skip ?_
    refine Ct.then_tr ?_
    refine Tr.weak (Γ' := [(0, (pSl 1 (cK .i64) s_0)), (1, (pFn Try.prog (fun x => [(pEq (.int .i64 x))]) f_1 (fun y => (pEq (.bool y))))), (7, (pEq (.int .i64 (s_0.length : Int)))), (8, (pEq (.int .i64 v2)))]) ⟨rfl, rfl, rfl, rfl, trivial⟩ ?_
    refine Tr.seq ?_
    refine Tr.block ?_
    refine Tr.seq ?_
    refine Tr.region ?_
    refine RegL.pure (p := (pEq (.int .i64 v2))) rfl rfl rfl (J_move rfl (Opd.tmp rfl)) ?_
    refine RegL.pure (p := (pEq (.int .i64 v2))) rfl rfl rfl (J_assign rfl (Opd.tmp rfl)) ?_
    refine RegL.nil ?_
    refine Ct.then_tr ?_
    refine Tr.weak (Γ' := [(0, (pSl 1 (cK .i64) s_0)), (1, (pFn Try.prog (fun x => [(pEq (.int .i64 x))]) f_1 (fun y => (pEq (.bool y))))), (5, (pEq (.int .i64 v2))), (7, (pEq (.int .i64 (s_0.length : Int)))), (8, (pEq (.int .i64 v2)))]) ⟨rfl, rfl, rfl, rfl, rfl, trivial⟩ ?_
    refine Tr.seq ?_
    refine Tr.region ?_
    refine RegL.pure (p := (pFn Try.prog (fun x => [(pEq (.int .i64 x))]) f_1 (fun y => (pEq (.bool y))))) rfl rfl rfl (J_move rfl (Opd.tmp rfl)) ?_
    refine RegL.pure (p := (pSl 1 (cK .i64) s_0)) rfl rfl rfl (J_move rfl (Opd.tmp rfl)) ?_
    refine RegL.pure (p := (pEq (.int .i64 v2))) rfl rfl rfl (J_move rfl (Opd.tmp rfl)) ?_
    replace h := bind_some h; obtain ⟨x4, hx4, h⟩ := h
    refine RegL.pure (p := (pPtr ((cK .i64) x4))) rfl rfl rfl (J_idx rfl Try.underlying26 sz2 (Opd.tmp rfl) (Opd.tmp rfl) hx4) ?_
    refine RegL.pure (p := (pEq (.int .i64 x4))) rfl rfl rfl (J_load rfl Try.isAgg2 (Opd.tmp rfl)) ?_
    replace h := bind_some h; obtain ⟨x5, hx5, h⟩ := h
    refine RegL.pure (p := (pEq (.bool x5))) rfl rfl rfl (J_callv (x := x4) rfl (Opd.tmp rfl) rfl (Opds.cons (Opd.tmp rfl) Opds.nil) hx5 rfl) ?_
    refine RegL.nil ?_
    refine Ct.then_tr ?_
    refine Tr.weak (Γ' := [(0, (pSl 1 (cK .i64) s_0)), (1, (pFn Try.prog (fun x => [(pEq (.int .i64 x))]) f_1 (fun y => (pEq (.bool y))))), (5, (pEq (.int .i64 v2))), (7, (pEq (.int .i64 (s_0.length : Int)))), (8, (pEq (.int .i64 v2))), (16, (pEq (.bool x5)))]) ⟨rfl, rfl, rfl, rfl, rfl, rfl, trivial⟩ ?_
    refine Tr.cond (Opd.tmp rfl) (fun hc => ?_) (fun hc => ?_)
    · replace h := bif_t hc h
      refine Tr.seq ?_
      refine Tr.region ?_
      refine RegL.pure (p := (pEq (.int .i64 v2))) rfl rfl rfl (J_move rfl (Opd.tmp rfl)) ?_
      refine RegL.pure (p := (pEq (.int .i64 v2))) rfl rfl rfl (J_assign rfl (Opd.tmp rfl)) ?_
      refine RegL.nil ?_
      refine Ct.then_tr ?_
      refine Tr.weak (Γ' := [(4, (pEq (.int .i64 v2)))]) ⟨rfl, trivial⟩ ?_
      refine Tr.ret ?_
      refine Ct.blk_ret ?_
      refine Ct.then_ret ?_
      replace h := map_some h; obtain ⟨r1, h, rfl⟩ := h
      refine Ct.out_ret fun e => ?_
      subst e
      refine Ct.blk_ret ?_
      refine Ct.then_ret ?_
      replace h := Option.some.inj h; subst h
      exact Ct.retH1 (Ωx := []) () rfl (RvOk.tmp rfl) rfl
    · replace h := bif_f hc h
      refine Tr.skip ?_
      refine Ct.blk_normal ?_
      refine Ct.then_tr ?_
      refine Tr.weak (Γ' := [(0, (pSl 1 (cK .i64) s_0)), (1, (pFn Try.prog (fun x => [(pEq (.int .i64 x))]) f_1 (fun y => (pEq (.bool y))))), (7, (pEq (.int .i64 (s_0.length : Int)))), (8, (pEq (.int .i64 v2)))]) ⟨rfl, rfl, rfl, rfl, trivial⟩ ?_
      refine Tr.region ?_
      refine RegL.pure (p := (pEq (.int .i64 (w64 (v2 + (1 : Int)))))) rfl rfl rfl (J_bin rfl (Opd.tmp rfl) Opd.con B_add) ?_
      refine RegL.pure (p := (pEq (.int .i64 (w64 (v2 + (1 : Int)))))) rfl rfl rfl (J_move rfl (Opd.tmp rfl)) ?_
      refine RegL.nil ?_
      replace h := Option.some.inj h; subst h
      exact Ct.again () rfl ⟨rfl, rfl, rfl, rfl, trivial⟩
  · replace h := bif_f hc h
    refine Tr.exit ?_
    refine Ct.then_exit ?_
    replace h := map_some h; obtain ⟨r1, h, rfl⟩ := h
    refine Ct.out_exit fun e => ?_
    subst e
    refine Ct.blk_exit ?_
    refine Ct.then_tr ?_
    refine Tr.weak (Γ' := []) trivial ?_
    refine Tr.seq ?_
    refine Tr.region ?_
    refine RegL.pure (p := (pEq (.int .i64 (-1 : Int)))) rfl rfl rfl (J_assign rfl Opd.con) ?_
    refine RegL.nil ?_
    refine Ct.then_tr ?_
    refine Tr.weak (Γ' := [(4, (pEq (.int .i64 (-1 : Int))))]) ⟨rfl, trivial⟩ ?_
    refine Tr.ret ?_
    replace h := Option.some.inj h; subst h
    exact Ct.retH1 (Ωx := []) () rfl (RvOk.tmp rfl) rfl

theorem c_slices_ContainsFunc_int64_int64 {s_0 : (List Int)} {f_1 : (Int → Option Bool)} {r : Bool} (h : m_slices_ContainsFunc_int64_int64 s_0 f_1 = some r) : CallJ Try.prog 93 [(pSl 1 (cK .i64) s_0), (pFn Try.prog (fun x => [(pEq (.int .i64 x))]) f_1 (fun y => (pEq (.bool y))))] (pEq (.bool r)) := by
  unfold m_slices_ContainsFunc_int64_int64 at h
  refine CallJ.enterH Try.func93 rfl Try.ntmps93 rfl fun W I0 H => ?_
  refine Tr.weak (Γ' := [(0, (pSl 1 (cK .i64) s_0)), (1, (pFn Try.prog (fun x => [(pEq (.int .i64 x))]) f_1 (fun y => (pEq (.bool y)))))]) ⟨rfl, rfl, trivial⟩ ?_
  refine Tr.seq ?_
  refine Tr.region ?_
  refine RegL.pure (p := (pEq (.bool false))) rfl rfl rfl (J_assign rfl Opd.con) ?_
  refine RegL.nil ?_
  refine Ct.then_tr ?_
  refine Tr.weak (Γ' := [(0, (pSl 1 (cK .i64) s_0)), (1, (pFn Try.prog (fun x => [(pEq (.int .i64 x))]) f_1 (fun y => (pEq (.bool y)))))]) ⟨rfl, rfl, trivial⟩ ?_
  refine Tr.seq ?_
  refine Tr.region ?_
  refine RegL.pure (p := (pSl 1 (cK .i64) s_0)) rfl rfl rfl (J_move rfl (Opd.tmp rfl)) ?_
  refine RegL.pure (p := (pFn Try.prog (fun x => [(pEq (.int .i64 x))]) f_1 (fun y => (pEq (.bool y))))) rfl rfl rfl (J_move rfl (Opd.tmp rfl)) ?_
  replace h := bind_some h; obtain ⟨x1, hx1, h⟩ := h
  refine RegL.pure (p := (pEq (.int .i64 x1))) rfl rfl rfl (J_call rfl Try.call118 (c_slices_IndexFunc_int64_int64 hx1) (Opds.cons (Opd.tmp rfl) (Opds.cons (Opd.tmp rfl) Opds.nil))) ?_
  refine RegL.pure (p := (pEq (.bool (decide ((0 : Int) ≤ x1))))) rfl rfl rfl (J_bin rfl (Opd.tmp rfl) Opd.con B_geq) ?_
  refine RegL.pure (p := (pEq (.bool (decide ((0 : Int) ≤ x1))))) rfl rfl rfl (J_assign rfl (Opd.tmp rfl)) ?_
  refine RegL.nil ?_
  refine Ct.then_tr ?_
  refine Tr.weak (Γ' := [(4, (pEq (.bool (decide ((0 : Int) ≤ x1)))))]) ⟨rfl, trivial⟩ ?_
  refine Tr.ret ?_
  replace h := Option.some.inj h; subst h
  exact Ct.retH1 (Ωx := []) () rfl (RvOk.tmp rfl) rfl

theorem c_impl_allWithin {list_0 : (List Int)} {low_1 : Int} {high_2 : Int} {r : Bool} (h : m_impl_allWithin list_0 low_1 high_2 = some r) : CallJ Try.prog 69 [(pSl 1 (cK .i64) list_0), (pEq (.int .i64 low_1)), (pEq (.int .i64 high_2))] (pEq (.bool r)) := by
  unfold m_impl_allWithin at h
  refine CallJ.enterH Try.func69 rfl Try.ntmps69 rfl fun W I0 H => ?_
  refine Tr.weak (Γ' := [(0, (pSl 1 (cK .i64) list_0)), (1, (pEq (.int .i64 low_1))), (2, (pEq (.int .i64 high_2)))]) ⟨rfl, rfl, rfl, trivial⟩ ?_
  refine Tr.seq ?_
  refine Tr.region ?_
  refine RegL.pure (p := (pPtr ((cK .i64) low_1))) rfl rfl rfl (J_box rfl (Opd.tmp rfl) OneC.int) ?_
  refine RegL.pure (p := (pPtr ((cK .i64) high_2))) rfl rfl rfl (J_box rfl (Opd.tmp rfl) OneC.int) ?_
  refine RegL.pure (p := (pEq (.bool false))) rfl rfl rfl (J_assign rfl Opd.con) ?_
  refine RegL.nil ?_
  refine Ct.then_tr ?_
  refine Tr.weak (Γ' := [(0, (pSl 1 (cK .i64) list_0)), (4, (pPtr ((cK .i64) low_1))), (5, (pPtr ((cK .i64) high_2)))]) ⟨rfl, rfl, rfl, trivial⟩ ?_
  refine Tr.seq ?_
  refine Tr.region ?_
  refine RegL.pure (p := (pSl 1 (cK .i64) list_0)) rfl rfl rfl (J_move rfl (Opd.tmp rfl)) ?_
  refine RegL.pure (p := (pFn Try.prog (fun x => [(pEq (.int .i64 x))]) (fun x => m_impl_allWithin_1 x low_1 high_2) (fun y => (pEq (.bool y))))) rfl rfl rfl (J_makeFn rfl Try.call94 (Opds.cons (Opd.tmp rfl) (Opds.cons (Opd.tmp rfl) Opds.nil)) (fun _ _ h => c_impl_allWithin_1 h)) ?_
  replace h := bind_some h; obtain ⟨x1, hx1, h⟩ := h
  refine RegL.pure (p := (pEq (.bool x1))) rfl rfl rfl (J_call rfl Try.call93 (c_slices_ContainsFunc_int64_int64 hx1) (Opds.cons (Opd.tmp rfl) (Opds.cons (Opd.tmp rfl) Opds.nil))) ?_
  refine RegL.pure (p := (pEq (.bool (!x1)))) rfl rfl rfl (J_not rfl (Opd.tmp rfl)) ?_
  refine RegL.pure (p := (pEq (.bool (!x1)))) rfl rfl rfl (J_assign rfl (Opd.tmp rfl)) ?_
  refine RegL.nil ?_
  refine Ct.then_tr ?_
  refine Tr.weak (Γ' := [(6, (pEq (.bool (!x1))))]) ⟨rfl, trivial⟩ ?_
  refine Tr.ret ?_
  replace h := Option.some.inj h; subst h
  exact Ct.retH1 (Ωx := []) () rfl (RvOk.tmp rfl) rfl

theorem c_impl_domainOk {domain_0 : (List Int)} {r : Bool} (h : m_impl_domainOk domain_0 = some r) : CallJ Try.prog 92 [(pSl 1 (cK .i64) domain_0)] (pEq (.bool r)) := by
  unfold m_impl_domainOk at h
  refine CallJ.enterH Try.func92 rfl Try.ntmps92 rfl fun W I0 H => ?_
  refine Tr.weak (Γ' := [(0, (pSl 1 (cK .i64) domain_0))]) ⟨rfl, trivial⟩ ?_
  refine Tr.seq ?_
  refine Tr.region ?_
  refine RegL.pure (p := (pEq (.bool false))) rfl rfl rfl (J_assign rfl Opd.con) ?_
  refine RegL.nil ?_
  refine Ct.then_tr ?_
  refine Tr.weak (Γ' := [(0, (pSl 1 (cK .i64) domain_0))]) ⟨rfl, trivial⟩ ?_
  refine Tr.seq ?_
  replace h := bind_some h; obtain ⟨x1, hx1, h⟩ := h
  refine Tr.cut (γ := Unit) (Γm := fun g => [(2, (pEq (.bool x1)))]) (Ωm := fun g => []) ?_ (fun g7 => ?_)
  · clear h
    have h := hx1
    clear hx1
    refine Tr.region ?_
    refine RegL.pure (p := (pSl 1 (cK .i64) domain_0)) rfl rfl rfl (J_move rfl (Opd.tmp rfl)) ?_
    refine RegL.pure (p := (pEq (.int .i64 (domain_0.length : Int)))) rfl rfl rfl (J_len rfl Try.underlying26 (Opd.tmp rfl) rfl) ?_
    refine RegL.pure (p := (pEq (.bool (decide ((1 : Int) ≤ (domain_0.length : Int)))))) rfl rfl rfl (J_bin rfl (Opd.tmp rfl) Opd.con B_geq) ?_
    refine RegL.pure (p := (pEq (.bool (decide ((1 : Int) ≤ (domain_0.length : Int)))))) rfl rfl rfl (J_move rfl (Opd.tmp rfl)) ?_
    rcases Bool.eq_false_or_eq_true (decide ((1 : Int) ≤ (domain_0.length : Int))) with hc2 | hc2
    · replace h := bif_t hc2 h
      refine RegL.pureG (p := (pSl 1 (cK .i64) domain_0)) rfl rfl rfl hc2 rfl rfl (J_move rfl (Opd.tmp rfl)) ?_
      refine RegL.pureG (p := (pEq (.int .i64 (domain_0.length : Int)))) rfl rfl rfl hc2 rfl rfl (J_len rfl Try.underlying26 (Opd.tmp rfl) rfl) ?_
      refine RegL.pureG (p := (pEq (.bool (decide ((domain_0.length : Int) ≤ (32 : Int)))))) rfl rfl rfl hc2 rfl rfl (J_bin rfl (Opd.tmp rfl) Opd.con B_leq) ?_
      refine RegL.pure (p := (pEq (.bool (decide ((domain_0.length : Int) ≤ (32 : Int)))))) rfl rfl rfl (J_pick rfl (Opd.tmp rfl) (fun _ => (Opd.tmp rfl)) (fun hf => absurd (hc2.symm.trans hf) (by decide))) ?_
      refine RegL.pure (p := (pEq (.bool (decide ((domain_0.length : Int) ≤ (32 : Int)))))) rfl rfl rfl (J_move rfl (Opd.tmp rfl)) ?_
      rcases Bool.eq_false_or_eq_true (decide ((domain_0.length : Int) ≤ (32 : Int))) with hc3 | hc3
      · replace h := bif_t hc3 h
        refine RegL.pureG (p := (pSl 1 (cK .i64) domain_0)) rfl rfl rfl hc3 rfl rfl (J_move rfl (Opd.tmp rfl)) ?_
        replace h := bind_some h; obtain ⟨x4, hx4, h⟩ := h
        refine RegL.pureG (p := (pEq (.bool x4))) rfl rfl rfl hc3 rfl rfl (J_call rfl Try.call117 (c_impl_increasing hx4) (Opds.cons (Opd.tmp rfl) Opds.nil)) ?_
        refine RegL.pure (p := (pEq (.bool x4))) rfl rfl rfl (J_pick rfl (Opd.tmp rfl) (fun _ => (Opd.tmp rfl)) (fun hf => absurd (hc3.symm.trans hf) (by decide))) ?_
        refine RegL.pure (p := (pEq (.bool x4))) rfl rfl rfl (J_move rfl (Opd.tmp rfl)) ?_
        rcases Bool.eq_false_or_eq_true x4 with hc5 | hc5
        · replace h := bif_t hc5 h
          refine RegL.pureG (p := (pSl 1 (cK .i64) domain_0)) rfl rfl rfl hc5 rfl rfl (J_move rfl (Opd.tmp rfl)) ?_
          replace h := bind_some h; obtain ⟨x6, hx6, h⟩ := h
          refine RegL.pureG (p := (pEq (.bool x6))) rfl rfl rfl hc5 rfl rfl (J_call rfl Try.call69 (c_impl_allWithin hx6) (Opds.cons (Opd.tmp rfl) (Opds.cons Opd.con (Opds.cons Opd.con Opds.nil)))) ?_
          refine RegL.pure (p := (pEq (.bool x6))) rfl rfl rfl (J_pick rfl (Opd.tmp rfl) (fun _ => (Opd.tmp rfl)) (fun hf => absurd (hc5.symm.trans hf) (by decide))) ?_
          refine RegL.pure (p := (pEq (.bool x6))) rfl rfl rfl (J_assign rfl (Opd.tmp rfl)) ?_
          refine RegL.nil ?_
          replace h := Option.some.inj h; subst h
          exact Ct.mid () rfl ⟨rfl, trivial⟩
        · replace h := bif_f hc5 h
          refine RegL.skipG rfl rfl rfl hc5 rfl rfl ?_
          refine RegL.skipG rfl rfl rfl hc5 rfl rfl ?_
          refine RegL.pure (p := (pEq (.bool false))) rfl rfl rfl (J_pick rfl (Opd.tmp rfl) (fun hf => absurd (hc5.symm.trans hf) (by decide)) (fun _ => Opd.con)) ?_
          refine RegL.pure (p := (pEq (.bool false))) rfl rfl rfl (J_assign rfl (Opd.tmp rfl)) ?_
          refine RegL.nil ?_
          replace h := Option.some.inj h; subst h
          exact Ct.mid () rfl ⟨rfl, trivial⟩
      · replace h := bif_f hc3 h
        refine RegL.skipG rfl rfl rfl hc3 rfl rfl ?_
        refine RegL.skipG rfl rfl rfl hc3 rfl rfl ?_
        refine RegL.pure (p := (pEq (.bool false))) rfl rfl rfl (J_pick rfl (Opd.tmp rfl) (fun hf => absurd (hc3.symm.trans hf) (by decide)) (fun _ => Opd.con)) ?_
        refine RegL.pure (p := (pEq (.bool false))) rfl rfl rfl (J_move rfl (Opd.tmp rfl)) ?_
        refine RegL.skipG rfl rfl rfl rfl rfl rfl ?_
        refine RegL.skipG rfl rfl rfl rfl rfl rfl ?_
        refine RegL.pure (p := (pEq (.bool false))) rfl rfl rfl (J_pick rfl (Opd.tmp rfl) (fun hf => absurd hf (by decide)) (fun _ => Opd.con)) ?_
        refine RegL.pure (p := (pEq (.bool false))) rfl rfl rfl (J_assign rfl (Opd.tmp rfl)) ?_
        refine RegL.nil ?_
        replace h := Option.some.inj h; subst h
        exact Ct.mid () rfl ⟨rfl, trivial⟩
    · replace h := bif_f hc2 h
      refine RegL.skipG rfl rfl rfl hc2 rfl rfl ?_
      refine RegL.skipG rfl rfl rfl hc2 rfl rfl ?_
      refine RegL.skipG rfl rfl rfl hc2 rfl rfl ?_
      refine RegL.pure (p := (pEq (.bool false))) rfl rfl rfl (J_pick rfl (Opd.tmp rfl) (fun hf => absurd (hc2.symm.trans hf) (by decide)) (fun _ => Opd.con)) ?_
      refine RegL.pure (p := (pEq (.bool false))) rfl rfl rfl (J_move rfl (Opd.tmp rfl)) ?_
      refine RegL.skipG rfl rfl rfl rfl rfl rfl ?_
      refine RegL.skipG rfl rfl rfl rfl rfl rfl ?_
      refine RegL.pure (p := (pEq (.bool false))) rfl rfl rfl (J_pick rfl (Opd.tmp rfl) (fun hf => absurd hf (by decide)) (fun _ => Opd.con)) ?_
      refine RegL.pure (p := (pEq (.bool false))) rfl rfl rfl (J_move rfl (Opd.tmp rfl)) ?_
      refine RegL.skipG rfl rfl rfl rfl rfl rfl ?_
      refine RegL.skipG rfl rfl rfl rfl rfl rfl ?_
      refine RegL.pure (p := (pEq (.bool false))) rfl rfl rfl (J_pick rfl (Opd.tmp rfl) (fun hf => absurd hf (by decide)) (fun _ => Opd.con)) ?_
      refine RegL.pure (p := (pEq (.bool false))) rfl rfl rfl (J_assign rfl (Opd.tmp rfl)) ?_
      refine RegL.nil ?_
      replace h := Option.some.inj h; subst h
      exact Ct.mid () rfl ⟨rfl, trivial⟩
  · clear hx1
    refine Ct.then_tr ?_
    refine Tr.weak (Γ' := [(2, (pEq (.bool x1)))]) ⟨rfl, trivial⟩ ?_
    refine Tr.ret ?_
    replace h := Option.some.inj h; subst h
    exact Ct.retH1 (Ωx := []) () rfl (RvOk.tmp rfl) rfl

theorem c_impl_domainsOk_1 {d_0 : (List Int)} {r : Bool} (h : m_impl_domainsOk_1 d_0 = some r) : CallJ Try.prog 91 [(pSl 1 (cK .i64) d_0)] (pEq (.bool r)) := by
  unfold m_impl_domainsOk_1 at h
  refine CallJ.enterH Try.func91 rfl Try.ntmps91 rfl fun W I0 H => ?_
  refine Tr.weak (Γ' := [(0, (pSl 1 (cK .i64) d_0))]) ⟨rfl, trivial⟩ ?_
  refine Tr.seq ?_
  refine Tr.region ?_
  refine RegL.pure (p := (pEq (.bool false))) rfl rfl rfl (J_assign rfl Opd.con) ?_
  refine RegL.nil ?_
  refine Ct.then_tr ?_
  refine Tr.weak (Γ' := [(0, (pSl 1 (cK .i64) d_0))]) ⟨rfl, trivial⟩ ?_
  refine Tr.seq ?_
  refine Tr.region ?_
  refine RegL.pure (p := (pSl 1 (cK .i64) d_0)) rfl rfl rfl (J_move rfl (Opd.tmp rfl)) ?_
  replace h := bind_some h; obtain ⟨x1, hx1, h⟩ := h
  refine RegL.pure (p := (pEq (.bool x1))) rfl rfl rfl (J_call rfl Try.call92 (c_impl_domainOk hx1) (Opds.cons (Opd.tmp rfl) Opds.nil)) ?_
  refine RegL.pure (p := (pEq (.bool (!x1)))) rfl rfl rfl (J_not rfl (Opd.tmp rfl)) ?_
  refine RegL.pure (p := (pEq (.bool (!x1)))) rfl rfl rfl (J_assign rfl (Opd.tmp rfl)) ?_
  refine RegL.nil ?_
  refine Ct.then_tr ?_
  refine Tr.weak (Γ' := [(2, (pEq (.bool (!x1))))]) ⟨rfl, trivial⟩ ?_
  refine Tr.ret ?_
  replace h := Option.some.inj h; subst h
  exact Ct.retH1 (Ωx := []) () rfl (RvOk.tmp rfl) rfl

theorem c_impl_domainsOk {domains_0 : (List (List Int))} {r : Bool} (h : m_impl_domainsOk domains_0 = some r) : CallJ Try.prog 68 [(pSl 1 (cSl 1 (cK .i64)) domains_0)] (pEq (.bool r)) := by
  unfold m_impl_domainsOk at h
  refine CallJ.enterH Try.func68 rfl Try.ntmps68 rfl fun W I0 H => ?_
  refine Tr.weak (Γ' := [(0, (pSl 1 (cSl 1 (cK .i64)) domains_0))]) ⟨rfl, trivial⟩ ?_
  refine Tr.seq ?_
  refine Tr.region ?_
  refine RegL.pure (p := (pEq (.bool false))) rfl rfl rfl (J_assign rfl Opd.con) ?_
  refine RegL.nil ?_
  refine Ct.then_tr ?_
  refine Tr.weak (Γ' := [(0, (pSl 1 (cSl 1 (cK .i64)) domains_0))]) ⟨rfl, trivial⟩ ?_
  refine Tr.seq ?_
  replace h := bind_some h; obtain ⟨x1, hx1, h⟩ := h
  refine Tr.cut (γ := Unit) (Γm := fun g => [(2, (pEq (.bool x1)))]) (Ωm := fun g => []) ?_ (fun g5 => ?_)
  · clear h
    have h := hx1
    clear hx1
    refine Tr.region ?_
    refine RegL.pure (p := (pSl 1 (cSl 1 (cK .i64)) domains_0)) rfl rfl rfl (J_move rfl (Opd.tmp rfl)) ?_
    refine RegL.pure (p := (pEq (.int .i64 (domains_0.length : Int)))) rfl rfl rfl (J_len rfl Try.underlying22 (Opd.tmp rfl) rfl) ?_
    refine RegL.pure (p := (pEq (.bool (decide ((1 : Int) ≤ (domains_0.length : Int)))))) rfl rfl rfl (J_bin rfl (Opd.tmp rfl) Opd.con B_geq) ?_
    refine RegL.pure (p := (pEq (.bool (decide ((1 : Int) ≤ (domains_0.length : Int)))))) rfl rfl rfl (J_move rfl (Opd.tmp rfl)) ?_
    rcases Bool.eq_false_or_eq_true (decide ((1 : Int) ≤ (domains_0.length : Int))) with hc2 | hc2
    · replace h := bif_t hc2 h
      refine RegL.pureG (p := (pSl 1 (cSl 1 (cK .i64)) domains_0)) rfl rfl rfl hc2 rfl rfl (J_move rfl (Opd.tmp rfl)) ?_
      refine RegL.pureG (p := (pEq (.int .i64 (domains_0.length : Int)))) rfl rfl rfl hc2 rfl rfl (J_len rfl Try.underlying22 (Opd.tmp rfl) rfl) ?_
      refine RegL.pureG (p := (pEq (.bool (decide ((domains_0.length : Int) ≤ (24 : Int)))))) rfl rfl rfl hc2 rfl rfl (J_bin rfl (Opd.tmp rfl) Opd.con B_leq) ?_
      refine RegL.pure (p := (pEq (.bool (decide ((domains_0.length : Int) ≤ (24 : Int)))))) rfl rfl rfl (J_pick rfl (Opd.tmp rfl) (fun _ => (Opd.tmp rfl)) (fun hf => absurd (hc2.symm.trans hf) (by decide))) ?_
      refine RegL.pure (p := (pEq (.bool (decide ((domains_0.length : Int) ≤ (24 : Int)))))) rfl rfl rfl (J_move rfl (Opd.tmp rfl)) ?_
      rcases Bool.eq_false_or_eq_true (decide ((domains_0.length : Int) ≤ (24 : Int))) with hc3 | hc3
      · replace h := bif_t hc3 h
        refine RegL.pureG (p := (pSl 1 (cSl 1 (cK .i64)) domains_0)) rfl rfl rfl hc3 rfl rfl (J_move rfl (Opd.tmp rfl)) ?_
        replace h := bind_some h; obtain ⟨x4, hx4, h⟩ := h
        refine RegL.pureG (p := (pEq (.bool x4))) rfl rfl rfl hc3 rfl rfl (J_call rfl Try.call90 (c_slices_ContainsFunc_SSint64_int64 hx4) (Opds.cons (Opd.tmp rfl) (Opds.cons (Opd.fnv Try.call91 (fun _ _ h => c_impl_domainsOk_1 h)) Opds.nil))) ?_
        refine RegL.pureG (p := (pEq (.bool (!x4)))) rfl rfl rfl hc3 rfl rfl (J_not rfl (Opd.tmp rfl)) ?_
        refine RegL.pure (p := (pEq (.bool (!x4)))) rfl rfl rfl (J_pick rfl (Opd.tmp rfl) (fun _ => (Opd.tmp rfl)) (fun hf => absurd (hc3.symm.trans hf) (by decide))) ?_
        refine RegL.pure (p := (pEq (.bool (!x4)))) rfl rfl rfl (J_assign rfl (Opd.tmp rfl)) ?_
        refine RegL.nil ?_
        replace h := Option.some.inj h; subst h
        exact Ct.mid () rfl ⟨rfl, trivial⟩
      · replace h := bif_f hc3 h
        refine RegL.skipG rfl rfl rfl hc3 rfl rfl ?_
        refine RegL.skipG rfl rfl rfl hc3 rfl rfl ?_
        refine RegL.skipG rfl rfl rfl hc3 rfl rfl ?_
        refine RegL.pure (p := (pEq (.bool false))) rfl rfl rfl (J_pick rfl (Opd.tmp rfl) (fun hf => absurd (hc3.symm.trans hf) (by decide)) (fun _ => Opd.con)) ?_
        refine RegL.pure (p := (pEq (.bool false))) rfl rfl rfl (J_assign rfl (Opd.tmp rfl)) ?_
        refine RegL.nil ?_
        replace h := Option.some.inj h; subst h
        exact Ct.mid () rfl ⟨rfl, trivial⟩
    · replace h := bif_f hc2 h
      refine RegL.skipG rfl rfl rfl hc2 rfl rfl ?_
      refine RegL.skipG rfl rfl rfl hc2 rfl rfl ?_
      refine RegL.skipG rfl rfl rfl hc2 rfl rfl ?_
      refine RegL.pure (p := (pEq (.bool false))) rfl rfl rfl (J_pick rfl (Opd.tmp rfl) (fun hf => absurd (hc2.symm.trans hf) (by decide)) (fun _ => Opd.con)) ?_
      refine RegL.pure (p := (pEq (.bool false))) rfl rfl rfl (J_move rfl (Opd.tmp rfl)) ?_
      refine RegL.skipG rfl rfl rfl rfl rfl rfl ?_
      refine RegL.skipG rfl rfl rfl rfl rfl rfl ?_
      refine RegL.skipG rfl rfl rfl rfl rfl rfl ?_
      refine RegL.pure (p := (pEq (.bool false))) rfl rfl rfl (J_pick rfl (Opd.tmp rfl) (fun hf => absurd hf (by decide)) (fun _ => Opd.con)) ?_
      refine RegL.pure (p := (pEq (.bool false))) rfl rfl rfl (J_assign rfl (Opd.tmp rfl)) ?_
      refine RegL.nil ?_
      replace h := Option.some.inj h; subst h
      exact Ct.mid () rfl ⟨rfl, trivial⟩
  · clear hx1
    refine Ct.then_tr ?_
    refine Tr.weak (Γ' := [(2, (pEq (.bool x1)))]) ⟨rfl, trivial⟩ ?_
    refine Tr.ret ?_
    replace h := Option.some.inj h; subst h
    exact Ct.retH1 (Ωx := []) () rfl (RvOk.tmp rfl) rfl

theorem c_impl_ValidProblem {p_0 : GProblem} {r : Bool} (h : m_impl_ValidProblem p_0 = some r) : CallJ Try.prog 30 [(pAgg (cGProblem p_0))] (pEq (.bool r)) := by
  unfold m_impl_ValidProblem at h
  refine CallJ.enterH Try.func30 rfl Try.ntmps30 rfl fun W I0 H => ?_
  refine Tr.weak (Γ' := [(0, (pAgg (cGProblem p_0)))]) ⟨rfl, trivial⟩ ?_
  refine Tr.seq ?_
  refine Tr.region ?_
  refine RegL.pure (p := (pPtr (cGProblem p_0))) rfl rfl rfl (J_boxA rfl (Opd.tmp rfl)) ?_
  refine RegL.pure (p := (pEq (.bool false))) rfl rfl rfl (J_assign rfl Opd.con) ?_
  refine RegL.nil ?_
  refine Ct.then_tr ?_
  refine Tr.weak (Γ' := [(1, (pPtr (cGProblem p_0)))]) ⟨rfl, trivial⟩ ?_
  refine Tr.seq ?_
  refine Tr.seq ?_
  replace h := bind_some h; obtain ⟨x1, hx1, h⟩ := h
  refine Tr.cut (γ := Unit) (Γm := fun g => [(1, (pPtr (cGProblem p_0))), (18, (pEq (.bool x1)))]) (Ωm := fun g => []) ?_ (fun g4 => ?_)
  · clear h
    have h := hx1
    clear hx1
    refine Tr.region ?_
    refine RegL.pure (p := (pPtr ((cSl 1 (cSl 1 (cK .i64))) p_0.Domains))) rfl rfl rfl (J_fieldAddr rfl Try.underlying29 rfl sz22 (by decide) (Opd.tmp rfl) rfl) ?_
    refine RegL.pure (p := (pSl 1 (cSl 1 (cK .i64)) p_0.Domains)) rfl rfl rfl (J_load rfl Try.isAgg22 (Opd.tmp rfl)) ?_
    replace h := bind_some h; obtain ⟨x2, hx2, h⟩ := h
    refine RegL.pure (p := (pEq (.bool x2))) rfl rfl rfl (J_call rfl Try.call68 (c_impl_domainsOk hx2) (Opds.cons (Opd.tmp rfl) Opds.nil)) ?_
    refine RegL.pure (p := (pEq (.bool (!x2)))) rfl rfl rfl (J_not rfl (Opd.tmp rfl)) ?_
    refine RegL.pure (p := (pEq (.bool (!x2)))) rfl rfl rfl (J_move rfl (Opd.tmp rfl)) ?_
    rcases Bool.eq_false_or_eq_true (!x2) with hc3 | hc3
    · replace h := bif_t hc3 h
      refine RegL.skipG rfl rfl rfl hc3 rfl rfl ?_
      refine RegL.skipG rfl rfl rfl hc3 rfl rfl ?_
      refine RegL.skipG rfl rfl rfl hc3 rfl rfl ?_
      refine RegL.skipG rfl rfl rfl hc3 rfl rfl ?_
      refine RegL.skipG rfl rfl rfl hc3 rfl rfl ?_
      refine RegL.skipG rfl rfl rfl hc3 rfl rfl ?_
      refine RegL.skipG rfl rfl rfl hc3 rfl rfl ?_
      refine RegL.pure (p := (pEq (.bool true))) rfl rfl rfl (J_pick rfl (Opd.tmp rfl) (fun _ => Opd.con) (fun hf => absurd (hc3.symm.trans hf) (by decide))) ?_
      refine RegL.nil ?_
      replace h := Option.some.inj h; subst h
      exact Ct.mid () rfl ⟨rfl, rfl, trivial⟩
    · replace h := bif_f hc3 h
      refine RegL.pureG (p := (pPtr ((cSl 1 (cSl 1 (cK .i64))) p_0.Apart))) rfl rfl rfl hc3 rfl rfl (J_fieldAddr rfl Try.underlying29 rfl sz22 (by decide) (Opd.tmp rfl) rfl) ?_
      refine RegL.pureG (p := (pSl 1 (cSl 1 (cK .i64)) p_0.Apart)) rfl rfl rfl hc3 rfl rfl (J_load rfl Try.isAgg22 (Opd.tmp rfl)) ?_
      refine RegL.pureG (p := (pEq (.int .i64 (p_0.Apart.length : Int)))) rfl rfl rfl hc3 rfl rfl (J_len rfl Try.underlying22 (Opd.tmp rfl) rfl) ?_
      refine RegL.pureG (p := (pPtr ((cSl 1 (cSl 1 (cK .i64))) p_0.Domains))) rfl rfl rfl hc3 rfl rfl (J_fieldAddr rfl Try.underlying29 rfl sz22 (by decide) (Opd.tmp rfl) rfl) ?_
      refine RegL.pureG (p := (pSl 1 (cSl 1 (cK .i64)) p_0.Domains)) rfl rfl rfl hc3 rfl rfl (J_load rfl Try.isAgg22 (Opd.tmp rfl)) ?_
      refine RegL.pureG (p := (pEq (.int .i64 (p_0.Domains.length : Int)))) rfl rfl rfl hc3 rfl rfl (J_len rfl Try.underlying22 (Opd.tmp rfl) rfl) ?_
      refine RegL.pureG (p := (pEq (.bool ((p_0.Apart.length : Int) != (p_0.Domains.length : Int))))) rfl rfl rfl hc3 rfl rfl (J_bin rfl (Opd.tmp rfl) (Opd.tmp rfl) B_neq) ?_
      refine RegL.pure (p := (pEq (.bool ((p_0.Apart.length : Int) != (p_0.Domains.length : Int))))) rfl rfl rfl (J_pick rfl (Opd.tmp rfl) (fun hf => absurd (hc3.symm.trans hf) (by decide)) (fun _ => (Opd.tmp rfl))) ?_
      refine RegL.nil ?_
      replace h := Option.some.inj h; subst h
      exact Ct.mid () rfl ⟨rfl, rfl, trivial⟩
  · clear hx1
    refine Ct.then_tr ?_
    refine Tr.weak (Γ' := [(1, (pPtr (cGProblem p_0))), (18, (pEq (.bool x1)))]) ⟨rfl, rfl, trivial⟩ ?_
    refine Tr.cond (Opd.tmp rfl) (fun hc => ?_) (fun hc => ?_)
    · replace h := bif_t hc h
      refine Tr.seq ?_
      refine Tr.region ?_
      refine RegL.pure (p := (pEq (.bool false))) rfl rfl rfl (J_assign rfl Opd.con) ?_
      refine RegL.nil ?_
      refine Ct.then_tr ?_
      refine Tr.weak (Γ' := [(2, (pEq (.bool false)))]) ⟨rfl, trivial⟩ ?_
      refine Tr.ret ?_
      refine Ct.then_ret ?_
      replace h := Option.some.inj h; subst h
      exact Ct.retH1 (Ωx := []) () rfl (RvOk.tmp rfl) rfl
    · replace h := bif_f hc h
      refine Tr.skip ?_
      refine Ct.then_tr ?_
      refine Tr.weak (Γ' := [(1, (pPtr (cGProblem p_0)))]) ⟨rfl, trivial⟩ ?_
      refine Tr.seq ?_
      refine Tr.seq ?_
      refine Tr.region ?_
      refine RegL.pure (p := (pPtr ((cSl 1 (cSl 1 (cK .i64))) p_0.Apart))) rfl rfl rfl (J_fieldAddr rfl Try.underlying29 rfl sz22 (by decide) (Opd.tmp rfl) rfl) ?_
      refine RegL.pure (p := (pSl 1 (cSl 1 (cK .i64)) p_0.Apart)) rfl rfl rfl (J_load rfl Try.isAgg22 (Opd.tmp rfl)) ?_
      refine RegL.pure (p := (pEq (.int .i64 (p_0.Apart.length : Int)))) rfl rfl rfl (J_len rfl Try.underlying22 (Opd.tmp rfl) rfl) ?_
      refine RegL.pure (p := (pEq (.int .i64 (0 : Int)))) rfl rfl rfl (J_move rfl Opd.con) ?_
      refine RegL.nil ?_
      refine Ct.then_tr ?_
      refine Tr.weak (Γ' := [(1, (pPtr (cGProblem p_0))), (20, (pSl 1 (cSl 1 (cK .i64)) p_0.Apart)), (21, (pEq (.int .i64 (p_0.Apart.length : Int)))), (22, (pEq (.int .i64 (0 : Int))))]) ⟨rfl, rfl, rfl, rfl, trivial⟩ ?_
      refine Tr.block ?_
      refine Tr.weak (Γ' := [(1, (pPtr (cGProblem p_0))), (20, (pSl 1 (cSl 1 (cK .i64)) p_0.Apart)), (21, (pEq (.int .i64 (p_0.Apart.length : Int)))), (22, (pEq (.int .i64 (0 : Int))))]) ⟨rfl, rfl, rfl, rfl, trivial⟩ ?_
      refine Tr.loop (γ := Unit) (σ := Int) (Γσ := fun s g => [(1, (pPtr (cGProblem p_0))), (20, (pSl 1 (cSl 1 (cK .i64)) p_0.Apart)), (21, (pEq (.int .i64 (p_0.Apart.length : Int)))), (22, (pEq (.int .i64 s)))]) (Ωσ := fun s g => []) (g := ()) h ?_
      clear h
      rintro v6 g7 t h
      replace h : m_impl_ValidProblem_B5 p_0 v6 = some t := h
      unfold m_impl_ValidProblem_B5 at h
      refine Tr.weakO (Γ' := [(1, (pPtr (cGProblem p_0))), (20, (pSl 1 (cSl 1 (cK .i64)) p_0.Apart)), (21, (pEq (.int .i64 (p_0.Apart.length : Int)))), (22, (pEq (.int .i64 v6)))]) (Ω' := []) rfl ⟨rfl, rfl, rfl, rfl, trivial⟩ ?_
      refine Tr.seq ?_
      refine Tr.region ?_
      refine RegL.pure (p := (pEq (.bool (decide (v6 < (p_0.Apart.length : Int)))))) rfl rfl rfl (J_bin rfl (Opd.tmp rfl) (Opd.tmp rfl) B_lss) ?_
      refine RegL.nil ?_
      refine Ct.then_tr ?_
      refine Tr.weak (Γ' := [(1, (pPtr (cGProblem p_0))), (20, (pSl 1 (cSl 1 (cK .i64)) p_0.Apart)), (21, (pEq (.int .i64 (p_0.Apart.length : Int)))), (22, (pEq (.int .i64 v6))), (23, (pEq (.bool (decide (v6 < (p_0.Apart.length : Int))))))]) ⟨rfl, rfl, rfl, rfl, rfl, trivial⟩ ?_
      refine Tr.seq ?_
      refine Tr.cond (Opd.tmp rfl) (fun hc => ?_) (fun hc => ?_)
      · replace h := bif_t hc h
        refine Tr.skip ?_
        refine Ct.then_tr ?_
        refine Tr.weak (Γ' := [(1, (pPtr (cGProblem p_0))), (20, (pSl 1 (cSl 1 (cK .i64)) p_0.Apart)), (21, (pEq (.int .i64 (p_0.Apart.length : Int)))), (22, (pEq (.int .i64 v6)))]) ⟨rfl, rfl, rfl, rfl, trivial⟩ ?_
        refine Tr.seq ?_
        refine Tr.block ?_
        refine Tr.seq ?_
        refine Tr.region ?_
        refine RegL.pure (p := (pEq (.int .i64 v6))) rfl rfl rfl (J_move rfl (Opd.tmp rfl)) ?_
        replace h := bind_some h; obtain ⟨x8, hx8, h⟩ := h
        refine RegL.pure (p := (pPtr ((cSl 1 (cK .i64)) x8))) rfl rfl rfl (J_idx rfl Try.underlying22 sz26 (Opd.tmp rfl) (Opd.tmp rfl) hx8) ?_
        refine RegL.pure (p := (pSl 1 (cK .i64) x8)) rfl rfl rfl (J_load rfl Try.isAgg26 (Opd.tmp rfl)) ?_
        refine RegL.pure (p := (pEq (.int .i64 v6))) rfl rfl rfl (J_assign rfl (Opd.tmp rfl)) ?_
        refine RegL.pure (p := (pSl 1 (cK .i64) x8)) rfl rfl rfl (J_assign rfl (Opd.tmp rfl)) ?_
        refine RegL.nil ?_
        refine Ct.then_tr ?_
        refine Tr.weak (Γ' := [(1, (pPtr (cGProblem p_0))), (3, (pEq (.int .i64 v6))), (4, (pSl 1 (cK .i64) x8)), (20, (pSl 1 (cSl 1 (cK .i64)) p_0.Apart)), (21, (pEq (.int .i64 (p_0.Apart.length : Int)))), (22, (pEq (.int .i64 v6)))]) ⟨rfl, rfl, rfl, rfl, rfl, rfl, trivial⟩ ?_
        refine Tr.seq ?_
        refine Tr.seq ?_
        replace h := bind_some h; obtain ⟨x9, hx9, h⟩ := h
        refine Tr.cut (γ := Unit) (Γm := fun g => [(1, (pPtr (cGProblem p_0))), (3, (pEq (.int .i64 v6))), (4, (pSl 1 (cK .i64) x8)), (20, (pSl 1 (cSl 1 (cK .i64)) p_0.Apart)), (21, (pEq (.int .i64 (p_0.Apart.length : Int)))), (22, (pEq (.int .i64 v6))), (44, (pEq (.bool x9)))]) (Ωm := fun g => []) ?_ (fun g14 => ?_)
        · clear h
          have h := hx9
          clear hx9
          refine Tr.region ?_
          refine RegL.pure (p := (pSl 1 (cK .i64) x8)) rfl rfl rfl (J_move rfl (Opd.tmp rfl)) ?_
          refine RegL.pure (p := (pEq (.int .i64 (x8.length : Int)))) rfl rfl rfl (J_len rfl Try.underlying26 (Opd.tmp rfl) rfl) ?_
          refine RegL.pure (p := (pPtr ((cSl 1 (cSl 1 (cK .i64))) p_0.Domains))) rfl rfl rfl (J_fieldAddr rfl Try.underlying29 rfl sz22 (by decide) (Opd.tmp rfl) rfl) ?_
          refine RegL.pure (p := (pSl 1 (cSl 1 (cK .i64)) p_0.Domains)) rfl rfl rfl (J_load rfl Try.isAgg22 (Opd.tmp rfl)) ?_
          refine RegL.pure (p := (pEq (.int .i64 (p_0.Domains.length : Int)))) rfl rfl rfl (J_len rfl Try.underlying22 (Opd.tmp rfl) rfl) ?_
          refine RegL.pure (p := (pEq (.bool ((x8.length : Int) != (p_0.Domains.length : Int))))) rfl rfl rfl (J_bin rfl (Opd.tmp rfl) (Opd.tmp rfl) B_neq) ?_
          refine RegL.pure (p := (pEq (.bool ((x8.length : Int) != (p_0.Domains.length : Int))))) rfl rfl rfl (J_move rfl (Opd.tmp rfl)) ?_
          rcases Bool.eq_false_or_eq_true ((x8.length : Int) != (p_0.Domains.length : Int)) with hc10 | hc10
          · replace h := bif_t hc10 h
            refine RegL.skipG rfl rfl rfl hc10 rfl rfl ?_
            refine RegL.skipG rfl rfl rfl hc10 rfl rfl ?_
            refine RegL.skipG rfl rfl rfl hc10 rfl rfl ?_
            refine RegL.pure (p := (pEq (.bool true))) rfl rfl rfl (J_pick rfl (Opd.tmp rfl) (fun _ => Opd.con) (fun hf => absurd (hc10.symm.trans hf) (by decide))) ?_
            refine RegL.pure (p := (pEq (.bool true))) rfl rfl rfl (J_move rfl (Opd.tmp rfl)) ?_
            refine RegL.skipG rfl rfl rfl rfl rfl rfl ?_
            refine RegL.skipG rfl rfl rfl rfl rfl rfl ?_
            refine RegL.skipG rfl rfl rfl rfl rfl rfl ?_
            refine RegL.skipG rfl rfl rfl rfl rfl rfl ?_
            refine RegL.skipG rfl rfl rfl rfl rfl rfl ?_
            refine RegL.pure (p := (pEq (.bool true))) rfl rfl rfl (J_pick rfl (Opd.tmp rfl) (fun _ => Opd.con) (fun hf => absurd hf (by decide))) ?_
            refine RegL.nil ?_
            replace h := Option.some.inj h; subst h
            exact Ct.mid () rfl ⟨rfl, rfl, rfl, rfl, rfl, rfl, rfl, trivial⟩
          · replace h := bif_f hc10 h
            refine RegL.pureG (p := (pSl 1 (cK .i64) x8)) rfl rfl rfl hc10 rfl rfl (J_move rfl (Opd.tmp rfl)) ?_
            replace h := bind_some h; obtain ⟨x11, hx11, h⟩ := h
            refine RegL.pureG (p := (pEq (.bool x11))) rfl rfl rfl hc10 rfl rfl (J_call rfl Try.call69 (c_impl_allWithin hx11) (Opds.cons (Opd.tmp rfl) (Opds.cons Opd.con (Opds.cons Opd.con Opds.nil)))) ?_
            refine RegL.pureG (p := (pEq (.bool (!x11)))) rfl rfl rfl hc10 rfl rfl (J_not rfl (Opd.tmp rfl)) ?_
            refine RegL.pure (p := (pEq (.bool (!x11)))) rfl rfl rfl (J_pick rfl (Opd.tmp rfl) (fun hf => absurd (hc10.symm.trans hf) (by decide)) (fun _ => (Opd.tmp rfl))) ?_
            refine RegL.pure (p := (pEq (.bool (!x11)))) rfl rfl rfl (J_move rfl (Opd.tmp rfl)) ?_
            rcases Bool.eq_false_or_eq_true (!x11) with hc12 | hc12
            · replace h := bif_t hc12 h
              refine RegL.skipG rfl rfl rfl hc12 rfl rfl ?_
              refine RegL.skipG rfl rfl rfl hc12 rfl rfl ?_
              refine RegL.skipG rfl rfl rfl hc12 rfl rfl ?_
              refine RegL.skipG rfl rfl rfl hc12 rfl rfl ?_
              refine RegL.skipG rfl rfl rfl hc12 rfl rfl ?_
              refine RegL.pure (p := (pEq (.bool true))) rfl rfl rfl (J_pick rfl (Opd.tmp rfl) (fun _ => Opd.con) (fun hf => absurd (hc12.symm.trans hf) (by decide))) ?_
              refine RegL.nil ?_
              replace h := Option.some.inj h; subst h
              exact Ct.mid () rfl ⟨rfl, rfl, rfl, rfl, rfl, rfl, rfl, trivial⟩
            · replace h := bif_f hc12 h
              refine RegL.pureG (p := (pSl 1 (cK .i64) x8)) rfl rfl rfl hc12 rfl rfl (J_move rfl (Opd.tmp rfl)) ?_
              refine RegL.pureG (p := (pEq (.int .i64 v6))) rfl rfl rfl hc12 rfl rfl (J_move rfl (Opd.tmp rfl)) ?_
              replace h := bind_some h; obtain ⟨x13, hx13, h⟩ := h
              refine RegL.pureG (p := (pPtr ((cK .i64) x13))) rfl rfl rfl hc12 rfl rfl (J_idx rfl Try.underlying26 sz2 (Opd.tmp rfl) (Opd.tmp rfl) hx13) ?_
              refine RegL.pureG (p := (pEq (.int .i64 x13))) rfl rfl rfl hc12 rfl rfl (J_load rfl Try.isAgg2 (Opd.tmp rfl)) ?_
              refine RegL.pureG (p := (pEq (.bool (x13 != (0 : Int))))) rfl rfl rfl hc12 rfl rfl (J_bin rfl (Opd.tmp rfl) Opd.con B_neq) ?_
              refine RegL.pure (p := (pEq (.bool (x13 != (0 : Int))))) rfl rfl rfl (J_pick rfl (Opd.tmp rfl) (fun hf => absurd (hc12.symm.trans hf) (by decide)) (fun _ => (Opd.tmp rfl))) ?_
              refine RegL.nil ?_
              replace h := Option.some.inj h; subst h
              exact Ct.mid () rfl ⟨rfl, rfl, rfl, rfl, rfl, rfl, rfl, trivial⟩
        · clear hx9
          refine Ct.then_tr ?_
          refine Tr.weak (Γ' := [(1, (pPtr (cGProblem p_0))), (3, (pEq (.int .i64 v6))), (4, (pSl 1 (cK .i64) x8)), (20, (pSl 1 (cSl 1 (cK .i64)) p_0.Apart)), (21, (pEq (.int .i64 (p_0.Apart.length : Int)))), (22, (pEq (.int .i64 v6))), (44, (pEq (.bool x9)))]) ⟨rfl, rfl, rfl, rfl, rfl, rfl, rfl, trivial⟩ ?_
          refine Tr.cond (Opd.tmp rfl) (fun hc => ?_) (fun hc => ?_)
          · replace h := bif_t hc h
            refine Tr.seq ?_
            refine Tr.region ?_
            refine RegL.pure (p := (pEq (.bool false))) rfl rfl rfl (J_assign rfl Opd.con) ?_
            refine RegL.nil ?_
            refine Ct.then_tr ?_
            refine Tr.weak (Γ' := [(2, (pEq (.bool false)))]) ⟨rfl, trivial⟩ ?_
            refine Tr.ret ?_
            refine Ct.then_ret ?_
            refine Ct.blk_ret ?_
            refine Ct.then_ret ?_
            replace h := map_some h; obtain ⟨r1, h, rfl⟩ := h
            refine Ct.out_ret fun e => ?_
            subst e
            refine Ct.blk_ret ?_
            refine Ct.then_ret ?_
            replace h := Option.some.inj h; subst h
            exact Ct.retH1 (Ωx := []) () rfl (RvOk.tmp rfl) rfl
          · replace h := bif_f hc h
            refine Tr.skip ?_
            refine Ct.then_tr ?_
            refine Tr.weak (Γ' := [(1, (pPtr (cGProblem p_0))), (3, (pEq (.int .i64 v6))), (4, (pSl 1 (cK .i64) x8)), (20, (pSl 1 (cSl 1 (cK .i64)) p_0.Apart)), (21, (pEq (.int .i64 (p_0.Apart.length : Int)))), (22, (pEq (.int .i64 v6)))]) ⟨rfl, rfl, rfl, rfl, rfl, rfl, trivial⟩ ?_
            refine Tr.seq ?_
            refine Tr.region ?_
            refine RegL.pure (p := (pEq (.int .i64 v6))) rfl rfl rfl (J_move rfl (Opd.tmp rfl)) ?_
            refine RegL.pure (p := (pEq (.int .i64 (0 : Int)))) rfl rfl rfl (J_move rfl Opd.con) ?_
            refine RegL.nil ?_
            refine Ct.then_tr ?_
            refine Tr.weak (Γ' := [(1, (pPtr (cGProblem p_0))), (3, (pEq (.int .i64 v6))), (4, (pSl 1 (cK .i64) x8)), (20, (pSl 1 (cSl 1 (cK .i64)) p_0.Apart)), (21, (pEq (.int .i64 (p_0.Apart.length : Int)))), (22, (pEq (.int .i64 v6))), (45, (pEq (.int .i64 v6))), (46, (pEq (.int .i64 (0 : Int))))]) ⟨rfl, rfl, rfl, rfl, rfl, rfl, rfl, rfl, trivial⟩ ?_
            refine Tr.block ?_
            refine Tr.weak (Γ' := [(1, (pPtr (cGProblem p_0))), (3, (pEq (.int .i64 v6))), (4, (pSl 1 (cK .i64) x8)), (20, (pSl 1 (cSl 1 (cK .i64)) p_0.Apart)), (21, (pEq (.int .i64 (p_0.Apart.length : Int)))), (22, (pEq (.int .i64 v6))), (45, (pEq (.int .i64 v6))), (46, (pEq (.int .i64 (0 : Int))))]) ⟨rfl, rfl, rfl, rfl, rfl, rfl, rfl, rfl, trivial⟩ ?_
            refine Tr.loop (γ := Unit) (σ := Int) (Γσ := fun s g => [(1, (pPtr (cGProblem p_0))), (3, (pEq (.int .i64 v6))), (4, (pSl 1 (cK .i64) x8)), (20, (pSl 1 (cSl 1 (cK .i64)) p_0.Apart)), (21, (pEq (.int .i64 (p_0.Apart.length : Int)))), (22, (pEq (.int .i64 v6))), (45, (pEq (.int .i64 v6))), (46, (pEq (.int .i64 s)))]) (Ωσ := fun s g => []) (g := ()) h ?_
            clear h
            rintro v16 g17 t h
            replace h : m_impl_ValidProblem_B15 p_0 v6 x8 v16 = some t := h
            unfold m_impl_ValidProblem_B15 at h
            refine Tr.weakO (Γ' := [(1, (pPtr (cGProblem p_0))), (3, (pEq (.int .i64 v6))), (4, (pSl 1 (cK .i64) x8)), (20, (pSl 1 (cSl 1 (cK .i64)) p_0.Apart)), (21, (pEq (.int .i64 (p_0.Apart.length : Int)))), (22, (pEq (.int .i64 v6))), (45, (pEq (.int .i64 v6))), (46, (pEq (.int .i64 v16)))]) (Ω' := []) rfl ⟨rfl, rfl, rfl, rfl, rfl, rfl, rfl, rfl, trivial⟩ ?_
            refine Tr.seq ?_
            refine Tr.region ?_
            refine RegL.pure (p := (pEq (.bool (decide (v16 < v6))))) rfl rfl rfl (J_bin rfl (Opd.tmp rfl) (Opd.tmp rfl) B_lss) ?_
            refine RegL.nil ?_
            refine Ct.then_tr ?_
            refine Tr.weak (Γ' := [(1, (pPtr (cGProblem p_0))), (3, (pEq (.int .i64 v6))), (4, (pSl 1 (cK .i64) x8)), (20, (pSl 1 (cSl 1 (cK .i64)) p_0.Apart)), (21, (pEq (.int .i64 (p_0.Apart.length : Int)))), (22, (pEq (.int .i64 v6))), (45, (pEq (.int .i64 v6))), (46, (pEq (.int .i64 v16))), (47, (pEq (.bool (decide (v16 < v6)))))]) ⟨rfl, rfl, rfl, rfl, rfl, rfl, rfl, rfl, rfl, trivial⟩ ?_
            refine Tr.seq ?_
            refine Tr.cond (Opd.tmp rfl) (fun hc => ?_) (fun hc => ?_)
            · replace h := bif_t hc h
              refine Tr.skip ?_
              refine Ct.then_tr ?_
              refine Tr.weak (Γ' := [(1, (pPtr (cGProblem p_0))), (3, (pEq (.int .i64 v6))), (4, (pSl 1 (cK .i64) x8)), (20, (pSl 1 (cSl 1 (cK .i64)) p_0.Apart)), (21, (pEq (.int .i64 (p_0.Apart.length : Int)))), (22, (pEq (.int .i64 v6))), (45, (pEq (.int .i64 v6))), (46, (pEq (.int .i64 v16)))]) ⟨rfl, rfl, rfl, rfl, rfl, rfl, rfl, rfl, trivial⟩ ?_
              refine Tr.seq ?_
              refine Tr.block ?_
              refine Tr.seq ?_
              refine Tr.region ?_
              refine RegL.pure (p := (pEq (.int .i64 v16))) rfl rfl rfl (J_move rfl (Opd.tmp rfl)) ?_
              refine RegL.pure (p := (pEq (.int .i64 v16))) rfl rfl rfl (J_assign rfl (Opd.tmp rfl)) ?_
              refine RegL.nil ?_
              refine Ct.then_tr ?_
              refine Tr.weak (Γ' := [(1, (pPtr (cGProblem p_0))), (3, (pEq (.int .i64 v6))), (4, (pSl 1 (cK .i64) x8)), (5, (pEq (.int .i64 v16))), (20, (pSl 1 (cSl 1 (cK .i64)) p_0.Apart)), (21, (pEq (.int .i64 (p_0.Apart.length : Int)))), (22, (pEq (.int .i64 v6))), (45, (pEq (.int .i64 v6))), (46, (pEq (.int .i64 v16)))]) ⟨rfl, rfl, rfl, rfl, rfl, rfl, rfl, rfl, rfl, trivial⟩ ?_
              refine Tr.seq ?_
              replace h := bind_some h; obtain ⟨x18, hx18, h⟩ := h
              replace h := bind_some h; obtain ⟨x19, hx19, h⟩ := h
              replace h := bind_some h; obtain ⟨x20, hx20, h⟩ := h
              refine Tr.drawD (n := 64) (m := 13) (es := [some (Ent.mk [(4, (pSl 1 (cK .i64) x8))] (pSl 1 (cK .i64) x8) true), some (Ent.mk [(5, (pEq (.int .i64 v16)))] (pEq (.int .i64 v16)) true), some (Ent.mk [(49, (pSl 1 (cK .i64) x8)), (50, (pEq (.int .i64 v16)))] (pPtr ((cK .i64) x18)) true), some (Ent.mk [(51, (pPtr ((cK .i64) x18)))] (pEq (.int .i64 x18)) true), some (Ent.mk [(1, (pPtr (cGProblem p_0)))] (pPtr ((cSl 1 (cSl 1 (cK .i64))) p_0.Apart)) true), some (Ent.mk [(53, (pPtr ((cSl 1 (cSl 1 (cK .i64))) p_0.Apart)))] (pSl 1 (cSl 1 (cK .i64)) p_0.Apart) true), some (Ent.mk [(5, (pEq (.int .i64 v16)))] (pEq (.int .i64 v16)) true), some (Ent.mk [(54, (pSl 1 (cSl 1 (cK .i64)) p_0.Apart)), (55, (pEq (.int .i64 v16)))] (pPtr ((cSl 1 (cK .i64)) x19)) true), some (Ent.mk [(56, (pPtr ((cSl 1 (cK .i64)) x19)))] (pSl 1 (cK .i64) x19) true), some (Ent.mk [(3, (pEq (.int .i64 v6)))] (pEq (.int .i64 v6)) true), some (Ent.mk [(57, (pSl 1 (cK .i64) x19)), (58, (pEq (.int .i64 v6)))] (pPtr ((cK .i64) x20)) true), some (Ent.mk [(59, (pPtr ((cK .i64) x20)))] (pEq (.int .i64 x20)) true), some (Ent.mk [(52, (pEq (.int .i64 x18))), (60, (pEq (.int .i64 x20)))] (pEq (.bool (x18 != x20))) true)]) (rd := [[4], [5], [49, 50], [51], [1], [53], [5], [54, 55], [56], [3], [57, 58], [59], [52, 60]]) rfl hmix (by kernel_rfl) fun hD => ?_
              refine RD.fin (es := [Ent.mk [(4, (pSl 1 (cK .i64) x8))] (pSl 1 (cK .i64) x8) true, Ent.mk [(5, (pEq (.int .i64 v16)))] (pEq (.int .i64 v16)) true, Ent.mk [(49, (pSl 1 (cK .i64) x8)), (50, (pEq (.int .i64 v16)))] (pPtr ((cK .i64) x18)) true, Ent.mk [(51, (pPtr ((cK .i64) x18)))] (pEq (.int .i64 x18)) true, Ent.mk [(1, (pPtr (cGProblem p_0)))] (pPtr ((cSl 1 (cSl 1 (cK .i64))) p_0.Apart)) true, Ent.mk [(53, (pPtr ((cSl 1 (cSl 1 (cK .i64))) p_0.Apart)))] (pSl 1 (cSl 1 (cK .i64)) p_0.Apart) true, Ent.mk [(5, (pEq (.int .i64 v16)))] (pEq (.int .i64 v16)) true, Ent.mk [(54, (pSl 1 (cSl 1 (cK .i64)) p_0.Apart)), (55, (pEq (.int .i64 v16)))] (pPtr ((cSl 1 (cK .i64)) x19)) true, Ent.mk [(56, (pPtr ((cSl 1 (cK .i64)) x19)))] (pSl 1 (cK .i64) x19) true, Ent.mk [(3, (pEq (.int .i64 v6)))] (pEq (.int .i64 v6)) true, Ent.mk [(57, (pSl 1 (cK .i64) x19)), (58, (pEq (.int .i64 v6)))] (pPtr ((cK .i64) x20)) true, Ent.mk [(59, (pPtr ((cK .i64) x20)))] (pEq (.int .i64 x20)) true, Ent.mk [(52, (pEq (.int .i64 x18))), (60, (pEq (.int .i64 x20)))] (pEq (.bool (x18 != x20))) true]) (done := []) hD ⟨.inr ⟨(OpJ.w (J_move rfl (Opd.tmp rfl))), ⟨rfl, trivial⟩, rfl, rfl⟩, ⟨.inr ⟨(OpJ.w (J_move rfl (Opd.tmp rfl))), ⟨rfl, trivial⟩, rfl, rfl⟩, ⟨.inr ⟨(OpJ.w (J_idx rfl Try.underlying26 sz2 (Opd.tmp rfl) (Opd.tmp rfl) hx18)), ⟨rfl, rfl, trivial⟩, rfl, rfl⟩, ⟨.inr ⟨(OpJ.w (J_load rfl Try.isAgg2 (Opd.tmp rfl))), ⟨rfl, trivial⟩, rfl, rfl⟩, ⟨.inr ⟨(OpJ.w (J_fieldAddr rfl Try.underlying29 rfl sz22 (by decide) (Opd.tmp rfl) rfl)), ⟨rfl, trivial⟩, rfl, rfl⟩, ⟨.inr ⟨(OpJ.w (J_load rfl Try.isAgg22 (Opd.tmp rfl))), ⟨rfl, trivial⟩, rfl, rfl⟩, ⟨.inr ⟨(OpJ.w (J_move rfl (Opd.tmp rfl))), ⟨rfl, trivial⟩, rfl, rfl⟩, ⟨.inr ⟨(OpJ.w (J_idx rfl Try.underlying22 sz26 (Opd.tmp rfl) (Opd.tmp rfl) hx19)), ⟨rfl, rfl, trivial⟩, rfl, rfl⟩, ⟨.inr ⟨(OpJ.w (J_load rfl Try.isAgg26 (Opd.tmp rfl))), ⟨rfl, trivial⟩, rfl, rfl⟩, ⟨.inr ⟨(OpJ.w (J_move rfl (Opd.tmp rfl))), ⟨rfl, trivial⟩, rfl, rfl⟩, ⟨.inr ⟨(OpJ.w (J_idx rfl Try.underlying26 sz2 (Opd.tmp rfl) (Opd.tmp rfl) hx20)), ⟨rfl, rfl, trivial⟩, rfl, rfl⟩, ⟨.inr ⟨(OpJ.w (J_load rfl Try.isAgg2 (Opd.tmp rfl))), ⟨rfl, trivial⟩, rfl, rfl⟩, ⟨.inr ⟨(OpJ.w (J_bin rfl (Opd.tmp rfl) (Opd.tmp rfl) B_neq)), ⟨rfl, rfl, trivial⟩, rfl, rfl⟩, trivial⟩⟩⟩⟩⟩⟩⟩⟩⟩⟩⟩⟩⟩ ?_
              refine RegL.nil ?_
              refine Ct.then_tr ?_
              refine Tr.weak (Γ' := [(1, (pPtr (cGProblem p_0))), (3, (pEq (.int .i64 v6))), (4, (pSl 1 (cK .i64) x8)), (20, (pSl 1 (cSl 1 (cK .i64)) p_0.Apart)), (21, (pEq (.int .i64 (p_0.Apart.length : Int)))), (22, (pEq (.int .i64 v6))), (45, (pEq (.int .i64 v6))), (46, (pEq (.int .i64 v16))), (61, (pEq (.bool (x18 != x20))))]) ⟨rfl, rfl, rfl, rfl, rfl, rfl, rfl, rfl, rfl, trivial⟩ ?_
              refine Tr.cond (Opd.tmp rfl) (fun hc => ?_) (fun hc => ?_)
              · replace h := bif_t hc h
                refine Tr.seq ?_
                refine Tr.region ?_
                refine RegL.pure (p := (pEq (.bool false))) rfl rfl rfl (J_assign rfl Opd.con) ?_
                refine RegL.nil ?_
                refine Ct.then_tr ?_
                refine Tr.weak (Γ' := [(2, (pEq (.bool false)))]) ⟨rfl, trivial⟩ ?_
                refine Tr.ret ?_
                refine Ct.blk_ret ?_
                refine Ct.then_ret ?_
                replace h := map_some h; obtain ⟨r1, h, rfl⟩ := h
                refine Ct.out_ret fun e => ?_
                subst e
                refine Ct.blk_ret ?_
                refine Ct.blk_ret ?_
                refine Ct.then_ret ?_
                replace h := map_some h; obtain ⟨r1, h, rfl⟩ := h
                refine Ct.out_ret fun e => ?_
                subst e
                refine Ct.blk_ret ?_
                refine Ct.then_ret ?_
                replace h := Option.some.inj h; subst h
                exact Ct.retH1 (Ωx := []) () rfl (RvOk.tmp rfl) rfl
              · replace h := bif_f hc h
                refine Tr.skip ?_
                refine Ct.blk_normal ?_
                refine Ct.then_tr ?_
                refine Tr.weak (Γ' := [(1, (pPtr (cGProblem p_0))), (3, (pEq (.int .i64 v6))), (4, (pSl 1 (cK .i64) x8)), (20, (pSl 1 (cSl 1 (cK .i64)) p_0.Apart)), (21, (pEq (.int .i64 (p_0.Apart.length : Int)))), (22, (pEq (.int .i64 v6))), (45, (pEq (.int .i64 v6))), (46, (pEq (.int .i64 v16)))]) ⟨rfl, rfl, rfl, rfl, rfl, rfl, rfl, rfl, trivial⟩ ?_
                refine Tr.region ?_
                refine RegL.pure (p := (pEq (.int .i64 (w64 (v16 + (1 : Int)))))) rfl rfl rfl (J_bin rfl (Opd.tmp rfl) Opd.con B_add) ?_
                refine RegL.pure (p := (pEq (.int .i64 (w64 (v16 + (1 : Int)))))) rfl rfl rfl (J_move rfl (Opd.tmp rfl)) ?_
                refine RegL.nil ?_
                replace h := Option.some.inj h; subst h
                exact Ct.again () rfl ⟨rfl, rfl, rfl, rfl, rfl, rfl, rfl, rfl, trivial⟩
            · replace h := bif_f hc h
              refine Tr.exit ?_
              refine Ct.then_exit ?_
              replace h := map_some h; obtain ⟨r1, h, rfl⟩ := h
              refine Ct.out_exit fun e => ?_
              subst e
              refine Ct.blk_exit ?_
              refine Ct.blk_normal ?_
              refine Ct.then_tr ?_
              refine Tr.weak (Γ' := [(1, (pPtr (cGProblem p_0))), (20, (pSl 1 (cSl 1 (cK .i64)) p_0.Apart)), (21, (pEq (.int .i64 (p_0.Apart.length : Int)))), (22, (pEq (.int .i64 v6)))]) ⟨rfl, rfl, rfl, rfl, trivial⟩ ?_
              refine Tr.region ?_
              refine RegL.pure (p := (pEq (.int .i64 (w64 (v6 + (1 : Int)))))) rfl rfl rfl (J_bin rfl (Opd.tmp rfl) Opd.con B_add) ?_
              refine RegL.pure (p := (pEq (.int .i64 (w64 (v6 + (1 : Int)))))) rfl rfl rfl (J_move rfl (Opd.tmp rfl)) ?_
              refine RegL.nil ?_
              replace h := Option.some.inj h; subst h
              exact Ct.again () rfl ⟨rfl, rfl, rfl, rfl, trivial⟩
      · replace h := bif_f hc h
        refine Tr.exit ?_
        refine Ct.then_exit ?_
        replace h := map_some h; obtain ⟨r1, h, rfl⟩ := h
        refine Ct.out_exit fun e => ?_
        subst e
        refine Ct.blk_exit ?_
        refine Ct.then_tr ?_
        refine Tr.weak (Γ' := []) trivial ?_
        refine Tr.seq ?_
        refine Tr.region ?_
        refine RegL.pure (p := (pEq (.bool true))) rfl rfl rfl (J_assign rfl Opd.con) ?_
        refine RegL.nil ?_
        refine Ct.then_tr ?_
        refine Tr.weak (Γ' := [(2, (pEq (.bool true)))]) ⟨rfl, trivial⟩ ?_
        refine Tr.ret ?_
        replace h := Option.some.inj h; subst h
        exact Ct.retH1 (Ωx := []) () rfl (RvOk.tmp rfl) rfl

theorem c_impl_budgetValid {budget_0 : Int} {r : Bool} (h : m_impl_budgetValid budget_0 = some r) : CallJ Try.prog 61 [(pEq (.int .i64 budget_0))] (pEq (.bool r)) := by
  unfold m_impl_budgetValid at h
  refine CallJ.enterH Try.func61 rfl Try.ntmps61 rfl fun W I0 H => ?_
  refine Tr.weak (Γ' := [(0, (pEq (.int .i64 budget_0)))]) ⟨rfl, trivial⟩ ?_
  refine Tr.seq ?_
  refine Tr.region ?_
  refine RegL.pure (p := (pEq (.bool false))) rfl rfl rfl (J_assign rfl Opd.con) ?_
  refine RegL.nil ?_
  refine Ct.then_tr ?_
  refine Tr.weak (Γ' := [(0, (pEq (.int .i64 budget_0)))]) ⟨rfl, trivial⟩ ?_
  refine Tr.seq ?_
  refine Tr.region ?_
  refine RegL.pure (p := (pEq (.int .i64 budget_0))) rfl rfl rfl (J_move rfl (Opd.tmp rfl)) ?_
  replace h := bind_some h; obtain ⟨x1, hx1, h⟩ := h
  refine RegL.pure (p := (pEq (.bool x1))) rfl rfl rfl (J_call rfl Try.call80 (c_impl_within hx1) (Opds.cons (Opd.tmp rfl) (Opds.cons Opd.con (Opds.cons Opd.con Opds.nil)))) ?_
  refine RegL.pure (p := (pEq (.bool x1))) rfl rfl rfl (J_assign rfl (Opd.tmp rfl)) ?_
  refine RegL.nil ?_
  refine Ct.then_tr ?_
  refine Tr.weak (Γ' := [(2, (pEq (.bool x1)))]) ⟨rfl, trivial⟩ ?_
  refine Tr.ret ?_
  replace h := Option.some.inj h; subst h
  exact Ct.retH1 (Ωx := []) () rfl (RvOk.tmp rfl) rfl

theorem o_slices_Grow_int64_int64 {s_0 : (List Int)} {n_1 : Int}  {r : (List Int)} (h : m_slices_Grow_int64_int64 s_0 n_1 = some r) : CallH Try.prog 85 [(pEq (.slice none 0 0)), (pEq (.int .i64 n_1))] [] (fun g : G3 => (pEq (.slice g.1 g.2.1 g.2.2))) (fun g : G3 => [oSl 2 1 (cK .i64) g.1 g.2.1 g.2.2 r]) := by
  unfold m_slices_Grow_int64_int64 at h
  refine CallH.enter Try.func85 rfl Try.ntmps85 rfl fun W I0 H => ?_
  refine Tr.weak (Γ' := [(0, (pEq (.slice none 0 0))), (1, (pEq (.int .i64 n_1)))]) ⟨rfl, rfl, trivial⟩ ?_
  refine Tr.seq ?_
  refine Tr.region ?_
  refine RegL.pure (p := (pEq (.slice none 0 0))) rfl rfl rfl (J_assign rfl Opd.con) ?_
  refine RegL.nil ?_
  refine Ct.then_tr ?_
  refine Tr.weak (Γ' := [(0, (pEq (.slice none 0 0))), (1, (pEq (.int .i64 n_1)))]) ⟨rfl, rfl, trivial⟩ ?_
  refine Tr.seq ?_
  refine Tr.seq ?_
  refine Tr.region ?_
  refine RegL.pure (p := (pEq (.int .i64 n_1))) rfl rfl rfl (J_move rfl (Opd.tmp rfl)) ?_
  refine RegL.pure (p := (pEq (.bool (decide (n_1 < (0 : Int)))))) rfl rfl rfl (J_bin rfl (Opd.tmp rfl) Opd.con B_lss) ?_
  refine RegL.nil ?_
  refine Ct.then_tr ?_
  refine Tr.weak (Γ' := [(0, (pEq (.slice none 0 0))), (1, (pEq (.int .i64 n_1))), (6, (pEq (.bool (decide (n_1 < (0 : Int))))))]) ⟨rfl, rfl, rfl, trivial⟩ ?_
  replace h := bind_some h; obtain ⟨x1, hx1, h⟩ := h
  refine Tr.cut (γ := Unit) (Γm := fun g => [(0, (pEq (.slice none 0 0))), (1, (pEq (.int .i64 n_1)))]) (Ωm := fun g => []) ?_ (fun g2 => ?_)
  · clear h
    have h := hx1
    clear hx1
    refine Tr.cond (Opd.tmp rfl) (fun hc => ?_) (fun hc => ?_)
    · replace h := bif_t hc h
      refine Tr.region ?_
      exact absurd h (by simp)
    · replace h := bif_f hc h
      refine Tr.skip ?_
      replace h := Option.some.inj h; subst h
      exact Ct.mid () rfl ⟨rfl, rfl, trivial⟩
  · clear hx1
    refine Ct.then_tr ?_
    refine Tr.weak (Γ' := [(0, (pEq (.slice none 0 0))), (1, (pEq (.int .i64 n_1)))]) ⟨rfl, rfl, trivial⟩ ?_
    refine Tr.seq ?_
    refine Tr.seq ?_
    refine Tr.region ?_
    refine RegL.pure (p := (pEq (.int .i64 n_1))) rfl rfl rfl (J_move rfl (Opd.tmp rfl)) ?_
    refine RegL.pure (p := (pEq (.slice none 0 0))) rfl rfl rfl (J_move rfl (Opd.tmp rfl)) ?_
    refine RegL.pure (p := (pEq (.int .i64 (0 : Int)))) rfl rfl rfl (J_nilCap rfl Try.underlying26 (Opd.tmp rfl)) ?_
    refine RegL.pure (p := (pEq (.slice none 0 0))) rfl rfl rfl (J_move rfl (Opd.tmp rfl)) ?_
    refine RegL.pure (p := (pEq (.int .i64 (0 : Int)))) rfl rfl rfl (J_nilLen rfl Try.underlying26 (Opd.tmp rfl)) ?_
    refine RegL.pure (p := (pEq (.int .i64 (w64 ((0 : Int) - (0 : Int)))))) rfl rfl rfl (J_bin rfl (Opd.tmp rfl) (Opd.tmp rfl) B_sub) ?_
    refine RegL.pure (p := (pEq (.int .i64 (w64 (n_1 - (w64 ((0 : Int) - (0 : Int)))))))) rfl rfl rfl (J_bin rfl (Opd.tmp rfl) (Opd.tmp rfl) B_sub) ?_
    refine RegL.pure (p := (pEq (.int .i64 (w64 (n_1 - (w64 ((0 : Int) - (0 : Int)))))))) rfl rfl rfl (J_assign rfl (Opd.tmp rfl)) ?_
    refine RegL.nil ?_
    refine Ct.then_tr ?_
    refine Tr.weak (Γ' := [(0, (pEq (.slice none 0 0))), (1, (pEq (.int .i64 (w64 (n_1 - (w64 ((0 : Int) - (0 : Int))))))))]) ⟨rfl, rfl, trivial⟩ ?_
    refine Tr.seq ?_
    refine Tr.region ?_
    refine RegL.pure (p := (pEq (.int .i64 (w64 (n_1 - (w64 ((0 : Int) - (0 : Int)))))))) rfl rfl rfl (J_move rfl (Opd.tmp rfl)) ?_
    refine RegL.pure (p := (pEq (.bool (decide ((0 : Int) < (w64 (n_1 - (w64 ((0 : Int) - (0 : Int)))))))))) rfl rfl rfl (J_bin rfl (Opd.tmp rfl) Opd.con B_gtr) ?_
    refine RegL.nil ?_
    refine Ct.then_tr ?_
    refine Tr.weak (Γ' := [(0, (pEq (.slice none 0 0))), (1, (pEq (.int .i64 (w64 (n_1 - (w64 ((0 : Int) - (0 : Int)))))))), (16, (pEq (.bool (decide ((0 : Int) < (w64 (n_1 - (w64 ((0 : Int) - (0 : Int))))))))))]) ⟨rfl, rfl, rfl, trivial⟩ ?_
    refine Tr.re (Ω2 := [oSl 2 1 (cK .i64) none 0 0 ([] : (List Int))]) (fun h => SatO.nilRow h) ?_
    replace h := bind_some h; obtain ⟨x4, hx4, h⟩ := h
    refine Tr.cut (γ := G3) (Γm := fun g => [(0, (pEq (.slice g.1 g.2.1 g.2.2)))]) (Ωm := fun g => [oSl 2 1 (cK .i64) g.1 g.2.1 g.2.2 x4]) ?_ (fun g10 => ?_)
    · clear h
      have h := hx4
      clear hx4
      refine Tr.cond (Opd.tmp rfl) (fun hc => ?_) (fun hc => ?_)
      · replace h := bif_t hc h
        refine Tr.region ?_
        refine RegL.pure (p := (pEq (.slice none 0 0))) rfl rfl rfl (J_move rfl (Opd.tmp rfl)) ?_
        refine RegL.pure (p := (pEq (.slice none 0 0))) rfl rfl rfl (J_move rfl (Opd.tmp rfl)) ?_
        refine RegL.pure (p := (pEq (.int .i64 ((0 : Nat) : Int)))) rfl rfl rfl (J_cap rfl Try.underlying26 (Opd.tmp rfl)) ?_
        refine RegL.pure (p := (pEq (.slice none 0 0))) rfl rfl rfl (J_nilCut rfl Try.underlying26 sz2 (Opd.tmp rfl) (Opd.tmp rfl)) ?_
        refine RegL.pure (p := (pEq (.int .i64 (w64 (n_1 - (w64 ((0 : Int) - (0 : Int)))))))) rfl rfl rfl (J_move rfl (Opd.tmp rfl)) ?_
        replace h := bind_some h; obtain ⟨x5, hx5, h⟩ := h
        refine RegL.step (γ := Option Addr × Nat) (p := fun g => pEq (.slice g.1 ((w64 (n_1 - (w64 ((0 : Int) - (0 : Int)))))).toNat g.2)) (Ω' := fun g => [oSl 2 1 (cK .i64) g.1 ((w64 (n_1 - (w64 ((0 : Int) - (0 : Int)))))).toNat g.2 x5, oSl 2 1 (cK .i64) none 0 0 ([] : (List Int))]) rfl rfl rfl (M_appendZ rfl Try.underlying26 Try.underlying3 el2 (by decide) (Opd.tmp rfl) (Opd.tmp rfl) hx5) fun g6 => ?_
        refine RegL.pure (p := (pEq (.slice none 0 0))) rfl rfl rfl (J_move rfl (Opd.tmp rfl)) ?_
        refine RegL.pureW (p := (pEq (.int .i64 (([] : (List Int)).length : Int)))) rfl rfl rfl (W_rowLen (j := 1) rfl Try.underlying26 (Opd.tmp rfl) rfl) ?_
        replace h := bind_some h; obtain ⟨u8, hu8, h⟩ := h
        refine RegL.step (γ := Unit) (p := fun _ => pEq (.slice g6.1 ((([] : (List Int)).length : Int)).toNat g6.2)) (Ω' := fun _ => [oSl 2 1 (cK .i64) g6.1 ((([] : (List Int)).length : Int)).toNat g6.2 (x5.take ((([] : (List Int)).length : Int)).toNat), oSl 2 1 (cK .i64) none 0 0 ([] : (List Int))]) rfl rfl rfl (M_rowCut rfl Try.underlying26 sz2 (Opd.tmp rfl) SOpd.none (SOpd.some (Opd.tmp rfl)) hu8) fun g9 => ?_
        refine RegL.pure (p := (pEq (.slice g6.1 ((([] : (List Int)).length : Int)).toNat g6.2))) rfl rfl rfl (J_assign rfl (Opd.tmp rfl)) ?_
        refine RegL.nil ?_
        refine Ct.re (Ω2 := [oSl 2 1 (cK .i64) none 0 0 ([] : (List Int)), oSl 2 1 (cK .i64) g6.1 ((([] : (List Int)).length : Int)).toNat g6.2 (x5.take ((([] : (List Int)).length : Int)).toNat)]) (fun h => SatO.pick 1 h) ?_
        refine Ct.re (Ω2 := [oSl 2 1 (cK .i64) g6.1 ((([] : (List Int)).length : Int)).toNat g6.2 (x5.take ((([] : (List Int)).length : Int)).toNat)]) (fun h => SatO.rest h) ?_
        replace h := Option.some.inj h; subst h
        exact Ct.mid (g6.1, ((([] : (List Int)).length : Int)).toNat, g6.2) rfl ⟨rfl, trivial⟩
      · replace h := bif_f hc h
        refine Tr.skip ?_
        replace h := Option.some.inj h; subst h
        exact Ct.mid (none, 0, 0) rfl ⟨rfl, trivial⟩
    · clear hx4
      refine Ct.then_tr ?_
      refine Tr.weak (Γ' := [(0, (pEq (.slice g10.1 g10.2.1 g10.2.2)))]) ⟨rfl, trivial⟩ ?_
      refine Tr.seq ?_
      refine Tr.region ?_
      refine RegL.pure (p := (pEq (.slice g10.1 g10.2.1 g10.2.2))) rfl rfl rfl (J_move rfl (Opd.tmp rfl)) ?_
      refine RegL.pure (p := (pEq (.slice g10.1 g10.2.1 g10.2.2))) rfl rfl rfl (J_assign rfl (Opd.tmp rfl)) ?_
      refine RegL.nil ?_
      refine Ct.then_tr ?_
      refine Tr.weak (Γ' := [(4, (pEq (.slice g10.1 g10.2.1 g10.2.2)))]) ⟨rfl, trivial⟩ ?_
      refine Tr.ret ?_
      replace h := Option.some.inj h; subst h
      exact Ct.retH1 (Ωx := []) (g10.1, g10.2.1, g10.2.2) rfl (RvOk.tmp rfl) rfl

theorem o_slices_Concat_int64_int64 {slices_0 : (List (List Int))}  {r : (List Int)} (h : m_slices_Concat_int64_int64 slices_0 = some r) : CallH Try.prog 62 [(pSl 1 (cSl 1 (cK .i64)) slices_0)] [] (fun g : G3 => (pEq (.slice g.1 g.2.1 g.2.2))) (fun g : G3 => [oSl 2 1 (cK .i64) g.1 g.2.1 g.2.2 r]) := by
  unfold m_slices_Concat_int64_int64 at h
  refine CallH.enter Try.func62 rfl Try.ntmps62 rfl fun W I0 H => ?_
  refine Tr.weak (Γ' := [(0, (pSl 1 (cSl 1 (cK .i64)) slices_0))]) ⟨rfl, trivial⟩ ?_
  refine Tr.seq ?_
  refine Tr.region ?_
  refine RegL.pure (p := (pEq (.slice none 0 0))) rfl rfl rfl (J_assign rfl Opd.con) ?_
  refine RegL.nil ?_
  refine Ct.then_tr ?_
  refine Tr.weak (Γ' := [(0, (pSl 1 (cSl 1 (cK .i64)) slices_0))]) ⟨rfl, trivial⟩ ?_
  refine Tr.seq ?_
  refine Tr.region ?_
  refine RegL.pure (p := (pEq (.int .i64 (0 : Int)))) rfl rfl rfl (J_assign rfl Opd.con) ?_
  refine RegL.nil ?_
  refine Ct.then_tr ?_
  refine Tr.weak (Γ' := [(0, (pSl 1 (cSl 1 (cK .i64)) slices_0)), (3, (pEq (.int .i64 (0 : Int))))]) ⟨rfl, rfl, trivial⟩ ?_
  refine Tr.seq ?_
  refine Tr.seq ?_
  refine Tr.region ?_
  refine RegL.pure (p := (pSl 1 (cSl 1 (cK .i64)) slices_0)) rfl rfl rfl (J_move rfl (Opd.tmp rfl)) ?_
  refine RegL.pure (p := (pEq (.int .i64 (slices_0.length : Int)))) rfl rfl rfl (J_len rfl Try.underlying22 (Opd.tmp rfl) rfl) ?_
  refine RegL.pure (p := (pEq (.int .i64 (0 : Int)))) rfl rfl rfl (J_move rfl Opd.con) ?_
  refine RegL.nil ?_
  refine Ct.then_tr ?_
  refine Tr.weak (Γ' := [(0, (pSl 1 (cSl 1 (cK .i64)) slices_0)), (3, (pEq (.int .i64 (0 : Int)))), (9, (pSl 1 (cSl 1 (cK .i64)) slices_0)), (10, (pEq (.int .i64 (slices_0.length : Int)))), (11, (pEq (.int .i64 (0 : Int))))]) ⟨rfl, rfl, rfl, rfl, rfl, trivial⟩ ?_
  replace h := bind_some h; obtain ⟨x1, hx1, h⟩ := h
  refine Tr.cut (γ := Unit) (Γm := fun g => [(0, (pSl 1 (cSl 1 (cK .i64)) slices_0)), (3, (pEq (.int .i64 x1)))]) (Ωm := fun g => []) ?_ (fun g9 => ?_)
  · clear h
    have h := hx1
    clear hx1
    refine Tr.block ?_
    refine Tr.weak (Γ' := [(0, (pSl 1 (cSl 1 (cK .i64)) slices_0)), (3, (pEq (.int .i64 (0 : Int)))), (9, (pSl 1 (cSl 1 (cK .i64)) slices_0)), (10, (pEq (.int .i64 (slices_0.length : Int)))), (11, (pEq (.int .i64 (0 : Int))))]) ⟨rfl, rfl, rfl, rfl, rfl, trivial⟩ ?_
    refine Tr.loop (γ := Unit) (σ := (Int × Int)) (Γσ := fun s g => [(0, (pSl 1 (cSl 1 (cK .i64)) slices_0)), (3, (pEq (.int .i64 s.1))), (9, (pSl 1 (cSl 1 (cK .i64)) slices_0)), (10, (pEq (.int .i64 (slices_0.length : Int)))), (11, (pEq (.int .i64 s.2)))]) (Ωσ := fun s g => []) (g := ()) h ?_
    clear h
    rintro ⟨v3, v4⟩ g5 t h
    replace h : m_slices_Concat_int64_int64_B2 slices_0 v3 v4 = some t := h
    unfold m_slices_Concat_int64_int64_B2 at h
    refine Tr.weakO (Γ' := [(0, (pSl 1 (cSl 1 (cK .i64)) slices_0)), (3, (pEq (.int .i64 v3))), (9, (pSl 1 (cSl 1 (cK .i64)) slices_0)), (10, (pEq (.int .i64 (slices_0.length : Int)))), (11, (pEq (.int .i64 v4)))]) (Ω' := []) rfl ⟨rfl, rfl, rfl, rfl, rfl, trivial⟩ ?_
    refine Tr.seq ?_
    refine Tr.region ?_
    refine RegL.pure (p := (pEq (.bool (decide (v4 < (slices_0.length : Int)))))) rfl rfl rfl (J_bin rfl (Opd.tmp rfl) (Opd.tmp rfl) B_lss) ?_
    refine RegL.nil ?_
    refine Ct.then_tr ?_
    refine Tr.weak (Γ' := [(0, (pSl 1 (cSl 1 (cK .i64)) slices_0)), (3, (pEq (.int .i64 v3))), (9, (pSl 1 (cSl 1 (cK .i64)) slices_0)), (10, (pEq (.int .i64 (slices_0.length : Int)))), (11, (pEq (.int .i64 v4))), (12, (pEq (.bool (decide (v4 < (slices_0.length : Int))))))]) ⟨rfl, rfl, rfl, rfl, rfl, rfl, trivial⟩ ?_
    refine Tr.seq ?_
    refine Tr.cond (Opd.tmp rfl) (fun hc => ?_) (fun hc => ?_)
    · replace h := bif_t hc h
      refine Tr.skip ?_
      refine Ct.then_tr ?_
      refine Tr.weak (Γ' := [(0, (pSl 1 (cSl 1 (cK .i64)) slices_0)), (3, (pEq (.int .i64 v3))), (9, (pSl 1 (cSl 1 (cK .i64)) slices_0)), (10, (pEq (.int .i64 (slices_0.length : Int)))), (11, (pEq (.int .i64 v4)))]) ⟨rfl, rfl, rfl, rfl, rfl, trivial⟩ ?_
      refine Tr.seq ?_
      refine Tr.block ?_
      refine Tr.seq ?_
      refine Tr.region ?_
      replace h := bind_some h; obtain ⟨x6, hx6, h⟩ := h
      refine RegL.pure (p := (pPtr ((cSl 1 (cK .i64)) x6))) rfl rfl rfl (J_idx rfl Try.underlying22 sz26 (Opd.tmp rfl) (Opd.tmp rfl) hx6) ?_
      refine RegL.pure (p := (pSl 1 (cK .i64) x6)) rfl rfl rfl (J_load rfl Try.isAgg26 (Opd.tmp rfl)) ?_
      refine RegL.pure (p := (pSl 1 (cK .i64) x6)) rfl rfl rfl (J_assign rfl (Opd.tmp rfl)) ?_
      refine RegL.nil ?_
      refine Ct.then_tr ?_
      refine Tr.weak (Γ' := [(0, (pSl 1 (cSl 1 (cK .i64)) slices_0)), (3, (pEq (.int .i64 v3))), (5, (pSl 1 (cK .i64) x6)), (9, (pSl 1 (cSl 1 (cK .i64)) slices_0)), (10, (pEq (.int .i64 (slices_0.length : Int)))), (11, (pEq (.int .i64 v4)))]) ⟨rfl, rfl, rfl, rfl, rfl, rfl, trivial⟩ ?_
      refine Tr.seq ?_
      refine Tr.region ?_
      refine RegL.pure (p := (pEq (.int .i64 v3))) rfl rfl rfl (J_move rfl (Opd.tmp rfl)) ?_
      refine RegL.pure (p := (pSl 1 (cK .i64) x6)) rfl rfl rfl (J_move rfl (Opd.tmp rfl)) ?_
      refine RegL.pure (p := (pEq (.int .i64 (x6.length : Int)))) rfl rfl rfl (J_len rfl Try.underlying26 (Opd.tmp rfl) rfl) ?_
      refine RegL.pure (p := (pEq (.int .i64 (w64 (v3 + (x6.length : Int)))))) rfl rfl rfl (J_bin rfl (Opd.tmp rfl) (Opd.tmp rfl) B_add) ?_
      refine RegL.pure (p := (pEq (.int .i64 (w64 (v3 + (x6.length : Int)))))) rfl rfl rfl (J_assign rfl (Opd.tmp rfl)) ?_
      refine RegL.nil ?_
      refine Ct.then_tr ?_
      refine Tr.weak (Γ' := [(0, (pSl 1 (cSl 1 (cK .i64)) slices_0)), (3, (pEq (.int .i64 (w64 (v3 + (x6.length : Int)))))), (9, (pSl 1 (cSl 1 (cK .i64)) slices_0)), (10, (pEq (.int .i64 (slices_0.length : Int)))), (11, (pEq (.int .i64 v4)))]) ⟨rfl, rfl, rfl, rfl, rfl, trivial⟩ ?_
      refine Tr.seq ?_
      refine Tr.region ?_
      refine RegL.pure (p := (pEq (.int .i64 (w64 (v3 + (x6.length : Int)))))) rfl rfl rfl (J_move rfl (Opd.tmp rfl)) ?_
      refine RegL.pure (p := (pEq (.bool (decide ((w64 (v3 + (x6.length : Int))) < (0 : Int)))))) rfl rfl rfl (J_bin rfl (Opd.tmp rfl) Opd.con B_lss) ?_
      refine RegL.nil ?_
      refine Ct.then_tr ?_
      refine Tr.weak (Γ' := [(0, (pSl 1 (cSl 1 (cK .i64)) slices_0)), (3, (pEq (.int .i64 (w64 (v3 + (x6.length : Int)))))), (9, (pSl 1 (cSl 1 (cK .i64)) slices_0)), (10, (pEq (.int .i64 (slices_0.length : Int)))), (11, (pEq (.int .i64 v4))), (20, (pEq (.bool (decide ((w64 (v3 + (x6.length : Int))) < (0 : Int))))))]) ⟨rfl, rfl, rfl, rfl, rfl, rfl, trivial⟩ ?_
      replace h := bind_some h; obtain ⟨x7, hx7, h⟩ := h
      refine Tr.cut (γ := Unit) (Γm := fun g => [(0, (pSl 1 (cSl 1 (cK .i64)) slices_0)), (3, (pEq (.int .i64 (w64 (v3 + (x6.length : Int)))))), (9, (pSl 1 (cSl 1 (cK .i64)) slices_0)), (10, (pEq (.int .i64 (slices_0.length : Int)))), (11, (pEq (.int .i64 v4)))]) (Ωm := fun g => []) ?_ (fun g8 => ?_)
      · clear h
        have h := hx7
        clear hx7
        refine Tr.cond (Opd.tmp rfl) (fun hc => ?_) (fun hc => ?_)
        · replace h := bif_t hc h
          refine Tr.region ?_
          exact absurd h (by simp)
        · replace h := bif_f hc h
          refine Tr.skip ?_
          replace h := Option.some.inj h; subst h
          exact Ct.mid () rfl ⟨rfl, rfl, rfl, rfl, rfl, trivial⟩
      · clear hx7
        refine Ct.blk_normal ?_
        refine Ct.then_tr ?_
        refine Tr.weak (Γ' := [(0, (pSl 1 (cSl 1 (cK .i64)) slices_0)), (3, (pEq (.int .i64 (w64 (v3 + (x6.length : Int)))))), (9, (pSl 1 (cSl 1 (cK .i64)) slices_0)), (10, (pEq (.int .i64 (slices_0.length : Int)))), (11, (pEq (.int .i64 v4)))]) ⟨rfl, rfl, rfl, rfl, rfl, trivial⟩ ?_
        refine Tr.region ?_
        refine RegL.pure (p := (pEq (.int .i64 (w64 (v4 + (1 : Int)))))) rfl rfl rfl (J_bin rfl (Opd.tmp rfl) Opd.con B_add) ?_
        refine RegL.pure (p := (pEq (.int .i64 (w64 (v4 + (1 : Int)))))) rfl rfl rfl (J_move rfl (Opd.tmp rfl)) ?_
        refine RegL.nil ?_
        replace h := Option.some.inj h; subst h
        exact Ct.again () rfl ⟨rfl, rfl, rfl, rfl, rfl, trivial⟩
    · replace h := bif_f hc h
      refine Tr.exit ?_
      refine Ct.then_exit ?_
      replace h := map_some h; obtain ⟨r1, h, rfl⟩ := h
      refine Ct.out_exit fun e => ?_
      subst e
      refine Ct.blk_exit ?_
      replace h := Option.some.inj h; subst h
      exact Ct.mid () rfl ⟨rfl, rfl, trivial⟩
  · clear hx1
    refine Ct.then_tr ?_
    refine Tr.weak (Γ' := [(0, (pSl 1 (cSl 1 (cK .i64)) slices_0)), (3, (pEq (.int .i64 x1)))]) ⟨rfl, rfl, trivial⟩ ?_
    refine Tr.seq ?_
    refine Tr.region ?_
    refine RegL.pure (p := (pEq (.int .i64 x1))) rfl rfl rfl (J_move rfl (Opd.tmp rfl)) ?_
    replace h := bind_some h; obtain ⟨x10, hx10, h⟩ := h
    refine RegL.step (γ := G3) (p := fun g => (pEq (.slice g.1 g.2.1 g.2.2))) (Ω' := fun g => [oSl 2 1 (cK .i64) g.1 g.2.1 g.2.2 x10]) rfl rfl rfl (M_callH (Ωi := []) rfl Try.call85 (o_slices_Grow_int64_int64 hx10) (Opds.cons Opd.con (Opds.cons (Opd.tmp rfl) Opds.nil))) fun g11 => ?_
    refine RegL.pure (p := (pEq (.slice g11.1 g11.2.1 g11.2.2))) rfl rfl rfl (J_assign rfl (Opd.tmp rfl)) ?_
    refine RegL.nil ?_
    refine Ct.then_tr ?_
    refine Tr.weak (Γ' := [(0, (pSl 1 (cSl 1 (cK .i64)) slices_0)), (6, (pEq (.slice g11.1 g11.2.1 g11.2.2)))]) ⟨rfl, rfl, trivial⟩ ?_
    refine Tr.seq ?_
    refine Tr.seq ?_
    refine Tr.region ?_
    refine RegL.pure (p := (pSl 1 (cSl 1 (cK .i64)) slices_0)) rfl rfl rfl (J_move rfl (Opd.tmp rfl)) ?_
    refine RegL.pure (p := (pEq (.int .i64 (slices_0.length : Int)))) rfl rfl rfl (J_len rfl Try.underlying22 (Opd.tmp rfl) rfl) ?_
    refine RegL.pure (p := (pEq (.int .i64 (0 : Int)))) rfl rfl rfl (J_move rfl Opd.con) ?_
    refine RegL.nil ?_
    refine Ct.then_tr ?_
    refine Tr.weak (Γ' := [(6, (pEq (.slice g11.1 g11.2.1 g11.2.2))), (25, (pSl 1 (cSl 1 (cK .i64)) slices_0)), (26, (pEq (.int .i64 (slices_0.length : Int)))), (27, (pEq (.int .i64 (0 : Int))))]) ⟨rfl, rfl, rfl, rfl, trivial⟩ ?_
    replace h := bind_some h; obtain ⟨x13, hx13, h⟩ := h
    refine Tr.cut (γ := G3) (Γm := fun g => [(6, (pEq (.slice g.1 g.2.1 g.2.2)))]) (Ωm := fun g => [oSl 2 1 (cK .i64) g.1 g.2.1 g.2.2 x13]) ?_ (fun g21 => ?_)
    · clear h
      have h := hx13
      clear hx13
      refine Tr.block ?_
      refine Tr.weak (Γ' := [(6, (pEq (.slice g11.1 g11.2.1 g11.2.2))), (25, (pSl 1 (cSl 1 (cK .i64)) slices_0)), (26, (pEq (.int .i64 (slices_0.length : Int)))), (27, (pEq (.int .i64 (0 : Int))))]) ⟨rfl, rfl, rfl, rfl, trivial⟩ ?_
      refine Tr.loop (γ := G3) (σ := (Int × (List Int))) (Γσ := fun s g => [(6, (pEq (.slice g.1 g.2.1 g.2.2))), (25, (pSl 1 (cSl 1 (cK .i64)) slices_0)), (26, (pEq (.int .i64 (slices_0.length : Int)))), (27, (pEq (.int .i64 s.1)))]) (Ωσ := fun s g => [oSl 2 1 (cK .i64) g.1 g.2.1 g.2.2 s.2]) (g := (g11.1, g11.2.1, g11.2.2)) h ?_
      clear h
      rintro ⟨v15, v16⟩ g17 t h
      replace h : m_slices_Concat_int64_int64_B14 slices_0 v15 v16 = some t := h
      unfold m_slices_Concat_int64_int64_B14 at h
      refine Tr.weakO (Γ' := [(6, (pEq (.slice g17.1 g17.2.1 g17.2.2))), (25, (pSl 1 (cSl 1 (cK .i64)) slices_0)), (26, (pEq (.int .i64 (slices_0.length : Int)))), (27, (pEq (.int .i64 v15)))]) (Ω' := [oSl 2 1 (cK .i64) g17.1 g17.2.1 g17.2.2 v16]) rfl ⟨rfl, rfl, rfl, rfl, trivial⟩ ?_
      refine Tr.seq ?_
      refine Tr.region ?_
      refine RegL.pure (p := (pEq (.bool (decide (v15 < (slices_0.length : Int)))))) rfl rfl rfl (J_bin rfl (Opd.tmp rfl) (Opd.tmp rfl) B_lss) ?_
      refine RegL.nil ?_
      refine Ct.then_tr ?_
      refine Tr.weak (Γ' := [(6, (pEq (.slice g17.1 g17.2.1 g17.2.2))), (25, (pSl 1 (cSl 1 (cK .i64)) slices_0)), (26, (pEq (.int .i64 (slices_0.length : Int)))), (27, (pEq (.int .i64 v15))), (28, (pEq (.bool (decide (v15 < (slices_0.length : Int))))))]) ⟨rfl, rfl, rfl, rfl, rfl, trivial⟩ ?_
      refine Tr.seq ?_
      refine Tr.cond (Opd.tmp rfl) (fun hc => ?_) (fun hc => ?_)
      · replace h := bif_t hc h
        refine Tr.skip ?_
        refine Ct.then_tr ?_
        refine Tr.weak (Γ' := [(6, (pEq (.slice g17.1 g17.2.1 g17.2.2))), (25, (pSl 1 (cSl 1 (cK .i64)) slices_0)), (26, (pEq (.int .i64 (slices_0.length : Int)))), (27, (pEq (.int .i64 v15)))]) ⟨rfl, rfl, rfl, rfl, trivial⟩ ?_
        refine Tr.seq ?_
        refine Tr.block ?_
        refine Tr.seq ?_
        refine Tr.region ?_
        replace h := bind_some h; obtain ⟨x18, hx18, h⟩ := h
        refine RegL.pure (p := (pPtr ((cSl 1 (cK .i64)) x18))) rfl rfl rfl (J_idx rfl Try.underlying22 sz26 (Opd.tmp rfl) (Opd.tmp rfl) hx18) ?_
        refine RegL.pure (p := (pSl 1 (cK .i64) x18)) rfl rfl rfl (J_load rfl Try.isAgg26 (Opd.tmp rfl)) ?_
        refine RegL.pure (p := (pSl 1 (cK .i64) x18)) rfl rfl rfl (J_assign rfl (Opd.tmp rfl)) ?_
        refine RegL.nil ?_
        refine Ct.then_tr ?_
        refine Tr.weak (Γ' := [(6, (pEq (.slice g17.1 g17.2.1 g17.2.2))), (8, (pSl 1 (cK .i64) x18)), (25, (pSl 1 (cSl 1 (cK .i64)) slices_0)), (26, (pEq (.int .i64 (slices_0.length : Int)))), (27, (pEq (.int .i64 v15)))]) ⟨rfl, rfl, rfl, rfl, rfl, trivial⟩ ?_
        refine Tr.region ?_
        refine RegL.pure (p := (pEq (.slice g17.1 g17.2.1 g17.2.2))) rfl rfl rfl (J_move rfl (Opd.tmp rfl)) ?_
        refine RegL.pure (p := (pSl 1 (cK .i64) x18)) rfl rfl rfl (J_move rfl (Opd.tmp rfl)) ?_
        replace h := bind_some h; obtain ⟨x19, hx19, h⟩ := h
        refine RegL.step (γ := Option Addr × Nat) (p := fun g => pEq (.slice g.1 x19.length g.2)) (Ω' := fun g => [oSl 2 1 (cK .i64) g.1 x19.length g.2 x19]) rfl rfl rfl (M_appendI rfl Try.underlying26 el2 (Opd.tmp rfl) (Opd.tmp rfl) hx19) fun g20 => ?_
        refine RegL.pure (p := (pEq (.slice g20.1 x19.length g20.2))) rfl rfl rfl (J_assign rfl (Opd.tmp rfl)) ?_
        refine RegL.nil ?_
        refine Ct.blk_normal ?_
        refine Ct.then_tr ?_
        refine Tr.weak (Γ' := [(6, (pEq (.slice g20.1 x19.length g20.2))), (25, (pSl 1 (cSl 1 (cK .i64)) slices_0)), (26, (pEq (.int .i64 (slices_0.length : Int)))), (27, (pEq (.int .i64 v15)))]) ⟨rfl, rfl, rfl, rfl, trivial⟩ ?_
        refine Tr.region ?_
        refine RegL.pure (p := (pEq (.int .i64 (w64 (v15 + (1 : Int)))))) rfl rfl rfl (J_bin rfl (Opd.tmp rfl) Opd.con B_add) ?_
        refine RegL.pure (p := (pEq (.int .i64 (w64 (v15 + (1 : Int)))))) rfl rfl rfl (J_move rfl (Opd.tmp rfl)) ?_
        refine RegL.nil ?_
        replace h := Option.some.inj h; subst h
        exact Ct.again (g20.1, x19.length, g20.2) rfl ⟨rfl, rfl, rfl, rfl, trivial⟩
      · replace h := bif_f hc h
        refine Tr.exit ?_
        refine Ct.then_exit ?_
        replace h := map_some h; obtain ⟨r1, h, rfl⟩ := h
        refine Ct.out_exit fun e => ?_
        subst e
        refine Ct.blk_exit ?_
        replace h := Option.some.inj h; subst h
        exact Ct.mid (g17.1, g17.2.1, g17.2.2) rfl ⟨rfl, trivial⟩
    · clear hx13
      refine Ct.then_tr ?_
      refine Tr.weak (Γ' := [(6, (pEq (.slice g21.1 g21.2.1 g21.2.2)))]) ⟨rfl, trivial⟩ ?_
      refine Tr.seq ?_
      refine Tr.region ?_
      refine RegL.pure (p := (pEq (.slice g21.1 g21.2.1 g21.2.2))) rfl rfl rfl (J_move rfl (Opd.tmp rfl)) ?_
      refine RegL.pure (p := (pEq (.slice g21.1 g21.2.1 g21.2.2))) rfl rfl rfl (J_assign rfl (Opd.tmp rfl)) ?_
      refine RegL.nil ?_
      refine Ct.then_tr ?_
      refine Tr.weak (Γ' := [(2, (pEq (.slice g21.1 g21.2.1 g21.2.2)))]) ⟨rfl, trivial⟩ ?_
      refine Tr.ret ?_
      replace h := Option.some.inj h; subst h
      exact Ct.retH1 (Ωx := []) (g21.1, g21.2.1, g21.2.2) rfl (RvOk.tmp rfl) rfl

theorem c_slices_Concat_int64_int64 {slices_0 : (List (List Int))} {r : (List Int)} (h : m_slices_Concat_int64_int64 slices_0 = some r) : CallJ Try.prog 62 [(pSl 1 (cSl 1 (cK .i64)) slices_0)] (pSl 1 (cK .i64) r) :=
  CallH.frozen (o_slices_Concat_int64_int64 h) (fun g => (Conv.row (f := (cK .i64)) 0 (fun _ => rfl) rfl))

theorem o_slices_Sort_int64_int64 {x_0 : List Int} {ho0 : Option Addr} {hn0 hc0 : Nat} {r : List Int} (h : m_slices_Sort_int64_int64 x_0 = some r) : CallH Try.prog 63 [(pEq (.slice ho0 hn0 hc0))] [oSl 2 1 (cK .i64) ho0 hn0 hc0 x_0] (fun _ : Unit => (pTup [])) (fun _ : Unit => [oSl 2 1 (cK .i64) ho0 hn0 hc0 r]) :=
  sort_contract sortAt63 sortNone63 h

theorem o_slices_Compact_int64_int64 {x_0 : List Int} {ho0 : Option Addr} {hn0 hc0 : Nat} {r : List Int} (h : m_slices_Compact_int64_int64 x_0 = some r) : CallH Try.prog 43 [(pEq (.slice ho0 hn0 hc0))] [oSl 2 1 (cK .i64) ho0 hn0 hc0 x_0] (fun g : (Option Addr × Nat × Nat) => (pEq (.slice g.1 g.2.1 g.2.2))) (fun g : (Option Addr × Nat × Nat) => [oSl 2 1 (cK .i64) g.1 g.2.1 g.2.2 r]) :=
  compact_contract compAt43 compNone43 h

theorem o_slices_Clone_int64_int64 {s_0 : (List Int)}  {r : (List Int)} (h : m_slices_Clone_int64_int64 s_0 = some r) : CallH Try.prog 54 [(pSl 1 (cK .i64) s_0)] [] (fun g : G3 => (pEq (.slice g.1 g.2.1 g.2.2))) (fun g : G3 => [oSl 2 1 (cK .i64) g.1 g.2.1 g.2.2 r]) := by
  unfold m_slices_Clone_int64_int64 at h
  refine CallH.enter Try.func54 rfl Try.ntmps54 rfl fun W I0 H => ?_
  refine Tr.weak (Γ' := [(0, (pSl 1 (cK .i64) s_0))]) ⟨rfl, trivial⟩ ?_
  refine Tr.seq ?_
  refine Tr.region ?_
  refine RegL.pure (p := (pEq (.slice none 0 0))) rfl rfl rfl (J_assign rfl Opd.con) ?_
  refine RegL.nil ?_
  refine Ct.then_tr ?_
  refine Tr.weak (Γ' := [(0, (pSl 1 (cK .i64) s_0))]) ⟨rfl, trivial⟩ ?_
  refine Tr.seq ?_
  refine Tr.seq ?_
  refine Tr.region ?_
  refine RegL.pure (p := (pSl 1 (cK .i64) s_0)) rfl rfl rfl (J_move rfl (Opd.tmp rfl)) ?_
  refine RegL.pure (p := (pNil s_0)) rfl rfl rfl (J_nilEq rfl Try.underlying26 (Opd.tmp rfl)) ?_
  refine RegL.nil ?_
  refine Ct.then_tr ?_
  refine Tr.weak (Γ' := [(0, (pSl 1 (cK .i64) s_0)), (4, (pNil s_0))]) ⟨rfl, rfl, trivial⟩ ?_
  refine Tr.condNil rfl (fun hl => ?_) ?_
  · replace h : some ([] : (List Int)) = some r := by subst hl; simpa [appL] using h
    refine Tr.seq ?_
    refine Tr.region ?_
    refine RegL.pure (p := (pEq (.slice none 0 0))) rfl rfl rfl (J_assign rfl Opd.con) ?_
    refine RegL.nil ?_
    refine Ct.then_tr ?_
    refine Tr.weak (Γ' := [(2, (pEq (.slice none 0 0)))]) ⟨rfl, trivial⟩ ?_
    refine Tr.ret ?_
    refine Ct.then_ret ?_
    refine Ct.re (Ω2 := [oSl 2 1 (cK .i64) none 0 0 ([] : (List Int))]) (fun h => SatO.nilRow h) ?_
    replace h := Option.some.inj h; subst h
    exact Ct.retH1 (Ωx := []) (none, 0, 0) rfl (RvOk.tmp rfl) rfl
  · refine Tr.skip ?_
    refine Ct.then_tr ?_
    refine Tr.weak (Γ' := [(0, (pSl 1 (cK .i64) s_0))]) ⟨rfl, trivial⟩ ?_
    refine Tr.seq ?_
    refine Tr.region ?_
    refine RegL.step (γ := Option Addr) (p := fun a => pEq (.slice a 0 0)) (Ω' := fun a => [oSl 2 1 (cK .i64) a 0 0 ([] : (List Int))]) rfl rfl rfl (M_buildSlice (qss := []) rfl Try.underlying26 el2 rfl Parts.nil rfl rfl) fun o3 => ?_
    refine RegL.pure (p := (pSl 1 (cK .i64) s_0)) rfl rfl rfl (J_move rfl (Opd.tmp rfl)) ?_
    replace h := bind_some h; obtain ⟨x4, hx4, h⟩ := h
    refine RegL.step (γ := Option Addr × Nat) (p := fun g => pEq (.slice g.1 x4.length g.2)) (Ω' := fun g => [oSl 2 1 (cK .i64) g.1 x4.length g.2 x4]) rfl rfl rfl (M_appendI rfl Try.underlying26 el2 (Opd.tmp rfl) (Opd.tmp rfl) hx4) fun g5 => ?_
    refine RegL.pure (p := (pEq (.slice g5.1 x4.length g5.2))) rfl rfl rfl (J_assign rfl (Opd.tmp rfl)) ?_
    refine RegL.nil ?_
    refine Ct.then_tr ?_
    refine Tr.weak (Γ' := [(2, (pEq (.slice g5.1 x4.length g5.2)))]) ⟨rfl, trivial⟩ ?_
    refine Tr.ret ?_
    replace h := Option.some.inj h; subst h
    exact Ct.retH1 (Ωx := []) (g5.1, x4.length, g5.2) rfl (RvOk.tmp rfl) rfl

theorem c_slices_Clone_int64_int64 {s_0 : (List Int)} {r : (List Int)} (h : m_slices_Clone_int64_int64 s_0 = some r) : CallJ Try.prog 54 [(pSl 1 (cK .i64) s_0)] (pSl 1 (cK .i64) r) :=
  CallH.frozen (o_slices_Clone_int64_int64 h) (fun g => (Conv.row (f := (cK .i64)) 0 (fun _ => rfl) rfl))

theorem c_impl_cliqueSearch_visit_1 {i_0 : Int} {a_1 : GCliqueSearch} {a_2 : Int} {r : Bool} (h : m_impl_cliqueSearch_visit_1 i_0 a_1 a_2 = some r) : CallJ Try.prog 115 [(pEq (.int .i64 i_0)), (pPtr ((fun x => [pPtr (cGCliqueSearch x)]) a_1)), (pPtr ((cK .i64) a_2))] (pEq (.bool r)) := by
  unfold m_impl_cliqueSearch_visit_1 at h
  refine CallJ.enterH Try.func115 rfl Try.ntmps115 rfl fun W I0 H => ?_
  refine Tr.weak (Γ' := [(0, (pEq (.int .i64 i_0))), (1, (pPtr ((fun x => [pPtr (cGCliqueSearch x)]) a_1))), (2, (pPtr ((cK .i64) a_2)))]) ⟨rfl, rfl, rfl, trivial⟩ ?_
  refine Tr.seq ?_
  refine Tr.region ?_
  refine RegL.pure (p := (pEq (.bool false))) rfl rfl rfl (J_assign rfl Opd.con) ?_
  refine RegL.nil ?_
  refine Ct.then_tr ?_
  refine Tr.weak (Γ' := [(0, (pEq (.int .i64 i_0))), (1, (pPtr ((fun x => [pPtr (cGCliqueSearch x)]) a_1))), (2, (pPtr ((cK .i64) a_2)))]) ⟨rfl, rfl, rfl, trivial⟩ ?_
  refine Tr.seq ?_
  replace h := bind_some h; obtain ⟨x1, hx1, h⟩ := h
  replace h := bind_some h; obtain ⟨x2, hx2, h⟩ := h
  refine Tr.drawD (n := 21) (m := 16) (es := [some (Ent.mk [(1, (pPtr ((fun x => [pPtr (cGCliqueSearch x)]) a_1)))] (pPtr (cGCliqueSearch a_1)) true), some (Ent.mk [(5, (pPtr (cGCliqueSearch a_1)))] (pPtr (cGCliqueSearch a_1)) true), some (Ent.mk [(6, (pPtr (cGCliqueSearch a_1)))] (pPtr (cGProblem a_1.problem)) true), some (Ent.mk [(7, (pPtr (cGProblem a_1.problem)))] (pPtr ((cSl 1 (cSl 1 (cK .i64))) a_1.problem.Apart)) true), some (Ent.mk [(8, (pPtr ((cSl 1 (cSl 1 (cK .i64))) a_1.problem.Apart)))] (pSl 1 (cSl 1 (cK .i64)) a_1.problem.Apart) true), some (Ent.mk [(0, (pEq (.int .i64 i_0)))] (pEq (.int .i64 i_0)) true), some (Ent.mk [(9, (pSl 1 (cSl 1 (cK .i64)) a_1.problem.Apart)), (10, (pEq (.int .i64 i_0)))] (pPtr ((cSl 1 (cK .i64)) x1)) true), some (Ent.mk [(11, (pPtr ((cSl 1 (cK .i64)) x1)))] (pSl 1 (cK .i64) x1) true), some (Ent.mk [(2, (pPtr ((cK .i64) a_2)))] (pEq (.int .i64 a_2)) true), some (Ent.mk [(12, (pSl 1 (cK .i64) x1)), (13, (pEq (.int .i64 a_2)))] (pPtr ((cK .i64) x2)) true), some (Ent.mk [(14, (pPtr ((cK .i64) x2)))] (pEq (.int .i64 x2)) true), some (Ent.mk [(1, (pPtr ((fun x => [pPtr (cGCliqueSearch x)]) a_1)))] (pPtr (cGCliqueSearch a_1)) true), some (Ent.mk [(16, (pPtr (cGCliqueSearch a_1)))] (pPtr (cGCliqueSearch a_1)) true), some (Ent.mk [(17, (pPtr (cGCliqueSearch a_1)))] (pPtr ((cK .i64) a_1.apart)) true), some (Ent.mk [(18, (pPtr ((cK .i64) a_1.apart)))] (pEq (.int .i64 a_1.apart)) true), some (Ent.mk [(15, (pEq (.int .i64 x2))), (19, (pEq (.int .i64 a_1.apart)))] (pEq (.bool (decide (x2 < a_1.apart)))) true)]) (rd := [[1], [5], [6], [7], [8], [0], [9, 10], [11], [2], [12, 13], [14], [1], [16], [17], [18], [15, 19]]) rfl hmix (by kernel_rfl) fun hD => ?_
  refine RD.fin (es := [Ent.mk [(1, (pPtr ((fun x => [pPtr (cGCliqueSearch x)]) a_1)))] (pPtr (cGCliqueSearch a_1)) true, Ent.mk [(5, (pPtr (cGCliqueSearch a_1)))] (pPtr (cGCliqueSearch a_1)) true, Ent.mk [(6, (pPtr (cGCliqueSearch a_1)))] (pPtr (cGProblem a_1.problem)) true, Ent.mk [(7, (pPtr (cGProblem a_1.problem)))] (pPtr ((cSl 1 (cSl 1 (cK .i64))) a_1.problem.Apart)) true, Ent.mk [(8, (pPtr ((cSl 1 (cSl 1 (cK .i64))) a_1.problem.Apart)))] (pSl 1 (cSl 1 (cK .i64)) a_1.problem.Apart) true, Ent.mk [(0, (pEq (.int .i64 i_0)))] (pEq (.int .i64 i_0)) true, Ent.mk [(9, (pSl 1 (cSl 1 (cK .i64)) a_1.problem.Apart)), (10, (pEq (.int .i64 i_0)))] (pPtr ((cSl 1 (cK .i64)) x1)) true, Ent.mk [(11, (pPtr ((cSl 1 (cK .i64)) x1)))] (pSl 1 (cK .i64) x1) true, Ent.mk [(2, (pPtr ((cK .i64) a_2)))] (pEq (.int .i64 a_2)) true, Ent.mk [(12, (pSl 1 (cK .i64) x1)), (13, (pEq (.int .i64 a_2)))] (pPtr ((cK .i64) x2)) true, Ent.mk [(14, (pPtr ((cK .i64) x2)))] (pEq (.int .i64 x2)) true, Ent.mk [(1, (pPtr ((fun x => [pPtr (cGCliqueSearch x)]) a_1)))] (pPtr (cGCliqueSearch a_1)) true, Ent.mk [(16, (pPtr (cGCliqueSearch a_1)))] (pPtr (cGCliqueSearch a_1)) true, Ent.mk [(17, (pPtr (cGCliqueSearch a_1)))] (pPtr ((cK .i64) a_1.apart)) true, Ent.mk [(18, (pPtr ((cK .i64) a_1.apart)))] (pEq (.int .i64 a_1.apart)) true, Ent.mk [(15, (pEq (.int .i64 x2))), (19, (pEq (.int .i64 a_1.apart)))] (pEq (.bool (decide (x2 < a_1.apart)))) true]) (done := []) hD ⟨.inr ⟨(OpJ.w (J_load rfl Try.isAgg116 (Opd.tmp rfl))), ⟨rfl, trivial⟩, rfl, rfl⟩, ⟨.inr ⟨(OpJ.w (J_nilCheck rfl (Opd.tmp rfl))), ⟨rfl, trivial⟩, rfl, rfl⟩, ⟨.inr ⟨(OpJ.w (J_fieldAddr rfl Try.underlying94 rfl sz29 (by decide) (Opd.tmp rfl) rfl)), ⟨rfl, trivial⟩, rfl, rfl⟩, ⟨.inr ⟨(OpJ.w (J_fieldAddr rfl Try.underlying29 rfl sz22 (by decide) (Opd.tmp rfl) rfl)), ⟨rfl, trivial⟩, rfl, rfl⟩, ⟨.inr ⟨(OpJ.w (J_load rfl Try.isAgg22 (Opd.tmp rfl))), ⟨rfl, trivial⟩, rfl, rfl⟩, ⟨.inr ⟨(OpJ.w (J_move rfl (Opd.tmp rfl))), ⟨rfl, trivial⟩, rfl, rfl⟩, ⟨.inr ⟨(OpJ.w (J_idx rfl Try.underlying22 sz26 (Opd.tmp rfl) (Opd.tmp rfl) hx1)), ⟨rfl, rfl, trivial⟩, rfl, rfl⟩, ⟨.inr ⟨(OpJ.w (J_load rfl Try.isAgg26 (Opd.tmp rfl))), ⟨rfl, trivial⟩, rfl, rfl⟩, ⟨.inr ⟨(OpJ.w (J_load rfl Try.isAgg2 (Opd.tmp rfl))), ⟨rfl, trivial⟩, rfl, rfl⟩, ⟨.inr ⟨(OpJ.w (J_idx rfl Try.underlying26 sz2 (Opd.tmp rfl) (Opd.tmp rfl) hx2)), ⟨rfl, rfl, trivial⟩, rfl, rfl⟩, ⟨.inr ⟨(OpJ.w (J_load rfl Try.isAgg2 (Opd.tmp rfl))), ⟨rfl, trivial⟩, rfl, rfl⟩, ⟨.inr ⟨(OpJ.w (J_load rfl Try.isAgg116 (Opd.tmp rfl))), ⟨rfl, trivial⟩, rfl, rfl⟩, ⟨.inr ⟨(OpJ.w (J_nilCheck rfl (Opd.tmp rfl))), ⟨rfl, trivial⟩, rfl, rfl⟩, ⟨.inr ⟨(OpJ.w (J_fieldAddr rfl Try.underlying94 rfl sz2 (by decide) (Opd.tmp rfl) rfl)), ⟨rfl, trivial⟩, rfl, rfl⟩, ⟨.inr ⟨(OpJ.w (J_load rfl Try.isAgg2 (Opd.tmp rfl))), ⟨rfl, trivial⟩, rfl, rfl⟩, ⟨.inr ⟨(OpJ.w (J_bin rfl (Opd.tmp rfl) (Opd.tmp rfl) B_lss)), ⟨rfl, rfl, trivial⟩, rfl, rfl⟩, trivial⟩⟩⟩⟩⟩⟩⟩⟩⟩⟩⟩⟩⟩⟩⟩⟩ ?_
  refine RegL.pure (p := (pEq (.bool (decide (x2 < a_1.apart))))) rfl rfl rfl (J_assign rfl (Opd.tmp rfl)) ?_
  refine RegL.nil ?_
  refine Ct.then_tr ?_
  refine Tr.weak (Γ' := [(4, (pEq (.bool (decide (x2 < a_1.apart)))))]) ⟨rfl, trivial⟩ ?_
  refine Tr.ret ?_
  replace h := Option.some.inj h; subst h
  exact Ct.retH1 (Ωx := []) () rfl (RvOk.tmp rfl) rfl

theorem of_impl_cliqueSearch_visit : ∀ (n : Nat) {a_0 : GCliqueSearch} {ho0_4 : Option Addr} {hn0_4 hc0_4 : Nat} {ho0_5 : Option Addr} {hn0_5 hc0_5 : Nat} {hb0 : Nat} {r : (Int × (List Int) × (List Int))} (h : iterM (fun self (a : GCliqueSearch) => mf_impl_cliqueSearch_visit self a) n a_0 = some r), CallH Try.prog 88 [(pEq (.pointer (some ⟨hb0, 0, none⟩)))] [oBlk hb0 [(pSl 1 (cSl 1 (cK .i64)) a_0.problem.Domains), (pSl 1 (cSl 1 (cK .i64)) a_0.problem.Apart), (pEq (.int .i64 a_0.apart)), (pEq (.int .i64 a_0.budget)), (pEq (.slice ho0_4 hn0_4 hc0_4)), (pEq (.slice ho0_5 hn0_5 hc0_5))], oSl 2 1 (cK .i64) ho0_4 hn0_4 hc0_4 a_0.items, oSl 2 1 (cK .i64) ho0_5 hn0_5 hc0_5 a_0.best] (fun g : (G3 × G3) => (pTup [])) (fun g : (G3 × G3) => [oBlk hb0 [(pSl 1 (cSl 1 (cK .i64)) a_0.problem.Domains), (pSl 1 (cSl 1 (cK .i64)) a_0.problem.Apart), (pEq (.int .i64 a_0.apart)), (pEq (.int .i64 r.1)), (pEq (.slice g.1.1 g.1.2.1 g.1.2.2)), (pEq (.slice g.2.1 g.2.2.1 g.2.2.2))], oSl 2 1 (cK .i64) g.1.1 g.1.2.1 g.1.2.2 r.2.1, oSl 2 1 (cK .i64) g.2.1 g.2.2.1 g.2.2.2 r.2.2]) := by
  intro n
  induction n with
  | zero => intros; rename_i h; simp [iterM] at h
  | succ n ih =>
  intro a_0 ho0_4 hn0_4 hc0_4 ho0_5 hn0_5 hc0_5 hb0 r h
  replace h : mf_impl_cliqueSearch_visit (iterM (fun self (a : GCliqueSearch) => mf_impl_cliqueSearch_visit self a) n) a_0 = some r := h
  unfold mf_impl_cliqueSearch_visit at h
  refine CallH.enter Try.func88 rfl Try.ntmps88 rfl fun W I0 H => ?_
  refine Tr.weak (Γ' := [(0, (pEq (.pointer (some ⟨hb0, 0, none⟩))))]) ⟨rfl, trivial⟩ ?_
  refine Tr.seq ?_
  refine Tr.region ?_
  refine RegL.step (γ := Nat) (p := fun b => pEq (.pointer (some ⟨b, 0, none⟩))) (Ω' := fun b => [oBlk b [(pEq (.pointer (some ⟨hb0, 0, none⟩)))], oBlk hb0 [(pSl 1 (cSl 1 (cK .i64)) a_0.problem.Domains), (pSl 1 (cSl 1 (cK .i64)) a_0.problem.Apart), (pEq (.int .i64 a_0.apart)), (pEq (.int .i64 a_0.budget)), (pEq (.slice ho0_4 hn0_4 hc0_4)), (pEq (.slice ho0_5 hn0_5 hc0_5))], oSl 2 1 (cK .i64) ho0_4 hn0_4 hc0_4 a_0.items, oSl 2 1 (cK .i64) ho0_5 hn0_5 hc0_5 a_0.best]) rfl rfl rfl (M_box rfl (Opd.tmp rfl) OneC.ptr) fun b3 => ?_
  refine RegL.nil ?_
  refine Ct.then_tr ?_
  refine Tr.weak (Γ' := [(1, (pEq (.pointer (some ⟨b3, 0, none⟩))))]) ⟨rfl, trivial⟩ ?_
  refine Tr.seq ?_
  refine Tr.seq ?_
  refine Tr.region ?_
  refine RegL.pureW (p := (pEq (.pointer (some ⟨hb0, 0, none⟩)))) rfl rfl rfl (W_load (i := 0) rfl Try.isAgg116 (Opd.tmp rfl) rfl rfl) ?_
  refine RegL.pure (p := (pEq (.pointer (some ⟨hb0, 0, none⟩)))) rfl rfl rfl (J_nilCheckE rfl (Opd.tmp rfl)) ?_
  refine RegL.pure (p := (pEq (.pointer (some ⟨hb0, 3, none⟩)))) rfl rfl rfl (J_fieldAddrE rfl Try.underlying94 rfl sz2 (by decide) (Opd.tmp rfl) rfl) ?_
  refine RegL.pureW (p := (pEq (.int .i64 a_0.budget))) rfl rfl rfl (W_load (i := 1) rfl Try.isAgg2 (Opd.tmp rfl) rfl rfl) ?_
  refine RegL.pure (p := (pEq (.int .i64 (w64 (a_0.budget - (1 : Int)))))) rfl rfl rfl (J_bin rfl (Opd.tmp rfl) Opd.con B_sub) ?_
  refine RegL.pure (p := (pEq (.pointer (some ⟨hb0, 0, none⟩)))) rfl rfl rfl (J_nilCheckE rfl (Opd.tmp rfl)) ?_
  refine RegL.pure (p := (pEq (.pointer (some ⟨hb0, 3, none⟩)))) rfl rfl rfl (J_fieldAddrE rfl Try.underlying94 rfl sz2 (by decide) (Opd.tmp rfl) rfl) ?_
  refine RegL.re (Ω2 := [oBlk hb0 [(pSl 1 (cSl 1 (cK .i64)) a_0.problem.Domains), (pSl 1 (cSl 1 (cK .i64)) a_0.problem.Apart), (pEq (.int .i64 a_0.apart)), (pEq (.int .i64 a_0.budget)), (pEq (.slice ho0_4 hn0_4 hc0_4)), (pEq (.slice ho0_5 hn0_5 hc0_5))], oBlk b3 [(pEq (.pointer (some ⟨hb0, 0, none⟩)))], oSl 2 1 (cK .i64) ho0_4 hn0_4 hc0_4 a_0.items, oSl 2 1 (cK .i64) ho0_5 hn0_5 hc0_5 a_0.best]) (fun h => SatO.pick 1 h) ?_
  refine RegL.stepN (γ := Unit) (p := fun _ => pAny) (Ω' := fun _ => [oBlk hb0 [(pSl 1 (cSl 1 (cK .i64)) a_0.problem.Domains), (pSl 1 (cSl 1 (cK .i64)) a_0.problem.Apart), (pEq (.int .i64 a_0.apart)), (pEq (.int .i64 (w64 (a_0.budget - (1 : Int))))), (pEq (.slice ho0_4 hn0_4 hc0_4)), (pEq (.slice ho0_5 hn0_5 hc0_5))], oBlk b3 [(pEq (.pointer (some ⟨hb0, 0, none⟩)))], oSl 2 1 (cK .i64) ho0_4 hn0_4 hc0_4 a_0.items, oSl 2 1 (cK .i64) ho0_5 hn0_5 hc0_5 a_0.best]) rfl rfl (M_store rfl sz2 (Opd.tmp rfl) (Opd.tmp rfl) OneC.int rfl rfl) fun g4 => ?_
  refine RegL.nil ?_
  refine Ct.then_tr ?_
  refine Tr.weak (Γ' := [(1, (pEq (.pointer (some ⟨b3, 0, none⟩))))]) ⟨rfl, trivial⟩ ?_
  refine Tr.seq ?_
  refine Tr.region ?_
  refine RegL.pureW (p := (pEq (.pointer (some ⟨hb0, 0, none⟩)))) rfl rfl rfl (W_load (i := 1) rfl Try.isAgg116 (Opd.tmp rfl) rfl rfl) ?_
  refine RegL.pure (p := (pEq (.pointer (some ⟨hb0, 0, none⟩)))) rfl rfl rfl (J_nilCheckE rfl (Opd.tmp rfl)) ?_
  refine RegL.pure (p := (pEq (.pointer (some ⟨hb0, 3, none⟩)))) rfl rfl rfl (J_fieldAddrE rfl Try.underlying94 rfl sz2 (by decide) (Opd.tmp rfl) rfl) ?_
  refine RegL.pureW (p := (pEq (.int .i64 (w64 (a_0.budget - (1 : Int)))))) rfl rfl rfl (W_load (i := 0) rfl Try.isAgg2 (Opd.tmp rfl) rfl rfl) ?_
  refine RegL.pure (p := (pEq (.bool (decide ((w64 (a_0.budget - (1 : Int))) < (0 : Int)))))) rfl rfl rfl (J_bin rfl (Opd.tmp rfl) Opd.con B_lss) ?_
  refine RegL.nil ?_
  refine Ct.then_tr ?_
  refine Tr.weak (Γ' := [(1, (pEq (.pointer (some ⟨b3, 0, none⟩)))), (14, (pEq (.bool (decide ((w64 (a_0.budget - (1 : Int))) < (0 : Int))))))]) ⟨rfl, rfl, trivial⟩ ?_
  refine Tr.cond (Opd.tmp rfl) (fun hc => ?_) (fun hc => ?_)
  · replace h := bif_t hc h
    refine Tr.ret ?_
    refine Ct.then_ret ?_
    refine Ct.re (Ω2 := [oSl 2 1 (cK .i64) ho0_5 hn0_5 hc0_5 a_0.best, oBlk hb0 [(pSl 1 (cSl 1 (cK .i64)) a_0.problem.Domains), (pSl 1 (cSl 1 (cK .i64)) a_0.problem.Apart), (pEq (.int .i64 a_0.apart)), (pEq (.int .i64 (w64 (a_0.budget - (1 : Int))))), (pEq (.slice ho0_4 hn0_4 hc0_4)), (pEq (.slice ho0_5 hn0_5 hc0_5))], oBlk b3 [(pEq (.pointer (some ⟨hb0, 0, none⟩)))], oSl 2 1 (cK .i64) ho0_4 hn0_4 hc0_4 a_0.items]) (fun h => SatO.pick 3 h) ?_
    refine Ct.re (Ω2 := [oSl 2 1 (cK .i64) ho0_4 hn0_4 hc0_4 a_0.items, oSl 2 1 (cK .i64) ho0_5 hn0_5 hc0_5 a_0.best, oBlk hb0 [(pSl 1 (cSl 1 (cK .i64)) a_0.problem.Domains), (pSl 1 (cSl 1 (cK .i64)) a_0.problem.Apart), (pEq (.int .i64 a_0.apart)), (pEq (.int .i64 (w64 (a_0.budget - (1 : Int))))), (pEq (.slice ho0_4 hn0_4 hc0_4)), (pEq (.slice ho0_5 hn0_5 hc0_5))], oBlk b3 [(pEq (.pointer (some ⟨hb0, 0, none⟩)))]]) (fun h => SatO.pick 3 h) ?_
    refine Ct.re (Ω2 := [oBlk hb0 [(pSl 1 (cSl 1 (cK .i64)) a_0.problem.Domains), (pSl 1 (cSl 1 (cK .i64)) a_0.problem.Apart), (pEq (.int .i64 a_0.apart)), (pEq (.int .i64 (w64 (a_0.budget - (1 : Int))))), (pEq (.slice ho0_4 hn0_4 hc0_4)), (pEq (.slice ho0_5 hn0_5 hc0_5))], oSl 2 1 (cK .i64) ho0_4 hn0_4 hc0_4 a_0.items, oSl 2 1 (cK .i64) ho0_5 hn0_5 hc0_5 a_0.best, oBlk b3 [(pEq (.pointer (some ⟨hb0, 0, none⟩)))]]) (fun h => SatO.pick 2 h) ?_
    refine Ct.re (Ω2 := [oBlk b3 [(pEq (.pointer (some ⟨hb0, 0, none⟩)))], oBlk hb0 [(pSl 1 (cSl 1 (cK .i64)) a_0.problem.Domains), (pSl 1 (cSl 1 (cK .i64)) a_0.problem.Apart), (pEq (.int .i64 a_0.apart)), (pEq (.int .i64 (w64 (a_0.budget - (1 : Int))))), (pEq (.slice ho0_4 hn0_4 hc0_4)), (pEq (.slice ho0_5 hn0_5 hc0_5))], oSl 2 1 (cK .i64) ho0_4 hn0_4 hc0_4 a_0.items, oSl 2 1 (cK .i64) ho0_5 hn0_5 hc0_5 a_0.best]) (fun h => SatO.pick 3 h) ?_
    replace h := Option.some.inj h; subst h
    exact Ct.retH0 (Ωx := [oBlk b3 [(pEq (.pointer (some ⟨hb0, 0, none⟩)))]]) ((ho0_4, hn0_4, hc0_4), (ho0_5, hn0_5, hc0_5)) rfl rfl rfl
  · replace h := bif_f hc h
    refine Tr.skip ?_
    refine Ct.then_tr ?_
    refine Tr.weak (Γ' := [(1, (pEq (.pointer (some ⟨b3, 0, none⟩))))]) ⟨rfl, trivial⟩ ?_
    refine Tr.seq ?_
    refine Tr.seq ?_
    refine Tr.drawD (n := 100) (m := 11) (es := [some (Ent.mk [(1, (pEq (.pointer (some ⟨b3, 0, none⟩))))] (pEq (.pointer (some ⟨hb0, 0, none⟩))) true), some (Ent.mk [(15, (pEq (.pointer (some ⟨hb0, 0, none⟩))))] (pEq (.pointer (some ⟨hb0, 0, none⟩))) true), some (Ent.mk [(16, (pEq (.pointer (some ⟨hb0, 0, none⟩))))] (pEq (.pointer (some ⟨hb0, 4, none⟩))) true), some (Ent.mk [(17, (pEq (.pointer (some ⟨hb0, 4, none⟩))))] (pEq (.slice ho0_4 hn0_4 hc0_4)) true), some (Ent.mk [(18, (pEq (.slice ho0_4 hn0_4 hc0_4)))] (pEq (.int .i64 (a_0.items.length : Int))) true), some (Ent.mk [(1, (pEq (.pointer (some ⟨b3, 0, none⟩))))] (pEq (.pointer (some ⟨hb0, 0, none⟩))) true), some (Ent.mk [(20, (pEq (.pointer (some ⟨hb0, 0, none⟩))))] (pEq (.pointer (some ⟨hb0, 0, none⟩))) true), some (Ent.mk [(21, (pEq (.pointer (some ⟨hb0, 0, none⟩))))] (pEq (.pointer (some ⟨hb0, 5, none⟩))) true), some (Ent.mk [(22, (pEq (.pointer (some ⟨hb0, 5, none⟩))))] (pEq (.slice ho0_5 hn0_5 hc0_5)) true), some (Ent.mk [(23, (pEq (.slice ho0_5 hn0_5 hc0_5)))] (pEq (.int .i64 (a_0.best.length : Int))) true), some (Ent.mk [(19, (pEq (.int .i64 (a_0.items.length : Int)))), (24, (pEq (.int .i64 (a_0.best.length : Int))))] (pEq (.bool (decide ((a_0.best.length : Int) < (a_0.items.length : Int))))) true)]) (rd := [[1], [15], [16], [17], [18], [1], [20], [21], [22], [23], [19, 24]]) rfl hmix (by kernel_rfl) fun hD => ?_
    refine RD.fin (es := [Ent.mk [(1, (pEq (.pointer (some ⟨b3, 0, none⟩))))] (pEq (.pointer (some ⟨hb0, 0, none⟩))) true, Ent.mk [(15, (pEq (.pointer (some ⟨hb0, 0, none⟩))))] (pEq (.pointer (some ⟨hb0, 0, none⟩))) true, Ent.mk [(16, (pEq (.pointer (some ⟨hb0, 0, none⟩))))] (pEq (.pointer (some ⟨hb0, 4, none⟩))) true, Ent.mk [(17, (pEq (.pointer (some ⟨hb0, 4, none⟩))))] (pEq (.slice ho0_4 hn0_4 hc0_4)) true, Ent.mk [(18, (pEq (.slice ho0_4 hn0_4 hc0_4)))] (pEq (.int .i64 (a_0.items.length : Int))) true, Ent.mk [(1, (pEq (.pointer (some ⟨b3, 0, none⟩))))] (pEq (.pointer (some ⟨hb0, 0, none⟩))) true, Ent.mk [(20, (pEq (.pointer (some ⟨hb0, 0, none⟩))))] (pEq (.pointer (some ⟨hb0, 0, none⟩))) true, Ent.mk [(21, (pEq (.pointer (some ⟨hb0, 0, none⟩))))] (pEq (.pointer (some ⟨hb0, 5, none⟩))) true, Ent.mk [(22, (pEq (.pointer (some ⟨hb0, 5, none⟩))))] (pEq (.slice ho0_5 hn0_5 hc0_5)) true, Ent.mk [(23, (pEq (.slice ho0_5 hn0_5 hc0_5)))] (pEq (.int .i64 (a_0.best.length : Int))) true, Ent.mk [(19, (pEq (.int .i64 (a_0.items.length : Int)))), (24, (pEq (.int .i64 (a_0.best.length : Int))))] (pEq (.bool (decide ((a_0.best.length : Int) < (a_0.items.length : Int))))) true]) (done := []) hD ⟨.inr ⟨(W_load (i := 1) rfl Try.isAgg116 (Opd.tmp rfl) rfl rfl), ⟨rfl, trivial⟩, rfl, rfl⟩, ⟨.inr ⟨(OpJ.w (J_nilCheckE rfl (Opd.tmp rfl))), ⟨rfl, trivial⟩, rfl, rfl⟩, ⟨.inr ⟨(OpJ.w (J_fieldAddrE rfl Try.underlying94 rfl sz26 (by decide) (Opd.tmp rfl) rfl)), ⟨rfl, trivial⟩, rfl, rfl⟩, ⟨.inr ⟨(W_load (i := 0) rfl Try.isAgg26 (Opd.tmp rfl) rfl rfl), ⟨rfl, trivial⟩, rfl, rfl⟩, ⟨.inr ⟨(W_rowLen (j := 2) rfl Try.underlying26 (Opd.tmp rfl) rfl), ⟨rfl, trivial⟩, rfl, rfl⟩, ⟨.inr ⟨(W_load (i := 1) rfl Try.isAgg116 (Opd.tmp rfl) rfl rfl), ⟨rfl, trivial⟩, rfl, rfl⟩, ⟨.inr ⟨(OpJ.w (J_nilCheckE rfl (Opd.tmp rfl))), ⟨rfl, trivial⟩, rfl, rfl⟩, ⟨.inr ⟨(OpJ.w (J_fieldAddrE rfl Try.underlying94 rfl sz26 (by decide) (Opd.tmp rfl) rfl)), ⟨rfl, trivial⟩, rfl, rfl⟩, ⟨.inr ⟨(W_load (i := 0) rfl Try.isAgg26 (Opd.tmp rfl) rfl rfl), ⟨rfl, trivial⟩, rfl, rfl⟩, ⟨.inr ⟨(W_rowLen (j := 3) rfl Try.underlying26 (Opd.tmp rfl) rfl), ⟨rfl, trivial⟩, rfl, rfl⟩, ⟨.inr ⟨(OpJ.w (J_bin rfl (Opd.tmp rfl) (Opd.tmp rfl) B_gtr)), ⟨rfl, rfl, trivial⟩, rfl, rfl⟩, trivial⟩⟩⟩⟩⟩⟩⟩⟩⟩⟩⟩ ?_
    refine RegL.nil ?_
    refine Ct.then_tr ?_
    refine Tr.weak (Γ' := [(1, (pEq (.pointer (some ⟨b3, 0, none⟩)))), (25, (pEq (.bool (decide ((a_0.best.length : Int) < (a_0.items.length : Int))))))]) ⟨rfl, rfl, trivial⟩ ?_
    replace h := bind_some h; obtain ⟨x5, hx5, h⟩ := h
    refine Tr.cut (γ := G3) (Γm := fun g => [(1, (pEq (.pointer (some ⟨b3, 0, none⟩))))]) (Ωm := fun g => [oBlk hb0 [(pSl 1 (cSl 1 (cK .i64)) a_0.problem.Domains), (pSl 1 (cSl 1 (cK .i64)) a_0.problem.Apart), (pEq (.int .i64 a_0.apart)), (pEq (.int .i64 (w64 (a_0.budget - (1 : Int))))), (pEq (.slice ho0_4 hn0_4 hc0_4)), (pEq (.slice g.1 g.2.1 g.2.2))], oBlk b3 [(pEq (.pointer (some ⟨hb0, 0, none⟩)))], oSl 2 1 (cK .i64) ho0_4 hn0_4 hc0_4 a_0.items, oSl 2 1 (cK .i64) g.1 g.2.1 g.2.2 x5]) ?_ (fun g10 => ?_)
    · clear h
      have h := hx5
      clear hx5
      refine Tr.cond (Opd.tmp rfl) (fun hc => ?_) (fun hc => ?_)
      · replace h := bif_t hc h
        refine Tr.drawD (n := 100) (m := 9) (es := [some (Ent.mk [(1, (pEq (.pointer (some ⟨b3, 0, none⟩))))] (pEq (.pointer (some ⟨hb0, 0, none⟩))) true), some (Ent.mk [(1, (pEq (.pointer (some ⟨b3, 0, none⟩))))] (pEq (.pointer (some ⟨hb0, 0, none⟩))) true), some (Ent.mk [(27, (pEq (.pointer (some ⟨hb0, 0, none⟩))))] (pEq (.pointer (some ⟨hb0, 0, none⟩))) true), some (Ent.mk [(28, (pEq (.pointer (some ⟨hb0, 0, none⟩))))] (pEq (.pointer (some ⟨hb0, 4, none⟩))) true), some (Ent.mk [(29, (pEq (.pointer (some ⟨hb0, 4, none⟩))))] (pEq (.slice ho0_4 hn0_4 hc0_4)) true), none, none, none, none]) (rd := [[1], [1], [27], [28], [29], [30], [26], [32], [31, 33]]) rfl hmix (by kernel_rfl) fun hD => ?_
        replace h := bind_some h; obtain ⟨x6, hx6, h⟩ := h
        refine RD.step hD (es := [some (Ent.mk [(1, (pEq (.pointer (some ⟨b3, 0, none⟩))))] (pEq (.pointer (some ⟨hb0, 0, none⟩))) true), some (Ent.mk [(1, (pEq (.pointer (some ⟨b3, 0, none⟩))))] (pEq (.pointer (some ⟨hb0, 0, none⟩))) true), some (Ent.mk [(27, (pEq (.pointer (some ⟨hb0, 0, none⟩))))] (pEq (.pointer (some ⟨hb0, 0, none⟩))) true), some (Ent.mk [(28, (pEq (.pointer (some ⟨hb0, 0, none⟩))))] (pEq (.pointer (some ⟨hb0, 4, none⟩))) true), some (Ent.mk [(29, (pEq (.pointer (some ⟨hb0, 4, none⟩))))] (pEq (.slice ho0_4 hn0_4 hc0_4)) true), none, none, none, none]) (done := []) (mask := [true, true, true, true, true, false, false, false, false]) (γ := G3) (p := fun g => (pEq (.slice g.1 g.2.1 g.2.2))) (Ω' := fun g => [oSl 2 1 (cK .i64) g.1 g.2.1 g.2.2 x6, oBlk hb0 [(pSl 1 (cSl 1 (cK .i64)) a_0.problem.Domains), (pSl 1 (cSl 1 (cK .i64)) a_0.problem.Apart), (pEq (.int .i64 a_0.apart)), (pEq (.int .i64 (w64 (a_0.budget - (1 : Int))))), (pEq (.slice ho0_4 hn0_4 hc0_4)), (pEq (.slice ho0_5 hn0_5 hc0_5))], oBlk b3 [(pEq (.pointer (some ⟨hb0, 0, none⟩)))], oSl 2 1 (cK .i64) ho0_4 hn0_4 hc0_4 a_0.items, oSl 2 1 (cK .i64) ho0_5 hn0_5 hc0_5 a_0.best]) (es' := fun g7 => [some (Ent.mk [(1, (pEq (.pointer (some ⟨b3, 0, none⟩))))] (pEq (.pointer (some ⟨hb0, 0, none⟩))) true), some (Ent.mk [(1, (pEq (.pointer (some ⟨b3, 0, none⟩))))] (pEq (.pointer (some ⟨hb0, 0, none⟩))) true), some (Ent.mk [(27, (pEq (.pointer (some ⟨hb0, 0, none⟩))))] (pEq (.pointer (some ⟨hb0, 0, none⟩))) true), some (Ent.mk [(28, (pEq (.pointer (some ⟨hb0, 0, none⟩))))] (pEq (.pointer (some ⟨hb0, 4, none⟩))) true), some (Ent.mk [(29, (pEq (.pointer (some ⟨hb0, 4, none⟩))))] (pEq (.slice ho0_4 hn0_4 hc0_4)) true), some (Ent.mk [(30, (pEq (.slice ho0_4 hn0_4 hc0_4)))] (pEq (.slice g7.1 g7.2.1 g7.2.2)) true), none, none, none]) (Γc := [(30, (pEq (.slice ho0_4 hn0_4 hc0_4)))]) 5 rfl rfl rfl (by kernel_rfl) ⟨.inr ⟨(W_load (i := 1) rfl Try.isAgg116 (Opd.tmp rfl) rfl rfl), ⟨rfl, trivial⟩, rfl, rfl⟩, ⟨.inr ⟨(W_load (i := 1) rfl Try.isAgg116 (Opd.tmp rfl) rfl rfl), ⟨rfl, trivial⟩, rfl, rfl⟩, ⟨.inr ⟨(OpJ.w (J_nilCheckE rfl (Opd.tmp rfl))), ⟨rfl, trivial⟩, rfl, rfl⟩, ⟨.inr ⟨(OpJ.w (J_fieldAddrE rfl Try.underlying94 rfl sz26 (by decide) (Opd.tmp rfl) rfl)), ⟨rfl, trivial⟩, rfl, rfl⟩, ⟨.inr ⟨(W_load (i := 0) rfl Try.isAgg26 (Opd.tmp rfl) rfl rfl), ⟨rfl, trivial⟩, rfl, rfl⟩, trivial⟩⟩⟩⟩⟩ rfl rfl ⟨rfl, trivial⟩ (fun _ => M_callHB (Ωi := []) rfl Try.call54 (o_slices_Clone_int64_int64 hx6) (OpdsA.cons (OpdA.conv rfl (Conv.row (f := (cK .i64)) 2 (fun _ => rfl) rfl)) OpdsA.nil) (fun _ => FreeP.eq) (fun _ => ⟨(FreeO.sl (fun _ => ⟨FreeP.eq, trivial⟩)), trivial⟩)) (fun g7 => ⟨rfl, ⟨rfl, ⟨rfl, ⟨rfl, ⟨rfl, trivial⟩⟩⟩⟩⟩) (fun g7 => rfl) rfl fun g7 => ?_
        refine RD.ext (es' := [some (Ent.mk [(1, (pEq (.pointer (some ⟨b3, 0, none⟩))))] (pEq (.pointer (some ⟨hb0, 0, none⟩))) true), some (Ent.mk [(1, (pEq (.pointer (some ⟨b3, 0, none⟩))))] (pEq (.pointer (some ⟨hb0, 0, none⟩))) true), some (Ent.mk [(27, (pEq (.pointer (some ⟨hb0, 0, none⟩))))] (pEq (.pointer (some ⟨hb0, 0, none⟩))) true), some (Ent.mk [(28, (pEq (.pointer (some ⟨hb0, 0, none⟩))))] (pEq (.pointer (some ⟨hb0, 4, none⟩))) true), some (Ent.mk [(29, (pEq (.pointer (some ⟨hb0, 4, none⟩))))] (pEq (.slice ho0_4 hn0_4 hc0_4)) true), some (Ent.mk [(30, (pEq (.slice ho0_4 hn0_4 hc0_4)))] (pEq (.slice g7.1 g7.2.1 g7.2.2)) true), some (Ent.mk [(26, (pEq (.pointer (some ⟨hb0, 0, none⟩))))] (pEq (.pointer (some ⟨hb0, 0, none⟩))) true), some (Ent.mk [(32, (pEq (.pointer (some ⟨hb0, 0, none⟩))))] (pEq (.pointer (some ⟨hb0, 5, none⟩))) true), none]) ⟨rfl, ⟨rfl, ⟨rfl, ⟨rfl, ⟨rfl, ⟨rfl, trivial⟩⟩⟩⟩⟩⟩ ?_
        refine RD.re (Ω2 := [oBlk hb0 [(pSl 1 (cSl 1 (cK .i64)) a_0.problem.Domains), (pSl 1 (cSl 1 (cK .i64)) a_0.problem.Apart), (pEq (.int .i64 a_0.apart)), (pEq (.int .i64 (w64 (a_0.budget - (1 : Int))))), (pEq (.slice ho0_4 hn0_4 hc0_4)), (pEq (.slice ho0_5 hn0_5 hc0_5))], oSl 2 1 (cK .i64) g7.1 g7.2.1 g7.2.2 x6, oBlk b3 [(pEq (.pointer (some ⟨hb0, 0, none⟩)))], oSl 2 1 (cK .i64) ho0_4 hn0_4 hc0_4 a_0.items, oSl 2 1 (cK .i64) ho0_5 hn0_5 hc0_5 a_0.best]) (fun h => SatO.pick 1 h) ?_
        refine RD.step hD (es := [some (Ent.mk [(1, (pEq (.pointer (some ⟨b3, 0, none⟩))))] (pEq (.pointer (some ⟨hb0, 0, none⟩))) true), some (Ent.mk [(1, (pEq (.pointer (some ⟨b3, 0, none⟩))))] (pEq (.pointer (some ⟨hb0, 0, none⟩))) true), some (Ent.mk [(27, (pEq (.pointer (some ⟨hb0, 0, none⟩))))] (pEq (.pointer (some ⟨hb0, 0, none⟩))) true), some (Ent.mk [(28, (pEq (.pointer (some ⟨hb0, 0, none⟩))))] (pEq (.pointer (some ⟨hb0, 4, none⟩))) true), some (Ent.mk [(29, (pEq (.pointer (some ⟨hb0, 4, none⟩))))] (pEq (.slice ho0_4 hn0_4 hc0_4)) true), some (Ent.mk [(30, (pEq (.slice ho0_4 hn0_4 hc0_4)))] (pEq (.slice g7.1 g7.2.1 g7.2.2)) true), some (Ent.mk [(26, (pEq (.pointer (some ⟨hb0, 0, none⟩))))] (pEq (.pointer (some ⟨hb0, 0, none⟩))) true), some (Ent.mk [(32, (pEq (.pointer (some ⟨hb0, 0, none⟩))))] (pEq (.pointer (some ⟨hb0, 5, none⟩))) true), none]) (done := [5]) (mask := [true, true, true, true, true, true, true, true, false]) (γ := Unit) (p := fun _ => pAny) (Ω' := fun _ => [oBlk hb0 [(pSl 1 (cSl 1 (cK .i64)) a_0.problem.Domains), (pSl 1 (cSl 1 (cK .i64)) a_0.problem.Apart), (pEq (.int .i64 a_0.apart)), (pEq (.int .i64 (w64 (a_0.budget - (1 : Int))))), (pEq (.slice ho0_4 hn0_4 hc0_4)), (pEq (.slice g7.1 g7.2.1 g7.2.2))], oSl 2 1 (cK .i64) g7.1 g7.2.1 g7.2.2 x6, oBlk b3 [(pEq (.pointer (some ⟨hb0, 0, none⟩)))], oSl 2 1 (cK .i64) ho0_4 hn0_4 hc0_4 a_0.items, oSl 2 1 (cK .i64) ho0_5 hn0_5 hc0_5 a_0.best]) (es' := fun g9 => [some (Ent.mk [(1, (pEq (.pointer (some ⟨b3, 0, none⟩))))] (pEq (.pointer (some ⟨hb0, 0, none⟩))) true), some (Ent.mk [(1, (pEq (.pointer (some ⟨b3, 0, none⟩))))] (pEq (.pointer (some ⟨hb0, 0, none⟩))) true), some (Ent.mk [(27, (pEq (.pointer (some ⟨hb0, 0, none⟩))))] (pEq (.pointer (some ⟨hb0, 0, none⟩))) true), some (Ent.mk [(28, (pEq (.pointer (some ⟨hb0, 0, none⟩))))] (pEq (.pointer (some ⟨hb0, 4, none⟩))) true), some (Ent.mk [(29, (pEq (.pointer (some ⟨hb0, 4, none⟩))))] (pEq (.slice ho0_4 hn0_4 hc0_4)) true), some (Ent.mk [(30, (pEq (.slice ho0_4 hn0_4 hc0_4)))] (pEq (.slice g7.1 g7.2.1 g7.2.2)) true), some (Ent.mk [(26, (pEq (.pointer (some ⟨hb0, 0, none⟩))))] (pEq (.pointer (some ⟨hb0, 0, none⟩))) true), some (Ent.mk [(32, (pEq (.pointer (some ⟨hb0, 0, none⟩))))] (pEq (.pointer (some ⟨hb0, 5, none⟩))) true), some (Ent.mk [(31, (pEq (.slice g7.1 g7.2.1 g7.2.2))), (33, (pEq (.pointer (some ⟨hb0, 5, none⟩))))] ((fun _ => pAny) g9) true)]) (Γc := [(31, (pEq (.slice g7.1 g7.2.1 g7.2.2))), (33, (pEq (.pointer (some ⟨hb0, 5, none⟩))))]) 8 rfl rfl rfl (by kernel_rfl) ⟨.inr ⟨(W_load (i := 2) rfl Try.isAgg116 (Opd.tmp rfl) rfl rfl), ⟨rfl, trivial⟩, rfl, rfl⟩, ⟨.inr ⟨(W_load (i := 2) rfl Try.isAgg116 (Opd.tmp rfl) rfl rfl), ⟨rfl, trivial⟩, rfl, rfl⟩, ⟨.inr ⟨(OpJ.w (J_nilCheckE rfl (Opd.tmp rfl))), ⟨rfl, trivial⟩, rfl, rfl⟩, ⟨.inr ⟨(OpJ.w (J_fieldAddrE rfl Try.underlying94 rfl sz26 (by decide) (Opd.tmp rfl) rfl)), ⟨rfl, trivial⟩, rfl, rfl⟩, ⟨.inr ⟨(W_load (i := 0) rfl Try.isAgg26 (Opd.tmp rfl) rfl rfl), ⟨rfl, trivial⟩, rfl, rfl⟩, ⟨.inl rfl, ⟨.inr ⟨(OpJ.w (J_nilCheckE rfl (Opd.tmp rfl))), ⟨rfl, trivial⟩, rfl, rfl⟩, ⟨.inr ⟨(OpJ.w (J_fieldAddrE rfl Try.underlying94 rfl sz26 (by decide) (Opd.tmp rfl) rfl)), ⟨rfl, trivial⟩, rfl, rfl⟩, trivial⟩⟩⟩⟩⟩⟩⟩⟩ rfl rfl ⟨rfl, rfl, trivial⟩ (fun _ => M_store rfl sz26 (Opd.tmp rfl) (Opd.tmp rfl) OneC.slice rfl rfl) (fun g9 => ⟨rfl, ⟨rfl, ⟨rfl, ⟨rfl, ⟨rfl, ⟨rfl, ⟨rfl, ⟨rfl, trivial⟩⟩⟩⟩⟩⟩⟩⟩) (fun g9 => rfl) rfl fun g9 => ?_
        refine RD.add 8 0 rfl ?_
        refine RD.add 8 1 rfl ?_
        refine RD.add 8 2 rfl ?_
        refine RD.add 8 3 rfl ?_
        refine RD.add 8 4 rfl ?_
        refine RD.add 8 7 rfl ?_
        refine RD.add 7 6 rfl ?_
        refine RD.fin (es := [Ent.mk [(1, (pEq (.pointer (some ⟨b3, 0, none⟩))))] (pEq (.pointer (some ⟨hb0, 0, none⟩))) true, Ent.mk [(1, (pEq (.pointer (some ⟨b3, 0, none⟩))))] (pEq (.pointer (some ⟨hb0, 0, none⟩))) true, Ent.mk [(27, (pEq (.pointer (some ⟨hb0, 0, none⟩))))] (pEq (.pointer (some ⟨hb0, 0, none⟩))) true, Ent.mk [(28, (pEq (.pointer (some ⟨hb0, 0, none⟩))))] (pEq (.pointer (some ⟨hb0, 4, none⟩))) true, Ent.mk [(29, (pEq (.pointer (some ⟨hb0, 4, none⟩))))] (pEq (.slice ho0_4 hn0_4 hc0_4)) true, Ent.mk [(30, (pEq (.slice ho0_4 hn0_4 hc0_4)))] (pEq (.slice g7.1 g7.2.1 g7.2.2)) true, Ent.mk [(26, (pEq (.pointer (some ⟨hb0, 0, none⟩))))] (pEq (.pointer (some ⟨hb0, 0, none⟩))) true, Ent.mk [(32, (pEq (.pointer (some ⟨hb0, 0, none⟩))))] (pEq (.pointer (some ⟨hb0, 5, none⟩))) true, Ent.mk [(31, (pEq (.slice g7.1 g7.2.1 g7.2.2))), (33, (pEq (.pointer (some ⟨hb0, 5, none⟩))))] ((fun _ => pAny) g9) true]) (done := [6, 7, 4, 3, 2, 1, 0, 8, 5]) hD ⟨.inl rfl, ⟨.inl rfl, ⟨.inl rfl, ⟨.inl rfl, ⟨.inl rfl, ⟨.inl rfl, ⟨.inl rfl, ⟨.inl rfl, ⟨.inl rfl, trivial⟩⟩⟩⟩⟩⟩⟩⟩⟩ ?_
        refine RegL.nil ?_
        refine Ct.re (Ω2 := [oSl 2 1 (cK .i64) ho0_5 hn0_5 hc0_5 a_0.best, oBlk hb0 [(pSl 1 (cSl 1 (cK .i64)) a_0.problem.Domains), (pSl 1 (cSl 1 (cK .i64)) a_0.problem.Apart), (pEq (.int .i64 a_0.apart)), (pEq (.int .i64 (w64 (a_0.budget - (1 : Int))))), (pEq (.slice ho0_4 hn0_4 hc0_4)), (pEq (.slice g7.1 g7.2.1 g7.2.2))], oSl 2 1 (cK .i64) g7.1 g7.2.1 g7.2.2 x6, oBlk b3 [(pEq (.pointer (some ⟨hb0, 0, none⟩)))], oSl 2 1 (cK .i64) ho0_4 hn0_4 hc0_4 a_0.items]) (fun h => SatO.pick 4 h) ?_
        refine Ct.re (Ω2 := [oBlk hb0 [(pSl 1 (cSl 1 (cK .i64)) a_0.problem.Domains), (pSl 1 (cSl 1 (cK .i64)) a_0.problem.Apart), (pEq (.int .i64 a_0.apart)), (pEq (.int .i64 (w64 (a_0.budget - (1 : Int))))), (pEq (.slice ho0_4 hn0_4 hc0_4)), (pEq (.slice g7.1 g7.2.1 g7.2.2))], oSl 2 1 (cK .i64) g7.1 g7.2.1 g7.2.2 x6, oBlk b3 [(pEq (.pointer (some ⟨hb0, 0, none⟩)))], oSl 2 1 (cK .i64) ho0_4 hn0_4 hc0_4 a_0.items]) (fun h => SatO.rest h) ?_
        refine Ct.re (Ω2 := [oSl 2 1 (cK .i64) g7.1 g7.2.1 g7.2.2 x6, oBlk hb0 [(pSl 1 (cSl 1 (cK .i64)) a_0.problem.Domains), (pSl 1 (cSl 1 (cK .i64)) a_0.problem.Apart), (pEq (.int .i64 a_0.apart)), (pEq (.int .i64 (w64 (a_0.budget - (1 : Int))))), (pEq (.slice ho0_4 hn0_4 hc0_4)), (pEq (.slice g7.1 g7.2.1 g7.2.2))], oBlk b3 [(pEq (.pointer (some ⟨hb0, 0, none⟩)))], oSl 2 1 (cK .i64) ho0_4 hn0_4 hc0_4 a_0.items]) (fun h => SatO.pick 1 h) ?_
        refine Ct.re (Ω2 := [oSl 2 1 (cK .i64) ho0_4 hn0_4 hc0_4 a_0.items, oSl 2 1 (cK .i64) g7.1 g7.2.1 g7.2.2 x6, oBlk hb0 [(pSl 1 (cSl 1 (cK .i64)) a_0.problem.Domains), (pSl 1 (cSl 1 (cK .i64)) a_0.problem.Apart), (pEq (.int .i64 a_0.apart)), (pEq (.int .i64 (w64 (a_0.budget - (1 : Int))))), (pEq (.slice ho0_4 hn0_4 hc0_4)), (pEq (.slice g7.1 g7.2.1 g7.2.2))], oBlk b3 [(pEq (.pointer (some ⟨hb0, 0, none⟩)))]]) (fun h => SatO.pick 3 h) ?_
        refine Ct.re (Ω2 := [oBlk b3 [(pEq (.pointer (some ⟨hb0, 0, none⟩)))], oSl 2 1 (cK .i64) ho0_4 hn0_4 hc0_4 a_0.items, oSl 2 1 (cK .i64) g7.1 g7.2.1 g7.2.2 x6, oBlk hb0 [(pSl 1 (cSl 1 (cK .i64)) a_0.problem.Domains), (pSl 1 (cSl 1 (cK .i64)) a_0.problem.Apart), (pEq (.int .i64 a_0.apart)), (pEq (.int .i64 (w64 (a_0.budget - (1 : Int))))), (pEq (.slice ho0_4 hn0_4 hc0_4)), (pEq (.slice g7.1 g7.2.1 g7.2.2))]]) (fun h => SatO.pick 3 h) ?_
        refine Ct.re (Ω2 := [oBlk hb0 [(pSl 1 (cSl 1 (cK .i64)) a_0.problem.Domains), (pSl 1 (cSl 1 (cK .i64)) a_0.problem.Apart), (pEq (.int .i64 a_0.apart)), (pEq (.int .i64 (w64 (a_0.budget - (1 : Int))))), (pEq (.slice ho0_4 hn0_4 hc0_4)), (pEq (.slice g7.1 g7.2.1 g7.2.2))], oBlk b3 [(pEq (.pointer (some ⟨hb0, 0, none⟩)))], oSl 2 1 (cK .i64) ho0_4 hn0_4 hc0_4 a_0.items, oSl 2 1 (cK .i64) g7.1 g7.2.1 g7.2.2 x6]) (fun h => SatO.pick 3 h) ?_
        replace h := Option.some.inj h; subst h
        exact Ct.mid (g7.1, g7.2.1, g7.2.2) rfl ⟨rfl, trivial⟩
      · replace h := bif_f hc h
        refine Tr.skip ?_
        replace h := Option.some.inj h; subst h
        exact Ct.mid (ho0_5, hn0_5, hc0_5) rfl ⟨rfl, trivial⟩
    · clear hx5
      refine Ct.then_tr ?_
      refine Tr.weak (Γ' := [(1, (pEq (.pointer (some ⟨b3, 0, none⟩))))]) ⟨rfl, trivial⟩ ?_
      refine Tr.seq ?_
      refine Tr.region ?_
      refine RegL.step (γ := Nat) (p := fun b => pEq (.pointer (some ⟨b, 0, none⟩))) (Ω' := fun b => [oBlk b [(pEq (.int .i64 (0 : Int)))], oBlk hb0 [(pSl 1 (cSl 1 (cK .i64)) a_0.problem.Domains), (pSl 1 (cSl 1 (cK .i64)) a_0.problem.Apart), (pEq (.int .i64 a_0.apart)), (pEq (.int .i64 (w64 (a_0.budget - (1 : Int))))), (pEq (.slice ho0_4 hn0_4 hc0_4)), (pEq (.slice g10.1 g10.2.1 g10.2.2))], oBlk b3 [(pEq (.pointer (some ⟨hb0, 0, none⟩)))], oSl 2 1 (cK .i64) ho0_4 hn0_4 hc0_4 a_0.items, oSl 2 1 (cK .i64) g10.1 g10.2.1 g10.2.2 x5]) rfl rfl rfl (M_alloc rfl zero2) fun b11 => ?_
      refine RegL.stepN (γ := Unit) (p := fun _ => pAny) (Ω' := fun _ => [oBlk b11 [(pEq (.int .i64 (0 : Int)))], oBlk hb0 [(pSl 1 (cSl 1 (cK .i64)) a_0.problem.Domains), (pSl 1 (cSl 1 (cK .i64)) a_0.problem.Apart), (pEq (.int .i64 a_0.apart)), (pEq (.int .i64 (w64 (a_0.budget - (1 : Int))))), (pEq (.slice ho0_4 hn0_4 hc0_4)), (pEq (.slice g10.1 g10.2.1 g10.2.2))], oBlk b3 [(pEq (.pointer (some ⟨hb0, 0, none⟩)))], oSl 2 1 (cK .i64) ho0_4 hn0_4 hc0_4 a_0.items, oSl 2 1 (cK .i64) g10.1 g10.2.1 g10.2.2 x5]) rfl rfl (M_store rfl sz2 (Opd.tmp rfl) Opd.con OneC.int rfl rfl) fun g12 => ?_
      refine RegL.nil ?_
      refine Ct.then_tr ?_
      refine Tr.weak (Γ' := [(1, (pEq (.pointer (some ⟨b3, 0, none⟩)))), (2, (pEq (.pointer (some ⟨b11, 0, none⟩))))]) ⟨rfl, rfl, trivial⟩ ?_
      refine Tr.seq ?_
      refine Tr.seq ?_
      refine Tr.region ?_
      refine RegL.pureW (p := (pEq (.pointer (some ⟨hb0, 0, none⟩)))) rfl rfl rfl (W_load (i := 2) rfl Try.isAgg116 (Opd.tmp rfl) rfl rfl) ?_
      refine RegL.pure (p := (pEq (.pointer (some ⟨hb0, 0, none⟩)))) rfl rfl rfl (J_nilCheckE rfl (Opd.tmp rfl)) ?_
      refine RegL.pure (p := (pEq (.pointer (some ⟨hb0, 4, none⟩)))) rfl rfl rfl (J_fieldAddrE rfl Try.underlying94 rfl sz26 (by decide) (Opd.tmp rfl) rfl) ?_
      refine RegL.pureW (p := (pEq (.slice ho0_4 hn0_4 hc0_4))) rfl rfl rfl (W_load (i := 1) rfl Try.isAgg26 (Opd.tmp rfl) rfl rfl) ?_
      refine RegL.pureW (p := (pEq (.int .i64 (a_0.items.length : Int)))) rfl rfl rfl (W_rowLen (j := 3) rfl Try.underlying26 (Opd.tmp rfl) rfl) ?_
      refine RegL.pure (p := (pEq (.bool (decide ((0 : Int) < (a_0.items.length : Int)))))) rfl rfl rfl (J_bin rfl (Opd.tmp rfl) Opd.con B_gtr) ?_
      refine RegL.nil ?_
      refine Ct.then_tr ?_
      refine Tr.weak (Γ' := [(1, (pEq (.pointer (some ⟨b3, 0, none⟩)))), (2, (pEq (.pointer (some ⟨b11, 0, none⟩)))), (39, (pEq (.bool (decide ((0 : Int) < (a_0.items.length : Int))))))]) ⟨rfl, rfl, rfl, trivial⟩ ?_
      replace h := bind_some h; obtain ⟨x13, hx13, h⟩ := h
      refine Tr.cut (γ := Unit) (Γm := fun g => [(1, (pEq (.pointer (some ⟨b3, 0, none⟩)))), (2, (pEq (.pointer (some ⟨b11, 0, none⟩))))]) (Ωm := fun g => [oBlk b11 [(pEq (.int .i64 x13))], oBlk hb0 [(pSl 1 (cSl 1 (cK .i64)) a_0.problem.Domains), (pSl 1 (cSl 1 (cK .i64)) a_0.problem.Apart), (pEq (.int .i64 a_0.apart)), (pEq (.int .i64 (w64 (a_0.budget - (1 : Int))))), (pEq (.slice ho0_4 hn0_4 hc0_4)), (pEq (.slice g10.1 g10.2.1 g10.2.2))], oBlk b3 [(pEq (.pointer (some ⟨hb0, 0, none⟩)))], oSl 2 1 (cK .i64) ho0_4 hn0_4 hc0_4 a_0.items, oSl 2 1 (cK .i64) g10.1 g10.2.1 g10.2.2 x5]) ?_ (fun g16 => ?_)
      · clear h
        have h := hx13
        clear hx13
        refine Tr.cond (Opd.tmp rfl) (fun hc => ?_) (fun hc => ?_)
        · replace h := bif_t hc h
          replace h := bind_some h; obtain ⟨x14, hx14, h⟩ := h
          refine Tr.drawD (n := 100) (m := 13) (es := [some (Ent.mk [(1, (pEq (.pointer (some ⟨b3, 0, none⟩))))] (pEq (.pointer (some ⟨hb0, 0, none⟩))) true), some (Ent.mk [(40, (pEq (.pointer (some ⟨hb0, 0, none⟩))))] (pEq (.pointer (some ⟨hb0, 0, none⟩))) true), some (Ent.mk [(41, (pEq (.pointer (some ⟨hb0, 0, none⟩))))] (pEq (.pointer (some ⟨hb0, 4, none⟩))) true), some (Ent.mk [(42, (pEq (.pointer (some ⟨hb0, 4, none⟩))))] (pEq (.slice ho0_4 hn0_4 hc0_4)) true), some (Ent.mk [(1, (pEq (.pointer (some ⟨b3, 0, none⟩))))] (pEq (.pointer (some ⟨hb0, 0, none⟩))) true), some (Ent.mk [(44, (pEq (.pointer (some ⟨hb0, 0, none⟩))))] (pEq (.pointer (some ⟨hb0, 0, none⟩))) true), some (Ent.mk [(45, (pEq (.pointer (some ⟨hb0, 0, none⟩))))] (pEq (.pointer (some ⟨hb0, 4, none⟩))) true), some (Ent.mk [(46, (pEq (.pointer (some ⟨hb0, 4, none⟩))))] (pEq (.slice ho0_4 hn0_4 hc0_4)) true), some (Ent.mk [(47, (pEq (.slice ho0_4 hn0_4 hc0_4)))] (pEq (.int .i64 (a_0.items.length : Int))) true), some (Ent.mk [(48, (pEq (.int .i64 (a_0.items.length : Int))))] (pEq (.int .i64 (w64 ((a_0.items.length : Int) - (1 : Int))))) true), some (Ent.mk [(43, (pEq (.slice ho0_4 hn0_4 hc0_4))), (49, (pEq (.int .i64 (w64 ((a_0.items.length : Int) - (1 : Int))))))] (pEq (.pointer (some ⟨blk ho0_4, ((w64 ((a_0.items.length : Int) - (1 : Int)))).toNat * 1, none⟩))) true), some (Ent.mk [(50, (pEq (.pointer (some ⟨blk ho0_4, ((w64 ((a_0.items.length : Int) - (1 : Int)))).toNat * 1, none⟩))))] (pEq (.int .i64 x14)) true), some (Ent.mk [(51, (pEq (.int .i64 x14)))] (pEq (.int .i64 (w64 (x14 + (1 : Int))))) true)]) (rd := [[1], [40], [41], [42], [1], [44], [45], [46], [47], [48], [43, 49], [50], [51]]) rfl hmix (by kernel_rfl) fun hD => ?_
          refine RD.fin (es := [Ent.mk [(1, (pEq (.pointer (some ⟨b3, 0, none⟩))))] (pEq (.pointer (some ⟨hb0, 0, none⟩))) true, Ent.mk [(40, (pEq (.pointer (some ⟨hb0, 0, none⟩))))] (pEq (.pointer (some ⟨hb0, 0, none⟩))) true, Ent.mk [(41, (pEq (.pointer (some ⟨hb0, 0, none⟩))))] (pEq (.pointer (some ⟨hb0, 4, none⟩))) true, Ent.mk [(42, (pEq (.pointer (some ⟨hb0, 4, none⟩))))] (pEq (.slice ho0_4 hn0_4 hc0_4)) true, Ent.mk [(1, (pEq (.pointer (some ⟨b3, 0, none⟩))))] (pEq (.pointer (some ⟨hb0, 0, none⟩))) true, Ent.mk [(44, (pEq (.pointer (some ⟨hb0, 0, none⟩))))] (pEq (.pointer (some ⟨hb0, 0, none⟩))) true, Ent.mk [(45, (pEq (.pointer (some ⟨hb0, 0, none⟩))))] (pEq (.pointer (some ⟨hb0, 4, none⟩))) true, Ent.mk [(46, (pEq (.pointer (some ⟨hb0, 4, none⟩))))] (pEq (.slice ho0_4 hn0_4 hc0_4)) true, Ent.mk [(47, (pEq (.slice ho0_4 hn0_4 hc0_4)))] (pEq (.int .i64 (a_0.items.length : Int))) true, Ent.mk [(48, (pEq (.int .i64 (a_0.items.length : Int))))] (pEq (.int .i64 (w64 ((a_0.items.length : Int) - (1 : Int))))) true, Ent.mk [(43, (pEq (.slice ho0_4 hn0_4 hc0_4))), (49, (pEq (.int .i64 (w64 ((a_0.items.length : Int) - (1 : Int))))))] (pEq (.pointer (some ⟨blk ho0_4, ((w64 ((a_0.items.length : Int) - (1 : Int)))).toNat * 1, none⟩))) true, Ent.mk [(50, (pEq (.pointer (some ⟨blk ho0_4, ((w64 ((a_0.items.length : Int) - (1 : Int)))).toNat * 1, none⟩))))] (pEq (.int .i64 x14)) true, Ent.mk [(51, (pEq (.int .i64 x14)))] (pEq (.int .i64 (w64 (x14 + (1 : Int))))) true]) (done := []) hD ⟨.inr ⟨(W_load (i := 2) rfl Try.isAgg116 (Opd.tmp rfl) rfl rfl), ⟨rfl, trivial⟩, rfl, rfl⟩, ⟨.inr ⟨(OpJ.w (J_nilCheckE rfl (Opd.tmp rfl))), ⟨rfl, trivial⟩, rfl, rfl⟩, ⟨.inr ⟨(OpJ.w (J_fieldAddrE rfl Try.underlying94 rfl sz26 (by decide) (Opd.tmp rfl) rfl)), ⟨rfl, trivial⟩, rfl, rfl⟩, ⟨.inr ⟨(W_load (i := 1) rfl Try.isAgg26 (Opd.tmp rfl) rfl rfl), ⟨rfl, trivial⟩, rfl, rfl⟩, ⟨.inr ⟨(W_load (i := 2) rfl Try.isAgg116 (Opd.tmp rfl) rfl rfl), ⟨rfl, trivial⟩, rfl, rfl⟩, ⟨.inr ⟨(OpJ.w (J_nilCheckE rfl (Opd.tmp rfl))), ⟨rfl, trivial⟩, rfl, rfl⟩, ⟨.inr ⟨(OpJ.w (J_fieldAddrE rfl Try.underlying94 rfl sz26 (by decide) (Opd.tmp rfl) rfl)), ⟨rfl, trivial⟩, rfl, rfl⟩, ⟨.inr ⟨(W_load (i := 1) rfl Try.isAgg26 (Opd.tmp rfl) rfl rfl), ⟨rfl, trivial⟩, rfl, rfl⟩, ⟨.inr ⟨(W_rowLen (j := 3) rfl Try.underlying26 (Opd.tmp rfl) rfl), ⟨rfl, trivial⟩, rfl, rfl⟩, ⟨.inr ⟨(OpJ.w (J_bin rfl (Opd.tmp rfl) Opd.con B_sub)), ⟨rfl, trivial⟩, rfl, rfl⟩, ⟨.inr ⟨(W_rowIdx (j := 3) rfl Try.underlying26 sz2 (Opd.tmp rfl) (Opd.tmp rfl) rfl (idx_lt hx14)), ⟨rfl, rfl, trivial⟩, rfl, rfl⟩, ⟨.inr ⟨(W_rowLoad (j := 3) (f := (cK .i64)) rfl Try.isAgg2 (fun _ => rfl) (Opd.tmp rfl) rfl hx14 rfl), ⟨rfl, trivial⟩, rfl, rfl⟩, ⟨.inr ⟨(OpJ.w (J_bin rfl (Opd.tmp rfl) Opd.con B_add)), ⟨rfl, trivial⟩, rfl, rfl⟩, trivial⟩⟩⟩⟩⟩⟩⟩⟩⟩⟩⟩⟩⟩ ?_
          refine RegL.stepN (γ := Unit) (p := fun _ => pAny) (Ω' := fun _ => [oBlk b11 [(pEq (.int .i64 (w64 (x14 + (1 : Int)))))], oBlk hb0 [(pSl 1 (cSl 1 (cK .i64)) a_0.problem.Domains), (pSl 1 (cSl 1 (cK .i64)) a_0.problem.Apart), (pEq (.int .i64 a_0.apart)), (pEq (.int .i64 (w64 (a_0.budget - (1 : Int))))), (pEq (.slice ho0_4 hn0_4 hc0_4)), (pEq (.slice g10.1 g10.2.1 g10.2.2))], oBlk b3 [(pEq (.pointer (some ⟨hb0, 0, none⟩)))], oSl 2 1 (cK .i64) ho0_4 hn0_4 hc0_4 a_0.items, oSl 2 1 (cK .i64) g10.1 g10.2.1 g10.2.2 x5]) rfl rfl (M_store rfl sz2 (Opd.tmp rfl) (Opd.tmp rfl) OneC.int rfl rfl) fun g15 => ?_
          refine RegL.nil ?_
          replace h := Option.some.inj h; subst h
          exact Ct.mid () rfl ⟨rfl, rfl, trivial⟩
        · replace h := bif_f hc h
          refine Tr.skip ?_
          replace h := Option.some.inj h; subst h
          exact Ct.mid () rfl ⟨rfl, rfl, trivial⟩
      · clear hx13
        refine Ct.then_tr ?_
        refine Tr.weak (Γ' := [(1, (pEq (.pointer (some ⟨b3, 0, none⟩)))), (2, (pEq (.pointer (some ⟨b11, 0, none⟩))))]) ⟨rfl, rfl, trivial⟩ ?_
        refine Tr.block ?_
        refine Tr.weak (Γ' := [(1, (pEq (.pointer (some ⟨b3, 0, none⟩)))), (2, (pEq (.pointer (some ⟨b11, 0, none⟩))))]) ⟨rfl, rfl, trivial⟩ ?_
        refine Tr.loop (γ := (G3 × G3)) (σ := (Int × Int × (List Int) × (List Int))) (Γσ := fun s g => [(1, (pEq (.pointer (some ⟨b3, 0, none⟩)))), (2, (pEq (.pointer (some ⟨b11, 0, none⟩))))]) (Ωσ := fun s g => [oBlk b11 [(pEq (.int .i64 s.1))], oBlk hb0 [(pSl 1 (cSl 1 (cK .i64)) a_0.problem.Domains), (pSl 1 (cSl 1 (cK .i64)) a_0.problem.Apart), (pEq (.int .i64 a_0.apart)), (pEq (.int .i64 s.2.1)), (pEq (.slice g.1.1 g.1.2.1 g.1.2.2)), (pEq (.slice g.2.1 g.2.2.1 g.2.2.2))], oBlk b3 [(pEq (.pointer (some ⟨hb0, 0, none⟩)))], oSl 2 1 (cK .i64) g.1.1 g.1.2.1 g.1.2.2 s.2.2.1, oSl 2 1 (cK .i64) g.2.1 g.2.2.1 g.2.2.2 s.2.2.2]) (g := ((ho0_4, hn0_4, hc0_4), (g10.1, g10.2.1, g10.2.2))) h ?_
        clear h
        rintro ⟨v18, v19, v20, v21⟩ g22 t h
        replace h : m_impl_cliqueSearch_visit_B17 (iterM (fun self (a : GCliqueSearch) => mf_impl_cliqueSearch_visit self a) n) a_0 v18 v19 v20 v21 = some t := h
        unfold m_impl_cliqueSearch_visit_B17 at h
        refine Tr.weakO (Γ' := [(1, (pEq (.pointer (some ⟨b3, 0, none⟩)))), (2, (pEq (.pointer (some ⟨b11, 0, none⟩))))]) (Ω' := [oBlk b11 [(pEq (.int .i64 v18))], oBlk hb0 [(pSl 1 (cSl 1 (cK .i64)) a_0.problem.Domains), (pSl 1 (cSl 1 (cK .i64)) a_0.problem.Apart), (pEq (.int .i64 a_0.apart)), (pEq (.int .i64 v19)), (pEq (.slice g22.1.1 g22.1.2.1 g22.1.2.2)), (pEq (.slice g22.2.1 g22.2.2.1 g22.2.2.2))], oBlk b3 [(pEq (.pointer (some ⟨hb0, 0, none⟩)))], oSl 2 1 (cK .i64) g22.1.1 g22.1.2.1 g22.1.2.2 v20, oSl 2 1 (cK .i64) g22.2.1 g22.2.2.1 g22.2.2.2 v21]) rfl ⟨rfl, rfl, trivial⟩ ?_
        refine Tr.seq ?_
        refine Tr.seq ?_
        refine Tr.drawD (n := 100) (m := 8) (es := [some (Ent.mk [(2, (pEq (.pointer (some ⟨b11, 0, none⟩))))] (pEq (.int .i64 v18)) true), some (Ent.mk [(1, (pEq (.pointer (some ⟨b3, 0, none⟩))))] (pEq (.pointer (some ⟨hb0, 0, none⟩))) true), some (Ent.mk [(54, (pEq (.pointer (some ⟨hb0, 0, none⟩))))] (pEq (.pointer (some ⟨hb0, 0, none⟩))) true), some (Ent.mk [(55, (pEq (.pointer (some ⟨hb0, 0, none⟩))))] (pEq (.pointer (some ⟨hb0, 0, none⟩))) true), some (Ent.mk [(56, (pEq (.pointer (some ⟨hb0, 0, none⟩))))] (pEq (.pointer (some ⟨hb0, 0, none⟩))) true), some (Ent.mk [(57, (pEq (.pointer (some ⟨hb0, 0, none⟩))))] (pSl 1 (cSl 1 (cK .i64)) a_0.problem.Domains) true), some (Ent.mk [(58, (pSl 1 (cSl 1 (cK .i64)) a_0.problem.Domains))] (pEq (.int .i64 (a_0.problem.Domains.length : Int))) true), some (Ent.mk [(53, (pEq (.int .i64 v18))), (59, (pEq (.int .i64 (a_0.problem.Domains.length : Int))))] (pEq (.bool (decide (v18 < (a_0.problem.Domains.length : Int))))) true)]) (rd := [[2], [1], [54], [55], [56], [57], [58], [53, 59]]) rfl hmix (by kernel_rfl) fun hD => ?_
        refine RD.fin (es := [Ent.mk [(2, (pEq (.pointer (some ⟨b11, 0, none⟩))))] (pEq (.int .i64 v18)) true, Ent.mk [(1, (pEq (.pointer (some ⟨b3, 0, none⟩))))] (pEq (.pointer (some ⟨hb0, 0, none⟩))) true, Ent.mk [(54, (pEq (.pointer (some ⟨hb0, 0, none⟩))))] (pEq (.pointer (some ⟨hb0, 0, none⟩))) true, Ent.mk [(55, (pEq (.pointer (some ⟨hb0, 0, none⟩))))] (pEq (.pointer (some ⟨hb0, 0, none⟩))) true, Ent.mk [(56, (pEq (.pointer (some ⟨hb0, 0, none⟩))))] (pEq (.pointer (some ⟨hb0, 0, none⟩))) true, Ent.mk [(57, (pEq (.pointer (some ⟨hb0, 0, none⟩))))] (pSl 1 (cSl 1 (cK .i64)) a_0.problem.Domains) true, Ent.mk [(58, (pSl 1 (cSl 1 (cK .i64)) a_0.problem.Domains))] (pEq (.int .i64 (a_0.problem.Domains.length : Int))) true, Ent.mk [(53, (pEq (.int .i64 v18))), (59, (pEq (.int .i64 (a_0.problem.Domains.length : Int))))] (pEq (.bool (decide (v18 < (a_0.problem.Domains.length : Int))))) true]) (done := []) hD ⟨.inr ⟨(W_load (i := 0) rfl Try.isAgg2 (Opd.tmp rfl) rfl rfl), ⟨rfl, trivial⟩, rfl, rfl⟩, ⟨.inr ⟨(W_load (i := 2) rfl Try.isAgg116 (Opd.tmp rfl) rfl rfl), ⟨rfl, trivial⟩, rfl, rfl⟩, ⟨.inr ⟨(OpJ.w (J_nilCheckE rfl (Opd.tmp rfl))), ⟨rfl, trivial⟩, rfl, rfl⟩, ⟨.inr ⟨(OpJ.w (J_fieldAddrE rfl Try.underlying94 rfl sz29 (by decide) (Opd.tmp rfl) rfl)), ⟨rfl, trivial⟩, rfl, rfl⟩, ⟨.inr ⟨(OpJ.w (J_fieldAddrE rfl Try.underlying29 rfl sz22 (by decide) (Opd.tmp rfl) rfl)), ⟨rfl, trivial⟩, rfl, rfl⟩, ⟨.inr ⟨(W_load (i := 1) rfl Try.isAgg22 (Opd.tmp rfl) rfl rfl), ⟨rfl, trivial⟩, rfl, rfl⟩, ⟨.inr ⟨(OpJ.w (J_len rfl Try.underlying22 (Opd.tmp rfl) rfl)), ⟨rfl, trivial⟩, rfl, rfl⟩, ⟨.inr ⟨(OpJ.w (J_bin rfl (Opd.tmp rfl) (Opd.tmp rfl) B_lss)), ⟨rfl, rfl, trivial⟩, rfl, rfl⟩, trivial⟩⟩⟩⟩⟩⟩⟩⟩ ?_
        refine RegL.nil ?_
        refine Ct.then_tr ?_
        refine Tr.weak (Γ' := [(1, (pEq (.pointer (some ⟨b3, 0, none⟩)))), (2, (pEq (.pointer (some ⟨b11, 0, none⟩)))), (60, (pEq (.bool (decide (v18 < (a_0.problem.Domains.length : Int))))))]) ⟨rfl, rfl, rfl, trivial⟩ ?_
        refine Tr.cond (Opd.tmp rfl) (fun hc => ?_) (fun hc => ?_)
        · replace h := bif_t hc h
          refine Tr.skip ?_
          refine Ct.then_tr ?_
          refine Tr.weak (Γ' := [(1, (pEq (.pointer (some ⟨b3, 0, none⟩)))), (2, (pEq (.pointer (some ⟨b11, 0, none⟩))))]) ⟨rfl, rfl, trivial⟩ ?_
          refine Tr.seq ?_
          refine Tr.block ?_
          refine Tr.seq ?_
          refine Tr.seq ?_
          refine Tr.region ?_
          refine RegL.pureW (p := (pEq (.pointer (some ⟨hb0, 0, none⟩)))) rfl rfl rfl (W_load (i := 2) rfl Try.isAgg116 (Opd.tmp rfl) rfl rfl) ?_
          refine RegL.pure (p := (pEq (.pointer (some ⟨hb0, 0, none⟩)))) rfl rfl rfl (J_nilCheckE rfl (Opd.tmp rfl)) ?_
          refine RegL.pure (p := (pEq (.pointer (some ⟨hb0, 4, none⟩)))) rfl rfl rfl (J_fieldAddrE rfl Try.underlying94 rfl sz26 (by decide) (Opd.tmp rfl) rfl) ?_
          refine RegL.pureW (p := (pEq (.slice g22.1.1 g22.1.2.1 g22.1.2.2))) rfl rfl rfl (W_load (i := 1) rfl Try.isAgg26 (Opd.tmp rfl) rfl rfl) ?_
          refine RegL.pure (p := (pClo 115 [(pEq (.pointer (some ⟨b3, 0, none⟩))), (pEq (.pointer (some ⟨b11, 0, none⟩)))])) rfl rfl rfl (J_makeClo rfl (Opds.cons (Opd.tmp rfl) (Opds.cons (Opd.tmp rfl) Opds.nil))) ?_
          replace h := bind_some h; obtain ⟨x23, hx23, h⟩ := h
          refine RegL.pureW (p := (pEq (.bool x23))) rfl rfl rfl (W_call rfl Try.call93 (c_slices_ContainsFunc_int64_int64 hx23) (OpdsA.cons (OpdA.conv rfl (Conv.row (f := (cK .i64)) 3 (fun _ => rfl) rfl)) (OpdsA.cons (OpdA.conv rfl (Conv.fn Try.call115 (Convs.cons (Conv.ptr 2 rfl (Convs.cons (Conv.ptr 1 rfl (Convs.cons Conv.refl (Convs.cons Conv.refl (Convs.cons Conv.refl (Convs.cons Conv.refl (Convs.cons (Conv.row (f := (cK .i64)) 3 (fun _ => rfl) rfl) (Convs.cons (Conv.row (f := (cK .i64)) 4 (fun _ => rfl) rfl) Convs.nil))))))) Convs.nil)) (Convs.cons (Conv.ptr 0 rfl Convs.refl) Convs.nil)) (fun _ _ h => c_impl_cliqueSearch_visit_1 h))) OpdsA.nil)) FreeP.eq) ?_
          refine RegL.nil ?_
          refine Ct.then_tr ?_
          refine Tr.weak (Γ' := [(1, (pEq (.pointer (some ⟨b3, 0, none⟩)))), (2, (pEq (.pointer (some ⟨b11, 0, none⟩)))), (68, (pEq (.bool x23)))]) ⟨rfl, rfl, rfl, trivial⟩ ?_
          refine Tr.cond (Opd.tmp rfl) (fun hc => ?_) (fun hc => ?_)
          · replace h := bif_t hc h
            refine Tr.exit ?_
            refine Ct.then_exit ?_
            refine Ct.blk_exit ?_
            refine Ct.then_tr ?_
            refine Tr.weak (Γ' := [(1, (pEq (.pointer (some ⟨b3, 0, none⟩)))), (2, (pEq (.pointer (some ⟨b11, 0, none⟩))))]) ⟨rfl, rfl, trivial⟩ ?_
            refine Tr.region ?_
            refine RegL.pureW (p := (pEq (.int .i64 v18))) rfl rfl rfl (W_load (i := 0) rfl Try.isAgg2 (Opd.tmp rfl) rfl rfl) ?_
            refine RegL.pure (p := (pEq (.int .i64 (w64 (v18 + (1 : Int)))))) rfl rfl rfl (J_bin rfl (Opd.tmp rfl) Opd.con B_add) ?_
            refine RegL.stepN (γ := Unit) (p := fun _ => pAny) (Ω' := fun _ => [oBlk b11 [(pEq (.int .i64 (w64 (v18 + (1 : Int)))))], oBlk hb0 [(pSl 1 (cSl 1 (cK .i64)) a_0.problem.Domains), (pSl 1 (cSl 1 (cK .i64)) a_0.problem.Apart), (pEq (.int .i64 a_0.apart)), (pEq (.int .i64 v19)), (pEq (.slice g22.1.1 g22.1.2.1 g22.1.2.2)), (pEq (.slice g22.2.1 g22.2.2.1 g22.2.2.2))], oBlk b3 [(pEq (.pointer (some ⟨hb0, 0, none⟩)))], oSl 2 1 (cK .i64) g22.1.1 g22.1.2.1 g22.1.2.2 v20, oSl 2 1 (cK .i64) g22.2.1 g22.2.2.1 g22.2.2.2 v21]) rfl rfl (M_store rfl sz2 (Opd.tmp rfl) (Opd.tmp rfl) OneC.int rfl rfl) fun g24 => ?_
            refine RegL.nil ?_
            replace h := Option.some.inj h; subst h
            exact Ct.again ((g22.1.1, g22.1.2.1, g22.1.2.2), (g22.2.1, g22.2.2.1, g22.2.2.2)) rfl ⟨rfl, rfl, trivial⟩
          · replace h := bif_f hc h
            refine Tr.skip ?_
            refine Ct.then_tr ?_
            refine Tr.weak (Γ' := [(1, (pEq (.pointer (some ⟨b3, 0, none⟩)))), (2, (pEq (.pointer (some ⟨b11, 0, none⟩))))]) ⟨rfl, rfl, trivial⟩ ?_
            refine Tr.seq ?_
            refine Tr.drawD (n := 100) (m := 11) (es := [some (Ent.mk [(1, (pEq (.pointer (some ⟨b3, 0, none⟩))))] (pEq (.pointer (some ⟨hb0, 0, none⟩))) true), some (Ent.mk [(1, (pEq (.pointer (some ⟨b3, 0, none⟩))))] (pEq (.pointer (some ⟨hb0, 0, none⟩))) true), some (Ent.mk [(70, (pEq (.pointer (some ⟨hb0, 0, none⟩))))] (pEq (.pointer (some ⟨hb0, 0, none⟩))) true), some (Ent.mk [(71, (pEq (.pointer (some ⟨hb0, 0, none⟩))))] (pEq (.pointer (some ⟨hb0, 4, none⟩))) true), some (Ent.mk [(72, (pEq (.pointer (some ⟨hb0, 4, none⟩))))] (pEq (.slice g22.1.1 g22.1.2.1 g22.1.2.2)) true), some (Ent.mk [(2, (pEq (.pointer (some ⟨b11, 0, none⟩))))] (pEq (.int .i64 v18)) true), some (Ent.mk [(74, (pEq (.int .i64 v18)))] (pSl 1 (cK .i64) ([v18] : (List Int))) true), none, none, none, none]) (rd := [[1], [1], [70], [71], [72], [2], [74], [73, 75], [69], [77], [76, 78]]) rfl hmix (by kernel_rfl) fun hD => ?_
            replace h := bind_some h; obtain ⟨x25, hx25, h⟩ := h
            refine RD.re (Ω2 := [oSl 2 1 (cK .i64) g22.1.1 g22.1.2.1 g22.1.2.2 v20, oBlk b11 [(pEq (.int .i64 v18))], oBlk hb0 [(pSl 1 (cSl 1 (cK .i64)) a_0.problem.Domains), (pSl 1 (cSl 1 (cK .i64)) a_0.problem.Apart), (pEq (.int .i64 a_0.apart)), (pEq (.int .i64 v19)), (pEq (.slice g22.1.1 g22.1.2.1 g22.1.2.2)), (pEq (.slice g22.2.1 g22.2.2.1 g22.2.2.2))], oBlk b3 [(pEq (.pointer (some ⟨hb0, 0, none⟩)))], oSl 2 1 (cK .i64) g22.2.1 g22.2.2.1 g22.2.2.2 v21]) (fun h => SatO.pick 3 h) ?_
            refine RD.step hD (es := [some (Ent.mk [(1, (pEq (.pointer (some ⟨b3, 0, none⟩))))] (pEq (.pointer (some ⟨hb0, 0, none⟩))) true), some (Ent.mk [(1, (pEq (.pointer (some ⟨b3, 0, none⟩))))] (pEq (.pointer (some ⟨hb0, 0, none⟩))) true), some (Ent.mk [(70, (pEq (.pointer (some ⟨hb0, 0, none⟩))))] (pEq (.pointer (some ⟨hb0, 0, none⟩))) true), some (Ent.mk [(71, (pEq (.pointer (some ⟨hb0, 0, none⟩))))] (pEq (.pointer (some ⟨hb0, 4, none⟩))) true), some (Ent.mk [(72, (pEq (.pointer (some ⟨hb0, 4, none⟩))))] (pEq (.slice g22.1.1 g22.1.2.1 g22.1.2.2)) true), some (Ent.mk [(2, (pEq (.pointer (some ⟨b11, 0, none⟩))))] (pEq (.int .i64 v18)) true), some (Ent.mk [(74, (pEq (.int .i64 v18)))] (pSl 1 (cK .i64) ([v18] : (List Int))) true), none, none, none, none]) (done := []) (mask := [true, true, true, true, true, true, true, false, false, false, false]) (γ := Option Addr × Nat) (p := fun g => pEq (.slice g.1 x25.length g.2)) (Ω' := fun g => [oSl 2 1 (cK .i64) g.1 x25.length g.2 x25, oBlk b11 [(pEq (.int .i64 v18))], oBlk hb0 [(pSl 1 (cSl 1 (cK .i64)) a_0.problem.Domains), (pSl 1 (cSl 1 (cK .i64)) a_0.problem.Apart), (pEq (.int .i64 a_0.apart)), (pEq (.int .i64 v19)), (pEq (.slice g22.1.1 g22.1.2.1 g22.1.2.2)), (pEq (.slice g22.2.1 g22.2.2.1 g22.2.2.2))], oBlk b3 [(pEq (.pointer (some ⟨hb0, 0, none⟩)))], oSl 2 1 (cK .i64) g22.2.1 g22.2.2.1 g22.2.2.2 v21]) (es' := fun g26 => [some (Ent.mk [(1, (pEq (.pointer (some ⟨b3, 0, none⟩))))] (pEq (.pointer (some ⟨hb0, 0, none⟩))) true), some (Ent.mk [(1, (pEq (.pointer (some ⟨b3, 0, none⟩))))] (pEq (.pointer (some ⟨hb0, 0, none⟩))) true), some (Ent.mk [(70, (pEq (.pointer (some ⟨hb0, 0, none⟩))))] (pEq (.pointer (some ⟨hb0, 0, none⟩))) true), some (Ent.mk [(71, (pEq (.pointer (some ⟨hb0, 0, none⟩))))] (pEq (.pointer (some ⟨hb0, 4, none⟩))) true), some (Ent.mk [(72, (pEq (.pointer (some ⟨hb0, 4, none⟩))))] (pEq (.slice g22.1.1 g22.1.2.1 g22.1.2.2)) true), some (Ent.mk [(2, (pEq (.pointer (some ⟨b11, 0, none⟩))))] (pEq (.int .i64 v18)) true), some (Ent.mk [(74, (pEq (.int .i64 v18)))] (pSl 1 (cK .i64) ([v18] : (List Int))) true), some (Ent.mk [(73, (pEq (.slice g22.1.1 g22.1.2.1 g22.1.2.2))), (75, (pSl 1 (cK .i64) ([v18] : (List Int))))] (pEq (.slice g26.1 x25.length g26.2)) true), none, none, none]) (Γc := [(73, (pEq (.slice g22.1.1 g22.1.2.1 g22.1.2.2))), (75, (pSl 1 (cK .i64) ([v18] : (List Int))))]) 7 rfl rfl rfl (by kernel_rfl) ⟨.inr ⟨(W_load (i := 3) rfl Try.isAgg116 (Opd.tmp rfl) rfl rfl), ⟨rfl, trivial⟩, rfl, rfl⟩, ⟨.inr ⟨(W_load (i := 3) rfl Try.isAgg116 (Opd.tmp rfl) rfl rfl), ⟨rfl, trivial⟩, rfl, rfl⟩, ⟨.inr ⟨(OpJ.w (J_nilCheckE rfl (Opd.tmp rfl))), ⟨rfl, trivial⟩, rfl, rfl⟩, ⟨.inr ⟨(OpJ.w (J_fieldAddrE rfl Try.underlying94 rfl sz26 (by decide) (Opd.tmp rfl) rfl)), ⟨rfl, trivial⟩, rfl, rfl⟩, ⟨.inr ⟨(W_load (i := 2) rfl Try.isAgg26 (Opd.tmp rfl) rfl rfl), ⟨rfl, trivial⟩, rfl, rfl⟩, ⟨.inr ⟨(W_load (i := 1) rfl Try.isAgg2 (Opd.tmp rfl) rfl rfl), ⟨rfl, trivial⟩, rfl, rfl⟩, ⟨.inr ⟨(OpJ.w (J_buildSlice (l := ([v18] : (List Int))) (qss := [(0, (cK .i64) v18)]) rfl Try.underlying26 el2 rfl (Parts.cons (Part.one (Opd.tmp rfl) OneC.int) Parts.nil) rfl rfl)), ⟨rfl, trivial⟩, rfl, rfl⟩, trivial⟩⟩⟩⟩⟩⟩⟩ rfl rfl ⟨rfl, rfl, trivial⟩ (fun _ => M_appendI rfl Try.underlying26 el2 (Opd.tmp rfl) (Opd.tmp rfl) hx25) (fun g26 => ⟨rfl, ⟨rfl, ⟨rfl, ⟨rfl, ⟨rfl, ⟨rfl, ⟨rfl, trivial⟩⟩⟩⟩⟩⟩⟩) (fun g26 => rfl) rfl fun g26 => ?_
            refine RD.add 7 4 rfl ?_
            refine RD.add 7 6 rfl ?_
            refine RD.add 4 3 rfl ?_
            refine RD.add 6 5 rfl ?_
            refine RD.add 3 2 rfl ?_
            refine RD.add 2 1 rfl ?_
            refine RD.ext (es' := [some (Ent.mk [(1, (pEq (.pointer (some ⟨b3, 0, none⟩))))] (pEq (.pointer (some ⟨hb0, 0, none⟩))) true), some (Ent.mk [(1, (pEq (.pointer (some ⟨b3, 0, none⟩))))] (pEq (.pointer (some ⟨hb0, 0, none⟩))) true), some (Ent.mk [(70, (pEq (.pointer (some ⟨hb0, 0, none⟩))))] (pEq (.pointer (some ⟨hb0, 0, none⟩))) true), some (Ent.mk [(71, (pEq (.pointer (some ⟨hb0, 0, none⟩))))] (pEq (.pointer (some ⟨hb0, 4, none⟩))) true), some (Ent.mk [(72, (pEq (.pointer (some ⟨hb0, 4, none⟩))))] (pEq (.slice g22.1.1 g22.1.2.1 g22.1.2.2)) true), some (Ent.mk [(2, (pEq (.pointer (some ⟨b11, 0, none⟩))))] (pEq (.int .i64 v18)) true), some (Ent.mk [(74, (pEq (.int .i64 v18)))] (pSl 1 (cK .i64) ([v18] : (List Int))) true), some (Ent.mk [(73, (pEq (.slice g22.1.1 g22.1.2.1 g22.1.2.2))), (75, (pSl 1 (cK .i64) ([v18] : (List Int))))] (pEq (.slice g26.1 x25.length g26.2)) true), some (Ent.mk [(69, (pEq (.pointer (some ⟨hb0, 0, none⟩))))] (pEq (.pointer (some ⟨hb0, 0, none⟩))) true), some (Ent.mk [(77, (pEq (.pointer (some ⟨hb0, 0, none⟩))))] (pEq (.pointer (some ⟨hb0, 4, none⟩))) true), none]) ⟨rfl, ⟨rfl, ⟨rfl, ⟨rfl, ⟨rfl, ⟨rfl, ⟨rfl, ⟨rfl, trivial⟩⟩⟩⟩⟩⟩⟩⟩ ?_
            refine RD.re (Ω2 := [oBlk hb0 [(pSl 1 (cSl 1 (cK .i64)) a_0.problem.Domains), (pSl 1 (cSl 1 (cK .i64)) a_0.problem.Apart), (pEq (.int .i64 a_0.apart)), (pEq (.int .i64 v19)), (pEq (.slice g22.1.1 g22.1.2.1 g22.1.2.2)), (pEq (.slice g22.2.1 g22.2.2.1 g22.2.2.2))], oSl 2 1 (cK .i64) g26.1 x25.length g26.2 x25, oBlk b11 [(pEq (.int .i64 v18))], oBlk b3 [(pEq (.pointer (some ⟨hb0, 0, none⟩)))], oSl 2 1 (cK .i64) g22.2.1 g22.2.2.1 g22.2.2.2 v21]) (fun h => SatO.pick 2 h) ?_
            refine RD.step hD (es := [some (Ent.mk [(1, (pEq (.pointer (some ⟨b3, 0, none⟩))))] (pEq (.pointer (some ⟨hb0, 0, none⟩))) true), some (Ent.mk [(1, (pEq (.pointer (some ⟨b3, 0, none⟩))))] (pEq (.pointer (some ⟨hb0, 0, none⟩))) true), some (Ent.mk [(70, (pEq (.pointer (some ⟨hb0, 0, none⟩))))] (pEq (.pointer (some ⟨hb0, 0, none⟩))) true), some (Ent.mk [(71, (pEq (.pointer (some ⟨hb0, 0, none⟩))))] (pEq (.pointer (some ⟨hb0, 4, none⟩))) true), some (Ent.mk [(72, (pEq (.pointer (some ⟨hb0, 4, none⟩))))] (pEq (.slice g22.1.1 g22.1.2.1 g22.1.2.2)) true), some (Ent.mk [(2, (pEq (.pointer (some ⟨b11, 0, none⟩))))] (pEq (.int .i64 v18)) true), some (Ent.mk [(74, (pEq (.int .i64 v18)))] (pSl 1 (cK .i64) ([v18] : (List Int))) true), some (Ent.mk [(73, (pEq (.slice g22.1.1 g22.1.2.1 g22.1.2.2))), (75, (pSl 1 (cK .i64) ([v18] : (List Int))))] (pEq (.slice g26.1 x25.length g26.2)) true), some (Ent.mk [(69, (pEq (.pointer (some ⟨hb0, 0, none⟩))))] (pEq (.pointer (some ⟨hb0, 0, none⟩))) true), some (Ent.mk [(77, (pEq (.pointer (some ⟨hb0, 0, none⟩))))] (pEq (.pointer (some ⟨hb0, 4, none⟩))) true), none]) (done := [1, 2, 5, 3, 6, 4, 7]) (mask := [true, true, true, true, true, true, true, true, true, true, false]) (γ := Unit) (p := fun _ => pAny) (Ω' := fun _ => [oBlk hb0 [(pSl 1 (cSl 1 (cK .i64)) a_0.problem.Domains), (pSl 1 (cSl 1 (cK .i64)) a_0.problem.Apart), (pEq (.int .i64 a_0.apart)), (pEq (.int .i64 v19)), (pEq (.slice g26.1 x25.length g26.2)), (pEq (.slice g22.2.1 g22.2.2.1 g22.2.2.2))], oSl 2 1 (cK .i64) g26.1 x25.length g26.2 x25, oBlk b11 [(pEq (.int .i64 v18))], oBlk b3 [(pEq (.pointer (some ⟨hb0, 0, none⟩)))], oSl 2 1 (cK .i64) g22.2.1 g22.2.2.1 g22.2.2.2 v21]) (es' := fun g27 => [some (Ent.mk [(1, (pEq (.pointer (some ⟨b3, 0, none⟩))))] (pEq (.pointer (some ⟨hb0, 0, none⟩))) true), some (Ent.mk [(1, (pEq (.pointer (some ⟨b3, 0, none⟩))))] (pEq (.pointer (some ⟨hb0, 0, none⟩))) true), some (Ent.mk [(70, (pEq (.pointer (some ⟨hb0, 0, none⟩))))] (pEq (.pointer (some ⟨hb0, 0, none⟩))) true), some (Ent.mk [(71, (pEq (.pointer (some ⟨hb0, 0, none⟩))))] (pEq (.pointer (some ⟨hb0, 4, none⟩))) true), some (Ent.mk [(72, (pEq (.pointer (some ⟨hb0, 4, none⟩))))] (pEq (.slice g22.1.1 g22.1.2.1 g22.1.2.2)) true), some (Ent.mk [(2, (pEq (.pointer (some ⟨b11, 0, none⟩))))] (pEq (.int .i64 v18)) true), some (Ent.mk [(74, (pEq (.int .i64 v18)))] (pSl 1 (cK .i64) ([v18] : (List Int))) true), some (Ent.mk [(73, (pEq (.slice g22.1.1 g22.1.2.1 g22.1.2.2))), (75, (pSl 1 (cK .i64) ([v18] : (List Int))))] (pEq (.slice g26.1 x25.length g26.2)) true), some (Ent.mk [(69, (pEq (.pointer (some ⟨hb0, 0, none⟩))))] (pEq (.pointer (some ⟨hb0, 0, none⟩))) true), some (Ent.mk [(77, (pEq (.pointer (some ⟨hb0, 0, none⟩))))] (pEq (.pointer (some ⟨hb0, 4, none⟩))) true), some (Ent.mk [(76, (pEq (.slice g26.1 x25.length g26.2))), (78, (pEq (.pointer (some ⟨hb0, 4, none⟩))))] ((fun _ => pAny) g27) true)]) (Γc := [(76, (pEq (.slice g26.1 x25.length g26.2))), (78, (pEq (.pointer (some ⟨hb0, 4, none⟩))))]) 10 rfl rfl rfl (by kernel_rfl) ⟨.inr ⟨(W_load (i := 3) rfl Try.isAgg116 (Opd.tmp rfl) rfl rfl), ⟨rfl, trivial⟩, rfl, rfl⟩, ⟨.inl rfl, ⟨.inl rfl, ⟨.inl rfl, ⟨.inl rfl, ⟨.inl rfl, ⟨.inl rfl, ⟨.inl rfl, ⟨.inr ⟨(OpJ.w (J_nilCheckE rfl (Opd.tmp rfl))), ⟨rfl, trivial⟩, rfl, rfl⟩, ⟨.inr ⟨(OpJ.w (J_fieldAddrE rfl Try.underlying94 rfl sz26 (by decide) (Opd.tmp rfl) rfl)), ⟨rfl, trivial⟩, rfl, rfl⟩, trivial⟩⟩⟩⟩⟩⟩⟩⟩⟩⟩ rfl rfl ⟨rfl, rfl, trivial⟩ (fun _ => M_store rfl sz26 (Opd.tmp rfl) (Opd.tmp rfl) OneC.slice rfl rfl) (fun g27 => ⟨rfl, ⟨rfl, ⟨rfl, ⟨rfl, ⟨rfl, ⟨rfl, ⟨rfl, ⟨rfl, ⟨rfl, ⟨rfl, trivial⟩⟩⟩⟩⟩⟩⟩⟩⟩⟩) (fun g27 => rfl) rfl fun g27 => ?_
            refine RD.add 10 0 rfl ?_
            refine RD.add 10 9 rfl ?_
            refine RD.add 9 8 rfl ?_
            refine RD.fin (es := [Ent.mk [(1, (pEq (.pointer (some ⟨b3, 0, none⟩))))] (pEq (.pointer (some ⟨hb0, 0, none⟩))) true, Ent.mk [(1, (pEq (.pointer (some ⟨b3, 0, none⟩))))] (pEq (.pointer (some ⟨hb0, 0, none⟩))) true, Ent.mk [(70, (pEq (.pointer (some ⟨hb0, 0, none⟩))))] (pEq (.pointer (some ⟨hb0, 0, none⟩))) true, Ent.mk [(71, (pEq (.pointer (some ⟨hb0, 0, none⟩))))] (pEq (.pointer (some ⟨hb0, 4, none⟩))) true, Ent.mk [(72, (pEq (.pointer (some ⟨hb0, 4, none⟩))))] (pEq (.slice g22.1.1 g22.1.2.1 g22.1.2.2)) true, Ent.mk [(2, (pEq (.pointer (some ⟨b11, 0, none⟩))))] (pEq (.int .i64 v18)) true, Ent.mk [(74, (pEq (.int .i64 v18)))] (pSl 1 (cK .i64) ([v18] : (List Int))) true, Ent.mk [(73, (pEq (.slice g22.1.1 g22.1.2.1 g22.1.2.2))), (75, (pSl 1 (cK .i64) ([v18] : (List Int))))] (pEq (.slice g26.1 x25.length g26.2)) true, Ent.mk [(69, (pEq (.pointer (some ⟨hb0, 0, none⟩))))] (pEq (.pointer (some ⟨hb0, 0, none⟩))) true, Ent.mk [(77, (pEq (.pointer (some ⟨hb0, 0, none⟩))))] (pEq (.pointer (some ⟨hb0, 4, none⟩))) true, Ent.mk [(76, (pEq (.slice g26.1 x25.length g26.2))), (78, (pEq (.pointer (some ⟨hb0, 4, none⟩))))] ((fun _ => pAny) g27) true]) (done := [8, 9, 0, 10, 1, 2, 5, 3, 6, 4, 7]) hD ⟨.inl rfl, ⟨.inl rfl, ⟨.inl rfl, ⟨.inl rfl, ⟨.inl rfl, ⟨.inl rfl, ⟨.inl rfl, ⟨.inl rfl, ⟨.inl rfl, ⟨.inl rfl, ⟨.inl rfl, trivial⟩⟩⟩⟩⟩⟩⟩⟩⟩⟩⟩ ?_
            refine RegL.nil ?_
            refine Ct.then_tr ?_
            refine Tr.weak (Γ' := [(1, (pEq (.pointer (some ⟨b3, 0, none⟩)))), (2, (pEq (.pointer (some ⟨b11, 0, none⟩))))]) ⟨rfl, rfl, trivial⟩ ?_
            refine Tr.seq ?_
            refine Tr.region ?_
            refine RegL.pureW (p := (pEq (.pointer (some ⟨hb0, 0, none⟩)))) rfl rfl rfl (W_load (i := 3) rfl Try.isAgg116 (Opd.tmp rfl) rfl rfl) ?_
            replace h := bind_some h; obtain ⟨x28, hx28, h⟩ := h
            refine RegL.re (Ω2 := [oSl 2 1 (cK .i64) g22.2.1 g22.2.2.1 g22.2.2.2 v21, oBlk hb0 [(pSl 1 (cSl 1 (cK .i64)) a_0.problem.Domains), (pSl 1 (cSl 1 (cK .i64)) a_0.problem.Apart), (pEq (.int .i64 a_0.apart)), (pEq (.int .i64 v19)), (pEq (.slice g26.1 x25.length g26.2)), (pEq (.slice g22.2.1 g22.2.2.1 g22.2.2.2))], oSl 2 1 (cK .i64) g26.1 x25.length g26.2 x25, oBlk b11 [(pEq (.int .i64 v18))], oBlk b3 [(pEq (.pointer (some ⟨hb0, 0, none⟩)))]]) (fun h => SatO.pick 4 h) ?_
            refine RegL.re (Ω2 := [oSl 2 1 (cK .i64) g26.1 x25.length g26.2 x25, oSl 2 1 (cK .i64) g22.2.1 g22.2.2.1 g22.2.2.2 v21, oBlk hb0 [(pSl 1 (cSl 1 (cK .i64)) a_0.problem.Domains), (pSl 1 (cSl 1 (cK .i64)) a_0.problem.Apart), (pEq (.int .i64 a_0.apart)), (pEq (.int .i64 v19)), (pEq (.slice g26.1 x25.length g26.2)), (pEq (.slice g22.2.1 g22.2.2.1 g22.2.2.2))], oBlk b11 [(pEq (.int .i64 v18))], oBlk b3 [(pEq (.pointer (some ⟨hb0, 0, none⟩)))]]) (fun h => SatO.pick 2 h) ?_
            refine RegL.re (Ω2 := [oBlk hb0 [(pSl 1 (cSl 1 (cK .i64)) a_0.problem.Domains), (pSl 1 (cSl 1 (cK .i64)) a_0.problem.Apart), (pEq (.int .i64 a_0.apart)), (pEq (.int .i64 v19)), (pEq (.slice g26.1 x25.length g26.2)), (pEq (.slice g22.2.1 g22.2.2.1 g22.2.2.2))], oSl 2 1 (cK .i64) g26.1 x25.length g26.2 x25, oSl 2 1 (cK .i64) g22.2.1 g22.2.2.1 g22.2.2.2 v21, oBlk b11 [(pEq (.int .i64 v18))], oBlk b3 [(pEq (.pointer (some ⟨hb0, 0, none⟩)))]]) (fun h => SatO.pick 2 h) ?_
            refine RegL.step (γ := (G3 × G3)) (p := fun g => (pTup [])) (Ω' := fun g => [oBlk hb0 [(pSl 1 (cSl 1 (cK .i64)) a_0.problem.Domains), (pSl 1 (cSl 1 (cK .i64)) a_0.problem.Apart), (pEq (.int .i64 a_0.apart)), (pEq (.int .i64 x28.1)), (pEq (.slice g.1.1 g.1.2.1 g.1.2.2)), (pEq (.slice g.2.1 g.2.2.1 g.2.2.2))], oSl 2 1 (cK .i64) g.1.1 g.1.2.1 g.1.2.2 x28.2.1, oSl 2 1 (cK .i64) g.2.1 g.2.2.1 g.2.2.2 x28.2.2, oBlk b11 [(pEq (.int .i64 v18))], oBlk b3 [(pEq (.pointer (some ⟨hb0, 0, none⟩)))]]) rfl rfl rfl (M_callH (Ωi := [oBlk hb0 [(pSl 1 (cSl 1 (cK .i64)) a_0.problem.Domains), (pSl 1 (cSl 1 (cK .i64)) a_0.problem.Apart), (pEq (.int .i64 a_0.apart)), (pEq (.int .i64 v19)), (pEq (.slice g26.1 x25.length g26.2)), (pEq (.slice g22.2.1 g22.2.2.1 g22.2.2.2))], oSl 2 1 (cK .i64) g26.1 x25.length g26.2 x25, oSl 2 1 (cK .i64) g22.2.1 g22.2.2.1 g22.2.2.2 v21]) rfl Try.call88 (ih hx28) (Opds.cons (Opd.tmp rfl) Opds.nil)) fun g29 => ?_
            refine RegL.nil ?_
            refine Ct.then_tr ?_
            refine Tr.weak (Γ' := [(1, (pEq (.pointer (some ⟨b3, 0, none⟩)))), (2, (pEq (.pointer (some ⟨b11, 0, none⟩))))]) ⟨rfl, rfl, trivial⟩ ?_
            refine Tr.seq ?_
            refine Tr.drawD (n := 100) (m := 15) (es := [some (Ent.mk [(1, (pEq (.pointer (some ⟨b3, 0, none⟩))))] (pEq (.pointer (some ⟨hb0, 0, none⟩))) true), some (Ent.mk [(1, (pEq (.pointer (some ⟨b3, 0, none⟩))))] (pEq (.pointer (some ⟨hb0, 0, none⟩))) true), some (Ent.mk [(82, (pEq (.pointer (some ⟨hb0, 0, none⟩))))] (pEq (.pointer (some ⟨hb0, 0, none⟩))) true), some (Ent.mk [(83, (pEq (.pointer (some ⟨hb0, 0, none⟩))))] (pEq (.pointer (some ⟨hb0, 4, none⟩))) true), some (Ent.mk [(84, (pEq (.pointer (some ⟨hb0, 4, none⟩))))] (pEq (.slice g29.1.1 g29.1.2.1 g29.1.2.2)) true), some (Ent.mk [(1, (pEq (.pointer (some ⟨b3, 0, none⟩))))] (pEq (.pointer (some ⟨hb0, 0, none⟩))) true), some (Ent.mk [(86, (pEq (.pointer (some ⟨hb0, 0, none⟩))))] (pEq (.pointer (some ⟨hb0, 0, none⟩))) true), some (Ent.mk [(87, (pEq (.pointer (some ⟨hb0, 0, none⟩))))] (pEq (.pointer (some ⟨hb0, 4, none⟩))) true), some (Ent.mk [(88, (pEq (.pointer (some ⟨hb0, 4, none⟩))))] (pEq (.slice g29.1.1 g29.1.2.1 g29.1.2.2)) true), some (Ent.mk [(89, (pEq (.slice g29.1.1 g29.1.2.1 g29.1.2.2)))] (pEq (.int .i64 (x28.2.1.length : Int))) true), some (Ent.mk [(90, (pEq (.int .i64 (x28.2.1.length : Int))))] (pEq (.int .i64 (w64 ((x28.2.1.length : Int) - (1 : Int))))) true), none, none, none, none]) (rd := [[1], [1], [82], [83], [84], [1], [86], [87], [88], [89], [90], [85, 91], [81], [93], [92, 94]]) rfl hmix (by kernel_rfl) fun hD => ?_
            replace h := bind_some h; obtain ⟨u30, hu30, h⟩ := h
            refine RD.re (Ω2 := [oSl 2 1 (cK .i64) g29.1.1 g29.1.2.1 g29.1.2.2 x28.2.1, oBlk hb0 [(pSl 1 (cSl 1 (cK .i64)) a_0.problem.Domains), (pSl 1 (cSl 1 (cK .i64)) a_0.problem.Apart), (pEq (.int .i64 a_0.apart)), (pEq (.int .i64 x28.1)), (pEq (.slice g29.1.1 g29.1.2.1 g29.1.2.2)), (pEq (.slice g29.2.1 g29.2.2.1 g29.2.2.2))], oSl 2 1 (cK .i64) g29.2.1 g29.2.2.1 g29.2.2.2 x28.2.2, oBlk b11 [(pEq (.int .i64 v18))], oBlk b3 [(pEq (.pointer (some ⟨hb0, 0, none⟩)))]]) (fun h => SatO.pick 1 h) ?_
            refine RD.step hD (es := [some (Ent.mk [(1, (pEq (.pointer (some ⟨b3, 0, none⟩))))] (pEq (.pointer (some ⟨hb0, 0, none⟩))) true), some (Ent.mk [(1, (pEq (.pointer (some ⟨b3, 0, none⟩))))] (pEq (.pointer (some ⟨hb0, 0, none⟩))) true), some (Ent.mk [(82, (pEq (.pointer (some ⟨hb0, 0, none⟩))))] (pEq (.pointer (some ⟨hb0, 0, none⟩))) true), some (Ent.mk [(83, (pEq (.pointer (some ⟨hb0, 0, none⟩))))] (pEq (.pointer (some ⟨hb0, 4, none⟩))) true), some (Ent.mk [(84, (pEq (.pointer (some ⟨hb0, 4, none⟩))))] (pEq (.slice g29.1.1 g29.1.2.1 g29.1.2.2)) true), some (Ent.mk [(1, (pEq (.pointer (some ⟨b3, 0, none⟩))))] (pEq (.pointer (some ⟨hb0, 0, none⟩))) true), some (Ent.mk [(86, (pEq (.pointer (some ⟨hb0, 0, none⟩))))] (pEq (.pointer (some ⟨hb0, 0, none⟩))) true), some (Ent.mk [(87, (pEq (.pointer (some ⟨hb0, 0, none⟩))))] (pEq (.pointer (some ⟨hb0, 4, none⟩))) true), some (Ent.mk [(88, (pEq (.pointer (some ⟨hb0, 4, none⟩))))] (pEq (.slice g29.1.1 g29.1.2.1 g29.1.2.2)) true), some (Ent.mk [(89, (pEq (.slice g29.1.1 g29.1.2.1 g29.1.2.2)))] (pEq (.int .i64 (x28.2.1.length : Int))) true), some (Ent.mk [(90, (pEq (.int .i64 (x28.2.1.length : Int))))] (pEq (.int .i64 (w64 ((x28.2.1.length : Int) - (1 : Int))))) true), none, none, none, none]) (done := []) (mask := [true, true, true, true, true, true, true, true, true, true, true, false, false, false, false]) (γ := Unit) (p := fun _ => pEq (.slice g29.1.1 ((w64 ((x28.2.1.length : Int) - (1 : Int)))).toNat g29.1.2.2)) (Ω' := fun _ => [oSl 2 1 (cK .i64) g29.1.1 ((w64 ((x28.2.1.length : Int) - (1 : Int)))).toNat g29.1.2.2 (x28.2.1.take ((w64 ((x28.2.1.length : Int) - (1 : Int)))).toNat), oBlk hb0 [(pSl 1 (cSl 1 (cK .i64)) a_0.problem.Domains), (pSl 1 (cSl 1 (cK .i64)) a_0.problem.Apart), (pEq (.int .i64 a_0.apart)), (pEq (.int .i64 x28.1)), (pEq (.slice g29.1.1 g29.1.2.1 g29.1.2.2)), (pEq (.slice g29.2.1 g29.2.2.1 g29.2.2.2))], oSl 2 1 (cK .i64) g29.2.1 g29.2.2.1 g29.2.2.2 x28.2.2, oBlk b11 [(pEq (.int .i64 v18))], oBlk b3 [(pEq (.pointer (some ⟨hb0, 0, none⟩)))]]) (es' := fun g31 => [some (Ent.mk [(1, (pEq (.pointer (some ⟨b3, 0, none⟩))))] (pEq (.pointer (some ⟨hb0, 0, none⟩))) true), some (Ent.mk [(1, (pEq (.pointer (some ⟨b3, 0, none⟩))))] (pEq (.pointer (some ⟨hb0, 0, none⟩))) true), some (Ent.mk [(82, (pEq (.pointer (some ⟨hb0, 0, none⟩))))] (pEq (.pointer (some ⟨hb0, 0, none⟩))) true), some (Ent.mk [(83, (pEq (.pointer (some ⟨hb0, 0, none⟩))))] (pEq (.pointer (some ⟨hb0, 4, none⟩))) true), some (Ent.mk [(84, (pEq (.pointer (some ⟨hb0, 4, none⟩))))] (pEq (.slice g29.1.1 g29.1.2.1 g29.1.2.2)) true), some (Ent.mk [(1, (pEq (.pointer (some ⟨b3, 0, none⟩))))] (pEq (.pointer (some ⟨hb0, 0, none⟩))) true), some (Ent.mk [(86, (pEq (.pointer (some ⟨hb0, 0, none⟩))))] (pEq (.pointer (some ⟨hb0, 0, none⟩))) true), some (Ent.mk [(87, (pEq (.pointer (some ⟨hb0, 0, none⟩))))] (pEq (.pointer (some ⟨hb0, 4, none⟩))) true), some (Ent.mk [(88, (pEq (.pointer (some ⟨hb0, 4, none⟩))))] (pEq (.slice g29.1.1 g29.1.2.1 g29.1.2.2)) true), some (Ent.mk [(89, (pEq (.slice g29.1.1 g29.1.2.1 g29.1.2.2)))] (pEq (.int .i64 (x28.2.1.length : Int))) true), some (Ent.mk [(90, (pEq (.int .i64 (x28.2.1.length : Int))))] (pEq (.int .i64 (w64 ((x28.2.1.length : Int) - (1 : Int))))) true), some (Ent.mk [(85, (pEq (.slice g29.1.1 g29.1.2.1 g29.1.2.2))), (91, (pEq (.int .i64 (w64 ((x28.2.1.length : Int) - (1 : Int))))))] (pEq (.slice g29.1.1 ((w64 ((x28.2.1.length : Int) - (1 : Int)))).toNat g29.1.2.2)) true), none, none, none]) (Γc := [(85, (pEq (.slice g29.1.1 g29.1.2.1 g29.1.2.2))), (91, (pEq (.int .i64 (w64 ((x28.2.1.length : Int) - (1 : Int))))))]) 11 rfl rfl rfl (by kernel_rfl) ⟨.inr ⟨(W_load (i := 4) rfl Try.isAgg116 (Opd.tmp rfl) rfl rfl), ⟨rfl, trivial⟩, rfl, rfl⟩, ⟨.inr ⟨(W_load (i := 4) rfl Try.isAgg116 (Opd.tmp rfl) rfl rfl), ⟨rfl, trivial⟩, rfl, rfl⟩, ⟨.inr ⟨(OpJ.w (J_nilCheckE rfl (Opd.tmp rfl))), ⟨rfl, trivial⟩, rfl, rfl⟩, ⟨.inr ⟨(OpJ.w (J_fieldAddrE rfl Try.underlying94 rfl sz26 (by decide) (Opd.tmp rfl) rfl)), ⟨rfl, trivial⟩, rfl, rfl⟩, ⟨.inr ⟨(W_load (i := 1) rfl Try.isAgg26 (Opd.tmp rfl) rfl rfl), ⟨rfl, trivial⟩, rfl, rfl⟩, ⟨.inr ⟨(W_load (i := 4) rfl Try.isAgg116 (Opd.tmp rfl) rfl rfl), ⟨rfl, trivial⟩, rfl, rfl⟩, ⟨.inr ⟨(OpJ.w (J_nilCheckE rfl (Opd.tmp rfl))), ⟨rfl, trivial⟩, rfl, rfl⟩, ⟨.inr ⟨(OpJ.w (J_fieldAddrE rfl Try.underlying94 rfl sz26 (by decide) (Opd.tmp rfl) rfl)), ⟨rfl, trivial⟩, rfl, rfl⟩, ⟨.inr ⟨(W_load (i := 1) rfl Try.isAgg26 (Opd.tmp rfl) rfl rfl), ⟨rfl, trivial⟩, rfl, rfl⟩, ⟨.inr ⟨(W_rowLen (j := 0) rfl Try.underlying26 (Opd.tmp rfl) rfl), ⟨rfl, trivial⟩, rfl, rfl⟩, ⟨.inr ⟨(OpJ.w (J_bin rfl (Opd.tmp rfl) Opd.con B_sub)), ⟨rfl, trivial⟩, rfl, rfl⟩, trivial⟩⟩⟩⟩⟩⟩⟩⟩⟩⟩⟩ rfl rfl ⟨rfl, rfl, trivial⟩ (fun _ => M_rowCut rfl Try.underlying26 sz2 (Opd.tmp rfl) SOpd.none (SOpd.some (Opd.tmp rfl)) hu30) (fun g31 => ⟨rfl, ⟨rfl, ⟨rfl, ⟨rfl, ⟨rfl, ⟨rfl, ⟨rfl, ⟨rfl, ⟨rfl, ⟨rfl, ⟨rfl, trivial⟩⟩⟩⟩⟩⟩⟩⟩⟩⟩⟩) (fun g31 => rfl) rfl fun g31 => ?_
            refine RD.add 11 4 rfl ?_
            refine RD.add 11 10 rfl ?_
            refine RD.add 4 3 rfl ?_
            refine RD.add 10 9 rfl ?_
            refine RD.add 3 2 rfl ?_
            refine RD.add 9 8 rfl ?_
            refine RD.add 2 1 rfl ?_
            refine RD.add 8 7 rfl ?_
            refine RD.add 7 6 rfl ?_
            refine RD.add 6 5 rfl ?_
            refine RD.ext (es' := [some (Ent.mk [(1, (pEq (.pointer (some ⟨b3, 0, none⟩))))] (pEq (.pointer (some ⟨hb0, 0, none⟩))) true), some (Ent.mk [(1, (pEq (.pointer (some ⟨b3, 0, none⟩))))] (pEq (.pointer (some ⟨hb0, 0, none⟩))) true), some (Ent.mk [(82, (pEq (.pointer (some ⟨hb0, 0, none⟩))))] (pEq (.pointer (some ⟨hb0, 0, none⟩))) true), some (Ent.mk [(83, (pEq (.pointer (some ⟨hb0, 0, none⟩))))] (pEq (.pointer (some ⟨hb0, 4, none⟩))) true), some (Ent.mk [(84, (pEq (.pointer (some ⟨hb0, 4, none⟩))))] (pEq (.slice g29.1.1 g29.1.2.1 g29.1.2.2)) true), some (Ent.mk [(1, (pEq (.pointer (some ⟨b3, 0, none⟩))))] (pEq (.pointer (some ⟨hb0, 0, none⟩))) true), some (Ent.mk [(86, (pEq (.pointer (some ⟨hb0, 0, none⟩))))] (pEq (.pointer (some ⟨hb0, 0, none⟩))) true), some (Ent.mk [(87, (pEq (.pointer (some ⟨hb0, 0, none⟩))))] (pEq (.pointer (some ⟨hb0, 4, none⟩))) true), some (Ent.mk [(88, (pEq (.pointer (some ⟨hb0, 4, none⟩))))] (pEq (.slice g29.1.1 g29.1.2.1 g29.1.2.2)) true), some (Ent.mk [(89, (pEq (.slice g29.1.1 g29.1.2.1 g29.1.2.2)))] (pEq (.int .i64 (x28.2.1.length : Int))) true), some (Ent.mk [(90, (pEq (.int .i64 (x28.2.1.length : Int))))] (pEq (.int .i64 (w64 ((x28.2.1.length : Int) - (1 : Int))))) true), some (Ent.mk [(85, (pEq (.slice g29.1.1 g29.1.2.1 g29.1.2.2))), (91, (pEq (.int .i64 (w64 ((x28.2.1.length : Int) - (1 : Int))))))] (pEq (.slice g29.1.1 ((w64 ((x28.2.1.length : Int) - (1 : Int)))).toNat g29.1.2.2)) true), some (Ent.mk [(81, (pEq (.pointer (some ⟨hb0, 0, none⟩))))] (pEq (.pointer (some ⟨hb0, 0, none⟩))) true), some (Ent.mk [(93, (pEq (.pointer (some ⟨hb0, 0, none⟩))))] (pEq (.pointer (some ⟨hb0, 4, none⟩))) true), none]) ⟨rfl, ⟨rfl, ⟨rfl, ⟨rfl, ⟨rfl, ⟨rfl, ⟨rfl, ⟨rfl, ⟨rfl, ⟨rfl, ⟨rfl, ⟨rfl, trivial⟩⟩⟩⟩⟩⟩⟩⟩⟩⟩⟩⟩ ?_
            refine RD.re (Ω2 := [oBlk hb0 [(pSl 1 (cSl 1 (cK .i64)) a_0.problem.Domains), (pSl 1 (cSl 1 (cK .i64)) a_0.problem.Apart), (pEq (.int .i64 a_0.apart)), (pEq (.int .i64 x28.1)), (pEq (.slice g29.1.1 g29.1.2.1 g29.1.2.2)), (pEq (.slice g29.2.1 g29.2.2.1 g29.2.2.2))], oSl 2 1 (cK .i64) g29.1.1 ((w64 ((x28.2.1.length : Int) - (1 : Int)))).toNat g29.1.2.2 (x28.2.1.take ((w64 ((x28.2.1.length : Int) - (1 : Int)))).toNat), oSl 2 1 (cK .i64) g29.2.1 g29.2.2.1 g29.2.2.2 x28.2.2, oBlk b11 [(pEq (.int .i64 v18))], oBlk b3 [(pEq (.pointer (some ⟨hb0, 0, none⟩)))]]) (fun h => SatO.pick 1 h) ?_
            refine RD.step hD (es := [some (Ent.mk [(1, (pEq (.pointer (some ⟨b3, 0, none⟩))))] (pEq (.pointer (some ⟨hb0, 0, none⟩))) true), some (Ent.mk [(1, (pEq (.pointer (some ⟨b3, 0, none⟩))))] (pEq (.pointer (some ⟨hb0, 0, none⟩))) true), some (Ent.mk [(82, (pEq (.pointer (some ⟨hb0, 0, none⟩))))] (pEq (.pointer (some ⟨hb0, 0, none⟩))) true), some (Ent.mk [(83, (pEq (.pointer (some ⟨hb0, 0, none⟩))))] (pEq (.pointer (some ⟨hb0, 4, none⟩))) true), some (Ent.mk [(84, (pEq (.pointer (some ⟨hb0, 4, none⟩))))] (pEq (.slice g29.1.1 g29.1.2.1 g29.1.2.2)) true), some (Ent.mk [(1, (pEq (.pointer (some ⟨b3, 0, none⟩))))] (pEq (.pointer (some ⟨hb0, 0, none⟩))) true), some (Ent.mk [(86, (pEq (.pointer (some ⟨hb0, 0, none⟩))))] (pEq (.pointer (some ⟨hb0, 0, none⟩))) true), some (Ent.mk [(87, (pEq (.pointer (some ⟨hb0, 0, none⟩))))] (pEq (.pointer (some ⟨hb0, 4, none⟩))) true), some (Ent.mk [(88, (pEq (.pointer (some ⟨hb0, 4, none⟩))))] (pEq (.slice g29.1.1 g29.1.2.1 g29.1.2.2)) true), some (Ent.mk [(89, (pEq (.slice g29.1.1 g29.1.2.1 g29.1.2.2)))] (pEq (.int .i64 (x28.2.1.length : Int))) true), some (Ent.mk [(90, (pEq (.int .i64 (x28.2.1.length : Int))))] (pEq (.int .i64 (w64 ((x28.2.1.length : Int) - (1 : Int))))) true), some (Ent.mk [(85, (pEq (.slice g29.1.1 g29.1.2.1 g29.1.2.2))), (91, (pEq (.int .i64 (w64 ((x28.2.1.length : Int) - (1 : Int))))))] (pEq (.slice g29.1.1 ((w64 ((x28.2.1.length : Int) - (1 : Int)))).toNat g29.1.2.2)) true), some (Ent.mk [(81, (pEq (.pointer (some ⟨hb0, 0, none⟩))))] (pEq (.pointer (some ⟨hb0, 0, none⟩))) true), some (Ent.mk [(93, (pEq (.pointer (some ⟨hb0, 0, none⟩))))] (pEq (.pointer (some ⟨hb0, 4, none⟩))) true), none]) (done := [5, 6, 7, 1, 8, 2, 9, 3, 10, 4, 11]) (mask := [true, true, true, true, true, true, true, true, true, true, true, true, true, true, false]) (γ := Unit) (p := fun _ => pAny) (Ω' := fun _ => [oBlk hb0 [(pSl 1 (cSl 1 (cK .i64)) a_0.problem.Domains), (pSl 1 (cSl 1 (cK .i64)) a_0.problem.Apart), (pEq (.int .i64 a_0.apart)), (pEq (.int .i64 x28.1)), (pEq (.slice g29.1.1 ((w64 ((x28.2.1.length : Int) - (1 : Int)))).toNat g29.1.2.2)), (pEq (.slice g29.2.1 g29.2.2.1 g29.2.2.2))], oSl 2 1 (cK .i64) g29.1.1 ((w64 ((x28.2.1.length : Int) - (1 : Int)))).toNat g29.1.2.2 (x28.2.1.take ((w64 ((x28.2.1.length : Int) - (1 : Int)))).toNat), oSl 2 1 (cK .i64) g29.2.1 g29.2.2.1 g29.2.2.2 x28.2.2, oBlk b11 [(pEq (.int .i64 v18))], oBlk b3 [(pEq (.pointer (some ⟨hb0, 0, none⟩)))]]) (es' := fun g32 => [some (Ent.mk [(1, (pEq (.pointer (some ⟨b3, 0, none⟩))))] (pEq (.pointer (some ⟨hb0, 0, none⟩))) true), some (Ent.mk [(1, (pEq (.pointer (some ⟨b3, 0, none⟩))))] (pEq (.pointer (some ⟨hb0, 0, none⟩))) true), some (Ent.mk [(82, (pEq (.pointer (some ⟨hb0, 0, none⟩))))] (pEq (.pointer (some ⟨hb0, 0, none⟩))) true), some (Ent.mk [(83, (pEq (.pointer (some ⟨hb0, 0, none⟩))))] (pEq (.pointer (some ⟨hb0, 4, none⟩))) true), some (Ent.mk [(84, (pEq (.pointer (some ⟨hb0, 4, none⟩))))] (pEq (.slice g29.1.1 g29.1.2.1 g29.1.2.2)) true), some (Ent.mk [(1, (pEq (.pointer (some ⟨b3, 0, none⟩))))] (pEq (.pointer (some ⟨hb0, 0, none⟩))) true), some (Ent.mk [(86, (pEq (.pointer (some ⟨hb0, 0, none⟩))))] (pEq (.pointer (some ⟨hb0, 0, none⟩))) true), some (Ent.mk [(87, (pEq (.pointer (some ⟨hb0, 0, none⟩))))] (pEq (.pointer (some ⟨hb0, 4, none⟩))) true), some (Ent.mk [(88, (pEq (.pointer (some ⟨hb0, 4, none⟩))))] (pEq (.slice g29.1.1 g29.1.2.1 g29.1.2.2)) true), some (Ent.mk [(89, (pEq (.slice g29.1.1 g29.1.2.1 g29.1.2.2)))] (pEq (.int .i64 (x28.2.1.length : Int))) true), some (Ent.mk [(90, (pEq (.int .i64 (x28.2.1.length : Int))))] (pEq (.int .i64 (w64 ((x28.2.1.length : Int) - (1 : Int))))) true), some (Ent.mk [(85, (pEq (.slice g29.1.1 g29.1.2.1 g29.1.2.2))), (91, (pEq (.int .i64 (w64 ((x28.2.1.length : Int) - (1 : Int))))))] (pEq (.slice g29.1.1 ((w64 ((x28.2.1.length : Int) - (1 : Int)))).toNat g29.1.2.2)) true), some (Ent.mk [(81, (pEq (.pointer (some ⟨hb0, 0, none⟩))))] (pEq (.pointer (some ⟨hb0, 0, none⟩))) true), some (Ent.mk [(93, (pEq (.pointer (some ⟨hb0, 0, none⟩))))] (pEq (.pointer (some ⟨hb0, 4, none⟩))) true), some (Ent.mk [(92, (pEq (.slice g29.1.1 ((w64 ((x28.2.1.length : Int) - (1 : Int)))).toNat g29.1.2.2))), (94, (pEq (.pointer (some ⟨hb0, 4, none⟩))))] ((fun _ => pAny) g32) true)]) (Γc := [(92, (pEq (.slice g29.1.1 ((w64 ((x28.2.1.length : Int) - (1 : Int)))).toNat g29.1.2.2))), (94, (pEq (.pointer (some ⟨hb0, 4, none⟩))))]) 14 rfl rfl rfl (by kernel_rfl) ⟨.inr ⟨(W_load (i := 4) rfl Try.isAgg116 (Opd.tmp rfl) rfl rfl), ⟨rfl, trivial⟩, rfl, rfl⟩, ⟨.inl rfl, ⟨.inl rfl, ⟨.inl rfl, ⟨.inl rfl, ⟨.inl rfl, ⟨.inl rfl, ⟨.inl rfl, ⟨.inl rfl, ⟨.inl rfl, ⟨.inl rfl, ⟨.inl rfl, ⟨.inr ⟨(OpJ.w (J_nilCheckE rfl (Opd.tmp rfl))), ⟨rfl, trivial⟩, rfl, rfl⟩, ⟨.inr ⟨(OpJ.w (J_fieldAddrE rfl Try.underlying94 rfl sz26 (by decide) (Opd.tmp rfl) rfl)), ⟨rfl, trivial⟩, rfl, rfl⟩, trivial⟩⟩⟩⟩⟩⟩⟩⟩⟩⟩⟩⟩⟩⟩ rfl rfl ⟨rfl, rfl, trivial⟩ (fun _ => M_store rfl sz26 (Opd.tmp rfl) (Opd.tmp rfl) OneC.slice rfl rfl) (fun g32 => ⟨rfl, ⟨rfl, ⟨rfl, ⟨rfl, ⟨rfl, ⟨rfl, ⟨rfl, ⟨rfl, ⟨rfl, ⟨rfl, ⟨rfl, ⟨rfl, ⟨rfl, ⟨rfl, trivial⟩⟩⟩⟩⟩⟩⟩⟩⟩⟩⟩⟩⟩⟩) (fun g32 => rfl) rfl fun g32 => ?_
            refine RD.add 14 0 rfl ?_
            refine RD.add 14 13 rfl ?_
            refine RD.add 13 12 rfl ?_
            refine RD.fin (es := [Ent.mk [(1, (pEq (.pointer (some ⟨b3, 0, none⟩))))] (pEq (.pointer (some ⟨hb0, 0, none⟩))) true, Ent.mk [(1, (pEq (.pointer (some ⟨b3, 0, none⟩))))] (pEq (.pointer (some ⟨hb0, 0, none⟩))) true, Ent.mk [(82, (pEq (.pointer (some ⟨hb0, 0, none⟩))))] (pEq (.pointer (some ⟨hb0, 0, none⟩))) true, Ent.mk [(83, (pEq (.pointer (some ⟨hb0, 0, none⟩))))] (pEq (.pointer (some ⟨hb0, 4, none⟩))) true, Ent.mk [(84, (pEq (.pointer (some ⟨hb0, 4, none⟩))))] (pEq (.slice g29.1.1 g29.1.2.1 g29.1.2.2)) true, Ent.mk [(1, (pEq (.pointer (some ⟨b3, 0, none⟩))))] (pEq (.pointer (some ⟨hb0, 0, none⟩))) true, Ent.mk [(86, (pEq (.pointer (some ⟨hb0, 0, none⟩))))] (pEq (.pointer (some ⟨hb0, 0, none⟩))) true, Ent.mk [(87, (pEq (.pointer (some ⟨hb0, 0, none⟩))))] (pEq (.pointer (some ⟨hb0, 4, none⟩))) true, Ent.mk [(88, (pEq (.pointer (some ⟨hb0, 4, none⟩))))] (pEq (.slice g29.1.1 g29.1.2.1 g29.1.2.2)) true, Ent.mk [(89, (pEq (.slice g29.1.1 g29.1.2.1 g29.1.2.2)))] (pEq (.int .i64 (x28.2.1.length : Int))) true, Ent.mk [(90, (pEq (.int .i64 (x28.2.1.length : Int))))] (pEq (.int .i64 (w64 ((x28.2.1.length : Int) - (1 : Int))))) true, Ent.mk [(85, (pEq (.slice g29.1.1 g29.1.2.1 g29.1.2.2))), (91, (pEq (.int .i64 (w64 ((x28.2.1.length : Int) - (1 : Int))))))] (pEq (.slice g29.1.1 ((w64 ((x28.2.1.length : Int) - (1 : Int)))).toNat g29.1.2.2)) true, Ent.mk [(81, (pEq (.pointer (some ⟨hb0, 0, none⟩))))] (pEq (.pointer (some ⟨hb0, 0, none⟩))) true, Ent.mk [(93, (pEq (.pointer (some ⟨hb0, 0, none⟩))))] (pEq (.pointer (some ⟨hb0, 4, none⟩))) true, Ent.mk [(92, (pEq (.slice g29.1.1 ((w64 ((x28.2.1.length : Int) - (1 : Int)))).toNat g29.1.2.2))), (94, (pEq (.pointer (some ⟨hb0, 4, none⟩))))] ((fun _ => pAny) g32) true]) (done := [12, 13, 0, 14, 5, 6, 7, 1, 8, 2, 9, 3, 10, 4, 11]) hD ⟨.inl rfl, ⟨.inl rfl, ⟨.inl rfl, ⟨.inl rfl, ⟨.inl rfl, ⟨.inl rfl, ⟨.inl rfl, ⟨.inl rfl, ⟨.inl rfl, ⟨.inl rfl, ⟨.inl rfl, ⟨.inl rfl, ⟨.inl rfl, ⟨.inl rfl, ⟨.inl rfl, trivial⟩⟩⟩⟩⟩⟩⟩⟩⟩⟩⟩⟩⟩⟩⟩ ?_
            refine RegL.nil ?_
            refine Ct.then_tr ?_
            refine Tr.weak (Γ' := [(1, (pEq (.pointer (some ⟨b3, 0, none⟩)))), (2, (pEq (.pointer (some ⟨b11, 0, none⟩))))]) ⟨rfl, rfl, trivial⟩ ?_
            refine Tr.seq ?_
            refine Tr.region ?_
            refine RegL.pureW (p := (pEq (.pointer (some ⟨hb0, 0, none⟩)))) rfl rfl rfl (W_load (i := 4) rfl Try.isAgg116 (Opd.tmp rfl) rfl rfl) ?_
            refine RegL.pure (p := (pEq (.pointer (some ⟨hb0, 0, none⟩)))) rfl rfl rfl (J_nilCheckE rfl (Opd.tmp rfl)) ?_
            refine RegL.pure (p := (pEq (.pointer (some ⟨hb0, 3, none⟩)))) rfl rfl rfl (J_fieldAddrE rfl Try.underlying94 rfl sz2 (by decide) (Opd.tmp rfl) rfl) ?_
            refine RegL.pureW (p := (pEq (.int .i64 x28.1))) rfl rfl rfl (W_load (i := 0) rfl Try.isAgg2 (Opd.tmp rfl) rfl rfl) ?_
            refine RegL.pure (p := (pEq (.bool (decide (x28.1 < (0 : Int)))))) rfl rfl rfl (J_bin rfl (Opd.tmp rfl) Opd.con B_lss) ?_
            refine RegL.nil ?_
            refine Ct.then_tr ?_
            refine Tr.weak (Γ' := [(1, (pEq (.pointer (some ⟨b3, 0, none⟩)))), (2, (pEq (.pointer (some ⟨b11, 0, none⟩)))), (99, (pEq (.bool (decide (x28.1 < (0 : Int))))))]) ⟨rfl, rfl, rfl, trivial⟩ ?_
            refine Tr.cond (Opd.tmp rfl) (fun hc => ?_) (fun hc => ?_)
            · replace h := bif_t hc h
              refine Tr.ret ?_
              refine Ct.blk_ret ?_
              refine Ct.then_ret ?_
              replace h := map_some h; obtain ⟨r1, h, rfl⟩ := h
              refine Ct.out_ret fun e => ?_
              subst e
              refine Ct.blk_ret ?_
              refine Ct.re (Ω2 := [oSl 2 1 (cK .i64) g29.2.1 g29.2.2.1 g29.2.2.2 x28.2.2, oBlk hb0 [(pSl 1 (cSl 1 (cK .i64)) a_0.problem.Domains), (pSl 1 (cSl 1 (cK .i64)) a_0.problem.Apart), (pEq (.int .i64 a_0.apart)), (pEq (.int .i64 x28.1)), (pEq (.slice g29.1.1 ((w64 ((x28.2.1.length : Int) - (1 : Int)))).toNat g29.1.2.2)), (pEq (.slice g29.2.1 g29.2.2.1 g29.2.2.2))], oSl 2 1 (cK .i64) g29.1.1 ((w64 ((x28.2.1.length : Int) - (1 : Int)))).toNat g29.1.2.2 (x28.2.1.take ((w64 ((x28.2.1.length : Int) - (1 : Int)))).toNat), oBlk b11 [(pEq (.int .i64 v18))], oBlk b3 [(pEq (.pointer (some ⟨hb0, 0, none⟩)))]]) (fun h => SatO.pick 2 h) ?_
              refine Ct.re (Ω2 := [oSl 2 1 (cK .i64) g29.1.1 ((w64 ((x28.2.1.length : Int) - (1 : Int)))).toNat g29.1.2.2 (x28.2.1.take ((w64 ((x28.2.1.length : Int) - (1 : Int)))).toNat), oSl 2 1 (cK .i64) g29.2.1 g29.2.2.1 g29.2.2.2 x28.2.2, oBlk hb0 [(pSl 1 (cSl 1 (cK .i64)) a_0.problem.Domains), (pSl 1 (cSl 1 (cK .i64)) a_0.problem.Apart), (pEq (.int .i64 a_0.apart)), (pEq (.int .i64 x28.1)), (pEq (.slice g29.1.1 ((w64 ((x28.2.1.length : Int) - (1 : Int)))).toNat g29.1.2.2)), (pEq (.slice g29.2.1 g29.2.2.1 g29.2.2.2))], oBlk b11 [(pEq (.int .i64 v18))], oBlk b3 [(pEq (.pointer (some ⟨hb0, 0, none⟩)))]]) (fun h => SatO.pick 2 h) ?_
              refine Ct.re (Ω2 := [oBlk hb0 [(pSl 1 (cSl 1 (cK .i64)) a_0.problem.Domains), (pSl 1 (cSl 1 (cK .i64)) a_0.problem.Apart), (pEq (.int .i64 a_0.apart)), (pEq (.int .i64 x28.1)), (pEq (.slice g29.1.1 ((w64 ((x28.2.1.length : Int) - (1 : Int)))).toNat g29.1.2.2)), (pEq (.slice g29.2.1 g29.2.2.1 g29.2.2.2))], oSl 2 1 (cK .i64) g29.1.1 ((w64 ((x28.2.1.length : Int) - (1 : Int)))).toNat g29.1.2.2 (x28.2.1.take ((w64 ((x28.2.1.length : Int) - (1 : Int)))).toNat), oSl 2 1 (cK .i64) g29.2.1 g29.2.2.1 g29.2.2.2 x28.2.2, oBlk b11 [(pEq (.int .i64 v18))], oBlk b3 [(pEq (.pointer (some ⟨hb0, 0, none⟩)))]]) (fun h => SatO.pick 2 h) ?_
              refine Ct.re (Ω2 := [oBlk b3 [(pEq (.pointer (some ⟨hb0, 0, none⟩)))], oBlk hb0 [(pSl 1 (cSl 1 (cK .i64)) a_0.problem.Domains), (pSl 1 (cSl 1 (cK .i64)) a_0.problem.Apart), (pEq (.int .i64 a_0.apart)), (pEq (.int .i64 x28.1)), (pEq (.slice g29.1.1 ((w64 ((x28.2.1.length : Int) - (1 : Int)))).toNat g29.1.2.2)), (pEq (.slice g29.2.1 g29.2.2.1 g29.2.2.2))], oSl 2 1 (cK .i64) g29.1.1 ((w64 ((x28.2.1.length : Int) - (1 : Int)))).toNat g29.1.2.2 (x28.2.1.take ((w64 ((x28.2.1.length : Int) - (1 : Int)))).toNat), oSl 2 1 (cK .i64) g29.2.1 g29.2.2.1 g29.2.2.2 x28.2.2, oBlk b11 [(pEq (.int .i64 v18))]]) (fun h => SatO.pick 4 h) ?_
              refine Ct.re (Ω2 := [oBlk b11 [(pEq (.int .i64 v18))], oBlk b3 [(pEq (.pointer (some ⟨hb0, 0, none⟩)))], oBlk hb0 [(pSl 1 (cSl 1 (cK .i64)) a_0.problem.Domains), (pSl 1 (cSl 1 (cK .i64)) a_0.problem.Apart), (pEq (.int .i64 a_0.apart)), (pEq (.int .i64 x28.1)), (pEq (.slice g29.1.1 ((w64 ((x28.2.1.length : Int) - (1 : Int)))).toNat g29.1.2.2)), (pEq (.slice g29.2.1 g29.2.2.1 g29.2.2.2))], oSl 2 1 (cK .i64) g29.1.1 ((w64 ((x28.2.1.length : Int) - (1 : Int)))).toNat g29.1.2.2 (x28.2.1.take ((w64 ((x28.2.1.length : Int) - (1 : Int)))).toNat), oSl 2 1 (cK .i64) g29.2.1 g29.2.2.1 g29.2.2.2 x28.2.2]) (fun h => SatO.pick 4 h) ?_
              replace h := Option.some.inj h; subst h
              exact Ct.retH0 (Ωx := [oBlk b11 [(pEq (.int .i64 v18))], oBlk b3 [(pEq (.pointer (some ⟨hb0, 0, none⟩)))]]) ((g29.1.1, ((w64 ((x28.2.1.length : Int) - (1 : Int)))).toNat, g29.1.2.2), (g29.2.1, g29.2.2.1, g29.2.2.2)) rfl rfl rfl
            · replace h := bif_f hc h
              refine Tr.skip ?_
              refine Ct.blk_normal ?_
              refine Ct.then_tr ?_
              refine Tr.weak (Γ' := [(1, (pEq (.pointer (some ⟨b3, 0, none⟩)))), (2, (pEq (.pointer (some ⟨b11, 0, none⟩))))]) ⟨rfl, rfl, trivial⟩ ?_
              refine Tr.region ?_
              refine RegL.pureW (p := (pEq (.int .i64 v18))) rfl rfl rfl (W_load (i := 3) rfl Try.isAgg2 (Opd.tmp rfl) rfl rfl) ?_
              refine RegL.pure (p := (pEq (.int .i64 (w64 (v18 + (1 : Int)))))) rfl rfl rfl (J_bin rfl (Opd.tmp rfl) Opd.con B_add) ?_
              refine RegL.re (Ω2 := [oBlk b11 [(pEq (.int .i64 v18))], oBlk hb0 [(pSl 1 (cSl 1 (cK .i64)) a_0.problem.Domains), (pSl 1 (cSl 1 (cK .i64)) a_0.problem.Apart), (pEq (.int .i64 a_0.apart)), (pEq (.int .i64 x28.1)), (pEq (.slice g29.1.1 ((w64 ((x28.2.1.length : Int) - (1 : Int)))).toNat g29.1.2.2)), (pEq (.slice g29.2.1 g29.2.2.1 g29.2.2.2))], oSl 2 1 (cK .i64) g29.1.1 ((w64 ((x28.2.1.length : Int) - (1 : Int)))).toNat g29.1.2.2 (x28.2.1.take ((w64 ((x28.2.1.length : Int) - (1 : Int)))).toNat), oSl 2 1 (cK .i64) g29.2.1 g29.2.2.1 g29.2.2.2 x28.2.2, oBlk b3 [(pEq (.pointer (some ⟨hb0, 0, none⟩)))]]) (fun h => SatO.pick 3 h) ?_
              refine RegL.stepN (γ := Unit) (p := fun _ => pAny) (Ω' := fun _ => [oBlk b11 [(pEq (.int .i64 (w64 (v18 + (1 : Int)))))], oBlk hb0 [(pSl 1 (cSl 1 (cK .i64)) a_0.problem.Domains), (pSl 1 (cSl 1 (cK .i64)) a_0.problem.Apart), (pEq (.int .i64 a_0.apart)), (pEq (.int .i64 x28.1)), (pEq (.slice g29.1.1 ((w64 ((x28.2.1.length : Int) - (1 : Int)))).toNat g29.1.2.2)), (pEq (.slice g29.2.1 g29.2.2.1 g29.2.2.2))], oSl 2 1 (cK .i64) g29.1.1 ((w64 ((x28.2.1.length : Int) - (1 : Int)))).toNat g29.1.2.2 (x28.2.1.take ((w64 ((x28.2.1.length : Int) - (1 : Int)))).toNat), oSl 2 1 (cK .i64) g29.2.1 g29.2.2.1 g29.2.2.2 x28.2.2, oBlk b3 [(pEq (.pointer (some ⟨hb0, 0, none⟩)))]]) rfl rfl (M_store rfl sz2 (Opd.tmp rfl) (Opd.tmp rfl) OneC.int rfl rfl) fun g33 => ?_
              refine RegL.nil ?_
              refine Ct.re (Ω2 := [oSl 2 1 (cK .i64) g29.2.1 g29.2.2.1 g29.2.2.2 x28.2.2, oBlk b11 [(pEq (.int .i64 (w64 (v18 + (1 : Int)))))], oBlk hb0 [(pSl 1 (cSl 1 (cK .i64)) a_0.problem.Domains), (pSl 1 (cSl 1 (cK .i64)) a_0.problem.Apart), (pEq (.int .i64 a_0.apart)), (pEq (.int .i64 x28.1)), (pEq (.slice g29.1.1 ((w64 ((x28.2.1.length : Int) - (1 : Int)))).toNat g29.1.2.2)), (pEq (.slice g29.2.1 g29.2.2.1 g29.2.2.2))], oSl 2 1 (cK .i64) g29.1.1 ((w64 ((x28.2.1.length : Int) - (1 : Int)))).toNat g29.1.2.2 (x28.2.1.take ((w64 ((x28.2.1.length : Int) - (1 : Int)))).toNat), oBlk b3 [(pEq (.pointer (some ⟨hb0, 0, none⟩)))]]) (fun h => SatO.pick 3 h) ?_
              refine Ct.re (Ω2 := [oSl 2 1 (cK .i64) g29.1.1 ((w64 ((x28.2.1.length : Int) - (1 : Int)))).toNat g29.1.2.2 (x28.2.1.take ((w64 ((x28.2.1.length : Int) - (1 : Int)))).toNat), oSl 2 1 (cK .i64) g29.2.1 g29.2.2.1 g29.2.2.2 x28.2.2, oBlk b11 [(pEq (.int .i64 (w64 (v18 + (1 : Int)))))], oBlk hb0 [(pSl 1 (cSl 1 (cK .i64)) a_0.problem.Domains), (pSl 1 (cSl 1 (cK .i64)) a_0.problem.Apart), (pEq (.int .i64 a_0.apart)), (pEq (.int .i64 x28.1)), (pEq (.slice g29.1.1 ((w64 ((x28.2.1.length : Int) - (1 : Int)))).toNat g29.1.2.2)), (pEq (.slice g29.2.1 g29.2.2.1 g29.2.2.2))], oBlk b3 [(pEq (.pointer (some ⟨hb0, 0, none⟩)))]]) (fun h => SatO.pick 3 h) ?_
              refine Ct.re (Ω2 := [oBlk b3 [(pEq (.pointer (some ⟨hb0, 0, none⟩)))], oSl 2 1 (cK .i64) g29.1.1 ((w64 ((x28.2.1.length : Int) - (1 : Int)))).toNat g29.1.2.2 (x28.2.1.take ((w64 ((x28.2.1.length : Int) - (1 : Int)))).toNat), oSl 2 1 (cK .i64) g29.2.1 g29.2.2.1 g29.2.2.2 x28.2.2, oBlk b11 [(pEq (.int .i64 (w64 (v18 + (1 : Int)))))], oBlk hb0 [(pSl 1 (cSl 1 (cK .i64)) a_0.problem.Domains), (pSl 1 (cSl 1 (cK .i64)) a_0.problem.Apart), (pEq (.int .i64 a_0.apart)), (pEq (.int .i64 x28.1)), (pEq (.slice g29.1.1 ((w64 ((x28.2.1.length : Int) - (1 : Int)))).toNat g29.1.2.2)), (pEq (.slice g29.2.1 g29.2.2.1 g29.2.2.2))]]) (fun h => SatO.pick 4 h) ?_
              refine Ct.re (Ω2 := [oBlk hb0 [(pSl 1 (cSl 1 (cK .i64)) a_0.problem.Domains), (pSl 1 (cSl 1 (cK .i64)) a_0.problem.Apart), (pEq (.int .i64 a_0.apart)), (pEq (.int .i64 x28.1)), (pEq (.slice g29.1.1 ((w64 ((x28.2.1.length : Int) - (1 : Int)))).toNat g29.1.2.2)), (pEq (.slice g29.2.1 g29.2.2.1 g29.2.2.2))], oBlk b3 [(pEq (.pointer (some ⟨hb0, 0, none⟩)))], oSl 2 1 (cK .i64) g29.1.1 ((w64 ((x28.2.1.length : Int) - (1 : Int)))).toNat g29.1.2.2 (x28.2.1.take ((w64 ((x28.2.1.length : Int) - (1 : Int)))).toNat), oSl 2 1 (cK .i64) g29.2.1 g29.2.2.1 g29.2.2.2 x28.2.2, oBlk b11 [(pEq (.int .i64 (w64 (v18 + (1 : Int)))))]]) (fun h => SatO.pick 4 h) ?_
              refine Ct.re (Ω2 := [oBlk b11 [(pEq (.int .i64 (w64 (v18 + (1 : Int)))))], oBlk hb0 [(pSl 1 (cSl 1 (cK .i64)) a_0.problem.Domains), (pSl 1 (cSl 1 (cK .i64)) a_0.problem.Apart), (pEq (.int .i64 a_0.apart)), (pEq (.int .i64 x28.1)), (pEq (.slice g29.1.1 ((w64 ((x28.2.1.length : Int) - (1 : Int)))).toNat g29.1.2.2)), (pEq (.slice g29.2.1 g29.2.2.1 g29.2.2.2))], oBlk b3 [(pEq (.pointer (some ⟨hb0, 0, none⟩)))], oSl 2 1 (cK .i64) g29.1.1 ((w64 ((x28.2.1.length : Int) - (1 : Int)))).toNat g29.1.2.2 (x28.2.1.take ((w64 ((x28.2.1.length : Int) - (1 : Int)))).toNat), oSl 2 1 (cK .i64) g29.2.1 g29.2.2.1 g29.2.2.2 x28.2.2]) (fun h => SatO.pick 4 h) ?_
              replace h := Option.some.inj h; subst h
              exact Ct.again ((g29.1.1, ((w64 ((x28.2.1.length : Int) - (1 : Int)))).toNat, g29.1.2.2), (g29.2.1, g29.2.2.1, g29.2.2.2)) rfl ⟨rfl, rfl, trivial⟩
        · replace h := bif_f hc h
          refine Tr.exit ?_
          refine Ct.then_exit ?_
          replace h := map_some h; obtain ⟨r1, h, rfl⟩ := h
          refine Ct.out_exit fun e => ?_
          subst e
          refine Ct.blk_exit ?_
          refine Ct.re (Ω2 := [oSl 2 1 (cK .i64) g22.2.1 g22.2.2.1 g22.2.2.2 v21, oBlk b11 [(pEq (.int .i64 v18))], oBlk hb0 [(pSl 1 (cSl 1 (cK .i64)) a_0.problem.Domains), (pSl 1 (cSl 1 (cK .i64)) a_0.problem.Apart), (pEq (.int .i64 a_0.apart)), (pEq (.int .i64 v19)), (pEq (.slice g22.1.1 g22.1.2.1 g22.1.2.2)), (pEq (.slice g22.2.1 g22.2.2.1 g22.2.2.2))], oBlk b3 [(pEq (.pointer (some ⟨hb0, 0, none⟩)))], oSl 2 1 (cK .i64) g22.1.1 g22.1.2.1 g22.1.2.2 v20]) (fun h => SatO.pick 4 h) ?_
          refine Ct.re (Ω2 := [oSl 2 1 (cK .i64) g22.1.1 g22.1.2.1 g22.1.2.2 v20, oSl 2 1 (cK .i64) g22.2.1 g22.2.2.1 g22.2.2.2 v21, oBlk b11 [(pEq (.int .i64 v18))], oBlk hb0 [(pSl 1 (cSl 1 (cK .i64)) a_0.problem.Domains), (pSl 1 (cSl 1 (cK .i64)) a_0.problem.Apart), (pEq (.int .i64 a_0.apart)), (pEq (.int .i64 v19)), (pEq (.slice g22.1.1 g22.1.2.1 g22.1.2.2)), (pEq (.slice g22.2.1 g22.2.2.1 g22.2.2.2))], oBlk b3 [(pEq (.pointer (some ⟨hb0, 0, none⟩)))]]) (fun h => SatO.pick 4 h) ?_
          refine Ct.re (Ω2 := [oBlk hb0 [(pSl 1 (cSl 1 (cK .i64)) a_0.problem.Domains), (pSl 1 (cSl 1 (cK .i64)) a_0.problem.Apart), (pEq (.int .i64 a_0.apart)), (pEq (.int .i64 v19)), (pEq (.slice g22.1.1 g22.1.2.1 g22.1.2.2)), (pEq (.slice g22.2.1 g22.2.2.1 g22.2.2.2))], oSl 2 1 (cK .i64) g22.1.1 g22.1.2.1 g22.1.2.2 v20, oSl 2 1 (cK .i64) g22.2.1 g22.2.2.1 g22.2.2.2 v21, oBlk b11 [(pEq (.int .i64 v18))], oBlk b3 [(pEq (.pointer (some ⟨hb0, 0, none⟩)))]]) (fun h => SatO.pick 3 h) ?_
          refine Ct.re (Ω2 := [oBlk b3 [(pEq (.pointer (some ⟨hb0, 0, none⟩)))], oBlk hb0 [(pSl 1 (cSl 1 (cK .i64)) a_0.problem.Domains), (pSl 1 (cSl 1 (cK .i64)) a_0.problem.Apart), (pEq (.int .i64 a_0.apart)), (pEq (.int .i64 v19)), (pEq (.slice g22.1.1 g22.1.2.1 g22.1.2.2)), (pEq (.slice g22.2.1 g22.2.2.1 g22.2.2.2))], oSl 2 1 (cK .i64) g22.1.1 g22.1.2.1 g22.1.2.2 v20, oSl 2 1 (cK .i64) g22.2.1 g22.2.2.1 g22.2.2.2 v21, oBlk b11 [(pEq (.int .i64 v18))]]) (fun h => SatO.pick 4 h) ?_
          refine Ct.re (Ω2 := [oBlk b11 [(pEq (.int .i64 v18))], oBlk b3 [(pEq (.pointer (some ⟨hb0, 0, none⟩)))], oBlk hb0 [(pSl 1 (cSl 1 (cK .i64)) a_0.problem.Domains), (pSl 1 (cSl 1 (cK .i64)) a_0.problem.Apart), (pEq (.int .i64 a_0.apart)), (pEq (.int .i64 v19)), (pEq (.slice g22.1.1 g22.1.2.1 g22.1.2.2)), (pEq (.slice g22.2.1 g22.2.2.1 g22.2.2.2))], oSl 2 1 (cK .i64) g22.1.1 g22.1.2.1 g22.1.2.2 v20, oSl 2 1 (cK .i64) g22.2.1 g22.2.2.1 g22.2.2.2 v21]) (fun h => SatO.pick 4 h) ?_
          replace h := Option.some.inj h; subst h
          exact Ct.retN0 (Ωx := [oBlk b11 [(pEq (.int .i64 v18))], oBlk b3 [(pEq (.pointer (some ⟨hb0, 0, none⟩)))]]) ((g22.1.1, g22.1.2.1, g22.1.2.2), (g22.2.1, g22.2.2.1, g22.2.2.2)) rfl rfl rfl

theorem o_impl_cliqueSearch_visit {a_0 : GCliqueSearch} {ho0_4 : Option Addr} {hn0_4 hc0_4 : Nat} {ho0_5 : Option Addr} {hn0_5 hc0_5 : Nat} {hb0 : Nat} {r : (Int × (List Int) × (List Int))} (h : m_impl_cliqueSearch_visit a_0 = some r) : CallH Try.prog 88 [(pEq (.pointer (some ⟨hb0, 0, none⟩)))] [oBlk hb0 [(pSl 1 (cSl 1 (cK .i64)) a_0.problem.Domains), (pSl 1 (cSl 1 (cK .i64)) a_0.problem.Apart), (pEq (.int .i64 a_0.apart)), (pEq (.int .i64 a_0.budget)), (pEq (.slice ho0_4 hn0_4 hc0_4)), (pEq (.slice ho0_5 hn0_5 hc0_5))], oSl 2 1 (cK .i64) ho0_4 hn0_4 hc0_4 a_0.items, oSl 2 1 (cK .i64) ho0_5 hn0_5 hc0_5 a_0.best] (fun g : (G3 × G3) => (pTup [])) (fun g : (G3 × G3) => [oBlk hb0 [(pSl 1 (cSl 1 (cK .i64)) a_0.problem.Domains), (pSl 1 (cSl 1 (cK .i64)) a_0.problem.Apart), (pEq (.int .i64 a_0.apart)), (pEq (.int .i64 r.1)), (pEq (.slice g.1.1 g.1.2.1 g.1.2.2)), (pEq (.slice g.2.1 g.2.2.1 g.2.2.2))], oSl 2 1 (cK .i64) g.1.1 g.1.2.1 g.1.2.2 r.2.1, oSl 2 1 (cK .i64) g.2.1 g.2.2.1 g.2.2.2 r.2.2]) := by
  obtain ⟨n, hn⟩ := recM_some h
  exact of_impl_cliqueSearch_visit n hn

theorem o_impl_MaxClique {p_0 : GProblem} {apart_1 : Int} {budget_2 : Int}  {r : ((List Int) × Int)} (h : m_impl_MaxClique p_0 apart_1 budget_2 = some r) : CallH Try.prog 64 [(pAgg (cGProblem p_0)), (pEq (.int .i64 apart_1)), (pEq (.int .i64 budget_2))] [] (fun g : G3 => (pTup [(pEq (.slice g.1 g.2.1 g.2.2)), (pEq (.int .i64 r.2))])) (fun g : G3 => [oSl 2 1 (cK .i64) g.1 g.2.1 g.2.2 r.1]) := by
  unfold m_impl_MaxClique at h
  refine CallH.enter Try.func64 rfl Try.ntmps64 rfl fun W I0 H => ?_
  refine Tr.weak (Γ' := [(0, (pAgg (cGProblem p_0))), (1, (pEq (.int .i64 apart_1))), (2, (pEq (.int .i64 budget_2)))]) ⟨rfl, rfl, rfl, trivial⟩ ?_
  refine Tr.seq ?_
  refine Tr.region ?_
  refine RegL.pure (p := (pPtr (cGProblem p_0))) rfl rfl rfl (J_boxA rfl (Opd.tmp rfl)) ?_
  refine RegL.pure (p := (pEq (.slice none 0 0))) rfl rfl rfl (J_assign rfl Opd.con) ?_
  refine RegL.pure (p := (pEq (.int .i64 (0 : Int)))) rfl rfl rfl (J_assign rfl Opd.con) ?_
  refine RegL.nil ?_
  refine Ct.then_tr ?_
  refine Tr.weak (Γ' := [(1, (pEq (.int .i64 apart_1))), (2, (pEq (.int .i64 budget_2))), (3, (pPtr (cGProblem p_0)))]) ⟨rfl, rfl, rfl, trivial⟩ ?_
  refine Tr.seq ?_
  refine Tr.block ?_
  refine Tr.seq ?_
  refine Tr.region ?_
  refine RegL.pure (p := (pAgg (cGProblem p_0))) rfl rfl rfl (J_loadA rfl Try.isAgg29 sz29 (Opd.tmp rfl) rfl) ?_
  replace h := bind_some h; obtain ⟨x1, hx1, h⟩ := h
  refine RegL.pure (p := (pEq (.bool x1))) rfl rfl rfl (J_call rfl Try.call30 (c_impl_ValidProblem hx1) (Opds.cons (Opd.tmp rfl) Opds.nil)) ?_
  refine RegL.pure (p := (pEq (.bool (!x1)))) rfl rfl rfl (J_not rfl (Opd.tmp rfl)) ?_
  refine RegL.pure (p := (pEq (.bool (!x1)))) rfl rfl rfl (J_assign rfl (Opd.tmp rfl)) ?_
  refine RegL.nil ?_
  refine Ct.then_tr ?_
  refine Tr.weak (Γ' := [(1, (pEq (.int .i64 apart_1))), (2, (pEq (.int .i64 budget_2))), (3, (pPtr (cGProblem p_0))), (9, (pEq (.bool (!x1))))]) ⟨rfl, rfl, rfl, rfl, trivial⟩ ?_
  refine Tr.cond (Opd.tmp rfl) (fun hc => ?_) (fun hc => ?_)
  · replace h := bif_t hc h
    refine Tr.seq ?_
    refine Tr.region ?_
    refine RegL.pure (p := (pEq (.slice none 0 0))) rfl rfl rfl (J_assign rfl Opd.con) ?_
    refine RegL.pure (p := (pEq (.int .i64 (1 : Int)))) rfl rfl rfl (J_assign rfl Opd.con) ?_
    refine RegL.nil ?_
    refine Ct.then_tr ?_
    refine Tr.weak (Γ' := [(6, (pEq (.slice none 0 0))), (7, (pEq (.int .i64 (1 : Int))))]) ⟨rfl, rfl, trivial⟩ ?_
    refine Tr.ret ?_
    refine Ct.blk_ret ?_
    refine Ct.then_ret ?_
    refine Ct.re (Ω2 := [oSl 2 1 (cK .i64) none 0 0 ([] : (List Int))]) (fun h => SatO.nilRow h) ?_
    replace h := Option.some.inj h; subst h
    exact Ct.retH2 (Ωx := []) (none, 0, 0) rfl (RvOk.tmp rfl) (RvOk.tmp rfl) rfl rfl
  · replace h := bif_f hc h
    refine Tr.seq ?_
    replace h := bind_some h; obtain ⟨x3, hx3, h⟩ := h
    refine Tr.cut (γ := Unit) (Γm := fun g => [(1, (pEq (.int .i64 apart_1))), (2, (pEq (.int .i64 budget_2))), (3, (pPtr (cGProblem p_0))), (13, (pEq (.bool x3)))]) (Ωm := fun g => []) ?_ (fun g7 => ?_)
    · clear h
      have h := hx3
      clear hx3
      refine Tr.region ?_
      refine RegL.pure (p := (pEq (.int .i64 budget_2))) rfl rfl rfl (J_move rfl (Opd.tmp rfl)) ?_
      replace h := bind_some h; obtain ⟨x4, hx4, h⟩ := h
      refine RegL.pure (p := (pEq (.bool x4))) rfl rfl rfl (J_call rfl Try.call61 (c_impl_budgetValid hx4) (Opds.cons (Opd.tmp rfl) Opds.nil)) ?_
      refine RegL.pure (p := (pEq (.bool (!x4)))) rfl rfl rfl (J_not rfl (Opd.tmp rfl)) ?_
      refine RegL.pure (p := (pEq (.bool (!x4)))) rfl rfl rfl (J_move rfl (Opd.tmp rfl)) ?_
      rcases Bool.eq_false_or_eq_true (!x4) with hc5 | hc5
      · replace h := bif_t hc5 h
        refine RegL.skipG rfl rfl rfl hc5 rfl rfl ?_
        refine RegL.skipG rfl rfl rfl hc5 rfl rfl ?_
        refine RegL.skipG rfl rfl rfl hc5 rfl rfl ?_
        refine RegL.pure (p := (pEq (.bool true))) rfl rfl rfl (J_pick rfl (Opd.tmp rfl) (fun _ => Opd.con) (fun hf => absurd (hc5.symm.trans hf) (by decide))) ?_
        refine RegL.pure (p := (pEq (.bool true))) rfl rfl rfl (J_assign rfl (Opd.tmp rfl)) ?_
        refine RegL.nil ?_
        replace h := Option.some.inj h; subst h
        exact Ct.mid () rfl ⟨rfl, rfl, rfl, rfl, trivial⟩
      · replace h := bif_f hc5 h
        refine RegL.pureG (p := (pEq (.int .i64 apart_1))) rfl rfl rfl hc5 rfl rfl (J_move rfl (Opd.tmp rfl)) ?_
        replace h := bind_some h; obtain ⟨x6, hx6, h⟩ := h
        refine RegL.pureG (p := (pEq (.bool x6))) rfl rfl rfl hc5 rfl rfl (J_call rfl Try.call80 (c_impl_within hx6) (Opds.cons (Opd.tmp rfl) (Opds.cons Opd.con (Opds.cons Opd.con Opds.nil)))) ?_
        refine RegL.pureG (p := (pEq (.bool (!x6)))) rfl rfl rfl hc5 rfl rfl (J_not rfl (Opd.tmp rfl)) ?_
        refine RegL.pure (p := (pEq (.bool (!x6)))) rfl rfl rfl (J_pick rfl (Opd.tmp rfl) (fun hf => absurd (hc5.symm.trans hf) (by decide)) (fun _ => (Opd.tmp rfl))) ?_
        refine RegL.pure (p := (pEq (.bool (!x6)))) rfl rfl rfl (J_assign rfl (Opd.tmp rfl)) ?_
        refine RegL.nil ?_
        replace h := Option.some.inj h; subst h
        exact Ct.mid () rfl ⟨rfl, rfl, rfl, rfl, trivial⟩
    · clear hx3
      refine Ct.then_tr ?_
      refine Tr.weak (Γ' := [(1, (pEq (.int .i64 apart_1))), (2, (pEq (.int .i64 budget_2))), (3, (pPtr (cGProblem p_0))), (13, (pEq (.bool x3)))]) ⟨rfl, rfl, rfl, rfl, trivial⟩ ?_
      refine Tr.cond (Opd.tmp rfl) (fun hc => ?_) (fun hc => ?_)
      · replace h := bif_t hc h
        refine Tr.seq ?_
        refine Tr.region ?_
        refine RegL.pure (p := (pEq (.slice none 0 0))) rfl rfl rfl (J_assign rfl Opd.con) ?_
        refine RegL.pure (p := (pEq (.int .i64 (2 : Int)))) rfl rfl rfl (J_assign rfl Opd.con) ?_
        refine RegL.nil ?_
        refine Ct.then_tr ?_
        refine Tr.weak (Γ' := [(6, (pEq (.slice none 0 0))), (7, (pEq (.int .i64 (2 : Int))))]) ⟨rfl, rfl, trivial⟩ ?_
        refine Tr.ret ?_
        refine Ct.blk_ret ?_
        refine Ct.then_ret ?_
        refine Ct.re (Ω2 := [oSl 2 1 (cK .i64) none 0 0 ([] : (List Int))]) (fun h => SatO.nilRow h) ?_
        replace h := Option.some.inj h; subst h
        exact Ct.retH2 (Ωx := []) (none, 0, 0) rfl (RvOk.tmp rfl) (RvOk.tmp rfl) rfl rfl
      · replace h := bif_f hc h
        refine Tr.skip ?_
        refine Ct.blk_normal ?_
        refine Ct.then_tr ?_
        refine Tr.weak (Γ' := [(1, (pEq (.int .i64 apart_1))), (2, (pEq (.int .i64 budget_2))), (3, (pPtr (cGProblem p_0)))]) ⟨rfl, rfl, rfl, trivial⟩ ?_
        refine Tr.seq ?_
        refine Tr.region ?_
        refine RegL.pure (p := (pAgg (cGProblem p_0))) rfl rfl rfl (J_loadA rfl Try.isAgg29 sz29 (Opd.tmp rfl) rfl) ?_
        refine RegL.pure (p := (pEq (.int .i64 apart_1))) rfl rfl rfl (J_move rfl (Opd.tmp rfl)) ?_
        refine RegL.pure (p := (pEq (.int .i64 budget_2))) rfl rfl rfl (J_move rfl (Opd.tmp rfl)) ?_
        refine RegL.pure (p := (pAgg [(pSl 1 (cSl 1 (cK .i64)) p_0.Domains), (pSl 1 (cSl 1 (cK .i64)) p_0.Apart), (pEq (.int .i64 apart_1)), (pEq (.int .i64 budget_2)), (pEq (.slice none 0 0)), (pEq (.slice none 0 0))])) rfl rfl rfl (J_build (qss := [(0, cGProblem p_0), (1, (cK .i64) apart_1), (2, (cK .i64) budget_2)]) rfl bl94 bz94o (Parts.cons (Part.agg (Opd.tmp rfl)) (Parts.cons (Part.one (Opd.tmp rfl) OneC.int) (Parts.cons (Part.one (Opd.tmp rfl) OneC.int) Parts.nil))) rfl) ?_
        refine RegL.step (γ := Nat) (p := fun b => pEq (.pointer (some ⟨b, 0, none⟩))) (Ω' := fun b => [oBlk b [(pEq (.slice none 0 0)), (pEq (.slice none 0 0)), (pEq (.int .i64 (0 : Int))), (pEq (.int .i64 (0 : Int))), (pEq (.slice none 0 0)), (pEq (.slice none 0 0))]]) rfl rfl rfl (M_alloc rfl zero94) fun b9 => ?_
        refine RegL.stepN (γ := Unit) (p := fun _ => pAny) (Ω' := fun _ => [oBlk b9 [(pSl 1 (cSl 1 (cK .i64)) p_0.Domains), (pSl 1 (cSl 1 (cK .i64)) p_0.Apart), (pEq (.int .i64 apart_1)), (pEq (.int .i64 budget_2)), (pEq (.slice none 0 0)), (pEq (.slice none 0 0))]]) rfl rfl (M_storeA rfl sz94 (Opd.tmp rfl) (Opd.tmp rfl) (fun _ _ _ h => ones_of ((OneCs.cons OneC.sl (OneCs.cons OneC.sl (OneCs.cons OneC.int (OneCs.cons OneC.int (OneCs.cons OneC.slice (OneCs.cons OneC.slice OneCs.nil))))))) h) rfl rfl) fun g10 => ?_
        refine RegL.nil ?_
        refine Ct.then_tr ?_
        refine Tr.weak (Γ' := [(8, (pEq (.pointer (some ⟨b9, 0, none⟩))))]) ⟨rfl, trivial⟩ ?_
        refine Tr.seq ?_
        refine Tr.region ?_
        replace h := bind_some h; obtain ⟨x13, hx13, h⟩ := h
        refine RegL.re (Ω2 := [oSl 2 1 (cK .i64) none 0 0 ([] : (List Int)), oBlk b9 [(pSl 1 (cSl 1 (cK .i64)) p_0.Domains), (pSl 1 (cSl 1 (cK .i64)) p_0.Apart), (pEq (.int .i64 apart_1)), (pEq (.int .i64 budget_2)), (pEq (.slice none 0 0)), (pEq (.slice none 0 0))]]) (fun h => SatO.nilRow h) ?_
        refine RegL.re (Ω2 := [oSl 2 1 (cK .i64) none 0 0 ([] : (List Int)), oSl 2 1 (cK .i64) none 0 0 ([] : (List Int)), oBlk b9 [(pSl 1 (cSl 1 (cK .i64)) p_0.Domains), (pSl 1 (cSl 1 (cK .i64)) p_0.Apart), (pEq (.int .i64 apart_1)), (pEq (.int .i64 budget_2)), (pEq (.slice none 0 0)), (pEq (.slice none 0 0))]]) (fun h => SatO.nilRow h) ?_
        refine RegL.re (Ω2 := [oSl 2 1 (cK .i64) none 0 0 ([] : (List Int)), oSl 2 1 (cK .i64) none 0 0 ([] : (List Int)), oBlk b9 [(pSl 1 (cSl 1 (cK .i64)) p_0.Domains), (pSl 1 (cSl 1 (cK .i64)) p_0.Apart), (pEq (.int .i64 apart_1)), (pEq (.int .i64 budget_2)), (pEq (.slice none 0 0)), (pEq (.slice none 0 0))]]) (fun h => SatO.pick 1 h) ?_
        refine RegL.re (Ω2 := [oBlk b9 [(pSl 1 (cSl 1 (cK .i64)) p_0.Domains), (pSl 1 (cSl 1 (cK .i64)) p_0.Apart), (pEq (.int .i64 apart_1)), (pEq (.int .i64 budget_2)), (pEq (.slice none 0 0)), (pEq (.slice none 0 0))], oSl 2 1 (cK .i64) none 0 0 ([] : (List Int)), oSl 2 1 (cK .i64) none 0 0 ([] : (List Int))]) (fun h => SatO.pick 2 h) ?_
        refine RegL.step (γ := (G3 × G3)) (p := fun g => (pTup [])) (Ω' := fun g => [oBlk b9 [(pSl 1 (cSl 1 (cK .i64)) p_0.Domains), (pSl 1 (cSl 1 (cK .i64)) p_0.Apart), (pEq (.int .i64 apart_1)), (pEq (.int .i64 x13.1)), (pEq (.slice g.1.1 g.1.2.1 g.1.2.2)), (pEq (.slice g.2.1 g.2.2.1 g.2.2.2))], oSl 2 1 (cK .i64) g.1.1 g.1.2.1 g.1.2.2 x13.2.1, oSl 2 1 (cK .i64) g.2.1 g.2.2.1 g.2.2.2 x13.2.2]) rfl rfl rfl (M_callH (Ωi := [oBlk b9 [(pSl 1 (cSl 1 (cK .i64)) p_0.Domains), (pSl 1 (cSl 1 (cK .i64)) p_0.Apart), (pEq (.int .i64 apart_1)), (pEq (.int .i64 budget_2)), (pEq (.slice none 0 0)), (pEq (.slice none 0 0))], oSl 2 1 (cK .i64) none 0 0 ([] : (List Int)), oSl 2 1 (cK .i64) none 0 0 ([] : (List Int))]) rfl Try.call88 (o_impl_cliqueSearch_visit hx13) (Opds.cons (Opd.tmp rfl) Opds.nil)) fun g14 => ?_
        refine RegL.nil ?_
        refine Ct.then_tr ?_
        refine Tr.weak (Γ' := [(8, (pEq (.pointer (some ⟨b9, 0, none⟩))))]) ⟨rfl, trivial⟩ ?_
        refine Tr.seq ?_
        refine Tr.seq ?_
        refine Tr.region ?_
        refine RegL.pure (p := (pEq (.pointer (some ⟨b9, 3, none⟩)))) rfl rfl rfl (J_fieldAddrE rfl Try.underlying94 rfl sz2 (by decide) (Opd.tmp rfl) rfl) ?_
        refine RegL.pureW (p := (pEq (.int .i64 x13.1))) rfl rfl rfl (W_load (i := 0) rfl Try.isAgg2 (Opd.tmp rfl) rfl rfl) ?_
        refine RegL.pure (p := (pEq (.bool (decide (x13.1 < (0 : Int)))))) rfl rfl rfl (J_bin rfl (Opd.tmp rfl) Opd.con B_lss) ?_
        refine RegL.nil ?_
        refine Ct.then_tr ?_
        refine Tr.weak (Γ' := [(8, (pEq (.pointer (some ⟨b9, 0, none⟩)))), (29, (pEq (.bool (decide (x13.1 < (0 : Int))))))]) ⟨rfl, rfl, trivial⟩ ?_
        refine Tr.cond (Opd.tmp rfl) (fun hc => ?_) (fun hc => ?_)
        · replace h := bif_t hc h
          refine Tr.seq ?_
          refine Tr.region ?_
          refine RegL.pure (p := (pEq (.slice none 0 0))) rfl rfl rfl (J_assign rfl Opd.con) ?_
          refine RegL.pure (p := (pEq (.int .i64 (5 : Int)))) rfl rfl rfl (J_assign rfl Opd.con) ?_
          refine RegL.nil ?_
          refine Ct.then_tr ?_
          refine Tr.weak (Γ' := [(6, (pEq (.slice none 0 0))), (7, (pEq (.int .i64 (5 : Int))))]) ⟨rfl, rfl, trivial⟩ ?_
          refine Tr.ret ?_
          refine Ct.then_ret ?_
          refine Ct.re (Ω2 := [oSl 2 1 (cK .i64) none 0 0 ([] : (List Int)), oBlk b9 [(pSl 1 (cSl 1 (cK .i64)) p_0.Domains), (pSl 1 (cSl 1 (cK .i64)) p_0.Apart), (pEq (.int .i64 apart_1)), (pEq (.int .i64 x13.1)), (pEq (.slice g14.1.1 g14.1.2.1 g14.1.2.2)), (pEq (.slice g14.2.1 g14.2.2.1 g14.2.2.2))], oSl 2 1 (cK .i64) g14.1.1 g14.1.2.1 g14.1.2.2 x13.2.1, oSl 2 1 (cK .i64) g14.2.1 g14.2.2.1 g14.2.2.2 x13.2.2]) (fun h => SatO.nilRow h) ?_
          refine Ct.re (Ω2 := [oSl 2 1 (cK .i64) g14.2.1 g14.2.2.1 g14.2.2.2 x13.2.2, oSl 2 1 (cK .i64) none 0 0 ([] : (List Int)), oBlk b9 [(pSl 1 (cSl 1 (cK .i64)) p_0.Domains), (pSl 1 (cSl 1 (cK .i64)) p_0.Apart), (pEq (.int .i64 apart_1)), (pEq (.int .i64 x13.1)), (pEq (.slice g14.1.1 g14.1.2.1 g14.1.2.2)), (pEq (.slice g14.2.1 g14.2.2.1 g14.2.2.2))], oSl 2 1 (cK .i64) g14.1.1 g14.1.2.1 g14.1.2.2 x13.2.1]) (fun h => SatO.pick 3 h) ?_
          refine Ct.re (Ω2 := [oSl 2 1 (cK .i64) g14.1.1 g14.1.2.1 g14.1.2.2 x13.2.1, oSl 2 1 (cK .i64) g14.2.1 g14.2.2.1 g14.2.2.2 x13.2.2, oSl 2 1 (cK .i64) none 0 0 ([] : (List Int)), oBlk b9 [(pSl 1 (cSl 1 (cK .i64)) p_0.Domains), (pSl 1 (cSl 1 (cK .i64)) p_0.Apart), (pEq (.int .i64 apart_1)), (pEq (.int .i64 x13.1)), (pEq (.slice g14.1.1 g14.1.2.1 g14.1.2.2)), (pEq (.slice g14.2.1 g14.2.2.1 g14.2.2.2))]]) (fun h => SatO.pick 3 h) ?_
          refine Ct.re (Ω2 := [oBlk b9 [(pSl 1 (cSl 1 (cK .i64)) p_0.Domains), (pSl 1 (cSl 1 (cK .i64)) p_0.Apart), (pEq (.int .i64 apart_1)), (pEq (.int .i64 x13.1)), (pEq (.slice g14.1.1 g14.1.2.1 g14.1.2.2)), (pEq (.slice g14.2.1 g14.2.2.1 g14.2.2.2))], oSl 2 1 (cK .i64) g14.1.1 g14.1.2.1 g14.1.2.2 x13.2.1, oSl 2 1 (cK .i64) g14.2.1 g14.2.2.1 g14.2.2.2 x13.2.2, oSl 2 1 (cK .i64) none 0 0 ([] : (List Int))]) (fun h => SatO.pick 3 h) ?_
          replace h := Option.some.inj h; subst h
          exact Ct.retH2 (Ωx := [oBlk b9 [(pSl 1 (cSl 1 (cK .i64)) p_0.Domains), (pSl 1 (cSl 1 (cK .i64)) p_0.Apart), (pEq (.int .i64 apart_1)), (pEq (.int .i64 x13.1)), (pEq (.slice g14.1.1 g14.1.2.1 g14.1.2.2)), (pEq (.slice g14.2.1 g14.2.2.1 g14.2.2.2))], oSl 2 1 (cK .i64) g14.1.1 g14.1.2.1 g14.1.2.2 x13.2.1, oSl 2 1 (cK .i64) g14.2.1 g14.2.2.1 g14.2.2.2 x13.2.2]) (none, 0, 0) rfl (RvOk.tmp rfl) (RvOk.tmp rfl) rfl rfl
        · replace h := bif_f hc h
          refine Tr.skip ?_
          refine Ct.then_tr ?_
          refine Tr.weak (Γ' := [(8, (pEq (.pointer (some ⟨b9, 0, none⟩))))]) ⟨rfl, trivial⟩ ?_
          refine Tr.seq ?_
          refine Tr.region ?_
          refine RegL.pure (p := (pEq (.pointer (some ⟨b9, 5, none⟩)))) rfl rfl rfl (J_fieldAddrE rfl Try.underlying94 rfl sz26 (by decide) (Opd.tmp rfl) rfl) ?_
          refine RegL.pureW (p := (pEq (.slice g14.2.1 g14.2.2.1 g14.2.2.2))) rfl rfl rfl (W_load (i := 0) rfl Try.isAgg26 (Opd.tmp rfl) rfl rfl) ?_
          refine RegL.pure (p := (pEq (.slice g14.2.1 g14.2.2.1 g14.2.2.2))) rfl rfl rfl (J_assign rfl (Opd.tmp rfl)) ?_
          refine RegL.pure (p := (pEq (.int .i64 (0 : Int)))) rfl rfl rfl (J_assign rfl Opd.con) ?_
          refine RegL.nil ?_
          refine Ct.then_tr ?_
          refine Tr.weak (Γ' := [(6, (pEq (.slice g14.2.1 g14.2.2.1 g14.2.2.2))), (7, (pEq (.int .i64 (0 : Int))))]) ⟨rfl, rfl, trivial⟩ ?_
          refine Tr.ret ?_
          replace h := Option.some.inj h; subst h
          exact Ct.retH2 (Ωx := [oBlk b9 [(pSl 1 (cSl 1 (cK .i64)) p_0.Domains), (pSl 1 (cSl 1 (cK .i64)) p_0.Apart), (pEq (.int .i64 apart_1)), (pEq (.int .i64 x13.1)), (pEq (.slice g14.1.1 g14.1.2.1 g14.1.2.2)), (pEq (.slice g14.2.1 g14.2.2.1 g14.2.2.2))], oSl 2 1 (cK .i64) g14.1.1 g14.1.2.1 g14.1.2.2 x13.2.1]) (g14.2.1, g14.2.2.1, g14.2.2.2) rfl (RvOk.tmp rfl) (RvOk.tmp rfl) rfl rfl

theorem c_impl_MaxClique {p_0 : GProblem} {apart_1 : Int} {budget_2 : Int} {r : ((List Int) × Int)} (h : m_impl_MaxClique p_0 apart_1 budget_2 = some r) : CallJ Try.prog 64 [(pAgg (cGProblem p_0)), (pEq (.int .i64 apart_1)), (pEq (.int .i64 budget_2))] (pTup [(pSl 1 (cK .i64) r.1), (pEq (.int .i64 r.2))]) :=
  CallH.frozen (o_impl_MaxClique h) (fun g => (Conv.tup (Convs.cons (Conv.row (f := (cK .i64)) 0 (fun _ => rfl) rfl) (Convs.cons Conv.refl Convs.nil))))

theorem c_impl_CliqueBound {p_0 : GProblem} {budget_1 : Int} {r : (Int × Int)} (h : m_impl_CliqueBound p_0 budget_1 = some r) : CallJ Try.prog 25 [(pAgg (cGProblem p_0)), (pEq (.int .i64 budget_1))] (pTup [(pEq (.int .i64 r.1)), (pEq (.int .i64 r.2))]) := by
  unfold m_impl_CliqueBound at h
  refine CallJ.enterH Try.func25 rfl Try.ntmps25 rfl fun W I0 H => ?_
  refine Tr.weak (Γ' := [(0, (pAgg (cGProblem p_0))), (1, (pEq (.int .i64 budget_1)))]) ⟨rfl, rfl, trivial⟩ ?_
  refine Tr.seq ?_
  refine Tr.region ?_
  refine RegL.pure (p := (pPtr (cGProblem p_0))) rfl rfl rfl (J_boxA rfl (Opd.tmp rfl)) ?_
  refine RegL.pure (p := (pEq (.int .i64 (0 : Int)))) rfl rfl rfl (J_assign rfl Opd.con) ?_
  refine RegL.pure (p := (pEq (.int .i64 (0 : Int)))) rfl rfl rfl (J_assign rfl Opd.con) ?_
  refine RegL.nil ?_
  refine Ct.then_tr ?_
  refine Tr.weak (Γ' := [(1, (pEq (.int .i64 budget_1))), (2, (pPtr (cGProblem p_0)))]) ⟨rfl, rfl, trivial⟩ ?_
  refine Tr.seq ?_
  refine Tr.block ?_
  refine Tr.seq ?_
  refine Tr.region ?_
  refine RegL.pure (p := (pAgg (cGProblem p_0))) rfl rfl rfl (J_loadA rfl Try.isAgg29 sz29 (Opd.tmp rfl) rfl) ?_
  replace h := bind_some h; obtain ⟨x1, hx1, h⟩ := h
  refine RegL.pure (p := (pEq (.bool x1))) rfl rfl rfl (J_call rfl Try.call30 (c_impl_ValidProblem hx1) (Opds.cons (Opd.tmp rfl) Opds.nil)) ?_
  refine RegL.pure (p := (pEq (.bool (!x1)))) rfl rfl rfl (J_not rfl (Opd.tmp rfl)) ?_
  refine RegL.pure (p := (pEq (.bool (!x1)))) rfl rfl rfl (J_assign rfl (Opd.tmp rfl)) ?_
  refine RegL.nil ?_
  refine Ct.then_tr ?_
  refine Tr.weak (Γ' := [(1, (pEq (.int .i64 budget_1))), (2, (pPtr (cGProblem p_0))), (12, (pEq (.bool (!x1))))]) ⟨rfl, rfl, rfl, trivial⟩ ?_
  refine Tr.cond (Opd.tmp rfl) (fun hc => ?_) (fun hc => ?_)
  · replace h := bif_t hc h
    refine Tr.seq ?_
    refine Tr.region ?_
    refine RegL.pure (p := (pEq (.int .i64 (0 : Int)))) rfl rfl rfl (J_assign rfl Opd.con) ?_
    refine RegL.pure (p := (pEq (.int .i64 (1 : Int)))) rfl rfl rfl (J_assign rfl Opd.con) ?_
    refine RegL.nil ?_
    refine Ct.then_tr ?_
    refine Tr.weak (Γ' := [(4, (pEq (.int .i64 (0 : Int)))), (5, (pEq (.int .i64 (1 : Int))))]) ⟨rfl, rfl, trivial⟩ ?_
    refine Tr.ret ?_
    refine Ct.blk_ret ?_
    refine Ct.then_ret ?_
    replace h := Option.some.inj h; subst h
    exact Ct.retH2 (Ωx := []) () rfl (RvOk.tmp rfl) (RvOk.tmp rfl) rfl rfl
  · replace h := bif_f hc h
    refine Tr.seq ?_
    refine Tr.region ?_
    refine RegL.pure (p := (pEq (.int .i64 budget_1))) rfl rfl rfl (J_move rfl (Opd.tmp rfl)) ?_
    replace h := bind_some h; obtain ⟨x2, hx2, h⟩ := h
    refine RegL.pure (p := (pEq (.bool x2))) rfl rfl rfl (J_call rfl Try.call61 (c_impl_budgetValid hx2) (Opds.cons (Opd.tmp rfl) Opds.nil)) ?_
    refine RegL.pure (p := (pEq (.bool (!x2)))) rfl rfl rfl (J_not rfl (Opd.tmp rfl)) ?_
    refine RegL.pure (p := (pEq (.bool (!x2)))) rfl rfl rfl (J_assign rfl (Opd.tmp rfl)) ?_
    refine RegL.nil ?_
    refine Ct.then_tr ?_
    refine Tr.weak (Γ' := [(1, (pEq (.int .i64 budget_1))), (2, (pPtr (cGProblem p_0))), (16, (pEq (.bool (!x2))))]) ⟨rfl, rfl, rfl, trivial⟩ ?_
    refine Tr.cond (Opd.tmp rfl) (fun hc => ?_) (fun hc => ?_)
    · replace h := bif_t hc h
      refine Tr.seq ?_
      refine Tr.region ?_
      refine RegL.pure (p := (pEq (.int .i64 (0 : Int)))) rfl rfl rfl (J_assign rfl Opd.con) ?_
      refine RegL.pure (p := (pEq (.int .i64 (2 : Int)))) rfl rfl rfl (J_assign rfl Opd.con) ?_
      refine RegL.nil ?_
      refine Ct.then_tr ?_
      refine Tr.weak (Γ' := [(4, (pEq (.int .i64 (0 : Int)))), (5, (pEq (.int .i64 (2 : Int))))]) ⟨rfl, rfl, trivial⟩ ?_
      refine Tr.ret ?_
      refine Ct.blk_ret ?_
      refine Ct.then_ret ?_
      replace h := Option.some.inj h; subst h
      exact Ct.retH2 (Ωx := []) () rfl (RvOk.tmp rfl) (RvOk.tmp rfl) rfl rfl
    · replace h := bif_f hc h
      refine Tr.skip ?_
      refine Ct.blk_normal ?_
      refine Ct.then_tr ?_
      refine Tr.weak (Γ' := [(1, (pEq (.int .i64 budget_1))), (2, (pPtr (cGProblem p_0)))]) ⟨rfl, rfl, trivial⟩ ?_
      refine Tr.seq ?_
      refine Tr.region ?_
      refine RegL.pure (p := (pPtr ((cSl 1 (cSl 1 (cK .i64))) p_0.Apart))) rfl rfl rfl (J_fieldAddr rfl Try.underlying29 rfl sz22 (by decide) (Opd.tmp rfl) rfl) ?_
      refine RegL.pure (p := (pSl 1 (cSl 1 (cK .i64)) p_0.Apart)) rfl rfl rfl (J_load rfl Try.isAgg22 (Opd.tmp rfl)) ?_
      replace h := bind_some h; obtain ⟨x3, hx3, h⟩ := h
      refine RegL.step (γ := G3) (p := fun g => (pEq (.slice g.1 g.2.1 g.2.2))) (Ω' := fun g => [oSl 2 1 (cK .i64) g.1 g.2.1 g.2.2 x3]) rfl rfl rfl (M_callH (Ωi := []) rfl Try.call62 (o_slices_Concat_int64_int64 hx3) (Opds.cons (Opd.tmp rfl) Opds.nil)) fun g4 => ?_
      refine RegL.pure (p := (pEq (.slice g4.1 g4.2.1 g4.2.2))) rfl rfl rfl (J_assign rfl (Opd.tmp rfl)) ?_
      refine RegL.nil ?_
      refine Ct.then_tr ?_
      refine Tr.weak (Γ' := [(1, (pEq (.int .i64 budget_1))), (2, (pPtr (cGProblem p_0))), (6, (pEq (.slice g4.1 g4.2.1 g4.2.2)))]) ⟨rfl, rfl, rfl, trivial⟩ ?_
      refine Tr.seq ?_
      refine Tr.region ?_
      refine RegL.pure (p := (pEq (.slice g4.1 g4.2.1 g4.2.2))) rfl rfl rfl (J_move rfl (Opd.tmp rfl)) ?_
      replace h := bind_some h; obtain ⟨x6, hx6, h⟩ := h
      refine RegL.step (γ := Unit) (p := fun g => (pTup [])) (Ω' := fun g => [oSl 2 1 (cK .i64) g4.1 g4.2.1 g4.2.2 x6]) rfl rfl rfl (M_callH (Ωi := [oSl 2 1 (cK .i64) g4.1 g4.2.1 g4.2.2 x3]) rfl Try.call63 (o_slices_Sort_int64_int64 hx6) (Opds.cons (Opd.tmp rfl) Opds.nil)) fun g7 => ?_
      refine RegL.nil ?_
      refine Ct.then_tr ?_
      refine Tr.weak (Γ' := [(1, (pEq (.int .i64 budget_1))), (2, (pPtr (cGProblem p_0))), (6, (pEq (.slice g4.1 g4.2.1 g4.2.2)))]) ⟨rfl, rfl, rfl, trivial⟩ ?_
      refine Tr.seq ?_
      refine Tr.region ?_
      refine RegL.pure (p := (pEq (.int .i64 (0 : Int)))) rfl rfl rfl (J_assign rfl Opd.con) ?_
      refine RegL.nil ?_
      refine Ct.then_tr ?_
      refine Tr.weak (Γ' := [(1, (pEq (.int .i64 budget_1))), (2, (pPtr (cGProblem p_0))), (6, (pEq (.slice g4.1 g4.2.1 g4.2.2))), (7, (pEq (.int .i64 (0 : Int))))]) ⟨rfl, rfl, rfl, rfl, trivial⟩ ?_
      refine Tr.seq ?_
      refine Tr.seq ?_
      refine Tr.region ?_
      refine RegL.pure (p := (pEq (.slice g4.1 g4.2.1 g4.2.2))) rfl rfl rfl (J_move rfl (Opd.tmp rfl)) ?_
      replace h := bind_some h; obtain ⟨x8, hx8, h⟩ := h
      refine RegL.step (γ := G3) (p := fun g => (pEq (.slice g.1 g.2.1 g.2.2))) (Ω' := fun g => [oSl 2 1 (cK .i64) g.1 g.2.1 g.2.2 x8]) rfl rfl rfl (M_callH (Ωi := [oSl 2 1 (cK .i64) g4.1 g4.2.1 g4.2.2 x6]) rfl Try.call43 (o_slices_Compact_int64_int64 hx8) (Opds.cons (Opd.tmp rfl) Opds.nil)) fun g9 => ?_
      refine RegL.pureW (p := (pEq (.int .i64 (x8.length : Int)))) rfl rfl rfl (W_rowLen (j := 0) rfl Try.underlying26 (Opd.tmp rfl) rfl) ?_
      refine RegL.pure (p := (pEq (.int .i64 (0 : Int)))) rfl rfl rfl (J_move rfl Opd.con) ?_
      refine RegL.nil ?_
      refine Ct.then_tr ?_
      refine Tr.weak (Γ' := [(1, (pEq (.int .i64 budget_1))), (2, (pPtr (cGProblem p_0))), (7, (pEq (.int .i64 (0 : Int)))), (26, (pEq (.slice g9.1 g9.2.1 g9.2.2))), (27, (pEq (.int .i64 (x8.length : Int)))), (28, (pEq (.int .i64 (0 : Int))))]) ⟨rfl, rfl, rfl, rfl, rfl, rfl, trivial⟩ ?_
      refine Tr.block ?_
      refine Tr.weak (Γ' := [(1, (pEq (.int .i64 budget_1))), (2, (pPtr (cGProblem p_0))), (7, (pEq (.int .i64 (0 : Int)))), (26, (pEq (.slice g9.1 g9.2.1 g9.2.2))), (27, (pEq (.int .i64 (x8.length : Int)))), (28, (pEq (.int .i64 (0 : Int))))]) ⟨rfl, rfl, rfl, rfl, rfl, rfl, trivial⟩ ?_
      refine Tr.loop (γ := Unit) (σ := (Int × Int)) (Γσ := fun s g => [(1, (pEq (.int .i64 budget_1))), (2, (pPtr (cGProblem p_0))), (7, (pEq (.int .i64 s.1))), (26, (pEq (.slice g9.1 g9.2.1 g9.2.2))), (27, (pEq (.int .i64 (x8.length : Int)))), (28, (pEq (.int .i64 s.2)))]) (Ωσ := fun s g => [oSl 2 1 (cK .i64) g9.1 g9.2.1 g9.2.2 x8]) (g := ()) h ?_
      clear h
      rintro ⟨v12, v13⟩ g14 t h
      replace h : m_impl_CliqueBound_B11 p_0 budget_1 x8 v12 v13 = some t := h
      unfold m_impl_CliqueBound_B11 at h
      refine Tr.weakO (Γ' := [(1, (pEq (.int .i64 budget_1))), (2, (pPtr (cGProblem p_0))), (7, (pEq (.int .i64 v12))), (26, (pEq (.slice g9.1 g9.2.1 g9.2.2))), (27, (pEq (.int .i64 (x8.length : Int)))), (28, (pEq (.int .i64 v13)))]) (Ω' := [oSl 2 1 (cK .i64) g9.1 g9.2.1 g9.2.2 x8]) rfl ⟨rfl, rfl, rfl, rfl, rfl, rfl, trivial⟩ ?_
      refine Tr.seq ?_
      refine Tr.region ?_
      refine RegL.pure (p := (pEq (.bool (decide (v13 < (x8.length : Int)))))) rfl rfl rfl (J_bin rfl (Opd.tmp rfl) (Opd.tmp rfl) B_lss) ?_
      refine RegL.nil ?_
      refine Ct.then_tr ?_
      refine Tr.weak (Γ' := [(1, (pEq (.int .i64 budget_1))), (2, (pPtr (cGProblem p_0))), (7, (pEq (.int .i64 v12))), (26, (pEq (.slice g9.1 g9.2.1 g9.2.2))), (27, (pEq (.int .i64 (x8.length : Int)))), (28, (pEq (.int .i64 v13))), (29, (pEq (.bool (decide (v13 < (x8.length : Int))))))]) ⟨rfl, rfl, rfl, rfl, rfl, rfl, rfl, trivial⟩ ?_
      refine Tr.seq ?_
      refine Tr.cond (Opd.tmp rfl) (fun hc => ?_) (fun hc => ?_)
      · replace h := bif_t hc h
        refine Tr.skip ?_
        refine Ct.then_tr ?_
        refine Tr.weak (Γ' := [(1, (pEq (.int .i64 budget_1))), (2, (pPtr (cGProblem p_0))), (7, (pEq (.int .i64 v12))), (26, (pEq (.slice g9.1 g9.2.1 g9.2.2))), (27, (pEq (.int .i64 (x8.length : Int)))), (28, (pEq (.int .i64 v13)))]) ⟨rfl, rfl, rfl, rfl, rfl, rfl, trivial⟩ ?_
        refine Tr.seq ?_
        refine Tr.block ?_
        refine Tr.seq ?_
        refine Tr.region ?_
        replace h := bind_some h; obtain ⟨x15, hx15, h⟩ := h
        refine RegL.pureW (p := (pEq (.pointer (some ⟨blk g9.1, (v13).toNat * 1, none⟩)))) rfl rfl rfl (W_rowIdx (j := 0) rfl Try.underlying26 sz2 (Opd.tmp rfl) (Opd.tmp rfl) rfl (idx_lt hx15)) ?_
        refine RegL.pureW (p := (pEq (.int .i64 x15))) rfl rfl rfl (W_rowLoad (j := 0) (f := (cK .i64)) rfl Try.isAgg2 (fun _ => rfl) (Opd.tmp rfl) rfl hx15 rfl) ?_
        refine RegL.pure (p := (pEq (.int .i64 x15))) rfl rfl rfl (J_assign rfl (Opd.tmp rfl)) ?_
        refine RegL.nil ?_
        refine Ct.then_tr ?_
        refine Tr.weak (Γ' := [(1, (pEq (.int .i64 budget_1))), (2, (pPtr (cGProblem p_0))), (7, (pEq (.int .i64 v12))), (9, (pEq (.int .i64 x15))), (26, (pEq (.slice g9.1 g9.2.1 g9.2.2))), (27, (pEq (.int .i64 (x8.length : Int)))), (28, (pEq (.int .i64 v13)))]) ⟨rfl, rfl, rfl, rfl, rfl, rfl, rfl, trivial⟩ ?_
        refine Tr.seq ?_
        refine Tr.seq ?_
        refine Tr.region ?_
        refine RegL.pure (p := (pEq (.int .i64 x15))) rfl rfl rfl (J_move rfl (Opd.tmp rfl)) ?_
        refine RegL.pure (p := (pEq (.bool (x15 == (0 : Int))))) rfl rfl rfl (J_bin rfl (Opd.tmp rfl) Opd.con B_eql) ?_
        refine RegL.nil ?_
        refine Ct.then_tr ?_
        refine Tr.weak (Γ' := [(1, (pEq (.int .i64 budget_1))), (2, (pPtr (cGProblem p_0))), (7, (pEq (.int .i64 v12))), (9, (pEq (.int .i64 x15))), (26, (pEq (.slice g9.1 g9.2.1 g9.2.2))), (27, (pEq (.int .i64 (x8.length : Int)))), (28, (pEq (.int .i64 v13))), (33, (pEq (.bool (x15 == (0 : Int)))))]) ⟨rfl, rfl, rfl, rfl, rfl, rfl, rfl, rfl, trivial⟩ ?_
        refine Tr.cond (Opd.tmp rfl) (fun hc => ?_) (fun hc => ?_)
        · replace h := bif_t hc h
          refine Tr.exit ?_
          refine Ct.then_exit ?_
          refine Ct.blk_exit ?_
          refine Ct.then_tr ?_
          refine Tr.weak (Γ' := [(1, (pEq (.int .i64 budget_1))), (2, (pPtr (cGProblem p_0))), (7, (pEq (.int .i64 v12))), (26, (pEq (.slice g9.1 g9.2.1 g9.2.2))), (27, (pEq (.int .i64 (x8.length : Int)))), (28, (pEq (.int .i64 v13)))]) ⟨rfl, rfl, rfl, rfl, rfl, rfl, trivial⟩ ?_
          refine Tr.region ?_
          refine RegL.pure (p := (pEq (.int .i64 (w64 (v13 + (1 : Int)))))) rfl rfl rfl (J_bin rfl (Opd.tmp rfl) Opd.con B_add) ?_
          refine RegL.pure (p := (pEq (.int .i64 (w64 (v13 + (1 : Int)))))) rfl rfl rfl (J_move rfl (Opd.tmp rfl)) ?_
          refine RegL.nil ?_
          replace h := Option.some.inj h; subst h
          exact Ct.again () rfl ⟨rfl, rfl, rfl, rfl, rfl, rfl, trivial⟩
        · replace h := bif_f hc h
          refine Tr.skip ?_
          refine Ct.then_tr ?_
          refine Tr.weak (Γ' := [(1, (pEq (.int .i64 budget_1))), (2, (pPtr (cGProblem p_0))), (7, (pEq (.int .i64 v12))), (9, (pEq (.int .i64 x15))), (26, (pEq (.slice g9.1 g9.2.1 g9.2.2))), (27, (pEq (.int .i64 (x8.length : Int)))), (28, (pEq (.int .i64 v13)))]) ⟨rfl, rfl, rfl, rfl, rfl, rfl, rfl, trivial⟩ ?_
          refine Tr.seq ?_
          refine Tr.region ?_
          refine RegL.pure (p := (pAgg (cGProblem p_0))) rfl rfl rfl (J_loadA rfl Try.isAgg29 sz29 (Opd.tmp rfl) rfl) ?_
          refine RegL.pure (p := (pEq (.int .i64 x15))) rfl rfl rfl (J_move rfl (Opd.tmp rfl)) ?_
          refine RegL.pure (p := (pEq (.int .i64 budget_1))) rfl rfl rfl (J_move rfl (Opd.tmp rfl)) ?_
          replace h := bind_some h; obtain ⟨x16, hx16, h⟩ := h
          refine RegL.pure (p := (pTup [(pSl 1 (cK .i64) x16.1), (pEq (.int .i64 x16.2))])) rfl rfl rfl (J_call rfl Try.call64 (c_impl_MaxClique hx16) (Opds.cons (Opd.tmp rfl) (Opds.cons (Opd.tmp rfl) (Opds.cons (Opd.tmp rfl) Opds.nil)))) ?_
          refine RegL.pure (p := (pTup [(pSl 1 (cK .i64) x16.1), (pEq (.int .i64 x16.2))])) rfl rfl rfl (J_move rfl (Opd.tmp rfl)) ?_
          refine RegL.pure (p := (pSl 1 (cK .i64) x16.1)) rfl rfl rfl (J_extract rfl (Opd.tmp rfl) rfl) ?_
          refine RegL.pure (p := (pEq (.int .i64 x16.2))) rfl rfl rfl (J_extract rfl (Opd.tmp rfl) rfl) ?_
          refine RegL.pure (p := (pSl 1 (cK .i64) x16.1)) rfl rfl rfl (J_assign rfl (Opd.tmp rfl)) ?_
          refine RegL.pure (p := (pEq (.int .i64 x16.2))) rfl rfl rfl (J_assign rfl (Opd.tmp rfl)) ?_
          refine RegL.nil ?_
          refine Ct.then_tr ?_
          refine Tr.weak (Γ' := [(1, (pEq (.int .i64 budget_1))), (2, (pPtr (cGProblem p_0))), (7, (pEq (.int .i64 v12))), (9, (pEq (.int .i64 x15))), (10, (pSl 1 (cK .i64) x16.1)), (11, (pEq (.int .i64 x16.2))), (26, (pEq (.slice g9.1 g9.2.1 g9.2.2))), (27, (pEq (.int .i64 (x8.length : Int)))), (28, (pEq (.int .i64 v13)))]) ⟨rfl, rfl, rfl, rfl, rfl, rfl, rfl, rfl, rfl, trivial⟩ ?_
          refine Tr.seq ?_
          refine Tr.seq ?_
          refine Tr.region ?_
          refine RegL.pure (p := (pEq (.int .i64 x16.2))) rfl rfl rfl (J_move rfl (Opd.tmp rfl)) ?_
          refine RegL.pure (p := (pEq (.bool (x16.2 != (0 : Int))))) rfl rfl rfl (J_bin rfl (Opd.tmp rfl) Opd.con B_neq) ?_
          refine RegL.nil ?_
          refine Ct.then_tr ?_
          refine Tr.weak (Γ' := [(1, (pEq (.int .i64 budget_1))), (2, (pPtr (cGProblem p_0))), (7, (pEq (.int .i64 v12))), (9, (pEq (.int .i64 x15))), (10, (pSl 1 (cK .i64) x16.1)), (11, (pEq (.int .i64 x16.2))), (26, (pEq (.slice g9.1 g9.2.1 g9.2.2))), (27, (pEq (.int .i64 (x8.length : Int)))), (28, (pEq (.int .i64 v13))), (42, (pEq (.bool (x16.2 != (0 : Int)))))]) ⟨rfl, rfl, rfl, rfl, rfl, rfl, rfl, rfl, rfl, rfl, trivial⟩ ?_
          refine Tr.cond (Opd.tmp rfl) (fun hc => ?_) (fun hc => ?_)
          · replace h := bif_t hc h
            refine Tr.seq ?_
            refine Tr.region ?_
            refine RegL.pure (p := (pEq (.int .i64 x16.2))) rfl rfl rfl (J_move rfl (Opd.tmp rfl)) ?_
            refine RegL.pure (p := (pEq (.int .i64 (0 : Int)))) rfl rfl rfl (J_assign rfl Opd.con) ?_
            refine RegL.pure (p := (pEq (.int .i64 x16.2))) rfl rfl rfl (J_assign rfl (Opd.tmp rfl)) ?_
            refine RegL.nil ?_
            refine Ct.then_tr ?_
            refine Tr.weak (Γ' := [(4, (pEq (.int .i64 (0 : Int)))), (5, (pEq (.int .i64 x16.2)))]) ⟨rfl, rfl, trivial⟩ ?_
            refine Tr.ret ?_
            refine Ct.then_ret ?_
            refine Ct.blk_ret ?_
            refine Ct.then_ret ?_
            replace h := map_some h; obtain ⟨r1, h, rfl⟩ := h
            refine Ct.out_ret fun e => ?_
            subst e
            refine Ct.blk_ret ?_
            refine Ct.then_ret ?_
            replace h := Option.some.inj h; subst h
            exact Ct.retH2 (Ωx := [oSl 2 1 (cK .i64) g9.1 g9.2.1 g9.2.2 x8]) () rfl (RvOk.tmp rfl) (RvOk.tmp rfl) rfl rfl
          · replace h := bif_f hc h
            refine Tr.skip ?_
            refine Ct.then_tr ?_
            refine Tr.weak (Γ' := [(1, (pEq (.int .i64 budget_1))), (2, (pPtr (cGProblem p_0))), (7, (pEq (.int .i64 v12))), (9, (pEq (.int .i64 x15))), (10, (pSl 1 (cK .i64) x16.1)), (26, (pEq (.slice g9.1 g9.2.1 g9.2.2))), (27, (pEq (.int .i64 (x8.length : Int)))), (28, (pEq (.int .i64 v13)))]) ⟨rfl, rfl, rfl, rfl, rfl, rfl, rfl, rfl, trivial⟩ ?_
            refine Tr.region ?_
            refine RegL.pure (p := (pEq (.int .i64 v12))) rfl rfl rfl (J_move rfl (Opd.tmp rfl)) ?_
            refine RegL.pure (p := (pEq (.int .i64 x15))) rfl rfl rfl (J_move rfl (Opd.tmp rfl)) ?_
            refine RegL.pure (p := (pSl 1 (cK .i64) x16.1)) rfl rfl rfl (J_move rfl (Opd.tmp rfl)) ?_
            refine RegL.pure (p := (pEq (.int .i64 (x16.1.length : Int)))) rfl rfl rfl (J_len rfl Try.underlying26 (Opd.tmp rfl) rfl) ?_
            refine RegL.pure (p := (pEq (.int .i64 (w64 ((x16.1.length : Int) - (1 : Int)))))) rfl rfl rfl (J_bin rfl (Opd.tmp rfl) Opd.con B_sub) ?_
            refine RegL.pure (p := (pEq (.int .i64 (w64 (x15 * (w64 ((x16.1.length : Int) - (1 : Int)))))))) rfl rfl rfl (J_bin rfl (Opd.tmp rfl) (Opd.tmp rfl) B_mul) ?_
            refine RegL.pure (p := (pEq (.int .i64 (if (w64 (x15 * (w64 ((x16.1.length : Int) - (1 : Int))))) > v12 then (w64 (x15 * (w64 ((x16.1.length : Int) - (1 : Int))))) else v12)))) rfl rfl rfl (J_max2 rfl (Opd.tmp rfl) (Opd.tmp rfl)) ?_
            refine RegL.pure (p := (pEq (.int .i64 (if (w64 (x15 * (w64 ((x16.1.length : Int) - (1 : Int))))) > v12 then (w64 (x15 * (w64 ((x16.1.length : Int) - (1 : Int))))) else v12)))) rfl rfl rfl (J_assign rfl (Opd.tmp rfl)) ?_
            refine RegL.nil ?_
            refine Ct.blk_normal ?_
            refine Ct.then_tr ?_
            refine Tr.weak (Γ' := [(1, (pEq (.int .i64 budget_1))), (2, (pPtr (cGProblem p_0))), (7, (pEq (.int .i64 (if (w64 (x15 * (w64 ((x16.1.length : Int) - (1 : Int))))) > v12 then (w64 (x15 * (w64 ((x16.1.length : Int) - (1 : Int))))) else v12)))), (26, (pEq (.slice g9.1 g9.2.1 g9.2.2))), (27, (pEq (.int .i64 (x8.length : Int)))), (28, (pEq (.int .i64 v13)))]) ⟨rfl, rfl, rfl, rfl, rfl, rfl, trivial⟩ ?_
            refine Tr.region ?_
            refine RegL.pure (p := (pEq (.int .i64 (w64 (v13 + (1 : Int)))))) rfl rfl rfl (J_bin rfl (Opd.tmp rfl) Opd.con B_add) ?_
            refine RegL.pure (p := (pEq (.int .i64 (w64 (v13 + (1 : Int)))))) rfl rfl rfl (J_move rfl (Opd.tmp rfl)) ?_
            refine RegL.nil ?_
            replace h := Option.some.inj h; subst h
            exact Ct.again () rfl ⟨rfl, rfl, rfl, rfl, rfl, rfl, trivial⟩
      · replace h := bif_f hc h
        refine Tr.exit ?_
        refine Ct.then_exit ?_
        replace h := map_some h; obtain ⟨r1, h, rfl⟩ := h
        refine Ct.out_exit fun e => ?_
        subst e
        refine Ct.blk_exit ?_
        refine Ct.then_tr ?_
        refine Tr.weak (Γ' := [(7, (pEq (.int .i64 v12)))]) ⟨rfl, trivial⟩ ?_
        refine Tr.seq ?_
        refine Tr.region ?_
        refine RegL.pure (p := (pEq (.int .i64 v12))) rfl rfl rfl (J_move rfl (Opd.tmp rfl)) ?_
        refine RegL.pure (p := (pEq (.int .i64 v12))) rfl rfl rfl (J_assign rfl (Opd.tmp rfl)) ?_
        refine RegL.pure (p := (pEq (.int .i64 (0 : Int)))) rfl rfl rfl (J_assign rfl Opd.con) ?_
        refine RegL.nil ?_
        refine Ct.then_tr ?_
        refine Tr.weak (Γ' := [(4, (pEq (.int .i64 v12))), (5, (pEq (.int .i64 (0 : Int))))]) ⟨rfl, rfl, trivial⟩ ?_
        refine Tr.ret ?_
        replace h := Option.some.inj h; subst h
        exact Ct.retH2 (Ωx := [oSl 2 1 (cK .i64) g9.1 g9.2.1 g9.2.2 x8]) () rfl (RvOk.tmp rfl) (RvOk.tmp rfl) rfl rfl


end Go.Proofs.Ytfadnbelnfofbaa.fnExactCliqueBoundW
