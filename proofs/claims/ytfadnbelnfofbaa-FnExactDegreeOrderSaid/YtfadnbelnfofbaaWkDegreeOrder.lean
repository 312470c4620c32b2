/-
  The walks that the law FnExactDegreeOrder reaches: each function computes its model. Printed by our own program.
-/
import Derived.Test.YtfadnbelnfofbaaProg
import Derived.Test.YtfadnbelnfofbaaMod
import Derived.Test.YtfadnbelnfofbaaZero
import Derived.KernelRfl
import Derived.Test.YtfadnbelnfofbaaWkDegreeOrderb
namespace Go.Proofs.Ytfadnbelnfofbaa.fnExactDegreeOrderW
open Go Go.RowKit Go.Wk
set_option linter.unusedVariables false
set_option maxRecDepth 100000


theorem c_laws_FnExactDegreeOrder {a_0 : GProblem} {r : Bool} (h : m_laws_FnExactDegreeOrder a_0 = some r) : CallJ Try.prog 3 [(pAgg (cGProblem a_0))] (pEq (.bool r)) := by
  unfold m_laws_FnExactDegreeOrder at h
  refine CallJ.enterH Try.func3 rfl Try.ntmps3 rfl fun W I0 H => ?_
  refine Tr.weak (Γ' := [(0, (pAgg (cGProblem a_0)))]) ⟨rfl, trivial⟩ ?_
  refine Tr.seq ?_
  refine Tr.region ?_
  refine RegL.pure (p := (pPtr (cGProblem a_0))) rfl rfl rfl (J_boxA rfl (Opd.tmp rfl)) ?_
  refine RegL.pure (p := (pEq (.bool false))) rfl rfl rfl (J_assign rfl Opd.con) ?_
  refine RegL.nil ?_
  refine Ct.then_tr ?_
  refine Tr.weak (Γ' := [(1, (pPtr (cGProblem a_0)))]) ⟨rfl, trivial⟩ ?_
  refine Tr.seq ?_
  refine Tr.region ?_
  refine RegL.pure (p := (pEq (.int .i64 (1048576 : Int)))) rfl rfl rfl (J_assign rfl Opd.con) ?_
  refine RegL.nil ?_
  refine Ct.then_tr ?_
  refine Tr.weak (Γ' := [(1, (pPtr (cGProblem a_0))), (3, (pEq (.int .i64 (1048576 : Int))))]) ⟨rfl, rfl, trivial⟩ ?_
  refine Tr.seq ?_
  refine Tr.region ?_
  refine RegL.pure (p := (pAgg (cGProblem a_0))) rfl rfl rfl (J_loadA rfl Try.isAgg24 sz24 (Opd.tmp rfl) rfl) ?_
  refine RegL.pure (p := (pEq (.int .i64 (1048576 : Int)))) rfl rfl rfl (J_move rfl (Opd.tmp rfl)) ?_
  replace h := bind_some h; obtain ⟨x1, hx1, h⟩ := h
  refine RegL.pure (p := (pEq (.int .i64 x1))) rfl rfl rfl (J_call rfl Try.call8 (c_laws_szProblem hx1) (Opds.cons (Opd.tmp rfl) (Opds.cons (Opd.tmp rfl) Opds.nil))) ?_
  refine RegL.pure (p := (pEq (.int .i64 x1))) rfl rfl rfl (J_assign rfl (Opd.tmp rfl)) ?_
  refine RegL.nil ?_
  refine Ct.then_tr ?_
  refine Tr.weak (Γ' := [(1, (pPtr (cGProblem a_0))), (3, (pEq (.int .i64 x1)))]) ⟨rfl, rfl, trivial⟩ ?_
  refine Tr.seq ?_
  refine Tr.seq ?_
  refine Tr.region ?_
  refine RegL.pure (p := (pEq (.int .i64 x1))) rfl rfl rfl (J_move rfl (Opd.tmp rfl)) ?_
  refine RegL.pure (p := (pEq (.bool (decide (x1 < (0 : Int)))))) rfl rfl rfl (J_bin rfl (Opd.tmp rfl) Opd.con B_lss) ?_
  refine RegL.nil ?_
  refine Ct.then_tr ?_
  refine Tr.weak (Γ' := [(1, (pPtr (cGProblem a_0))), (18, (pEq (.bool (decide (x1 < (0 : Int))))))]) ⟨rfl, rfl, trivial⟩ ?_
  refine Tr.cond (Opd.tmp rfl) (fun hc => ?_) (fun hc => ?_)
  · replace h := bif_t hc h
    refine Tr.seq ?_
    refine Tr.region ?_
    refine RegL.pure (p := (pEq (.bool true))) rfl rfl rfl (J_assign rfl Opd.con) ?_
    refine RegL.nil ?_
    refine Ct.then_tr ?_
    refine Tr.weak (Γ' := [(2, (pEq (.bool true)))]) ⟨rfl, trivial⟩ ?_
    refine Tr.ret ?_
    refine Ct.then_ret ?_
    replace h := Option.some.inj h; subst h
    exact Ct.retH1 (Ωx := []) () rfl (RvOk.tmp rfl) rfl
  · replace h := bif_f hc h
    refine Tr.skip ?_
    refine Ct.then_tr ?_
    refine Tr.weak (Γ' := [(1, (pPtr (cGProblem a_0)))]) ⟨rfl, trivial⟩ ?_
    refine Tr.seq ?_
    refine Tr.region ?_
    refine RegL.pure (p := (pAgg (cGProblem a_0))) rfl rfl rfl (J_loadA rfl Try.isAgg24 sz24 (Opd.tmp rfl) rfl) ?_
    replace h := bind_some h; obtain ⟨x2, hx2, h⟩ := h
    refine RegL.pure (p := (pAgg (cGProblem x2))) rfl rfl rfl (J_call rfl Try.call10 (c_laws_toProblem hx2) (Opds.cons (Opd.tmp rfl) Opds.nil)) ?_
    replace h := bind_some h; obtain ⟨x3, hx3, h⟩ := h
    refine RegL.pure (p := (pTup [(pSl 1 (cK .i64) x3.1), (pEq (.int .i64 x3.2))])) rfl rfl rfl (J_call rfl Try.call9 (c_spec_DegreeOrder hx3) (Opds.cons (Opd.tmp rfl) Opds.nil)) ?_
    refine RegL.pure (p := (pTup [(pSl 1 (cK .i64) x3.1), (pEq (.int .i64 x3.2))])) rfl rfl rfl (J_move rfl (Opd.tmp rfl)) ?_
    refine RegL.pure (p := (pSl 1 (cK .i64) x3.1)) rfl rfl rfl (J_extract rfl (Opd.tmp rfl) rfl) ?_
    refine RegL.pure (p := (pEq (.int .i64 x3.2))) rfl rfl rfl (J_extract rfl (Opd.tmp rfl) rfl) ?_
    refine RegL.pure (p := (pSl 1 (cK .i64) x3.1)) rfl rfl rfl (J_assign rfl (Opd.tmp rfl)) ?_
    refine RegL.pure (p := (pEq (.int .i64 x3.2))) rfl rfl rfl (J_assign rfl (Opd.tmp rfl)) ?_
    refine RegL.nil ?_
    refine Ct.then_tr ?_
    refine Tr.weak (Γ' := [(1, (pPtr (cGProblem a_0))), (4, (pSl 1 (cK .i64) x3.1)), (5, (pEq (.int .i64 x3.2)))]) ⟨rfl, rfl, rfl, trivial⟩ ?_
    refine Tr.seq ?_
    refine Tr.region ?_
    refine RegL.pure (p := (pAgg (cGProblem a_0))) rfl rfl rfl (J_loadA rfl Try.isAgg24 sz24 (Opd.tmp rfl) rfl) ?_
    replace h := bind_some h; obtain ⟨x4, hx4, h⟩ := h
    refine RegL.step (γ := ((G3 × List G3) × (G3 × List G3))) (p := fun g => (pAgg [(pEq (.slice g.1.1.1 g.1.1.2.1 g.1.1.2.2)), (pEq (.slice g.2.1.1 g.2.1.2.1 g.2.1.2.2))])) (Ω' := fun g => [oSS 26 2 1 (cK .i64) g.1.1.1 g.1.1.2.1 g.1.1.2.2 g.1.2 x4.Domains, oSS 26 2 1 (cK .i64) g.2.1.1 g.2.1.2.1 g.2.1.2.2 g.2.2 x4.Apart]) rfl rfl rfl (M_callH (Ωi := []) rfl Try.call10 (o_laws_toProblem hx4) (Opds.cons (Opd.tmp rfl) Opds.nil)) fun g5 => ?_
    refine RegL.step (γ := Nat) (p := fun b => pEq (.pointer (some ⟨b, 0, none⟩))) (Ω' := fun b => [oBlk b [(pEq (.slice none 0 0)), (pEq (.slice none 0 0))], oSS 26 2 1 (cK .i64) g5.1.1.1 g5.1.1.2.1 g5.1.1.2.2 g5.1.2 x4.Domains, oSS 26 2 1 (cK .i64) g5.2.1.1 g5.2.1.2.1 g5.2.1.2.2 g5.2.2 x4.Apart]) rfl rfl rfl (M_alloc rfl zero29) fun b8 => ?_
    refine RegL.stepN (γ := Unit) (p := fun _ => pAny) (Ω' := fun _ => [oBlk b8 [(pEq (.slice g5.1.1.1 g5.1.1.2.1 g5.1.1.2.2)), (pEq (.slice g5.2.1.1 g5.2.1.2.1 g5.2.1.2.2))], oSS 26 2 1 (cK .i64) g5.1.1.1 g5.1.1.2.1 g5.1.1.2.2 g5.1.2 x4.Domains, oSS 26 2 1 (cK .i64) g5.2.1.1 g5.2.1.2.1 g5.2.1.2.2 g5.2.2 x4.Apart]) rfl rfl (M_storeA rfl sz29 (Opd.tmp rfl) (Opd.tmp rfl) (fun _ _ _ h => ones_of ((OneCs.cons OneC.slice (OneCs.cons OneC.slice OneCs.nil))) h) rfl rfl) fun g9 => ?_
    refine RegL.nil ?_
    refine Ct.then_tr ?_
    refine Tr.weak (Γ' := [(1, (pPtr (cGProblem a_0))), (4, (pSl 1 (cK .i64) x3.1)), (5, (pEq (.int .i64 x3.2))), (6, (pEq (.pointer (some ⟨b8, 0, none⟩))))]) ⟨rfl, rfl, rfl, rfl, trivial⟩ ?_
    refine Tr.seq ?_
    refine Tr.region ?_
    refine RegL.pureW (p := (pAgg [(pEq (.slice g5.1.1.1 g5.1.1.2.1 g5.1.1.2.2)), (pEq (.slice g5.2.1.1 g5.2.1.2.1 g5.2.1.2.2))])) rfl rfl rfl (W_loadA (i := 0) rfl Try.isAgg29 sz29 (Opd.tmp rfl) rfl rfl) ?_
    replace h := bind_some h; obtain ⟨x10, hx10, h⟩ := h
    refine RegL.step (γ := G3) (p := fun g => (pTup [(pEq (.slice g.1 g.2.1 g.2.2)), (pEq (.int .i64 x10.2))])) (Ω' := fun g => [oSl 2 1 (cK .i64) g.1 g.2.1 g.2.2 x10.1, oBlk b8 [(pEq (.slice g5.1.1.1 g5.1.1.2.1 g5.1.1.2.2)), (pEq (.slice g5.2.1.1 g5.2.1.2.1 g5.2.1.2.2))], oSS 26 2 1 (cK .i64) g5.1.1.1 g5.1.1.2.1 g5.1.1.2.2 g5.1.2 x4.Domains, oSS 26 2 1 (cK .i64) g5.2.1.1 g5.2.1.2.1 g5.2.1.2.2 g5.2.2 x4.Apart]) rfl rfl rfl (M_callHB (Ωi := []) rfl Try.call11 (o_impl_DegreeOrder hx10) (OpdsA.cons (OpdA.conv rfl (Conv.agg (Convs.cons (Conv.nest 1 (fun _ => rfl) rfl) (Convs.cons (Conv.nest 2 (fun _ => rfl) rfl) Convs.nil)))) OpdsA.nil) (fun _ => (FreeP.tup ⟨FreeP.eq, ⟨FreeP.eq, trivial⟩⟩)) (fun _ => ⟨(FreeO.sl (fun _ => ⟨FreeP.eq, trivial⟩)), trivial⟩)) fun g11 => ?_
    refine RegL.pure (p := (pTup [(pEq (.slice g11.1 g11.2.1 g11.2.2)), (pEq (.int .i64 x10.2))])) rfl rfl rfl (J_move rfl (Opd.tmp rfl)) ?_
    refine RegL.pure (p := (pEq (.slice g11.1 g11.2.1 g11.2.2))) rfl rfl rfl (J_extract rfl (Opd.tmp rfl) rfl) ?_
    refine RegL.pure (p := (pEq (.int .i64 x10.2))) rfl rfl rfl (J_extract rfl (Opd.tmp rfl) rfl) ?_
    refine RegL.pure (p := (pEq (.slice g11.1 g11.2.1 g11.2.2))) rfl rfl rfl (J_assign rfl (Opd.tmp rfl)) ?_
    refine RegL.pure (p := (pEq (.int .i64 x10.2))) rfl rfl rfl (J_assign rfl (Opd.tmp rfl)) ?_
    refine RegL.nil ?_
    refine Ct.then_tr ?_
    refine Tr.weak (Γ' := [(1, (pPtr (cGProblem a_0))), (4, (pSl 1 (cK .i64) x3.1)), (5, (pEq (.int .i64 x3.2))), (6, (pEq (.pointer (some ⟨b8, 0, none⟩)))), (7, (pEq (.slice g11.1 g11.2.1 g11.2.2))), (8, (pEq (.int .i64 x10.2)))]) ⟨rfl, rfl, rfl, rfl, rfl, rfl, trivial⟩ ?_
    refine Tr.seq ?_
    refine Tr.seq ?_
    replace h := bind_some h; obtain ⟨x13, hx13, h⟩ := h
    refine Tr.cut (γ := Unit) (Γm := fun g => [(1, (pPtr (cGProblem a_0))), (4, (pSl 1 (cK .i64) x3.1)), (5, (pEq (.int .i64 x3.2))), (6, (pEq (.pointer (some ⟨b8, 0, none⟩)))), (7, (pEq (.slice g11.1 g11.2.1 g11.2.2))), (8, (pEq (.int .i64 x10.2))), (40, (pEq (.bool x13)))]) (Ωm := fun g => [oSl 2 1 (cK .i64) g11.1 g11.2.1 g11.2.2 x10.1, oBlk b8 [(pEq (.slice g5.1.1.1 g5.1.1.2.1 g5.1.1.2.2)), (pEq (.slice g5.2.1.1 g5.2.1.2.1 g5.2.1.2.2))], oSS 26 2 1 (cK .i64) g5.1.1.1 g5.1.1.2.1 g5.1.1.2.2 g5.1.2 x4.Domains, oSS 26 2 1 (cK .i64) g5.2.1.1 g5.2.1.2.1 g5.2.1.2.2 g5.2.2 x4.Apart]) ?_ (fun g16 => ?_)
    · clear h
      have h := hx13
      clear hx13
      refine Tr.region ?_
      refine RegL.pure (p := (pEq (.slice g11.1 g11.2.1 g11.2.2))) rfl rfl rfl (J_move rfl (Opd.tmp rfl)) ?_
      refine RegL.pure (p := (pSl 1 (cK .i64) x3.1)) rfl rfl rfl (J_move rfl (Opd.tmp rfl)) ?_
      replace h := bind_some h; obtain ⟨x14, hx14, h⟩ := h
      refine RegL.pureW (p := (pEq (.bool x14))) rfl rfl rfl (W_call rfl Try.call12 (c_laws_eqInt64S hx14) (OpdsA.cons (OpdA.conv rfl (Conv.row (f := (cK .i64)) 0 (fun _ => rfl) rfl)) (OpdsA.cons (OpdA.of (Opd.tmp rfl)) OpdsA.nil)) FreeP.eq) ?_
      refine RegL.pure (p := (pEq (.bool (!x14)))) rfl rfl rfl (J_not rfl (Opd.tmp rfl)) ?_
      refine RegL.pure (p := (pEq (.bool (!x14)))) rfl rfl rfl (J_move rfl (Opd.tmp rfl)) ?_
      rcases Bool.eq_false_or_eq_true (!x14) with hc15 | hc15
      · replace h := bif_t hc15 h
        refine RegL.skipG rfl rfl rfl hc15 rfl rfl ?_
        refine RegL.skipG rfl rfl rfl hc15 rfl rfl ?_
        refine RegL.skipG rfl rfl rfl hc15 rfl rfl ?_
        refine RegL.pure (p := (pEq (.bool true))) rfl rfl rfl (J_pick rfl (Opd.tmp rfl) (fun _ => Opd.con) (fun hf => absurd (hc15.symm.trans hf) (by decide))) ?_
        refine RegL.nil ?_
        replace h := Option.some.inj h; subst h
        exact Ct.mid () rfl ⟨rfl, rfl, rfl, rfl, rfl, rfl, rfl, trivial⟩
      · replace h := bif_f hc15 h
        refine RegL.pureG (p := (pEq (.int .i64 x10.2))) rfl rfl rfl hc15 rfl rfl (J_move rfl (Opd.tmp rfl)) ?_
        refine RegL.pureG (p := (pEq (.int .i64 x3.2))) rfl rfl rfl hc15 rfl rfl (J_move rfl (Opd.tmp rfl)) ?_
        refine RegL.pureG (p := (pEq (.bool (x10.2 != x3.2)))) rfl rfl rfl hc15 rfl rfl (J_bin rfl (Opd.tmp rfl) (Opd.tmp rfl) B_neq) ?_
        refine RegL.pure (p := (pEq (.bool (x10.2 != x3.2)))) rfl rfl rfl (J_pick rfl (Opd.tmp rfl) (fun hf => absurd (hc15.symm.trans hf) (by decide)) (fun _ => (Opd.tmp rfl))) ?_
        refine RegL.nil ?_
        replace h := Option.some.inj h; subst h
        exact Ct.mid () rfl ⟨rfl, rfl, rfl, rfl, rfl, rfl, rfl, trivial⟩
    · clear hx13
      refine Ct.then_tr ?_
      refine Tr.weak (Γ' := [(1, (pPtr (cGProblem a_0))), (4, (pSl 1 (cK .i64) x3.1)), (5, (pEq (.int .i64 x3.2))), (6, (pEq (.pointer (some ⟨b8, 0, none⟩)))), (7, (pEq (.slice g11.1 g11.2.1 g11.2.2))), (8, (pEq (.int .i64 x10.2))), (40, (pEq (.bool x13)))]) ⟨rfl, rfl, rfl, rfl, rfl, rfl, rfl, trivial⟩ ?_
      refine Tr.cond (Opd.tmp rfl) (fun hc => ?_) (fun hc => ?_)
      · replace h := bif_t hc h
        refine Tr.seq ?_
        refine Tr.region ?_
        refine RegL.pure (p := (pEq (.bool false))) rfl rfl rfl (J_assign rfl Opd.con) ?_
        refine RegL.nil ?_
        refine Ct.then_tr ?_
        refine Tr.weak (Γ' := [(2, (pEq (.bool false)))]) ⟨rfl, trivial⟩ ?_
        refine Tr.ret ?_
        refine Ct.then_ret ?_
        replace h := Option.some.inj h; subst h
        exact Ct.retH1 (Ωx := [oSl 2 1 (cK .i64) g11.1 g11.2.1 g11.2.2 x10.1, oBlk b8 [(pEq (.slice g5.1.1.1 g5.1.1.2.1 g5.1.1.2.2)), (pEq (.slice g5.2.1.1 g5.2.1.2.1 g5.2.1.2.2))], oSS 26 2 1 (cK .i64) g5.1.1.1 g5.1.1.2.1 g5.1.1.2.2 g5.1.2 x4.Domains, oSS 26 2 1 (cK .i64) g5.2.1.1 g5.2.1.2.1 g5.2.1.2.2 g5.2.2 x4.Apart]) () rfl (RvOk.tmp rfl) rfl
      · replace h := bif_f hc h
        refine Tr.skip ?_
        refine Ct.then_tr ?_
        refine Tr.weak (Γ' := [(1, (pPtr (cGProblem a_0))), (4, (pSl 1 (cK .i64) x3.1)), (5, (pEq (.int .i64 x3.2))), (6, (pEq (.pointer (some ⟨b8, 0, none⟩)))), (7, (pEq (.slice g11.1 g11.2.1 g11.2.2))), (8, (pEq (.int .i64 x10.2)))]) ⟨rfl, rfl, rfl, rfl, rfl, rfl, trivial⟩ ?_
        refine Tr.seq ?_
        refine Tr.seq ?_
        replace h := bind_some h; obtain ⟨x17, hx17, h⟩ := h
        replace h := bind_some h; obtain ⟨x18, hx18, h⟩ := h
        refine Tr.drawD (n := 96) (m := 5) (es := [some (Ent.mk [(6, (pEq (.pointer (some ⟨b8, 0, none⟩))))] (pAgg [(pEq (.slice g5.1.1.1 g5.1.1.2.1 g5.1.1.2.2)), (pEq (.slice g5.2.1.1 g5.2.1.2.1 g5.2.1.2.2))]) true), some (Ent.mk [(1, (pPtr (cGProblem a_0)))] (pAgg (cGProblem a_0)) true), some (Ent.mk [(42, (pAgg (cGProblem a_0)))] (pAgg (cGProblem x17)) true), some (Ent.mk [(41, (pAgg [(pEq (.slice g5.1.1.1 g5.1.1.2.1 g5.1.1.2.2)), (pEq (.slice g5.2.1.1 g5.2.1.2.1 g5.2.1.2.2))])), (43, (pAgg (cGProblem x17)))] (pEq (.bool x18)) true), some (Ent.mk [(44, (pEq (.bool x18)))] (pEq (.bool (!x18))) true)]) (rd := [[6], [1], [42], [41, 43], [44]]) rfl hmix (by kernel_rfl) fun hD => ?_
        refine RD.fin (es := [Ent.mk [(6, (pEq (.pointer (some ⟨b8, 0, none⟩))))] (pAgg [(pEq (.slice g5.1.1.1 g5.1.1.2.1 g5.1.1.2.2)), (pEq (.slice g5.2.1.1 g5.2.1.2.1 g5.2.1.2.2))]) true, Ent.mk [(1, (pPtr (cGProblem a_0)))] (pAgg (cGProblem a_0)) true, Ent.mk [(42, (pAgg (cGProblem a_0)))] (pAgg (cGProblem x17)) true, Ent.mk [(41, (pAgg [(pEq (.slice g5.1.1.1 g5.1.1.2.1 g5.1.1.2.2)), (pEq (.slice g5.2.1.1 g5.2.1.2.1 g5.2.1.2.2))])), (43, (pAgg (cGProblem x17)))] (pEq (.bool x18)) true, Ent.mk [(44, (pEq (.bool x18)))] (pEq (.bool (!x18))) true]) (done := []) hD ⟨.inr ⟨(W_loadA (i := 1) rfl Try.isAgg29 sz29 (Opd.tmp rfl) rfl rfl), ⟨rfl, trivial⟩, rfl, rfl⟩, ⟨.inr ⟨(OpJ.w (J_loadA rfl Try.isAgg24 sz24 (Opd.tmp rfl) rfl)), ⟨rfl, trivial⟩, rfl, rfl⟩, ⟨.inr ⟨(OpJ.w (J_call rfl Try.call10 (c_laws_toProblem hx17) (Opds.cons (Opd.tmp rfl) Opds.nil))), ⟨rfl, trivial⟩, rfl, rfl⟩, ⟨.inr ⟨(W_call rfl Try.call13 (c_laws_eqProblem hx18) (OpdsA.cons (OpdA.conv rfl (Conv.agg (Convs.cons (Conv.nest 2 (fun _ => rfl) rfl) (Convs.cons (Conv.nest 3 (fun _ => rfl) rfl) Convs.nil)))) (OpdsA.cons (OpdA.of (Opd.tmp rfl)) OpdsA.nil)) FreeP.eq), ⟨rfl, rfl, trivial⟩, rfl, rfl⟩, ⟨.inr ⟨(OpJ.w (J_not rfl (Opd.tmp rfl))), ⟨rfl, trivial⟩, rfl, rfl⟩, trivial⟩⟩⟩⟩⟩ ?_
        refine RegL.nil ?_
        refine Ct.then_tr ?_
        refine Tr.weak (Γ' := [(1, (pPtr (cGProblem a_0))), (4, (pSl 1 (cK .i64) x3.1)), (5, (pEq (.int .i64 x3.2))), (6, (pEq (.pointer (some ⟨b8, 0, none⟩)))), (7, (pEq (.slice g11.1 g11.2.1 g11.2.2))), (8, (pEq (.int .i64 x10.2))), (45, (pEq (.bool (!x18))))]) ⟨rfl, rfl, rfl, rfl, rfl, rfl, rfl, trivial⟩ ?_
        refine Tr.cond (Opd.tmp rfl) (fun hc => ?_) (fun hc => ?_)
        · replace h := bif_t hc h
          refine Tr.seq ?_
          refine Tr.region ?_
          refine RegL.pure (p := (pEq (.bool false))) rfl rfl rfl (J_assign rfl Opd.con) ?_
          refine RegL.nil ?_
          refine Ct.then_tr ?_
          refine Tr.weak (Γ' := [(2, (pEq (.bool false)))]) ⟨rfl, trivial⟩ ?_
          refine Tr.ret ?_
          refine Ct.then_ret ?_
          replace h := Option.some.inj h; subst h
          exact Ct.retH1 (Ωx := [oSl 2 1 (cK .i64) g11.1 g11.2.1 g11.2.2 x10.1, oBlk b8 [(pEq (.slice g5.1.1.1 g5.1.1.2.1 g5.1.1.2.2)), (pEq (.slice g5.2.1.1 g5.2.1.2.1 g5.2.1.2.2))], oSS 26 2 1 (cK .i64) g5.1.1.1 g5.1.1.2.1 g5.1.1.2.2 g5.1.2 x4.Domains, oSS 26 2 1 (cK .i64) g5.2.1.1 g5.2.1.2.1 g5.2.1.2.2 g5.2.2 x4.Apart]) () rfl (RvOk.tmp rfl) rfl
        · replace h := bif_f hc h
          refine Tr.skip ?_
          refine Ct.then_tr ?_
          refine Tr.weak (Γ' := [(1, (pPtr (cGProblem a_0))), (4, (pSl 1 (cK .i64) x3.1)), (5, (pEq (.int .i64 x3.2))), (6, (pEq (.pointer (some ⟨b8, 0, none⟩)))), (7, (pEq (.slice g11.1 g11.2.1 g11.2.2))), (8, (pEq (.int .i64 x10.2)))]) ⟨rfl, rfl, rfl, rfl, rfl, rfl, trivial⟩ ?_
          refine Tr.seq ?_
          refine Tr.region ?_
          refine RegL.pure (p := (pEq (.int .i64 (1 : Int)))) rfl rfl rfl (J_assign rfl Opd.con) ?_
          refine RegL.nil ?_
          refine Ct.then_tr ?_
          refine Tr.weak (Γ' := [(1, (pPtr (cGProblem a_0))), (4, (pSl 1 (cK .i64) x3.1)), (5, (pEq (.int .i64 x3.2))), (6, (pEq (.pointer (some ⟨b8, 0, none⟩)))), (7, (pEq (.slice g11.1 g11.2.1 g11.2.2))), (8, (pEq (.int .i64 x10.2))), (9, (pEq (.int .i64 (1 : Int))))]) ⟨rfl, rfl, rfl, rfl, rfl, rfl, rfl, trivial⟩ ?_
          refine Tr.seq ?_
          refine Tr.region ?_
          refine RegL.pureW (p := (pAgg [(pEq (.slice g5.1.1.1 g5.1.1.2.1 g5.1.1.2.2)), (pEq (.slice g5.2.1.1 g5.2.1.2.1 g5.2.1.2.2))])) rfl rfl rfl (W_loadA (i := 1) rfl Try.isAgg29 sz29 (Opd.tmp rfl) rfl rfl) ?_
          refine RegL.pure (p := (pEq (.int .i64 (1 : Int)))) rfl rfl rfl (J_move rfl (Opd.tmp rfl)) ?_
          replace h := bind_some h; obtain ⟨x19, hx19, h⟩ := h
          refine RegL.re (Ω2 := [oSS 26 2 1 (cK .i64) g5.2.1.1 g5.2.1.2.1 g5.2.1.2.2 g5.2.2 x4.Apart, oSl 2 1 (cK .i64) g11.1 g11.2.1 g11.2.2 x10.1, oBlk b8 [(pEq (.slice g5.1.1.1 g5.1.1.2.1 g5.1.1.2.2)), (pEq (.slice g5.2.1.1 g5.2.1.2.1 g5.2.1.2.2))], oSS 26 2 1 (cK .i64) g5.1.1.1 g5.1.1.2.1 g5.1.1.2.2 g5.1.2 x4.Domains]) (fun h => SatO.pick 3 h) ?_
          refine RegL.re (Ω2 := [oSS 26 2 1 (cK .i64) g5.1.1.1 g5.1.1.2.1 g5.1.1.2.2 g5.1.2 x4.Domains, oSS 26 2 1 (cK .i64) g5.2.1.1 g5.2.1.2.1 g5.2.1.2.2 g5.2.2 x4.Apart, oSl 2 1 (cK .i64) g11.1 g11.2.1 g11.2.2 x10.1, oBlk b8 [(pEq (.slice g5.1.1.1 g5.1.1.2.1 g5.1.1.2.2)), (pEq (.slice g5.2.1.1 g5.2.1.2.1 g5.2.1.2.2))]]) (fun h => SatO.pick 3 h) ?_
          refine RegL.step (γ := Unit) (p := fun g => (pEq (.int .i64 x19.1))) (Ω' := fun g => [oSS 26 2 1 (cK .i64) g5.1.1.1 g5.1.1.2.1 g5.1.1.2.2 g5.1.2 x19.2.1, oSS 26 2 1 (cK .i64) g5.2.1.1 g5.2.1.2.1 g5.2.1.2.2 g5.2.2 x19.2.2, oSl 2 1 (cK .i64) g11.1 g11.2.1 g11.2.2 x10.1, oBlk b8 [(pEq (.slice g5.1.1.1 g5.1.1.2.1 g5.1.1.2.2)), (pEq (.slice g5.2.1.1 g5.2.1.2.1 g5.2.1.2.2))]]) rfl rfl rfl (M_callH (Ωi := [oSS 26 2 1 (cK .i64) g5.1.1.1 g5.1.1.2.1 g5.1.1.2.2 g5.1.2 x4.Domains, oSS 26 2 1 (cK .i64) g5.2.1.1 g5.2.1.2.1 g5.2.1.2.2 g5.2.2 x4.Apart]) rfl Try.call14 (o_laws_markProblem hx19) (Opds.cons (Opd.tmp rfl) (Opds.cons (Opd.tmp rfl) Opds.nil))) fun g20 => ?_
          refine RegL.pure (p := (pEq (.int .i64 x19.1))) rfl rfl rfl (J_assign rfl (Opd.tmp rfl)) ?_
          refine RegL.nil ?_
          refine Ct.then_tr ?_
          refine Tr.weak (Γ' := [(1, (pPtr (cGProblem a_0))), (4, (pSl 1 (cK .i64) x3.1)), (5, (pEq (.int .i64 x3.2))), (7, (pEq (.slice g11.1 g11.2.1 g11.2.2))), (8, (pEq (.int .i64 x10.2))), (9, (pEq (.int .i64 x19.1)))]) ⟨rfl, rfl, rfl, rfl, rfl, rfl, trivial⟩ ?_
          refine Tr.seq ?_
          refine Tr.seq ?_
          replace h := bind_some h; obtain ⟨x21, hx21, h⟩ := h
          refine Tr.cut (γ := Unit) (Γm := fun g => [(1, (pPtr (cGProblem a_0))), (4, (pSl 1 (cK .i64) x3.1)), (5, (pEq (.int .i64 x3.2))), (7, (pEq (.slice g11.1 g11.2.1 g11.2.2))), (61, (pEq (.bool x21)))]) (Ωm := fun g => [oSl 2 1 (cK .i64) g11.1 g11.2.1 g11.2.2 x10.1]) ?_ (fun g25 => ?_)
          · clear h
            have h := hx21
            clear hx21
            refine Tr.region ?_
            refine RegL.pure (p := (pEq (.int .i64 x19.1))) rfl rfl rfl (J_move rfl (Opd.tmp rfl)) ?_
            refine RegL.pure (p := (pEq (.bool (decide (x19.1 < (0 : Int)))))) rfl rfl rfl (J_bin rfl (Opd.tmp rfl) Opd.con B_lss) ?_
            refine RegL.pure (p := (pEq (.bool (decide (x19.1 < (0 : Int)))))) rfl rfl rfl (J_move rfl (Opd.tmp rfl)) ?_
            rcases Bool.eq_false_or_eq_true (decide (x19.1 < (0 : Int))) with hc22 | hc22
            · replace h := bif_t hc22 h
              refine RegL.skipG rfl rfl rfl hc22 rfl rfl ?_
              refine RegL.skipG rfl rfl rfl hc22 rfl rfl ?_
              refine RegL.skipG rfl rfl rfl hc22 rfl rfl ?_
              refine RegL.skipG rfl rfl rfl hc22 rfl rfl ?_
              refine RegL.pure (p := (pEq (.bool true))) rfl rfl rfl (J_pick rfl (Opd.tmp rfl) (fun _ => Opd.con) (fun hf => absurd (hc22.symm.trans hf) (by decide))) ?_
              refine RegL.pure (p := (pEq (.bool true))) rfl rfl rfl (J_move rfl (Opd.tmp rfl)) ?_
              refine RegL.skipG rfl rfl rfl rfl rfl rfl ?_
              refine RegL.skipG rfl rfl rfl rfl rfl rfl ?_
              refine RegL.skipG rfl rfl rfl rfl rfl rfl ?_
              refine RegL.pure (p := (pEq (.bool true))) rfl rfl rfl (J_pick rfl (Opd.tmp rfl) (fun _ => Opd.con) (fun hf => absurd hf (by decide))) ?_
              refine RegL.nil ?_
              refine Ct.re (Ω2 := [oSS 26 2 1 (cK .i64) g5.2.1.1 g5.2.1.2.1 g5.2.1.2.2 g5.2.2 x19.2.2, oSl 2 1 (cK .i64) g11.1 g11.2.1 g11.2.2 x10.1, oBlk b8 [(pEq (.slice g5.1.1.1 g5.1.1.2.1 g5.1.1.2.2)), (pEq (.slice g5.2.1.1 g5.2.1.2.1 g5.2.1.2.2))]]) (fun h => SatO.rest h) ?_
              refine Ct.re (Ω2 := [oSl 2 1 (cK .i64) g11.1 g11.2.1 g11.2.2 x10.1, oBlk b8 [(pEq (.slice g5.1.1.1 g5.1.1.2.1 g5.1.1.2.2)), (pEq (.slice g5.2.1.1 g5.2.1.2.1 g5.2.1.2.2))]]) (fun h => SatO.rest h) ?_
              refine Ct.re (Ω2 := [oBlk b8 [(pEq (.slice g5.1.1.1 g5.1.1.2.1 g5.1.1.2.2)), (pEq (.slice g5.2.1.1 g5.2.1.2.1 g5.2.1.2.2))], oSl 2 1 (cK .i64) g11.1 g11.2.1 g11.2.2 x10.1]) (fun h => SatO.pick 1 h) ?_
              refine Ct.re (Ω2 := [oSl 2 1 (cK .i64) g11.1 g11.2.1 g11.2.2 x10.1]) (fun h => SatO.rest h) ?_
              replace h := Option.some.inj h; subst h
              exact Ct.mid () rfl ⟨rfl, rfl, rfl, rfl, rfl, trivial⟩
            · replace h := bif_f hc22 h
              refine RegL.pureG (p := (pEq (.slice g11.1 g11.2.1 g11.2.2))) rfl rfl rfl hc22 rfl rfl (J_move rfl (Opd.tmp rfl)) ?_
              refine RegL.pureG (p := (pSl 1 (cK .i64) x3.1)) rfl rfl rfl hc22 rfl rfl (J_move rfl (Opd.tmp rfl)) ?_
              replace h := bind_some h; obtain ⟨x23, hx23, h⟩ := h
              refine RegL.pureGW (p := (pEq (.bool x23))) rfl rfl rfl hc22 rfl rfl (W_call rfl Try.call12 (c_laws_eqInt64S hx23) (OpdsA.cons (OpdA.conv rfl (Conv.row (f := (cK .i64)) 2 (fun _ => rfl) rfl)) (OpdsA.cons (OpdA.of (Opd.tmp rfl)) OpdsA.nil)) FreeP.eq) ?_
              refine RegL.pureG (p := (pEq (.bool (!x23)))) rfl rfl rfl hc22 rfl rfl (J_not rfl (Opd.tmp rfl)) ?_
              refine RegL.pure (p := (pEq (.bool (!x23)))) rfl rfl rfl (J_pick rfl (Opd.tmp rfl) (fun hf => absurd (hc22.symm.trans hf) (by decide)) (fun _ => (Opd.tmp rfl))) ?_
              refine RegL.pure (p := (pEq (.bool (!x23)))) rfl rfl rfl (J_move rfl (Opd.tmp rfl)) ?_
              rcases Bool.eq_false_or_eq_true (!x23) with hc24 | hc24
              · replace h := bif_t hc24 h
                refine RegL.skipG rfl rfl rfl hc24 rfl rfl ?_
                refine RegL.skipG rfl rfl rfl hc24 rfl rfl ?_
                refine RegL.skipG rfl rfl rfl hc24 rfl rfl ?_
                refine RegL.pure (p := (pEq (.bool true))) rfl rfl rfl (J_pick rfl (Opd.tmp rfl) (fun _ => Opd.con) (fun hf => absurd (hc24.symm.trans hf) (by decide))) ?_
                refine RegL.nil ?_
                refine Ct.re (Ω2 := [oSS 26 2 1 (cK .i64) g5.2.1.1 g5.2.1.2.1 g5.2.1.2.2 g5.2.2 x19.2.2, oSl 2 1 (cK .i64) g11.1 g11.2.1 g11.2.2 x10.1, oBlk b8 [(pEq (.slice g5.1.1.1 g5.1.1.2.1 g5.1.1.2.2)), (pEq (.slice g5.2.1.1 g5.2.1.2.1 g5.2.1.2.2))]]) (fun h => SatO.rest h) ?_
                refine Ct.re (Ω2 := [oSl 2 1 (cK .i64) g11.1 g11.2.1 g11.2.2 x10.1, oBlk b8 [(pEq (.slice g5.1.1.1 g5.1.1.2.1 g5.1.1.2.2)), (pEq (.slice g5.2.1.1 g5.2.1.2.1 g5.2.1.2.2))]]) (fun h => SatO.rest h) ?_
                refine Ct.re (Ω2 := [oBlk b8 [(pEq (.slice g5.1.1.1 g5.1.1.2.1 g5.1.1.2.2)), (pEq (.slice g5.2.1.1 g5.2.1.2.1 g5.2.1.2.2))], oSl 2 1 (cK .i64) g11.1 g11.2.1 g11.2.2 x10.1]) (fun h => SatO.pick 1 h) ?_
                refine Ct.re (Ω2 := [oSl 2 1 (cK .i64) g11.1 g11.2.1 g11.2.2 x10.1]) (fun h => SatO.rest h) ?_
                replace h := Option.some.inj h; subst h
                exact Ct.mid () rfl ⟨rfl, rfl, rfl, rfl, rfl, trivial⟩
              · replace h := bif_f hc24 h
                refine RegL.pureG (p := (pEq (.int .i64 x10.2))) rfl rfl rfl hc24 rfl rfl (J_move rfl (Opd.tmp rfl)) ?_
                refine RegL.pureG (p := (pEq (.int .i64 x3.2))) rfl rfl rfl hc24 rfl rfl (J_move rfl (Opd.tmp rfl)) ?_
                refine RegL.pureG (p := (pEq (.bool (x10.2 != x3.2)))) rfl rfl rfl hc24 rfl rfl (J_bin rfl (Opd.tmp rfl) (Opd.tmp rfl) B_neq) ?_
                refine RegL.pure (p := (pEq (.bool (x10.2 != x3.2)))) rfl rfl rfl (J_pick rfl (Opd.tmp rfl) (fun hf => absurd (hc24.symm.trans hf) (by decide)) (fun _ => (Opd.tmp rfl))) ?_
                refine RegL.nil ?_
                refine Ct.re (Ω2 := [oSS 26 2 1 (cK .i64) g5.2.1.1 g5.2.1.2.1 g5.2.1.2.2 g5.2.2 x19.2.2, oSl 2 1 (cK .i64) g11.1 g11.2.1 g11.2.2 x10.1, oBlk b8 [(pEq (.slice g5.1.1.1 g5.1.1.2.1 g5.1.1.2.2)), (pEq (.slice g5.2.1.1 g5.2.1.2.1 g5.2.1.2.2))]]) (fun h => SatO.rest h) ?_
                refine Ct.re (Ω2 := [oSl 2 1 (cK .i64) g11.1 g11.2.1 g11.2.2 x10.1, oBlk b8 [(pEq (.slice g5.1.1.1 g5.1.1.2.1 g5.1.1.2.2)), (pEq (.slice g5.2.1.1 g5.2.1.2.1 g5.2.1.2.2))]]) (fun h => SatO.rest h) ?_
                refine Ct.re (Ω2 := [oBlk b8 [(pEq (.slice g5.1.1.1 g5.1.1.2.1 g5.1.1.2.2)), (pEq (.slice g5.2.1.1 g5.2.1.2.1 g5.2.1.2.2))], oSl 2 1 (cK .i64) g11.1 g11.2.1 g11.2.2 x10.1]) (fun h => SatO.pick 1 h) ?_
                refine Ct.re (Ω2 := [oSl 2 1 (cK .i64) g11.1 g11.2.1 g11.2.2 x10.1]) (fun h => SatO.rest h) ?_
                replace h := Option.some.inj h; subst h
                exact Ct.mid () rfl ⟨rfl, rfl, rfl, rfl, rfl, trivial⟩
          · clear hx21
            refine Ct.then_tr ?_
            refine Tr.weak (Γ' := [(1, (pPtr (cGProblem a_0))), (4, (pSl 1 (cK .i64) x3.1)), (5, (pEq (.int .i64 x3.2))), (7, (pEq (.slice g11.1 g11.2.1 g11.2.2))), (61, (pEq (.bool x21)))]) ⟨rfl, rfl, rfl, rfl, rfl, trivial⟩ ?_
            refine Tr.cond (Opd.tmp rfl) (fun hc => ?_) (fun hc => ?_)
            · replace h := bif_t hc h
              refine Tr.seq ?_
              refine Tr.region ?_
              refine RegL.pure (p := (pEq (.bool false))) rfl rfl rfl (J_assign rfl Opd.con) ?_
              refine RegL.nil ?_
              refine Ct.then_tr ?_
              refine Tr.weak (Γ' := [(2, (pEq (.bool false)))]) ⟨rfl, trivial⟩ ?_
              refine Tr.ret ?_
              refine Ct.then_ret ?_
              replace h := Option.some.inj h; subst h
              exact Ct.retH1 (Ωx := [oSl 2 1 (cK .i64) g11.1 g11.2.1 g11.2.2 x10.1]) () rfl (RvOk.tmp rfl) rfl
            · replace h := bif_f hc h
              refine Tr.skip ?_
              refine Ct.then_tr ?_
              refine Tr.weak (Γ' := [(1, (pPtr (cGProblem a_0))), (4, (pSl 1 (cK .i64) x3.1)), (5, (pEq (.int .i64 x3.2))), (7, (pEq (.slice g11.1 g11.2.1 g11.2.2)))]) ⟨rfl, rfl, rfl, rfl, trivial⟩ ?_
              refine Tr.seq ?_
              refine Tr.region ?_
              refine RegL.pure (p := (pEq (.int .i64 (1 : Int)))) rfl rfl rfl (J_assign rfl Opd.con) ?_
              refine RegL.nil ?_
              refine Ct.then_tr ?_
              refine Tr.weak (Γ' := [(1, (pPtr (cGProblem a_0))), (4, (pSl 1 (cK .i64) x3.1)), (5, (pEq (.int .i64 x3.2))), (7, (pEq (.slice g11.1 g11.2.1 g11.2.2))), (10, (pEq (.int .i64 (1 : Int))))]) ⟨rfl, rfl, rfl, rfl, rfl, trivial⟩ ?_
              refine Tr.seq ?_
              refine Tr.region ?_
              refine RegL.pure (p := (pEq (.slice g11.1 g11.2.1 g11.2.2))) rfl rfl rfl (J_move rfl (Opd.tmp rfl)) ?_
              refine RegL.pure (p := (pEq (.int .i64 (1 : Int)))) rfl rfl rfl (J_move rfl (Opd.tmp rfl)) ?_
              replace h := bind_some h; obtain ⟨x26, hx26, h⟩ := h
              refine RegL.step (γ := Unit) (p := fun g => (pEq (.int .i64 x26.1))) (Ω' := fun g => [oSl 2 1 (cK .i64) g11.1 g11.2.1 g11.2.2 x26.2]) rfl rfl rfl (M_callH (Ωi := [oSl 2 1 (cK .i64) g11.1 g11.2.1 g11.2.2 x10.1]) rfl Try.call15 (o_laws_markInt64S hx26) (Opds.cons (Opd.tmp rfl) (Opds.cons (Opd.tmp rfl) Opds.nil))) fun g27 => ?_
              refine RegL.pure (p := (pEq (.int .i64 x26.1))) rfl rfl rfl (J_assign rfl (Opd.tmp rfl)) ?_
              refine RegL.nil ?_
              refine Ct.then_tr ?_
              refine Tr.weak (Γ' := [(1, (pPtr (cGProblem a_0))), (4, (pSl 1 (cK .i64) x3.1)), (5, (pEq (.int .i64 x3.2))), (7, (pEq (.slice g11.1 g11.2.1 g11.2.2))), (10, (pEq (.int .i64 x26.1)))]) ⟨rfl, rfl, rfl, rfl, rfl, trivial⟩ ?_
              refine Tr.seq ?_
              refine Tr.region ?_
              refine RegL.pure (p := (pEq (.int .i64 (1 : Int)))) rfl rfl rfl (J_assign rfl Opd.con) ?_
              refine RegL.nil ?_
              refine Ct.then_tr ?_
              refine Tr.weak (Γ' := [(1, (pPtr (cGProblem a_0))), (4, (pSl 1 (cK .i64) x3.1)), (5, (pEq (.int .i64 x3.2))), (7, (pEq (.slice g11.1 g11.2.1 g11.2.2))), (10, (pEq (.int .i64 x26.1))), (11, (pEq (.int .i64 (1 : Int))))]) ⟨rfl, rfl, rfl, rfl, rfl, rfl, trivial⟩ ?_
              refine Tr.seq ?_
              refine Tr.region ?_
              refine RegL.pure (p := (pEq (.slice g11.1 g11.2.1 g11.2.2))) rfl rfl rfl (J_move rfl (Opd.tmp rfl)) ?_
              refine RegL.pure (p := (pEq (.int .i64 (1 : Int)))) rfl rfl rfl (J_move rfl (Opd.tmp rfl)) ?_
              replace h := bind_some h; obtain ⟨x28, hx28, h⟩ := h
              refine RegL.pureW (p := (pEq (.int .i64 x28))) rfl rfl rfl (W_call rfl Try.call16 (c_laws_heldInt64S hx28) (OpdsA.cons (OpdA.conv rfl (Conv.row (f := (cK .i64)) 0 (fun _ => rfl) rfl)) (OpdsA.cons (OpdA.of (Opd.tmp rfl)) OpdsA.nil)) FreeP.eq) ?_
              refine RegL.pure (p := (pEq (.int .i64 x28))) rfl rfl rfl (J_assign rfl (Opd.tmp rfl)) ?_
              refine RegL.nil ?_
              refine Ct.then_tr ?_
              refine Tr.weak (Γ' := [(1, (pPtr (cGProblem a_0))), (4, (pSl 1 (cK .i64) x3.1)), (5, (pEq (.int .i64 x3.2))), (7, (pEq (.slice g11.1 g11.2.1 g11.2.2))), (10, (pEq (.int .i64 x26.1))), (11, (pEq (.int .i64 x28)))]) ⟨rfl, rfl, rfl, rfl, rfl, rfl, trivial⟩ ?_
              refine Tr.seq ?_
              refine Tr.seq ?_
              refine Tr.region ?_
              refine RegL.pure (p := (pEq (.int .i64 x28))) rfl rfl rfl (J_move rfl (Opd.tmp rfl)) ?_
              refine RegL.pure (p := (pEq (.bool (decide (x28 < (0 : Int)))))) rfl rfl rfl (J_bin rfl (Opd.tmp rfl) Opd.con B_lss) ?_
              refine RegL.nil ?_
              refine Ct.then_tr ?_
              refine Tr.weak (Γ' := [(1, (pPtr (cGProblem a_0))), (4, (pSl 1 (cK .i64) x3.1)), (5, (pEq (.int .i64 x3.2))), (7, (pEq (.slice g11.1 g11.2.1 g11.2.2))), (10, (pEq (.int .i64 x26.1))), (11, (pEq (.int .i64 x28))), (69, (pEq (.bool (decide (x28 < (0 : Int))))))]) ⟨rfl, rfl, rfl, rfl, rfl, rfl, rfl, trivial⟩ ?_
              refine Tr.cond (Opd.tmp rfl) (fun hc => ?_) (fun hc => ?_)
              · replace h := bif_t hc h
                refine Tr.seq ?_
                refine Tr.region ?_
                refine RegL.pure (p := (pEq (.bool false))) rfl rfl rfl (J_assign rfl Opd.con) ?_
                refine RegL.nil ?_
                refine Ct.then_tr ?_
                refine Tr.weak (Γ' := [(2, (pEq (.bool false)))]) ⟨rfl, trivial⟩ ?_
                refine Tr.ret ?_
                refine Ct.then_ret ?_
                replace h := Option.some.inj h; subst h
                exact Ct.retH1 (Ωx := [oSl 2 1 (cK .i64) g11.1 g11.2.1 g11.2.2 x26.2]) () rfl (RvOk.tmp rfl) rfl
              · replace h := bif_f hc h
                refine Tr.skip ?_
                refine Ct.then_tr ?_
                refine Tr.weak (Γ' := [(1, (pPtr (cGProblem a_0))), (4, (pSl 1 (cK .i64) x3.1)), (5, (pEq (.int .i64 x3.2))), (7, (pEq (.slice g11.1 g11.2.1 g11.2.2))), (10, (pEq (.int .i64 x26.1))), (11, (pEq (.int .i64 x28)))]) ⟨rfl, rfl, rfl, rfl, rfl, rfl, trivial⟩ ?_
                refine Tr.seq ?_
                refine Tr.seq ?_
                refine Tr.region ?_
                refine RegL.pure (p := (pEq (.int .i64 x28))) rfl rfl rfl (J_move rfl (Opd.tmp rfl)) ?_
                refine RegL.pure (p := (pEq (.int .i64 x26.1))) rfl rfl rfl (J_move rfl (Opd.tmp rfl)) ?_
                refine RegL.pure (p := (pEq (.bool (x28 != x26.1)))) rfl rfl rfl (J_bin rfl (Opd.tmp rfl) (Opd.tmp rfl) B_neq) ?_
                refine RegL.nil ?_
                refine Ct.then_tr ?_
                refine Tr.weak (Γ' := [(1, (pPtr (cGProblem a_0))), (4, (pSl 1 (cK .i64) x3.1)), (5, (pEq (.int .i64 x3.2))), (7, (pEq (.slice g11.1 g11.2.1 g11.2.2))), (10, (pEq (.int .i64 x26.1))), (72, (pEq (.bool (x28 != x26.1))))]) ⟨rfl, rfl, rfl, rfl, rfl, rfl, trivial⟩ ?_
                refine Tr.cond (Opd.tmp rfl) (fun hc => ?_) (fun hc => ?_)
                · replace h := bif_t hc h
                  refine Tr.seq ?_
                  refine Tr.region ?_
                  refine RegL.pure (p := (pEq (.bool false))) rfl rfl rfl (J_assign rfl Opd.con) ?_
                  refine RegL.nil ?_
                  refine Ct.then_tr ?_
                  refine Tr.weak (Γ' := [(2, (pEq (.bool false)))]) ⟨rfl, trivial⟩ ?_
                  refine Tr.ret ?_
                  refine Ct.then_ret ?_
                  replace h := Option.some.inj h; subst h
                  exact Ct.retH1 (Ωx := [oSl 2 1 (cK .i64) g11.1 g11.2.1 g11.2.2 x26.2]) () rfl (RvOk.tmp rfl) rfl
                · replace h := bif_f hc h
                  refine Tr.skip ?_
                  refine Ct.then_tr ?_
                  refine Tr.weak (Γ' := [(1, (pPtr (cGProblem a_0))), (4, (pSl 1 (cK .i64) x3.1)), (5, (pEq (.int .i64 x3.2))), (7, (pEq (.slice g11.1 g11.2.1 g11.2.2))), (10, (pEq (.int .i64 x26.1)))]) ⟨rfl, rfl, rfl, rfl, rfl, trivial⟩ ?_
                  refine Tr.seq ?_
                  refine Tr.region ?_
                  refine RegL.pure (p := (pAgg (cGProblem a_0))) rfl rfl rfl (J_loadA rfl Try.isAgg24 sz24 (Opd.tmp rfl) rfl) ?_
                  replace h := bind_some h; obtain ⟨x29, hx29, h⟩ := h
                  refine RegL.pure (p := (pAgg (cGProblem x29))) rfl rfl rfl (J_call rfl Try.call10 (c_laws_toProblem hx29) (Opds.cons (Opd.tmp rfl) Opds.nil)) ?_
                  replace h := bind_some h; obtain ⟨x30, hx30, h⟩ := h
                  refine RegL.pure (p := (pTup [(pSl 1 (cK .i64) x30.1), (pEq (.int .i64 x30.2))])) rfl rfl rfl (J_call rfl Try.call11 (c_impl_DegreeOrder hx30) (Opds.cons (Opd.tmp rfl) Opds.nil)) ?_
                  refine RegL.pure (p := (pTup [(pSl 1 (cK .i64) x30.1), (pEq (.int .i64 x30.2))])) rfl rfl rfl (J_move rfl (Opd.tmp rfl)) ?_
                  refine RegL.pure (p := (pSl 1 (cK .i64) x30.1)) rfl rfl rfl (J_extract rfl (Opd.tmp rfl) rfl) ?_
                  refine RegL.pure (p := (pEq (.int .i64 x30.2))) rfl rfl rfl (J_extract rfl (Opd.tmp rfl) rfl) ?_
                  refine RegL.pure (p := (pSl 1 (cK .i64) x30.1)) rfl rfl rfl (J_assign rfl (Opd.tmp rfl)) ?_
                  refine RegL.pure (p := (pEq (.int .i64 x30.2))) rfl rfl rfl (J_assign rfl (Opd.tmp rfl)) ?_
                  refine RegL.nil ?_
                  refine Ct.then_tr ?_
                  refine Tr.weak (Γ' := [(4, (pSl 1 (cK .i64) x3.1)), (5, (pEq (.int .i64 x3.2))), (7, (pEq (.slice g11.1 g11.2.1 g11.2.2))), (10, (pEq (.int .i64 x26.1))), (12, (pSl 1 (cK .i64) x30.1)), (13, (pEq (.int .i64 x30.2)))]) ⟨rfl, rfl, rfl, rfl, rfl, rfl, trivial⟩ ?_
                  refine Tr.seq ?_
                  refine Tr.seq ?_
                  replace h := bind_some h; obtain ⟨x31, hx31, h⟩ := h
                  refine Tr.cut (γ := Unit) (Γm := fun g => [(7, (pEq (.slice g11.1 g11.2.1 g11.2.2))), (10, (pEq (.int .i64 x26.1))), (87, (pEq (.bool x31)))]) (Ωm := fun g => [oSl 2 1 (cK .i64) g11.1 g11.2.1 g11.2.2 x26.2]) ?_ (fun g34 => ?_)
                  · clear h
                    have h := hx31
                    clear hx31
                    refine Tr.region ?_
                    refine RegL.pure (p := (pSl 1 (cK .i64) x30.1)) rfl rfl rfl (J_move rfl (Opd.tmp rfl)) ?_
                    refine RegL.pure (p := (pSl 1 (cK .i64) x3.1)) rfl rfl rfl (J_move rfl (Opd.tmp rfl)) ?_
                    replace h := bind_some h; obtain ⟨x32, hx32, h⟩ := h
                    refine RegL.pure (p := (pEq (.bool x32))) rfl rfl rfl (J_call rfl Try.call12 (c_laws_eqInt64S hx32) (Opds.cons (Opd.tmp rfl) (Opds.cons (Opd.tmp rfl) Opds.nil))) ?_
                    refine RegL.pure (p := (pEq (.bool (!x32)))) rfl rfl rfl (J_not rfl (Opd.tmp rfl)) ?_
                    refine RegL.pure (p := (pEq (.bool (!x32)))) rfl rfl rfl (J_move rfl (Opd.tmp rfl)) ?_
                    rcases Bool.eq_false_or_eq_true (!x32) with hc33 | hc33
                    · replace h := bif_t hc33 h
                      refine RegL.skipG rfl rfl rfl hc33 rfl rfl ?_
                      refine RegL.skipG rfl rfl rfl hc33 rfl rfl ?_
                      refine RegL.skipG rfl rfl rfl hc33 rfl rfl ?_
                      refine RegL.pure (p := (pEq (.bool true))) rfl rfl rfl (J_pick rfl (Opd.tmp rfl) (fun _ => Opd.con) (fun hf => absurd (hc33.symm.trans hf) (by decide))) ?_
                      refine RegL.nil ?_
                      replace h := Option.some.inj h; subst h
                      exact Ct.mid () rfl ⟨rfl, rfl, rfl, trivial⟩
                    · replace h := bif_f hc33 h
                      refine RegL.pureG (p := (pEq (.int .i64 x30.2))) rfl rfl rfl hc33 rfl rfl (J_move rfl (Opd.tmp rfl)) ?_
                      refine RegL.pureG (p := (pEq (.int .i64 x3.2))) rfl rfl rfl hc33 rfl rfl (J_move rfl (Opd.tmp rfl)) ?_
                      refine RegL.pureG (p := (pEq (.bool (x30.2 != x3.2)))) rfl rfl rfl hc33 rfl rfl (J_bin rfl (Opd.tmp rfl) (Opd.tmp rfl) B_neq) ?_
                      refine RegL.pure (p := (pEq (.bool (x30.2 != x3.2)))) rfl rfl rfl (J_pick rfl (Opd.tmp rfl) (fun hf => absurd (hc33.symm.trans hf) (by decide)) (fun _ => (Opd.tmp rfl))) ?_
                      refine RegL.nil ?_
                      replace h := Option.some.inj h; subst h
                      exact Ct.mid () rfl ⟨rfl, rfl, rfl, trivial⟩
                  · clear hx31
                    refine Ct.then_tr ?_
                    refine Tr.weak (Γ' := [(7, (pEq (.slice g11.1 g11.2.1 g11.2.2))), (10, (pEq (.int .i64 x26.1))), (87, (pEq (.bool x31)))]) ⟨rfl, rfl, rfl, trivial⟩ ?_
                    refine Tr.cond (Opd.tmp rfl) (fun hc => ?_) (fun hc => ?_)
                    · replace h := bif_t hc h
                      refine Tr.seq ?_
                      refine Tr.region ?_
                      refine RegL.pure (p := (pEq (.bool false))) rfl rfl rfl (J_assign rfl Opd.con) ?_
                      refine RegL.nil ?_
                      refine Ct.then_tr ?_
                      refine Tr.weak (Γ' := [(2, (pEq (.bool false)))]) ⟨rfl, trivial⟩ ?_
                      refine Tr.ret ?_
                      refine Ct.then_ret ?_
                      replace h := Option.some.inj h; subst h
                      exact Ct.retH1 (Ωx := [oSl 2 1 (cK .i64) g11.1 g11.2.1 g11.2.2 x26.2]) () rfl (RvOk.tmp rfl) rfl
                    · replace h := bif_f hc h
                      refine Tr.skip ?_
                      refine Ct.then_tr ?_
                      refine Tr.weak (Γ' := [(7, (pEq (.slice g11.1 g11.2.1 g11.2.2))), (10, (pEq (.int .i64 x26.1)))]) ⟨rfl, rfl, trivial⟩ ?_
                      refine Tr.seq ?_
                      refine Tr.region ?_
                      refine RegL.pure (p := (pEq (.int .i64 (1 : Int)))) rfl rfl rfl (J_assign rfl Opd.con) ?_
                      refine RegL.nil ?_
                      refine Ct.then_tr ?_
                      refine Tr.weak (Γ' := [(7, (pEq (.slice g11.1 g11.2.1 g11.2.2))), (10, (pEq (.int .i64 x26.1))), (11, (pEq (.int .i64 (1 : Int))))]) ⟨rfl, rfl, rfl, trivial⟩ ?_
                      refine Tr.seq ?_
                      refine Tr.region ?_
                      refine RegL.pure (p := (pEq (.slice g11.1 g11.2.1 g11.2.2))) rfl rfl rfl (J_move rfl (Opd.tmp rfl)) ?_
                      refine RegL.pure (p := (pEq (.int .i64 (1 : Int)))) rfl rfl rfl (J_move rfl (Opd.tmp rfl)) ?_
                      replace h := bind_some h; obtain ⟨x35, hx35, h⟩ := h
                      refine RegL.pureW (p := (pEq (.int .i64 x35))) rfl rfl rfl (W_call rfl Try.call16 (c_laws_heldInt64S hx35) (OpdsA.cons (OpdA.conv rfl (Conv.row (f := (cK .i64)) 0 (fun _ => rfl) rfl)) (OpdsA.cons (OpdA.of (Opd.tmp rfl)) OpdsA.nil)) FreeP.eq) ?_
                      refine RegL.pure (p := (pEq (.int .i64 x35))) rfl rfl rfl (J_assign rfl (Opd.tmp rfl)) ?_
                      refine RegL.nil ?_
                      refine Ct.then_tr ?_
                      refine Tr.weak (Γ' := [(10, (pEq (.int .i64 x26.1))), (11, (pEq (.int .i64 x35)))]) ⟨rfl, rfl, trivial⟩ ?_
                      refine Tr.seq ?_
                      refine Tr.seq ?_
                      refine Tr.region ?_
                      refine RegL.pure (p := (pEq (.int .i64 x35))) rfl rfl rfl (J_move rfl (Opd.tmp rfl)) ?_
                      refine RegL.pure (p := (pEq (.bool (decide (x35 < (0 : Int)))))) rfl rfl rfl (J_bin rfl (Opd.tmp rfl) Opd.con B_lss) ?_
                      refine RegL.nil ?_
                      refine Ct.then_tr ?_
                      refine Tr.weak (Γ' := [(10, (pEq (.int .i64 x26.1))), (11, (pEq (.int .i64 x35))), (92, (pEq (.bool (decide (x35 < (0 : Int))))))]) ⟨rfl, rfl, rfl, trivial⟩ ?_
                      refine Tr.cond (Opd.tmp rfl) (fun hc => ?_) (fun hc => ?_)
                      · replace h := bif_t hc h
                        refine Tr.seq ?_
                        refine Tr.region ?_
                        refine RegL.pure (p := (pEq (.bool false))) rfl rfl rfl (J_assign rfl Opd.con) ?_
                        refine RegL.nil ?_
                        refine Ct.then_tr ?_
                        refine Tr.weak (Γ' := [(2, (pEq (.bool false)))]) ⟨rfl, trivial⟩ ?_
                        refine Tr.ret ?_
                        refine Ct.then_ret ?_
                        replace h := Option.some.inj h; subst h
                        exact Ct.retH1 (Ωx := [oSl 2 1 (cK .i64) g11.1 g11.2.1 g11.2.2 x26.2]) () rfl (RvOk.tmp rfl) rfl
                      · replace h := bif_f hc h
                        refine Tr.skip ?_
                        refine Ct.then_tr ?_
                        refine Tr.weak (Γ' := [(10, (pEq (.int .i64 x26.1))), (11, (pEq (.int .i64 x35)))]) ⟨rfl, rfl, trivial⟩ ?_
                        refine Tr.seq ?_
                        refine Tr.seq ?_
                        refine Tr.region ?_
                        refine RegL.pure (p := (pEq (.int .i64 x35))) rfl rfl rfl (J_move rfl (Opd.tmp rfl)) ?_
                        refine RegL.pure (p := (pEq (.int .i64 x26.1))) rfl rfl rfl (J_move rfl (Opd.tmp rfl)) ?_
                        refine RegL.pure (p := (pEq (.bool (x35 != x26.1)))) rfl rfl rfl (J_bin rfl (Opd.tmp rfl) (Opd.tmp rfl) B_neq) ?_
                        refine RegL.nil ?_
                        refine Ct.then_tr ?_
                        refine Tr.weak (Γ' := [(95, (pEq (.bool (x35 != x26.1))))]) ⟨rfl, trivial⟩ ?_
                        refine Tr.cond (Opd.tmp rfl) (fun hc => ?_) (fun hc => ?_)
                        · replace h := bif_t hc h
                          refine Tr.seq ?_
                          refine Tr.region ?_
                          refine RegL.pure (p := (pEq (.bool false))) rfl rfl rfl (J_assign rfl Opd.con) ?_
                          refine RegL.nil ?_
                          refine Ct.then_tr ?_
                          refine Tr.weak (Γ' := [(2, (pEq (.bool false)))]) ⟨rfl, trivial⟩ ?_
                          refine Tr.ret ?_
                          refine Ct.then_ret ?_
                          replace h := Option.some.inj h; subst h
                          exact Ct.retH1 (Ωx := [oSl 2 1 (cK .i64) g11.1 g11.2.1 g11.2.2 x26.2]) () rfl (RvOk.tmp rfl) rfl
                        · replace h := bif_f hc h
                          refine Tr.skip ?_
                          refine Ct.then_tr ?_
                          refine Tr.weak (Γ' := []) trivial ?_
                          refine Tr.seq ?_
                          refine Tr.region ?_
                          refine RegL.pure (p := (pEq (.bool true))) rfl rfl rfl (J_assign rfl Opd.con) ?_
                          refine RegL.nil ?_
                          refine Ct.then_tr ?_
                          refine Tr.weak (Γ' := [(2, (pEq (.bool true)))]) ⟨rfl, trivial⟩ ?_
                          refine Tr.ret ?_
                          replace h := Option.some.inj h; subst h
                          exact Ct.retH1 (Ωx := [oSl 2 1 (cK .i64) g11.1 g11.2.1 g11.2.2 x26.2]) () rfl (RvOk.tmp rfl) rfl

end Go.Proofs.Ytfadnbelnfofbaa.fnExactDegreeOrderW
