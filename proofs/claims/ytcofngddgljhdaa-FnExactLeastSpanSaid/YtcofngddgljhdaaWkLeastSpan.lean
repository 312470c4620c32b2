/-
  The walks that the law FnExactLeastSpan reaches: each function computes its model. Printed by our own program.
-/
import Derived.Test.YtcofngddgljhdaaProg
import Derived.Test.YtcofngddgljhdaaMod
import Derived.Test.YtcofngddgljhdaaZero
import Derived.KernelRfl
import Derived.Test.YtcofngddgljhdaaWkLeastSpanb
namespace Go.Proofs.Ytcofngddgljhdaa.fnExactLeastSpanW
open Go Go.RowKit Go.Wk
set_option linter.unusedVariables false
set_option maxRecDepth 100000


theorem of_impl_assignSearch_visit : ∀ (n : Nat) {a_0 : GAssignSearch} {ho0_5 : Option Addr} {hn0_5 hc0_5 : Nat} {hb0 : Nat} {r : (Int × (List Int) × Int)} (h : iterM (fun self (a : GAssignSearch) => mf_impl_assignSearch_visit self a) n a_0 = some r), CallH Try.prog 86 [(pEq (.pointer (some ⟨hb0, 0, none⟩)))] [oBlk hb0 [(pSl 1 (cSl 1 (cK .i64)) a_0.problem.Domains), (pSl 1 (cSl 1 (cK .i64)) a_0.problem.Apart), (pEq (.int .i64 a_0.budget)), (pEq (.bool a_0.first)), (pEq (.int .i64 a_0.span)), (pEq (.slice ho0_5 hn0_5 hc0_5)), (pEq (.int .i64 a_0.found))], oSl 2 1 (cK .i64) ho0_5 hn0_5 hc0_5 a_0.list] (fun g : G3 => (pTup [])) (fun g : G3 => [oBlk hb0 [(pSl 1 (cSl 1 (cK .i64)) a_0.problem.Domains), (pSl 1 (cSl 1 (cK .i64)) a_0.problem.Apart), (pEq (.int .i64 r.1)), (pEq (.bool a_0.first)), (pEq (.int .i64 a_0.span)), (pEq (.slice g.1 g.2.1 g.2.2)), (pEq (.int .i64 r.2.2))], oSl 2 1 (cK .i64) g.1 g.2.1 g.2.2 r.2.1]) := by
  intro n
  induction n with
  | zero => intros; rename_i h; simp [iterM] at h
  | succ n ih =>
  intro a_0 ho0_5 hn0_5 hc0_5 hb0 r h
  replace h : mf_impl_assignSearch_visit (iterM (fun self (a : GAssignSearch) => mf_impl_assignSearch_visit self a) n) a_0 = some r := h
  unfold mf_impl_assignSearch_visit at h
  refine CallH.enter Try.func86 rfl Try.ntmps86 rfl fun W I0 H => ?_
  refine Tr.weak (Γ' := [(0, (pEq (.pointer (some ⟨hb0, 0, none⟩))))]) ⟨rfl, trivial⟩ ?_
  refine Tr.seq ?_
  refine Tr.seq ?_
  refine Tr.region ?_
  refine RegL.pure (p := (pEq (.pointer (some ⟨hb0, 0, none⟩)))) rfl rfl rfl (J_move rfl (Opd.tmp rfl)) ?_
  refine RegL.pure (p := (pEq (.pointer (some ⟨hb0, 0, none⟩)))) rfl rfl rfl (J_nilCheckE rfl (Opd.tmp rfl)) ?_
  refine RegL.pure (p := (pEq (.pointer (some ⟨hb0, 2, none⟩)))) rfl rfl rfl (J_fieldAddrE rfl Try.underlying90 rfl sz2 (by decide) (Opd.tmp rfl) rfl) ?_
  refine RegL.pureW (p := (pEq (.int .i64 a_0.budget))) rfl rfl rfl (W_load (i := 0) rfl Try.isAgg2 (Opd.tmp rfl) rfl rfl) ?_
  refine RegL.pure (p := (pEq (.int .i64 (w64 (a_0.budget - (1 : Int)))))) rfl rfl rfl (J_bin rfl (Opd.tmp rfl) Opd.con B_sub) ?_
  refine RegL.pure (p := (pEq (.pointer (some ⟨hb0, 0, none⟩)))) rfl rfl rfl (J_nilCheckE rfl (Opd.tmp rfl)) ?_
  refine RegL.pure (p := (pEq (.pointer (some ⟨hb0, 2, none⟩)))) rfl rfl rfl (J_fieldAddrE rfl Try.underlying90 rfl sz2 (by decide) (Opd.tmp rfl) rfl) ?_
  refine RegL.stepN (γ := Unit) (p := fun _ => pAny) (Ω' := fun _ => [oBlk hb0 [(pSl 1 (cSl 1 (cK .i64)) a_0.problem.Domains), (pSl 1 (cSl 1 (cK .i64)) a_0.problem.Apart), (pEq (.int .i64 (w64 (a_0.budget - (1 : Int))))), (pEq (.bool a_0.first)), (pEq (.int .i64 a_0.span)), (pEq (.slice ho0_5 hn0_5 hc0_5)), (pEq (.int .i64 a_0.found))], oSl 2 1 (cK .i64) ho0_5 hn0_5 hc0_5 a_0.list]) rfl rfl (M_store rfl sz2 (Opd.tmp rfl) (Opd.tmp rfl) OneC.int rfl rfl) fun g2 => ?_
  refine RegL.nil ?_
  refine Ct.then_tr ?_
  refine Tr.weak (Γ' := [(0, (pEq (.pointer (some ⟨hb0, 0, none⟩))))]) ⟨rfl, trivial⟩ ?_
  refine Tr.seq ?_
  refine Tr.region ?_
  refine RegL.pure (p := (pEq (.pointer (some ⟨hb0, 0, none⟩)))) rfl rfl rfl (J_move rfl (Opd.tmp rfl)) ?_
  refine RegL.pure (p := (pEq (.pointer (some ⟨hb0, 0, none⟩)))) rfl rfl rfl (J_nilCheckE rfl (Opd.tmp rfl)) ?_
  refine RegL.pure (p := (pEq (.pointer (some ⟨hb0, 2, none⟩)))) rfl rfl rfl (J_fieldAddrE rfl Try.underlying90 rfl sz2 (by decide) (Opd.tmp rfl) rfl) ?_
  refine RegL.pureW (p := (pEq (.int .i64 (w64 (a_0.budget - (1 : Int)))))) rfl rfl rfl (W_load (i := 0) rfl Try.isAgg2 (Opd.tmp rfl) rfl rfl) ?_
  refine RegL.pure (p := (pEq (.bool (decide ((w64 (a_0.budget - (1 : Int))) < (0 : Int)))))) rfl rfl rfl (J_bin rfl (Opd.tmp rfl) Opd.con B_lss) ?_
  refine RegL.nil ?_
  refine Ct.then_tr ?_
  refine Tr.weak (Γ' := [(0, (pEq (.pointer (some ⟨hb0, 0, none⟩)))), (16, (pEq (.bool (decide ((w64 (a_0.budget - (1 : Int))) < (0 : Int))))))]) ⟨rfl, rfl, trivial⟩ ?_
  refine Tr.cond (Opd.tmp rfl) (fun hc => ?_) (fun hc => ?_)
  · replace h := bif_t hc h
    refine Tr.ret ?_
    refine Ct.then_ret ?_
    replace h := Option.some.inj h; subst h
    exact Ct.retH0 (Ωx := []) (ho0_5, hn0_5, hc0_5) rfl rfl rfl
  · replace h := bif_f hc h
    refine Tr.skip ?_
    refine Ct.then_tr ?_
    refine Tr.weak (Γ' := [(0, (pEq (.pointer (some ⟨hb0, 0, none⟩))))]) ⟨rfl, trivial⟩ ?_
    refine Tr.seq ?_
    refine Tr.region ?_
    refine RegL.pure (p := (pEq (.pointer (some ⟨hb0, 0, none⟩)))) rfl rfl rfl (J_move rfl (Opd.tmp rfl)) ?_
    refine RegL.pure (p := (pEq (.pointer (some ⟨hb0, 0, none⟩)))) rfl rfl rfl (J_nilCheckE rfl (Opd.tmp rfl)) ?_
    refine RegL.pure (p := (pEq (.pointer (some ⟨hb0, 5, none⟩)))) rfl rfl rfl (J_fieldAddrE rfl Try.underlying90 rfl sz25 (by decide) (Opd.tmp rfl) rfl) ?_
    refine RegL.pureW (p := (pEq (.slice ho0_5 hn0_5 hc0_5))) rfl rfl rfl (W_load (i := 0) rfl Try.isAgg25 (Opd.tmp rfl) rfl rfl) ?_
    refine RegL.pureW (p := (pEq (.int .i64 (a_0.list.length : Int)))) rfl rfl rfl (W_rowLen (j := 1) rfl Try.underlying25 (Opd.tmp rfl) rfl) ?_
    refine RegL.pure (p := (pEq (.int .i64 (a_0.list.length : Int)))) rfl rfl rfl (J_assign rfl (Opd.tmp rfl)) ?_
    refine RegL.nil ?_
    refine Ct.then_tr ?_
    refine Tr.weak (Γ' := [(0, (pEq (.pointer (some ⟨hb0, 0, none⟩)))), (2, (pEq (.int .i64 (a_0.list.length : Int))))]) ⟨rfl, rfl, trivial⟩ ?_
    refine Tr.seq ?_
    refine Tr.seq ?_
    refine Tr.region ?_
    refine RegL.pure (p := (pEq (.int .i64 (a_0.list.length : Int)))) rfl rfl rfl (J_move rfl (Opd.tmp rfl)) ?_
    refine RegL.pure (p := (pEq (.pointer (some ⟨hb0, 0, none⟩)))) rfl rfl rfl (J_move rfl (Opd.tmp rfl)) ?_
    refine RegL.pure (p := (pEq (.pointer (some ⟨hb0, 0, none⟩)))) rfl rfl rfl (J_nilCheckE rfl (Opd.tmp rfl)) ?_
    refine RegL.pure (p := (pEq (.pointer (some ⟨hb0, 0, none⟩)))) rfl rfl rfl (J_fieldAddrE rfl Try.underlying90 rfl sz29 (by decide) (Opd.tmp rfl) rfl) ?_
    refine RegL.pure (p := (pEq (.pointer (some ⟨hb0, 0, none⟩)))) rfl rfl rfl (J_fieldAddrE rfl Try.underlying29 rfl sz22 (by decide) (Opd.tmp rfl) rfl) ?_
    refine RegL.pureW (p := (pSl 1 (cSl 1 (cK .i64)) a_0.problem.Domains)) rfl rfl rfl (W_load (i := 0) rfl Try.isAgg22 (Opd.tmp rfl) rfl rfl) ?_
    refine RegL.pure (p := (pEq (.int .i64 (a_0.problem.Domains.length : Int)))) rfl rfl rfl (J_len rfl Try.underlying22 (Opd.tmp rfl) rfl) ?_
    refine RegL.pure (p := (pEq (.bool ((a_0.list.length : Int) == (a_0.problem.Domains.length : Int))))) rfl rfl rfl (J_bin rfl (Opd.tmp rfl) (Opd.tmp rfl) B_eql) ?_
    refine RegL.nil ?_
    refine Ct.then_tr ?_
    refine Tr.weak (Γ' := [(0, (pEq (.pointer (some ⟨hb0, 0, none⟩)))), (2, (pEq (.int .i64 (a_0.list.length : Int)))), (29, (pEq (.bool ((a_0.list.length : Int) == (a_0.problem.Domains.length : Int)))))]) ⟨rfl, rfl, rfl, trivial⟩ ?_
    refine Tr.cond (Opd.tmp rfl) (fun hc => ?_) (fun hc => ?_)
    · replace h := bif_t hc h
      refine Tr.seq ?_
      refine Tr.region ?_
      refine RegL.pure (p := (pEq (.pointer (some ⟨hb0, 0, none⟩)))) rfl rfl rfl (J_move rfl (Opd.tmp rfl)) ?_
      refine RegL.pure (p := (pEq (.pointer (some ⟨hb0, 0, none⟩)))) rfl rfl rfl (J_nilCheckE rfl (Opd.tmp rfl)) ?_
      refine RegL.pure (p := (pEq (.pointer (some ⟨hb0, 6, none⟩)))) rfl rfl rfl (J_fieldAddrE rfl Try.underlying90 rfl sz2 (by decide) (Opd.tmp rfl) rfl) ?_
      refine RegL.pureW (p := (pEq (.int .i64 a_0.found))) rfl rfl rfl (W_load (i := 0) rfl Try.isAgg2 (Opd.tmp rfl) rfl rfl) ?_
      refine RegL.pure (p := (pEq (.int .i64 (w64 (a_0.found + (1 : Int)))))) rfl rfl rfl (J_bin rfl (Opd.tmp rfl) Opd.con B_add) ?_
      refine RegL.pure (p := (pEq (.pointer (some ⟨hb0, 0, none⟩)))) rfl rfl rfl (J_nilCheckE rfl (Opd.tmp rfl)) ?_
      refine RegL.pure (p := (pEq (.pointer (some ⟨hb0, 6, none⟩)))) rfl rfl rfl (J_fieldAddrE rfl Try.underlying90 rfl sz2 (by decide) (Opd.tmp rfl) rfl) ?_
      refine RegL.stepN (γ := Unit) (p := fun _ => pAny) (Ω' := fun _ => [oBlk hb0 [(pSl 1 (cSl 1 (cK .i64)) a_0.problem.Domains), (pSl 1 (cSl 1 (cK .i64)) a_0.problem.Apart), (pEq (.int .i64 (w64 (a_0.budget - (1 : Int))))), (pEq (.bool a_0.first)), (pEq (.int .i64 a_0.span)), (pEq (.slice ho0_5 hn0_5 hc0_5)), (pEq (.int .i64 (w64 (a_0.found + (1 : Int)))))], oSl 2 1 (cK .i64) ho0_5 hn0_5 hc0_5 a_0.list]) rfl rfl (M_store rfl sz2 (Opd.tmp rfl) (Opd.tmp rfl) OneC.int rfl rfl) fun g3 => ?_
      refine RegL.nil ?_
      refine Ct.then_tr ?_
      refine Tr.weak (Γ' := []) trivial ?_
      refine Tr.ret ?_
      refine Ct.then_ret ?_
      replace h := Option.some.inj h; subst h
      exact Ct.retH0 (Ωx := []) (ho0_5, hn0_5, hc0_5) rfl rfl rfl
    · replace h := bif_f hc h
      refine Tr.skip ?_
      refine Ct.then_tr ?_
      refine Tr.weak (Γ' := [(0, (pEq (.pointer (some ⟨hb0, 0, none⟩)))), (2, (pEq (.int .i64 (a_0.list.length : Int))))]) ⟨rfl, rfl, trivial⟩ ?_
      refine Tr.seq ?_
      refine Tr.drawD (n := 102) (m := 12) (es := [some (Ent.mk [(0, (pEq (.pointer (some ⟨hb0, 0, none⟩))))] (pEq (.pointer (some ⟨hb0, 0, none⟩))) true), some (Ent.mk [(37, (pEq (.pointer (some ⟨hb0, 0, none⟩))))] (pEq (.pointer (some ⟨hb0, 0, none⟩))) true), some (Ent.mk [(38, (pEq (.pointer (some ⟨hb0, 0, none⟩))))] (pEq (.pointer (some ⟨hb0, 0, none⟩))) true), some (Ent.mk [(39, (pEq (.pointer (some ⟨hb0, 0, none⟩))))] (pAgg (cGProblem a_0.problem)) true), some (Ent.mk [(0, (pEq (.pointer (some ⟨hb0, 0, none⟩))))] (pEq (.pointer (some ⟨hb0, 0, none⟩))) true), some (Ent.mk [(41, (pEq (.pointer (some ⟨hb0, 0, none⟩))))] (pEq (.pointer (some ⟨hb0, 0, none⟩))) true), some (Ent.mk [(42, (pEq (.pointer (some ⟨hb0, 0, none⟩))))] (pEq (.pointer (some ⟨hb0, 5, none⟩))) true), some (Ent.mk [(43, (pEq (.pointer (some ⟨hb0, 5, none⟩))))] (pEq (.slice ho0_5 hn0_5 hc0_5)) true), some (Ent.mk [(2, (pEq (.int .i64 (a_0.list.length : Int))))] (pEq (.int .i64 (a_0.list.length : Int))) true), none, none, some (Ent.mk [] (pEq (.int .i64 (0 : Int))) true)]) (rd := [[0], [37], [38], [39], [0], [41], [42], [43], [2], [40, 44, 45], [46], []]) rfl hmix (by kernel_rfl) fun hD => ?_
      replace h := bind_some h; obtain ⟨x4, hx4, h⟩ := h
      refine RD.step hD (es := [some (Ent.mk [(0, (pEq (.pointer (some ⟨hb0, 0, none⟩))))] (pEq (.pointer (some ⟨hb0, 0, none⟩))) true), some (Ent.mk [(37, (pEq (.pointer (some ⟨hb0, 0, none⟩))))] (pEq (.pointer (some ⟨hb0, 0, none⟩))) true), some (Ent.mk [(38, (pEq (.pointer (some ⟨hb0, 0, none⟩))))] (pEq (.pointer (some ⟨hb0, 0, none⟩))) true), some (Ent.mk [(39, (pEq (.pointer (some ⟨hb0, 0, none⟩))))] (pAgg (cGProblem a_0.problem)) true), some (Ent.mk [(0, (pEq (.pointer (some ⟨hb0, 0, none⟩))))] (pEq (.pointer (some ⟨hb0, 0, none⟩))) true), some (Ent.mk [(41, (pEq (.pointer (some ⟨hb0, 0, none⟩))))] (pEq (.pointer (some ⟨hb0, 0, none⟩))) true), some (Ent.mk [(42, (pEq (.pointer (some ⟨hb0, 0, none⟩))))] (pEq (.pointer (some ⟨hb0, 5, none⟩))) true), some (Ent.mk [(43, (pEq (.pointer (some ⟨hb0, 5, none⟩))))] (pEq (.slice ho0_5 hn0_5 hc0_5)) true), some (Ent.mk [(2, (pEq (.int .i64 (a_0.list.length : Int))))] (pEq (.int .i64 (a_0.list.length : Int))) true), none, none, some (Ent.mk [] (pEq (.int .i64 (0 : Int))) true)]) (done := []) (mask := [true, true, true, true, true, true, true, true, true, false, false, true]) (γ := G3) (p := fun g => (pEq (.slice g.1 g.2.1 g.2.2))) (Ω' := fun g => [oSl 2 1 (cK .i64) g.1 g.2.1 g.2.2 x4, oBlk hb0 [(pSl 1 (cSl 1 (cK .i64)) a_0.problem.Domains), (pSl 1 (cSl 1 (cK .i64)) a_0.problem.Apart), (pEq (.int .i64 (w64 (a_0.budget - (1 : Int))))), (pEq (.bool a_0.first)), (pEq (.int .i64 a_0.span)), (pEq (.slice ho0_5 hn0_5 hc0_5)), (pEq (.int .i64 a_0.found))], oSl 2 1 (cK .i64) ho0_5 hn0_5 hc0_5 a_0.list]) (es' := fun g5 => [some (Ent.mk [(0, (pEq (.pointer (some ⟨hb0, 0, none⟩))))] (pEq (.pointer (some ⟨hb0, 0, none⟩))) true), some (Ent.mk [(37, (pEq (.pointer (some ⟨hb0, 0, none⟩))))] (pEq (.pointer (some ⟨hb0, 0, none⟩))) true), some (Ent.mk [(38, (pEq (.pointer (some ⟨hb0, 0, none⟩))))] (pEq (.pointer (some ⟨hb0, 0, none⟩))) true), some (Ent.mk [(39, (pEq (.pointer (some ⟨hb0, 0, none⟩))))] (pAgg (cGProblem a_0.problem)) true), some (Ent.mk [(0, (pEq (.pointer (some ⟨hb0, 0, none⟩))))] (pEq (.pointer (some ⟨hb0, 0, none⟩))) true), some (Ent.mk [(41, (pEq (.pointer (some ⟨hb0, 0, none⟩))))] (pEq (.pointer (some ⟨hb0, 0, none⟩))) true), some (Ent.mk [(42, (pEq (.pointer (some ⟨hb0, 0, none⟩))))] (pEq (.pointer (some ⟨hb0, 5, none⟩))) true), some (Ent.mk [(43, (pEq (.pointer (some ⟨hb0, 5, none⟩))))] (pEq (.slice ho0_5 hn0_5 hc0_5)) true), some (Ent.mk [(2, (pEq (.int .i64 (a_0.list.length : Int))))] (pEq (.int .i64 (a_0.list.length : Int))) true), some (Ent.mk [(40, (pAgg (cGProblem a_0.problem))), (44, (pEq (.slice ho0_5 hn0_5 hc0_5))), (45, (pEq (.int .i64 (a_0.list.length : Int))))] (pEq (.slice g5.1 g5.2.1 g5.2.2)) true), none, some (Ent.mk [] (pEq (.int .i64 (0 : Int))) true)]) (Γc := [(40, (pAgg (cGProblem a_0.problem))), (44, (pEq (.slice ho0_5 hn0_5 hc0_5))), (45, (pEq (.int .i64 (a_0.list.length : Int))))]) 9 rfl rfl rfl (by kernel_rfl) ⟨.inr ⟨(OpJ.w (J_move rfl (Opd.tmp rfl))), ⟨rfl, trivial⟩, rfl, rfl⟩, ⟨.inr ⟨(OpJ.w (J_nilCheckE rfl (Opd.tmp rfl))), ⟨rfl, trivial⟩, rfl, rfl⟩, ⟨.inr ⟨(OpJ.w (J_fieldAddrE rfl Try.underlying90 rfl sz29 (by decide) (Opd.tmp rfl) rfl)), ⟨rfl, trivial⟩, rfl, rfl⟩, ⟨.inr ⟨(W_loadPart (i := 0) rfl Try.isAgg29 sz29 (Opd.tmp rfl) rfl rfl rfl), ⟨rfl, trivial⟩, rfl, rfl⟩, ⟨.inr ⟨(OpJ.w (J_move rfl (Opd.tmp rfl))), ⟨rfl, trivial⟩, rfl, rfl⟩, ⟨.inr ⟨(OpJ.w (J_nilCheckE rfl (Opd.tmp rfl))), ⟨rfl, trivial⟩, rfl, rfl⟩, ⟨.inr ⟨(OpJ.w (J_fieldAddrE rfl Try.underlying90 rfl sz25 (by decide) (Opd.tmp rfl) rfl)), ⟨rfl, trivial⟩, rfl, rfl⟩, ⟨.inr ⟨(W_load (i := 0) rfl Try.isAgg25 (Opd.tmp rfl) rfl rfl), ⟨rfl, trivial⟩, rfl, rfl⟩, ⟨.inr ⟨(OpJ.w (J_move rfl (Opd.tmp rfl))), ⟨rfl, trivial⟩, rfl, rfl⟩, ⟨.inr ⟨(OpJ.w (J_move rfl Opd.con)), trivial, rfl, rfl⟩, trivial⟩⟩⟩⟩⟩⟩⟩⟩⟩⟩ rfl rfl ⟨rfl, rfl, rfl, trivial⟩ (fun _ => M_callHB (Ωi := []) rfl Try.call59 (o_impl_Problem_choices hx4) (OpdsA.cons (OpdA.of (Opd.tmp rfl)) (OpdsA.cons (OpdA.conv rfl (Conv.row (f := (cK .i64)) 1 (fun _ => rfl) rfl)) (OpdsA.cons (OpdA.of (Opd.tmp rfl)) OpdsA.nil))) (fun _ => FreeP.eq) (fun _ => ⟨(FreeO.sl (fun _ => ⟨FreeP.eq, trivial⟩)), trivial⟩)) (fun g5 => ⟨rfl, ⟨rfl, ⟨rfl, ⟨rfl, ⟨rfl, ⟨rfl, ⟨rfl, ⟨rfl, ⟨rfl, ⟨rfl, trivial⟩⟩⟩⟩⟩⟩⟩⟩⟩⟩) (fun g5 => rfl) rfl fun g5 => ?_
      refine RD.ext (es' := [some (Ent.mk [(0, (pEq (.pointer (some ⟨hb0, 0, none⟩))))] (pEq (.pointer (some ⟨hb0, 0, none⟩))) true), some (Ent.mk [(37, (pEq (.pointer (some ⟨hb0, 0, none⟩))))] (pEq (.pointer (some ⟨hb0, 0, none⟩))) true), some (Ent.mk [(38, (pEq (.pointer (some ⟨hb0, 0, none⟩))))] (pEq (.pointer (some ⟨hb0, 0, none⟩))) true), some (Ent.mk [(39, (pEq (.pointer (some ⟨hb0, 0, none⟩))))] (pAgg (cGProblem a_0.problem)) true), some (Ent.mk [(0, (pEq (.pointer (some ⟨hb0, 0, none⟩))))] (pEq (.pointer (some ⟨hb0, 0, none⟩))) true), some (Ent.mk [(41, (pEq (.pointer (some ⟨hb0, 0, none⟩))))] (pEq (.pointer (some ⟨hb0, 0, none⟩))) true), some (Ent.mk [(42, (pEq (.pointer (some ⟨hb0, 0, none⟩))))] (pEq (.pointer (some ⟨hb0, 5, none⟩))) true), some (Ent.mk [(43, (pEq (.pointer (some ⟨hb0, 5, none⟩))))] (pEq (.slice ho0_5 hn0_5 hc0_5)) true), some (Ent.mk [(2, (pEq (.int .i64 (a_0.list.length : Int))))] (pEq (.int .i64 (a_0.list.length : Int))) true), some (Ent.mk [(40, (pAgg (cGProblem a_0.problem))), (44, (pEq (.slice ho0_5 hn0_5 hc0_5))), (45, (pEq (.int .i64 (a_0.list.length : Int))))] (pEq (.slice g5.1 g5.2.1 g5.2.2)) true), some (Ent.mk [(46, (pEq (.slice g5.1 g5.2.1 g5.2.2)))] (pEq (.int .i64 (x4.length : Int))) true), some (Ent.mk [] (pEq (.int .i64 (0 : Int))) true)]) ⟨rfl, ⟨rfl, ⟨rfl, ⟨rfl, ⟨rfl, ⟨rfl, ⟨rfl, ⟨rfl, ⟨rfl, ⟨rfl, ⟨rfl, trivial⟩⟩⟩⟩⟩⟩⟩⟩⟩⟩⟩ ?_
      refine RD.fin (es := [Ent.mk [(0, (pEq (.pointer (some ⟨hb0, 0, none⟩))))] (pEq (.pointer (some ⟨hb0, 0, none⟩))) true, Ent.mk [(37, (pEq (.pointer (some ⟨hb0, 0, none⟩))))] (pEq (.pointer (some ⟨hb0, 0, none⟩))) true, Ent.mk [(38, (pEq (.pointer (some ⟨hb0, 0, none⟩))))] (pEq (.pointer (some ⟨hb0, 0, none⟩))) true, Ent.mk [(39, (pEq (.pointer (some ⟨hb0, 0, none⟩))))] (pAgg (cGProblem a_0.problem)) true, Ent.mk [(0, (pEq (.pointer (some ⟨hb0, 0, none⟩))))] (pEq (.pointer (some ⟨hb0, 0, none⟩))) true, Ent.mk [(41, (pEq (.pointer (some ⟨hb0, 0, none⟩))))] (pEq (.pointer (some ⟨hb0, 0, none⟩))) true, Ent.mk [(42, (pEq (.pointer (some ⟨hb0, 0, none⟩))))] (pEq (.pointer (some ⟨hb0, 5, none⟩))) true, Ent.mk [(43, (pEq (.pointer (some ⟨hb0, 5, none⟩))))] (pEq (.slice ho0_5 hn0_5 hc0_5)) true, Ent.mk [(2, (pEq (.int .i64 (a_0.list.length : Int))))] (pEq (.int .i64 (a_0.list.length : Int))) true, Ent.mk [(40, (pAgg (cGProblem a_0.problem))), (44, (pEq (.slice ho0_5 hn0_5 hc0_5))), (45, (pEq (.int .i64 (a_0.list.length : Int))))] (pEq (.slice g5.1 g5.2.1 g5.2.2)) true, Ent.mk [(46, (pEq (.slice g5.1 g5.2.1 g5.2.2)))] (pEq (.int .i64 (x4.length : Int))) true, Ent.mk [] (pEq (.int .i64 (0 : Int))) true]) (done := [9]) hD ⟨.inr ⟨(OpJ.w (J_move rfl (Opd.tmp rfl))), ⟨rfl, trivial⟩, rfl, rfl⟩, ⟨.inr ⟨(OpJ.w (J_nilCheckE rfl (Opd.tmp rfl))), ⟨rfl, trivial⟩, rfl, rfl⟩, ⟨.inr ⟨(OpJ.w (J_fieldAddrE rfl Try.underlying90 rfl sz29 (by decide) (Opd.tmp rfl) rfl)), ⟨rfl, trivial⟩, rfl, rfl⟩, ⟨.inr ⟨(W_loadPart (i := 1) rfl Try.isAgg29 sz29 (Opd.tmp rfl) rfl rfl rfl), ⟨rfl, trivial⟩, rfl, rfl⟩, ⟨.inr ⟨(OpJ.w (J_move rfl (Opd.tmp rfl))), ⟨rfl, trivial⟩, rfl, rfl⟩, ⟨.inr ⟨(OpJ.w (J_nilCheckE rfl (Opd.tmp rfl))), ⟨rfl, trivial⟩, rfl, rfl⟩, ⟨.inr ⟨(OpJ.w (J_fieldAddrE rfl Try.underlying90 rfl sz25 (by decide) (Opd.tmp rfl) rfl)), ⟨rfl, trivial⟩, rfl, rfl⟩, ⟨.inr ⟨(W_load (i := 1) rfl Try.isAgg25 (Opd.tmp rfl) rfl rfl), ⟨rfl, trivial⟩, rfl, rfl⟩, ⟨.inr ⟨(OpJ.w (J_move rfl (Opd.tmp rfl))), ⟨rfl, trivial⟩, rfl, rfl⟩, ⟨.inl rfl, ⟨.inr ⟨(W_rowLen (j := 0) rfl Try.underlying25 (Opd.tmp rfl) rfl), ⟨rfl, trivial⟩, rfl, rfl⟩, ⟨.inr ⟨(OpJ.w (J_move rfl Opd.con)), trivial, rfl, rfl⟩, trivial⟩⟩⟩⟩⟩⟩⟩⟩⟩⟩⟩⟩ ?_
      refine RegL.nil ?_
      refine Ct.then_tr ?_
      refine Tr.weak (Γ' := [(0, (pEq (.pointer (some ⟨hb0, 0, none⟩)))), (2, (pEq (.int .i64 (a_0.list.length : Int)))), (46, (pEq (.slice g5.1 g5.2.1 g5.2.2))), (47, (pEq (.int .i64 (x4.length : Int)))), (48, (pEq (.int .i64 (0 : Int))))]) ⟨rfl, rfl, rfl, rfl, rfl, trivial⟩ ?_
      refine Tr.block ?_
      refine Tr.weak (Γ' := [(0, (pEq (.pointer (some ⟨hb0, 0, none⟩)))), (2, (pEq (.int .i64 (a_0.list.length : Int)))), (46, (pEq (.slice g5.1 g5.2.1 g5.2.2))), (47, (pEq (.int .i64 (x4.length : Int)))), (48, (pEq (.int .i64 (0 : Int))))]) ⟨rfl, rfl, rfl, rfl, rfl, trivial⟩ ?_
      refine Tr.loop (γ := G3) (σ := (Int × Int × Int × (List Int))) (Γσ := fun s g => [(0, (pEq (.pointer (some ⟨hb0, 0, none⟩)))), (2, (pEq (.int .i64 (a_0.list.length : Int)))), (46, (pEq (.slice g5.1 g5.2.1 g5.2.2))), (47, (pEq (.int .i64 (x4.length : Int)))), (48, (pEq (.int .i64 s.1)))]) (Ωσ := fun s g => [oSl 2 1 (cK .i64) g5.1 g5.2.1 g5.2.2 x4, oBlk hb0 [(pSl 1 (cSl 1 (cK .i64)) a_0.problem.Domains), (pSl 1 (cSl 1 (cK .i64)) a_0.problem.Apart), (pEq (.int .i64 s.2.1)), (pEq (.bool a_0.first)), (pEq (.int .i64 a_0.span)), (pEq (.slice g.1 g.2.1 g.2.2)), (pEq (.int .i64 s.2.2.1))], oSl 2 1 (cK .i64) g.1 g.2.1 g.2.2 s.2.2.2]) (g := (ho0_5, hn0_5, hc0_5)) h ?_
      clear h
      rintro ⟨v8, v9, v10, v11⟩ g12 t h
      replace h : m_impl_assignSearch_visit_B7 (iterM (fun self (a : GAssignSearch) => mf_impl_assignSearch_visit self a) n) a_0 x4 v8 v9 v10 v11 = some t := h
      unfold m_impl_assignSearch_visit_B7 at h
      refine Tr.weakO (Γ' := [(0, (pEq (.pointer (some ⟨hb0, 0, none⟩)))), (2, (pEq (.int .i64 (a_0.list.length : Int)))), (46, (pEq (.slice g5.1 g5.2.1 g5.2.2))), (47, (pEq (.int .i64 (x4.length : Int)))), (48, (pEq (.int .i64 v8)))]) (Ω' := [oSl 2 1 (cK .i64) g5.1 g5.2.1 g5.2.2 x4, oBlk hb0 [(pSl 1 (cSl 1 (cK .i64)) a_0.problem.Domains), (pSl 1 (cSl 1 (cK .i64)) a_0.problem.Apart), (pEq (.int .i64 v9)), (pEq (.bool a_0.first)), (pEq (.int .i64 a_0.span)), (pEq (.slice g12.1 g12.2.1 g12.2.2)), (pEq (.int .i64 v10))], oSl 2 1 (cK .i64) g12.1 g12.2.1 g12.2.2 v11]) rfl ⟨rfl, rfl, rfl, rfl, rfl, trivial⟩ ?_
      refine Tr.seq ?_
      refine Tr.region ?_
      refine RegL.pure (p := (pEq (.bool (decide (v8 < (x4.length : Int)))))) rfl rfl rfl (J_bin rfl (Opd.tmp rfl) (Opd.tmp rfl) B_lss) ?_
      refine RegL.nil ?_
      refine Ct.then_tr ?_
      refine Tr.weak (Γ' := [(0, (pEq (.pointer (some ⟨hb0, 0, none⟩)))), (2, (pEq (.int .i64 (a_0.list.length : Int)))), (46, (pEq (.slice g5.1 g5.2.1 g5.2.2))), (47, (pEq (.int .i64 (x4.length : Int)))), (48, (pEq (.int .i64 v8))), (49, (pEq (.bool (decide (v8 < (x4.length : Int))))))]) ⟨rfl, rfl, rfl, rfl, rfl, rfl, trivial⟩ ?_
      refine Tr.seq ?_
      refine Tr.cond (Opd.tmp rfl) (fun hc => ?_) (fun hc => ?_)
      · replace h := bif_t hc h
        refine Tr.skip ?_
        refine Ct.then_tr ?_
        refine Tr.weak (Γ' := [(0, (pEq (.pointer (some ⟨hb0, 0, none⟩)))), (2, (pEq (.int .i64 (a_0.list.length : Int)))), (46, (pEq (.slice g5.1 g5.2.1 g5.2.2))), (47, (pEq (.int .i64 (x4.length : Int)))), (48, (pEq (.int .i64 v8)))]) ⟨rfl, rfl, rfl, rfl, rfl, trivial⟩ ?_
        refine Tr.seq ?_
        refine Tr.block ?_
        refine Tr.seq ?_
        refine Tr.region ?_
        replace h := bind_some h; obtain ⟨x13, hx13, h⟩ := h
        refine RegL.pureW (p := (pEq (.pointer (some ⟨blk g5.1, (v8).toNat * 1, none⟩)))) rfl rfl rfl (W_rowIdx (j := 0) rfl Try.underlying25 sz2 (Opd.tmp rfl) (Opd.tmp rfl) rfl (idx_lt hx13)) ?_
        refine RegL.pureW (p := (pEq (.int .i64 x13))) rfl rfl rfl (W_rowLoad (j := 0) (f := (cK .i64)) rfl Try.isAgg2 (fun _ => rfl) (Opd.tmp rfl) rfl hx13 rfl) ?_
        refine RegL.pure (p := (pEq (.int .i64 x13))) rfl rfl rfl (J_assign rfl (Opd.tmp rfl)) ?_
        refine RegL.nil ?_
        refine Ct.then_tr ?_
        refine Tr.weak (Γ' := [(0, (pEq (.pointer (some ⟨hb0, 0, none⟩)))), (2, (pEq (.int .i64 (a_0.list.length : Int)))), (4, (pEq (.int .i64 x13))), (46, (pEq (.slice g5.1 g5.2.1 g5.2.2))), (47, (pEq (.int .i64 (x4.length : Int)))), (48, (pEq (.int .i64 v8)))]) ⟨rfl, rfl, rfl, rfl, rfl, rfl, trivial⟩ ?_
        refine Tr.seq ?_
        refine Tr.region ?_
        refine RegL.pure (p := (pEq (.pointer (some ⟨hb0, 0, none⟩)))) rfl rfl rfl (J_move rfl (Opd.tmp rfl)) ?_
        refine RegL.pure (p := (pEq (.pointer (some ⟨hb0, 0, none⟩)))) rfl rfl rfl (J_move rfl (Opd.tmp rfl)) ?_
        refine RegL.pure (p := (pEq (.pointer (some ⟨hb0, 0, none⟩)))) rfl rfl rfl (J_nilCheckE rfl (Opd.tmp rfl)) ?_
        refine RegL.pure (p := (pEq (.pointer (some ⟨hb0, 5, none⟩)))) rfl rfl rfl (J_fieldAddrE rfl Try.underlying90 rfl sz25 (by decide) (Opd.tmp rfl) rfl) ?_
        refine RegL.pureW (p := (pEq (.slice g12.1 g12.2.1 g12.2.2))) rfl rfl rfl (W_load (i := 1) rfl Try.isAgg25 (Opd.tmp rfl) rfl rfl) ?_
        refine RegL.pure (p := (pEq (.int .i64 x13))) rfl rfl rfl (J_move rfl (Opd.tmp rfl)) ?_
        refine RegL.pure (p := (pSl 1 (cK .i64) ([x13] : (List Int)))) rfl rfl rfl (J_buildSlice (l := ([x13] : (List Int))) (qss := [(0, (cK .i64) x13)]) rfl Try.underlying25 el2 rfl (Parts.cons (Part.one (Opd.tmp rfl) OneC.int) Parts.nil) rfl rfl) ?_
        replace h := bind_some h; obtain ⟨x14, hx14, h⟩ := h
        refine RegL.re (Ω2 := [oSl 2 1 (cK .i64) g12.1 g12.2.1 g12.2.2 v11, oSl 2 1 (cK .i64) g5.1 g5.2.1 g5.2.2 x4, oBlk hb0 [(pSl 1 (cSl 1 (cK .i64)) a_0.problem.Domains), (pSl 1 (cSl 1 (cK .i64)) a_0.problem.Apart), (pEq (.int .i64 v9)), (pEq (.bool a_0.first)), (pEq (.int .i64 a_0.span)), (pEq (.slice g12.1 g12.2.1 g12.2.2)), (pEq (.int .i64 v10))]]) (fun h => SatO.pick 2 h) ?_
        refine RegL.step (γ := Option Addr × Nat) (p := fun g => pEq (.slice g.1 x14.length g.2)) (Ω' := fun g => [oSl 2 1 (cK .i64) g.1 x14.length g.2 x14, oSl 2 1 (cK .i64) g5.1 g5.2.1 g5.2.2 x4, oBlk hb0 [(pSl 1 (cSl 1 (cK .i64)) a_0.problem.Domains), (pSl 1 (cSl 1 (cK .i64)) a_0.problem.Apart), (pEq (.int .i64 v9)), (pEq (.bool a_0.first)), (pEq (.int .i64 a_0.span)), (pEq (.slice g12.1 g12.2.1 g12.2.2)), (pEq (.int .i64 v10))]]) rfl rfl rfl (M_appendI rfl Try.underlying25 el2 (Opd.tmp rfl) (Opd.tmp rfl) hx14) fun g15 => ?_
        refine RegL.pure (p := (pEq (.pointer (some ⟨hb0, 0, none⟩)))) rfl rfl rfl (J_nilCheckE rfl (Opd.tmp rfl)) ?_
        refine RegL.pure (p := (pEq (.pointer (some ⟨hb0, 5, none⟩)))) rfl rfl rfl (J_fieldAddrE rfl Try.underlying90 rfl sz25 (by decide) (Opd.tmp rfl) rfl) ?_
        refine RegL.re (Ω2 := [oBlk hb0 [(pSl 1 (cSl 1 (cK .i64)) a_0.problem.Domains), (pSl 1 (cSl 1 (cK .i64)) a_0.problem.Apart), (pEq (.int .i64 v9)), (pEq (.bool a_0.first)), (pEq (.int .i64 a_0.span)), (pEq (.slice g12.1 g12.2.1 g12.2.2)), (pEq (.int .i64 v10))], oSl 2 1 (cK .i64) g15.1 x14.length g15.2 x14, oSl 2 1 (cK .i64) g5.1 g5.2.1 g5.2.2 x4]) (fun h => SatO.pick 2 h) ?_
        refine RegL.stepN (γ := Unit) (p := fun _ => pAny) (Ω' := fun _ => [oBlk hb0 [(pSl 1 (cSl 1 (cK .i64)) a_0.problem.Domains), (pSl 1 (cSl 1 (cK .i64)) a_0.problem.Apart), (pEq (.int .i64 v9)), (pEq (.bool a_0.first)), (pEq (.int .i64 a_0.span)), (pEq (.slice g15.1 x14.length g15.2)), (pEq (.int .i64 v10))], oSl 2 1 (cK .i64) g15.1 x14.length g15.2 x14, oSl 2 1 (cK .i64) g5.1 g5.2.1 g5.2.2 x4]) rfl rfl (M_store rfl sz25 (Opd.tmp rfl) (Opd.tmp rfl) OneC.slice rfl rfl) fun g16 => ?_
        refine RegL.nil ?_
        refine Ct.then_tr ?_
        refine Tr.weak (Γ' := [(0, (pEq (.pointer (some ⟨hb0, 0, none⟩)))), (2, (pEq (.int .i64 (a_0.list.length : Int)))), (46, (pEq (.slice g5.1 g5.2.1 g5.2.2))), (47, (pEq (.int .i64 (x4.length : Int)))), (48, (pEq (.int .i64 v8)))]) ⟨rfl, rfl, rfl, rfl, rfl, trivial⟩ ?_
        refine Tr.seq ?_
        refine Tr.seq ?_
        replace h := bind_some h; obtain ⟨x17, hx17, h⟩ := h
        refine Tr.drawD (n := 102) (m := 10) (es := [some (Ent.mk [(0, (pEq (.pointer (some ⟨hb0, 0, none⟩))))] (pEq (.pointer (some ⟨hb0, 0, none⟩))) true), some (Ent.mk [(62, (pEq (.pointer (some ⟨hb0, 0, none⟩))))] (pEq (.pointer (some ⟨hb0, 0, none⟩))) true), some (Ent.mk [(63, (pEq (.pointer (some ⟨hb0, 0, none⟩))))] (pEq (.pointer (some ⟨hb0, 5, none⟩))) true), some (Ent.mk [(64, (pEq (.pointer (some ⟨hb0, 5, none⟩))))] (pEq (.slice g15.1 x14.length g15.2)) true), some (Ent.mk [(65, (pEq (.slice g15.1 x14.length g15.2)))] (pEq (.int .i64 x17)) true), some (Ent.mk [(0, (pEq (.pointer (some ⟨hb0, 0, none⟩))))] (pEq (.pointer (some ⟨hb0, 0, none⟩))) true), some (Ent.mk [(67, (pEq (.pointer (some ⟨hb0, 0, none⟩))))] (pEq (.pointer (some ⟨hb0, 0, none⟩))) true), some (Ent.mk [(68, (pEq (.pointer (some ⟨hb0, 0, none⟩))))] (pEq (.pointer (some ⟨hb0, 4, none⟩))) true), some (Ent.mk [(69, (pEq (.pointer (some ⟨hb0, 4, none⟩))))] (pEq (.int .i64 a_0.span)) true), some (Ent.mk [(66, (pEq (.int .i64 x17))), (70, (pEq (.int .i64 a_0.span)))] (pEq (.bool (decide (x17 ≤ a_0.span)))) true)]) (rd := [[0], [62], [63], [64], [65], [0], [67], [68], [69], [66, 70]]) rfl hmix (by kernel_rfl) fun hD => ?_
        refine RD.fin (es := [Ent.mk [(0, (pEq (.pointer (some ⟨hb0, 0, none⟩))))] (pEq (.pointer (some ⟨hb0, 0, none⟩))) true, Ent.mk [(62, (pEq (.pointer (some ⟨hb0, 0, none⟩))))] (pEq (.pointer (some ⟨hb0, 0, none⟩))) true, Ent.mk [(63, (pEq (.pointer (some ⟨hb0, 0, none⟩))))] (pEq (.pointer (some ⟨hb0, 5, none⟩))) true, Ent.mk [(64, (pEq (.pointer (some ⟨hb0, 5, none⟩))))] (pEq (.slice g15.1 x14.length g15.2)) true, Ent.mk [(65, (pEq (.slice g15.1 x14.length g15.2)))] (pEq (.int .i64 x17)) true, Ent.mk [(0, (pEq (.pointer (some ⟨hb0, 0, none⟩))))] (pEq (.pointer (some ⟨hb0, 0, none⟩))) true, Ent.mk [(67, (pEq (.pointer (some ⟨hb0, 0, none⟩))))] (pEq (.pointer (some ⟨hb0, 0, none⟩))) true, Ent.mk [(68, (pEq (.pointer (some ⟨hb0, 0, none⟩))))] (pEq (.pointer (some ⟨hb0, 4, none⟩))) true, Ent.mk [(69, (pEq (.pointer (some ⟨hb0, 4, none⟩))))] (pEq (.int .i64 a_0.span)) true, Ent.mk [(66, (pEq (.int .i64 x17))), (70, (pEq (.int .i64 a_0.span)))] (pEq (.bool (decide (x17 ≤ a_0.span)))) true]) (done := []) hD ⟨.inr ⟨(OpJ.w (J_move rfl (Opd.tmp rfl))), ⟨rfl, trivial⟩, rfl, rfl⟩, ⟨.inr ⟨(OpJ.w (J_nilCheckE rfl (Opd.tmp rfl))), ⟨rfl, trivial⟩, rfl, rfl⟩, ⟨.inr ⟨(OpJ.w (J_fieldAddrE rfl Try.underlying90 rfl sz25 (by decide) (Opd.tmp rfl) rfl)), ⟨rfl, trivial⟩, rfl, rfl⟩, ⟨.inr ⟨(W_load (i := 0) rfl Try.isAgg25 (Opd.tmp rfl) rfl rfl), ⟨rfl, trivial⟩, rfl, rfl⟩, ⟨.inr ⟨(W_call rfl Try.call83 (c_impl_SpanOf hx17) (OpdsA.cons (OpdA.conv rfl (Conv.row (f := (cK .i64)) 1 (fun _ => rfl) rfl)) OpdsA.nil) FreeP.eq), ⟨rfl, trivial⟩, rfl, rfl⟩, ⟨.inr ⟨(OpJ.w (J_move rfl (Opd.tmp rfl))), ⟨rfl, trivial⟩, rfl, rfl⟩, ⟨.inr ⟨(OpJ.w (J_nilCheckE rfl (Opd.tmp rfl))), ⟨rfl, trivial⟩, rfl, rfl⟩, ⟨.inr ⟨(OpJ.w (J_fieldAddrE rfl Try.underlying90 rfl sz2 (by decide) (Opd.tmp rfl) rfl)), ⟨rfl, trivial⟩, rfl, rfl⟩, ⟨.inr ⟨(W_load (i := 0) rfl Try.isAgg2 (Opd.tmp rfl) rfl rfl), ⟨rfl, trivial⟩, rfl, rfl⟩, ⟨.inr ⟨(OpJ.w (J_bin rfl (Opd.tmp rfl) (Opd.tmp rfl) B_leq)), ⟨rfl, rfl, trivial⟩, rfl, rfl⟩, trivial⟩⟩⟩⟩⟩⟩⟩⟩⟩⟩ ?_
        refine RegL.nil ?_
        refine Ct.then_tr ?_
        refine Tr.weak (Γ' := [(0, (pEq (.pointer (some ⟨hb0, 0, none⟩)))), (2, (pEq (.int .i64 (a_0.list.length : Int)))), (46, (pEq (.slice g5.1 g5.2.1 g5.2.2))), (47, (pEq (.int .i64 (x4.length : Int)))), (48, (pEq (.int .i64 v8))), (71, (pEq (.bool (decide (x17 ≤ a_0.span)))))]) ⟨rfl, rfl, rfl, rfl, rfl, rfl, trivial⟩ ?_
        replace h := bind_some h; obtain ⟨x18, hx18, h⟩ := h
        refine Tr.cut (γ := G3) (Γm := fun g => [(0, (pEq (.pointer (some ⟨hb0, 0, none⟩)))), (2, (pEq (.int .i64 (a_0.list.length : Int)))), (46, (pEq (.slice g5.1 g5.2.1 g5.2.2))), (47, (pEq (.int .i64 (x4.length : Int)))), (48, (pEq (.int .i64 v8)))]) (Ωm := fun g => [oBlk hb0 [(pSl 1 (cSl 1 (cK .i64)) a_0.problem.Domains), (pSl 1 (cSl 1 (cK .i64)) a_0.problem.Apart), (pEq (.int .i64 x18.1)), (pEq (.bool a_0.first)), (pEq (.int .i64 a_0.span)), (pEq (.slice g.1 g.2.1 g.2.2)), (pEq (.int .i64 x18.2.1))], oSl 2 1 (cK .i64) g.1 g.2.1 g.2.2 x18.2.2, oSl 2 1 (cK .i64) g5.1 g5.2.1 g5.2.2 x4]) ?_ (fun g21 => ?_)
        · clear h
          have h := hx18
          clear hx18
          refine Tr.cond (Opd.tmp rfl) (fun hc => ?_) (fun hc => ?_)
          · replace h := bif_t hc h
            refine Tr.region ?_
            refine RegL.pure (p := (pEq (.pointer (some ⟨hb0, 0, none⟩)))) rfl rfl rfl (J_move rfl (Opd.tmp rfl)) ?_
            replace h := bind_some h; obtain ⟨x19, hx19, h⟩ := h
            refine RegL.step (γ := G3) (p := fun g => (pTup [])) (Ω' := fun g => [oBlk hb0 [(pSl 1 (cSl 1 (cK .i64)) a_0.problem.Domains), (pSl 1 (cSl 1 (cK .i64)) a_0.problem.Apart), (pEq (.int .i64 x19.1)), (pEq (.bool a_0.first)), (pEq (.int .i64 a_0.span)), (pEq (.slice g.1 g.2.1 g.2.2)), (pEq (.int .i64 x19.2.2))], oSl 2 1 (cK .i64) g.1 g.2.1 g.2.2 x19.2.1, oSl 2 1 (cK .i64) g5.1 g5.2.1 g5.2.2 x4]) rfl rfl rfl (M_callH (Ωi := [oBlk hb0 [(pSl 1 (cSl 1 (cK .i64)) a_0.problem.Domains), (pSl 1 (cSl 1 (cK .i64)) a_0.problem.Apart), (pEq (.int .i64 v9)), (pEq (.bool a_0.first)), (pEq (.int .i64 a_0.span)), (pEq (.slice g15.1 x14.length g15.2)), (pEq (.int .i64 v10))], oSl 2 1 (cK .i64) g15.1 x14.length g15.2 x14]) rfl Try.call86 (ih hx19) (Opds.cons (Opd.tmp rfl) Opds.nil)) fun g20 => ?_
            refine RegL.nil ?_
            replace h := Option.some.inj h; subst h
            exact Ct.mid (g20.1, g20.2.1, g20.2.2) rfl ⟨rfl, rfl, rfl, rfl, rfl, trivial⟩
          · replace h := bif_f hc h
            refine Tr.skip ?_
            replace h := Option.some.inj h; subst h
            exact Ct.mid (g15.1, x14.length, g15.2) rfl ⟨rfl, rfl, rfl, rfl, rfl, trivial⟩
        · clear hx18
          refine Ct.then_tr ?_
          refine Tr.weak (Γ' := [(0, (pEq (.pointer (some ⟨hb0, 0, none⟩)))), (2, (pEq (.int .i64 (a_0.list.length : Int)))), (46, (pEq (.slice g5.1 g5.2.1 g5.2.2))), (47, (pEq (.int .i64 (x4.length : Int)))), (48, (pEq (.int .i64 v8)))]) ⟨rfl, rfl, rfl, rfl, rfl, trivial⟩ ?_
          refine Tr.seq ?_
          refine Tr.seq ?_
          replace h := bind_some h; obtain ⟨x22, hx22, h⟩ := h
          refine Tr.cut (γ := Unit) (Γm := fun g => [(0, (pEq (.pointer (some ⟨hb0, 0, none⟩)))), (2, (pEq (.int .i64 (a_0.list.length : Int)))), (46, (pEq (.slice g5.1 g5.2.1 g5.2.2))), (47, (pEq (.int .i64 (x4.length : Int)))), (48, (pEq (.int .i64 v8))), (91, (pEq (.bool x22)))]) (Ωm := fun g => [oBlk hb0 [(pSl 1 (cSl 1 (cK .i64)) a_0.problem.Domains), (pSl 1 (cSl 1 (cK .i64)) a_0.problem.Apart), (pEq (.int .i64 x18.1)), (pEq (.bool a_0.first)), (pEq (.int .i64 a_0.span)), (pEq (.slice g21.1 g21.2.1 g21.2.2)), (pEq (.int .i64 x18.2.1))], oSl 2 1 (cK .i64) g21.1 g21.2.1 g21.2.2 x18.2.2, oSl 2 1 (cK .i64) g5.1 g5.2.1 g5.2.2 x4]) ?_ (fun g25 => ?_)
          · clear h
            have h := hx22
            clear hx22
            refine Tr.region ?_
            refine RegL.pure (p := (pEq (.pointer (some ⟨hb0, 0, none⟩)))) rfl rfl rfl (J_move rfl (Opd.tmp rfl)) ?_
            refine RegL.pure (p := (pEq (.pointer (some ⟨hb0, 0, none⟩)))) rfl rfl rfl (J_nilCheckE rfl (Opd.tmp rfl)) ?_
            refine RegL.pure (p := (pEq (.pointer (some ⟨hb0, 2, none⟩)))) rfl rfl rfl (J_fieldAddrE rfl Try.underlying90 rfl sz2 (by decide) (Opd.tmp rfl) rfl) ?_
            refine RegL.pureW (p := (pEq (.int .i64 x18.1))) rfl rfl rfl (W_load (i := 0) rfl Try.isAgg2 (Opd.tmp rfl) rfl rfl) ?_
            refine RegL.pure (p := (pEq (.bool (decide (x18.1 < (0 : Int)))))) rfl rfl rfl (J_bin rfl (Opd.tmp rfl) Opd.con B_lss) ?_
            refine RegL.pure (p := (pEq (.bool (decide (x18.1 < (0 : Int)))))) rfl rfl rfl (J_move rfl (Opd.tmp rfl)) ?_
            rcases Bool.eq_false_or_eq_true (decide (x18.1 < (0 : Int))) with hc23 | hc23
            · replace h := bif_t hc23 h
              refine RegL.skipG rfl rfl rfl hc23 rfl rfl ?_
              refine RegL.skipG rfl rfl rfl hc23 rfl rfl ?_
              refine RegL.skipG rfl rfl rfl hc23 rfl rfl ?_
              refine RegL.skipG rfl rfl rfl hc23 rfl rfl ?_
              refine RegL.skipG rfl rfl rfl hc23 rfl rfl ?_
              refine RegL.skipU rfl rfl rfl rfl rfl ?_
              refine RegL.skipU rfl rfl rfl rfl rfl ?_
              refine RegL.skipU rfl rfl rfl rfl rfl ?_
              refine RegL.skipU rfl rfl rfl rfl rfl ?_
              refine RegL.skipU rfl rfl rfl rfl rfl ?_
              refine RegL.skipG rfl rfl rfl hc23 rfl rfl ?_
              refine RegL.pure (p := (pEq (.bool true))) rfl rfl rfl (J_pick rfl (Opd.tmp rfl) (fun _ => Opd.con) (fun hf => absurd (hc23.symm.trans hf) (by decide))) ?_
              refine RegL.nil ?_
              replace h := Option.some.inj h; subst h
              exact Ct.mid () rfl ⟨rfl, rfl, rfl, rfl, rfl, rfl, trivial⟩
            · replace h := bif_f hc23 h
              refine RegL.pureG (p := (pEq (.pointer (some ⟨hb0, 0, none⟩)))) rfl rfl rfl hc23 rfl rfl (J_move rfl (Opd.tmp rfl)) ?_
              refine RegL.pureG (p := (pEq (.pointer (some ⟨hb0, 0, none⟩)))) rfl rfl rfl hc23 rfl rfl (J_nilCheckE rfl (Opd.tmp rfl)) ?_
              refine RegL.pureG (p := (pEq (.pointer (some ⟨hb0, 3, none⟩)))) rfl rfl rfl hc23 rfl rfl (J_fieldAddrE rfl Try.underlying90 rfl sz4 (by decide) (Opd.tmp rfl) rfl) ?_
              refine RegL.pureGW (p := (pEq (.bool a_0.first))) rfl rfl rfl hc23 rfl rfl (W_load (i := 0) rfl Try.isAgg4 (Opd.tmp rfl) rfl rfl) ?_
              refine RegL.pureG (p := (pEq (.bool a_0.first))) rfl rfl rfl hc23 rfl rfl (J_move rfl (Opd.tmp rfl)) ?_
              rcases Bool.eq_false_or_eq_true a_0.first with hc24 | hc24
              · replace h := bif_t hc24 h
                refine RegL.pureG (p := (pEq (.pointer (some ⟨hb0, 0, none⟩)))) rfl rfl rfl hc24 rfl rfl (J_move rfl (Opd.tmp rfl)) ?_
                refine RegL.pureG (p := (pEq (.pointer (some ⟨hb0, 0, none⟩)))) rfl rfl rfl hc24 rfl rfl (J_nilCheckE rfl (Opd.tmp rfl)) ?_
                refine RegL.pureG (p := (pEq (.pointer (some ⟨hb0, 6, none⟩)))) rfl rfl rfl hc24 rfl rfl (J_fieldAddrE rfl Try.underlying90 rfl sz2 (by decide) (Opd.tmp rfl) rfl) ?_
                refine RegL.pureGW (p := (pEq (.int .i64 x18.2.1))) rfl rfl rfl hc24 rfl rfl (W_load (i := 0) rfl Try.isAgg2 (Opd.tmp rfl) rfl rfl) ?_
                refine RegL.pureG (p := (pEq (.bool (decide ((0 : Int) < x18.2.1))))) rfl rfl rfl hc24 rfl rfl (J_bin rfl (Opd.tmp rfl) Opd.con B_gtr) ?_
                refine RegL.pureG (p := (pEq (.bool (decide ((0 : Int) < x18.2.1))))) rfl rfl rfl hc23 rfl rfl (J_pick rfl (Opd.tmp rfl) (fun _ => (Opd.tmp rfl)) (fun hf => absurd (hc24.symm.trans hf) (by decide))) ?_
                refine RegL.pure (p := (pEq (.bool (decide ((0 : Int) < x18.2.1))))) rfl rfl rfl (J_pick rfl (Opd.tmp rfl) (fun hf => absurd (hc23.symm.trans hf) (by decide)) (fun _ => (Opd.tmp rfl))) ?_
                refine RegL.nil ?_
                replace h := Option.some.inj h; subst h
                exact Ct.mid () rfl ⟨rfl, rfl, rfl, rfl, rfl, rfl, trivial⟩
              · replace h := bif_f hc24 h
                refine RegL.skipG rfl rfl rfl hc24 rfl rfl ?_
                refine RegL.skipG rfl rfl rfl hc24 rfl rfl ?_
                refine RegL.skipG rfl rfl rfl hc24 rfl rfl ?_
                refine RegL.skipG rfl rfl rfl hc24 rfl rfl ?_
                refine RegL.skipG rfl rfl rfl hc24 rfl rfl ?_
                refine RegL.pureG (p := (pEq (.bool false))) rfl rfl rfl hc23 rfl rfl (J_pick rfl (Opd.tmp rfl) (fun hf => absurd (hc24.symm.trans hf) (by decide)) (fun _ => Opd.con)) ?_
                refine RegL.pure (p := (pEq (.bool false))) rfl rfl rfl (J_pick rfl (Opd.tmp rfl) (fun hf => absurd (hc23.symm.trans hf) (by decide)) (fun _ => (Opd.tmp rfl))) ?_
                refine RegL.nil ?_
                replace h := Option.some.inj h; subst h
                exact Ct.mid () rfl ⟨rfl, rfl, rfl, rfl, rfl, rfl, trivial⟩
          · clear hx22
            refine Ct.then_tr ?_
            refine Tr.weak (Γ' := [(0, (pEq (.pointer (some ⟨hb0, 0, none⟩)))), (2, (pEq (.int .i64 (a_0.list.length : Int)))), (46, (pEq (.slice g5.1 g5.2.1 g5.2.2))), (47, (pEq (.int .i64 (x4.length : Int)))), (48, (pEq (.int .i64 v8))), (91, (pEq (.bool x22)))]) ⟨rfl, rfl, rfl, rfl, rfl, rfl, trivial⟩ ?_
            refine Tr.cond (Opd.tmp rfl) (fun hc => ?_) (fun hc => ?_)
            · replace h := bif_t hc h
              refine Tr.ret ?_
              refine Ct.then_ret ?_
              refine Ct.blk_ret ?_
              refine Ct.then_ret ?_
              replace h := map_some h; obtain ⟨r1, h, rfl⟩ := h
              refine Ct.out_ret fun e => ?_
              subst e
              refine Ct.blk_ret ?_
              refine Ct.re (Ω2 := [oSl 2 1 (cK .i64) g21.1 g21.2.1 g21.2.2 x18.2.2, oBlk hb0 [(pSl 1 (cSl 1 (cK .i64)) a_0.problem.Domains), (pSl 1 (cSl 1 (cK .i64)) a_0.problem.Apart), (pEq (.int .i64 x18.1)), (pEq (.bool a_0.first)), (pEq (.int .i64 a_0.span)), (pEq (.slice g21.1 g21.2.1 g21.2.2)), (pEq (.int .i64 x18.2.1))], oSl 2 1 (cK .i64) g5.1 g5.2.1 g5.2.2 x4]) (fun h => SatO.pick 1 h) ?_
              refine Ct.re (Ω2 := [oBlk hb0 [(pSl 1 (cSl 1 (cK .i64)) a_0.problem.Domains), (pSl 1 (cSl 1 (cK .i64)) a_0.problem.Apart), (pEq (.int .i64 x18.1)), (pEq (.bool a_0.first)), (pEq (.int .i64 a_0.span)), (pEq (.slice g21.1 g21.2.1 g21.2.2)), (pEq (.int .i64 x18.2.1))], oSl 2 1 (cK .i64) g21.1 g21.2.1 g21.2.2 x18.2.2, oSl 2 1 (cK .i64) g5.1 g5.2.1 g5.2.2 x4]) (fun h => SatO.pick 1 h) ?_
              refine Ct.re (Ω2 := [oSl 2 1 (cK .i64) g5.1 g5.2.1 g5.2.2 x4, oBlk hb0 [(pSl 1 (cSl 1 (cK .i64)) a_0.problem.Domains), (pSl 1 (cSl 1 (cK .i64)) a_0.problem.Apart), (pEq (.int .i64 x18.1)), (pEq (.bool a_0.first)), (pEq (.int .i64 a_0.span)), (pEq (.slice g21.1 g21.2.1 g21.2.2)), (pEq (.int .i64 x18.2.1))], oSl 2 1 (cK .i64) g21.1 g21.2.1 g21.2.2 x18.2.2]) (fun h => SatO.pick 2 h) ?_
              replace h := Option.some.inj h; subst h
              exact Ct.retH0 (Ωx := [oSl 2 1 (cK .i64) g5.1 g5.2.1 g5.2.2 x4]) (g21.1, g21.2.1, g21.2.2) rfl rfl rfl
            · replace h := bif_f hc h
              refine Tr.skip ?_
              refine Ct.then_tr ?_
              refine Tr.weak (Γ' := [(0, (pEq (.pointer (some ⟨hb0, 0, none⟩)))), (2, (pEq (.int .i64 (a_0.list.length : Int)))), (46, (pEq (.slice g5.1 g5.2.1 g5.2.2))), (47, (pEq (.int .i64 (x4.length : Int)))), (48, (pEq (.int .i64 v8)))]) ⟨rfl, rfl, rfl, rfl, rfl, trivial⟩ ?_
              refine Tr.region ?_
              refine RegL.pure (p := (pEq (.pointer (some ⟨hb0, 0, none⟩)))) rfl rfl rfl (J_move rfl (Opd.tmp rfl)) ?_
              refine RegL.pure (p := (pEq (.pointer (some ⟨hb0, 0, none⟩)))) rfl rfl rfl (J_move rfl (Opd.tmp rfl)) ?_
              refine RegL.pure (p := (pEq (.pointer (some ⟨hb0, 0, none⟩)))) rfl rfl rfl (J_nilCheckE rfl (Opd.tmp rfl)) ?_
              refine RegL.pure (p := (pEq (.pointer (some ⟨hb0, 5, none⟩)))) rfl rfl rfl (J_fieldAddrE rfl Try.underlying90 rfl sz25 (by decide) (Opd.tmp rfl) rfl) ?_
              refine RegL.pureW (p := (pEq (.slice g21.1 g21.2.1 g21.2.2))) rfl rfl rfl (W_load (i := 0) rfl Try.isAgg25 (Opd.tmp rfl) rfl rfl) ?_
              refine RegL.pure (p := (pEq (.int .i64 (a_0.list.length : Int)))) rfl rfl rfl (J_move rfl (Opd.tmp rfl)) ?_
              replace h := bind_some h; obtain ⟨u26, hu26, h⟩ := h
              refine RegL.re (Ω2 := [oSl 2 1 (cK .i64) g21.1 g21.2.1 g21.2.2 x18.2.2, oBlk hb0 [(pSl 1 (cSl 1 (cK .i64)) a_0.problem.Domains), (pSl 1 (cSl 1 (cK .i64)) a_0.problem.Apart), (pEq (.int .i64 x18.1)), (pEq (.bool a_0.first)), (pEq (.int .i64 a_0.span)), (pEq (.slice g21.1 g21.2.1 g21.2.2)), (pEq (.int .i64 x18.2.1))], oSl 2 1 (cK .i64) g5.1 g5.2.1 g5.2.2 x4]) (fun h => SatO.pick 1 h) ?_
              refine RegL.step (γ := Unit) (p := fun _ => pEq (.slice g21.1 ((a_0.list.length : Int)).toNat g21.2.2)) (Ω' := fun _ => [oSl 2 1 (cK .i64) g21.1 ((a_0.list.length : Int)).toNat g21.2.2 (x18.2.2.take ((a_0.list.length : Int)).toNat), oBlk hb0 [(pSl 1 (cSl 1 (cK .i64)) a_0.problem.Domains), (pSl 1 (cSl 1 (cK .i64)) a_0.problem.Apart), (pEq (.int .i64 x18.1)), (pEq (.bool a_0.first)), (pEq (.int .i64 a_0.span)), (pEq (.slice g21.1 g21.2.1 g21.2.2)), (pEq (.int .i64 x18.2.1))], oSl 2 1 (cK .i64) g5.1 g5.2.1 g5.2.2 x4]) rfl rfl rfl (M_rowCut rfl Try.underlying25 sz2 (Opd.tmp rfl) SOpd.none (SOpd.some (Opd.tmp rfl)) hu26) fun g27 => ?_
              refine RegL.pure (p := (pEq (.pointer (some ⟨hb0, 0, none⟩)))) rfl rfl rfl (J_nilCheckE rfl (Opd.tmp rfl)) ?_
              refine RegL.pure (p := (pEq (.pointer (some ⟨hb0, 5, none⟩)))) rfl rfl rfl (J_fieldAddrE rfl Try.underlying90 rfl sz25 (by decide) (Opd.tmp rfl) rfl) ?_
              refine RegL.re (Ω2 := [oBlk hb0 [(pSl 1 (cSl 1 (cK .i64)) a_0.problem.Domains), (pSl 1 (cSl 1 (cK .i64)) a_0.problem.Apart), (pEq (.int .i64 x18.1)), (pEq (.bool a_0.first)), (pEq (.int .i64 a_0.span)), (pEq (.slice g21.1 g21.2.1 g21.2.2)), (pEq (.int .i64 x18.2.1))], oSl 2 1 (cK .i64) g21.1 ((a_0.list.length : Int)).toNat g21.2.2 (x18.2.2.take ((a_0.list.length : Int)).toNat), oSl 2 1 (cK .i64) g5.1 g5.2.1 g5.2.2 x4]) (fun h => SatO.pick 1 h) ?_
              refine RegL.stepN (γ := Unit) (p := fun _ => pAny) (Ω' := fun _ => [oBlk hb0 [(pSl 1 (cSl 1 (cK .i64)) a_0.problem.Domains), (pSl 1 (cSl 1 (cK .i64)) a_0.problem.Apart), (pEq (.int .i64 x18.1)), (pEq (.bool a_0.first)), (pEq (.int .i64 a_0.span)), (pEq (.slice g21.1 ((a_0.list.length : Int)).toNat g21.2.2)), (pEq (.int .i64 x18.2.1))], oSl 2 1 (cK .i64) g21.1 ((a_0.list.length : Int)).toNat g21.2.2 (x18.2.2.take ((a_0.list.length : Int)).toNat), oSl 2 1 (cK .i64) g5.1 g5.2.1 g5.2.2 x4]) rfl rfl (M_store rfl sz25 (Opd.tmp rfl) (Opd.tmp rfl) OneC.slice rfl rfl) fun g28 => ?_
              refine RegL.nil ?_
              refine Ct.blk_normal ?_
              refine Ct.then_tr ?_
              refine Tr.weak (Γ' := [(0, (pEq (.pointer (some ⟨hb0, 0, none⟩)))), (2, (pEq (.int .i64 (a_0.list.length : Int)))), (46, (pEq (.slice g5.1 g5.2.1 g5.2.2))), (47, (pEq (.int .i64 (x4.length : Int)))), (48, (pEq (.int .i64 v8)))]) ⟨rfl, rfl, rfl, rfl, rfl, trivial⟩ ?_
              refine Tr.region ?_
              refine RegL.pure (p := (pEq (.int .i64 (w64 (v8 + (1 : Int)))))) rfl rfl rfl (J_bin rfl (Opd.tmp rfl) Opd.con B_add) ?_
              refine RegL.pure (p := (pEq (.int .i64 (w64 (v8 + (1 : Int)))))) rfl rfl rfl (J_move rfl (Opd.tmp rfl)) ?_
              refine RegL.nil ?_
              refine Ct.re (Ω2 := [oSl 2 1 (cK .i64) g21.1 ((a_0.list.length : Int)).toNat g21.2.2 (x18.2.2.take ((a_0.list.length : Int)).toNat), oBlk hb0 [(pSl 1 (cSl 1 (cK .i64)) a_0.problem.Domains), (pSl 1 (cSl 1 (cK .i64)) a_0.problem.Apart), (pEq (.int .i64 x18.1)), (pEq (.bool a_0.first)), (pEq (.int .i64 a_0.span)), (pEq (.slice g21.1 ((a_0.list.length : Int)).toNat g21.2.2)), (pEq (.int .i64 x18.2.1))], oSl 2 1 (cK .i64) g5.1 g5.2.1 g5.2.2 x4]) (fun h => SatO.pick 1 h) ?_
              refine Ct.re (Ω2 := [oBlk hb0 [(pSl 1 (cSl 1 (cK .i64)) a_0.problem.Domains), (pSl 1 (cSl 1 (cK .i64)) a_0.problem.Apart), (pEq (.int .i64 x18.1)), (pEq (.bool a_0.first)), (pEq (.int .i64 a_0.span)), (pEq (.slice g21.1 ((a_0.list.length : Int)).toNat g21.2.2)), (pEq (.int .i64 x18.2.1))], oSl 2 1 (cK .i64) g21.1 ((a_0.list.length : Int)).toNat g21.2.2 (x18.2.2.take ((a_0.list.length : Int)).toNat), oSl 2 1 (cK .i64) g5.1 g5.2.1 g5.2.2 x4]) (fun h => SatO.pick 1 h) ?_
              refine Ct.re (Ω2 := [oSl 2 1 (cK .i64) g5.1 g5.2.1 g5.2.2 x4, oBlk hb0 [(pSl 1 (cSl 1 (cK .i64)) a_0.problem.Domains), (pSl 1 (cSl 1 (cK .i64)) a_0.problem.Apart), (pEq (.int .i64 x18.1)), (pEq (.bool a_0.first)), (pEq (.int .i64 a_0.span)), (pEq (.slice g21.1 ((a_0.list.length : Int)).toNat g21.2.2)), (pEq (.int .i64 x18.2.1))], oSl 2 1 (cK .i64) g21.1 ((a_0.list.length : Int)).toNat g21.2.2 (x18.2.2.take ((a_0.list.length : Int)).toNat)]) (fun h => SatO.pick 2 h) ?_
              replace h := Option.some.inj h; subst h
              exact Ct.again (g21.1, ((a_0.list.length : Int)).toNat, g21.2.2) rfl ⟨rfl, rfl, rfl, rfl, rfl, trivial⟩
      · replace h := bif_f hc h
        refine Tr.exit ?_
        refine Ct.then_exit ?_
        replace h := map_some h; obtain ⟨r1, h, rfl⟩ := h
        refine Ct.out_exit fun e => ?_
        subst e
        refine Ct.blk_exit ?_
        replace h := Option.some.inj h; subst h
        exact Ct.retN0 (Ωx := [oSl 2 1 (cK .i64) g5.1 g5.2.1 g5.2.2 x4]) (g12.1, g12.2.1, g12.2.2) rfl rfl rfl

theorem o_impl_assignSearch_visit {a_0 : GAssignSearch} {ho0_5 : Option Addr} {hn0_5 hc0_5 : Nat} {hb0 : Nat} {r : (Int × (List Int) × Int)} (h : m_impl_assignSearch_visit a_0 = some r) : CallH Try.prog 86 [(pEq (.pointer (some ⟨hb0, 0, none⟩)))] [oBlk hb0 [(pSl 1 (cSl 1 (cK .i64)) a_0.problem.Domains), (pSl 1 (cSl 1 (cK .i64)) a_0.problem.Apart), (pEq (.int .i64 a_0.budget)), (pEq (.bool a_0.first)), (pEq (.int .i64 a_0.span)), (pEq (.slice ho0_5 hn0_5 hc0_5)), (pEq (.int .i64 a_0.found))], oSl 2 1 (cK .i64) ho0_5 hn0_5 hc0_5 a_0.list] (fun g : G3 => (pTup [])) (fun g : G3 => [oBlk hb0 [(pSl 1 (cSl 1 (cK .i64)) a_0.problem.Domains), (pSl 1 (cSl 1 (cK .i64)) a_0.problem.Apart), (pEq (.int .i64 r.1)), (pEq (.bool a_0.first)), (pEq (.int .i64 a_0.span)), (pEq (.slice g.1 g.2.1 g.2.2)), (pEq (.int .i64 r.2.2))], oSl 2 1 (cK .i64) g.1 g.2.1 g.2.2 r.2.1]) := by
  obtain ⟨n, hn⟩ := recM_some h
  exact of_impl_assignSearch_visit n hn

theorem o_impl_LeastSpan {p_0 : GProblem} {budget_1 : Int}  {r : ((List Int) × Int)} (h : m_impl_LeastSpan p_0 budget_1 = some r) : CallH Try.prog 37 [(pAgg (cGProblem p_0)), (pEq (.int .i64 budget_1))] [] (fun g : G3 => (pTup [(pEq (.slice g.1 g.2.1 g.2.2)), (pEq (.int .i64 r.2))])) (fun g : G3 => [oSl 2 1 (cK .i64) g.1 g.2.1 g.2.2 r.1]) := by
  unfold m_impl_LeastSpan at h
  refine CallH.enter Try.func37 rfl Try.ntmps37 rfl fun W I0 H => ?_
  refine Tr.weak (Γ' := [(0, (pAgg (cGProblem p_0))), (1, (pEq (.int .i64 budget_1)))]) ⟨rfl, rfl, trivial⟩ ?_
  refine Tr.seq ?_
  refine Tr.region ?_
  refine RegL.pure (p := (pPtr (cGProblem p_0))) rfl rfl rfl (J_boxA rfl (Opd.tmp rfl)) ?_
  refine RegL.pure (p := (pEq (.slice none 0 0))) rfl rfl rfl (J_assign rfl Opd.con) ?_
  refine RegL.pure (p := (pEq (.int .i64 (0 : Int)))) rfl rfl rfl (J_assign rfl Opd.con) ?_
  refine RegL.nil ?_
  refine Ct.then_tr ?_
  refine Tr.weak (Γ' := [(1, (pEq (.int .i64 budget_1))), (2, (pPtr (cGProblem p_0)))]) ⟨rfl, rfl, trivial⟩ ?_
  refine Tr.seq ?_
  refine Tr.block ?_
  refine Tr.seq ?_
  refine Tr.region ?_
  refine RegL.pure (p := (pAgg (cGProblem p_0))) rfl rfl rfl (J_loadA rfl Try.isAgg29 sz29 (Opd.tmp rfl) rfl) ?_
  replace h := bind_some h; obtain ⟨x1, hx1, h⟩ := h
  refine RegL.pure (p := (pEq (.bool x1))) rfl rfl rfl (J_call rfl Try.call58 (c_impl_ValidProblem hx1) (Opds.cons (Opd.tmp rfl) Opds.nil)) ?_
  refine RegL.pure (p := (pEq (.bool (!x1)))) rfl rfl rfl (J_not rfl (Opd.tmp rfl)) ?_
  refine RegL.pure (p := (pEq (.bool (!x1)))) rfl rfl rfl (J_assign rfl (Opd.tmp rfl)) ?_
  refine RegL.nil ?_
  refine Ct.then_tr ?_
  refine Tr.weak (Γ' := [(1, (pEq (.int .i64 budget_1))), (2, (pPtr (cGProblem p_0))), (9, (pEq (.bool (!x1))))]) ⟨rfl, rfl, rfl, trivial⟩ ?_
  refine Tr.cond (Opd.tmp rfl) (fun hc => ?_) (fun hc => ?_)
  · replace h := bif_t hc h
    refine Tr.seq ?_
    refine Tr.region ?_
    refine RegL.pure (p := (pEq (.slice none 0 0))) rfl rfl rfl (J_assign rfl Opd.con) ?_
    refine RegL.pure (p := (pEq (.int .i64 (1 : Int)))) rfl rfl rfl (J_assign rfl Opd.con) ?_
    refine RegL.nil ?_
    refine Ct.then_tr ?_
    refine Tr.weak (Γ' := [(4, (pEq (.slice none 0 0))), (5, (pEq (.int .i64 (1 : Int))))]) ⟨rfl, rfl, trivial⟩ ?_
    refine Tr.ret ?_
    refine Ct.blk_ret ?_
    refine Ct.then_ret ?_
    refine Ct.re (Ω2 := [oSl 2 1 (cK .i64) none 0 0 ([] : (List Int))]) (fun h => SatO.nilRow h) ?_
    replace h := Option.some.inj h; subst h
    exact Ct.retH2 (Ωx := []) (none, 0, 0) rfl (RvOk.tmp rfl) (RvOk.tmp rfl) rfl rfl
  · replace h := bif_f hc h
    refine Tr.seq ?_
    refine Tr.region ?_
    refine RegL.pure (p := (pEq (.int .i64 budget_1))) rfl rfl rfl (J_move rfl (Opd.tmp rfl)) ?_
    replace h := bind_some h; obtain ⟨x3, hx3, h⟩ := h
    refine RegL.pure (p := (pEq (.bool x3))) rfl rfl rfl (J_call rfl Try.call76 (c_impl_budgetValid hx3) (Opds.cons (Opd.tmp rfl) Opds.nil)) ?_
    refine RegL.pure (p := (pEq (.bool (!x3)))) rfl rfl rfl (J_not rfl (Opd.tmp rfl)) ?_
    refine RegL.pure (p := (pEq (.bool (!x3)))) rfl rfl rfl (J_assign rfl (Opd.tmp rfl)) ?_
    refine RegL.nil ?_
    refine Ct.then_tr ?_
    refine Tr.weak (Γ' := [(1, (pEq (.int .i64 budget_1))), (2, (pPtr (cGProblem p_0))), (13, (pEq (.bool (!x3))))]) ⟨rfl, rfl, rfl, trivial⟩ ?_
    refine Tr.cond (Opd.tmp rfl) (fun hc => ?_) (fun hc => ?_)
    · replace h := bif_t hc h
      refine Tr.seq ?_
      refine Tr.region ?_
      refine RegL.pure (p := (pEq (.slice none 0 0))) rfl rfl rfl (J_assign rfl Opd.con) ?_
      refine RegL.pure (p := (pEq (.int .i64 (2 : Int)))) rfl rfl rfl (J_assign rfl Opd.con) ?_
      refine RegL.nil ?_
      refine Ct.then_tr ?_
      refine Tr.weak (Γ' := [(4, (pEq (.slice none 0 0))), (5, (pEq (.int .i64 (2 : Int))))]) ⟨rfl, rfl, trivial⟩ ?_
      refine Tr.ret ?_
      refine Ct.blk_ret ?_
      refine Ct.then_ret ?_
      refine Ct.re (Ω2 := [oSl 2 1 (cK .i64) none 0 0 ([] : (List Int))]) (fun h => SatO.nilRow h) ?_
      replace h := Option.some.inj h; subst h
      exact Ct.retH2 (Ωx := []) (none, 0, 0) rfl (RvOk.tmp rfl) (RvOk.tmp rfl) rfl rfl
    · replace h := bif_f hc h
      refine Tr.skip ?_
      refine Ct.blk_normal ?_
      refine Ct.then_tr ?_
      refine Tr.weak (Γ' := [(1, (pEq (.int .i64 budget_1))), (2, (pPtr (cGProblem p_0)))]) ⟨rfl, rfl, trivial⟩ ?_
      refine Tr.seq ?_
      refine Tr.region ?_
      refine RegL.pure (p := (pPtr ((cSl 1 (cSl 1 (cK .i64))) p_0.Domains))) rfl rfl rfl (J_fieldAddr rfl Try.underlying29 rfl sz22 (by decide) (Opd.tmp rfl) rfl) ?_
      refine RegL.pure (p := (pSl 1 (cSl 1 (cK .i64)) p_0.Domains)) rfl rfl rfl (J_load rfl Try.isAgg22 (Opd.tmp rfl)) ?_
      replace h := bind_some h; obtain ⟨x5, hx5, h⟩ := h
      refine RegL.pure (p := (pSl 1 (cK .i64) x5)) rfl rfl rfl (J_call rfl Try.call84 (c_slices_Concat_int64_int64 hx5) (Opds.cons (Opd.tmp rfl) Opds.nil)) ?_
      replace h := bind_some h; obtain ⟨x6, hx6, h⟩ := h
      refine RegL.pure (p := (pEq (.int .i64 x6))) rfl rfl rfl (J_call rfl Try.call83 (c_impl_SpanOf hx6) (Opds.cons (Opd.tmp rfl) Opds.nil)) ?_
      refine RegL.pure (p := (pEq (.int .i64 x6))) rfl rfl rfl (J_assign rfl (Opd.tmp rfl)) ?_
      refine RegL.nil ?_
      refine Ct.then_tr ?_
      refine Tr.weak (Γ' := [(1, (pEq (.int .i64 budget_1))), (2, (pPtr (cGProblem p_0))), (6, (pEq (.int .i64 x6)))]) ⟨rfl, rfl, rfl, trivial⟩ ?_
      refine Tr.seq ?_
      refine Tr.seq ?_
      refine Tr.region ?_
      refine RegL.pure (p := (pPtr ((cSl 1 (cSl 1 (cK .i64))) p_0.Apart))) rfl rfl rfl (J_fieldAddr rfl Try.underlying29 rfl sz22 (by decide) (Opd.tmp rfl) rfl) ?_
      refine RegL.pure (p := (pSl 1 (cSl 1 (cK .i64)) p_0.Apart)) rfl rfl rfl (J_load rfl Try.isAgg22 (Opd.tmp rfl)) ?_
      replace h := bind_some h; obtain ⟨x7, hx7, h⟩ := h
      refine RegL.pure (p := (pSl 1 (cK .i64) x7)) rfl rfl rfl (J_call rfl Try.call84 (c_slices_Concat_int64_int64 hx7) (Opds.cons (Opd.tmp rfl) Opds.nil)) ?_
      replace h := bind_some h; obtain ⟨x8, hx8, h⟩ := h
      refine RegL.pure (p := (pEq (.int .i64 x8))) rfl rfl rfl (J_call rfl Try.call85 (c_slices_Max_int64_int64 hx8) (Opds.cons (Opd.tmp rfl) Opds.nil)) ?_
      refine RegL.pure (p := (pEq (.int .i64 x8))) rfl rfl rfl (J_assign rfl (Opd.tmp rfl)) ?_
      refine RegL.nil ?_
      refine Ct.then_tr ?_
      refine Tr.weak (Γ' := [(1, (pEq (.int .i64 budget_1))), (2, (pPtr (cGProblem p_0))), (6, (pEq (.int .i64 x6))), (7, (pEq (.int .i64 x8)))]) ⟨rfl, rfl, rfl, rfl, trivial⟩ ?_
      refine Tr.block ?_
      refine Tr.weak (Γ' := [(1, (pEq (.int .i64 budget_1))), (2, (pPtr (cGProblem p_0))), (6, (pEq (.int .i64 x6))), (7, (pEq (.int .i64 x8)))]) ⟨rfl, rfl, rfl, rfl, trivial⟩ ?_
      refine Tr.loop (γ := Unit) (σ := (Int × Int)) (Γσ := fun s g => [(1, (pEq (.int .i64 s.1))), (2, (pPtr (cGProblem p_0))), (6, (pEq (.int .i64 x6))), (7, (pEq (.int .i64 s.2)))]) (Ωσ := fun s g => []) (g := ()) h ?_
      clear h
      rintro ⟨v10, v11⟩ g12 t h
      replace h : m_impl_LeastSpan_B9 p_0 x6 v10 v11 = some t := h
      unfold m_impl_LeastSpan_B9 at h
      refine Tr.weakO (Γ' := [(1, (pEq (.int .i64 v10))), (2, (pPtr (cGProblem p_0))), (6, (pEq (.int .i64 x6))), (7, (pEq (.int .i64 v11)))]) (Ω' := []) rfl ⟨rfl, rfl, rfl, rfl, trivial⟩ ?_
      refine Tr.seq ?_
      refine Tr.seq ?_
      refine Tr.region ?_
      refine RegL.pure (p := (pEq (.int .i64 v11))) rfl rfl rfl (J_move rfl (Opd.tmp rfl)) ?_
      refine RegL.pure (p := (pEq (.int .i64 x6))) rfl rfl rfl (J_move rfl (Opd.tmp rfl)) ?_
      refine RegL.pure (p := (pEq (.bool (decide (v11 ≤ x6))))) rfl rfl rfl (J_bin rfl (Opd.tmp rfl) (Opd.tmp rfl) B_leq) ?_
      refine RegL.nil ?_
      refine Ct.then_tr ?_
      refine Tr.weak (Γ' := [(1, (pEq (.int .i64 v10))), (2, (pPtr (cGProblem p_0))), (6, (pEq (.int .i64 x6))), (7, (pEq (.int .i64 v11))), (27, (pEq (.bool (decide (v11 ≤ x6)))))]) ⟨rfl, rfl, rfl, rfl, rfl, trivial⟩ ?_
      refine Tr.cond (Opd.tmp rfl) (fun hc => ?_) (fun hc => ?_)
      · replace h := bif_t hc h
        refine Tr.skip ?_
        refine Ct.then_tr ?_
        refine Tr.weak (Γ' := [(1, (pEq (.int .i64 v10))), (2, (pPtr (cGProblem p_0))), (6, (pEq (.int .i64 x6))), (7, (pEq (.int .i64 v11)))]) ⟨rfl, rfl, rfl, rfl, trivial⟩ ?_
        refine Tr.seq ?_
        refine Tr.block ?_
        refine Tr.seq ?_
        refine Tr.region ?_
        refine RegL.pure (p := (pAgg (cGProblem p_0))) rfl rfl rfl (J_loadA rfl Try.isAgg29 sz29 (Opd.tmp rfl) rfl) ?_
        refine RegL.pure (p := (pEq (.int .i64 v10))) rfl rfl rfl (J_move rfl (Opd.tmp rfl)) ?_
        refine RegL.pure (p := (pEq (.int .i64 v11))) rfl rfl rfl (J_move rfl (Opd.tmp rfl)) ?_
        refine RegL.pure (p := (pAgg [(pSl 1 (cSl 1 (cK .i64)) p_0.Domains), (pSl 1 (cSl 1 (cK .i64)) p_0.Apart), (pEq (.int .i64 v10)), (pEq (.bool true)), (pEq (.int .i64 v11)), (pEq (.slice none 0 0)), (pEq (.int .i64 (0 : Int)))])) rfl rfl rfl (J_build (qss := [(0, cGProblem p_0), (1, (cK .i64) v10), (2, cB true), (3, (cK .i64) v11)]) rfl bl90 bz90o (Parts.cons (Part.agg (Opd.tmp rfl)) (Parts.cons (Part.one (Opd.tmp rfl) OneC.int) (Parts.cons (Part.one Opd.con OneC.bool) (Parts.cons (Part.one (Opd.tmp rfl) OneC.int) Parts.nil)))) rfl) ?_
        refine RegL.step (γ := Nat) (p := fun b => pEq (.pointer (some ⟨b, 0, none⟩))) (Ω' := fun b => [oBlk b [(pEq (.slice none 0 0)), (pEq (.slice none 0 0)), (pEq (.int .i64 (0 : Int))), (pEq (.bool false)), (pEq (.int .i64 (0 : Int))), (pEq (.slice none 0 0)), (pEq (.int .i64 (0 : Int)))]]) rfl rfl rfl (M_alloc rfl zero90) fun b13 => ?_
        refine RegL.stepN (γ := Unit) (p := fun _ => pAny) (Ω' := fun _ => [oBlk b13 [(pSl 1 (cSl 1 (cK .i64)) p_0.Domains), (pSl 1 (cSl 1 (cK .i64)) p_0.Apart), (pEq (.int .i64 v10)), (pEq (.bool true)), (pEq (.int .i64 v11)), (pEq (.slice none 0 0)), (pEq (.int .i64 (0 : Int)))]]) rfl rfl (M_storeA rfl sz90 (Opd.tmp rfl) (Opd.tmp rfl) (fun _ _ _ h => ones_of ((OneCs.cons OneC.sl (OneCs.cons OneC.sl (OneCs.cons OneC.int (OneCs.cons OneC.bool (OneCs.cons OneC.int (OneCs.cons OneC.slice (OneCs.cons OneC.int OneCs.nil)))))))) h) rfl rfl) fun g14 => ?_
        refine RegL.nil ?_
        refine Ct.then_tr ?_
        refine Tr.weak (Γ' := [(2, (pPtr (cGProblem p_0))), (6, (pEq (.int .i64 x6))), (7, (pEq (.int .i64 v11))), (8, (pEq (.pointer (some ⟨b13, 0, none⟩))))]) ⟨rfl, rfl, rfl, rfl, trivial⟩ ?_
        refine Tr.seq ?_
        refine Tr.region ?_
        replace h := bind_some h; obtain ⟨x16, hx16, h⟩ := h
        refine RegL.re (Ω2 := [oSl 2 1 (cK .i64) none 0 0 ([] : (List Int)), oBlk b13 [(pSl 1 (cSl 1 (cK .i64)) p_0.Domains), (pSl 1 (cSl 1 (cK .i64)) p_0.Apart), (pEq (.int .i64 v10)), (pEq (.bool true)), (pEq (.int .i64 v11)), (pEq (.slice none 0 0)), (pEq (.int .i64 (0 : Int)))]]) (fun h => SatO.nilRow h) ?_
        refine RegL.re (Ω2 := [oBlk b13 [(pSl 1 (cSl 1 (cK .i64)) p_0.Domains), (pSl 1 (cSl 1 (cK .i64)) p_0.Apart), (pEq (.int .i64 v10)), (pEq (.bool true)), (pEq (.int .i64 v11)), (pEq (.slice none 0 0)), (pEq (.int .i64 (0 : Int)))], oSl 2 1 (cK .i64) none 0 0 ([] : (List Int))]) (fun h => SatO.pick 1 h) ?_
        refine RegL.step (γ := G3) (p := fun g => (pTup [])) (Ω' := fun g => [oBlk b13 [(pSl 1 (cSl 1 (cK .i64)) p_0.Domains), (pSl 1 (cSl 1 (cK .i64)) p_0.Apart), (pEq (.int .i64 x16.1)), (pEq (.bool true)), (pEq (.int .i64 v11)), (pEq (.slice g.1 g.2.1 g.2.2)), (pEq (.int .i64 x16.2.2))], oSl 2 1 (cK .i64) g.1 g.2.1 g.2.2 x16.2.1]) rfl rfl rfl (M_callH (Ωi := [oBlk b13 [(pSl 1 (cSl 1 (cK .i64)) p_0.Domains), (pSl 1 (cSl 1 (cK .i64)) p_0.Apart), (pEq (.int .i64 v10)), (pEq (.bool true)), (pEq (.int .i64 v11)), (pEq (.slice none 0 0)), (pEq (.int .i64 (0 : Int)))], oSl 2 1 (cK .i64) none 0 0 ([] : (List Int))]) rfl Try.call86 (o_impl_assignSearch_visit hx16) (Opds.cons (Opd.tmp rfl) Opds.nil)) fun g17 => ?_
        refine RegL.nil ?_
        refine Ct.then_tr ?_
        refine Tr.weak (Γ' := [(2, (pPtr (cGProblem p_0))), (6, (pEq (.int .i64 x6))), (7, (pEq (.int .i64 v11))), (8, (pEq (.pointer (some ⟨b13, 0, none⟩))))]) ⟨rfl, rfl, rfl, rfl, trivial⟩ ?_
        refine Tr.seq ?_
        refine Tr.region ?_
        refine RegL.pure (p := (pEq (.pointer (some ⟨b13, 2, none⟩)))) rfl rfl rfl (J_fieldAddrE rfl Try.underlying90 rfl sz2 (by decide) (Opd.tmp rfl) rfl) ?_
        refine RegL.pureW (p := (pEq (.int .i64 x16.1))) rfl rfl rfl (W_load (i := 0) rfl Try.isAgg2 (Opd.tmp rfl) rfl rfl) ?_
        refine RegL.pure (p := (pEq (.int .i64 x16.1))) rfl rfl rfl (J_assign rfl (Opd.tmp rfl)) ?_
        refine RegL.nil ?_
        refine Ct.then_tr ?_
        refine Tr.weak (Γ' := [(1, (pEq (.int .i64 x16.1))), (2, (pPtr (cGProblem p_0))), (6, (pEq (.int .i64 x6))), (7, (pEq (.int .i64 v11))), (8, (pEq (.pointer (some ⟨b13, 0, none⟩))))]) ⟨rfl, rfl, rfl, rfl, rfl, trivial⟩ ?_
        refine Tr.block ?_
        refine Tr.seq ?_
        refine Tr.region ?_
        refine RegL.pure (p := (pEq (.int .i64 x16.1))) rfl rfl rfl (J_move rfl (Opd.tmp rfl)) ?_
        refine RegL.pure (p := (pEq (.bool (decide (x16.1 < (0 : Int)))))) rfl rfl rfl (J_bin rfl (Opd.tmp rfl) Opd.con B_lss) ?_
        refine RegL.pure (p := (pEq (.bool (decide (x16.1 < (0 : Int)))))) rfl rfl rfl (J_assign rfl (Opd.tmp rfl)) ?_
        refine RegL.nil ?_
        refine Ct.then_tr ?_
        refine Tr.weak (Γ' := [(1, (pEq (.int .i64 x16.1))), (2, (pPtr (cGProblem p_0))), (6, (pEq (.int .i64 x6))), (7, (pEq (.int .i64 v11))), (8, (pEq (.pointer (some ⟨b13, 0, none⟩)))), (37, (pEq (.bool (decide (x16.1 < (0 : Int))))))]) ⟨rfl, rfl, rfl, rfl, rfl, rfl, trivial⟩ ?_
        refine Tr.cond (Opd.tmp rfl) (fun hc => ?_) (fun hc => ?_)
        · replace h := bif_t hc h
          refine Tr.seq ?_
          refine Tr.region ?_
          refine RegL.pure (p := (pEq (.slice none 0 0))) rfl rfl rfl (J_assign rfl Opd.con) ?_
          refine RegL.pure (p := (pEq (.int .i64 (5 : Int)))) rfl rfl rfl (J_assign rfl Opd.con) ?_
          refine RegL.nil ?_
          refine Ct.then_tr ?_
          refine Tr.weak (Γ' := [(4, (pEq (.slice none 0 0))), (5, (pEq (.int .i64 (5 : Int))))]) ⟨rfl, rfl, trivial⟩ ?_
          refine Tr.ret ?_
          refine Ct.blk_ret ?_
          refine Ct.blk_ret ?_
          refine Ct.then_ret ?_
          replace h := map_some h; obtain ⟨r1, h, rfl⟩ := h
          refine Ct.out_ret fun e => ?_
          subst e
          refine Ct.blk_ret ?_
          refine Ct.then_ret ?_
          refine Ct.re (Ω2 := [oSl 2 1 (cK .i64) none 0 0 ([] : (List Int)), oBlk b13 [(pSl 1 (cSl 1 (cK .i64)) p_0.Domains), (pSl 1 (cSl 1 (cK .i64)) p_0.Apart), (pEq (.int .i64 x16.1)), (pEq (.bool true)), (pEq (.int .i64 v11)), (pEq (.slice g17.1 g17.2.1 g17.2.2)), (pEq (.int .i64 x16.2.2))], oSl 2 1 (cK .i64) g17.1 g17.2.1 g17.2.2 x16.2.1]) (fun h => SatO.nilRow h) ?_
          refine Ct.re (Ω2 := [oSl 2 1 (cK .i64) g17.1 g17.2.1 g17.2.2 x16.2.1, oSl 2 1 (cK .i64) none 0 0 ([] : (List Int)), oBlk b13 [(pSl 1 (cSl 1 (cK .i64)) p_0.Domains), (pSl 1 (cSl 1 (cK .i64)) p_0.Apart), (pEq (.int .i64 x16.1)), (pEq (.bool true)), (pEq (.int .i64 v11)), (pEq (.slice g17.1 g17.2.1 g17.2.2)), (pEq (.int .i64 x16.2.2))]]) (fun h => SatO.pick 2 h) ?_
          refine Ct.re (Ω2 := [oBlk b13 [(pSl 1 (cSl 1 (cK .i64)) p_0.Domains), (pSl 1 (cSl 1 (cK .i64)) p_0.Apart), (pEq (.int .i64 x16.1)), (pEq (.bool true)), (pEq (.int .i64 v11)), (pEq (.slice g17.1 g17.2.1 g17.2.2)), (pEq (.int .i64 x16.2.2))], oSl 2 1 (cK .i64) g17.1 g17.2.1 g17.2.2 x16.2.1, oSl 2 1 (cK .i64) none 0 0 ([] : (List Int))]) (fun h => SatO.pick 2 h) ?_
          replace h := Option.some.inj h; subst h
          exact Ct.retH2 (Ωx := [oBlk b13 [(pSl 1 (cSl 1 (cK .i64)) p_0.Domains), (pSl 1 (cSl 1 (cK .i64)) p_0.Apart), (pEq (.int .i64 x16.1)), (pEq (.bool true)), (pEq (.int .i64 v11)), (pEq (.slice g17.1 g17.2.1 g17.2.2)), (pEq (.int .i64 x16.2.2))], oSl 2 1 (cK .i64) g17.1 g17.2.1 g17.2.2 x16.2.1]) (none, 0, 0) rfl (RvOk.tmp rfl) (RvOk.tmp rfl) rfl rfl
        · replace h := bif_f hc h
          refine Tr.seq ?_
          refine Tr.region ?_
          refine RegL.pure (p := (pEq (.pointer (some ⟨b13, 6, none⟩)))) rfl rfl rfl (J_fieldAddrE rfl Try.underlying90 rfl sz2 (by decide) (Opd.tmp rfl) rfl) ?_
          refine RegL.pureW (p := (pEq (.int .i64 x16.2.2))) rfl rfl rfl (W_load (i := 0) rfl Try.isAgg2 (Opd.tmp rfl) rfl rfl) ?_
          refine RegL.pure (p := (pEq (.bool (decide ((0 : Int) < x16.2.2))))) rfl rfl rfl (J_bin rfl (Opd.tmp rfl) Opd.con B_gtr) ?_
          refine RegL.pure (p := (pEq (.bool (decide ((0 : Int) < x16.2.2))))) rfl rfl rfl (J_assign rfl (Opd.tmp rfl)) ?_
          refine RegL.nil ?_
          refine Ct.then_tr ?_
          refine Tr.weak (Γ' := [(1, (pEq (.int .i64 x16.1))), (2, (pPtr (cGProblem p_0))), (6, (pEq (.int .i64 x6))), (7, (pEq (.int .i64 v11))), (8, (pEq (.pointer (some ⟨b13, 0, none⟩)))), (40, (pEq (.bool (decide ((0 : Int) < x16.2.2)))))]) ⟨rfl, rfl, rfl, rfl, rfl, rfl, trivial⟩ ?_
          refine Tr.cond (Opd.tmp rfl) (fun hc => ?_) (fun hc => ?_)
          · replace h := bif_t hc h
            refine Tr.seq ?_
            refine Tr.region ?_
            refine RegL.pure (p := (pEq (.pointer (some ⟨b13, 5, none⟩)))) rfl rfl rfl (J_fieldAddrE rfl Try.underlying90 rfl sz25 (by decide) (Opd.tmp rfl) rfl) ?_
            refine RegL.pureW (p := (pEq (.slice g17.1 g17.2.1 g17.2.2))) rfl rfl rfl (W_load (i := 0) rfl Try.isAgg25 (Opd.tmp rfl) rfl rfl) ?_
            refine RegL.pure (p := (pEq (.slice g17.1 g17.2.1 g17.2.2))) rfl rfl rfl (J_assign rfl (Opd.tmp rfl)) ?_
            refine RegL.pure (p := (pEq (.int .i64 (0 : Int)))) rfl rfl rfl (J_assign rfl Opd.con) ?_
            refine RegL.nil ?_
            refine Ct.then_tr ?_
            refine Tr.weak (Γ' := [(4, (pEq (.slice g17.1 g17.2.1 g17.2.2))), (5, (pEq (.int .i64 (0 : Int))))]) ⟨rfl, rfl, trivial⟩ ?_
            refine Tr.ret ?_
            refine Ct.blk_ret ?_
            refine Ct.blk_ret ?_
            refine Ct.then_ret ?_
            replace h := map_some h; obtain ⟨r1, h, rfl⟩ := h
            refine Ct.out_ret fun e => ?_
            subst e
            refine Ct.blk_ret ?_
            refine Ct.then_ret ?_
            replace h := Option.some.inj h; subst h
            exact Ct.retH2 (Ωx := [oBlk b13 [(pSl 1 (cSl 1 (cK .i64)) p_0.Domains), (pSl 1 (cSl 1 (cK .i64)) p_0.Apart), (pEq (.int .i64 x16.1)), (pEq (.bool true)), (pEq (.int .i64 v11)), (pEq (.slice g17.1 g17.2.1 g17.2.2)), (pEq (.int .i64 x16.2.2))]]) (g17.1, g17.2.1, g17.2.2) rfl (RvOk.tmp rfl) (RvOk.tmp rfl) rfl rfl
          · replace h := bif_f hc h
            refine Tr.skip ?_
            refine Ct.blk_normal ?_
            refine Ct.blk_normal ?_
            refine Ct.then_tr ?_
            refine Tr.weak (Γ' := [(1, (pEq (.int .i64 x16.1))), (2, (pPtr (cGProblem p_0))), (6, (pEq (.int .i64 x6))), (7, (pEq (.int .i64 v11)))]) ⟨rfl, rfl, rfl, rfl, trivial⟩ ?_
            refine Tr.region ?_
            refine RegL.pure (p := (pEq (.int .i64 v11))) rfl rfl rfl (J_move rfl (Opd.tmp rfl)) ?_
            refine RegL.pure (p := (pEq (.int .i64 (w64 (v11 + (1 : Int)))))) rfl rfl rfl (J_bin rfl (Opd.tmp rfl) Opd.con B_add) ?_
            refine RegL.pure (p := (pEq (.int .i64 (w64 (v11 + (1 : Int)))))) rfl rfl rfl (J_assign rfl (Opd.tmp rfl)) ?_
            refine RegL.nil ?_
            refine Ct.re (Ω2 := [oSl 2 1 (cK .i64) g17.1 g17.2.1 g17.2.2 x16.2.1]) (fun h => SatO.rest h) ?_
            refine Ct.re (Ω2 := []) (fun h => SatO.rest h) ?_
            replace h := Option.some.inj h; subst h
            exact Ct.again () rfl ⟨rfl, rfl, rfl, rfl, trivial⟩
      · replace h := bif_f hc h
        refine Tr.exit ?_
        refine Ct.then_exit ?_
        replace h := map_some h; obtain ⟨r1, h, rfl⟩ := h
        refine Ct.out_exit fun e => ?_
        subst e
        refine Ct.blk_exit ?_
        refine Ct.then_tr ?_
        refine Tr.weak (Γ' := []) trivial ?_
        refine Tr.seq ?_
        refine Tr.region ?_
        refine RegL.pure (p := (pEq (.slice none 0 0))) rfl rfl rfl (J_assign rfl Opd.con) ?_
        refine RegL.pure (p := (pEq (.int .i64 (3 : Int)))) rfl rfl rfl (J_assign rfl Opd.con) ?_
        refine RegL.nil ?_
        refine Ct.then_tr ?_
        refine Tr.weak (Γ' := [(4, (pEq (.slice none 0 0))), (5, (pEq (.int .i64 (3 : Int))))]) ⟨rfl, rfl, trivial⟩ ?_
        refine Tr.ret ?_
        refine Ct.re (Ω2 := [oSl 2 1 (cK .i64) none 0 0 ([] : (List Int))]) (fun h => SatO.nilRow h) ?_
        replace h := Option.some.inj h; subst h
        exact Ct.retH2 (Ωx := []) (none, 0, 0) rfl (RvOk.tmp rfl) (RvOk.tmp rfl) rfl rfl

theorem c_impl_LeastSpan {p_0 : GProblem} {budget_1 : Int} {r : ((List Int) × Int)} (h : m_impl_LeastSpan p_0 budget_1 = some r) : CallJ Try.prog 37 [(pAgg (cGProblem p_0)), (pEq (.int .i64 budget_1))] (pTup [(pSl 1 (cK .i64) r.1), (pEq (.int .i64 r.2))]) :=
  CallH.frozen (o_impl_LeastSpan h) (fun g => (Conv.tup (Convs.cons (Conv.row (f := (cK .i64)) 0 (fun _ => rfl) rfl) (Convs.cons Conv.refl Convs.nil))))

theorem c_laws_eqInt64S {a_0 : (List Int)} {b_1 : (List Int)} {r : Bool} (h : m_laws_eqInt64S a_0 b_1 = some r) : CallJ Try.prog 17 [(pSl 1 (cK .i64) a_0), (pSl 1 (cK .i64) b_1)] (pEq (.bool r)) := by
  unfold m_laws_eqInt64S at h
  refine CallJ.enterH Try.func17 rfl Try.ntmps17 rfl fun W I0 H => ?_
  refine Tr.weak (Γ' := [(0, (pSl 1 (cK .i64) a_0)), (1, (pSl 1 (cK .i64) b_1))]) ⟨rfl, rfl, trivial⟩ ?_
  refine Tr.seq ?_
  refine Tr.region ?_
  refine RegL.pure (p := (pEq (.bool false))) rfl rfl rfl (J_assign rfl Opd.con) ?_
  refine RegL.nil ?_
  refine Ct.then_tr ?_
  refine Tr.weak (Γ' := [(0, (pSl 1 (cK .i64) a_0)), (1, (pSl 1 (cK .i64) b_1))]) ⟨rfl, rfl, trivial⟩ ?_
  refine Tr.seq ?_
  refine Tr.seq ?_
  refine Tr.region ?_
  refine RegL.pure (p := (pSl 1 (cK .i64) a_0)) rfl rfl rfl (J_move rfl (Opd.tmp rfl)) ?_
  refine RegL.pure (p := (pEq (.int .i64 (a_0.length : Int)))) rfl rfl rfl (J_len rfl Try.underlying25 (Opd.tmp rfl) rfl) ?_
  refine RegL.pure (p := (pSl 1 (cK .i64) b_1)) rfl rfl rfl (J_move rfl (Opd.tmp rfl)) ?_
  refine RegL.pure (p := (pEq (.int .i64 (b_1.length : Int)))) rfl rfl rfl (J_len rfl Try.underlying25 (Opd.tmp rfl) rfl) ?_
  refine RegL.pure (p := (pEq (.bool ((a_0.length : Int) != (b_1.length : Int))))) rfl rfl rfl (J_bin rfl (Opd.tmp rfl) (Opd.tmp rfl) B_neq) ?_
  refine RegL.nil ?_
  refine Ct.then_tr ?_
  refine Tr.weak (Γ' := [(0, (pSl 1 (cK .i64) a_0)), (1, (pSl 1 (cK .i64) b_1)), (10, (pEq (.bool ((a_0.length : Int) != (b_1.length : Int)))))]) ⟨rfl, rfl, rfl, trivial⟩ ?_
  refine Tr.cond (Opd.tmp rfl) (fun hc => ?_) (fun hc => ?_)
  · replace h := bif_t hc h
    refine Tr.seq ?_
    refine Tr.region ?_
    refine RegL.pure (p := (pEq (.bool false))) rfl rfl rfl (J_assign rfl Opd.con) ?_
    refine RegL.nil ?_
    refine Ct.then_tr ?_
    refine Tr.weak (Γ' := [(4, (pEq (.bool false)))]) ⟨rfl, trivial⟩ ?_
    refine Tr.ret ?_
    refine Ct.then_ret ?_
    replace h := Option.some.inj h; subst h
    exact Ct.retH1 (Ωx := []) () rfl (RvOk.tmp rfl) rfl
  · replace h := bif_f hc h
    refine Tr.skip ?_
    refine Ct.then_tr ?_
    refine Tr.weak (Γ' := [(0, (pSl 1 (cK .i64) a_0)), (1, (pSl 1 (cK .i64) b_1))]) ⟨rfl, rfl, trivial⟩ ?_
    refine Tr.seq ?_
    refine Tr.seq ?_
    refine Tr.region ?_
    refine RegL.pure (p := (pEq (.int .i64 (0 : Int)))) rfl rfl rfl (J_assign rfl Opd.con) ?_
    refine RegL.nil ?_
    refine Ct.then_tr ?_
    refine Tr.weak (Γ' := [(0, (pSl 1 (cK .i64) a_0)), (1, (pSl 1 (cK .i64) b_1)), (5, (pEq (.int .i64 (0 : Int))))]) ⟨rfl, rfl, rfl, trivial⟩ ?_
    refine Tr.block ?_
    refine Tr.weak (Γ' := [(0, (pSl 1 (cK .i64) a_0)), (1, (pSl 1 (cK .i64) b_1)), (5, (pEq (.int .i64 (0 : Int))))]) ⟨rfl, rfl, rfl, trivial⟩ ?_
    refine Tr.loop (γ := Unit) (σ := Int) (Γσ := fun s g => [(0, (pSl 1 (cK .i64) a_0)), (1, (pSl 1 (cK .i64) b_1)), (5, (pEq (.int .i64 s)))]) (Ωσ := fun s g => []) (g := ()) h ?_
    clear h
    rintro v2 g3 t h
    replace h : m_laws_eqInt64S_B1 a_0 b_1 v2 = some t := h
    unfold m_laws_eqInt64S_B1 at h
    refine Tr.weakO (Γ' := [(0, (pSl 1 (cK .i64) a_0)), (1, (pSl 1 (cK .i64) b_1)), (5, (pEq (.int .i64 v2)))]) (Ω' := []) rfl ⟨rfl, rfl, rfl, trivial⟩ ?_
    refine Tr.seq ?_
    refine Tr.seq ?_
    refine Tr.region ?_
    refine RegL.pure (p := (pEq (.int .i64 v2))) rfl rfl rfl (J_move rfl (Opd.tmp rfl)) ?_
    refine RegL.pure (p := (pSl 1 (cK .i64) a_0)) rfl rfl rfl (J_move rfl (Opd.tmp rfl)) ?_
    refine RegL.pure (p := (pEq (.int .i64 (a_0.length : Int)))) rfl rfl rfl (J_len rfl Try.underlying25 (Opd.tmp rfl) rfl) ?_
    refine RegL.pure (p := (pEq (.bool (decide (v2 < (a_0.length : Int)))))) rfl rfl rfl (J_bin rfl (Opd.tmp rfl) (Opd.tmp rfl) B_lss) ?_
    refine RegL.nil ?_
    refine Ct.then_tr ?_
    refine Tr.weak (Γ' := [(0, (pSl 1 (cK .i64) a_0)), (1, (pSl 1 (cK .i64) b_1)), (5, (pEq (.int .i64 v2))), (14, (pEq (.bool (decide (v2 < (a_0.length : Int))))))]) ⟨rfl, rfl, rfl, rfl, trivial⟩ ?_
    refine Tr.cond (Opd.tmp rfl) (fun hc => ?_) (fun hc => ?_)
    · replace h := bif_t hc h
      refine Tr.skip ?_
      refine Ct.then_tr ?_
      refine Tr.weak (Γ' := [(0, (pSl 1 (cK .i64) a_0)), (1, (pSl 1 (cK .i64) b_1)), (5, (pEq (.int .i64 v2)))]) ⟨rfl, rfl, rfl, trivial⟩ ?_
      refine Tr.seq ?_
      refine Tr.block ?_
      refine Tr.seq ?_
      replace h := bind_some h; obtain ⟨x4, hx4, h⟩ := h
      replace h := bind_some h; obtain ⟨x5, hx5, h⟩ := h
      refine Tr.drawD (n := 26) (m := 9) (es := [some (Ent.mk [(0, (pSl 1 (cK .i64) a_0))] (pSl 1 (cK .i64) a_0) true), some (Ent.mk [(5, (pEq (.int .i64 v2)))] (pEq (.int .i64 v2)) true), some (Ent.mk [(17, (pSl 1 (cK .i64) a_0)), (18, (pEq (.int .i64 v2)))] (pPtr ((cK .i64) x4)) true), some (Ent.mk [(19, (pPtr ((cK .i64) x4)))] (pEq (.int .i64 x4)) true), some (Ent.mk [(1, (pSl 1 (cK .i64) b_1))] (pSl 1 (cK .i64) b_1) true), some (Ent.mk [(5, (pEq (.int .i64 v2)))] (pEq (.int .i64 v2)) true), some (Ent.mk [(21, (pSl 1 (cK .i64) b_1)), (22, (pEq (.int .i64 v2)))] (pPtr ((cK .i64) x5)) true), some (Ent.mk [(23, (pPtr ((cK .i64) x5)))] (pEq (.int .i64 x5)) true), some (Ent.mk [(20, (pEq (.int .i64 x4))), (24, (pEq (.int .i64 x5)))] (pEq (.bool (x4 != x5))) true)]) (rd := [[0], [5], [17, 18], [19], [1], [5], [21, 22], [23], [20, 24]]) rfl hmix (by kernel_rfl) fun hD => ?_
      refine RD.fin (es := [Ent.mk [(0, (pSl 1 (cK .i64) a_0))] (pSl 1 (cK .i64) a_0) true, Ent.mk [(5, (pEq (.int .i64 v2)))] (pEq (.int .i64 v2)) true, Ent.mk [(17, (pSl 1 (cK .i64) a_0)), (18, (pEq (.int .i64 v2)))] (pPtr ((cK .i64) x4)) true, Ent.mk [(19, (pPtr ((cK .i64) x4)))] (pEq (.int .i64 x4)) true, Ent.mk [(1, (pSl 1 (cK .i64) b_1))] (pSl 1 (cK .i64) b_1) true, Ent.mk [(5, (pEq (.int .i64 v2)))] (pEq (.int .i64 v2)) true, Ent.mk [(21, (pSl 1 (cK .i64) b_1)), (22, (pEq (.int .i64 v2)))] (pPtr ((cK .i64) x5)) true, Ent.mk [(23, (pPtr ((cK .i64) x5)))] (pEq (.int .i64 x5)) true, Ent.mk [(20, (pEq (.int .i64 x4))), (24, (pEq (.int .i64 x5)))] (pEq (.bool (x4 != x5))) true]) (done := []) hD ⟨.inr ⟨(OpJ.w (J_move rfl (Opd.tmp rfl))), ⟨rfl, trivial⟩, rfl, rfl⟩, ⟨.inr ⟨(OpJ.w (J_move rfl (Opd.tmp rfl))), ⟨rfl, trivial⟩, rfl, rfl⟩, ⟨.inr ⟨(OpJ.w (J_idx rfl Try.underlying25 sz2 (Opd.tmp rfl) (Opd.tmp rfl) hx4)), ⟨rfl, rfl, trivial⟩, rfl, rfl⟩, ⟨.inr ⟨(OpJ.w (J_load rfl Try.isAgg2 (Opd.tmp rfl))), ⟨rfl, trivial⟩, rfl, rfl⟩, ⟨.inr ⟨(OpJ.w (J_move rfl (Opd.tmp rfl))), ⟨rfl, trivial⟩, rfl, rfl⟩, ⟨.inr ⟨(OpJ.w (J_move rfl (Opd.tmp rfl))), ⟨rfl, trivial⟩, rfl, rfl⟩, ⟨.inr ⟨(OpJ.w (J_idx rfl Try.underlying25 sz2 (Opd.tmp rfl) (Opd.tmp rfl) hx5)), ⟨rfl, rfl, trivial⟩, rfl, rfl⟩, ⟨.inr ⟨(OpJ.w (J_load rfl Try.isAgg2 (Opd.tmp rfl))), ⟨rfl, trivial⟩, rfl, rfl⟩, ⟨.inr ⟨(OpJ.w (J_bin rfl (Opd.tmp rfl) (Opd.tmp rfl) B_neq)), ⟨rfl, rfl, trivial⟩, rfl, rfl⟩, trivial⟩⟩⟩⟩⟩⟩⟩⟩⟩ ?_
      refine RegL.nil ?_
      refine Ct.then_tr ?_
      refine Tr.weak (Γ' := [(0, (pSl 1 (cK .i64) a_0)), (1, (pSl 1 (cK .i64) b_1)), (5, (pEq (.int .i64 v2))), (25, (pEq (.bool (x4 != x5))))]) ⟨rfl, rfl, rfl, rfl, trivial⟩ ?_
      refine Tr.cond (Opd.tmp rfl) (fun hc => ?_) (fun hc => ?_)
      · replace h := bif_t hc h
        refine Tr.seq ?_
        refine Tr.region ?_
        refine RegL.pure (p := (pEq (.bool false))) rfl rfl rfl (J_assign rfl Opd.con) ?_
        refine RegL.nil ?_
        refine Ct.then_tr ?_
        refine Tr.weak (Γ' := [(4, (pEq (.bool false)))]) ⟨rfl, trivial⟩ ?_
        refine Tr.ret ?_
        refine Ct.blk_ret ?_
        refine Ct.then_ret ?_
        replace h := map_some h; obtain ⟨r1, h, rfl⟩ := h
        refine Ct.out_ret fun e => ?_
        subst e
        refine Ct.blk_ret ?_
        refine Ct.then_ret ?_
        replace h := Option.some.inj h; subst h
        exact Ct.retH1 (Ωx := []) () rfl (RvOk.tmp rfl) rfl
      · replace h := bif_f hc h
        refine Tr.skip ?_
        refine Ct.blk_normal ?_
        refine Ct.then_tr ?_
        refine Tr.weak (Γ' := [(0, (pSl 1 (cK .i64) a_0)), (1, (pSl 1 (cK .i64) b_1)), (5, (pEq (.int .i64 v2)))]) ⟨rfl, rfl, rfl, trivial⟩ ?_
        refine Tr.region ?_
        refine RegL.pure (p := (pEq (.int .i64 v2))) rfl rfl rfl (J_move rfl (Opd.tmp rfl)) ?_
        refine RegL.pure (p := (pEq (.int .i64 (w64 (v2 + (1 : Int)))))) rfl rfl rfl (J_bin rfl (Opd.tmp rfl) Opd.con B_add) ?_
        refine RegL.pure (p := (pEq (.int .i64 (w64 (v2 + (1 : Int)))))) rfl rfl rfl (J_assign rfl (Opd.tmp rfl)) ?_
        refine RegL.nil ?_
        replace h := Option.some.inj h; subst h
        exact Ct.again () rfl ⟨rfl, rfl, rfl, trivial⟩
    · replace h := bif_f hc h
      refine Tr.exit ?_
      refine Ct.then_exit ?_
      replace h := map_some h; obtain ⟨r1, h, rfl⟩ := h
      refine Ct.out_exit fun e => ?_
      subst e
      refine Ct.blk_exit ?_
      refine Ct.then_tr ?_
      refine Tr.weak (Γ' := []) trivial ?_
      refine Tr.seq ?_
      refine Tr.region ?_
      refine RegL.pure (p := (pEq (.bool true))) rfl rfl rfl (J_assign rfl Opd.con) ?_
      refine RegL.nil ?_
      refine Ct.then_tr ?_
      refine Tr.weak (Γ' := [(4, (pEq (.bool true)))]) ⟨rfl, trivial⟩ ?_
      refine Tr.ret ?_
      replace h := Option.some.inj h; subst h
      exact Ct.retH1 (Ωx := []) () rfl (RvOk.tmp rfl) rfl

theorem c_laws_eqInt64SS {a_0 : (List (List Int))} {b_1 : (List (List Int))} {r : Bool} (h : m_laws_eqInt64SS a_0 b_1 = some r) : CallJ Try.prog 47 [(pSl 1 (cSl 1 (cK .i64)) a_0), (pSl 1 (cSl 1 (cK .i64)) b_1)] (pEq (.bool r)) := by
  unfold m_laws_eqInt64SS at h
  refine CallJ.enterH Try.func47 rfl Try.ntmps47 rfl fun W I0 H => ?_
  refine Tr.weak (Γ' := [(0, (pSl 1 (cSl 1 (cK .i64)) a_0)), (1, (pSl 1 (cSl 1 (cK .i64)) b_1))]) ⟨rfl, rfl, trivial⟩ ?_
  refine Tr.seq ?_
  refine Tr.region ?_
  refine RegL.pure (p := (pEq (.bool false))) rfl rfl rfl (J_assign rfl Opd.con) ?_
  refine RegL.nil ?_
  refine Ct.then_tr ?_
  refine Tr.weak (Γ' := [(0, (pSl 1 (cSl 1 (cK .i64)) a_0)), (1, (pSl 1 (cSl 1 (cK .i64)) b_1))]) ⟨rfl, rfl, trivial⟩ ?_
  refine Tr.seq ?_
  refine Tr.seq ?_
  refine Tr.region ?_
  refine RegL.pure (p := (pSl 1 (cSl 1 (cK .i64)) a_0)) rfl rfl rfl (J_move rfl (Opd.tmp rfl)) ?_
  refine RegL.pure (p := (pEq (.int .i64 (a_0.length : Int)))) rfl rfl rfl (J_len rfl Try.underlying22 (Opd.tmp rfl) rfl) ?_
  refine RegL.pure (p := (pSl 1 (cSl 1 (cK .i64)) b_1)) rfl rfl rfl (J_move rfl (Opd.tmp rfl)) ?_
  refine RegL.pure (p := (pEq (.int .i64 (b_1.length : Int)))) rfl rfl rfl (J_len rfl Try.underlying22 (Opd.tmp rfl) rfl) ?_
  refine RegL.pure (p := (pEq (.bool ((a_0.length : Int) != (b_1.length : Int))))) rfl rfl rfl (J_bin rfl (Opd.tmp rfl) (Opd.tmp rfl) B_neq) ?_
  refine RegL.nil ?_
  refine Ct.then_tr ?_
  refine Tr.weak (Γ' := [(0, (pSl 1 (cSl 1 (cK .i64)) a_0)), (1, (pSl 1 (cSl 1 (cK .i64)) b_1)), (10, (pEq (.bool ((a_0.length : Int) != (b_1.length : Int)))))]) ⟨rfl, rfl, rfl, trivial⟩ ?_
  refine Tr.cond (Opd.tmp rfl) (fun hc => ?_) (fun hc => ?_)
  · replace h := bif_t hc h
    refine Tr.seq ?_
    refine Tr.region ?_
    refine RegL.pure (p := (pEq (.bool false))) rfl rfl rfl (J_assign rfl Opd.con) ?_
    refine RegL.nil ?_
    refine Ct.then_tr ?_
    refine Tr.weak (Γ' := [(4, (pEq (.bool false)))]) ⟨rfl, trivial⟩ ?_
    refine Tr.ret ?_
    refine Ct.then_ret ?_
    replace h := Option.some.inj h; subst h
    exact Ct.retH1 (Ωx := []) () rfl (RvOk.tmp rfl) rfl
  · replace h := bif_f hc h
    refine Tr.skip ?_
    refine Ct.then_tr ?_
    refine Tr.weak (Γ' := [(0, (pSl 1 (cSl 1 (cK .i64)) a_0)), (1, (pSl 1 (cSl 1 (cK .i64)) b_1))]) ⟨rfl, rfl, trivial⟩ ?_
    refine Tr.seq ?_
    refine Tr.seq ?_
    refine Tr.region ?_
    refine RegL.pure (p := (pEq (.int .i64 (0 : Int)))) rfl rfl rfl (J_assign rfl Opd.con) ?_
    refine RegL.nil ?_
    refine Ct.then_tr ?_
    refine Tr.weak (Γ' := [(0, (pSl 1 (cSl 1 (cK .i64)) a_0)), (1, (pSl 1 (cSl 1 (cK .i64)) b_1)), (5, (pEq (.int .i64 (0 : Int))))]) ⟨rfl, rfl, rfl, trivial⟩ ?_
    refine Tr.block ?_
    refine Tr.weak (Γ' := [(0, (pSl 1 (cSl 1 (cK .i64)) a_0)), (1, (pSl 1 (cSl 1 (cK .i64)) b_1)), (5, (pEq (.int .i64 (0 : Int))))]) ⟨rfl, rfl, rfl, trivial⟩ ?_
    refine Tr.loop (γ := Unit) (σ := Int) (Γσ := fun s g => [(0, (pSl 1 (cSl 1 (cK .i64)) a_0)), (1, (pSl 1 (cSl 1 (cK .i64)) b_1)), (5, (pEq (.int .i64 s)))]) (Ωσ := fun s g => []) (g := ()) h ?_
    clear h
    rintro v2 g3 t h
    replace h : m_laws_eqInt64SS_B1 a_0 b_1 v2 = some t := h
    unfold m_laws_eqInt64SS_B1 at h
    refine Tr.weakO (Γ' := [(0, (pSl 1 (cSl 1 (cK .i64)) a_0)), (1, (pSl 1 (cSl 1 (cK .i64)) b_1)), (5, (pEq (.int .i64 v2)))]) (Ω' := []) rfl ⟨rfl, rfl, rfl, trivial⟩ ?_
    refine Tr.seq ?_
    refine Tr.seq ?_
    refine Tr.region ?_
    refine RegL.pure (p := (pEq (.int .i64 v2))) rfl rfl rfl (J_move rfl (Opd.tmp rfl)) ?_
    refine RegL.pure (p := (pSl 1 (cSl 1 (cK .i64)) a_0)) rfl rfl rfl (J_move rfl (Opd.tmp rfl)) ?_
    refine RegL.pure (p := (pEq (.int .i64 (a_0.length : Int)))) rfl rfl rfl (J_len rfl Try.underlying22 (Opd.tmp rfl) rfl) ?_
    refine RegL.pure (p := (pEq (.bool (decide (v2 < (a_0.length : Int)))))) rfl rfl rfl (J_bin rfl (Opd.tmp rfl) (Opd.tmp rfl) B_lss) ?_
    refine RegL.nil ?_
    refine Ct.then_tr ?_
    refine Tr.weak (Γ' := [(0, (pSl 1 (cSl 1 (cK .i64)) a_0)), (1, (pSl 1 (cSl 1 (cK .i64)) b_1)), (5, (pEq (.int .i64 v2))), (14, (pEq (.bool (decide (v2 < (a_0.length : Int))))))]) ⟨rfl, rfl, rfl, rfl, trivial⟩ ?_
    refine Tr.cond (Opd.tmp rfl) (fun hc => ?_) (fun hc => ?_)
    · replace h := bif_t hc h
      refine Tr.skip ?_
      refine Ct.then_tr ?_
      refine Tr.weak (Γ' := [(0, (pSl 1 (cSl 1 (cK .i64)) a_0)), (1, (pSl 1 (cSl 1 (cK .i64)) b_1)), (5, (pEq (.int .i64 v2)))]) ⟨rfl, rfl, rfl, trivial⟩ ?_
      refine Tr.seq ?_
      refine Tr.block ?_
      refine Tr.seq ?_
      replace h := bind_some h; obtain ⟨x4, hx4, h⟩ := h
      replace h := bind_some h; obtain ⟨x5, hx5, h⟩ := h
      replace h := bind_some h; obtain ⟨x6, hx6, h⟩ := h
      refine Tr.drawD (n := 27) (m := 10) (es := [some (Ent.mk [(0, (pSl 1 (cSl 1 (cK .i64)) a_0))] (pSl 1 (cSl 1 (cK .i64)) a_0) true), some (Ent.mk [(5, (pEq (.int .i64 v2)))] (pEq (.int .i64 v2)) true), some (Ent.mk [(17, (pSl 1 (cSl 1 (cK .i64)) a_0)), (18, (pEq (.int .i64 v2)))] (pPtr ((cSl 1 (cK .i64)) x4)) true), some (Ent.mk [(19, (pPtr ((cSl 1 (cK .i64)) x4)))] (pSl 1 (cK .i64) x4) true), some (Ent.mk [(1, (pSl 1 (cSl 1 (cK .i64)) b_1))] (pSl 1 (cSl 1 (cK .i64)) b_1) true), some (Ent.mk [(5, (pEq (.int .i64 v2)))] (pEq (.int .i64 v2)) true), some (Ent.mk [(21, (pSl 1 (cSl 1 (cK .i64)) b_1)), (22, (pEq (.int .i64 v2)))] (pPtr ((cSl 1 (cK .i64)) x5)) true), some (Ent.mk [(23, (pPtr ((cSl 1 (cK .i64)) x5)))] (pSl 1 (cK .i64) x5) true), some (Ent.mk [(20, (pSl 1 (cK .i64) x4)), (24, (pSl 1 (cK .i64) x5))] (pEq (.bool x6)) true), some (Ent.mk [(25, (pEq (.bool x6)))] (pEq (.bool (!x6))) true)]) (rd := [[0], [5], [17, 18], [19], [1], [5], [21, 22], [23], [20, 24], [25]]) rfl hmix (by kernel_rfl) fun hD => ?_
      refine RD.fin (es := [Ent.mk [(0, (pSl 1 (cSl 1 (cK .i64)) a_0))] (pSl 1 (cSl 1 (cK .i64)) a_0) true, Ent.mk [(5, (pEq (.int .i64 v2)))] (pEq (.int .i64 v2)) true, Ent.mk [(17, (pSl 1 (cSl 1 (cK .i64)) a_0)), (18, (pEq (.int .i64 v2)))] (pPtr ((cSl 1 (cK .i64)) x4)) true, Ent.mk [(19, (pPtr ((cSl 1 (cK .i64)) x4)))] (pSl 1 (cK .i64) x4) true, Ent.mk [(1, (pSl 1 (cSl 1 (cK .i64)) b_1))] (pSl 1 (cSl 1 (cK .i64)) b_1) true, Ent.mk [(5, (pEq (.int .i64 v2)))] (pEq (.int .i64 v2)) true, Ent.mk [(21, (pSl 1 (cSl 1 (cK .i64)) b_1)), (22, (pEq (.int .i64 v2)))] (pPtr ((cSl 1 (cK .i64)) x5)) true, Ent.mk [(23, (pPtr ((cSl 1 (cK .i64)) x5)))] (pSl 1 (cK .i64) x5) true, Ent.mk [(20, (pSl 1 (cK .i64) x4)), (24, (pSl 1 (cK .i64) x5))] (pEq (.bool x6)) true, Ent.mk [(25, (pEq (.bool x6)))] (pEq (.bool (!x6))) true]) (done := []) hD ⟨.inr ⟨(OpJ.w (J_move rfl (Opd.tmp rfl))), ⟨rfl, trivial⟩, rfl, rfl⟩, ⟨.inr ⟨(OpJ.w (J_move rfl (Opd.tmp rfl))), ⟨rfl, trivial⟩, rfl, rfl⟩, ⟨.inr ⟨(OpJ.w (J_idx rfl Try.underlying22 sz25 (Opd.tmp rfl) (Opd.tmp rfl) hx4)), ⟨rfl, rfl, trivial⟩, rfl, rfl⟩, ⟨.inr ⟨(OpJ.w (J_load rfl Try.isAgg25 (Opd.tmp rfl))), ⟨rfl, trivial⟩, rfl, rfl⟩, ⟨.inr ⟨(OpJ.w (J_move rfl (Opd.tmp rfl))), ⟨rfl, trivial⟩, rfl, rfl⟩, ⟨.inr ⟨(OpJ.w (J_move rfl (Opd.tmp rfl))), ⟨rfl, trivial⟩, rfl, rfl⟩, ⟨.inr ⟨(OpJ.w (J_idx rfl Try.underlying22 sz25 (Opd.tmp rfl) (Opd.tmp rfl) hx5)), ⟨rfl, rfl, trivial⟩, rfl, rfl⟩, ⟨.inr ⟨(OpJ.w (J_load rfl Try.isAgg25 (Opd.tmp rfl))), ⟨rfl, trivial⟩, rfl, rfl⟩, ⟨.inr ⟨(OpJ.w (J_call rfl Try.call17 (c_laws_eqInt64S hx6) (Opds.cons (Opd.tmp rfl) (Opds.cons (Opd.tmp rfl) Opds.nil)))), ⟨rfl, rfl, trivial⟩, rfl, rfl⟩, ⟨.inr ⟨(OpJ.w (J_not rfl (Opd.tmp rfl))), ⟨rfl, trivial⟩, rfl, rfl⟩, trivial⟩⟩⟩⟩⟩⟩⟩⟩⟩⟩ ?_
      refine RegL.nil ?_
      refine Ct.then_tr ?_
      refine Tr.weak (Γ' := [(0, (pSl 1 (cSl 1 (cK .i64)) a_0)), (1, (pSl 1 (cSl 1 (cK .i64)) b_1)), (5, (pEq (.int .i64 v2))), (26, (pEq (.bool (!x6))))]) ⟨rfl, rfl, rfl, rfl, trivial⟩ ?_
      refine Tr.cond (Opd.tmp rfl) (fun hc => ?_) (fun hc => ?_)
      · replace h := bif_t hc h
        refine Tr.seq ?_
        refine Tr.region ?_
        refine RegL.pure (p := (pEq (.bool false))) rfl rfl rfl (J_assign rfl Opd.con) ?_
        refine RegL.nil ?_
        refine Ct.then_tr ?_
        refine Tr.weak (Γ' := [(4, (pEq (.bool false)))]) ⟨rfl, trivial⟩ ?_
        refine Tr.ret ?_
        refine Ct.blk_ret ?_
        refine Ct.then_ret ?_
        replace h := map_some h; obtain ⟨r1, h, rfl⟩ := h
        refine Ct.out_ret fun e => ?_
        subst e
        refine Ct.blk_ret ?_
        refine Ct.then_ret ?_
        replace h := Option.some.inj h; subst h
        exact Ct.retH1 (Ωx := []) () rfl (RvOk.tmp rfl) rfl
      · replace h := bif_f hc h
        refine Tr.skip ?_
        refine Ct.blk_normal ?_
        refine Ct.then_tr ?_
        refine Tr.weak (Γ' := [(0, (pSl 1 (cSl 1 (cK .i64)) a_0)), (1, (pSl 1 (cSl 1 (cK .i64)) b_1)), (5, (pEq (.int .i64 v2)))]) ⟨rfl, rfl, rfl, trivial⟩ ?_
        refine Tr.region ?_
        refine RegL.pure (p := (pEq (.int .i64 v2))) rfl rfl rfl (J_move rfl (Opd.tmp rfl)) ?_
        refine RegL.pure (p := (pEq (.int .i64 (w64 (v2 + (1 : Int)))))) rfl rfl rfl (J_bin rfl (Opd.tmp rfl) Opd.con B_add) ?_
        refine RegL.pure (p := (pEq (.int .i64 (w64 (v2 + (1 : Int)))))) rfl rfl rfl (J_assign rfl (Opd.tmp rfl)) ?_
        refine RegL.nil ?_
        replace h := Option.some.inj h; subst h
        exact Ct.again () rfl ⟨rfl, rfl, rfl, trivial⟩
    · replace h := bif_f hc h
      refine Tr.exit ?_
      refine Ct.then_exit ?_
      replace h := map_some h; obtain ⟨r1, h, rfl⟩ := h
      refine Ct.out_exit fun e => ?_
      subst e
      refine Ct.blk_exit ?_
      refine Ct.then_tr ?_
      refine Tr.weak (Γ' := []) trivial ?_
      refine Tr.seq ?_
      refine Tr.region ?_
      refine RegL.pure (p := (pEq (.bool true))) rfl rfl rfl (J_assign rfl Opd.con) ?_
      refine RegL.nil ?_
      refine Ct.then_tr ?_
      refine Tr.weak (Γ' := [(4, (pEq (.bool true)))]) ⟨rfl, trivial⟩ ?_
      refine Tr.ret ?_
      replace h := Option.some.inj h; subst h
      exact Ct.retH1 (Ωx := []) () rfl (RvOk.tmp rfl) rfl

theorem c_laws_eqProblem {a_0 : GProblem} {b_1 : GProblem} {r : Bool} (h : m_laws_eqProblem a_0 b_1 = some r) : CallJ Try.prog 18 [(pAgg (cGProblem a_0)), (pAgg (cGProblem b_1))] (pEq (.bool r)) := by
  unfold m_laws_eqProblem at h
  refine CallJ.enterH Try.func18 rfl Try.ntmps18 rfl fun W I0 H => ?_
  refine Tr.weak (Γ' := [(0, (pAgg (cGProblem a_0))), (1, (pAgg (cGProblem b_1)))]) ⟨rfl, rfl, trivial⟩ ?_
  refine Tr.seq ?_
  refine Tr.region ?_
  refine RegL.pure (p := (pPtr (cGProblem a_0))) rfl rfl rfl (J_boxA rfl (Opd.tmp rfl)) ?_
  refine RegL.pure (p := (pPtr (cGProblem b_1))) rfl rfl rfl (J_boxA rfl (Opd.tmp rfl)) ?_
  refine RegL.pure (p := (pEq (.bool false))) rfl rfl rfl (J_assign rfl Opd.con) ?_
  refine RegL.nil ?_
  refine Ct.then_tr ?_
  refine Tr.weak (Γ' := [(2, (pPtr (cGProblem a_0))), (3, (pPtr (cGProblem b_1)))]) ⟨rfl, rfl, trivial⟩ ?_
  refine Tr.seq ?_
  refine Tr.seq ?_
  refine Tr.region ?_
  refine RegL.pure (p := (pPtr ((cSl 1 (cSl 1 (cK .i64))) a_0.Domains))) rfl rfl rfl (J_fieldAddr rfl Try.underlying29 rfl sz22 (by decide) (Opd.tmp rfl) rfl) ?_
  refine RegL.pure (p := (pSl 1 (cSl 1 (cK .i64)) a_0.Domains)) rfl rfl rfl (J_load rfl Try.isAgg22 (Opd.tmp rfl)) ?_
  refine RegL.pure (p := (pPtr ((cSl 1 (cSl 1 (cK .i64))) b_1.Domains))) rfl rfl rfl (J_fieldAddr rfl Try.underlying29 rfl sz22 (by decide) (Opd.tmp rfl) rfl) ?_
  refine RegL.pure (p := (pSl 1 (cSl 1 (cK .i64)) b_1.Domains)) rfl rfl rfl (J_load rfl Try.isAgg22 (Opd.tmp rfl)) ?_
  replace h := bind_some h; obtain ⟨x1, hx1, h⟩ := h
  refine RegL.pure (p := (pEq (.bool x1))) rfl rfl rfl (J_call rfl Try.call47 (c_laws_eqInt64SS hx1) (Opds.cons (Opd.tmp rfl) (Opds.cons (Opd.tmp rfl) Opds.nil))) ?_
  refine RegL.pure (p := (pEq (.bool (!x1)))) rfl rfl rfl (J_not rfl (Opd.tmp rfl)) ?_
  refine RegL.nil ?_
  refine Ct.then_tr ?_
  refine Tr.weak (Γ' := [(2, (pPtr (cGProblem a_0))), (3, (pPtr (cGProblem b_1))), (10, (pEq (.bool (!x1))))]) ⟨rfl, rfl, rfl, trivial⟩ ?_
  refine Tr.cond (Opd.tmp rfl) (fun hc => ?_) (fun hc => ?_)
  · replace h := bif_t hc h
    refine Tr.seq ?_
    refine Tr.region ?_
    refine RegL.pure (p := (pEq (.bool false))) rfl rfl rfl (J_assign rfl Opd.con) ?_
    refine RegL.nil ?_
    refine Ct.then_tr ?_
    refine Tr.weak (Γ' := [(4, (pEq (.bool false)))]) ⟨rfl, trivial⟩ ?_
    refine Tr.ret ?_
    refine Ct.then_ret ?_
    replace h := Option.some.inj h; subst h
    exact Ct.retH1 (Ωx := []) () rfl (RvOk.tmp rfl) rfl
  · replace h := bif_f hc h
    refine Tr.skip ?_
    refine Ct.then_tr ?_
    refine Tr.weak (Γ' := [(2, (pPtr (cGProblem a_0))), (3, (pPtr (cGProblem b_1)))]) ⟨rfl, rfl, trivial⟩ ?_
    refine Tr.seq ?_
    refine Tr.seq ?_
    refine Tr.region ?_
    refine RegL.pure (p := (pPtr ((cSl 1 (cSl 1 (cK .i64))) a_0.Apart))) rfl rfl rfl (J_fieldAddr rfl Try.underlying29 rfl sz22 (by decide) (Opd.tmp rfl) rfl) ?_
    refine RegL.pure (p := (pSl 1 (cSl 1 (cK .i64)) a_0.Apart)) rfl rfl rfl (J_load rfl Try.isAgg22 (Opd.tmp rfl)) ?_
    refine RegL.pure (p := (pPtr ((cSl 1 (cSl 1 (cK .i64))) b_1.Apart))) rfl rfl rfl (J_fieldAddr rfl Try.underlying29 rfl sz22 (by decide) (Opd.tmp rfl) rfl) ?_
    refine RegL.pure (p := (pSl 1 (cSl 1 (cK .i64)) b_1.Apart)) rfl rfl rfl (J_load rfl Try.isAgg22 (Opd.tmp rfl)) ?_
    replace h := bind_some h; obtain ⟨x2, hx2, h⟩ := h
    refine RegL.pure (p := (pEq (.bool x2))) rfl rfl rfl (J_call rfl Try.call47 (c_laws_eqInt64SS hx2) (Opds.cons (Opd.tmp rfl) (Opds.cons (Opd.tmp rfl) Opds.nil))) ?_
    refine RegL.pure (p := (pEq (.bool (!x2)))) rfl rfl rfl (J_not rfl (Opd.tmp rfl)) ?_
    refine RegL.nil ?_
    refine Ct.then_tr ?_
    refine Tr.weak (Γ' := [(16, (pEq (.bool (!x2))))]) ⟨rfl, trivial⟩ ?_
    refine Tr.cond (Opd.tmp rfl) (fun hc => ?_) (fun hc => ?_)
    · replace h := bif_t hc h
      refine Tr.seq ?_
      refine Tr.region ?_
      refine RegL.pure (p := (pEq (.bool false))) rfl rfl rfl (J_assign rfl Opd.con) ?_
      refine RegL.nil ?_
      refine Ct.then_tr ?_
      refine Tr.weak (Γ' := [(4, (pEq (.bool false)))]) ⟨rfl, trivial⟩ ?_
      refine Tr.ret ?_
      refine Ct.then_ret ?_
      replace h := Option.some.inj h; subst h
      exact Ct.retH1 (Ωx := []) () rfl (RvOk.tmp rfl) rfl
    · replace h := bif_f hc h
      refine Tr.skip ?_
      refine Ct.then_tr ?_
      refine Tr.weak (Γ' := []) trivial ?_
      refine Tr.seq ?_
      refine Tr.region ?_
      refine RegL.pure (p := (pEq (.bool true))) rfl rfl rfl (J_assign rfl Opd.con) ?_
      refine RegL.nil ?_
      refine Ct.then_tr ?_
      refine Tr.weak (Γ' := [(4, (pEq (.bool true)))]) ⟨rfl, trivial⟩ ?_
      refine Tr.ret ?_
      replace h := Option.some.inj h; subst h
      exact Ct.retH1 (Ωx := []) () rfl (RvOk.tmp rfl) rfl

theorem o_laws_markInt64S {a_0 : (List Int)} {k_1 : Int} {ho0 : Option Addr} {hn0 hc0 : Nat} {r : (Int × (List Int))} (h : m_laws_markInt64S a_0 k_1 = some r) : CallH Try.prog 20 [(pEq (.slice ho0 hn0 hc0)), (pEq (.int .i64 k_1))] [oSl 2 1 (cK .i64) ho0 hn0 hc0 a_0] (fun g : Unit => (pEq (.int .i64 r.1))) (fun g : Unit => [oSl 2 1 (cK .i64) ho0 hn0 hc0 r.2]) := by
  unfold m_laws_markInt64S at h
  refine CallH.enter Try.func20 rfl Try.ntmps20 rfl fun W I0 H => ?_
  refine Tr.weak (Γ' := [(0, (pEq (.slice ho0 hn0 hc0))), (1, (pEq (.int .i64 k_1)))]) ⟨rfl, rfl, trivial⟩ ?_
  refine Tr.seq ?_
  refine Tr.region ?_
  refine RegL.pure (p := (pEq (.int .i64 (0 : Int)))) rfl rfl rfl (J_assign rfl Opd.con) ?_
  refine RegL.nil ?_
  refine Ct.then_tr ?_
  refine Tr.weak (Γ' := [(0, (pEq (.slice ho0 hn0 hc0))), (1, (pEq (.int .i64 k_1)))]) ⟨rfl, rfl, trivial⟩ ?_
  refine Tr.seq ?_
  refine Tr.seq ?_
  refine Tr.region ?_
  refine RegL.pure (p := (pEq (.int .i64 (0 : Int)))) rfl rfl rfl (J_assign rfl Opd.con) ?_
  refine RegL.nil ?_
  refine Ct.then_tr ?_
  refine Tr.weak (Γ' := [(0, (pEq (.slice ho0 hn0 hc0))), (1, (pEq (.int .i64 k_1))), (5, (pEq (.int .i64 (0 : Int))))]) ⟨rfl, rfl, rfl, trivial⟩ ?_
  replace h := bind_some h; obtain ⟨x2, hx2, h⟩ := h
  refine Tr.cut (γ := Unit) (Γm := fun g => [(1, (pEq (.int .i64 x2.1)))]) (Ωm := fun g => [oSl 2 1 (cK .i64) ho0 hn0 hc0 x2.2]) ?_ (fun g10 => ?_)
  · clear h
    have h := hx2
    clear hx2
    refine Tr.block ?_
    refine Tr.weak (Γ' := [(0, (pEq (.slice ho0 hn0 hc0))), (1, (pEq (.int .i64 k_1))), (5, (pEq (.int .i64 (0 : Int))))]) ⟨rfl, rfl, rfl, trivial⟩ ?_
    refine Tr.loop (γ := Unit) (σ := (Int × Int × (List Int))) (Γσ := fun s g => [(0, (pEq (.slice ho0 hn0 hc0))), (1, (pEq (.int .i64 s.1))), (5, (pEq (.int .i64 s.2.1)))]) (Ωσ := fun s g => [oSl 2 1 (cK .i64) ho0 hn0 hc0 s.2.2]) (g := ()) h ?_
    clear h
    rintro ⟨v4, v5, v6⟩ g7 t h
    replace h : m_laws_markInt64S_B3  v4 v5 v6 = some t := h
    unfold m_laws_markInt64S_B3 at h
    refine Tr.weakO (Γ' := [(0, (pEq (.slice ho0 hn0 hc0))), (1, (pEq (.int .i64 v4))), (5, (pEq (.int .i64 v5)))]) (Ω' := [oSl 2 1 (cK .i64) ho0 hn0 hc0 v6]) rfl ⟨rfl, rfl, rfl, trivial⟩ ?_
    refine Tr.seq ?_
    refine Tr.seq ?_
    refine Tr.region ?_
    refine RegL.pure (p := (pEq (.int .i64 v5))) rfl rfl rfl (J_move rfl (Opd.tmp rfl)) ?_
    refine RegL.pure (p := (pEq (.slice ho0 hn0 hc0))) rfl rfl rfl (J_move rfl (Opd.tmp rfl)) ?_
    refine RegL.pureW (p := (pEq (.int .i64 (v6.length : Int)))) rfl rfl rfl (W_rowLen (j := 0) rfl Try.underlying25 (Opd.tmp rfl) rfl) ?_
    refine RegL.pure (p := (pEq (.bool (decide (v5 < (v6.length : Int)))))) rfl rfl rfl (J_bin rfl (Opd.tmp rfl) (Opd.tmp rfl) B_lss) ?_
    refine RegL.nil ?_
    refine Ct.then_tr ?_
    refine Tr.weak (Γ' := [(0, (pEq (.slice ho0 hn0 hc0))), (1, (pEq (.int .i64 v4))), (5, (pEq (.int .i64 v5))), (9, (pEq (.bool (decide (v5 < (v6.length : Int))))))]) ⟨rfl, rfl, rfl, rfl, trivial⟩ ?_
    refine Tr.cond (Opd.tmp rfl) (fun hc => ?_) (fun hc => ?_)
    · replace h := bif_t hc h
      refine Tr.skip ?_
      refine Ct.then_tr ?_
      refine Tr.weak (Γ' := [(0, (pEq (.slice ho0 hn0 hc0))), (1, (pEq (.int .i64 v4))), (5, (pEq (.int .i64 v5)))]) ⟨rfl, rfl, rfl, trivial⟩ ?_
      refine Tr.seq ?_
      refine Tr.block ?_
      refine Tr.seq ?_
      refine Tr.region ?_
      refine RegL.pure (p := (pEq (.slice ho0 hn0 hc0))) rfl rfl rfl (J_move rfl (Opd.tmp rfl)) ?_
      refine RegL.pure (p := (pEq (.int .i64 v5))) rfl rfl rfl (J_move rfl (Opd.tmp rfl)) ?_
      refine RegL.pure (p := (pEq (.int .i64 v4))) rfl rfl rfl (J_move rfl (Opd.tmp rfl)) ?_
      replace h := bind_some h; obtain ⟨u8, hu8, h⟩ := h
      refine RegL.pureW (p := (pEq (.pointer (some ⟨blk ho0, (v5).toNat * 1, none⟩)))) rfl rfl rfl (W_rowIdx (j := 0) rfl Try.underlying25 sz2 (Opd.tmp rfl) (Opd.tmp rfl) rfl (inB_some hu8)) ?_
      refine RegL.stepN (γ := Unit) (p := fun _ => pAny) (Ω' := fun _ => [oSl 2 1 (cK .i64) ho0 hn0 hc0 (v6.set (v5).toNat v4)]) rfl rfl (M_rowStore rfl sz2 (fun _ => rfl) (Opd.tmp rfl) (Opd.tmp rfl) rfl OneC.int (setL_of (inB_some hu8))) fun g9 => ?_
      refine RegL.nil ?_
      refine Ct.then_tr ?_
      refine Tr.weak (Γ' := [(0, (pEq (.slice ho0 hn0 hc0))), (1, (pEq (.int .i64 v4))), (5, (pEq (.int .i64 v5)))]) ⟨rfl, rfl, rfl, trivial⟩ ?_
      refine Tr.region ?_
      refine RegL.pure (p := (pEq (.int .i64 v4))) rfl rfl rfl (J_move rfl (Opd.tmp rfl)) ?_
      refine RegL.pure (p := (pEq (.int .i64 (w64 (v4 + (1 : Int)))))) rfl rfl rfl (J_bin rfl (Opd.tmp rfl) Opd.con B_add) ?_
      refine RegL.pure (p := (pEq (.int .i64 (w64 (v4 + (1 : Int)))))) rfl rfl rfl (J_assign rfl (Opd.tmp rfl)) ?_
      refine RegL.nil ?_
      refine Ct.blk_normal ?_
      refine Ct.then_tr ?_
      refine Tr.weak (Γ' := [(0, (pEq (.slice ho0 hn0 hc0))), (1, (pEq (.int .i64 (w64 (v4 + (1 : Int)))))), (5, (pEq (.int .i64 v5)))]) ⟨rfl, rfl, rfl, trivial⟩ ?_
      refine Tr.region ?_
      refine RegL.pure (p := (pEq (.int .i64 v5))) rfl rfl rfl (J_move rfl (Opd.tmp rfl)) ?_
      refine RegL.pure (p := (pEq (.int .i64 (w64 (v5 + (1 : Int)))))) rfl rfl rfl (J_bin rfl (Opd.tmp rfl) Opd.con B_add) ?_
      refine RegL.pure (p := (pEq (.int .i64 (w64 (v5 + (1 : Int)))))) rfl rfl rfl (J_assign rfl (Opd.tmp rfl)) ?_
      refine RegL.nil ?_
      replace h := Option.some.inj h; subst h
      exact Ct.again () rfl ⟨rfl, rfl, rfl, trivial⟩
    · replace h := bif_f hc h
      refine Tr.exit ?_
      refine Ct.then_exit ?_
      replace h := map_some h; obtain ⟨r1, h, rfl⟩ := h
      refine Ct.out_exit fun e => ?_
      subst e
      refine Ct.blk_exit ?_
      replace h := Option.some.inj h; subst h
      exact Ct.mid () rfl ⟨rfl, trivial⟩
  · clear hx2
    refine Ct.then_tr ?_
    refine Tr.weak (Γ' := [(1, (pEq (.int .i64 x2.1)))]) ⟨rfl, trivial⟩ ?_
    refine Tr.seq ?_
    refine Tr.region ?_
    refine RegL.pure (p := (pEq (.int .i64 x2.1))) rfl rfl rfl (J_move rfl (Opd.tmp rfl)) ?_
    refine RegL.pure (p := (pEq (.int .i64 x2.1))) rfl rfl rfl (J_assign rfl (Opd.tmp rfl)) ?_
    refine RegL.nil ?_
    refine Ct.then_tr ?_
    refine Tr.weak (Γ' := [(4, (pEq (.int .i64 x2.1)))]) ⟨rfl, trivial⟩ ?_
    refine Tr.ret ?_
    replace h := Option.some.inj h; subst h
    exact Ct.retH1 (Ωx := []) () rfl (RvOk.tmp rfl) rfl

theorem o_laws_markInt64SS {a_0 : (List (List Int))} {k_1 : Int} {ho0 : Option Addr} {hn0 hc0 : Nat} {hh0 : List G3} {r : (Int × (List (List Int)))} (h : m_laws_markInt64SS a_0 k_1 = some r) : CallH Try.prog 48 [(pEq (.slice ho0 hn0 hc0)), (pEq (.int .i64 k_1))] [oSS 25 2 1 (cK .i64) ho0 hn0 hc0 hh0 a_0] (fun g : Unit => (pEq (.int .i64 r.1))) (fun g : Unit => [oSS 25 2 1 (cK .i64) ho0 hn0 hc0 hh0 r.2]) := by
  unfold m_laws_markInt64SS at h
  refine CallH.enter Try.func48 rfl Try.ntmps48 rfl fun W I0 H => ?_
  refine Tr.weak (Γ' := [(0, (pEq (.slice ho0 hn0 hc0))), (1, (pEq (.int .i64 k_1)))]) ⟨rfl, rfl, trivial⟩ ?_
  refine Tr.seq ?_
  refine Tr.region ?_
  refine RegL.pure (p := (pEq (.int .i64 (0 : Int)))) rfl rfl rfl (J_assign rfl Opd.con) ?_
  refine RegL.nil ?_
  refine Ct.then_tr ?_
  refine Tr.weak (Γ' := [(0, (pEq (.slice ho0 hn0 hc0))), (1, (pEq (.int .i64 k_1)))]) ⟨rfl, rfl, trivial⟩ ?_
  refine Tr.seq ?_
  refine Tr.seq ?_
  refine Tr.region ?_
  refine RegL.pure (p := (pEq (.int .i64 (0 : Int)))) rfl rfl rfl (J_assign rfl Opd.con) ?_
  refine RegL.nil ?_
  refine Ct.then_tr ?_
  refine Tr.weak (Γ' := [(0, (pEq (.slice ho0 hn0 hc0))), (1, (pEq (.int .i64 k_1))), (5, (pEq (.int .i64 (0 : Int))))]) ⟨rfl, rfl, rfl, trivial⟩ ?_
  replace h := bind_some h; obtain ⟨x2, hx2, h⟩ := h
  refine Tr.cut (γ := Unit) (Γm := fun g => [(1, (pEq (.int .i64 x2.1)))]) (Ωm := fun g => [oSS 25 2 1 (cK .i64) ho0 hn0 hc0 hh0 x2.2]) ?_ (fun g12 => ?_)
  · clear h
    have h := hx2
    clear hx2
    refine Tr.block ?_
    refine Tr.weak (Γ' := [(0, (pEq (.slice ho0 hn0 hc0))), (1, (pEq (.int .i64 k_1))), (5, (pEq (.int .i64 (0 : Int))))]) ⟨rfl, rfl, rfl, trivial⟩ ?_
    refine Tr.loop (γ := Unit) (σ := (Int × Int × (List (List Int)))) (Γσ := fun s g => [(0, (pEq (.slice ho0 hn0 hc0))), (1, (pEq (.int .i64 s.1))), (5, (pEq (.int .i64 s.2.1)))]) (Ωσ := fun s g => [oSS 25 2 1 (cK .i64) ho0 hn0 hc0 hh0 s.2.2]) (g := ()) h ?_
    clear h
    rintro ⟨v4, v5, v6⟩ g7 t h
    replace h : m_laws_markInt64SS_B3  v4 v5 v6 = some t := h
    unfold m_laws_markInt64SS_B3 at h
    refine Tr.weakO (Γ' := [(0, (pEq (.slice ho0 hn0 hc0))), (1, (pEq (.int .i64 v4))), (5, (pEq (.int .i64 v5)))]) (Ω' := [oSS 25 2 1 (cK .i64) ho0 hn0 hc0 hh0 v6]) rfl ⟨rfl, rfl, rfl, trivial⟩ ?_
    refine Tr.seq ?_
    refine Tr.seq ?_
    refine Tr.region ?_
    refine RegL.pure (p := (pEq (.int .i64 v5))) rfl rfl rfl (J_move rfl (Opd.tmp rfl)) ?_
    refine RegL.pure (p := (pEq (.slice ho0 hn0 hc0))) rfl rfl rfl (J_move rfl (Opd.tmp rfl)) ?_
    refine RegL.pureW (p := (pEq (.int .i64 (v6.length : Int)))) rfl rfl rfl (W_nestLen (j := 0) rfl Try.underlying22 (Opd.tmp rfl) rfl) ?_
    refine RegL.pure (p := (pEq (.bool (decide (v5 < (v6.length : Int)))))) rfl rfl rfl (J_bin rfl (Opd.tmp rfl) (Opd.tmp rfl) B_lss) ?_
    refine RegL.nil ?_
    refine Ct.then_tr ?_
    refine Tr.weak (Γ' := [(0, (pEq (.slice ho0 hn0 hc0))), (1, (pEq (.int .i64 v4))), (5, (pEq (.int .i64 v5))), (9, (pEq (.bool (decide (v5 < (v6.length : Int))))))]) ⟨rfl, rfl, rfl, rfl, trivial⟩ ?_
    refine Tr.cond (Opd.tmp rfl) (fun hc => ?_) (fun hc => ?_)
    · replace h := bif_t hc h
      refine Tr.skip ?_
      refine Ct.then_tr ?_
      refine Tr.weak (Γ' := [(0, (pEq (.slice ho0 hn0 hc0))), (1, (pEq (.int .i64 v4))), (5, (pEq (.int .i64 v5)))]) ⟨rfl, rfl, rfl, trivial⟩ ?_
      refine Tr.seq ?_
      refine Tr.block ?_
      refine Tr.region ?_
      refine RegL.pure (p := (pEq (.slice ho0 hn0 hc0))) rfl rfl rfl (J_move rfl (Opd.tmp rfl)) ?_
      refine RegL.pure (p := (pEq (.int .i64 v5))) rfl rfl rfl (J_move rfl (Opd.tmp rfl)) ?_
      replace h := bind_some h; obtain ⟨x8, hx8, h⟩ := h
      refine RegL.pureW (p := (pEq (.pointer (some ⟨blk ho0, (v5).toNat * 1, none⟩)))) rfl rfl rfl (W_nestIdx (j := 0) rfl Try.underlying22 sz25 (Opd.tmp rfl) (Opd.tmp rfl) rfl (idx_lt hx8)) ?_
      refine RegL.pureW (p := (pEq (hdrV (gd hh0 v5)))) rfl rfl rfl (W_nestLoad (j := 0) rfl Try.isAgg25 (Opd.tmp rfl) rfl hx8) ?_
      refine RegL.pure (p := (pEq (.int .i64 v4))) rfl rfl rfl (J_move rfl (Opd.tmp rfl)) ?_
      replace h := bind_some h; obtain ⟨x10, hx10, h⟩ := h
      refine RegL.re (Ω2 := [oSl 2 1 (cK .i64) (gd hh0 v5).1 (gd hh0 v5).2.1 (gd hh0 v5).2.2 x8, oHole 25 2 1 (cK .i64) ho0 hn0 hc0 hh0 v6 v5]) (fun h => nest_focus hx8 h) ?_
      refine RegL.step (γ := Unit) (p := fun g => (pEq (.int .i64 x10.1))) (Ω' := fun g => [oSl 2 1 (cK .i64) (gd hh0 v5).1 (gd hh0 v5).2.1 (gd hh0 v5).2.2 x10.2, oHole 25 2 1 (cK .i64) ho0 hn0 hc0 hh0 v6 v5]) rfl rfl rfl (M_callH (Ωi := [oSl 2 1 (cK .i64) (gd hh0 v5).1 (gd hh0 v5).2.1 (gd hh0 v5).2.2 x8]) rfl Try.call20 (o_laws_markInt64S hx10) (Opds.cons (Opd.tmp rfl) (Opds.cons (Opd.tmp rfl) Opds.nil))) fun g11 => ?_
      refine RegL.re (Ω2 := [oSS 25 2 1 (cK .i64) ho0 hn0 hc0 hh0 (v6.set (v5).toNat x10.2)]) (fun h => nest_unfocus hx8 h) ?_
      refine RegL.pure (p := (pEq (.int .i64 x10.1))) rfl rfl rfl (J_assign rfl (Opd.tmp rfl)) ?_
      refine RegL.nil ?_
      refine Ct.blk_normal ?_
      refine Ct.then_tr ?_
      refine Tr.weak (Γ' := [(0, (pEq (.slice ho0 hn0 hc0))), (1, (pEq (.int .i64 x10.1))), (5, (pEq (.int .i64 v5)))]) ⟨rfl, rfl, rfl, trivial⟩ ?_
      refine Tr.region ?_
      refine RegL.pure (p := (pEq (.int .i64 v5))) rfl rfl rfl (J_move rfl (Opd.tmp rfl)) ?_
      refine RegL.pure (p := (pEq (.int .i64 (w64 (v5 + (1 : Int)))))) rfl rfl rfl (J_bin rfl (Opd.tmp rfl) Opd.con B_add) ?_
      refine RegL.pure (p := (pEq (.int .i64 (w64 (v5 + (1 : Int)))))) rfl rfl rfl (J_assign rfl (Opd.tmp rfl)) ?_
      refine RegL.nil ?_
      replace h := Option.some.inj h; subst h
      exact Ct.again () rfl ⟨rfl, rfl, rfl, trivial⟩
    · replace h := bif_f hc h
      refine Tr.exit ?_
      refine Ct.then_exit ?_
      replace h := map_some h; obtain ⟨r1, h, rfl⟩ := h
      refine Ct.out_exit fun e => ?_
      subst e
      refine Ct.blk_exit ?_
      replace h := Option.some.inj h; subst h
      exact Ct.mid () rfl ⟨rfl, trivial⟩
  · clear hx2
    refine Ct.then_tr ?_
    refine Tr.weak (Γ' := [(1, (pEq (.int .i64 x2.1)))]) ⟨rfl, trivial⟩ ?_
    refine Tr.seq ?_
    refine Tr.region ?_
    refine RegL.pure (p := (pEq (.int .i64 x2.1))) rfl rfl rfl (J_move rfl (Opd.tmp rfl)) ?_
    refine RegL.pure (p := (pEq (.int .i64 x2.1))) rfl rfl rfl (J_assign rfl (Opd.tmp rfl)) ?_
    refine RegL.nil ?_
    refine Ct.then_tr ?_
    refine Tr.weak (Γ' := [(4, (pEq (.int .i64 x2.1)))]) ⟨rfl, trivial⟩ ?_
    refine Tr.ret ?_
    replace h := Option.some.inj h; subst h
    exact Ct.retH1 (Ωx := []) () rfl (RvOk.tmp rfl) rfl

theorem o_laws_markProblem {a_0 : GProblem} {k_1 : Int} {ho0_0 : Option Addr} {hn0_0 hc0_0 : Nat} {hh0_0 : List G3} {ho0_1 : Option Addr} {hn0_1 hc0_1 : Nat} {hh0_1 : List G3} {r : (Int × (List (List Int)) × (List (List Int)))} (h : m_laws_markProblem a_0 k_1 = some r) : CallH Try.prog 19 [(pAgg [(pEq (.slice ho0_0 hn0_0 hc0_0)), (pEq (.slice ho0_1 hn0_1 hc0_1))]), (pEq (.int .i64 k_1))] [oSS 25 2 1 (cK .i64) ho0_0 hn0_0 hc0_0 hh0_0 a_0.Domains, oSS 25 2 1 (cK .i64) ho0_1 hn0_1 hc0_1 hh0_1 a_0.Apart] (fun g : Unit => (pEq (.int .i64 r.1))) (fun g : Unit => [oSS 25 2 1 (cK .i64) ho0_0 hn0_0 hc0_0 hh0_0 r.2.1, oSS 25 2 1 (cK .i64) ho0_1 hn0_1 hc0_1 hh0_1 r.2.2]) := by
  unfold m_laws_markProblem at h
  refine CallH.enter Try.func19 rfl Try.ntmps19 rfl fun W I0 H => ?_
  refine Tr.weak (Γ' := [(0, (pAgg [(pEq (.slice ho0_0 hn0_0 hc0_0)), (pEq (.slice ho0_1 hn0_1 hc0_1))])), (1, (pEq (.int .i64 k_1)))]) ⟨rfl, rfl, trivial⟩ ?_
  refine Tr.seq ?_
  refine Tr.region ?_
  refine RegL.step (γ := Nat) (p := fun b => pEq (.pointer (some ⟨b, 0, none⟩))) (Ω' := fun b => [oBlk b [(pEq (.slice ho0_0 hn0_0 hc0_0)), (pEq (.slice ho0_1 hn0_1 hc0_1))], oSS 25 2 1 (cK .i64) ho0_0 hn0_0 hc0_0 hh0_0 a_0.Domains, oSS 25 2 1 (cK .i64) ho0_1 hn0_1 hc0_1 hh0_1 a_0.Apart]) rfl rfl rfl (M_boxA rfl (Opd.tmp rfl)) fun b3 => ?_
  refine RegL.pure (p := (pEq (.int .i64 (0 : Int)))) rfl rfl rfl (J_assign rfl Opd.con) ?_
  refine RegL.nil ?_
  refine Ct.then_tr ?_
  refine Tr.weak (Γ' := [(1, (pEq (.int .i64 k_1))), (2, (pEq (.pointer (some ⟨b3, 0, none⟩))))]) ⟨rfl, rfl, trivial⟩ ?_
  refine Tr.seq ?_
  refine Tr.region ?_
  refine RegL.pure (p := (pEq (.pointer (some ⟨b3, 0, none⟩)))) rfl rfl rfl (J_fieldAddrE rfl Try.underlying29 rfl sz22 (by decide) (Opd.tmp rfl) rfl) ?_
  refine RegL.pureW (p := (pEq (.slice ho0_0 hn0_0 hc0_0))) rfl rfl rfl (W_load (i := 0) rfl Try.isAgg22 (Opd.tmp rfl) rfl rfl) ?_
  refine RegL.pure (p := (pEq (.int .i64 k_1))) rfl rfl rfl (J_move rfl (Opd.tmp rfl)) ?_
  replace h := bind_some h; obtain ⟨x4, hx4, h⟩ := h
  refine RegL.re (Ω2 := [oSS 25 2 1 (cK .i64) ho0_0 hn0_0 hc0_0 hh0_0 a_0.Domains, oBlk b3 [(pEq (.slice ho0_0 hn0_0 hc0_0)), (pEq (.slice ho0_1 hn0_1 hc0_1))], oSS 25 2 1 (cK .i64) ho0_1 hn0_1 hc0_1 hh0_1 a_0.Apart]) (fun h => SatO.pick 1 h) ?_
  refine RegL.step (γ := Unit) (p := fun g => (pEq (.int .i64 x4.1))) (Ω' := fun g => [oSS 25 2 1 (cK .i64) ho0_0 hn0_0 hc0_0 hh0_0 x4.2, oBlk b3 [(pEq (.slice ho0_0 hn0_0 hc0_0)), (pEq (.slice ho0_1 hn0_1 hc0_1))], oSS 25 2 1 (cK .i64) ho0_1 hn0_1 hc0_1 hh0_1 a_0.Apart]) rfl rfl rfl (M_callH (Ωi := [oSS 25 2 1 (cK .i64) ho0_0 hn0_0 hc0_0 hh0_0 a_0.Domains]) rfl Try.call48 (o_laws_markInt64SS hx4) (Opds.cons (Opd.tmp rfl) (Opds.cons (Opd.tmp rfl) Opds.nil))) fun g5 => ?_
  refine RegL.pure (p := (pEq (.int .i64 x4.1))) rfl rfl rfl (J_assign rfl (Opd.tmp rfl)) ?_
  refine RegL.nil ?_
  refine Ct.then_tr ?_
  refine Tr.weak (Γ' := [(1, (pEq (.int .i64 x4.1))), (2, (pEq (.pointer (some ⟨b3, 0, none⟩))))]) ⟨rfl, rfl, trivial⟩ ?_
  refine Tr.seq ?_
  refine Tr.region ?_
  refine RegL.pure (p := (pEq (.pointer (some ⟨b3, 1, none⟩)))) rfl rfl rfl (J_fieldAddrE rfl Try.underlying29 rfl sz22 (by decide) (Opd.tmp rfl) rfl) ?_
  refine RegL.pureW (p := (pEq (.slice ho0_1 hn0_1 hc0_1))) rfl rfl rfl (W_load (i := 1) rfl Try.isAgg22 (Opd.tmp rfl) rfl rfl) ?_
  refine RegL.pure (p := (pEq (.int .i64 x4.1))) rfl rfl rfl (J_move rfl (Opd.tmp rfl)) ?_
  replace h := bind_some h; obtain ⟨x6, hx6, h⟩ := h
  refine RegL.re (Ω2 := [oSS 25 2 1 (cK .i64) ho0_1 hn0_1 hc0_1 hh0_1 a_0.Apart, oSS 25 2 1 (cK .i64) ho0_0 hn0_0 hc0_0 hh0_0 x4.2, oBlk b3 [(pEq (.slice ho0_0 hn0_0 hc0_0)), (pEq (.slice ho0_1 hn0_1 hc0_1))]]) (fun h => SatO.pick 2 h) ?_
  refine RegL.step (γ := Unit) (p := fun g => (pEq (.int .i64 x6.1))) (Ω' := fun g => [oSS 25 2 1 (cK .i64) ho0_1 hn0_1 hc0_1 hh0_1 x6.2, oSS 25 2 1 (cK .i64) ho0_0 hn0_0 hc0_0 hh0_0 x4.2, oBlk b3 [(pEq (.slice ho0_0 hn0_0 hc0_0)), (pEq (.slice ho0_1 hn0_1 hc0_1))]]) rfl rfl rfl (M_callH (Ωi := [oSS 25 2 1 (cK .i64) ho0_1 hn0_1 hc0_1 hh0_1 a_0.Apart]) rfl Try.call48 (o_laws_markInt64SS hx6) (Opds.cons (Opd.tmp rfl) (Opds.cons (Opd.tmp rfl) Opds.nil))) fun g7 => ?_
  refine RegL.pure (p := (pEq (.int .i64 x6.1))) rfl rfl rfl (J_assign rfl (Opd.tmp rfl)) ?_
  refine RegL.nil ?_
  refine Ct.then_tr ?_
  refine Tr.weak (Γ' := [(1, (pEq (.int .i64 x6.1)))]) ⟨rfl, trivial⟩ ?_
  refine Tr.seq ?_
  refine Tr.region ?_
  refine RegL.pure (p := (pEq (.int .i64 x6.1))) rfl rfl rfl (J_move rfl (Opd.tmp rfl)) ?_
  refine RegL.pure (p := (pEq (.int .i64 x6.1))) rfl rfl rfl (J_assign rfl (Opd.tmp rfl)) ?_
  refine RegL.nil ?_
  refine Ct.then_tr ?_
  refine Tr.weak (Γ' := [(4, (pEq (.int .i64 x6.1)))]) ⟨rfl, trivial⟩ ?_
  refine Tr.ret ?_
  refine Ct.re (Ω2 := [oSS 25 2 1 (cK .i64) ho0_0 hn0_0 hc0_0 hh0_0 x4.2, oSS 25 2 1 (cK .i64) ho0_1 hn0_1 hc0_1 hh0_1 x6.2, oBlk b3 [(pEq (.slice ho0_0 hn0_0 hc0_0)), (pEq (.slice ho0_1 hn0_1 hc0_1))]]) (fun h => SatO.pick 1 h) ?_
  refine Ct.re (Ω2 := [oBlk b3 [(pEq (.slice ho0_0 hn0_0 hc0_0)), (pEq (.slice ho0_1 hn0_1 hc0_1))], oSS 25 2 1 (cK .i64) ho0_0 hn0_0 hc0_0 hh0_0 x4.2, oSS 25 2 1 (cK .i64) ho0_1 hn0_1 hc0_1 hh0_1 x6.2]) (fun h => SatO.pick 2 h) ?_
  replace h := Option.some.inj h; subst h
  exact Ct.retH1 (Ωx := [oBlk b3 [(pEq (.slice ho0_0 hn0_0 hc0_0)), (pEq (.slice ho0_1 hn0_1 hc0_1))]]) () rfl (RvOk.tmp rfl) rfl

theorem c_laws_heldInt64S {a_0 : (List Int)} {k_1 : Int} {r : Int} (h : m_laws_heldInt64S a_0 k_1 = some r) : CallJ Try.prog 21 [(pSl 1 (cK .i64) a_0), (pEq (.int .i64 k_1))] (pEq (.int .i64 r)) := by
  unfold m_laws_heldInt64S at h
  refine CallJ.enterH Try.func21 rfl Try.ntmps21 rfl fun W I0 H => ?_
  refine Tr.weak (Γ' := [(0, (pSl 1 (cK .i64) a_0)), (1, (pEq (.int .i64 k_1)))]) ⟨rfl, rfl, trivial⟩ ?_
  refine Tr.seq ?_
  refine Tr.region ?_
  refine RegL.pure (p := (pEq (.int .i64 (0 : Int)))) rfl rfl rfl (J_assign rfl Opd.con) ?_
  refine RegL.nil ?_
  refine Ct.then_tr ?_
  refine Tr.weak (Γ' := [(0, (pSl 1 (cK .i64) a_0)), (1, (pEq (.int .i64 k_1)))]) ⟨rfl, rfl, trivial⟩ ?_
  refine Tr.seq ?_
  refine Tr.seq ?_
  refine Tr.region ?_
  refine RegL.pure (p := (pEq (.int .i64 (0 : Int)))) rfl rfl rfl (J_assign rfl Opd.con) ?_
  refine RegL.nil ?_
  refine Ct.then_tr ?_
  refine Tr.weak (Γ' := [(0, (pSl 1 (cK .i64) a_0)), (1, (pEq (.int .i64 k_1))), (5, (pEq (.int .i64 (0 : Int))))]) ⟨rfl, rfl, rfl, trivial⟩ ?_
  refine Tr.block ?_
  refine Tr.weak (Γ' := [(0, (pSl 1 (cK .i64) a_0)), (1, (pEq (.int .i64 k_1))), (5, (pEq (.int .i64 (0 : Int))))]) ⟨rfl, rfl, rfl, trivial⟩ ?_
  refine Tr.loop (γ := Unit) (σ := (Int × Int)) (Γσ := fun s g => [(0, (pSl 1 (cK .i64) a_0)), (1, (pEq (.int .i64 s.1))), (5, (pEq (.int .i64 s.2)))]) (Ωσ := fun s g => []) (g := ()) h ?_
  clear h
  rintro ⟨v2, v3⟩ g4 t h
  replace h : m_laws_heldInt64S_B1 a_0 v2 v3 = some t := h
  unfold m_laws_heldInt64S_B1 at h
  refine Tr.weakO (Γ' := [(0, (pSl 1 (cK .i64) a_0)), (1, (pEq (.int .i64 v2))), (5, (pEq (.int .i64 v3)))]) (Ω' := []) rfl ⟨rfl, rfl, rfl, trivial⟩ ?_
  refine Tr.seq ?_
  refine Tr.seq ?_
  refine Tr.region ?_
  refine RegL.pure (p := (pEq (.int .i64 v3))) rfl rfl rfl (J_move rfl (Opd.tmp rfl)) ?_
  refine RegL.pure (p := (pSl 1 (cK .i64) a_0)) rfl rfl rfl (J_move rfl (Opd.tmp rfl)) ?_
  refine RegL.pure (p := (pEq (.int .i64 (a_0.length : Int)))) rfl rfl rfl (J_len rfl Try.underlying25 (Opd.tmp rfl) rfl) ?_
  refine RegL.pure (p := (pEq (.bool (decide (v3 < (a_0.length : Int)))))) rfl rfl rfl (J_bin rfl (Opd.tmp rfl) (Opd.tmp rfl) B_lss) ?_
  refine RegL.nil ?_
  refine Ct.then_tr ?_
  refine Tr.weak (Γ' := [(0, (pSl 1 (cK .i64) a_0)), (1, (pEq (.int .i64 v2))), (5, (pEq (.int .i64 v3))), (9, (pEq (.bool (decide (v3 < (a_0.length : Int))))))]) ⟨rfl, rfl, rfl, rfl, trivial⟩ ?_
  refine Tr.cond (Opd.tmp rfl) (fun hc => ?_) (fun hc => ?_)
  · replace h := bif_t hc h
    refine Tr.skip ?_
    refine Ct.then_tr ?_
    refine Tr.weak (Γ' := [(0, (pSl 1 (cK .i64) a_0)), (1, (pEq (.int .i64 v2))), (5, (pEq (.int .i64 v3)))]) ⟨rfl, rfl, rfl, trivial⟩ ?_
    refine Tr.seq ?_
    refine Tr.block ?_
    refine Tr.seq ?_
    refine Tr.seq ?_
    refine Tr.region ?_
    refine RegL.pure (p := (pSl 1 (cK .i64) a_0)) rfl rfl rfl (J_move rfl (Opd.tmp rfl)) ?_
    refine RegL.pure (p := (pEq (.int .i64 v3))) rfl rfl rfl (J_move rfl (Opd.tmp rfl)) ?_
    replace h := bind_some h; obtain ⟨x5, hx5, h⟩ := h
    refine RegL.pure (p := (pPtr ((cK .i64) x5))) rfl rfl rfl (J_idx rfl Try.underlying25 sz2 (Opd.tmp rfl) (Opd.tmp rfl) hx5) ?_
    refine RegL.pure (p := (pEq (.int .i64 x5))) rfl rfl rfl (J_load rfl Try.isAgg2 (Opd.tmp rfl)) ?_
    refine RegL.pure (p := (pEq (.int .i64 v2))) rfl rfl rfl (J_move rfl (Opd.tmp rfl)) ?_
    refine RegL.pure (p := (pEq (.bool (x5 != v2)))) rfl rfl rfl (J_bin rfl (Opd.tmp rfl) (Opd.tmp rfl) B_neq) ?_
    refine RegL.nil ?_
    refine Ct.then_tr ?_
    refine Tr.weak (Γ' := [(0, (pSl 1 (cK .i64) a_0)), (1, (pEq (.int .i64 v2))), (5, (pEq (.int .i64 v3))), (17, (pEq (.bool (x5 != v2))))]) ⟨rfl, rfl, rfl, rfl, trivial⟩ ?_
    refine Tr.cond (Opd.tmp rfl) (fun hc => ?_) (fun hc => ?_)
    · replace h := bif_t hc h
      refine Tr.seq ?_
      refine Tr.region ?_
      refine RegL.pure (p := (pEq (.int .i64 (-1 : Int)))) rfl rfl rfl (J_assign rfl Opd.con) ?_
      refine RegL.nil ?_
      refine Ct.then_tr ?_
      refine Tr.weak (Γ' := [(4, (pEq (.int .i64 (-1 : Int))))]) ⟨rfl, trivial⟩ ?_
      refine Tr.ret ?_
      refine Ct.then_ret ?_
      refine Ct.blk_ret ?_
      refine Ct.then_ret ?_
      replace h := map_some h; obtain ⟨r1, h, rfl⟩ := h
      refine Ct.out_ret fun e => ?_
      subst e
      refine Ct.blk_ret ?_
      refine Ct.then_ret ?_
      replace h := Option.some.inj h; subst h
      exact Ct.retH1 (Ωx := []) () rfl (RvOk.tmp rfl) rfl
    · replace h := bif_f hc h
      refine Tr.skip ?_
      refine Ct.then_tr ?_
      refine Tr.weak (Γ' := [(0, (pSl 1 (cK .i64) a_0)), (1, (pEq (.int .i64 v2))), (5, (pEq (.int .i64 v3)))]) ⟨rfl, rfl, rfl, trivial⟩ ?_
      refine Tr.region ?_
      refine RegL.pure (p := (pEq (.int .i64 v2))) rfl rfl rfl (J_move rfl (Opd.tmp rfl)) ?_
      refine RegL.pure (p := (pEq (.int .i64 (w64 (v2 + (1 : Int)))))) rfl rfl rfl (J_bin rfl (Opd.tmp rfl) Opd.con B_add) ?_
      refine RegL.pure (p := (pEq (.int .i64 (w64 (v2 + (1 : Int)))))) rfl rfl rfl (J_assign rfl (Opd.tmp rfl)) ?_
      refine RegL.nil ?_
      refine Ct.blk_normal ?_
      refine Ct.then_tr ?_
      refine Tr.weak (Γ' := [(0, (pSl 1 (cK .i64) a_0)), (1, (pEq (.int .i64 (w64 (v2 + (1 : Int)))))), (5, (pEq (.int .i64 v3)))]) ⟨rfl, rfl, rfl, trivial⟩ ?_
      refine Tr.region ?_
      refine RegL.pure (p := (pEq (.int .i64 v3))) rfl rfl rfl (J_move rfl (Opd.tmp rfl)) ?_
      refine RegL.pure (p := (pEq (.int .i64 (w64 (v3 + (1 : Int)))))) rfl rfl rfl (J_bin rfl (Opd.tmp rfl) Opd.con B_add) ?_
      refine RegL.pure (p := (pEq (.int .i64 (w64 (v3 + (1 : Int)))))) rfl rfl rfl (J_assign rfl (Opd.tmp rfl)) ?_
      refine RegL.nil ?_
      replace h := Option.some.inj h; subst h
      exact Ct.again () rfl ⟨rfl, rfl, rfl, trivial⟩
  · replace h := bif_f hc h
    refine Tr.exit ?_
    refine Ct.then_exit ?_
    replace h := map_some h; obtain ⟨r1, h, rfl⟩ := h
    refine Ct.out_exit fun e => ?_
    subst e
    refine Ct.blk_exit ?_
    refine Ct.then_tr ?_
    refine Tr.weak (Γ' := [(1, (pEq (.int .i64 v2)))]) ⟨rfl, trivial⟩ ?_
    refine Tr.seq ?_
    refine Tr.region ?_
    refine RegL.pure (p := (pEq (.int .i64 v2))) rfl rfl rfl (J_move rfl (Opd.tmp rfl)) ?_
    refine RegL.pure (p := (pEq (.int .i64 v2))) rfl rfl rfl (J_assign rfl (Opd.tmp rfl)) ?_
    refine RegL.nil ?_
    refine Ct.then_tr ?_
    refine Tr.weak (Γ' := [(4, (pEq (.int .i64 v2)))]) ⟨rfl, trivial⟩ ?_
    refine Tr.ret ?_
    replace h := Option.some.inj h; subst h
    exact Ct.retH1 (Ωx := []) () rfl (RvOk.tmp rfl) rfl

theorem c_laws_FnExactLeastSpan {a_0 : GProblem} {a_1 : Int} {r : Bool} (h : m_laws_FnExactLeastSpan a_0 a_1 = some r) : CallJ Try.prog 11 [(pAgg (cGProblem a_0)), (pEq (.int .i64 a_1))] (pEq (.bool r)) := by
  unfold m_laws_FnExactLeastSpan at h
  refine CallJ.enterH Try.func11 rfl Try.ntmps11 rfl fun W I0 H => ?_
  refine Tr.weak (Γ' := [(0, (pAgg (cGProblem a_0))), (1, (pEq (.int .i64 a_1)))]) ⟨rfl, rfl, trivial⟩ ?_
  refine Tr.seq ?_
  refine Tr.region ?_
  refine RegL.pure (p := (pPtr (cGProblem a_0))) rfl rfl rfl (J_boxA rfl (Opd.tmp rfl)) ?_
  refine RegL.pure (p := (pEq (.bool false))) rfl rfl rfl (J_assign rfl Opd.con) ?_
  refine RegL.nil ?_
  refine Ct.then_tr ?_
  refine Tr.weak (Γ' := [(1, (pEq (.int .i64 a_1))), (2, (pPtr (cGProblem a_0)))]) ⟨rfl, rfl, trivial⟩ ?_
  refine Tr.seq ?_
  refine Tr.region ?_
  refine RegL.pure (p := (pEq (.int .i64 (1048576 : Int)))) rfl rfl rfl (J_assign rfl Opd.con) ?_
  refine RegL.nil ?_
  refine Ct.then_tr ?_
  refine Tr.weak (Γ' := [(1, (pEq (.int .i64 a_1))), (2, (pPtr (cGProblem a_0))), (5, (pEq (.int .i64 (1048576 : Int))))]) ⟨rfl, rfl, rfl, trivial⟩ ?_
  refine Tr.seq ?_
  refine Tr.region ?_
  refine RegL.pure (p := (pAgg (cGProblem a_0))) rfl rfl rfl (J_loadA rfl Try.isAgg24 sz24 (Opd.tmp rfl) rfl) ?_
  refine RegL.pure (p := (pEq (.int .i64 (1048576 : Int)))) rfl rfl rfl (J_move rfl (Opd.tmp rfl)) ?_
  replace h := bind_some h; obtain ⟨x1, hx1, h⟩ := h
  refine RegL.pure (p := (pEq (.int .i64 x1))) rfl rfl rfl (J_call rfl Try.call12 (c_laws_szProblem hx1) (Opds.cons (Opd.tmp rfl) (Opds.cons (Opd.tmp rfl) Opds.nil))) ?_
  refine RegL.pure (p := (pEq (.int .i64 x1))) rfl rfl rfl (J_assign rfl (Opd.tmp rfl)) ?_
  refine RegL.nil ?_
  refine Ct.then_tr ?_
  refine Tr.weak (Γ' := [(1, (pEq (.int .i64 a_1))), (2, (pPtr (cGProblem a_0))), (5, (pEq (.int .i64 x1)))]) ⟨rfl, rfl, rfl, trivial⟩ ?_
  refine Tr.seq ?_
  refine Tr.seq ?_
  refine Tr.region ?_
  refine RegL.pure (p := (pEq (.int .i64 x1))) rfl rfl rfl (J_move rfl (Opd.tmp rfl)) ?_
  refine RegL.pure (p := (pEq (.bool (decide (x1 < (0 : Int)))))) rfl rfl rfl (J_bin rfl (Opd.tmp rfl) Opd.con B_lss) ?_
  refine RegL.nil ?_
  refine Ct.then_tr ?_
  refine Tr.weak (Γ' := [(1, (pEq (.int .i64 a_1))), (2, (pPtr (cGProblem a_0))), (20, (pEq (.bool (decide (x1 < (0 : Int))))))]) ⟨rfl, rfl, rfl, trivial⟩ ?_
  refine Tr.cond (Opd.tmp rfl) (fun hc => ?_) (fun hc => ?_)
  · replace h := bif_t hc h
    refine Tr.seq ?_
    refine Tr.region ?_
    refine RegL.pure (p := (pEq (.bool true))) rfl rfl rfl (J_assign rfl Opd.con) ?_
    refine RegL.nil ?_
    refine Ct.then_tr ?_
    refine Tr.weak (Γ' := [(4, (pEq (.bool true)))]) ⟨rfl, trivial⟩ ?_
    refine Tr.ret ?_
    refine Ct.then_ret ?_
    replace h := Option.some.inj h; subst h
    exact Ct.retH1 (Ωx := []) () rfl (RvOk.tmp rfl) rfl
  · replace h := bif_f hc h
    refine Tr.skip ?_
    refine Ct.then_tr ?_
    refine Tr.weak (Γ' := [(1, (pEq (.int .i64 a_1))), (2, (pPtr (cGProblem a_0)))]) ⟨rfl, rfl, trivial⟩ ?_
    refine Tr.seq ?_
    refine Tr.region ?_
    refine RegL.pure (p := (pAgg (cGProblem a_0))) rfl rfl rfl (J_loadA rfl Try.isAgg24 sz24 (Opd.tmp rfl) rfl) ?_
    replace h := bind_some h; obtain ⟨x2, hx2, h⟩ := h
    refine RegL.pure (p := (pAgg (cGProblem x2))) rfl rfl rfl (J_call rfl Try.call14 (c_laws_toProblem hx2) (Opds.cons (Opd.tmp rfl) Opds.nil)) ?_
    refine RegL.pure (p := (pEq (.int .i64 a_1))) rfl rfl rfl (J_move rfl (Opd.tmp rfl)) ?_
    replace h := bind_some h; obtain ⟨x3, hx3, h⟩ := h
    refine RegL.pure (p := (pTup [(pSl 1 (cK .i64) x3.1), (pEq (.int .i64 x3.2))])) rfl rfl rfl (J_call rfl Try.call36 (c_spec_LeastSpan hx3) (Opds.cons (Opd.tmp rfl) (Opds.cons (Opd.tmp rfl) Opds.nil))) ?_
    refine RegL.pure (p := (pTup [(pSl 1 (cK .i64) x3.1), (pEq (.int .i64 x3.2))])) rfl rfl rfl (J_move rfl (Opd.tmp rfl)) ?_
    refine RegL.pure (p := (pSl 1 (cK .i64) x3.1)) rfl rfl rfl (J_extract rfl (Opd.tmp rfl) rfl) ?_
    refine RegL.pure (p := (pEq (.int .i64 x3.2))) rfl rfl rfl (J_extract rfl (Opd.tmp rfl) rfl) ?_
    refine RegL.pure (p := (pSl 1 (cK .i64) x3.1)) rfl rfl rfl (J_assign rfl (Opd.tmp rfl)) ?_
    refine RegL.pure (p := (pEq (.int .i64 x3.2))) rfl rfl rfl (J_assign rfl (Opd.tmp rfl)) ?_
    refine RegL.nil ?_
    refine Ct.then_tr ?_
    refine Tr.weak (Γ' := [(1, (pEq (.int .i64 a_1))), (2, (pPtr (cGProblem a_0))), (6, (pSl 1 (cK .i64) x3.1)), (7, (pEq (.int .i64 x3.2)))]) ⟨rfl, rfl, rfl, rfl, trivial⟩ ?_
    refine Tr.seq ?_
    refine Tr.region ?_
    refine RegL.pure (p := (pAgg (cGProblem a_0))) rfl rfl rfl (J_loadA rfl Try.isAgg24 sz24 (Opd.tmp rfl) rfl) ?_
    replace h := bind_some h; obtain ⟨x4, hx4, h⟩ := h
    refine RegL.step (γ := ((G3 × List G3) × (G3 × List G3))) (p := fun g => (pAgg [(pEq (.slice g.1.1.1 g.1.1.2.1 g.1.1.2.2)), (pEq (.slice g.2.1.1 g.2.1.2.1 g.2.1.2.2))])) (Ω' := fun g => [oSS 25 2 1 (cK .i64) g.1.1.1 g.1.1.2.1 g.1.1.2.2 g.1.2 x4.Domains, oSS 25 2 1 (cK .i64) g.2.1.1 g.2.1.2.1 g.2.1.2.2 g.2.2 x4.Apart]) rfl rfl rfl (M_callH (Ωi := []) rfl Try.call14 (o_laws_toProblem hx4) (Opds.cons (Opd.tmp rfl) Opds.nil)) fun g5 => ?_
    refine RegL.step (γ := Nat) (p := fun b => pEq (.pointer (some ⟨b, 0, none⟩))) (Ω' := fun b => [oBlk b [(pEq (.slice none 0 0)), (pEq (.slice none 0 0))], oSS 25 2 1 (cK .i64) g5.1.1.1 g5.1.1.2.1 g5.1.1.2.2 g5.1.2 x4.Domains, oSS 25 2 1 (cK .i64) g5.2.1.1 g5.2.1.2.1 g5.2.1.2.2 g5.2.2 x4.Apart]) rfl rfl rfl (M_alloc rfl zero29) fun b8 => ?_
    refine RegL.stepN (γ := Unit) (p := fun _ => pAny) (Ω' := fun _ => [oBlk b8 [(pEq (.slice g5.1.1.1 g5.1.1.2.1 g5.1.1.2.2)), (pEq (.slice g5.2.1.1 g5.2.1.2.1 g5.2.1.2.2))], oSS 25 2 1 (cK .i64) g5.1.1.1 g5.1.1.2.1 g5.1.1.2.2 g5.1.2 x4.Domains, oSS 25 2 1 (cK .i64) g5.2.1.1 g5.2.1.2.1 g5.2.1.2.2 g5.2.2 x4.Apart]) rfl rfl (M_storeA rfl sz29 (Opd.tmp rfl) (Opd.tmp rfl) (fun _ _ _ h => ones_of ((OneCs.cons OneC.slice (OneCs.cons OneC.slice OneCs.nil))) h) rfl rfl) fun g9 => ?_
    refine RegL.nil ?_
    refine Ct.then_tr ?_
    refine Tr.weak (Γ' := [(1, (pEq (.int .i64 a_1))), (2, (pPtr (cGProblem a_0))), (6, (pSl 1 (cK .i64) x3.1)), (7, (pEq (.int .i64 x3.2))), (8, (pEq (.pointer (some ⟨b8, 0, none⟩))))]) ⟨rfl, rfl, rfl, rfl, rfl, trivial⟩ ?_
    refine Tr.seq ?_
    refine Tr.region ?_
    refine RegL.pureW (p := (pAgg [(pEq (.slice g5.1.1.1 g5.1.1.2.1 g5.1.1.2.2)), (pEq (.slice g5.2.1.1 g5.2.1.2.1 g5.2.1.2.2))])) rfl rfl rfl (W_loadA (i := 0) rfl Try.isAgg29 sz29 (Opd.tmp rfl) rfl rfl) ?_
    refine RegL.pure (p := (pEq (.int .i64 a_1))) rfl rfl rfl (J_move rfl (Opd.tmp rfl)) ?_
    replace h := bind_some h; obtain ⟨x10, hx10, h⟩ := h
    refine RegL.step (γ := G3) (p := fun g => (pTup [(pEq (.slice g.1 g.2.1 g.2.2)), (pEq (.int .i64 x10.2))])) (Ω' := fun g => [oSl 2 1 (cK .i64) g.1 g.2.1 g.2.2 x10.1, oBlk b8 [(pEq (.slice g5.1.1.1 g5.1.1.2.1 g5.1.1.2.2)), (pEq (.slice g5.2.1.1 g5.2.1.2.1 g5.2.1.2.2))], oSS 25 2 1 (cK .i64) g5.1.1.1 g5.1.1.2.1 g5.1.1.2.2 g5.1.2 x4.Domains, oSS 25 2 1 (cK .i64) g5.2.1.1 g5.2.1.2.1 g5.2.1.2.2 g5.2.2 x4.Apart]) rfl rfl rfl (M_callHB (Ωi := []) rfl Try.call37 (o_impl_LeastSpan hx10) (OpdsA.cons (OpdA.conv rfl (Conv.agg (Convs.cons (Conv.nest 1 (fun _ => rfl) rfl) (Convs.cons (Conv.nest 2 (fun _ => rfl) rfl) Convs.nil)))) (OpdsA.cons (OpdA.of (Opd.tmp rfl)) OpdsA.nil)) (fun _ => (FreeP.tup ⟨FreeP.eq, ⟨FreeP.eq, trivial⟩⟩)) (fun _ => ⟨(FreeO.sl (fun _ => ⟨FreeP.eq, trivial⟩)), trivial⟩)) fun g11 => ?_
    refine RegL.pure (p := (pTup [(pEq (.slice g11.1 g11.2.1 g11.2.2)), (pEq (.int .i64 x10.2))])) rfl rfl rfl (J_move rfl (Opd.tmp rfl)) ?_
    refine RegL.pure (p := (pEq (.slice g11.1 g11.2.1 g11.2.2))) rfl rfl rfl (J_extract rfl (Opd.tmp rfl) rfl) ?_
    refine RegL.pure (p := (pEq (.int .i64 x10.2))) rfl rfl rfl (J_extract rfl (Opd.tmp rfl) rfl) ?_
    refine RegL.pure (p := (pEq (.slice g11.1 g11.2.1 g11.2.2))) rfl rfl rfl (J_assign rfl (Opd.tmp rfl)) ?_
    refine RegL.pure (p := (pEq (.int .i64 x10.2))) rfl rfl rfl (J_assign rfl (Opd.tmp rfl)) ?_
    refine RegL.nil ?_
    refine Ct.then_tr ?_
    refine Tr.weak (Γ' := [(1, (pEq (.int .i64 a_1))), (2, (pPtr (cGProblem a_0))), (6, (pSl 1 (cK .i64) x3.1)), (7, (pEq (.int .i64 x3.2))), (8, (pEq (.pointer (some ⟨b8, 0, none⟩)))), (9, (pEq (.slice g11.1 g11.2.1 g11.2.2))), (10, (pEq (.int .i64 x10.2)))]) ⟨rfl, rfl, rfl, rfl, rfl, rfl, rfl, trivial⟩ ?_
    refine Tr.seq ?_
    refine Tr.seq ?_
    replace h := bind_some h; obtain ⟨x13, hx13, h⟩ := h
    refine Tr.cut (γ := Unit) (Γm := fun g => [(1, (pEq (.int .i64 a_1))), (2, (pPtr (cGProblem a_0))), (6, (pSl 1 (cK .i64) x3.1)), (7, (pEq (.int .i64 x3.2))), (8, (pEq (.pointer (some ⟨b8, 0, none⟩)))), (9, (pEq (.slice g11.1 g11.2.1 g11.2.2))), (10, (pEq (.int .i64 x10.2))), (44, (pEq (.bool x13)))]) (Ωm := fun g => [oSl 2 1 (cK .i64) g11.1 g11.2.1 g11.2.2 x10.1, oBlk b8 [(pEq (.slice g5.1.1.1 g5.1.1.2.1 g5.1.1.2.2)), (pEq (.slice g5.2.1.1 g5.2.1.2.1 g5.2.1.2.2))], oSS 25 2 1 (cK .i64) g5.1.1.1 g5.1.1.2.1 g5.1.1.2.2 g5.1.2 x4.Domains, oSS 25 2 1 (cK .i64) g5.2.1.1 g5.2.1.2.1 g5.2.1.2.2 g5.2.2 x4.Apart]) ?_ (fun g16 => ?_)
    · clear h
      have h := hx13
      clear hx13
      refine Tr.region ?_
      refine RegL.pure (p := (pEq (.slice g11.1 g11.2.1 g11.2.2))) rfl rfl rfl (J_move rfl (Opd.tmp rfl)) ?_
      refine RegL.pure (p := (pSl 1 (cK .i64) x3.1)) rfl rfl rfl (J_move rfl (Opd.tmp rfl)) ?_
      replace h := bind_some h; obtain ⟨x14, hx14, h⟩ := h
      refine RegL.pureW (p := (pEq (.bool x14))) rfl rfl rfl (W_call rfl Try.call17 (c_laws_eqInt64S hx14) (OpdsA.cons (OpdA.conv rfl (Conv.row (f := (cK .i64)) 0 (fun _ => rfl) rfl)) (OpdsA.cons (OpdA.of (Opd.tmp rfl)) OpdsA.nil)) FreeP.eq) ?_
      refine RegL.pure (p := (pEq (.bool (!x14)))) rfl rfl rfl (J_not rfl (Opd.tmp rfl)) ?_
      refine RegL.pure (p := (pEq (.bool (!x14)))) rfl rfl rfl (J_move rfl (Opd.tmp rfl)) ?_
      rcases Bool.eq_false_or_eq_true (!x14) with hc15 | hc15
      · replace h := bif_t hc15 h
        refine RegL.skipG rfl rfl rfl hc15 rfl rfl ?_
        refine RegL.skipG rfl rfl rfl hc15 rfl rfl ?_
        refine RegL.skipG rfl rfl rfl hc15 rfl rfl ?_
        refine RegL.pure (p := (pEq (.bool true))) rfl rfl rfl (J_pick rfl (Opd.tmp rfl) (fun _ => Opd.con) (fun hf => absurd (hc15.symm.trans hf) (by decide))) ?_
        refine RegL.nil ?_
        replace h := Option.some.inj h; subst h
        exact Ct.mid () rfl ⟨rfl, rfl, rfl, rfl, rfl, rfl, rfl, rfl, trivial⟩
      · replace h := bif_f hc15 h
        refine RegL.pureG (p := (pEq (.int .i64 x10.2))) rfl rfl rfl hc15 rfl rfl (J_move rfl (Opd.tmp rfl)) ?_
        refine RegL.pureG (p := (pEq (.int .i64 x3.2))) rfl rfl rfl hc15 rfl rfl (J_move rfl (Opd.tmp rfl)) ?_
        refine RegL.pureG (p := (pEq (.bool (x10.2 != x3.2)))) rfl rfl rfl hc15 rfl rfl (J_bin rfl (Opd.tmp rfl) (Opd.tmp rfl) B_neq) ?_
        refine RegL.pure (p := (pEq (.bool (x10.2 != x3.2)))) rfl rfl rfl (J_pick rfl (Opd.tmp rfl) (fun hf => absurd (hc15.symm.trans hf) (by decide)) (fun _ => (Opd.tmp rfl))) ?_
        refine RegL.nil ?_
        replace h := Option.some.inj h; subst h
        exact Ct.mid () rfl ⟨rfl, rfl, rfl, rfl, rfl, rfl, rfl, rfl, trivial⟩
    · clear hx13
      refine Ct.then_tr ?_
      refine Tr.weak (Γ' := [(1, (pEq (.int .i64 a_1))), (2, (pPtr (cGProblem a_0))), (6, (pSl 1 (cK .i64) x3.1)), (7, (pEq (.int .i64 x3.2))), (8, (pEq (.pointer (some ⟨b8, 0, none⟩)))), (9, (pEq (.slice g11.1 g11.2.1 g11.2.2))), (10, (pEq (.int .i64 x10.2))), (44, (pEq (.bool x13)))]) ⟨rfl, rfl, rfl, rfl, rfl, rfl, rfl, rfl, trivial⟩ ?_
      refine Tr.cond (Opd.tmp rfl) (fun hc => ?_) (fun hc => ?_)
      · replace h := bif_t hc h
        refine Tr.seq ?_
        refine Tr.region ?_
        refine RegL.pure (p := (pEq (.bool false))) rfl rfl rfl (J_assign rfl Opd.con) ?_
        refine RegL.nil ?_
        refine Ct.then_tr ?_
        refine Tr.weak (Γ' := [(4, (pEq (.bool false)))]) ⟨rfl, trivial⟩ ?_
        refine Tr.ret ?_
        refine Ct.then_ret ?_
        replace h := Option.some.inj h; subst h
        exact Ct.retH1 (Ωx := [oSl 2 1 (cK .i64) g11.1 g11.2.1 g11.2.2 x10.1, oBlk b8 [(pEq (.slice g5.1.1.1 g5.1.1.2.1 g5.1.1.2.2)), (pEq (.slice g5.2.1.1 g5.2.1.2.1 g5.2.1.2.2))], oSS 25 2 1 (cK .i64) g5.1.1.1 g5.1.1.2.1 g5.1.1.2.2 g5.1.2 x4.Domains, oSS 25 2 1 (cK .i64) g5.2.1.1 g5.2.1.2.1 g5.2.1.2.2 g5.2.2 x4.Apart]) () rfl (RvOk.tmp rfl) rfl
      · replace h := bif_f hc h
        refine Tr.skip ?_
        refine Ct.then_tr ?_
        refine Tr.weak (Γ' := [(1, (pEq (.int .i64 a_1))), (2, (pPtr (cGProblem a_0))), (6, (pSl 1 (cK .i64) x3.1)), (7, (pEq (.int .i64 x3.2))), (8, (pEq (.pointer (some ⟨b8, 0, none⟩)))), (9, (pEq (.slice g11.1 g11.2.1 g11.2.2))), (10, (pEq (.int .i64 x10.2)))]) ⟨rfl, rfl, rfl, rfl, rfl, rfl, rfl, trivial⟩ ?_
        refine Tr.seq ?_
        refine Tr.seq ?_
        replace h := bind_some h; obtain ⟨x17, hx17, h⟩ := h
        replace h := bind_some h; obtain ⟨x18, hx18, h⟩ := h
        refine Tr.drawD (n := 101) (m := 5) (es := [some (Ent.mk [(8, (pEq (.pointer (some ⟨b8, 0, none⟩))))] (pAgg [(pEq (.slice g5.1.1.1 g5.1.1.2.1 g5.1.1.2.2)), (pEq (.slice g5.2.1.1 g5.2.1.2.1 g5.2.1.2.2))]) true), some (Ent.mk [(2, (pPtr (cGProblem a_0)))] (pAgg (cGProblem a_0)) true), some (Ent.mk [(46, (pAgg (cGProblem a_0)))] (pAgg (cGProblem x17)) true), some (Ent.mk [(45, (pAgg [(pEq (.slice g5.1.1.1 g5.1.1.2.1 g5.1.1.2.2)), (pEq (.slice g5.2.1.1 g5.2.1.2.1 g5.2.1.2.2))])), (47, (pAgg (cGProblem x17)))] (pEq (.bool x18)) true), some (Ent.mk [(48, (pEq (.bool x18)))] (pEq (.bool (!x18))) true)]) (rd := [[8], [2], [46], [45, 47], [48]]) rfl hmix (by kernel_rfl) fun hD => ?_
        refine RD.fin (es := [Ent.mk [(8, (pEq (.pointer (some ⟨b8, 0, none⟩))))] (pAgg [(pEq (.slice g5.1.1.1 g5.1.1.2.1 g5.1.1.2.2)), (pEq (.slice g5.2.1.1 g5.2.1.2.1 g5.2.1.2.2))]) true, Ent.mk [(2, (pPtr (cGProblem a_0)))] (pAgg (cGProblem a_0)) true, Ent.mk [(46, (pAgg (cGProblem a_0)))] (pAgg (cGProblem x17)) true, Ent.mk [(45, (pAgg [(pEq (.slice g5.1.1.1 g5.1.1.2.1 g5.1.1.2.2)), (pEq (.slice g5.2.1.1 g5.2.1.2.1 g5.2.1.2.2))])), (47, (pAgg (cGProblem x17)))] (pEq (.bool x18)) true, Ent.mk [(48, (pEq (.bool x18)))] (pEq (.bool (!x18))) true]) (done := []) hD ⟨.inr ⟨(W_loadA (i := 1) rfl Try.isAgg29 sz29 (Opd.tmp rfl) rfl rfl), ⟨rfl, trivial⟩, rfl, rfl⟩, ⟨.inr ⟨(OpJ.w (J_loadA rfl Try.isAgg24 sz24 (Opd.tmp rfl) rfl)), ⟨rfl, trivial⟩, rfl, rfl⟩, ⟨.inr ⟨(OpJ.w (J_call rfl Try.call14 (c_laws_toProblem hx17) (Opds.cons (Opd.tmp rfl) Opds.nil))), ⟨rfl, trivial⟩, rfl, rfl⟩, ⟨.inr ⟨(W_call rfl Try.call18 (c_laws_eqProblem hx18) (OpdsA.cons (OpdA.conv rfl (Conv.agg (Convs.cons (Conv.nest 2 (fun _ => rfl) rfl) (Convs.cons (Conv.nest 3 (fun _ => rfl) rfl) Convs.nil)))) (OpdsA.cons (OpdA.of (Opd.tmp rfl)) OpdsA.nil)) FreeP.eq), ⟨rfl, rfl, trivial⟩, rfl, rfl⟩, ⟨.inr ⟨(OpJ.w (J_not rfl (Opd.tmp rfl))), ⟨rfl, trivial⟩, rfl, rfl⟩, trivial⟩⟩⟩⟩⟩ ?_
        refine RegL.nil ?_
        refine Ct.then_tr ?_
        refine Tr.weak (Γ' := [(1, (pEq (.int .i64 a_1))), (2, (pPtr (cGProblem a_0))), (6, (pSl 1 (cK .i64) x3.1)), (7, (pEq (.int .i64 x3.2))), (8, (pEq (.pointer (some ⟨b8, 0, none⟩)))), (9, (pEq (.slice g11.1 g11.2.1 g11.2.2))), (10, (pEq (.int .i64 x10.2))), (49, (pEq (.bool (!x18))))]) ⟨rfl, rfl, rfl, rfl, rfl, rfl, rfl, rfl, trivial⟩ ?_
        refine Tr.cond (Opd.tmp rfl) (fun hc => ?_) (fun hc => ?_)
        · replace h := bif_t hc h
          refine Tr.seq ?_
          refine Tr.region ?_
          refine RegL.pure (p := (pEq (.bool false))) rfl rfl rfl (J_assign rfl Opd.con) ?_
          refine RegL.nil ?_
          refine Ct.then_tr ?_
          refine Tr.weak (Γ' := [(4, (pEq (.bool false)))]) ⟨rfl, trivial⟩ ?_
          refine Tr.ret ?_
          refine Ct.then_ret ?_
          replace h := Option.some.inj h; subst h
          exact Ct.retH1 (Ωx := [oSl 2 1 (cK .i64) g11.1 g11.2.1 g11.2.2 x10.1, oBlk b8 [(pEq (.slice g5.1.1.1 g5.1.1.2.1 g5.1.1.2.2)), (pEq (.slice g5.2.1.1 g5.2.1.2.1 g5.2.1.2.2))], oSS 25 2 1 (cK .i64) g5.1.1.1 g5.1.1.2.1 g5.1.1.2.2 g5.1.2 x4.Domains, oSS 25 2 1 (cK .i64) g5.2.1.1 g5.2.1.2.1 g5.2.1.2.2 g5.2.2 x4.Apart]) () rfl (RvOk.tmp rfl) rfl
        · replace h := bif_f hc h
          refine Tr.skip ?_
          refine Ct.then_tr ?_
          refine Tr.weak (Γ' := [(1, (pEq (.int .i64 a_1))), (2, (pPtr (cGProblem a_0))), (6, (pSl 1 (cK .i64) x3.1)), (7, (pEq (.int .i64 x3.2))), (8, (pEq (.pointer (some ⟨b8, 0, none⟩)))), (9, (pEq (.slice g11.1 g11.2.1 g11.2.2))), (10, (pEq (.int .i64 x10.2)))]) ⟨rfl, rfl, rfl, rfl, rfl, rfl, rfl, trivial⟩ ?_
          refine Tr.seq ?_
          refine Tr.region ?_
          refine RegL.pure (p := (pEq (.int .i64 (1 : Int)))) rfl rfl rfl (J_assign rfl Opd.con) ?_
          refine RegL.nil ?_
          refine Ct.then_tr ?_
          refine Tr.weak (Γ' := [(1, (pEq (.int .i64 a_1))), (2, (pPtr (cGProblem a_0))), (6, (pSl 1 (cK .i64) x3.1)), (7, (pEq (.int .i64 x3.2))), (8, (pEq (.pointer (some ⟨b8, 0, none⟩)))), (9, (pEq (.slice g11.1 g11.2.1 g11.2.2))), (10, (pEq (.int .i64 x10.2))), (11, (pEq (.int .i64 (1 : Int))))]) ⟨rfl, rfl, rfl, rfl, rfl, rfl, rfl, rfl, trivial⟩ ?_
          refine Tr.seq ?_
          refine Tr.region ?_
          refine RegL.pureW (p := (pAgg [(pEq (.slice g5.1.1.1 g5.1.1.2.1 g5.1.1.2.2)), (pEq (.slice g5.2.1.1 g5.2.1.2.1 g5.2.1.2.2))])) rfl rfl rfl (W_loadA (i := 1) rfl Try.isAgg29 sz29 (Opd.tmp rfl) rfl rfl) ?_
          refine RegL.pure (p := (pEq (.int .i64 (1 : Int)))) rfl rfl rfl (J_move rfl (Opd.tmp rfl)) ?_
          replace h := bind_some h; obtain ⟨x19, hx19, h⟩ := h
          refine RegL.re (Ω2 := [oSS 25 2 1 (cK .i64) g5.2.1.1 g5.2.1.2.1 g5.2.1.2.2 g5.2.2 x4.Apart, oSl 2 1 (cK .i64) g11.1 g11.2.1 g11.2.2 x10.1, oBlk b8 [(pEq (.slice g5.1.1.1 g5.1.1.2.1 g5.1.1.2.2)), (pEq (.slice g5.2.1.1 g5.2.1.2.1 g5.2.1.2.2))], oSS 25 2 1 (cK .i64) g5.1.1.1 g5.1.1.2.1 g5.1.1.2.2 g5.1.2 x4.Domains]) (fun h => SatO.pick 3 h) ?_
          refine RegL.re (Ω2 := [oSS 25 2 1 (cK .i64) g5.1.1.1 g5.1.1.2.1 g5.1.1.2.2 g5.1.2 x4.Domains, oSS 25 2 1 (cK .i64) g5.2.1.1 g5.2.1.2.1 g5.2.1.2.2 g5.2.2 x4.Apart, oSl 2 1 (cK .i64) g11.1 g11.2.1 g11.2.2 x10.1, oBlk b8 [(pEq (.slice g5.1.1.1 g5.1.1.2.1 g5.1.1.2.2)), (pEq (.slice g5.2.1.1 g5.2.1.2.1 g5.2.1.2.2))]]) (fun h => SatO.pick 3 h) ?_
          refine RegL.step (γ := Unit) (p := fun g => (pEq (.int .i64 x19.1))) (Ω' := fun g => [oSS 25 2 1 (cK .i64) g5.1.1.1 g5.1.1.2.1 g5.1.1.2.2 g5.1.2 x19.2.1, oSS 25 2 1 (cK .i64) g5.2.1.1 g5.2.1.2.1 g5.2.1.2.2 g5.2.2 x19.2.2, oSl 2 1 (cK .i64) g11.1 g11.2.1 g11.2.2 x10.1, oBlk b8 [(pEq (.slice g5.1.1.1 g5.1.1.2.1 g5.1.1.2.2)), (pEq (.slice g5.2.1.1 g5.2.1.2.1 g5.2.1.2.2))]]) rfl rfl rfl (M_callH (Ωi := [oSS 25 2 1 (cK .i64) g5.1.1.1 g5.1.1.2.1 g5.1.1.2.2 g5.1.2 x4.Domains, oSS 25 2 1 (cK .i64) g5.2.1.1 g5.2.1.2.1 g5.2.1.2.2 g5.2.2 x4.Apart]) rfl Try.call19 (o_laws_markProblem hx19) (Opds.cons (Opd.tmp rfl) (Opds.cons (Opd.tmp rfl) Opds.nil))) fun g20 => ?_
          refine RegL.pure (p := (pEq (.int .i64 x19.1))) rfl rfl rfl (J_assign rfl (Opd.tmp rfl)) ?_
          refine RegL.nil ?_
          refine Ct.then_tr ?_
          refine Tr.weak (Γ' := [(1, (pEq (.int .i64 a_1))), (2, (pPtr (cGProblem a_0))), (6, (pSl 1 (cK .i64) x3.1)), (7, (pEq (.int .i64 x3.2))), (9, (pEq (.slice g11.1 g11.2.1 g11.2.2))), (10, (pEq (.int .i64 x10.2))), (11, (pEq (.int .i64 x19.1)))]) ⟨rfl, rfl, rfl, rfl, rfl, rfl, rfl, trivial⟩ ?_
          refine Tr.seq ?_
          refine Tr.seq ?_
          replace h := bind_some h; obtain ⟨x21, hx21, h⟩ := h
          refine Tr.cut (γ := Unit) (Γm := fun g => [(1, (pEq (.int .i64 a_1))), (2, (pPtr (cGProblem a_0))), (6, (pSl 1 (cK .i64) x3.1)), (7, (pEq (.int .i64 x3.2))), (9, (pEq (.slice g11.1 g11.2.1 g11.2.2))), (65, (pEq (.bool x21)))]) (Ωm := fun g => [oSl 2 1 (cK .i64) g11.1 g11.2.1 g11.2.2 x10.1]) ?_ (fun g25 => ?_)
          · clear h
            have h := hx21
            clear hx21
            refine Tr.region ?_
            refine RegL.pure (p := (pEq (.int .i64 x19.1))) rfl rfl rfl (J_move rfl (Opd.tmp rfl)) ?_
            refine RegL.pure (p := (pEq (.bool (decide (x19.1 < (0 : Int)))))) rfl rfl rfl (J_bin rfl (Opd.tmp rfl) Opd.con B_lss) ?_
            refine RegL.pure (p := (pEq (.bool (decide (x19.1 < (0 : Int)))))) rfl rfl rfl (J_move rfl (Opd.tmp rfl)) ?_
            rcases Bool.eq_false_or_eq_true (decide (x19.1 < (0 : Int))) with hc22 | hc22
            · replace h := bif_t hc22 h
              refine RegL.skipG rfl rfl rfl hc22 rfl rfl ?_
              refine RegL.skipG rfl rfl rfl hc22 rfl rfl ?_
              refine RegL.skipG rfl rfl rfl hc22 rfl rfl ?_
              refine RegL.skipG rfl rfl rfl hc22 rfl rfl ?_
              refine RegL.pure (p := (pEq (.bool true))) rfl rfl rfl (J_pick rfl (Opd.tmp rfl) (fun _ => Opd.con) (fun hf => absurd (hc22.symm.trans hf) (by decide))) ?_
              refine RegL.pure (p := (pEq (.bool true))) rfl rfl rfl (J_move rfl (Opd.tmp rfl)) ?_
              refine RegL.skipG rfl rfl rfl rfl rfl rfl ?_
              refine RegL.skipG rfl rfl rfl rfl rfl rfl ?_
              refine RegL.skipG rfl rfl rfl rfl rfl rfl ?_
              refine RegL.pure (p := (pEq (.bool true))) rfl rfl rfl (J_pick rfl (Opd.tmp rfl) (fun _ => Opd.con) (fun hf => absurd hf (by decide))) ?_
              refine RegL.nil ?_
              refine Ct.re (Ω2 := [oSS 25 2 1 (cK .i64) g5.2.1.1 g5.2.1.2.1 g5.2.1.2.2 g5.2.2 x19.2.2, oSl 2 1 (cK .i64) g11.1 g11.2.1 g11.2.2 x10.1, oBlk b8 [(pEq (.slice g5.1.1.1 g5.1.1.2.1 g5.1.1.2.2)), (pEq (.slice g5.2.1.1 g5.2.1.2.1 g5.2.1.2.2))]]) (fun h => SatO.rest h) ?_
              refine Ct.re (Ω2 := [oSl 2 1 (cK .i64) g11.1 g11.2.1 g11.2.2 x10.1, oBlk b8 [(pEq (.slice g5.1.1.1 g5.1.1.2.1 g5.1.1.2.2)), (pEq (.slice g5.2.1.1 g5.2.1.2.1 g5.2.1.2.2))]]) (fun h => SatO.rest h) ?_
              refine Ct.re (Ω2 := [oBlk b8 [(pEq (.slice g5.1.1.1 g5.1.1.2.1 g5.1.1.2.2)), (pEq (.slice g5.2.1.1 g5.2.1.2.1 g5.2.1.2.2))], oSl 2 1 (cK .i64) g11.1 g11.2.1 g11.2.2 x10.1]) (fun h => SatO.pick 1 h) ?_
              refine Ct.re (Ω2 := [oSl 2 1 (cK .i64) g11.1 g11.2.1 g11.2.2 x10.1]) (fun h => SatO.rest h) ?_
              replace h := Option.some.inj h; subst h
              exact Ct.mid () rfl ⟨rfl, rfl, rfl, rfl, rfl, rfl, trivial⟩
            · replace h := bif_f hc22 h
              refine RegL.pureG (p := (pEq (.slice g11.1 g11.2.1 g11.2.2))) rfl rfl rfl hc22 rfl rfl (J_move rfl (Opd.tmp rfl)) ?_
              refine RegL.pureG (p := (pSl 1 (cK .i64) x3.1)) rfl rfl rfl hc22 rfl rfl (J_move rfl (Opd.tmp rfl)) ?_
              replace h := bind_some h; obtain ⟨x23, hx23, h⟩ := h
              refine RegL.pureGW (p := (pEq (.bool x23))) rfl rfl rfl hc22 rfl rfl (W_call rfl Try.call17 (c_laws_eqInt64S hx23) (OpdsA.cons (OpdA.conv rfl (Conv.row (f := (cK .i64)) 2 (fun _ => rfl) rfl)) (OpdsA.cons (OpdA.of (Opd.tmp rfl)) OpdsA.nil)) FreeP.eq) ?_
              refine RegL.pureG (p := (pEq (.bool (!x23)))) rfl rfl rfl hc22 rfl rfl (J_not rfl (Opd.tmp rfl)) ?_
              refine RegL.pure (p := (pEq (.bool (!x23)))) rfl rfl rfl (J_pick rfl (Opd.tmp rfl) (fun hf => absurd (hc22.symm.trans hf) (by decide)) (fun _ => (Opd.tmp rfl))) ?_
              refine RegL.pure (p := (pEq (.bool (!x23)))) rfl rfl rfl (J_move rfl (Opd.tmp rfl)) ?_
              rcases Bool.eq_false_or_eq_true (!x23) with hc24 | hc24
              · replace h := bif_t hc24 h
                refine RegL.skipG rfl rfl rfl hc24 rfl rfl ?_
                refine RegL.skipG rfl rfl rfl hc24 rfl rfl ?_
                refine RegL.skipG rfl rfl rfl hc24 rfl rfl ?_
                refine RegL.pure (p := (pEq (.bool true))) rfl rfl rfl (J_pick rfl (Opd.tmp rfl) (fun _ => Opd.con) (fun hf => absurd (hc24.symm.trans hf) (by decide))) ?_
                refine RegL.nil ?_
                refine Ct.re (Ω2 := [oSS 25 2 1 (cK .i64) g5.2.1.1 g5.2.1.2.1 g5.2.1.2.2 g5.2.2 x19.2.2, oSl 2 1 (cK .i64) g11.1 g11.2.1 g11.2.2 x10.1, oBlk b8 [(pEq (.slice g5.1.1.1 g5.1.1.2.1 g5.1.1.2.2)), (pEq (.slice g5.2.1.1 g5.2.1.2.1 g5.2.1.2.2))]]) (fun h => SatO.rest h) ?_
                refine Ct.re (Ω2 := [oSl 2 1 (cK .i64) g11.1 g11.2.1 g11.2.2 x10.1, oBlk b8 [(pEq (.slice g5.1.1.1 g5.1.1.2.1 g5.1.1.2.2)), (pEq (.slice g5.2.1.1 g5.2.1.2.1 g5.2.1.2.2))]]) (fun h => SatO.rest h) ?_
                refine Ct.re (Ω2 := [oBlk b8 [(pEq (.slice g5.1.1.1 g5.1.1.2.1 g5.1.1.2.2)), (pEq (.slice g5.2.1.1 g5.2.1.2.1 g5.2.1.2.2))], oSl 2 1 (cK .i64) g11.1 g11.2.1 g11.2.2 x10.1]) (fun h => SatO.pick 1 h) ?_
                refine Ct.re (Ω2 := [oSl 2 1 (cK .i64) g11.1 g11.2.1 g11.2.2 x10.1]) (fun h => SatO.rest h) ?_
                replace h := Option.some.inj h; subst h
                exact Ct.mid () rfl ⟨rfl, rfl, rfl, rfl, rfl, rfl, trivial⟩
              · replace h := bif_f hc24 h
                refine RegL.pureG (p := (pEq (.int .i64 x10.2))) rfl rfl rfl hc24 rfl rfl (J_move rfl (Opd.tmp rfl)) ?_
                refine RegL.pureG (p := (pEq (.int .i64 x3.2))) rfl rfl rfl hc24 rfl rfl (J_move rfl (Opd.tmp rfl)) ?_
                refine RegL.pureG (p := (pEq (.bool (x10.2 != x3.2)))) rfl rfl rfl hc24 rfl rfl (J_bin rfl (Opd.tmp rfl) (Opd.tmp rfl) B_neq) ?_
                refine RegL.pure (p := (pEq (.bool (x10.2 != x3.2)))) rfl rfl rfl (J_pick rfl (Opd.tmp rfl) (fun hf => absurd (hc24.symm.trans hf) (by decide)) (fun _ => (Opd.tmp rfl))) ?_
                refine RegL.nil ?_
                refine Ct.re (Ω2 := [oSS 25 2 1 (cK .i64) g5.2.1.1 g5.2.1.2.1 g5.2.1.2.2 g5.2.2 x19.2.2, oSl 2 1 (cK .i64) g11.1 g11.2.1 g11.2.2 x10.1, oBlk b8 [(pEq (.slice g5.1.1.1 g5.1.1.2.1 g5.1.1.2.2)), (pEq (.slice g5.2.1.1 g5.2.1.2.1 g5.2.1.2.2))]]) (fun h => SatO.rest h) ?_
                refine Ct.re (Ω2 := [oSl 2 1 (cK .i64) g11.1 g11.2.1 g11.2.2 x10.1, oBlk b8 [(pEq (.slice g5.1.1.1 g5.1.1.2.1 g5.1.1.2.2)), (pEq (.slice g5.2.1.1 g5.2.1.2.1 g5.2.1.2.2))]]) (fun h => SatO.rest h) ?_
                refine Ct.re (Ω2 := [oBlk b8 [(pEq (.slice g5.1.1.1 g5.1.1.2.1 g5.1.1.2.2)), (pEq (.slice g5.2.1.1 g5.2.1.2.1 g5.2.1.2.2))], oSl 2 1 (cK .i64) g11.1 g11.2.1 g11.2.2 x10.1]) (fun h => SatO.pick 1 h) ?_
                refine Ct.re (Ω2 := [oSl 2 1 (cK .i64) g11.1 g11.2.1 g11.2.2 x10.1]) (fun h => SatO.rest h) ?_
                replace h := Option.some.inj h; subst h
                exact Ct.mid () rfl ⟨rfl, rfl, rfl, rfl, rfl, rfl, trivial⟩
          · clear hx21
            refine Ct.then_tr ?_
            refine Tr.weak (Γ' := [(1, (pEq (.int .i64 a_1))), (2, (pPtr (cGProblem a_0))), (6, (pSl 1 (cK .i64) x3.1)), (7, (pEq (.int .i64 x3.2))), (9, (pEq (.slice g11.1 g11.2.1 g11.2.2))), (65, (pEq (.bool x21)))]) ⟨rfl, rfl, rfl, rfl, rfl, rfl, trivial⟩ ?_
            refine Tr.cond (Opd.tmp rfl) (fun hc => ?_) (fun hc => ?_)
            · replace h := bif_t hc h
              refine Tr.seq ?_
              refine Tr.region ?_
              refine RegL.pure (p := (pEq (.bool false))) rfl rfl rfl (J_assign rfl Opd.con) ?_
              refine RegL.nil ?_
              refine Ct.then_tr ?_
              refine Tr.weak (Γ' := [(4, (pEq (.bool false)))]) ⟨rfl, trivial⟩ ?_
              refine Tr.ret ?_
              refine Ct.then_ret ?_
              replace h := Option.some.inj h; subst h
              exact Ct.retH1 (Ωx := [oSl 2 1 (cK .i64) g11.1 g11.2.1 g11.2.2 x10.1]) () rfl (RvOk.tmp rfl) rfl
            · replace h := bif_f hc h
              refine Tr.skip ?_
              refine Ct.then_tr ?_
              refine Tr.weak (Γ' := [(1, (pEq (.int .i64 a_1))), (2, (pPtr (cGProblem a_0))), (6, (pSl 1 (cK .i64) x3.1)), (7, (pEq (.int .i64 x3.2))), (9, (pEq (.slice g11.1 g11.2.1 g11.2.2)))]) ⟨rfl, rfl, rfl, rfl, rfl, trivial⟩ ?_
              refine Tr.seq ?_
              refine Tr.region ?_
              refine RegL.pure (p := (pEq (.int .i64 (1 : Int)))) rfl rfl rfl (J_assign rfl Opd.con) ?_
              refine RegL.nil ?_
              refine Ct.then_tr ?_
              refine Tr.weak (Γ' := [(1, (pEq (.int .i64 a_1))), (2, (pPtr (cGProblem a_0))), (6, (pSl 1 (cK .i64) x3.1)), (7, (pEq (.int .i64 x3.2))), (9, (pEq (.slice g11.1 g11.2.1 g11.2.2))), (12, (pEq (.int .i64 (1 : Int))))]) ⟨rfl, rfl, rfl, rfl, rfl, rfl, trivial⟩ ?_
              refine Tr.seq ?_
              refine Tr.region ?_
              refine RegL.pure (p := (pEq (.slice g11.1 g11.2.1 g11.2.2))) rfl rfl rfl (J_move rfl (Opd.tmp rfl)) ?_
              refine RegL.pure (p := (pEq (.int .i64 (1 : Int)))) rfl rfl rfl (J_move rfl (Opd.tmp rfl)) ?_
              replace h := bind_some h; obtain ⟨x26, hx26, h⟩ := h
              refine RegL.step (γ := Unit) (p := fun g => (pEq (.int .i64 x26.1))) (Ω' := fun g => [oSl 2 1 (cK .i64) g11.1 g11.2.1 g11.2.2 x26.2]) rfl rfl rfl (M_callH (Ωi := [oSl 2 1 (cK .i64) g11.1 g11.2.1 g11.2.2 x10.1]) rfl Try.call20 (o_laws_markInt64S hx26) (Opds.cons (Opd.tmp rfl) (Opds.cons (Opd.tmp rfl) Opds.nil))) fun g27 => ?_
              refine RegL.pure (p := (pEq (.int .i64 x26.1))) rfl rfl rfl (J_assign rfl (Opd.tmp rfl)) ?_
              refine RegL.nil ?_
              refine Ct.then_tr ?_
              refine Tr.weak (Γ' := [(1, (pEq (.int .i64 a_1))), (2, (pPtr (cGProblem a_0))), (6, (pSl 1 (cK .i64) x3.1)), (7, (pEq (.int .i64 x3.2))), (9, (pEq (.slice g11.1 g11.2.1 g11.2.2))), (12, (pEq (.int .i64 x26.1)))]) ⟨rfl, rfl, rfl, rfl, rfl, rfl, trivial⟩ ?_
              refine Tr.seq ?_
              refine Tr.region ?_
              refine RegL.pure (p := (pEq (.int .i64 (1 : Int)))) rfl rfl rfl (J_assign rfl Opd.con) ?_
              refine RegL.nil ?_
              refine Ct.then_tr ?_
              refine Tr.weak (Γ' := [(1, (pEq (.int .i64 a_1))), (2, (pPtr (cGProblem a_0))), (6, (pSl 1 (cK .i64) x3.1)), (7, (pEq (.int .i64 x3.2))), (9, (pEq (.slice g11.1 g11.2.1 g11.2.2))), (12, (pEq (.int .i64 x26.1))), (13, (pEq (.int .i64 (1 : Int))))]) ⟨rfl, rfl, rfl, rfl, rfl, rfl, rfl, trivial⟩ ?_
              refine Tr.seq ?_
              refine Tr.region ?_
              refine RegL.pure (p := (pEq (.slice g11.1 g11.2.1 g11.2.2))) rfl rfl rfl (J_move rfl (Opd.tmp rfl)) ?_
              refine RegL.pure (p := (pEq (.int .i64 (1 : Int)))) rfl rfl rfl (J_move rfl (Opd.tmp rfl)) ?_
              replace h := bind_some h; obtain ⟨x28, hx28, h⟩ := h
              refine RegL.pureW (p := (pEq (.int .i64 x28))) rfl rfl rfl (W_call rfl Try.call21 (c_laws_heldInt64S hx28) (OpdsA.cons (OpdA.conv rfl (Conv.row (f := (cK .i64)) 0 (fun _ => rfl) rfl)) (OpdsA.cons (OpdA.of (Opd.tmp rfl)) OpdsA.nil)) FreeP.eq) ?_
              refine RegL.pure (p := (pEq (.int .i64 x28))) rfl rfl rfl (J_assign rfl (Opd.tmp rfl)) ?_
              refine RegL.nil ?_
              refine Ct.then_tr ?_
              refine Tr.weak (Γ' := [(1, (pEq (.int .i64 a_1))), (2, (pPtr (cGProblem a_0))), (6, (pSl 1 (cK .i64) x3.1)), (7, (pEq (.int .i64 x3.2))), (9, (pEq (.slice g11.1 g11.2.1 g11.2.2))), (12, (pEq (.int .i64 x26.1))), (13, (pEq (.int .i64 x28)))]) ⟨rfl, rfl, rfl, rfl, rfl, rfl, rfl, trivial⟩ ?_
              refine Tr.seq ?_
              refine Tr.seq ?_
              refine Tr.region ?_
              refine RegL.pure (p := (pEq (.int .i64 x28))) rfl rfl rfl (J_move rfl (Opd.tmp rfl)) ?_
              refine RegL.pure (p := (pEq (.bool (decide (x28 < (0 : Int)))))) rfl rfl rfl (J_bin rfl (Opd.tmp rfl) Opd.con B_lss) ?_
              refine RegL.nil ?_
              refine Ct.then_tr ?_
              refine Tr.weak (Γ' := [(1, (pEq (.int .i64 a_1))), (2, (pPtr (cGProblem a_0))), (6, (pSl 1 (cK .i64) x3.1)), (7, (pEq (.int .i64 x3.2))), (9, (pEq (.slice g11.1 g11.2.1 g11.2.2))), (12, (pEq (.int .i64 x26.1))), (13, (pEq (.int .i64 x28))), (73, (pEq (.bool (decide (x28 < (0 : Int))))))]) ⟨rfl, rfl, rfl, rfl, rfl, rfl, rfl, rfl, trivial⟩ ?_
              refine Tr.cond (Opd.tmp rfl) (fun hc => ?_) (fun hc => ?_)
              · replace h := bif_t hc h
                refine Tr.seq ?_
                refine Tr.region ?_
                refine RegL.pure (p := (pEq (.bool false))) rfl rfl rfl (J_assign rfl Opd.con) ?_
                refine RegL.nil ?_
                refine Ct.then_tr ?_
                refine Tr.weak (Γ' := [(4, (pEq (.bool false)))]) ⟨rfl, trivial⟩ ?_
                refine Tr.ret ?_
                refine Ct.then_ret ?_
                replace h := Option.some.inj h; subst h
                exact Ct.retH1 (Ωx := [oSl 2 1 (cK .i64) g11.1 g11.2.1 g11.2.2 x26.2]) () rfl (RvOk.tmp rfl) rfl
              · replace h := bif_f hc h
                refine Tr.skip ?_
                refine Ct.then_tr ?_
                refine Tr.weak (Γ' := [(1, (pEq (.int .i64 a_1))), (2, (pPtr (cGProblem a_0))), (6, (pSl 1 (cK .i64) x3.1)), (7, (pEq (.int .i64 x3.2))), (9, (pEq (.slice g11.1 g11.2.1 g11.2.2))), (12, (pEq (.int .i64 x26.1))), (13, (pEq (.int .i64 x28)))]) ⟨rfl, rfl, rfl, rfl, rfl, rfl, rfl, trivial⟩ ?_
                refine Tr.seq ?_
                refine Tr.seq ?_
                refine Tr.region ?_
                refine RegL.pure (p := (pEq (.int .i64 x28))) rfl rfl rfl (J_move rfl (Opd.tmp rfl)) ?_
                refine RegL.pure (p := (pEq (.int .i64 x26.1))) rfl rfl rfl (J_move rfl (Opd.tmp rfl)) ?_
                refine RegL.pure (p := (pEq (.bool (x28 != x26.1)))) rfl rfl rfl (J_bin rfl (Opd.tmp rfl) (Opd.tmp rfl) B_neq) ?_
                refine RegL.nil ?_
                refine Ct.then_tr ?_
                refine Tr.weak (Γ' := [(1, (pEq (.int .i64 a_1))), (2, (pPtr (cGProblem a_0))), (6, (pSl 1 (cK .i64) x3.1)), (7, (pEq (.int .i64 x3.2))), (9, (pEq (.slice g11.1 g11.2.1 g11.2.2))), (12, (pEq (.int .i64 x26.1))), (76, (pEq (.bool (x28 != x26.1))))]) ⟨rfl, rfl, rfl, rfl, rfl, rfl, rfl, trivial⟩ ?_
                refine Tr.cond (Opd.tmp rfl) (fun hc => ?_) (fun hc => ?_)
                · replace h := bif_t hc h
                  refine Tr.seq ?_
                  refine Tr.region ?_
                  refine RegL.pure (p := (pEq (.bool false))) rfl rfl rfl (J_assign rfl Opd.con) ?_
                  refine RegL.nil ?_
                  refine Ct.then_tr ?_
                  refine Tr.weak (Γ' := [(4, (pEq (.bool false)))]) ⟨rfl, trivial⟩ ?_
                  refine Tr.ret ?_
                  refine Ct.then_ret ?_
                  replace h := Option.some.inj h; subst h
                  exact Ct.retH1 (Ωx := [oSl 2 1 (cK .i64) g11.1 g11.2.1 g11.2.2 x26.2]) () rfl (RvOk.tmp rfl) rfl
                · replace h := bif_f hc h
                  refine Tr.skip ?_
                  refine Ct.then_tr ?_
                  refine Tr.weak (Γ' := [(1, (pEq (.int .i64 a_1))), (2, (pPtr (cGProblem a_0))), (6, (pSl 1 (cK .i64) x3.1)), (7, (pEq (.int .i64 x3.2))), (9, (pEq (.slice g11.1 g11.2.1 g11.2.2))), (12, (pEq (.int .i64 x26.1)))]) ⟨rfl, rfl, rfl, rfl, rfl, rfl, trivial⟩ ?_
                  refine Tr.seq ?_
                  refine Tr.region ?_
                  refine RegL.pure (p := (pAgg (cGProblem a_0))) rfl rfl rfl (J_loadA rfl Try.isAgg24 sz24 (Opd.tmp rfl) rfl) ?_
                  replace h := bind_some h; obtain ⟨x29, hx29, h⟩ := h
                  refine RegL.pure (p := (pAgg (cGProblem x29))) rfl rfl rfl (J_call rfl Try.call14 (c_laws_toProblem hx29) (Opds.cons (Opd.tmp rfl) Opds.nil)) ?_
                  refine RegL.pure (p := (pEq (.int .i64 a_1))) rfl rfl rfl (J_move rfl (Opd.tmp rfl)) ?_
                  replace h := bind_some h; obtain ⟨x30, hx30, h⟩ := h
                  refine RegL.pure (p := (pTup [(pSl 1 (cK .i64) x30.1), (pEq (.int .i64 x30.2))])) rfl rfl rfl (J_call rfl Try.call37 (c_impl_LeastSpan hx30) (Opds.cons (Opd.tmp rfl) (Opds.cons (Opd.tmp rfl) Opds.nil))) ?_
                  refine RegL.pure (p := (pTup [(pSl 1 (cK .i64) x30.1), (pEq (.int .i64 x30.2))])) rfl rfl rfl (J_move rfl (Opd.tmp rfl)) ?_
                  refine RegL.pure (p := (pSl 1 (cK .i64) x30.1)) rfl rfl rfl (J_extract rfl (Opd.tmp rfl) rfl) ?_
                  refine RegL.pure (p := (pEq (.int .i64 x30.2))) rfl rfl rfl (J_extract rfl (Opd.tmp rfl) rfl) ?_
                  refine RegL.pure (p := (pSl 1 (cK .i64) x30.1)) rfl rfl rfl (J_assign rfl (Opd.tmp rfl)) ?_
                  refine RegL.pure (p := (pEq (.int .i64 x30.2))) rfl rfl rfl (J_assign rfl (Opd.tmp rfl)) ?_
                  refine RegL.nil ?_
                  refine Ct.then_tr ?_
                  refine Tr.weak (Γ' := [(6, (pSl 1 (cK .i64) x3.1)), (7, (pEq (.int .i64 x3.2))), (9, (pEq (.slice g11.1 g11.2.1 g11.2.2))), (12, (pEq (.int .i64 x26.1))), (14, (pSl 1 (cK .i64) x30.1)), (15, (pEq (.int .i64 x30.2)))]) ⟨rfl, rfl, rfl, rfl, rfl, rfl, trivial⟩ ?_
                  refine Tr.seq ?_
                  refine Tr.seq ?_
                  replace h := bind_some h; obtain ⟨x31, hx31, h⟩ := h
                  refine Tr.cut (γ := Unit) (Γm := fun g => [(9, (pEq (.slice g11.1 g11.2.1 g11.2.2))), (12, (pEq (.int .i64 x26.1))), (92, (pEq (.bool x31)))]) (Ωm := fun g => [oSl 2 1 (cK .i64) g11.1 g11.2.1 g11.2.2 x26.2]) ?_ (fun g34 => ?_)
                  · clear h
                    have h := hx31
                    clear hx31
                    refine Tr.region ?_
                    refine RegL.pure (p := (pSl 1 (cK .i64) x30.1)) rfl rfl rfl (J_move rfl (Opd.tmp rfl)) ?_
                    refine RegL.pure (p := (pSl 1 (cK .i64) x3.1)) rfl rfl rfl (J_move rfl (Opd.tmp rfl)) ?_
                    replace h := bind_some h; obtain ⟨x32, hx32, h⟩ := h
                    refine RegL.pure (p := (pEq (.bool x32))) rfl rfl rfl (J_call rfl Try.call17 (c_laws_eqInt64S hx32) (Opds.cons (Opd.tmp rfl) (Opds.cons (Opd.tmp rfl) Opds.nil))) ?_
                    refine RegL.pure (p := (pEq (.bool (!x32)))) rfl rfl rfl (J_not rfl (Opd.tmp rfl)) ?_
                    refine RegL.pure (p := (pEq (.bool (!x32)))) rfl rfl rfl (J_move rfl (Opd.tmp rfl)) ?_
                    rcases Bool.eq_false_or_eq_true (!x32) with hc33 | hc33
                    · replace h := bif_t hc33 h
                      refine RegL.skipG rfl rfl rfl hc33 rfl rfl ?_
                      refine RegL.skipG rfl rfl rfl hc33 rfl rfl ?_
                      refine RegL.skipG rfl rfl rfl hc33 rfl rfl ?_
                      refine RegL.pure (p := (pEq (.bool true))) rfl rfl rfl (J_pick rfl (Opd.tmp rfl) (fun _ => Opd.con) (fun hf => absurd (hc33.symm.trans hf) (by decide))) ?_
                      refine RegL.nil ?_
                      replace h := Option.some.inj h; subst h
                      exact Ct.mid () rfl ⟨rfl, rfl, rfl, trivial⟩
                    · replace h := bif_f hc33 h
                      refine RegL.pureG (p := (pEq (.int .i64 x30.2))) rfl rfl rfl hc33 rfl rfl (J_move rfl (Opd.tmp rfl)) ?_
                      refine RegL.pureG (p := (pEq (.int .i64 x3.2))) rfl rfl rfl hc33 rfl rfl (J_move rfl (Opd.tmp rfl)) ?_
                      refine RegL.pureG (p := (pEq (.bool (x30.2 != x3.2)))) rfl rfl rfl hc33 rfl rfl (J_bin rfl (Opd.tmp rfl) (Opd.tmp rfl) B_neq) ?_
                      refine RegL.pure (p := (pEq (.bool (x30.2 != x3.2)))) rfl rfl rfl (J_pick rfl (Opd.tmp rfl) (fun hf => absurd (hc33.symm.trans hf) (by decide)) (fun _ => (Opd.tmp rfl))) ?_
                      refine RegL.nil ?_
                      replace h := Option.some.inj h; subst h
                      exact Ct.mid () rfl ⟨rfl, rfl, rfl, trivial⟩
                  · clear hx31
                    refine Ct.then_tr ?_
                    refine Tr.weak (Γ' := [(9, (pEq (.slice g11.1 g11.2.1 g11.2.2))), (12, (pEq (.int .i64 x26.1))), (92, (pEq (.bool x31)))]) ⟨rfl, rfl, rfl, trivial⟩ ?_
                    refine Tr.cond (Opd.tmp rfl) (fun hc => ?_) (fun hc => ?_)
                    · replace h := bif_t hc h
                      refine Tr.seq ?_
                      refine Tr.region ?_
                      refine RegL.pure (p := (pEq (.bool false))) rfl rfl rfl (J_assign rfl Opd.con) ?_
                      refine RegL.nil ?_
                      refine Ct.then_tr ?_
                      refine Tr.weak (Γ' := [(4, (pEq (.bool false)))]) ⟨rfl, trivial⟩ ?_
                      refine Tr.ret ?_
                      refine Ct.then_ret ?_
                      replace h := Option.some.inj h; subst h
                      exact Ct.retH1 (Ωx := [oSl 2 1 (cK .i64) g11.1 g11.2.1 g11.2.2 x26.2]) () rfl (RvOk.tmp rfl) rfl
                    · replace h := bif_f hc h
                      refine Tr.skip ?_
                      refine Ct.then_tr ?_
                      refine Tr.weak (Γ' := [(9, (pEq (.slice g11.1 g11.2.1 g11.2.2))), (12, (pEq (.int .i64 x26.1)))]) ⟨rfl, rfl, trivial⟩ ?_
                      refine Tr.seq ?_
                      refine Tr.region ?_
                      refine RegL.pure (p := (pEq (.int .i64 (1 : Int)))) rfl rfl rfl (J_assign rfl Opd.con) ?_
                      refine RegL.nil ?_
                      refine Ct.then_tr ?_
                      refine Tr.weak (Γ' := [(9, (pEq (.slice g11.1 g11.2.1 g11.2.2))), (12, (pEq (.int .i64 x26.1))), (13, (pEq (.int .i64 (1 : Int))))]) ⟨rfl, rfl, rfl, trivial⟩ ?_
                      refine Tr.seq ?_
                      refine Tr.region ?_
                      refine RegL.pure (p := (pEq (.slice g11.1 g11.2.1 g11.2.2))) rfl rfl rfl (J_move rfl (Opd.tmp rfl)) ?_
                      refine RegL.pure (p := (pEq (.int .i64 (1 : Int)))) rfl rfl rfl (J_move rfl (Opd.tmp rfl)) ?_
                      replace h := bind_some h; obtain ⟨x35, hx35, h⟩ := h
                      refine RegL.pureW (p := (pEq (.int .i64 x35))) rfl rfl rfl (W_call rfl Try.call21 (c_laws_heldInt64S hx35) (OpdsA.cons (OpdA.conv rfl (Conv.row (f := (cK .i64)) 0 (fun _ => rfl) rfl)) (OpdsA.cons (OpdA.of (Opd.tmp rfl)) OpdsA.nil)) FreeP.eq) ?_
                      refine RegL.pure (p := (pEq (.int .i64 x35))) rfl rfl rfl (J_assign rfl (Opd.tmp rfl)) ?_
                      refine RegL.nil ?_
                      refine Ct.then_tr ?_
                      refine Tr.weak (Γ' := [(12, (pEq (.int .i64 x26.1))), (13, (pEq (.int .i64 x35)))]) ⟨rfl, rfl, trivial⟩ ?_
                      refine Tr.seq ?_
                      refine Tr.seq ?_
                      refine Tr.region ?_
                      refine RegL.pure (p := (pEq (.int .i64 x35))) rfl rfl rfl (J_move rfl (Opd.tmp rfl)) ?_
                      refine RegL.pure (p := (pEq (.bool (decide (x35 < (0 : Int)))))) rfl rfl rfl (J_bin rfl (Opd.tmp rfl) Opd.con B_lss) ?_
                      refine RegL.nil ?_
                      refine Ct.then_tr ?_
                      refine Tr.weak (Γ' := [(12, (pEq (.int .i64 x26.1))), (13, (pEq (.int .i64 x35))), (97, (pEq (.bool (decide (x35 < (0 : Int))))))]) ⟨rfl, rfl, rfl, trivial⟩ ?_
                      refine Tr.cond (Opd.tmp rfl) (fun hc => ?_) (fun hc => ?_)
                      · replace h := bif_t hc h
                        refine Tr.seq ?_
                        refine Tr.region ?_
                        refine RegL.pure (p := (pEq (.bool false))) rfl rfl rfl (J_assign rfl Opd.con) ?_
                        refine RegL.nil ?_
                        refine Ct.then_tr ?_
                        refine Tr.weak (Γ' := [(4, (pEq (.bool false)))]) ⟨rfl, trivial⟩ ?_
                        refine Tr.ret ?_
                        refine Ct.then_ret ?_
                        replace h := Option.some.inj h; subst h
                        exact Ct.retH1 (Ωx := [oSl 2 1 (cK .i64) g11.1 g11.2.1 g11.2.2 x26.2]) () rfl (RvOk.tmp rfl) rfl
                      · replace h := bif_f hc h
                        refine Tr.skip ?_
                        refine Ct.then_tr ?_
                        refine Tr.weak (Γ' := [(12, (pEq (.int .i64 x26.1))), (13, (pEq (.int .i64 x35)))]) ⟨rfl, rfl, trivial⟩ ?_
                        refine Tr.seq ?_
                        refine Tr.seq ?_
                        refine Tr.region ?_
                        refine RegL.pure (p := (pEq (.int .i64 x35))) rfl rfl rfl (J_move rfl (Opd.tmp rfl)) ?_
                        refine RegL.pure (p := (pEq (.int .i64 x26.1))) rfl rfl rfl (J_move rfl (Opd.tmp rfl)) ?_
                        refine RegL.pure (p := (pEq (.bool (x35 != x26.1)))) rfl rfl rfl (J_bin rfl (Opd.tmp rfl) (Opd.tmp rfl) B_neq) ?_
                        refine RegL.nil ?_
                        refine Ct.then_tr ?_
                        refine Tr.weak (Γ' := [(100, (pEq (.bool (x35 != x26.1))))]) ⟨rfl, trivial⟩ ?_
                        refine Tr.cond (Opd.tmp rfl) (fun hc => ?_) (fun hc => ?_)
                        · replace h := bif_t hc h
                          refine Tr.seq ?_
                          refine Tr.region ?_
                          refine RegL.pure (p := (pEq (.bool false))) rfl rfl rfl (J_assign rfl Opd.con) ?_
                          refine RegL.nil ?_
                          refine Ct.then_tr ?_
                          refine Tr.weak (Γ' := [(4, (pEq (.bool false)))]) ⟨rfl, trivial⟩ ?_
                          refine Tr.ret ?_
                          refine Ct.then_ret ?_
                          replace h := Option.some.inj h; subst h
                          exact Ct.retH1 (Ωx := [oSl 2 1 (cK .i64) g11.1 g11.2.1 g11.2.2 x26.2]) () rfl (RvOk.tmp rfl) rfl
                        · replace h := bif_f hc h
                          refine Tr.skip ?_
                          refine Ct.then_tr ?_
                          refine Tr.weak (Γ' := []) trivial ?_
                          refine Tr.seq ?_
                          refine Tr.region ?_
                          refine RegL.pure (p := (pEq (.bool true))) rfl rfl rfl (J_assign rfl Opd.con) ?_
                          refine RegL.nil ?_
                          refine Ct.then_tr ?_
                          refine Tr.weak (Γ' := [(4, (pEq (.bool true)))]) ⟨rfl, trivial⟩ ?_
                          refine Tr.ret ?_
                          replace h := Option.some.inj h; subst h
                          exact Ct.retH1 (Ωx := [oSl 2 1 (cK .i64) g11.1 g11.2.1 g11.2.2 x26.2]) () rfl (RvOk.tmp rfl) rfl

end Go.Proofs.Ytcofngddgljhdaa.fnExactLeastSpanW
