/-
  The walks that the law FnExactLeastSpan reaches: each function computes its model. Printed by our own program.
-/
import Derived.Test.YtcofngddgljhdaaProg
import Derived.Test.YtcofngddgljhdaaMod
import Derived.Test.YtcofngddgljhdaaZero
import Derived.KernelRfl
import Derived.Test.YtcofngddgljhdaaWkLeastSpana
namespace Go.Proofs.Ytcofngddgljhdaa.fnExactLeastSpanW
open Go Go.RowKit Go.Wk
set_option linter.unusedVariables false
set_option maxRecDepth 100000


theorem of_spec_l18Search_visit : ∀ (n : Nat) {a_0 : GL18Search} {a_1 : Int} {ho0_1 : Option Addr} {hn0_1 hc0_1 : Nat} {ho0_6 : Option Addr} {hn0_6 hc0_6 : Nat} {hb0 : Nat} {r : (Bool × (List Int) × Int × Int × (List Int))} (h : iterM (fun self (a : (GL18Search × Int)) => mf_spec_l18Search_visit self a.1 a.2) n (a_0, a_1) = some r), CallH Try.prog 106 [(pEq (.pointer (some ⟨hb0, 0, none⟩))), (pEq (.int .i64 a_1))] [oBlk hb0 [(pPtr (cGProblem a_0.p)), (pEq (.slice ho0_1 hn0_1 hc0_1)), (pEq (.int .i64 a_0.span)), (pEq (.int .i64 a_0.nodes)), (pEq (.int .i64 a_0.budget)), (pEq (.int .i64 a_0.count)), (pEq (.slice ho0_6 hn0_6 hc0_6)), (pEq (.bool a_0.stop))], oSl 2 1 (cK .i64) ho0_1 hn0_1 hc0_1 a_0.list, oSl 2 1 (cK .i64) ho0_6 hn0_6 hc0_6 a_0.first] (fun g : (G3 × G3) => (pEq (.bool r.1))) (fun g : (G3 × G3) => [oBlk hb0 [(pPtr (cGProblem a_0.p)), (pEq (.slice g.1.1 g.1.2.1 g.1.2.2)), (pEq (.int .i64 a_0.span)), (pEq (.int .i64 r.2.2.1)), (pEq (.int .i64 a_0.budget)), (pEq (.int .i64 r.2.2.2.1)), (pEq (.slice g.2.1 g.2.2.1 g.2.2.2)), (pEq (.bool a_0.stop))], oSl 2 1 (cK .i64) g.1.1 g.1.2.1 g.1.2.2 r.2.1, oSl 2 1 (cK .i64) g.2.1 g.2.2.1 g.2.2.2 r.2.2.2.2]) := by
  intro n
  induction n with
  | zero => intros; rename_i h; simp [iterM] at h
  | succ n ih =>
  intro a_0 a_1 ho0_1 hn0_1 hc0_1 ho0_6 hn0_6 hc0_6 hb0 r h
  replace h : mf_spec_l18Search_visit (iterM (fun self (a : (GL18Search × Int)) => mf_spec_l18Search_visit self a.1 a.2) n) a_0 a_1 = some r := h
  unfold mf_spec_l18Search_visit at h
  refine CallH.enter Try.func106 rfl Try.ntmps106 rfl fun W I0 H => ?_
  refine Tr.weak (Γ' := [(0, (pEq (.pointer (some ⟨hb0, 0, none⟩)))), (1, (pEq (.int .i64 a_1)))]) ⟨rfl, rfl, trivial⟩ ?_
  refine Tr.seq ?_
  refine Tr.region ?_
  refine RegL.pure (p := (pEq (.bool false))) rfl rfl rfl (J_assign rfl Opd.con) ?_
  refine RegL.nil ?_
  refine Ct.then_tr ?_
  refine Tr.weak (Γ' := [(0, (pEq (.pointer (some ⟨hb0, 0, none⟩)))), (1, (pEq (.int .i64 a_1)))]) ⟨rfl, rfl, trivial⟩ ?_
  refine Tr.seq ?_
  refine Tr.region ?_
  refine RegL.pure (p := (pEq (.pointer (some ⟨hb0, 0, none⟩)))) rfl rfl rfl (J_move rfl (Opd.tmp rfl)) ?_
  refine RegL.pure (p := (pEq (.pointer (some ⟨hb0, 0, none⟩)))) rfl rfl rfl (J_nilCheckE rfl (Opd.tmp rfl)) ?_
  refine RegL.pure (p := (pEq (.pointer (some ⟨hb0, 3, none⟩)))) rfl rfl rfl (J_fieldAddrE rfl Try.underlying88 rfl sz2 (by decide) (Opd.tmp rfl) rfl) ?_
  refine RegL.pureW (p := (pEq (.int .i64 a_0.nodes))) rfl rfl rfl (W_load (i := 0) rfl Try.isAgg2 (Opd.tmp rfl) rfl rfl) ?_
  refine RegL.pure (p := (pEq (.int .i64 (w64 (a_0.nodes + (1 : Int)))))) rfl rfl rfl (J_bin rfl (Opd.tmp rfl) Opd.con B_add) ?_
  refine RegL.pure (p := (pEq (.pointer (some ⟨hb0, 0, none⟩)))) rfl rfl rfl (J_nilCheckE rfl (Opd.tmp rfl)) ?_
  refine RegL.pure (p := (pEq (.pointer (some ⟨hb0, 3, none⟩)))) rfl rfl rfl (J_fieldAddrE rfl Try.underlying88 rfl sz2 (by decide) (Opd.tmp rfl) rfl) ?_
  refine RegL.stepN (γ := Unit) (p := fun _ => pAny) (Ω' := fun _ => [oBlk hb0 [(pPtr (cGProblem a_0.p)), (pEq (.slice ho0_1 hn0_1 hc0_1)), (pEq (.int .i64 a_0.span)), (pEq (.int .i64 (w64 (a_0.nodes + (1 : Int))))), (pEq (.int .i64 a_0.budget)), (pEq (.int .i64 a_0.count)), (pEq (.slice ho0_6 hn0_6 hc0_6)), (pEq (.bool a_0.stop))], oSl 2 1 (cK .i64) ho0_1 hn0_1 hc0_1 a_0.list, oSl 2 1 (cK .i64) ho0_6 hn0_6 hc0_6 a_0.first]) rfl rfl (M_store rfl sz2 (Opd.tmp rfl) (Opd.tmp rfl) OneC.int rfl rfl) fun g3 => ?_
  refine RegL.nil ?_
  refine Ct.then_tr ?_
  refine Tr.weak (Γ' := [(0, (pEq (.pointer (some ⟨hb0, 0, none⟩)))), (1, (pEq (.int .i64 a_1)))]) ⟨rfl, rfl, trivial⟩ ?_
  refine Tr.seq ?_
  refine Tr.seq ?_
  refine Tr.drawD (n := 114) (m := 9) (es := [some (Ent.mk [(0, (pEq (.pointer (some ⟨hb0, 0, none⟩))))] (pEq (.pointer (some ⟨hb0, 0, none⟩))) true), some (Ent.mk [(15, (pEq (.pointer (some ⟨hb0, 0, none⟩))))] (pEq (.pointer (some ⟨hb0, 0, none⟩))) true), some (Ent.mk [(16, (pEq (.pointer (some ⟨hb0, 0, none⟩))))] (pEq (.pointer (some ⟨hb0, 3, none⟩))) true), some (Ent.mk [(17, (pEq (.pointer (some ⟨hb0, 3, none⟩))))] (pEq (.int .i64 (w64 (a_0.nodes + (1 : Int))))) true), some (Ent.mk [(0, (pEq (.pointer (some ⟨hb0, 0, none⟩))))] (pEq (.pointer (some ⟨hb0, 0, none⟩))) true), some (Ent.mk [(19, (pEq (.pointer (some ⟨hb0, 0, none⟩))))] (pEq (.pointer (some ⟨hb0, 0, none⟩))) true), some (Ent.mk [(20, (pEq (.pointer (some ⟨hb0, 0, none⟩))))] (pEq (.pointer (some ⟨hb0, 4, none⟩))) true), some (Ent.mk [(21, (pEq (.pointer (some ⟨hb0, 4, none⟩))))] (pEq (.int .i64 a_0.budget)) true), some (Ent.mk [(18, (pEq (.int .i64 (w64 (a_0.nodes + (1 : Int)))))), (22, (pEq (.int .i64 a_0.budget)))] (pEq (.bool (decide (a_0.budget < (w64 (a_0.nodes + (1 : Int))))))) true)]) (rd := [[0], [15], [16], [17], [0], [19], [20], [21], [18, 22]]) rfl hmix (by kernel_rfl) fun hD => ?_
  refine RD.fin (es := [Ent.mk [(0, (pEq (.pointer (some ⟨hb0, 0, none⟩))))] (pEq (.pointer (some ⟨hb0, 0, none⟩))) true, Ent.mk [(15, (pEq (.pointer (some ⟨hb0, 0, none⟩))))] (pEq (.pointer (some ⟨hb0, 0, none⟩))) true, Ent.mk [(16, (pEq (.pointer (some ⟨hb0, 0, none⟩))))] (pEq (.pointer (some ⟨hb0, 3, none⟩))) true, Ent.mk [(17, (pEq (.pointer (some ⟨hb0, 3, none⟩))))] (pEq (.int .i64 (w64 (a_0.nodes + (1 : Int))))) true, Ent.mk [(0, (pEq (.pointer (some ⟨hb0, 0, none⟩))))] (pEq (.pointer (some ⟨hb0, 0, none⟩))) true, Ent.mk [(19, (pEq (.pointer (some ⟨hb0, 0, none⟩))))] (pEq (.pointer (some ⟨hb0, 0, none⟩))) true, Ent.mk [(20, (pEq (.pointer (some ⟨hb0, 0, none⟩))))] (pEq (.pointer (some ⟨hb0, 4, none⟩))) true, Ent.mk [(21, (pEq (.pointer (some ⟨hb0, 4, none⟩))))] (pEq (.int .i64 a_0.budget)) true, Ent.mk [(18, (pEq (.int .i64 (w64 (a_0.nodes + (1 : Int)))))), (22, (pEq (.int .i64 a_0.budget)))] (pEq (.bool (decide (a_0.budget < (w64 (a_0.nodes + (1 : Int))))))) true]) (done := []) hD ⟨.inr ⟨(OpJ.w (J_move rfl (Opd.tmp rfl))), ⟨rfl, trivial⟩, rfl, rfl⟩, ⟨.inr ⟨(OpJ.w (J_nilCheckE rfl (Opd.tmp rfl))), ⟨rfl, trivial⟩, rfl, rfl⟩, ⟨.inr ⟨(OpJ.w (J_fieldAddrE rfl Try.underlying88 rfl sz2 (by decide) (Opd.tmp rfl) rfl)), ⟨rfl, trivial⟩, rfl, rfl⟩, ⟨.inr ⟨(W_load (i := 0) rfl Try.isAgg2 (Opd.tmp rfl) rfl rfl), ⟨rfl, trivial⟩, rfl, rfl⟩, ⟨.inr ⟨(OpJ.w (J_move rfl (Opd.tmp rfl))), ⟨rfl, trivial⟩, rfl, rfl⟩, ⟨.inr ⟨(OpJ.w (J_nilCheckE rfl (Opd.tmp rfl))), ⟨rfl, trivial⟩, rfl, rfl⟩, ⟨.inr ⟨(OpJ.w (J_fieldAddrE rfl Try.underlying88 rfl sz2 (by decide) (Opd.tmp rfl) rfl)), ⟨rfl, trivial⟩, rfl, rfl⟩, ⟨.inr ⟨(W_load (i := 0) rfl Try.isAgg2 (Opd.tmp rfl) rfl rfl), ⟨rfl, trivial⟩, rfl, rfl⟩, ⟨.inr ⟨(OpJ.w (J_bin rfl (Opd.tmp rfl) (Opd.tmp rfl) B_gtr)), ⟨rfl, rfl, trivial⟩, rfl, rfl⟩, trivial⟩⟩⟩⟩⟩⟩⟩⟩⟩ ?_
  refine RegL.nil ?_
  refine Ct.then_tr ?_
  refine Tr.weak (Γ' := [(0, (pEq (.pointer (some ⟨hb0, 0, none⟩)))), (1, (pEq (.int .i64 a_1))), (23, (pEq (.bool (decide (a_0.budget < (w64 (a_0.nodes + (1 : Int))))))))]) ⟨rfl, rfl, rfl, trivial⟩ ?_
  refine Tr.cond (Opd.tmp rfl) (fun hc => ?_) (fun hc => ?_)
  · replace h := bif_t hc h
    refine Tr.seq ?_
    refine Tr.region ?_
    refine RegL.pure (p := (pEq (.bool false))) rfl rfl rfl (J_assign rfl Opd.con) ?_
    refine RegL.nil ?_
    refine Ct.then_tr ?_
    refine Tr.weak (Γ' := [(4, (pEq (.bool false)))]) ⟨rfl, trivial⟩ ?_
    refine Tr.ret ?_
    refine Ct.then_ret ?_
    replace h := Option.some.inj h; subst h
    exact Ct.retH1 (Ωx := []) ((ho0_1, hn0_1, hc0_1), (ho0_6, hn0_6, hc0_6)) rfl (RvOk.tmp rfl) rfl
  · replace h := bif_f hc h
    refine Tr.skip ?_
    refine Ct.then_tr ?_
    refine Tr.weak (Γ' := [(0, (pEq (.pointer (some ⟨hb0, 0, none⟩)))), (1, (pEq (.int .i64 a_1)))]) ⟨rfl, rfl, trivial⟩ ?_
    refine Tr.seq ?_
    refine Tr.seq ?_
    refine Tr.region ?_
    refine RegL.pure (p := (pEq (.int .i64 a_1))) rfl rfl rfl (J_move rfl (Opd.tmp rfl)) ?_
    refine RegL.pure (p := (pEq (.pointer (some ⟨hb0, 0, none⟩)))) rfl rfl rfl (J_move rfl (Opd.tmp rfl)) ?_
    refine RegL.pure (p := (pEq (.pointer (some ⟨hb0, 0, none⟩)))) rfl rfl rfl (J_nilCheckE rfl (Opd.tmp rfl)) ?_
    refine RegL.pure (p := (pEq (.pointer (some ⟨hb0, 1, none⟩)))) rfl rfl rfl (J_fieldAddrE rfl Try.underlying88 rfl sz25 (by decide) (Opd.tmp rfl) rfl) ?_
    refine RegL.pureW (p := (pEq (.slice ho0_1 hn0_1 hc0_1))) rfl rfl rfl (W_load (i := 0) rfl Try.isAgg25 (Opd.tmp rfl) rfl rfl) ?_
    refine RegL.pureW (p := (pEq (.int .i64 (a_0.list.length : Int)))) rfl rfl rfl (W_rowLen (j := 1) rfl Try.underlying25 (Opd.tmp rfl) rfl) ?_
    refine RegL.pure (p := (pEq (.bool (a_1 == (a_0.list.length : Int))))) rfl rfl rfl (J_bin rfl (Opd.tmp rfl) (Opd.tmp rfl) B_eql) ?_
    refine RegL.nil ?_
    refine Ct.then_tr ?_
    refine Tr.weak (Γ' := [(0, (pEq (.pointer (some ⟨hb0, 0, none⟩)))), (1, (pEq (.int .i64 a_1))), (30, (pEq (.bool (a_1 == (a_0.list.length : Int)))))]) ⟨rfl, rfl, rfl, trivial⟩ ?_
    refine Tr.cond (Opd.tmp rfl) (fun hc => ?_) (fun hc => ?_)
    · replace h := bif_t hc h
      refine Tr.seq ?_
      refine Tr.seq ?_
      refine Tr.region ?_
      refine RegL.pure (p := (pEq (.pointer (some ⟨hb0, 0, none⟩)))) rfl rfl rfl (J_move rfl (Opd.tmp rfl)) ?_
      refine RegL.pure (p := (pEq (.pointer (some ⟨hb0, 0, none⟩)))) rfl rfl rfl (J_nilCheckE rfl (Opd.tmp rfl)) ?_
      refine RegL.pure (p := (pEq (.pointer (some ⟨hb0, 5, none⟩)))) rfl rfl rfl (J_fieldAddrE rfl Try.underlying88 rfl sz2 (by decide) (Opd.tmp rfl) rfl) ?_
      refine RegL.pureW (p := (pEq (.int .i64 a_0.count))) rfl rfl rfl (W_load (i := 0) rfl Try.isAgg2 (Opd.tmp rfl) rfl rfl) ?_
      refine RegL.pure (p := (pEq (.bool (a_0.count == (0 : Int))))) rfl rfl rfl (J_bin rfl (Opd.tmp rfl) Opd.con B_eql) ?_
      refine RegL.nil ?_
      refine Ct.then_tr ?_
      refine Tr.weak (Γ' := [(0, (pEq (.pointer (some ⟨hb0, 0, none⟩)))), (35, (pEq (.bool (a_0.count == (0 : Int)))))]) ⟨rfl, rfl, trivial⟩ ?_
      replace h := bind_some h; obtain ⟨x4, hx4, h⟩ := h
      refine Tr.cut (γ := G3) (Γm := fun g => [(0, (pEq (.pointer (some ⟨hb0, 0, none⟩))))]) (Ωm := fun g => [oBlk hb0 [(pPtr (cGProblem a_0.p)), (pEq (.slice ho0_1 hn0_1 hc0_1)), (pEq (.int .i64 a_0.span)), (pEq (.int .i64 (w64 (a_0.nodes + (1 : Int))))), (pEq (.int .i64 a_0.budget)), (pEq (.int .i64 a_0.count)), (pEq (.slice g.1 g.2.1 g.2.2)), (pEq (.bool a_0.stop))], oSl 2 1 (cK .i64) ho0_1 hn0_1 hc0_1 a_0.list, oSl 2 1 (cK .i64) g.1 g.2.1 g.2.2 x4]) ?_ (fun g9 => ?_)
      · clear h
        have h := hx4
        clear hx4
        refine Tr.cond (Opd.tmp rfl) (fun hc => ?_) (fun hc => ?_)
        · replace h := bif_t hc h
          refine Tr.region ?_
          refine RegL.pure (p := (pEq (.pointer (some ⟨hb0, 0, none⟩)))) rfl rfl rfl (J_move rfl (Opd.tmp rfl)) ?_
          refine RegL.pure (p := (pEq (.pointer (some ⟨hb0, 0, none⟩)))) rfl rfl rfl (J_move rfl (Opd.tmp rfl)) ?_
          refine RegL.pure (p := (pEq (.pointer (some ⟨hb0, 0, none⟩)))) rfl rfl rfl (J_nilCheckE rfl (Opd.tmp rfl)) ?_
          refine RegL.pure (p := (pEq (.pointer (some ⟨hb0, 1, none⟩)))) rfl rfl rfl (J_fieldAddrE rfl Try.underlying88 rfl sz25 (by decide) (Opd.tmp rfl) rfl) ?_
          refine RegL.pureW (p := (pEq (.slice ho0_1 hn0_1 hc0_1))) rfl rfl rfl (W_load (i := 0) rfl Try.isAgg25 (Opd.tmp rfl) rfl rfl) ?_
          replace h := bind_some h; obtain ⟨x5, hx5, h⟩ := h
          refine RegL.step (γ := G3) (p := fun g => (pEq (.slice g.1 g.2.1 g.2.2))) (Ω' := fun g => [oSl 2 1 (cK .i64) g.1 g.2.1 g.2.2 x5, oBlk hb0 [(pPtr (cGProblem a_0.p)), (pEq (.slice ho0_1 hn0_1 hc0_1)), (pEq (.int .i64 a_0.span)), (pEq (.int .i64 (w64 (a_0.nodes + (1 : Int))))), (pEq (.int .i64 a_0.budget)), (pEq (.int .i64 a_0.count)), (pEq (.slice ho0_6 hn0_6 hc0_6)), (pEq (.bool a_0.stop))], oSl 2 1 (cK .i64) ho0_1 hn0_1 hc0_1 a_0.list, oSl 2 1 (cK .i64) ho0_6 hn0_6 hc0_6 a_0.first]) rfl rfl rfl (M_callHB (Ωi := []) rfl Try.call50 (o_spec_l00Own hx5) (OpdsA.cons (OpdA.conv rfl (Conv.row (f := (cK .i64)) 1 (fun _ => rfl) rfl)) OpdsA.nil) (fun _ => FreeP.eq) (fun _ => ⟨(FreeO.sl (fun _ => ⟨FreeP.eq, trivial⟩)), trivial⟩)) fun g6 => ?_
          refine RegL.pure (p := (pEq (.pointer (some ⟨hb0, 0, none⟩)))) rfl rfl rfl (J_nilCheckE rfl (Opd.tmp rfl)) ?_
          refine RegL.pure (p := (pEq (.pointer (some ⟨hb0, 6, none⟩)))) rfl rfl rfl (J_fieldAddrE rfl Try.underlying88 rfl sz25 (by decide) (Opd.tmp rfl) rfl) ?_
          refine RegL.re (Ω2 := [oBlk hb0 [(pPtr (cGProblem a_0.p)), (pEq (.slice ho0_1 hn0_1 hc0_1)), (pEq (.int .i64 a_0.span)), (pEq (.int .i64 (w64 (a_0.nodes + (1 : Int))))), (pEq (.int .i64 a_0.budget)), (pEq (.int .i64 a_0.count)), (pEq (.slice ho0_6 hn0_6 hc0_6)), (pEq (.bool a_0.stop))], oSl 2 1 (cK .i64) g6.1 g6.2.1 g6.2.2 x5, oSl 2 1 (cK .i64) ho0_1 hn0_1 hc0_1 a_0.list, oSl 2 1 (cK .i64) ho0_6 hn0_6 hc0_6 a_0.first]) (fun h => SatO.pick 1 h) ?_
          refine RegL.stepN (γ := Unit) (p := fun _ => pAny) (Ω' := fun _ => [oBlk hb0 [(pPtr (cGProblem a_0.p)), (pEq (.slice ho0_1 hn0_1 hc0_1)), (pEq (.int .i64 a_0.span)), (pEq (.int .i64 (w64 (a_0.nodes + (1 : Int))))), (pEq (.int .i64 a_0.budget)), (pEq (.int .i64 a_0.count)), (pEq (.slice g6.1 g6.2.1 g6.2.2)), (pEq (.bool a_0.stop))], oSl 2 1 (cK .i64) g6.1 g6.2.1 g6.2.2 x5, oSl 2 1 (cK .i64) ho0_1 hn0_1 hc0_1 a_0.list, oSl 2 1 (cK .i64) ho0_6 hn0_6 hc0_6 a_0.first]) rfl rfl (M_store rfl sz25 (Opd.tmp rfl) (Opd.tmp rfl) OneC.slice rfl rfl) fun g8 => ?_
          refine RegL.nil ?_
          refine Ct.re (Ω2 := [oSl 2 1 (cK .i64) ho0_6 hn0_6 hc0_6 a_0.first, oBlk hb0 [(pPtr (cGProblem a_0.p)), (pEq (.slice ho0_1 hn0_1 hc0_1)), (pEq (.int .i64 a_0.span)), (pEq (.int .i64 (w64 (a_0.nodes + (1 : Int))))), (pEq (.int .i64 a_0.budget)), (pEq (.int .i64 a_0.count)), (pEq (.slice g6.1 g6.2.1 g6.2.2)), (pEq (.bool a_0.stop))], oSl 2 1 (cK .i64) g6.1 g6.2.1 g6.2.2 x5, oSl 2 1 (cK .i64) ho0_1 hn0_1 hc0_1 a_0.list]) (fun h => SatO.pick 3 h) ?_
          refine Ct.re (Ω2 := [oBlk hb0 [(pPtr (cGProblem a_0.p)), (pEq (.slice ho0_1 hn0_1 hc0_1)), (pEq (.int .i64 a_0.span)), (pEq (.int .i64 (w64 (a_0.nodes + (1 : Int))))), (pEq (.int .i64 a_0.budget)), (pEq (.int .i64 a_0.count)), (pEq (.slice g6.1 g6.2.1 g6.2.2)), (pEq (.bool a_0.stop))], oSl 2 1 (cK .i64) g6.1 g6.2.1 g6.2.2 x5, oSl 2 1 (cK .i64) ho0_1 hn0_1 hc0_1 a_0.list]) (fun h => SatO.rest h) ?_
          refine Ct.re (Ω2 := [oSl 2 1 (cK .i64) g6.1 g6.2.1 g6.2.2 x5, oBlk hb0 [(pPtr (cGProblem a_0.p)), (pEq (.slice ho0_1 hn0_1 hc0_1)), (pEq (.int .i64 a_0.span)), (pEq (.int .i64 (w64 (a_0.nodes + (1 : Int))))), (pEq (.int .i64 a_0.budget)), (pEq (.int .i64 a_0.count)), (pEq (.slice g6.1 g6.2.1 g6.2.2)), (pEq (.bool a_0.stop))], oSl 2 1 (cK .i64) ho0_1 hn0_1 hc0_1 a_0.list]) (fun h => SatO.pick 1 h) ?_
          refine Ct.re (Ω2 := [oSl 2 1 (cK .i64) ho0_1 hn0_1 hc0_1 a_0.list, oSl 2 1 (cK .i64) g6.1 g6.2.1 g6.2.2 x5, oBlk hb0 [(pPtr (cGProblem a_0.p)), (pEq (.slice ho0_1 hn0_1 hc0_1)), (pEq (.int .i64 a_0.span)), (pEq (.int .i64 (w64 (a_0.nodes + (1 : Int))))), (pEq (.int .i64 a_0.budget)), (pEq (.int .i64 a_0.count)), (pEq (.slice g6.1 g6.2.1 g6.2.2)), (pEq (.bool a_0.stop))]]) (fun h => SatO.pick 2 h) ?_
          refine Ct.re (Ω2 := [oBlk hb0 [(pPtr (cGProblem a_0.p)), (pEq (.slice ho0_1 hn0_1 hc0_1)), (pEq (.int .i64 a_0.span)), (pEq (.int .i64 (w64 (a_0.nodes + (1 : Int))))), (pEq (.int .i64 a_0.budget)), (pEq (.int .i64 a_0.count)), (pEq (.slice g6.1 g6.2.1 g6.2.2)), (pEq (.bool a_0.stop))], oSl 2 1 (cK .i64) ho0_1 hn0_1 hc0_1 a_0.list, oSl 2 1 (cK .i64) g6.1 g6.2.1 g6.2.2 x5]) (fun h => SatO.pick 2 h) ?_
          replace h := Option.some.inj h; subst h
          exact Ct.mid (g6.1, g6.2.1, g6.2.2) rfl ⟨rfl, trivial⟩
        · replace h := bif_f hc h
          refine Tr.skip ?_
          replace h := Option.some.inj h; subst h
          exact Ct.mid (ho0_6, hn0_6, hc0_6) rfl ⟨rfl, trivial⟩
      · clear hx4
        refine Ct.then_tr ?_
        refine Tr.weak (Γ' := [(0, (pEq (.pointer (some ⟨hb0, 0, none⟩))))]) ⟨rfl, trivial⟩ ?_
        refine Tr.seq ?_
        refine Tr.region ?_
        refine RegL.pure (p := (pEq (.pointer (some ⟨hb0, 0, none⟩)))) rfl rfl rfl (J_move rfl (Opd.tmp rfl)) ?_
        refine RegL.pure (p := (pEq (.pointer (some ⟨hb0, 0, none⟩)))) rfl rfl rfl (J_nilCheckE rfl (Opd.tmp rfl)) ?_
        refine RegL.pure (p := (pEq (.pointer (some ⟨hb0, 5, none⟩)))) rfl rfl rfl (J_fieldAddrE rfl Try.underlying88 rfl sz2 (by decide) (Opd.tmp rfl) rfl) ?_
        refine RegL.pureW (p := (pEq (.int .i64 a_0.count))) rfl rfl rfl (W_load (i := 0) rfl Try.isAgg2 (Opd.tmp rfl) rfl rfl) ?_
        refine RegL.pure (p := (pEq (.int .i64 (w64 (a_0.count + (1 : Int)))))) rfl rfl rfl (J_bin rfl (Opd.tmp rfl) Opd.con B_add) ?_
        refine RegL.pure (p := (pEq (.pointer (some ⟨hb0, 0, none⟩)))) rfl rfl rfl (J_nilCheckE rfl (Opd.tmp rfl)) ?_
        refine RegL.pure (p := (pEq (.pointer (some ⟨hb0, 5, none⟩)))) rfl rfl rfl (J_fieldAddrE rfl Try.underlying88 rfl sz2 (by decide) (Opd.tmp rfl) rfl) ?_
        refine RegL.stepN (γ := Unit) (p := fun _ => pAny) (Ω' := fun _ => [oBlk hb0 [(pPtr (cGProblem a_0.p)), (pEq (.slice ho0_1 hn0_1 hc0_1)), (pEq (.int .i64 a_0.span)), (pEq (.int .i64 (w64 (a_0.nodes + (1 : Int))))), (pEq (.int .i64 a_0.budget)), (pEq (.int .i64 (w64 (a_0.count + (1 : Int))))), (pEq (.slice g9.1 g9.2.1 g9.2.2)), (pEq (.bool a_0.stop))], oSl 2 1 (cK .i64) ho0_1 hn0_1 hc0_1 a_0.list, oSl 2 1 (cK .i64) g9.1 g9.2.1 g9.2.2 x4]) rfl rfl (M_store rfl sz2 (Opd.tmp rfl) (Opd.tmp rfl) OneC.int rfl rfl) fun g10 => ?_
        refine RegL.nil ?_
        refine Ct.then_tr ?_
        refine Tr.weak (Γ' := [(0, (pEq (.pointer (some ⟨hb0, 0, none⟩))))]) ⟨rfl, trivial⟩ ?_
        refine Tr.seq ?_
        refine Tr.region ?_
        refine RegL.pure (p := (pEq (.pointer (some ⟨hb0, 0, none⟩)))) rfl rfl rfl (J_move rfl (Opd.tmp rfl)) ?_
        refine RegL.pure (p := (pEq (.pointer (some ⟨hb0, 0, none⟩)))) rfl rfl rfl (J_nilCheckE rfl (Opd.tmp rfl)) ?_
        refine RegL.pure (p := (pEq (.pointer (some ⟨hb0, 7, none⟩)))) rfl rfl rfl (J_fieldAddrE rfl Try.underlying88 rfl sz4 (by decide) (Opd.tmp rfl) rfl) ?_
        refine RegL.pureW (p := (pEq (.bool a_0.stop))) rfl rfl rfl (W_load (i := 0) rfl Try.isAgg4 (Opd.tmp rfl) rfl rfl) ?_
        refine RegL.pure (p := (pEq (.bool (!a_0.stop)))) rfl rfl rfl (J_not rfl (Opd.tmp rfl)) ?_
        refine RegL.pure (p := (pEq (.bool (!a_0.stop)))) rfl rfl rfl (J_assign rfl (Opd.tmp rfl)) ?_
        refine RegL.nil ?_
        refine Ct.then_tr ?_
        refine Tr.weak (Γ' := [(4, (pEq (.bool (!a_0.stop))))]) ⟨rfl, trivial⟩ ?_
        refine Tr.ret ?_
        refine Ct.then_ret ?_
        replace h := Option.some.inj h; subst h
        exact Ct.retH1 (Ωx := []) ((ho0_1, hn0_1, hc0_1), (g9.1, g9.2.1, g9.2.2)) rfl (RvOk.tmp rfl) rfl
    · replace h := bif_f hc h
      refine Tr.skip ?_
      refine Ct.then_tr ?_
      refine Tr.weak (Γ' := [(0, (pEq (.pointer (some ⟨hb0, 0, none⟩)))), (1, (pEq (.int .i64 a_1)))]) ⟨rfl, rfl, trivial⟩ ?_
      refine Tr.seq ?_
      refine Tr.drawD (n := 114) (m := 10) (es := [some (Ent.mk [(0, (pEq (.pointer (some ⟨hb0, 0, none⟩))))] (pEq (.pointer (some ⟨hb0, 0, none⟩))) true), some (Ent.mk [(56, (pEq (.pointer (some ⟨hb0, 0, none⟩))))] (pEq (.pointer (some ⟨hb0, 0, none⟩))) true), some (Ent.mk [(57, (pEq (.pointer (some ⟨hb0, 0, none⟩))))] (pEq (.pointer (some ⟨hb0, 0, none⟩))) true), some (Ent.mk [(58, (pEq (.pointer (some ⟨hb0, 0, none⟩))))] (pPtr (cGProblem a_0.p)) true), some (Ent.mk [(0, (pEq (.pointer (some ⟨hb0, 0, none⟩))))] (pEq (.pointer (some ⟨hb0, 0, none⟩))) true), some (Ent.mk [(60, (pEq (.pointer (some ⟨hb0, 0, none⟩))))] (pEq (.pointer (some ⟨hb0, 0, none⟩))) true), some (Ent.mk [(61, (pEq (.pointer (some ⟨hb0, 0, none⟩))))] (pEq (.pointer (some ⟨hb0, 1, none⟩))) true), some (Ent.mk [(62, (pEq (.pointer (some ⟨hb0, 1, none⟩))))] (pEq (.slice ho0_1 hn0_1 hc0_1)) true), some (Ent.mk [(1, (pEq (.int .i64 a_1)))] (pEq (.int .i64 a_1)) true), none]) (rd := [[0], [56], [57], [58], [0], [60], [61], [62], [1], [59, 63, 64]]) rfl hmix (by kernel_rfl) fun hD => ?_
      replace h := bind_some h; obtain ⟨x11, hx11, h⟩ := h
      refine RD.step hD (es := [some (Ent.mk [(0, (pEq (.pointer (some ⟨hb0, 0, none⟩))))] (pEq (.pointer (some ⟨hb0, 0, none⟩))) true), some (Ent.mk [(56, (pEq (.pointer (some ⟨hb0, 0, none⟩))))] (pEq (.pointer (some ⟨hb0, 0, none⟩))) true), some (Ent.mk [(57, (pEq (.pointer (some ⟨hb0, 0, none⟩))))] (pEq (.pointer (some ⟨hb0, 0, none⟩))) true), some (Ent.mk [(58, (pEq (.pointer (some ⟨hb0, 0, none⟩))))] (pPtr (cGProblem a_0.p)) true), some (Ent.mk [(0, (pEq (.pointer (some ⟨hb0, 0, none⟩))))] (pEq (.pointer (some ⟨hb0, 0, none⟩))) true), some (Ent.mk [(60, (pEq (.pointer (some ⟨hb0, 0, none⟩))))] (pEq (.pointer (some ⟨hb0, 0, none⟩))) true), some (Ent.mk [(61, (pEq (.pointer (some ⟨hb0, 0, none⟩))))] (pEq (.pointer (some ⟨hb0, 1, none⟩))) true), some (Ent.mk [(62, (pEq (.pointer (some ⟨hb0, 1, none⟩))))] (pEq (.slice ho0_1 hn0_1 hc0_1)) true), some (Ent.mk [(1, (pEq (.int .i64 a_1)))] (pEq (.int .i64 a_1)) true), none]) (done := []) (mask := [true, true, true, true, true, true, true, true, true, false]) (γ := G3) (p := fun g => (pEq (.slice g.1 g.2.1 g.2.2))) (Ω' := fun g => [oSl 2 1 (cK .i64) g.1 g.2.1 g.2.2 x11, oBlk hb0 [(pPtr (cGProblem a_0.p)), (pEq (.slice ho0_1 hn0_1 hc0_1)), (pEq (.int .i64 a_0.span)), (pEq (.int .i64 (w64 (a_0.nodes + (1 : Int))))), (pEq (.int .i64 a_0.budget)), (pEq (.int .i64 a_0.count)), (pEq (.slice ho0_6 hn0_6 hc0_6)), (pEq (.bool a_0.stop))], oSl 2 1 (cK .i64) ho0_1 hn0_1 hc0_1 a_0.list, oSl 2 1 (cK .i64) ho0_6 hn0_6 hc0_6 a_0.first]) (es' := fun g12 => [some (Ent.mk [(0, (pEq (.pointer (some ⟨hb0, 0, none⟩))))] (pEq (.pointer (some ⟨hb0, 0, none⟩))) true), some (Ent.mk [(56, (pEq (.pointer (some ⟨hb0, 0, none⟩))))] (pEq (.pointer (some ⟨hb0, 0, none⟩))) true), some (Ent.mk [(57, (pEq (.pointer (some ⟨hb0, 0, none⟩))))] (pEq (.pointer (some ⟨hb0, 0, none⟩))) true), some (Ent.mk [(58, (pEq (.pointer (some ⟨hb0, 0, none⟩))))] (pPtr (cGProblem a_0.p)) true), some (Ent.mk [(0, (pEq (.pointer (some ⟨hb0, 0, none⟩))))] (pEq (.pointer (some ⟨hb0, 0, none⟩))) true), some (Ent.mk [(60, (pEq (.pointer (some ⟨hb0, 0, none⟩))))] (pEq (.pointer (some ⟨hb0, 0, none⟩))) true), some (Ent.mk [(61, (pEq (.pointer (some ⟨hb0, 0, none⟩))))] (pEq (.pointer (some ⟨hb0, 1, none⟩))) true), some (Ent.mk [(62, (pEq (.pointer (some ⟨hb0, 1, none⟩))))] (pEq (.slice ho0_1 hn0_1 hc0_1)) true), some (Ent.mk [(1, (pEq (.int .i64 a_1)))] (pEq (.int .i64 a_1)) true), some (Ent.mk [(59, (pPtr (cGProblem a_0.p))), (63, (pEq (.slice ho0_1 hn0_1 hc0_1))), (64, (pEq (.int .i64 a_1)))] (pEq (.slice g12.1 g12.2.1 g12.2.2)) true)]) (Γc := [(59, (pPtr (cGProblem a_0.p))), (63, (pEq (.slice ho0_1 hn0_1 hc0_1))), (64, (pEq (.int .i64 a_1)))]) 9 rfl rfl rfl (by kernel_rfl) ⟨.inr ⟨(OpJ.w (J_move rfl (Opd.tmp rfl))), ⟨rfl, trivial⟩, rfl, rfl⟩, ⟨.inr ⟨(OpJ.w (J_nilCheckE rfl (Opd.tmp rfl))), ⟨rfl, trivial⟩, rfl, rfl⟩, ⟨.inr ⟨(OpJ.w (J_fieldAddrE rfl Try.underlying88 rfl sz52 (by decide) (Opd.tmp rfl) rfl)), ⟨rfl, trivial⟩, rfl, rfl⟩, ⟨.inr ⟨(W_load (i := 0) rfl Try.isAgg52 (Opd.tmp rfl) rfl rfl), ⟨rfl, trivial⟩, rfl, rfl⟩, ⟨.inr ⟨(OpJ.w (J_move rfl (Opd.tmp rfl))), ⟨rfl, trivial⟩, rfl, rfl⟩, ⟨.inr ⟨(OpJ.w (J_nilCheckE rfl (Opd.tmp rfl))), ⟨rfl, trivial⟩, rfl, rfl⟩, ⟨.inr ⟨(OpJ.w (J_fieldAddrE rfl Try.underlying88 rfl sz25 (by decide) (Opd.tmp rfl) rfl)), ⟨rfl, trivial⟩, rfl, rfl⟩, ⟨.inr ⟨(W_load (i := 0) rfl Try.isAgg25 (Opd.tmp rfl) rfl rfl), ⟨rfl, trivial⟩, rfl, rfl⟩, ⟨.inr ⟨(OpJ.w (J_move rfl (Opd.tmp rfl))), ⟨rfl, trivial⟩, rfl, rfl⟩, trivial⟩⟩⟩⟩⟩⟩⟩⟩⟩ rfl rfl ⟨rfl, rfl, rfl, trivial⟩ (fun _ => M_callHB (Ωi := []) rfl Try.call57 (o_spec_l18Choices hx11) (OpdsA.cons (OpdA.of (Opd.tmp rfl)) (OpdsA.cons (OpdA.conv rfl (Conv.row (f := (cK .i64)) 1 (fun _ => rfl) rfl)) (OpdsA.cons (OpdA.of (Opd.tmp rfl)) OpdsA.nil))) (fun _ => FreeP.eq) (fun _ => ⟨(FreeO.sl (fun _ => ⟨FreeP.eq, trivial⟩)), trivial⟩)) (fun g12 => ⟨rfl, ⟨rfl, ⟨rfl, ⟨rfl, ⟨rfl, ⟨rfl, ⟨rfl, ⟨rfl, ⟨rfl, trivial⟩⟩⟩⟩⟩⟩⟩⟩⟩) (fun g12 => rfl) rfl fun g12 => ?_
      refine RD.fin (es := [Ent.mk [(0, (pEq (.pointer (some ⟨hb0, 0, none⟩))))] (pEq (.pointer (some ⟨hb0, 0, none⟩))) true, Ent.mk [(56, (pEq (.pointer (some ⟨hb0, 0, none⟩))))] (pEq (.pointer (some ⟨hb0, 0, none⟩))) true, Ent.mk [(57, (pEq (.pointer (some ⟨hb0, 0, none⟩))))] (pEq (.pointer (some ⟨hb0, 0, none⟩))) true, Ent.mk [(58, (pEq (.pointer (some ⟨hb0, 0, none⟩))))] (pPtr (cGProblem a_0.p)) true, Ent.mk [(0, (pEq (.pointer (some ⟨hb0, 0, none⟩))))] (pEq (.pointer (some ⟨hb0, 0, none⟩))) true, Ent.mk [(60, (pEq (.pointer (some ⟨hb0, 0, none⟩))))] (pEq (.pointer (some ⟨hb0, 0, none⟩))) true, Ent.mk [(61, (pEq (.pointer (some ⟨hb0, 0, none⟩))))] (pEq (.pointer (some ⟨hb0, 1, none⟩))) true, Ent.mk [(62, (pEq (.pointer (some ⟨hb0, 1, none⟩))))] (pEq (.slice ho0_1 hn0_1 hc0_1)) true, Ent.mk [(1, (pEq (.int .i64 a_1)))] (pEq (.int .i64 a_1)) true, Ent.mk [(59, (pPtr (cGProblem a_0.p))), (63, (pEq (.slice ho0_1 hn0_1 hc0_1))), (64, (pEq (.int .i64 a_1)))] (pEq (.slice g12.1 g12.2.1 g12.2.2)) true]) (done := [9]) hD ⟨.inr ⟨(OpJ.w (J_move rfl (Opd.tmp rfl))), ⟨rfl, trivial⟩, rfl, rfl⟩, ⟨.inr ⟨(OpJ.w (J_nilCheckE rfl (Opd.tmp rfl))), ⟨rfl, trivial⟩, rfl, rfl⟩, ⟨.inr ⟨(OpJ.w (J_fieldAddrE rfl Try.underlying88 rfl sz52 (by decide) (Opd.tmp rfl) rfl)), ⟨rfl, trivial⟩, rfl, rfl⟩, ⟨.inr ⟨(W_load (i := 1) rfl Try.isAgg52 (Opd.tmp rfl) rfl rfl), ⟨rfl, trivial⟩, rfl, rfl⟩, ⟨.inr ⟨(OpJ.w (J_move rfl (Opd.tmp rfl))), ⟨rfl, trivial⟩, rfl, rfl⟩, ⟨.inr ⟨(OpJ.w (J_nilCheckE rfl (Opd.tmp rfl))), ⟨rfl, trivial⟩, rfl, rfl⟩, ⟨.inr ⟨(OpJ.w (J_fieldAddrE rfl Try.underlying88 rfl sz25 (by decide) (Opd.tmp rfl) rfl)), ⟨rfl, trivial⟩, rfl, rfl⟩, ⟨.inr ⟨(W_load (i := 1) rfl Try.isAgg25 (Opd.tmp rfl) rfl rfl), ⟨rfl, trivial⟩, rfl, rfl⟩, ⟨.inr ⟨(OpJ.w (J_move rfl (Opd.tmp rfl))), ⟨rfl, trivial⟩, rfl, rfl⟩, ⟨.inl rfl, trivial⟩⟩⟩⟩⟩⟩⟩⟩⟩⟩ ?_
      refine RegL.pure (p := (pEq (.slice g12.1 g12.2.1 g12.2.2))) rfl rfl rfl (J_assign rfl (Opd.tmp rfl)) ?_
      refine RegL.nil ?_
      refine Ct.then_tr ?_
      refine Tr.weak (Γ' := [(0, (pEq (.pointer (some ⟨hb0, 0, none⟩)))), (1, (pEq (.int .i64 a_1))), (5, (pEq (.slice g12.1 g12.2.1 g12.2.2)))]) ⟨rfl, rfl, rfl, trivial⟩ ?_
      refine Tr.seq ?_
      refine Tr.seq ?_
      refine Tr.region ?_
      refine RegL.pure (p := (pEq (.int .i64 (0 : Int)))) rfl rfl rfl (J_assign rfl Opd.con) ?_
      refine RegL.nil ?_
      refine Ct.then_tr ?_
      refine Tr.weak (Γ' := [(0, (pEq (.pointer (some ⟨hb0, 0, none⟩)))), (1, (pEq (.int .i64 a_1))), (5, (pEq (.slice g12.1 g12.2.1 g12.2.2))), (6, (pEq (.int .i64 (0 : Int))))]) ⟨rfl, rfl, rfl, rfl, trivial⟩ ?_
      refine Tr.block ?_
      refine Tr.weak (Γ' := [(0, (pEq (.pointer (some ⟨hb0, 0, none⟩)))), (1, (pEq (.int .i64 a_1))), (5, (pEq (.slice g12.1 g12.2.1 g12.2.2))), (6, (pEq (.int .i64 (0 : Int))))]) ⟨rfl, rfl, rfl, rfl, trivial⟩ ?_
      refine Tr.loop (γ := (G3 × G3)) (σ := (Int × Int × Int × (List Int) × (List Int))) (Γσ := fun s g => [(0, (pEq (.pointer (some ⟨hb0, 0, none⟩)))), (1, (pEq (.int .i64 a_1))), (5, (pEq (.slice g12.1 g12.2.1 g12.2.2))), (6, (pEq (.int .i64 s.1)))]) (Ωσ := fun s g => [oSl 2 1 (cK .i64) g12.1 g12.2.1 g12.2.2 x11, oBlk hb0 [(pPtr (cGProblem a_0.p)), (pEq (.slice g.1.1 g.1.2.1 g.1.2.2)), (pEq (.int .i64 a_0.span)), (pEq (.int .i64 s.2.1)), (pEq (.int .i64 a_0.budget)), (pEq (.int .i64 s.2.2.1)), (pEq (.slice g.2.1 g.2.2.1 g.2.2.2)), (pEq (.bool a_0.stop))], oSl 2 1 (cK .i64) g.1.1 g.1.2.1 g.1.2.2 s.2.2.2.1, oSl 2 1 (cK .i64) g.2.1 g.2.2.1 g.2.2.2 s.2.2.2.2]) (g := ((ho0_1, hn0_1, hc0_1), (ho0_6, hn0_6, hc0_6))) h ?_
      clear h
      rintro ⟨v15, v16, v17, v18, v19⟩ g20 t h
      replace h : m_spec_l18Search_visit_B14 (iterM (fun self (a : (GL18Search × Int)) => mf_spec_l18Search_visit self a.1 a.2) n) a_0 a_1 x11 v15 v16 v17 v18 v19 = some t := h
      unfold m_spec_l18Search_visit_B14 at h
      refine Tr.weakO (Γ' := [(0, (pEq (.pointer (some ⟨hb0, 0, none⟩)))), (1, (pEq (.int .i64 a_1))), (5, (pEq (.slice g12.1 g12.2.1 g12.2.2))), (6, (pEq (.int .i64 v15)))]) (Ω' := [oSl 2 1 (cK .i64) g12.1 g12.2.1 g12.2.2 x11, oBlk hb0 [(pPtr (cGProblem a_0.p)), (pEq (.slice g20.1.1 g20.1.2.1 g20.1.2.2)), (pEq (.int .i64 a_0.span)), (pEq (.int .i64 v16)), (pEq (.int .i64 a_0.budget)), (pEq (.int .i64 v17)), (pEq (.slice g20.2.1 g20.2.2.1 g20.2.2.2)), (pEq (.bool a_0.stop))], oSl 2 1 (cK .i64) g20.1.1 g20.1.2.1 g20.1.2.2 v18, oSl 2 1 (cK .i64) g20.2.1 g20.2.2.1 g20.2.2.2 v19]) rfl ⟨rfl, rfl, rfl, rfl, trivial⟩ ?_
      refine Tr.seq ?_
      refine Tr.seq ?_
      refine Tr.region ?_
      refine RegL.pure (p := (pEq (.int .i64 v15))) rfl rfl rfl (J_move rfl (Opd.tmp rfl)) ?_
      refine RegL.pure (p := (pEq (.slice g12.1 g12.2.1 g12.2.2))) rfl rfl rfl (J_move rfl (Opd.tmp rfl)) ?_
      refine RegL.pureW (p := (pEq (.int .i64 (x11.length : Int)))) rfl rfl rfl (W_rowLen (j := 0) rfl Try.underlying25 (Opd.tmp rfl) rfl) ?_
      refine RegL.pure (p := (pEq (.bool (decide (v15 < (x11.length : Int)))))) rfl rfl rfl (J_bin rfl (Opd.tmp rfl) (Opd.tmp rfl) B_lss) ?_
      refine RegL.nil ?_
      refine Ct.then_tr ?_
      refine Tr.weak (Γ' := [(0, (pEq (.pointer (some ⟨hb0, 0, none⟩)))), (1, (pEq (.int .i64 a_1))), (5, (pEq (.slice g12.1 g12.2.1 g12.2.2))), (6, (pEq (.int .i64 v15))), (69, (pEq (.bool (decide (v15 < (x11.length : Int))))))]) ⟨rfl, rfl, rfl, rfl, rfl, trivial⟩ ?_
      refine Tr.cond (Opd.tmp rfl) (fun hc => ?_) (fun hc => ?_)
      · replace h := bif_t hc h
        refine Tr.skip ?_
        refine Ct.then_tr ?_
        refine Tr.weak (Γ' := [(0, (pEq (.pointer (some ⟨hb0, 0, none⟩)))), (1, (pEq (.int .i64 a_1))), (5, (pEq (.slice g12.1 g12.2.1 g12.2.2))), (6, (pEq (.int .i64 v15)))]) ⟨rfl, rfl, rfl, rfl, trivial⟩ ?_
        refine Tr.seq ?_
        refine Tr.block ?_
        refine Tr.seq ?_
        replace h := bind_some h; obtain ⟨x21, hx21, h⟩ := h
        refine Tr.drawD (n := 114) (m := 9) (es := [some (Ent.mk [(0, (pEq (.pointer (some ⟨hb0, 0, none⟩))))] (pEq (.pointer (some ⟨hb0, 0, none⟩))) true), some (Ent.mk [(72, (pEq (.pointer (some ⟨hb0, 0, none⟩))))] (pEq (.pointer (some ⟨hb0, 0, none⟩))) true), some (Ent.mk [(73, (pEq (.pointer (some ⟨hb0, 0, none⟩))))] (pEq (.pointer (some ⟨hb0, 1, none⟩))) true), some (Ent.mk [(74, (pEq (.pointer (some ⟨hb0, 1, none⟩))))] (pEq (.slice g20.1.1 g20.1.2.1 g20.1.2.2)) true), some (Ent.mk [(1, (pEq (.int .i64 a_1)))] (pEq (.int .i64 a_1)) true), some (Ent.mk [(5, (pEq (.slice g12.1 g12.2.1 g12.2.2)))] (pEq (.slice g12.1 g12.2.1 g12.2.2)) true), some (Ent.mk [(6, (pEq (.int .i64 v15)))] (pEq (.int .i64 v15)) true), some (Ent.mk [(77, (pEq (.slice g12.1 g12.2.1 g12.2.2))), (78, (pEq (.int .i64 v15)))] (pEq (.pointer (some ⟨blk g12.1, (v15).toNat * 1, none⟩))) true), some (Ent.mk [(79, (pEq (.pointer (some ⟨blk g12.1, (v15).toNat * 1, none⟩))))] (pEq (.int .i64 x21)) true)]) (rd := [[0], [72], [73], [74], [1], [5], [6], [77, 78], [79]]) rfl hmix (by kernel_rfl) fun hD => ?_
        refine RD.fin (es := [Ent.mk [(0, (pEq (.pointer (some ⟨hb0, 0, none⟩))))] (pEq (.pointer (some ⟨hb0, 0, none⟩))) true, Ent.mk [(72, (pEq (.pointer (some ⟨hb0, 0, none⟩))))] (pEq (.pointer (some ⟨hb0, 0, none⟩))) true, Ent.mk [(73, (pEq (.pointer (some ⟨hb0, 0, none⟩))))] (pEq (.pointer (some ⟨hb0, 1, none⟩))) true, Ent.mk [(74, (pEq (.pointer (some ⟨hb0, 1, none⟩))))] (pEq (.slice g20.1.1 g20.1.2.1 g20.1.2.2)) true, Ent.mk [(1, (pEq (.int .i64 a_1)))] (pEq (.int .i64 a_1)) true, Ent.mk [(5, (pEq (.slice g12.1 g12.2.1 g12.2.2)))] (pEq (.slice g12.1 g12.2.1 g12.2.2)) true, Ent.mk [(6, (pEq (.int .i64 v15)))] (pEq (.int .i64 v15)) true, Ent.mk [(77, (pEq (.slice g12.1 g12.2.1 g12.2.2))), (78, (pEq (.int .i64 v15)))] (pEq (.pointer (some ⟨blk g12.1, (v15).toNat * 1, none⟩))) true, Ent.mk [(79, (pEq (.pointer (some ⟨blk g12.1, (v15).toNat * 1, none⟩))))] (pEq (.int .i64 x21)) true]) (done := []) hD ⟨.inr ⟨(OpJ.w (J_move rfl (Opd.tmp rfl))), ⟨rfl, trivial⟩, rfl, rfl⟩, ⟨.inr ⟨(OpJ.w (J_nilCheckE rfl (Opd.tmp rfl))), ⟨rfl, trivial⟩, rfl, rfl⟩, ⟨.inr ⟨(OpJ.w (J_fieldAddrE rfl Try.underlying88 rfl sz25 (by decide) (Opd.tmp rfl) rfl)), ⟨rfl, trivial⟩, rfl, rfl⟩, ⟨.inr ⟨(W_load (i := 1) rfl Try.isAgg25 (Opd.tmp rfl) rfl rfl), ⟨rfl, trivial⟩, rfl, rfl⟩, ⟨.inr ⟨(OpJ.w (J_move rfl (Opd.tmp rfl))), ⟨rfl, trivial⟩, rfl, rfl⟩, ⟨.inr ⟨(OpJ.w (J_move rfl (Opd.tmp rfl))), ⟨rfl, trivial⟩, rfl, rfl⟩, ⟨.inr ⟨(OpJ.w (J_move rfl (Opd.tmp rfl))), ⟨rfl, trivial⟩, rfl, rfl⟩, ⟨.inr ⟨(W_rowIdx (j := 0) rfl Try.underlying25 sz2 (Opd.tmp rfl) (Opd.tmp rfl) rfl (idx_lt hx21)), ⟨rfl, rfl, trivial⟩, rfl, rfl⟩, ⟨.inr ⟨(W_rowLoad (j := 0) (f := (cK .i64)) rfl Try.isAgg2 (fun _ => rfl) (Opd.tmp rfl) rfl hx21 rfl), ⟨rfl, trivial⟩, rfl, rfl⟩, trivial⟩⟩⟩⟩⟩⟩⟩⟩⟩ ?_
        replace h := bind_some h; obtain ⟨u22, hu22, h⟩ := h
        refine RegL.pureW (p := (pEq (.pointer (some ⟨blk g20.1.1, (a_1).toNat * 1, none⟩)))) rfl rfl rfl (W_rowIdx (j := 2) rfl Try.underlying25 sz2 (Opd.tmp rfl) (Opd.tmp rfl) rfl (inB_some hu22)) ?_
        refine RegL.re (Ω2 := [oSl 2 1 (cK .i64) g20.1.1 g20.1.2.1 g20.1.2.2 v18, oSl 2 1 (cK .i64) g12.1 g12.2.1 g12.2.2 x11, oBlk hb0 [(pPtr (cGProblem a_0.p)), (pEq (.slice g20.1.1 g20.1.2.1 g20.1.2.2)), (pEq (.int .i64 a_0.span)), (pEq (.int .i64 v16)), (pEq (.int .i64 a_0.budget)), (pEq (.int .i64 v17)), (pEq (.slice g20.2.1 g20.2.2.1 g20.2.2.2)), (pEq (.bool a_0.stop))], oSl 2 1 (cK .i64) g20.2.1 g20.2.2.1 g20.2.2.2 v19]) (fun h => SatO.pick 2 h) ?_
        refine RegL.stepN (γ := Unit) (p := fun _ => pAny) (Ω' := fun _ => [oSl 2 1 (cK .i64) g20.1.1 g20.1.2.1 g20.1.2.2 (v18.set (a_1).toNat x21), oSl 2 1 (cK .i64) g12.1 g12.2.1 g12.2.2 x11, oBlk hb0 [(pPtr (cGProblem a_0.p)), (pEq (.slice g20.1.1 g20.1.2.1 g20.1.2.2)), (pEq (.int .i64 a_0.span)), (pEq (.int .i64 v16)), (pEq (.int .i64 a_0.budget)), (pEq (.int .i64 v17)), (pEq (.slice g20.2.1 g20.2.2.1 g20.2.2.2)), (pEq (.bool a_0.stop))], oSl 2 1 (cK .i64) g20.2.1 g20.2.2.1 g20.2.2.2 v19]) rfl rfl (M_rowStore rfl sz2 (fun _ => rfl) (Opd.tmp rfl) (Opd.tmp rfl) rfl OneC.int (setL_of (inB_some hu22))) fun g23 => ?_
        refine RegL.nil ?_
        refine Ct.then_tr ?_
        refine Tr.weak (Γ' := [(0, (pEq (.pointer (some ⟨hb0, 0, none⟩)))), (1, (pEq (.int .i64 a_1))), (5, (pEq (.slice g12.1 g12.2.1 g12.2.2))), (6, (pEq (.int .i64 v15)))]) ⟨rfl, rfl, rfl, rfl, trivial⟩ ?_
        refine Tr.seq ?_
        refine Tr.region ?_
        refine RegL.pure (p := (pEq (.bool true))) rfl rfl rfl (J_assign rfl Opd.con) ?_
        refine RegL.nil ?_
        refine Ct.then_tr ?_
        refine Tr.weak (Γ' := [(0, (pEq (.pointer (some ⟨hb0, 0, none⟩)))), (1, (pEq (.int .i64 a_1))), (5, (pEq (.slice g12.1 g12.2.1 g12.2.2))), (6, (pEq (.int .i64 v15))), (7, (pEq (.bool true)))]) ⟨rfl, rfl, rfl, rfl, rfl, trivial⟩ ?_
        refine Tr.seq ?_
        refine Tr.seq ?_
        replace h := bind_some h; obtain ⟨x24, hx24, h⟩ := h
        refine Tr.cut (γ := Unit) (Γm := fun g => [(0, (pEq (.pointer (some ⟨hb0, 0, none⟩)))), (1, (pEq (.int .i64 a_1))), (5, (pEq (.slice g12.1 g12.2.1 g12.2.2))), (6, (pEq (.int .i64 v15))), (7, (pEq (.bool true))), (101, (pEq (.bool x24)))]) (Ωm := fun g => [oSl 2 1 (cK .i64) g20.1.1 g20.1.2.1 g20.1.2.2 (v18.set (a_1).toNat x21), oSl 2 1 (cK .i64) g12.1 g12.2.1 g12.2.2 x11, oBlk hb0 [(pPtr (cGProblem a_0.p)), (pEq (.slice g20.1.1 g20.1.2.1 g20.1.2.2)), (pEq (.int .i64 a_0.span)), (pEq (.int .i64 v16)), (pEq (.int .i64 a_0.budget)), (pEq (.int .i64 v17)), (pEq (.slice g20.2.1 g20.2.2.1 g20.2.2.2)), (pEq (.bool a_0.stop))], oSl 2 1 (cK .i64) g20.2.1 g20.2.2.1 g20.2.2.2 v19]) ?_ (fun g28 => ?_)
        · clear h
          have h := hx24
          clear hx24
          rcases Bool.eq_false_or_eq_true (decide (a_0.span < (0 : Int))) with hc25 | hc25
          · replace h := bif_t hc25 h
            refine Tr.drawD (n := 114) (m := 20) (es := [some (Ent.mk [(0, (pEq (.pointer (some ⟨hb0, 0, none⟩))))] (pEq (.pointer (some ⟨hb0, 0, none⟩))) true), some (Ent.mk [(82, (pEq (.pointer (some ⟨hb0, 0, none⟩))))] (pEq (.pointer (some ⟨hb0, 0, none⟩))) true), some (Ent.mk [(83, (pEq (.pointer (some ⟨hb0, 0, none⟩))))] (pEq (.pointer (some ⟨hb0, 2, none⟩))) true), some (Ent.mk [(84, (pEq (.pointer (some ⟨hb0, 2, none⟩))))] (pEq (.int .i64 a_0.span)) true), some (Ent.mk [(85, (pEq (.int .i64 a_0.span)))] (pEq (.bool (decide (a_0.span < (0 : Int))))) true), some (Ent.mk [(86, (pEq (.bool (decide (a_0.span < (0 : Int))))))] (pEq (.bool (decide (a_0.span < (0 : Int))))) true), some (Ent.mk [(0, (pEq (.pointer (some ⟨hb0, 0, none⟩))))] (pEq undef) false), some (Ent.mk [(88, (pEq undef))] (pEq undef) false), some (Ent.mk [(89, (pEq undef))] (pEq undef) false), some (Ent.mk [(90, (pEq undef))] (pEq undef) false), some (Ent.mk [(1, (pEq (.int .i64 a_1)))] (pEq undef) false), some (Ent.mk [(92, (pEq undef))] (pEq undef) false), some (Ent.mk [(91, (pEq undef)), (93, (pEq undef))] (pEq undef) false), some (Ent.mk [(94, (pEq undef))] (pEq undef) false), some (Ent.mk [(0, (pEq (.pointer (some ⟨hb0, 0, none⟩))))] (pEq undef) false), some (Ent.mk [(96, (pEq undef))] (pEq undef) false), some (Ent.mk [(97, (pEq undef))] (pEq undef) false), some (Ent.mk [(98, (pEq undef))] (pEq undef) false), some (Ent.mk [(95, (pEq undef)), (99, (pEq undef))] (pEq undef) false), some (Ent.mk [(87, (pEq (.bool (decide (a_0.span < (0 : Int)))))), (100, (pEq undef))] (pEq (.bool true)) true)]) (rd := [[0], [82], [83], [84], [85], [86], [0], [88], [89], [90], [1], [92], [91, 93], [94], [0], [96], [97], [98], [95, 99], [87, 100]]) rfl hmix (by kernel_rfl) fun hD => ?_
            refine RD.fin (es := [Ent.mk [(0, (pEq (.pointer (some ⟨hb0, 0, none⟩))))] (pEq (.pointer (some ⟨hb0, 0, none⟩))) true, Ent.mk [(82, (pEq (.pointer (some ⟨hb0, 0, none⟩))))] (pEq (.pointer (some ⟨hb0, 0, none⟩))) true, Ent.mk [(83, (pEq (.pointer (some ⟨hb0, 0, none⟩))))] (pEq (.pointer (some ⟨hb0, 2, none⟩))) true, Ent.mk [(84, (pEq (.pointer (some ⟨hb0, 2, none⟩))))] (pEq (.int .i64 a_0.span)) true, Ent.mk [(85, (pEq (.int .i64 a_0.span)))] (pEq (.bool (decide (a_0.span < (0 : Int))))) true, Ent.mk [(86, (pEq (.bool (decide (a_0.span < (0 : Int))))))] (pEq (.bool (decide (a_0.span < (0 : Int))))) true, Ent.mk [(0, (pEq (.pointer (some ⟨hb0, 0, none⟩))))] (pEq undef) false, Ent.mk [(88, (pEq undef))] (pEq undef) false, Ent.mk [(89, (pEq undef))] (pEq undef) false, Ent.mk [(90, (pEq undef))] (pEq undef) false, Ent.mk [(1, (pEq (.int .i64 a_1)))] (pEq undef) false, Ent.mk [(92, (pEq undef))] (pEq undef) false, Ent.mk [(91, (pEq undef)), (93, (pEq undef))] (pEq undef) false, Ent.mk [(94, (pEq undef))] (pEq undef) false, Ent.mk [(0, (pEq (.pointer (some ⟨hb0, 0, none⟩))))] (pEq undef) false, Ent.mk [(96, (pEq undef))] (pEq undef) false, Ent.mk [(97, (pEq undef))] (pEq undef) false, Ent.mk [(98, (pEq undef))] (pEq undef) false, Ent.mk [(95, (pEq undef)), (99, (pEq undef))] (pEq undef) false, Ent.mk [(87, (pEq (.bool (decide (a_0.span < (0 : Int)))))), (100, (pEq undef))] (pEq (.bool true)) true]) (done := []) hD ⟨.inr ⟨(OpJ.w (J_move rfl (Opd.tmp rfl))), ⟨rfl, trivial⟩, rfl, rfl⟩, ⟨.inr ⟨(OpJ.w (J_nilCheckE rfl (Opd.tmp rfl))), ⟨rfl, trivial⟩, rfl, rfl⟩, ⟨.inr ⟨(OpJ.w (J_fieldAddrE rfl Try.underlying88 rfl sz2 (by decide) (Opd.tmp rfl) rfl)), ⟨rfl, trivial⟩, rfl, rfl⟩, ⟨.inr ⟨(W_load (i := 2) rfl Try.isAgg2 (Opd.tmp rfl) rfl rfl), ⟨rfl, trivial⟩, rfl, rfl⟩, ⟨.inr ⟨(OpJ.w (J_bin rfl (Opd.tmp rfl) Opd.con B_lss)), ⟨rfl, trivial⟩, rfl, rfl⟩, ⟨.inr ⟨(OpJ.w (J_move rfl (Opd.tmp rfl))), ⟨rfl, trivial⟩, rfl, rfl⟩, ⟨.inr ⟨rfl, ⟨rfl, trivial⟩, (.inl ⟨_, rfl, by simp [hc25]⟩), rfl⟩, ⟨.inr ⟨rfl, ⟨rfl, trivial⟩, (.inl ⟨_, rfl, by simp [hc25]⟩), rfl⟩, ⟨.inr ⟨rfl, ⟨rfl, trivial⟩, (.inl ⟨_, rfl, by simp [hc25]⟩), rfl⟩, ⟨.inr ⟨rfl, ⟨rfl, trivial⟩, (.inl ⟨_, rfl, by simp [hc25]⟩), rfl⟩, ⟨.inr ⟨rfl, ⟨rfl, trivial⟩, (.inl ⟨_, rfl, by simp [hc25]⟩), rfl⟩, ⟨.inr ⟨rfl, ⟨rfl, trivial⟩, (.inl ⟨_, rfl, by simp [hc25]⟩), rfl⟩, ⟨.inr ⟨rfl, ⟨rfl, rfl, trivial⟩, (.inl ⟨_, rfl, by simp [hc25]⟩), rfl⟩, ⟨.inr ⟨rfl, ⟨rfl, trivial⟩, (.inl ⟨_, rfl, by simp [hc25]⟩), rfl⟩, ⟨.inr ⟨rfl, ⟨rfl, trivial⟩, (.inl ⟨_, rfl, by simp [hc25]⟩), rfl⟩, ⟨.inr ⟨rfl, ⟨rfl, trivial⟩, (.inl ⟨_, rfl, by simp [hc25]⟩), rfl⟩, ⟨.inr ⟨rfl, ⟨rfl, trivial⟩, (.inl ⟨_, rfl, by simp [hc25]⟩), rfl⟩, ⟨.inr ⟨rfl, ⟨rfl, trivial⟩, (.inl ⟨_, rfl, by simp [hc25]⟩), rfl⟩, ⟨.inr ⟨rfl, ⟨rfl, rfl, trivial⟩, (.inl ⟨_, rfl, by simp [hc25]⟩), rfl⟩, ⟨.inr ⟨(OpJ.w (J_pick rfl (Opd.tmp rfl) (fun _ => Opd.con) (fun hf => absurd (hc25.symm.trans hf) (by decide)))), ⟨rfl, rfl, trivial⟩, rfl, rfl⟩, trivial⟩⟩⟩⟩⟩⟩⟩⟩⟩⟩⟩⟩⟩⟩⟩⟩⟩⟩⟩⟩ ?_
            refine RegL.nil ?_
            replace h := Option.some.inj h; subst h
            exact Ct.mid () rfl ⟨rfl, rfl, rfl, rfl, rfl, rfl, trivial⟩
          · replace h := bif_f hc25 h
            replace h := bind_some h; obtain ⟨u26, hu26, h⟩ := h
            replace h := bind_some h; obtain ⟨x27, hx27, h⟩ := h
            refine Tr.drawD (n := 114) (m := 20) (es := [some (Ent.mk [(0, (pEq (.pointer (some ⟨hb0, 0, none⟩))))] (pEq (.pointer (some ⟨hb0, 0, none⟩))) true), some (Ent.mk [(82, (pEq (.pointer (some ⟨hb0, 0, none⟩))))] (pEq (.pointer (some ⟨hb0, 0, none⟩))) true), some (Ent.mk [(83, (pEq (.pointer (some ⟨hb0, 0, none⟩))))] (pEq (.pointer (some ⟨hb0, 2, none⟩))) true), some (Ent.mk [(84, (pEq (.pointer (some ⟨hb0, 2, none⟩))))] (pEq (.int .i64 a_0.span)) true), some (Ent.mk [(85, (pEq (.int .i64 a_0.span)))] (pEq (.bool (decide (a_0.span < (0 : Int))))) true), some (Ent.mk [(86, (pEq (.bool (decide (a_0.span < (0 : Int))))))] (pEq (.bool (decide (a_0.span < (0 : Int))))) true), some (Ent.mk [(0, (pEq (.pointer (some ⟨hb0, 0, none⟩))))] (pEq (.pointer (some ⟨hb0, 0, none⟩))) true), some (Ent.mk [(88, (pEq (.pointer (some ⟨hb0, 0, none⟩))))] (pEq (.pointer (some ⟨hb0, 0, none⟩))) true), some (Ent.mk [(89, (pEq (.pointer (some ⟨hb0, 0, none⟩))))] (pEq (.pointer (some ⟨hb0, 1, none⟩))) true), some (Ent.mk [(90, (pEq (.pointer (some ⟨hb0, 1, none⟩))))] (pEq (.slice g20.1.1 g20.1.2.1 g20.1.2.2)) true), some (Ent.mk [(1, (pEq (.int .i64 a_1)))] (pEq (.int .i64 a_1)) true), some (Ent.mk [(92, (pEq (.int .i64 a_1)))] (pEq (.int .i64 (w64 (a_1 + (1 : Int))))) true), some (Ent.mk [(91, (pEq (.slice g20.1.1 g20.1.2.1 g20.1.2.2))), (93, (pEq (.int .i64 (w64 (a_1 + (1 : Int))))))] (pEq (.slice g20.1.1 ((w64 (a_1 + (1 : Int)))).toNat g20.1.2.2)) true), some (Ent.mk [(94, (pEq (.slice g20.1.1 ((w64 (a_1 + (1 : Int)))).toNat g20.1.2.2)))] (pEq (.int .i64 x27)) true), some (Ent.mk [(0, (pEq (.pointer (some ⟨hb0, 0, none⟩))))] (pEq (.pointer (some ⟨hb0, 0, none⟩))) true), some (Ent.mk [(96, (pEq (.pointer (some ⟨hb0, 0, none⟩))))] (pEq (.pointer (some ⟨hb0, 0, none⟩))) true), some (Ent.mk [(97, (pEq (.pointer (some ⟨hb0, 0, none⟩))))] (pEq (.pointer (some ⟨hb0, 2, none⟩))) true), some (Ent.mk [(98, (pEq (.pointer (some ⟨hb0, 2, none⟩))))] (pEq (.int .i64 a_0.span)) true), some (Ent.mk [(95, (pEq (.int .i64 x27))), (99, (pEq (.int .i64 a_0.span)))] (pEq (.bool (decide (x27 ≤ a_0.span)))) true), some (Ent.mk [(87, (pEq (.bool (decide (a_0.span < (0 : Int)))))), (100, (pEq (.bool (decide (x27 ≤ a_0.span)))))] (pEq (.bool (decide (x27 ≤ a_0.span)))) true)]) (rd := [[0], [82], [83], [84], [85], [86], [0], [88], [89], [90], [1], [92], [91, 93], [94], [0], [96], [97], [98], [95, 99], [87, 100]]) rfl hmix (by kernel_rfl) fun hD => ?_
            refine RD.fin (es := [Ent.mk [(0, (pEq (.pointer (some ⟨hb0, 0, none⟩))))] (pEq (.pointer (some ⟨hb0, 0, none⟩))) true, Ent.mk [(82, (pEq (.pointer (some ⟨hb0, 0, none⟩))))] (pEq (.pointer (some ⟨hb0, 0, none⟩))) true, Ent.mk [(83, (pEq (.pointer (some ⟨hb0, 0, none⟩))))] (pEq (.pointer (some ⟨hb0, 2, none⟩))) true, Ent.mk [(84, (pEq (.pointer (some ⟨hb0, 2, none⟩))))] (pEq (.int .i64 a_0.span)) true, Ent.mk [(85, (pEq (.int .i64 a_0.span)))] (pEq (.bool (decide (a_0.span < (0 : Int))))) true, Ent.mk [(86, (pEq (.bool (decide (a_0.span < (0 : Int))))))] (pEq (.bool (decide (a_0.span < (0 : Int))))) true, Ent.mk [(0, (pEq (.pointer (some ⟨hb0, 0, none⟩))))] (pEq (.pointer (some ⟨hb0, 0, none⟩))) true, Ent.mk [(88, (pEq (.pointer (some ⟨hb0, 0, none⟩))))] (pEq (.pointer (some ⟨hb0, 0, none⟩))) true, Ent.mk [(89, (pEq (.pointer (some ⟨hb0, 0, none⟩))))] (pEq (.pointer (some ⟨hb0, 1, none⟩))) true, Ent.mk [(90, (pEq (.pointer (some ⟨hb0, 1, none⟩))))] (pEq (.slice g20.1.1 g20.1.2.1 g20.1.2.2)) true, Ent.mk [(1, (pEq (.int .i64 a_1)))] (pEq (.int .i64 a_1)) true, Ent.mk [(92, (pEq (.int .i64 a_1)))] (pEq (.int .i64 (w64 (a_1 + (1 : Int))))) true, Ent.mk [(91, (pEq (.slice g20.1.1 g20.1.2.1 g20.1.2.2))), (93, (pEq (.int .i64 (w64 (a_1 + (1 : Int))))))] (pEq (.slice g20.1.1 ((w64 (a_1 + (1 : Int)))).toNat g20.1.2.2)) true, Ent.mk [(94, (pEq (.slice g20.1.1 ((w64 (a_1 + (1 : Int)))).toNat g20.1.2.2)))] (pEq (.int .i64 x27)) true, Ent.mk [(0, (pEq (.pointer (some ⟨hb0, 0, none⟩))))] (pEq (.pointer (some ⟨hb0, 0, none⟩))) true, Ent.mk [(96, (pEq (.pointer (some ⟨hb0, 0, none⟩))))] (pEq (.pointer (some ⟨hb0, 0, none⟩))) true, Ent.mk [(97, (pEq (.pointer (some ⟨hb0, 0, none⟩))))] (pEq (.pointer (some ⟨hb0, 2, none⟩))) true, Ent.mk [(98, (pEq (.pointer (some ⟨hb0, 2, none⟩))))] (pEq (.int .i64 a_0.span)) true, Ent.mk [(95, (pEq (.int .i64 x27))), (99, (pEq (.int .i64 a_0.span)))] (pEq (.bool (decide (x27 ≤ a_0.span)))) true, Ent.mk [(87, (pEq (.bool (decide (a_0.span < (0 : Int)))))), (100, (pEq (.bool (decide (x27 ≤ a_0.span)))))] (pEq (.bool (decide (x27 ≤ a_0.span)))) true]) (done := []) hD ⟨.inr ⟨(OpJ.w (J_move rfl (Opd.tmp rfl))), ⟨rfl, trivial⟩, rfl, rfl⟩, ⟨.inr ⟨(OpJ.w (J_nilCheckE rfl (Opd.tmp rfl))), ⟨rfl, trivial⟩, rfl, rfl⟩, ⟨.inr ⟨(OpJ.w (J_fieldAddrE rfl Try.underlying88 rfl sz2 (by decide) (Opd.tmp rfl) rfl)), ⟨rfl, trivial⟩, rfl, rfl⟩, ⟨.inr ⟨(W_load (i := 2) rfl Try.isAgg2 (Opd.tmp rfl) rfl rfl), ⟨rfl, trivial⟩, rfl, rfl⟩, ⟨.inr ⟨(OpJ.w (J_bin rfl (Opd.tmp rfl) Opd.con B_lss)), ⟨rfl, trivial⟩, rfl, rfl⟩, ⟨.inr ⟨(OpJ.w (J_move rfl (Opd.tmp rfl))), ⟨rfl, trivial⟩, rfl, rfl⟩, ⟨.inr ⟨(OpJ.w (J_move rfl (Opd.tmp rfl))), ⟨rfl, trivial⟩, (.inl ⟨_, rfl, by simp [hc25]⟩), rfl⟩, ⟨.inr ⟨(OpJ.w (J_nilCheckE rfl (Opd.tmp rfl))), ⟨rfl, trivial⟩, (.inl ⟨_, rfl, by simp [hc25]⟩), rfl⟩, ⟨.inr ⟨(OpJ.w (J_fieldAddrE rfl Try.underlying88 rfl sz25 (by decide) (Opd.tmp rfl) rfl)), ⟨rfl, trivial⟩, (.inl ⟨_, rfl, by simp [hc25]⟩), rfl⟩, ⟨.inr ⟨(W_load (i := 2) rfl Try.isAgg25 (Opd.tmp rfl) rfl rfl), ⟨rfl, trivial⟩, (.inl ⟨_, rfl, by simp [hc25]⟩), rfl⟩, ⟨.inr ⟨(OpJ.w (J_move rfl (Opd.tmp rfl))), ⟨rfl, trivial⟩, (.inl ⟨_, rfl, by simp [hc25]⟩), rfl⟩, ⟨.inr ⟨(OpJ.w (J_bin rfl (Opd.tmp rfl) Opd.con B_add)), ⟨rfl, trivial⟩, (.inl ⟨_, rfl, by simp [hc25]⟩), rfl⟩, ⟨.inr ⟨(W_rowCut (j := 0) rfl Try.underlying25 sz2 (Opd.tmp rfl) SOpd.none (SOpd.some (Opd.tmp rfl)) rfl hu26), ⟨rfl, rfl, trivial⟩, (.inl ⟨_, rfl, by simp [hc25]⟩), rfl⟩, ⟨.inr ⟨(W_call rfl Try.call108 (c_spec_SpanOf hx27) (OpdsA.cons (OpdA.conv rfl (Conv.sub (f := (cK .i64)) 0 (fun _ => rfl) rfl (cutB_le hu26))) OpdsA.nil) FreeP.eq), ⟨rfl, trivial⟩, (.inl ⟨_, rfl, by simp [hc25]⟩), rfl⟩, ⟨.inr ⟨(OpJ.w (J_move rfl (Opd.tmp rfl))), ⟨rfl, trivial⟩, (.inl ⟨_, rfl, by simp [hc25]⟩), rfl⟩, ⟨.inr ⟨(OpJ.w (J_nilCheckE rfl (Opd.tmp rfl))), ⟨rfl, trivial⟩, (.inl ⟨_, rfl, by simp [hc25]⟩), rfl⟩, ⟨.inr ⟨(OpJ.w (J_fieldAddrE rfl Try.underlying88 rfl sz2 (by decide) (Opd.tmp rfl) rfl)), ⟨rfl, trivial⟩, (.inl ⟨_, rfl, by simp [hc25]⟩), rfl⟩, ⟨.inr ⟨(W_load (i := 2) rfl Try.isAgg2 (Opd.tmp rfl) rfl rfl), ⟨rfl, trivial⟩, (.inl ⟨_, rfl, by simp [hc25]⟩), rfl⟩, ⟨.inr ⟨(OpJ.w (J_bin rfl (Opd.tmp rfl) (Opd.tmp rfl) B_leq)), ⟨rfl, rfl, trivial⟩, (.inl ⟨_, rfl, by simp [hc25]⟩), rfl⟩, ⟨.inr ⟨(OpJ.w (J_pick rfl (Opd.tmp rfl) (fun hf => absurd (hc25.symm.trans hf) (by decide)) (fun _ => (Opd.tmp rfl)))), ⟨rfl, rfl, trivial⟩, rfl, rfl⟩, trivial⟩⟩⟩⟩⟩⟩⟩⟩⟩⟩⟩⟩⟩⟩⟩⟩⟩⟩⟩⟩ ?_
            refine RegL.nil ?_
            replace h := Option.some.inj h; subst h
            exact Ct.mid () rfl ⟨rfl, rfl, rfl, rfl, rfl, rfl, trivial⟩
        · clear hx24
          refine Ct.then_tr ?_
          refine Tr.weak (Γ' := [(0, (pEq (.pointer (some ⟨hb0, 0, none⟩)))), (1, (pEq (.int .i64 a_1))), (5, (pEq (.slice g12.1 g12.2.1 g12.2.2))), (6, (pEq (.int .i64 v15))), (7, (pEq (.bool true))), (101, (pEq (.bool x24)))]) ⟨rfl, rfl, rfl, rfl, rfl, rfl, trivial⟩ ?_
          replace h := bind_some h; obtain ⟨x29, hx29, h⟩ := h
          refine Tr.cut (γ := (G3 × G3)) (Γm := fun g => [(0, (pEq (.pointer (some ⟨hb0, 0, none⟩)))), (1, (pEq (.int .i64 a_1))), (5, (pEq (.slice g12.1 g12.2.1 g12.2.2))), (6, (pEq (.int .i64 v15))), (7, (pEq (.bool x29.1)))]) (Ωm := fun g => [oSl 2 1 (cK .i64) g.1.1 g.1.2.1 g.1.2.2 x29.2.1, oSl 2 1 (cK .i64) g12.1 g12.2.1 g12.2.2 x11, oBlk hb0 [(pPtr (cGProblem a_0.p)), (pEq (.slice g.1.1 g.1.2.1 g.1.2.2)), (pEq (.int .i64 a_0.span)), (pEq (.int .i64 x29.2.2.1)), (pEq (.int .i64 a_0.budget)), (pEq (.int .i64 x29.2.2.2.1)), (pEq (.slice g.2.1 g.2.2.1 g.2.2.2)), (pEq (.bool a_0.stop))], oSl 2 1 (cK .i64) g.2.1 g.2.2.1 g.2.2.2 x29.2.2.2.2]) ?_ (fun g32 => ?_)
          · clear h
            have h := hx29
            clear hx29
            refine Tr.cond (Opd.tmp rfl) (fun hc => ?_) (fun hc => ?_)
            · replace h := bif_t hc h
              refine Tr.region ?_
              refine RegL.pure (p := (pEq (.pointer (some ⟨hb0, 0, none⟩)))) rfl rfl rfl (J_move rfl (Opd.tmp rfl)) ?_
              refine RegL.pure (p := (pEq (.int .i64 a_1))) rfl rfl rfl (J_move rfl (Opd.tmp rfl)) ?_
              refine RegL.pure (p := (pEq (.int .i64 (w64 (a_1 + (1 : Int)))))) rfl rfl rfl (J_bin rfl (Opd.tmp rfl) Opd.con B_add) ?_
              replace h := bind_some h; obtain ⟨x30, hx30, h⟩ := h
              refine RegL.re (Ω2 := [oSl 2 1 (cK .i64) g20.2.1 g20.2.2.1 g20.2.2.2 v19, oSl 2 1 (cK .i64) g20.1.1 g20.1.2.1 g20.1.2.2 (v18.set (a_1).toNat x21), oSl 2 1 (cK .i64) g12.1 g12.2.1 g12.2.2 x11, oBlk hb0 [(pPtr (cGProblem a_0.p)), (pEq (.slice g20.1.1 g20.1.2.1 g20.1.2.2)), (pEq (.int .i64 a_0.span)), (pEq (.int .i64 v16)), (pEq (.int .i64 a_0.budget)), (pEq (.int .i64 v17)), (pEq (.slice g20.2.1 g20.2.2.1 g20.2.2.2)), (pEq (.bool a_0.stop))]]) (fun h => SatO.pick 3 h) ?_
              refine RegL.re (Ω2 := [oSl 2 1 (cK .i64) g20.1.1 g20.1.2.1 g20.1.2.2 (v18.set (a_1).toNat x21), oSl 2 1 (cK .i64) g20.2.1 g20.2.2.1 g20.2.2.2 v19, oSl 2 1 (cK .i64) g12.1 g12.2.1 g12.2.2 x11, oBlk hb0 [(pPtr (cGProblem a_0.p)), (pEq (.slice g20.1.1 g20.1.2.1 g20.1.2.2)), (pEq (.int .i64 a_0.span)), (pEq (.int .i64 v16)), (pEq (.int .i64 a_0.budget)), (pEq (.int .i64 v17)), (pEq (.slice g20.2.1 g20.2.2.1 g20.2.2.2)), (pEq (.bool a_0.stop))]]) (fun h => SatO.pick 1 h) ?_
              refine RegL.re (Ω2 := [oBlk hb0 [(pPtr (cGProblem a_0.p)), (pEq (.slice g20.1.1 g20.1.2.1 g20.1.2.2)), (pEq (.int .i64 a_0.span)), (pEq (.int .i64 v16)), (pEq (.int .i64 a_0.budget)), (pEq (.int .i64 v17)), (pEq (.slice g20.2.1 g20.2.2.1 g20.2.2.2)), (pEq (.bool a_0.stop))], oSl 2 1 (cK .i64) g20.1.1 g20.1.2.1 g20.1.2.2 (v18.set (a_1).toNat x21), oSl 2 1 (cK .i64) g20.2.1 g20.2.2.1 g20.2.2.2 v19, oSl 2 1 (cK .i64) g12.1 g12.2.1 g12.2.2 x11]) (fun h => SatO.pick 3 h) ?_
              refine RegL.step (γ := (G3 × G3)) (p := fun g => (pEq (.bool x30.1))) (Ω' := fun g => [oBlk hb0 [(pPtr (cGProblem a_0.p)), (pEq (.slice g.1.1 g.1.2.1 g.1.2.2)), (pEq (.int .i64 a_0.span)), (pEq (.int .i64 x30.2.2.1)), (pEq (.int .i64 a_0.budget)), (pEq (.int .i64 x30.2.2.2.1)), (pEq (.slice g.2.1 g.2.2.1 g.2.2.2)), (pEq (.bool a_0.stop))], oSl 2 1 (cK .i64) g.1.1 g.1.2.1 g.1.2.2 x30.2.1, oSl 2 1 (cK .i64) g.2.1 g.2.2.1 g.2.2.2 x30.2.2.2.2, oSl 2 1 (cK .i64) g12.1 g12.2.1 g12.2.2 x11]) rfl rfl rfl (M_callH (Ωi := [oBlk hb0 [(pPtr (cGProblem a_0.p)), (pEq (.slice g20.1.1 g20.1.2.1 g20.1.2.2)), (pEq (.int .i64 a_0.span)), (pEq (.int .i64 v16)), (pEq (.int .i64 a_0.budget)), (pEq (.int .i64 v17)), (pEq (.slice g20.2.1 g20.2.2.1 g20.2.2.2)), (pEq (.bool a_0.stop))], oSl 2 1 (cK .i64) g20.1.1 g20.1.2.1 g20.1.2.2 (v18.set (a_1).toNat x21), oSl 2 1 (cK .i64) g20.2.1 g20.2.2.1 g20.2.2.2 v19]) rfl Try.call106 (ih hx30) (Opds.cons (Opd.tmp rfl) (Opds.cons (Opd.tmp rfl) Opds.nil))) fun g31 => ?_
              refine RegL.pure (p := (pEq (.bool x30.1))) rfl rfl rfl (J_assign rfl (Opd.tmp rfl)) ?_
              refine RegL.nil ?_
              refine Ct.re (Ω2 := [oSl 2 1 (cK .i64) g31.2.1 g31.2.2.1 g31.2.2.2 x30.2.2.2.2, oBlk hb0 [(pPtr (cGProblem a_0.p)), (pEq (.slice g31.1.1 g31.1.2.1 g31.1.2.2)), (pEq (.int .i64 a_0.span)), (pEq (.int .i64 x30.2.2.1)), (pEq (.int .i64 a_0.budget)), (pEq (.int .i64 x30.2.2.2.1)), (pEq (.slice g31.2.1 g31.2.2.1 g31.2.2.2)), (pEq (.bool a_0.stop))], oSl 2 1 (cK .i64) g31.1.1 g31.1.2.1 g31.1.2.2 x30.2.1, oSl 2 1 (cK .i64) g12.1 g12.2.1 g12.2.2 x11]) (fun h => SatO.pick 2 h) ?_
              refine Ct.re (Ω2 := [oBlk hb0 [(pPtr (cGProblem a_0.p)), (pEq (.slice g31.1.1 g31.1.2.1 g31.1.2.2)), (pEq (.int .i64 a_0.span)), (pEq (.int .i64 x30.2.2.1)), (pEq (.int .i64 a_0.budget)), (pEq (.int .i64 x30.2.2.2.1)), (pEq (.slice g31.2.1 g31.2.2.1 g31.2.2.2)), (pEq (.bool a_0.stop))], oSl 2 1 (cK .i64) g31.2.1 g31.2.2.1 g31.2.2.2 x30.2.2.2.2, oSl 2 1 (cK .i64) g31.1.1 g31.1.2.1 g31.1.2.2 x30.2.1, oSl 2 1 (cK .i64) g12.1 g12.2.1 g12.2.2 x11]) (fun h => SatO.pick 1 h) ?_
              refine Ct.re (Ω2 := [oSl 2 1 (cK .i64) g12.1 g12.2.1 g12.2.2 x11, oBlk hb0 [(pPtr (cGProblem a_0.p)), (pEq (.slice g31.1.1 g31.1.2.1 g31.1.2.2)), (pEq (.int .i64 a_0.span)), (pEq (.int .i64 x30.2.2.1)), (pEq (.int .i64 a_0.budget)), (pEq (.int .i64 x30.2.2.2.1)), (pEq (.slice g31.2.1 g31.2.2.1 g31.2.2.2)), (pEq (.bool a_0.stop))], oSl 2 1 (cK .i64) g31.2.1 g31.2.2.1 g31.2.2.2 x30.2.2.2.2, oSl 2 1 (cK .i64) g31.1.1 g31.1.2.1 g31.1.2.2 x30.2.1]) (fun h => SatO.pick 3 h) ?_
              refine Ct.re (Ω2 := [oSl 2 1 (cK .i64) g31.1.1 g31.1.2.1 g31.1.2.2 x30.2.1, oSl 2 1 (cK .i64) g12.1 g12.2.1 g12.2.2 x11, oBlk hb0 [(pPtr (cGProblem a_0.p)), (pEq (.slice g31.1.1 g31.1.2.1 g31.1.2.2)), (pEq (.int .i64 a_0.span)), (pEq (.int .i64 x30.2.2.1)), (pEq (.int .i64 a_0.budget)), (pEq (.int .i64 x30.2.2.2.1)), (pEq (.slice g31.2.1 g31.2.2.1 g31.2.2.2)), (pEq (.bool a_0.stop))], oSl 2 1 (cK .i64) g31.2.1 g31.2.2.1 g31.2.2.2 x30.2.2.2.2]) (fun h => SatO.pick 3 h) ?_
              replace h := Option.some.inj h; subst h
              exact Ct.mid ((g31.1.1, g31.1.2.1, g31.1.2.2), (g31.2.1, g31.2.2.1, g31.2.2.2)) rfl ⟨rfl, rfl, rfl, rfl, rfl, trivial⟩
            · replace h := bif_f hc h
              refine Tr.skip ?_
              replace h := Option.some.inj h; subst h
              exact Ct.mid ((g20.1.1, g20.1.2.1, g20.1.2.2), (g20.2.1, g20.2.2.1, g20.2.2.2)) rfl ⟨rfl, rfl, rfl, rfl, rfl, trivial⟩
          · clear hx29
            refine Ct.then_tr ?_
            refine Tr.weak (Γ' := [(0, (pEq (.pointer (some ⟨hb0, 0, none⟩)))), (1, (pEq (.int .i64 a_1))), (5, (pEq (.slice g12.1 g12.2.1 g12.2.2))), (6, (pEq (.int .i64 v15))), (7, (pEq (.bool x29.1)))]) ⟨rfl, rfl, rfl, rfl, rfl, trivial⟩ ?_
            refine Tr.seq ?_
            refine Tr.region ?_
            refine RegL.pure (p := (pEq (.pointer (some ⟨hb0, 0, none⟩)))) rfl rfl rfl (J_move rfl (Opd.tmp rfl)) ?_
            refine RegL.pure (p := (pEq (.pointer (some ⟨hb0, 0, none⟩)))) rfl rfl rfl (J_nilCheckE rfl (Opd.tmp rfl)) ?_
            refine RegL.pure (p := (pEq (.pointer (some ⟨hb0, 1, none⟩)))) rfl rfl rfl (J_fieldAddrE rfl Try.underlying88 rfl sz25 (by decide) (Opd.tmp rfl) rfl) ?_
            refine RegL.pureW (p := (pEq (.slice g32.1.1 g32.1.2.1 g32.1.2.2))) rfl rfl rfl (W_load (i := 2) rfl Try.isAgg25 (Opd.tmp rfl) rfl rfl) ?_
            refine RegL.pure (p := (pEq (.int .i64 a_1))) rfl rfl rfl (J_move rfl (Opd.tmp rfl)) ?_
            replace h := bind_some h; obtain ⟨u33, hu33, h⟩ := h
            refine RegL.pureW (p := (pEq (.pointer (some ⟨blk g32.1.1, (a_1).toNat * 1, none⟩)))) rfl rfl rfl (W_rowIdx (j := 0) rfl Try.underlying25 sz2 (Opd.tmp rfl) (Opd.tmp rfl) rfl (inB_some hu33)) ?_
            refine RegL.stepN (γ := Unit) (p := fun _ => pAny) (Ω' := fun _ => [oSl 2 1 (cK .i64) g32.1.1 g32.1.2.1 g32.1.2.2 (x29.2.1.set (a_1).toNat (-1 : Int)), oSl 2 1 (cK .i64) g12.1 g12.2.1 g12.2.2 x11, oBlk hb0 [(pPtr (cGProblem a_0.p)), (pEq (.slice g32.1.1 g32.1.2.1 g32.1.2.2)), (pEq (.int .i64 a_0.span)), (pEq (.int .i64 x29.2.2.1)), (pEq (.int .i64 a_0.budget)), (pEq (.int .i64 x29.2.2.2.1)), (pEq (.slice g32.2.1 g32.2.2.1 g32.2.2.2)), (pEq (.bool a_0.stop))], oSl 2 1 (cK .i64) g32.2.1 g32.2.2.1 g32.2.2.2 x29.2.2.2.2]) rfl rfl (M_rowStore rfl sz2 (fun _ => rfl) (Opd.tmp rfl) Opd.con rfl OneC.int (setL_of (inB_some hu33))) fun g34 => ?_
            refine RegL.nil ?_
            refine Ct.then_tr ?_
            refine Tr.weak (Γ' := [(0, (pEq (.pointer (some ⟨hb0, 0, none⟩)))), (1, (pEq (.int .i64 a_1))), (5, (pEq (.slice g12.1 g12.2.1 g12.2.2))), (6, (pEq (.int .i64 v15))), (7, (pEq (.bool x29.1)))]) ⟨rfl, rfl, rfl, rfl, rfl, trivial⟩ ?_
            refine Tr.seq ?_
            refine Tr.region ?_
            refine RegL.pure (p := (pEq (.bool x29.1))) rfl rfl rfl (J_move rfl (Opd.tmp rfl)) ?_
            refine RegL.pure (p := (pEq (.bool (!x29.1)))) rfl rfl rfl (J_not rfl (Opd.tmp rfl)) ?_
            refine RegL.nil ?_
            refine Ct.then_tr ?_
            refine Tr.weak (Γ' := [(0, (pEq (.pointer (some ⟨hb0, 0, none⟩)))), (1, (pEq (.int .i64 a_1))), (5, (pEq (.slice g12.1 g12.2.1 g12.2.2))), (6, (pEq (.int .i64 v15))), (113, (pEq (.bool (!x29.1))))]) ⟨rfl, rfl, rfl, rfl, rfl, trivial⟩ ?_
            refine Tr.cond (Opd.tmp rfl) (fun hc => ?_) (fun hc => ?_)
            · replace h := bif_t hc h
              refine Tr.seq ?_
              refine Tr.region ?_
              refine RegL.pure (p := (pEq (.bool false))) rfl rfl rfl (J_assign rfl Opd.con) ?_
              refine RegL.nil ?_
              refine Ct.then_tr ?_
              refine Tr.weak (Γ' := [(4, (pEq (.bool false)))]) ⟨rfl, trivial⟩ ?_
              refine Tr.ret ?_
              refine Ct.blk_ret ?_
              refine Ct.then_ret ?_
              replace h := map_some h; obtain ⟨r1, h, rfl⟩ := h
              refine Ct.out_ret fun e => ?_
              subst e
              refine Ct.blk_ret ?_
              refine Ct.then_ret ?_
              refine Ct.re (Ω2 := [oSl 2 1 (cK .i64) g32.2.1 g32.2.2.1 g32.2.2.2 x29.2.2.2.2, oSl 2 1 (cK .i64) g32.1.1 g32.1.2.1 g32.1.2.2 (x29.2.1.set (a_1).toNat (-1 : Int)), oSl 2 1 (cK .i64) g12.1 g12.2.1 g12.2.2 x11, oBlk hb0 [(pPtr (cGProblem a_0.p)), (pEq (.slice g32.1.1 g32.1.2.1 g32.1.2.2)), (pEq (.int .i64 a_0.span)), (pEq (.int .i64 x29.2.2.1)), (pEq (.int .i64 a_0.budget)), (pEq (.int .i64 x29.2.2.2.1)), (pEq (.slice g32.2.1 g32.2.2.1 g32.2.2.2)), (pEq (.bool a_0.stop))]]) (fun h => SatO.pick 3 h) ?_
              refine Ct.re (Ω2 := [oSl 2 1 (cK .i64) g32.1.1 g32.1.2.1 g32.1.2.2 (x29.2.1.set (a_1).toNat (-1 : Int)), oSl 2 1 (cK .i64) g32.2.1 g32.2.2.1 g32.2.2.2 x29.2.2.2.2, oSl 2 1 (cK .i64) g12.1 g12.2.1 g12.2.2 x11, oBlk hb0 [(pPtr (cGProblem a_0.p)), (pEq (.slice g32.1.1 g32.1.2.1 g32.1.2.2)), (pEq (.int .i64 a_0.span)), (pEq (.int .i64 x29.2.2.1)), (pEq (.int .i64 a_0.budget)), (pEq (.int .i64 x29.2.2.2.1)), (pEq (.slice g32.2.1 g32.2.2.1 g32.2.2.2)), (pEq (.bool a_0.stop))]]) (fun h => SatO.pick 1 h) ?_
              refine Ct.re (Ω2 := [oBlk hb0 [(pPtr (cGProblem a_0.p)), (pEq (.slice g32.1.1 g32.1.2.1 g32.1.2.2)), (pEq (.int .i64 a_0.span)), (pEq (.int .i64 x29.2.2.1)), (pEq (.int .i64 a_0.budget)), (pEq (.int .i64 x29.2.2.2.1)), (pEq (.slice g32.2.1 g32.2.2.1 g32.2.2.2)), (pEq (.bool a_0.stop))], oSl 2 1 (cK .i64) g32.1.1 g32.1.2.1 g32.1.2.2 (x29.2.1.set (a_1).toNat (-1 : Int)), oSl 2 1 (cK .i64) g32.2.1 g32.2.2.1 g32.2.2.2 x29.2.2.2.2, oSl 2 1 (cK .i64) g12.1 g12.2.1 g12.2.2 x11]) (fun h => SatO.pick 3 h) ?_
              refine Ct.re (Ω2 := [oSl 2 1 (cK .i64) g12.1 g12.2.1 g12.2.2 x11, oBlk hb0 [(pPtr (cGProblem a_0.p)), (pEq (.slice g32.1.1 g32.1.2.1 g32.1.2.2)), (pEq (.int .i64 a_0.span)), (pEq (.int .i64 x29.2.2.1)), (pEq (.int .i64 a_0.budget)), (pEq (.int .i64 x29.2.2.2.1)), (pEq (.slice g32.2.1 g32.2.2.1 g32.2.2.2)), (pEq (.bool a_0.stop))], oSl 2 1 (cK .i64) g32.1.1 g32.1.2.1 g32.1.2.2 (x29.2.1.set (a_1).toNat (-1 : Int)), oSl 2 1 (cK .i64) g32.2.1 g32.2.2.1 g32.2.2.2 x29.2.2.2.2]) (fun h => SatO.pick 3 h) ?_
              replace h := Option.some.inj h; subst h
              exact Ct.retH1 (Ωx := [oSl 2 1 (cK .i64) g12.1 g12.2.1 g12.2.2 x11]) ((g32.1.1, g32.1.2.1, g32.1.2.2), (g32.2.1, g32.2.2.1, g32.2.2.2)) rfl (RvOk.tmp rfl) rfl
            · replace h := bif_f hc h
              refine Tr.skip ?_
              refine Ct.blk_normal ?_
              refine Ct.then_tr ?_
              refine Tr.weak (Γ' := [(0, (pEq (.pointer (some ⟨hb0, 0, none⟩)))), (1, (pEq (.int .i64 a_1))), (5, (pEq (.slice g12.1 g12.2.1 g12.2.2))), (6, (pEq (.int .i64 v15)))]) ⟨rfl, rfl, rfl, rfl, trivial⟩ ?_
              refine Tr.region ?_
              refine RegL.pure (p := (pEq (.int .i64 v15))) rfl rfl rfl (J_move rfl (Opd.tmp rfl)) ?_
              refine RegL.pure (p := (pEq (.int .i64 (w64 (v15 + (1 : Int)))))) rfl rfl rfl (J_bin rfl (Opd.tmp rfl) Opd.con B_add) ?_
              refine RegL.pure (p := (pEq (.int .i64 (w64 (v15 + (1 : Int)))))) rfl rfl rfl (J_assign rfl (Opd.tmp rfl)) ?_
              refine RegL.nil ?_
              refine Ct.re (Ω2 := [oSl 2 1 (cK .i64) g32.2.1 g32.2.2.1 g32.2.2.2 x29.2.2.2.2, oSl 2 1 (cK .i64) g32.1.1 g32.1.2.1 g32.1.2.2 (x29.2.1.set (a_1).toNat (-1 : Int)), oSl 2 1 (cK .i64) g12.1 g12.2.1 g12.2.2 x11, oBlk hb0 [(pPtr (cGProblem a_0.p)), (pEq (.slice g32.1.1 g32.1.2.1 g32.1.2.2)), (pEq (.int .i64 a_0.span)), (pEq (.int .i64 x29.2.2.1)), (pEq (.int .i64 a_0.budget)), (pEq (.int .i64 x29.2.2.2.1)), (pEq (.slice g32.2.1 g32.2.2.1 g32.2.2.2)), (pEq (.bool a_0.stop))]]) (fun h => SatO.pick 3 h) ?_
              refine Ct.re (Ω2 := [oSl 2 1 (cK .i64) g32.1.1 g32.1.2.1 g32.1.2.2 (x29.2.1.set (a_1).toNat (-1 : Int)), oSl 2 1 (cK .i64) g32.2.1 g32.2.2.1 g32.2.2.2 x29.2.2.2.2, oSl 2 1 (cK .i64) g12.1 g12.2.1 g12.2.2 x11, oBlk hb0 [(pPtr (cGProblem a_0.p)), (pEq (.slice g32.1.1 g32.1.2.1 g32.1.2.2)), (pEq (.int .i64 a_0.span)), (pEq (.int .i64 x29.2.2.1)), (pEq (.int .i64 a_0.budget)), (pEq (.int .i64 x29.2.2.2.1)), (pEq (.slice g32.2.1 g32.2.2.1 g32.2.2.2)), (pEq (.bool a_0.stop))]]) (fun h => SatO.pick 1 h) ?_
              refine Ct.re (Ω2 := [oBlk hb0 [(pPtr (cGProblem a_0.p)), (pEq (.slice g32.1.1 g32.1.2.1 g32.1.2.2)), (pEq (.int .i64 a_0.span)), (pEq (.int .i64 x29.2.2.1)), (pEq (.int .i64 a_0.budget)), (pEq (.int .i64 x29.2.2.2.1)), (pEq (.slice g32.2.1 g32.2.2.1 g32.2.2.2)), (pEq (.bool a_0.stop))], oSl 2 1 (cK .i64) g32.1.1 g32.1.2.1 g32.1.2.2 (x29.2.1.set (a_1).toNat (-1 : Int)), oSl 2 1 (cK .i64) g32.2.1 g32.2.2.1 g32.2.2.2 x29.2.2.2.2, oSl 2 1 (cK .i64) g12.1 g12.2.1 g12.2.2 x11]) (fun h => SatO.pick 3 h) ?_
              refine Ct.re (Ω2 := [oSl 2 1 (cK .i64) g12.1 g12.2.1 g12.2.2 x11, oBlk hb0 [(pPtr (cGProblem a_0.p)), (pEq (.slice g32.1.1 g32.1.2.1 g32.1.2.2)), (pEq (.int .i64 a_0.span)), (pEq (.int .i64 x29.2.2.1)), (pEq (.int .i64 a_0.budget)), (pEq (.int .i64 x29.2.2.2.1)), (pEq (.slice g32.2.1 g32.2.2.1 g32.2.2.2)), (pEq (.bool a_0.stop))], oSl 2 1 (cK .i64) g32.1.1 g32.1.2.1 g32.1.2.2 (x29.2.1.set (a_1).toNat (-1 : Int)), oSl 2 1 (cK .i64) g32.2.1 g32.2.2.1 g32.2.2.2 x29.2.2.2.2]) (fun h => SatO.pick 3 h) ?_
              replace h := Option.some.inj h; subst h
              exact Ct.again ((g32.1.1, g32.1.2.1, g32.1.2.2), (g32.2.1, g32.2.2.1, g32.2.2.2)) rfl ⟨rfl, rfl, rfl, rfl, trivial⟩
      · replace h := bif_f hc h
        refine Tr.exit ?_
        refine Ct.then_exit ?_
        replace h := map_some h; obtain ⟨r1, h, rfl⟩ := h
        refine Ct.out_exit fun e => ?_
        subst e
        refine Ct.blk_exit ?_
        refine Ct.then_tr ?_
        refine Tr.weak (Γ' := []) trivial ?_
        refine Tr.seq ?_
        refine Tr.region ?_
        refine RegL.pure (p := (pEq (.bool true))) rfl rfl rfl (J_assign rfl Opd.con) ?_
        refine RegL.nil ?_
        refine Ct.then_tr ?_
        refine Tr.weak (Γ' := [(4, (pEq (.bool true)))]) ⟨rfl, trivial⟩ ?_
        refine Tr.ret ?_
        replace h := Option.some.inj h; subst h
        exact Ct.retH1 (Ωx := [oSl 2 1 (cK .i64) g12.1 g12.2.1 g12.2.2 x11]) ((g20.1.1, g20.1.2.1, g20.1.2.2), (g20.2.1, g20.2.2.1, g20.2.2.2)) rfl (RvOk.tmp rfl) rfl

theorem o_spec_l18Search_visit {a_0 : GL18Search} {a_1 : Int} {ho0_1 : Option Addr} {hn0_1 hc0_1 : Nat} {ho0_6 : Option Addr} {hn0_6 hc0_6 : Nat} {hb0 : Nat} {r : (Bool × (List Int) × Int × Int × (List Int))} (h : m_spec_l18Search_visit a_0 a_1 = some r) : CallH Try.prog 106 [(pEq (.pointer (some ⟨hb0, 0, none⟩))), (pEq (.int .i64 a_1))] [oBlk hb0 [(pPtr (cGProblem a_0.p)), (pEq (.slice ho0_1 hn0_1 hc0_1)), (pEq (.int .i64 a_0.span)), (pEq (.int .i64 a_0.nodes)), (pEq (.int .i64 a_0.budget)), (pEq (.int .i64 a_0.count)), (pEq (.slice ho0_6 hn0_6 hc0_6)), (pEq (.bool a_0.stop))], oSl 2 1 (cK .i64) ho0_1 hn0_1 hc0_1 a_0.list, oSl 2 1 (cK .i64) ho0_6 hn0_6 hc0_6 a_0.first] (fun g : (G3 × G3) => (pEq (.bool r.1))) (fun g : (G3 × G3) => [oBlk hb0 [(pPtr (cGProblem a_0.p)), (pEq (.slice g.1.1 g.1.2.1 g.1.2.2)), (pEq (.int .i64 a_0.span)), (pEq (.int .i64 r.2.2.1)), (pEq (.int .i64 a_0.budget)), (pEq (.int .i64 r.2.2.2.1)), (pEq (.slice g.2.1 g.2.2.1 g.2.2.2)), (pEq (.bool a_0.stop))], oSl 2 1 (cK .i64) g.1.1 g.1.2.1 g.1.2.2 r.2.1, oSl 2 1 (cK .i64) g.2.1 g.2.2.1 g.2.2.2 r.2.2.2.2]) := by
  obtain ⟨n, hn⟩ := recM_some h
  exact of_spec_l18Search_visit n hn

theorem o_spec_l18Run {p_0 : GProblem} {span_1 : Int} {budget_2 : Int} {stop_3 : Bool}  {r : GL18Search} (h : m_spec_l18Run p_0 span_1 budget_2 stop_3 = some r) : CallH Try.prog 79 [(pPtr (cGProblem p_0)), (pEq (.int .i64 span_1)), (pEq (.int .i64 budget_2)), (pEq (.bool stop_3))] [] (fun g : (Nat × G3 × G3) => (pEq (.pointer (some ⟨g.1, 0, none⟩)))) (fun g : (Nat × G3 × G3) => [oBlk g.1 [(pPtr (cGProblem r.p)), (pEq (.slice g.2.1.1 g.2.1.2.1 g.2.1.2.2)), (pEq (.int .i64 r.span)), (pEq (.int .i64 r.nodes)), (pEq (.int .i64 r.budget)), (pEq (.int .i64 r.count)), (pEq (.slice g.2.2.1 g.2.2.2.1 g.2.2.2.2)), (pEq (.bool r.stop))], oSl 2 1 (cK .i64) g.2.1.1 g.2.1.2.1 g.2.1.2.2 r.list, oSl 2 1 (cK .i64) g.2.2.1 g.2.2.2.1 g.2.2.2.2 r.first]) := by
  unfold m_spec_l18Run at h
  refine CallH.enter Try.func79 rfl Try.ntmps79 rfl fun W I0 H => ?_
  refine Tr.weak (Γ' := [(0, (pPtr (cGProblem p_0))), (1, (pEq (.int .i64 span_1))), (2, (pEq (.int .i64 budget_2))), (3, (pEq (.bool stop_3)))]) ⟨rfl, rfl, rfl, rfl, trivial⟩ ?_
  refine Tr.seq ?_
  refine Tr.region ?_
  refine RegL.pure (p := (pEq (.pointer none))) rfl rfl rfl (J_assign rfl Opd.con) ?_
  refine RegL.nil ?_
  refine Ct.then_tr ?_
  refine Tr.weak (Γ' := [(0, (pPtr (cGProblem p_0))), (1, (pEq (.int .i64 span_1))), (2, (pEq (.int .i64 budget_2))), (3, (pEq (.bool stop_3)))]) ⟨rfl, rfl, rfl, rfl, trivial⟩ ?_
  refine Tr.seq ?_
  refine Tr.region ?_
  refine RegL.pure (p := (pPtr (cGProblem p_0))) rfl rfl rfl (J_move rfl (Opd.tmp rfl)) ?_
  refine RegL.pure (p := (pPtr (cGProblem p_0))) rfl rfl rfl (J_move rfl (Opd.tmp rfl)) ?_
  refine RegL.pure (p := (pPtr (cGProblem p_0))) rfl rfl rfl (J_nilCheck rfl (Opd.tmp rfl)) ?_
  refine RegL.pure (p := (pPtr ((cSl 1 (cSl 1 (cK .i64))) p_0.Domains))) rfl rfl rfl (J_fieldAddr rfl Try.underlying29 rfl sz22 (by decide) (Opd.tmp rfl) rfl) ?_
  refine RegL.pure (p := (pSl 1 (cSl 1 (cK .i64)) p_0.Domains)) rfl rfl rfl (J_load rfl Try.isAgg22 (Opd.tmp rfl)) ?_
  refine RegL.pure (p := (pEq (.int .i64 (p_0.Domains.length : Int)))) rfl rfl rfl (J_len rfl Try.underlying22 (Opd.tmp rfl) rfl) ?_
  replace h := bind_some h; obtain ⟨x1, hx1, h⟩ := h
  refine RegL.step (γ := G3) (p := fun g => (pEq (.slice g.1 g.2.1 g.2.2))) (Ω' := fun g => [oSl 2 1 (cK .i64) g.1 g.2.1 g.2.2 x1]) rfl rfl rfl (M_callH (Ωi := []) rfl Try.call67 (o_spec_l18Empty hx1) (Opds.cons (Opd.tmp rfl) Opds.nil)) fun g2 => ?_
  refine RegL.pure (p := (pEq (.int .i64 span_1))) rfl rfl rfl (J_move rfl (Opd.tmp rfl)) ?_
  refine RegL.pure (p := (pEq (.int .i64 budget_2))) rfl rfl rfl (J_move rfl (Opd.tmp rfl)) ?_
  refine RegL.pure (p := (pEq (.bool stop_3))) rfl rfl rfl (J_move rfl (Opd.tmp rfl)) ?_
  refine RegL.pure (p := (pAgg [(pPtr (cGProblem p_0)), (pEq (.slice g2.1 g2.2.1 g2.2.2)), (pEq (.int .i64 span_1)), (pEq (.int .i64 (0 : Int))), (pEq (.int .i64 budget_2)), (pEq (.int .i64 (0 : Int))), (pEq (.slice none 0 0)), (pEq (.bool stop_3))])) rfl rfl rfl (J_build (qss := [(0, (fun x => [pPtr (cGProblem x)]) p_0), (1, [(pEq (.slice g2.1 g2.2.1 g2.2.2))]), (2, (cK .i64) span_1), (4, (cK .i64) budget_2), (7, cB stop_3)]) rfl bl88 bz88o (Parts.cons (Part.one (Opd.tmp rfl) OneC.pptr) (Parts.cons (Part.one (Opd.tmp rfl) OneC.slice) (Parts.cons (Part.one (Opd.tmp rfl) OneC.int) (Parts.cons (Part.one (Opd.tmp rfl) OneC.int) (Parts.cons (Part.one (Opd.tmp rfl) OneC.bool) Parts.nil))))) rfl) ?_
  refine RegL.step (γ := Nat) (p := fun b => pEq (.pointer (some ⟨b, 0, none⟩))) (Ω' := fun b => [oBlk b [(pPtr (cGProblem p_0)), (pEq (.slice g2.1 g2.2.1 g2.2.2)), (pEq (.int .i64 span_1)), (pEq (.int .i64 (0 : Int))), (pEq (.int .i64 budget_2)), (pEq (.int .i64 (0 : Int))), (pEq (.slice none 0 0)), (pEq (.bool stop_3))], oSl 2 1 (cK .i64) g2.1 g2.2.1 g2.2.2 x1]) rfl rfl rfl (M_boxA rfl (Opd.tmp rfl)) fun b4 => ?_
  refine RegL.pure (p := (pEq (.pointer (some ⟨b4, 0, none⟩)))) rfl rfl rfl (J_assign rfl (Opd.tmp rfl)) ?_
  refine RegL.nil ?_
  refine Ct.then_tr ?_
  refine Tr.weak (Γ' := [(9, (pEq (.pointer (some ⟨b4, 0, none⟩))))]) ⟨rfl, trivial⟩ ?_
  refine Tr.seq ?_
  refine Tr.region ?_
  refine RegL.pure (p := (pEq (.pointer (some ⟨b4, 0, none⟩)))) rfl rfl rfl (J_move rfl (Opd.tmp rfl)) ?_
  replace h := bind_some h; obtain ⟨x6, hx6, h⟩ := h
  refine RegL.re (Ω2 := [oSl 2 1 (cK .i64) none 0 0 ([] : (List Int)), oBlk b4 [(pPtr (cGProblem p_0)), (pEq (.slice g2.1 g2.2.1 g2.2.2)), (pEq (.int .i64 span_1)), (pEq (.int .i64 (0 : Int))), (pEq (.int .i64 budget_2)), (pEq (.int .i64 (0 : Int))), (pEq (.slice none 0 0)), (pEq (.bool stop_3))], oSl 2 1 (cK .i64) g2.1 g2.2.1 g2.2.2 x1]) (fun h => SatO.nilRow h) ?_
  refine RegL.re (Ω2 := [oSl 2 1 (cK .i64) g2.1 g2.2.1 g2.2.2 x1, oSl 2 1 (cK .i64) none 0 0 ([] : (List Int)), oBlk b4 [(pPtr (cGProblem p_0)), (pEq (.slice g2.1 g2.2.1 g2.2.2)), (pEq (.int .i64 span_1)), (pEq (.int .i64 (0 : Int))), (pEq (.int .i64 budget_2)), (pEq (.int .i64 (0 : Int))), (pEq (.slice none 0 0)), (pEq (.bool stop_3))]]) (fun h => SatO.pick 2 h) ?_
  refine RegL.re (Ω2 := [oBlk b4 [(pPtr (cGProblem p_0)), (pEq (.slice g2.1 g2.2.1 g2.2.2)), (pEq (.int .i64 span_1)), (pEq (.int .i64 (0 : Int))), (pEq (.int .i64 budget_2)), (pEq (.int .i64 (0 : Int))), (pEq (.slice none 0 0)), (pEq (.bool stop_3))], oSl 2 1 (cK .i64) g2.1 g2.2.1 g2.2.2 x1, oSl 2 1 (cK .i64) none 0 0 ([] : (List Int))]) (fun h => SatO.pick 2 h) ?_
  refine RegL.step (γ := (G3 × G3)) (p := fun g => (pEq (.bool x6.1))) (Ω' := fun g => [oBlk b4 [(pPtr (cGProblem p_0)), (pEq (.slice g.1.1 g.1.2.1 g.1.2.2)), (pEq (.int .i64 span_1)), (pEq (.int .i64 x6.2.2.1)), (pEq (.int .i64 budget_2)), (pEq (.int .i64 x6.2.2.2.1)), (pEq (.slice g.2.1 g.2.2.1 g.2.2.2)), (pEq (.bool stop_3))], oSl 2 1 (cK .i64) g.1.1 g.1.2.1 g.1.2.2 x6.2.1, oSl 2 1 (cK .i64) g.2.1 g.2.2.1 g.2.2.2 x6.2.2.2.2]) rfl rfl rfl (M_callH (Ωi := [oBlk b4 [(pPtr (cGProblem p_0)), (pEq (.slice g2.1 g2.2.1 g2.2.2)), (pEq (.int .i64 span_1)), (pEq (.int .i64 (0 : Int))), (pEq (.int .i64 budget_2)), (pEq (.int .i64 (0 : Int))), (pEq (.slice none 0 0)), (pEq (.bool stop_3))], oSl 2 1 (cK .i64) g2.1 g2.2.1 g2.2.2 x1, oSl 2 1 (cK .i64) none 0 0 ([] : (List Int))]) rfl Try.call106 (o_spec_l18Search_visit hx6) (Opds.cons (Opd.tmp rfl) (Opds.cons Opd.con Opds.nil))) fun g7 => ?_
  refine RegL.nil ?_
  refine Ct.then_tr ?_
  refine Tr.weak (Γ' := [(9, (pEq (.pointer (some ⟨b4, 0, none⟩))))]) ⟨rfl, trivial⟩ ?_
  refine Tr.seq ?_
  refine Tr.region ?_
  refine RegL.pure (p := (pEq (.pointer (some ⟨b4, 0, none⟩)))) rfl rfl rfl (J_move rfl (Opd.tmp rfl)) ?_
  refine RegL.pure (p := (pEq (.pointer (some ⟨b4, 0, none⟩)))) rfl rfl rfl (J_assign rfl (Opd.tmp rfl)) ?_
  refine RegL.nil ?_
  refine Ct.then_tr ?_
  refine Tr.weak (Γ' := [(8, (pEq (.pointer (some ⟨b4, 0, none⟩))))]) ⟨rfl, trivial⟩ ?_
  refine Tr.ret ?_
  replace h := Option.some.inj h; subst h
  exact Ct.retH1 (Ωx := []) (b4, (g7.1.1, g7.1.2.1, g7.1.2.2), (g7.2.1, g7.2.2.1, g7.2.2.2)) rfl (RvOk.tmp rfl) rfl

theorem c_spec_l18Run {p_0 : GProblem} {span_1 : Int} {budget_2 : Int} {stop_3 : Bool} {r : GL18Search} (h : m_spec_l18Run p_0 span_1 budget_2 stop_3 = some r) : CallJ Try.prog 79 [(pPtr (cGProblem p_0)), (pEq (.int .i64 span_1)), (pEq (.int .i64 budget_2)), (pEq (.bool stop_3))] (pPtr (cGL18Search r)) :=
  CallH.frozen (o_spec_l18Run h) (fun g => (Conv.ptr 0 rfl (Convs.cons Conv.refl (Convs.cons (Conv.row (f := (cK .i64)) 1 (fun _ => rfl) rfl) (Convs.cons Conv.refl (Convs.cons Conv.refl (Convs.cons Conv.refl (Convs.cons Conv.refl (Convs.cons (Conv.row (f := (cK .i64)) 2 (fun _ => rfl) rfl) (Convs.cons Conv.refl Convs.nil))))))))))

theorem o_spec_LeastSpan {p_0 : GProblem} {budget_1 : Int}  {r : ((List Int) × Int)} (h : m_spec_LeastSpan p_0 budget_1 = some r) : CallH Try.prog 36 [(pAgg (cGProblem p_0)), (pEq (.int .i64 budget_1))] [] (fun g : G3 => (pTup [(pEq (.slice g.1 g.2.1 g.2.2)), (pEq (.int .i64 r.2))])) (fun g : G3 => [oSl 2 1 (cK .i64) g.1 g.2.1 g.2.2 r.1]) := by
  unfold m_spec_LeastSpan at h
  refine CallH.enter Try.func36 rfl Try.ntmps36 rfl fun W I0 H => ?_
  refine Tr.weak (Γ' := [(0, (pAgg (cGProblem p_0))), (1, (pEq (.int .i64 budget_1)))]) ⟨rfl, rfl, trivial⟩ ?_
  refine Tr.seq ?_
  refine Tr.region ?_
  refine RegL.pure (p := (pPtr (cGProblem p_0))) rfl rfl rfl (J_boxA rfl (Opd.tmp rfl)) ?_
  refine RegL.pure (p := (pEq (.slice none 0 0))) rfl rfl rfl (J_assign rfl Opd.con) ?_
  refine RegL.pure (p := (pEq (.int .i64 (0 : Int)))) rfl rfl rfl (J_assign rfl Opd.con) ?_
  refine RegL.nil ?_
  refine Ct.then_tr ?_
  refine Tr.weak (Γ' := [(1, (pEq (.int .i64 budget_1))), (2, (pPtr (cGProblem p_0)))]) ⟨rfl, rfl, trivial⟩ ?_
  refine Tr.seq ?_
  refine Tr.region ?_
  refine RegL.pure (p := (pEq (.int .i64 budget_1))) rfl rfl rfl (J_move rfl (Opd.tmp rfl)) ?_
  replace h := bind_some h; obtain ⟨x1, hx1, h⟩ := h
  refine RegL.pure (p := (pEq (.int .i64 x1))) rfl rfl rfl (J_call rfl Try.call78 (c_spec_l18Ask hx1) (Opds.cons (Opd.tmp rfl) (Opds.cons (Opd.tmp rfl) Opds.nil))) ?_
  refine RegL.pure (p := (pEq (.int .i64 x1))) rfl rfl rfl (J_assign rfl (Opd.tmp rfl)) ?_
  refine RegL.nil ?_
  refine Ct.then_tr ?_
  refine Tr.weak (Γ' := [(1, (pEq (.int .i64 budget_1))), (2, (pPtr (cGProblem p_0))), (6, (pEq (.int .i64 x1)))]) ⟨rfl, rfl, rfl, trivial⟩ ?_
  refine Tr.seq ?_
  refine Tr.seq ?_
  refine Tr.region ?_
  refine RegL.pure (p := (pEq (.int .i64 x1))) rfl rfl rfl (J_move rfl (Opd.tmp rfl)) ?_
  refine RegL.pure (p := (pEq (.bool (x1 != (0 : Int))))) rfl rfl rfl (J_bin rfl (Opd.tmp rfl) Opd.con B_neq) ?_
  refine RegL.nil ?_
  refine Ct.then_tr ?_
  refine Tr.weak (Γ' := [(1, (pEq (.int .i64 budget_1))), (2, (pPtr (cGProblem p_0))), (6, (pEq (.int .i64 x1))), (13, (pEq (.bool (x1 != (0 : Int)))))]) ⟨rfl, rfl, rfl, rfl, trivial⟩ ?_
  refine Tr.cond (Opd.tmp rfl) (fun hc => ?_) (fun hc => ?_)
  · replace h := bif_t hc h
    refine Tr.seq ?_
    refine Tr.region ?_
    refine RegL.pure (p := (pEq (.int .i64 x1))) rfl rfl rfl (J_move rfl (Opd.tmp rfl)) ?_
    refine RegL.pure (p := (pEq (.slice none 0 0))) rfl rfl rfl (J_assign rfl Opd.con) ?_
    refine RegL.pure (p := (pEq (.int .i64 x1))) rfl rfl rfl (J_assign rfl (Opd.tmp rfl)) ?_
    refine RegL.nil ?_
    refine Ct.then_tr ?_
    refine Tr.weak (Γ' := [(4, (pEq (.slice none 0 0))), (5, (pEq (.int .i64 x1)))]) ⟨rfl, rfl, trivial⟩ ?_
    refine Tr.ret ?_
    refine Ct.then_ret ?_
    refine Ct.re (Ω2 := [oSl 2 1 (cK .i64) none 0 0 ([] : (List Int))]) (fun h => SatO.nilRow h) ?_
    replace h := Option.some.inj h; subst h
    exact Ct.retH2 (Ωx := []) (none, 0, 0) rfl (RvOk.tmp rfl) (RvOk.tmp rfl) rfl rfl
  · replace h := bif_f hc h
    refine Tr.skip ?_
    refine Ct.then_tr ?_
    refine Tr.weak (Γ' := [(1, (pEq (.int .i64 budget_1))), (2, (pPtr (cGProblem p_0)))]) ⟨rfl, rfl, trivial⟩ ?_
    refine Tr.seq ?_
    refine Tr.region ?_
    refine RegL.pure (p := (pEq (.int .i64 budget_1))) rfl rfl rfl (J_move rfl (Opd.tmp rfl)) ?_
    refine RegL.pure (p := (pEq (.int .i64 budget_1))) rfl rfl rfl (J_assign rfl (Opd.tmp rfl)) ?_
    refine RegL.nil ?_
    refine Ct.then_tr ?_
    refine Tr.weak (Γ' := [(2, (pPtr (cGProblem p_0))), (7, (pEq (.int .i64 budget_1)))]) ⟨rfl, rfl, trivial⟩ ?_
    refine Tr.seq ?_
    refine Tr.seq ?_
    refine Tr.region ?_
    replace h := bind_some h; obtain ⟨x3, hx3, h⟩ := h
    refine RegL.pure (p := (pEq (.int .i64 x3))) rfl rfl rfl (J_call rfl Try.call81 (c_spec_l18Low hx3) (Opds.cons (Opd.tmp rfl) Opds.nil)) ?_
    refine RegL.pure (p := (pEq (.int .i64 x3))) rfl rfl rfl (J_assign rfl (Opd.tmp rfl)) ?_
    refine RegL.nil ?_
    refine Ct.then_tr ?_
    refine Tr.weak (Γ' := [(2, (pPtr (cGProblem p_0))), (7, (pEq (.int .i64 budget_1))), (8, (pEq (.int .i64 x3)))]) ⟨rfl, rfl, rfl, trivial⟩ ?_
    refine Tr.block ?_
    refine Tr.weak (Γ' := [(2, (pPtr (cGProblem p_0))), (7, (pEq (.int .i64 budget_1))), (8, (pEq (.int .i64 x3)))]) ⟨rfl, rfl, rfl, trivial⟩ ?_
    refine Tr.loop (γ := Unit) (σ := (Int × Int)) (Γσ := fun s g => [(2, (pPtr (cGProblem p_0))), (7, (pEq (.int .i64 s.1))), (8, (pEq (.int .i64 s.2)))]) (Ωσ := fun s g => []) (g := ()) h ?_
    clear h
    rintro ⟨v5, v6⟩ g7 t h
    replace h : m_spec_LeastSpan_B4 p_0 v5 v6 = some t := h
    unfold m_spec_LeastSpan_B4 at h
    refine Tr.weakO (Γ' := [(2, (pPtr (cGProblem p_0))), (7, (pEq (.int .i64 v5))), (8, (pEq (.int .i64 v6)))]) (Ω' := []) rfl ⟨rfl, rfl, rfl, trivial⟩ ?_
    refine Tr.seq ?_
    refine Tr.seq ?_
    refine Tr.region ?_
    refine RegL.pure (p := (pEq (.int .i64 v6))) rfl rfl rfl (J_move rfl (Opd.tmp rfl)) ?_
    replace h := bind_some h; obtain ⟨x8, hx8, h⟩ := h
    refine RegL.pure (p := (pEq (.int .i64 x8))) rfl rfl rfl (J_call rfl Try.call82 (c_spec_l18High hx8) (Opds.cons (Opd.tmp rfl) Opds.nil)) ?_
    refine RegL.pure (p := (pEq (.bool (decide (v6 ≤ x8))))) rfl rfl rfl (J_bin rfl (Opd.tmp rfl) (Opd.tmp rfl) B_leq) ?_
    refine RegL.nil ?_
    refine Ct.then_tr ?_
    refine Tr.weak (Γ' := [(2, (pPtr (cGProblem p_0))), (7, (pEq (.int .i64 v5))), (8, (pEq (.int .i64 v6))), (19, (pEq (.bool (decide (v6 ≤ x8)))))]) ⟨rfl, rfl, rfl, rfl, trivial⟩ ?_
    refine Tr.cond (Opd.tmp rfl) (fun hc => ?_) (fun hc => ?_)
    · replace h := bif_t hc h
      refine Tr.skip ?_
      refine Ct.then_tr ?_
      refine Tr.weak (Γ' := [(2, (pPtr (cGProblem p_0))), (7, (pEq (.int .i64 v5))), (8, (pEq (.int .i64 v6)))]) ⟨rfl, rfl, rfl, trivial⟩ ?_
      refine Tr.seq ?_
      refine Tr.block ?_
      refine Tr.seq ?_
      refine Tr.region ?_
      refine RegL.pure (p := (pEq (.int .i64 v6))) rfl rfl rfl (J_move rfl (Opd.tmp rfl)) ?_
      refine RegL.pure (p := (pEq (.int .i64 v5))) rfl rfl rfl (J_move rfl (Opd.tmp rfl)) ?_
      replace h := bind_some h; obtain ⟨x9, hx9, h⟩ := h
      refine RegL.step (γ := (Nat × G3 × G3)) (p := fun g => (pEq (.pointer (some ⟨g.1, 0, none⟩)))) (Ω' := fun g => [oBlk g.1 [(pPtr (cGProblem x9.p)), (pEq (.slice g.2.1.1 g.2.1.2.1 g.2.1.2.2)), (pEq (.int .i64 x9.span)), (pEq (.int .i64 x9.nodes)), (pEq (.int .i64 x9.budget)), (pEq (.int .i64 x9.count)), (pEq (.slice g.2.2.1 g.2.2.2.1 g.2.2.2.2)), (pEq (.bool x9.stop))], oSl 2 1 (cK .i64) g.2.1.1 g.2.1.2.1 g.2.1.2.2 x9.list, oSl 2 1 (cK .i64) g.2.2.1 g.2.2.2.1 g.2.2.2.2 x9.first]) rfl rfl rfl (M_callH (Ωi := []) rfl Try.call79 (o_spec_l18Run hx9) (Opds.cons (Opd.tmp rfl) (Opds.cons (Opd.tmp rfl) (Opds.cons (Opd.tmp rfl) (Opds.cons Opd.con Opds.nil))))) fun g10 => ?_
      refine RegL.pure (p := (pEq (.pointer (some ⟨g10.1, 0, none⟩)))) rfl rfl rfl (J_assign rfl (Opd.tmp rfl)) ?_
      refine RegL.nil ?_
      refine Ct.then_tr ?_
      refine Tr.weak (Γ' := [(2, (pPtr (cGProblem p_0))), (7, (pEq (.int .i64 v5))), (8, (pEq (.int .i64 v6))), (9, (pEq (.pointer (some ⟨g10.1, 0, none⟩))))]) ⟨rfl, rfl, rfl, rfl, trivial⟩ ?_
      refine Tr.seq ?_
      refine Tr.seq ?_
      refine Tr.region ?_
      refine RegL.pure (p := (pEq (.pointer (some ⟨g10.1, 0, none⟩)))) rfl rfl rfl (J_move rfl (Opd.tmp rfl)) ?_
      refine RegL.pure (p := (pEq (.pointer (some ⟨g10.1, 0, none⟩)))) rfl rfl rfl (J_nilCheckE rfl (Opd.tmp rfl)) ?_
      refine RegL.pure (p := (pEq (.pointer (some ⟨g10.1, 3, none⟩)))) rfl rfl rfl (J_fieldAddrE rfl Try.underlying88 rfl sz2 (by decide) (Opd.tmp rfl) rfl) ?_
      refine RegL.pureW (p := (pEq (.int .i64 x9.nodes))) rfl rfl rfl (W_load (i := 0) rfl Try.isAgg2 (Opd.tmp rfl) rfl rfl) ?_
      refine RegL.pure (p := (pEq (.int .i64 v5))) rfl rfl rfl (J_move rfl (Opd.tmp rfl)) ?_
      refine RegL.pure (p := (pEq (.bool (decide (v5 < x9.nodes))))) rfl rfl rfl (J_bin rfl (Opd.tmp rfl) (Opd.tmp rfl) B_gtr) ?_
      refine RegL.nil ?_
      refine Ct.then_tr ?_
      refine Tr.weak (Γ' := [(2, (pPtr (cGProblem p_0))), (7, (pEq (.int .i64 v5))), (8, (pEq (.int .i64 v6))), (9, (pEq (.pointer (some ⟨g10.1, 0, none⟩)))), (30, (pEq (.bool (decide (v5 < x9.nodes)))))]) ⟨rfl, rfl, rfl, rfl, rfl, trivial⟩ ?_
      refine Tr.cond (Opd.tmp rfl) (fun hc => ?_) (fun hc => ?_)
      · replace h := bif_t hc h
        refine Tr.seq ?_
        refine Tr.region ?_
        refine RegL.pure (p := (pEq (.slice none 0 0))) rfl rfl rfl (J_assign rfl Opd.con) ?_
        refine RegL.pure (p := (pEq (.int .i64 (5 : Int)))) rfl rfl rfl (J_assign rfl Opd.con) ?_
        refine RegL.nil ?_
        refine Ct.then_tr ?_
        refine Tr.weak (Γ' := [(4, (pEq (.slice none 0 0))), (5, (pEq (.int .i64 (5 : Int))))]) ⟨rfl, rfl, trivial⟩ ?_
        refine Tr.ret ?_
        refine Ct.then_ret ?_
        refine Ct.blk_ret ?_
        refine Ct.then_ret ?_
        replace h := map_some h; obtain ⟨r1, h, rfl⟩ := h
        refine Ct.out_ret fun e => ?_
        subst e
        refine Ct.blk_ret ?_
        refine Ct.then_ret ?_
        refine Ct.re (Ω2 := [oSl 2 1 (cK .i64) none 0 0 ([] : (List Int)), oBlk g10.1 [(pPtr (cGProblem x9.p)), (pEq (.slice g10.2.1.1 g10.2.1.2.1 g10.2.1.2.2)), (pEq (.int .i64 x9.span)), (pEq (.int .i64 x9.nodes)), (pEq (.int .i64 x9.budget)), (pEq (.int .i64 x9.count)), (pEq (.slice g10.2.2.1 g10.2.2.2.1 g10.2.2.2.2)), (pEq (.bool x9.stop))], oSl 2 1 (cK .i64) g10.2.1.1 g10.2.1.2.1 g10.2.1.2.2 x9.list, oSl 2 1 (cK .i64) g10.2.2.1 g10.2.2.2.1 g10.2.2.2.2 x9.first]) (fun h => SatO.nilRow h) ?_
        refine Ct.re (Ω2 := [oSl 2 1 (cK .i64) g10.2.2.1 g10.2.2.2.1 g10.2.2.2.2 x9.first, oSl 2 1 (cK .i64) none 0 0 ([] : (List Int)), oBlk g10.1 [(pPtr (cGProblem x9.p)), (pEq (.slice g10.2.1.1 g10.2.1.2.1 g10.2.1.2.2)), (pEq (.int .i64 x9.span)), (pEq (.int .i64 x9.nodes)), (pEq (.int .i64 x9.budget)), (pEq (.int .i64 x9.count)), (pEq (.slice g10.2.2.1 g10.2.2.2.1 g10.2.2.2.2)), (pEq (.bool x9.stop))], oSl 2 1 (cK .i64) g10.2.1.1 g10.2.1.2.1 g10.2.1.2.2 x9.list]) (fun h => SatO.pick 3 h) ?_
        refine Ct.re (Ω2 := [oSl 2 1 (cK .i64) g10.2.1.1 g10.2.1.2.1 g10.2.1.2.2 x9.list, oSl 2 1 (cK .i64) g10.2.2.1 g10.2.2.2.1 g10.2.2.2.2 x9.first, oSl 2 1 (cK .i64) none 0 0 ([] : (List Int)), oBlk g10.1 [(pPtr (cGProblem x9.p)), (pEq (.slice g10.2.1.1 g10.2.1.2.1 g10.2.1.2.2)), (pEq (.int .i64 x9.span)), (pEq (.int .i64 x9.nodes)), (pEq (.int .i64 x9.budget)), (pEq (.int .i64 x9.count)), (pEq (.slice g10.2.2.1 g10.2.2.2.1 g10.2.2.2.2)), (pEq (.bool x9.stop))]]) (fun h => SatO.pick 3 h) ?_
        refine Ct.re (Ω2 := [oBlk g10.1 [(pPtr (cGProblem x9.p)), (pEq (.slice g10.2.1.1 g10.2.1.2.1 g10.2.1.2.2)), (pEq (.int .i64 x9.span)), (pEq (.int .i64 x9.nodes)), (pEq (.int .i64 x9.budget)), (pEq (.int .i64 x9.count)), (pEq (.slice g10.2.2.1 g10.2.2.2.1 g10.2.2.2.2)), (pEq (.bool x9.stop))], oSl 2 1 (cK .i64) g10.2.1.1 g10.2.1.2.1 g10.2.1.2.2 x9.list, oSl 2 1 (cK .i64) g10.2.2.1 g10.2.2.2.1 g10.2.2.2.2 x9.first, oSl 2 1 (cK .i64) none 0 0 ([] : (List Int))]) (fun h => SatO.pick 3 h) ?_
        replace h := Option.some.inj h; subst h
        exact Ct.retH2 (Ωx := [oBlk g10.1 [(pPtr (cGProblem x9.p)), (pEq (.slice g10.2.1.1 g10.2.1.2.1 g10.2.1.2.2)), (pEq (.int .i64 x9.span)), (pEq (.int .i64 x9.nodes)), (pEq (.int .i64 x9.budget)), (pEq (.int .i64 x9.count)), (pEq (.slice g10.2.2.1 g10.2.2.2.1 g10.2.2.2.2)), (pEq (.bool x9.stop))], oSl 2 1 (cK .i64) g10.2.1.1 g10.2.1.2.1 g10.2.1.2.2 x9.list, oSl 2 1 (cK .i64) g10.2.2.1 g10.2.2.2.1 g10.2.2.2.2 x9.first]) (none, 0, 0) rfl (RvOk.tmp rfl) (RvOk.tmp rfl) rfl rfl
      · replace h := bif_f hc h
        refine Tr.skip ?_
        refine Ct.then_tr ?_
        refine Tr.weak (Γ' := [(2, (pPtr (cGProblem p_0))), (7, (pEq (.int .i64 v5))), (8, (pEq (.int .i64 v6))), (9, (pEq (.pointer (some ⟨g10.1, 0, none⟩))))]) ⟨rfl, rfl, rfl, rfl, trivial⟩ ?_
        refine Tr.seq ?_
        refine Tr.seq ?_
        refine Tr.region ?_
        refine RegL.pure (p := (pEq (.pointer (some ⟨g10.1, 0, none⟩)))) rfl rfl rfl (J_move rfl (Opd.tmp rfl)) ?_
        refine RegL.pure (p := (pEq (.pointer (some ⟨g10.1, 0, none⟩)))) rfl rfl rfl (J_nilCheckE rfl (Opd.tmp rfl)) ?_
        refine RegL.pure (p := (pEq (.pointer (some ⟨g10.1, 5, none⟩)))) rfl rfl rfl (J_fieldAddrE rfl Try.underlying88 rfl sz2 (by decide) (Opd.tmp rfl) rfl) ?_
        refine RegL.pureW (p := (pEq (.int .i64 x9.count))) rfl rfl rfl (W_load (i := 0) rfl Try.isAgg2 (Opd.tmp rfl) rfl rfl) ?_
        refine RegL.pure (p := (pEq (.bool (decide ((0 : Int) < x9.count))))) rfl rfl rfl (J_bin rfl (Opd.tmp rfl) Opd.con B_gtr) ?_
        refine RegL.nil ?_
        refine Ct.then_tr ?_
        refine Tr.weak (Γ' := [(2, (pPtr (cGProblem p_0))), (7, (pEq (.int .i64 v5))), (8, (pEq (.int .i64 v6))), (9, (pEq (.pointer (some ⟨g10.1, 0, none⟩)))), (35, (pEq (.bool (decide ((0 : Int) < x9.count)))))]) ⟨rfl, rfl, rfl, rfl, rfl, trivial⟩ ?_
        refine Tr.cond (Opd.tmp rfl) (fun hc => ?_) (fun hc => ?_)
        · replace h := bif_t hc h
          refine Tr.seq ?_
          refine Tr.region ?_
          refine RegL.pure (p := (pEq (.pointer (some ⟨g10.1, 0, none⟩)))) rfl rfl rfl (J_move rfl (Opd.tmp rfl)) ?_
          refine RegL.pure (p := (pEq (.pointer (some ⟨g10.1, 0, none⟩)))) rfl rfl rfl (J_nilCheckE rfl (Opd.tmp rfl)) ?_
          refine RegL.pure (p := (pEq (.pointer (some ⟨g10.1, 6, none⟩)))) rfl rfl rfl (J_fieldAddrE rfl Try.underlying88 rfl sz25 (by decide) (Opd.tmp rfl) rfl) ?_
          refine RegL.pureW (p := (pEq (.slice g10.2.2.1 g10.2.2.2.1 g10.2.2.2.2))) rfl rfl rfl (W_load (i := 0) rfl Try.isAgg25 (Opd.tmp rfl) rfl rfl) ?_
          refine RegL.pure (p := (pEq (.slice g10.2.2.1 g10.2.2.2.1 g10.2.2.2.2))) rfl rfl rfl (J_assign rfl (Opd.tmp rfl)) ?_
          refine RegL.pure (p := (pEq (.int .i64 (0 : Int)))) rfl rfl rfl (J_assign rfl Opd.con) ?_
          refine RegL.nil ?_
          refine Ct.then_tr ?_
          refine Tr.weak (Γ' := [(4, (pEq (.slice g10.2.2.1 g10.2.2.2.1 g10.2.2.2.2))), (5, (pEq (.int .i64 (0 : Int))))]) ⟨rfl, rfl, trivial⟩ ?_
          refine Tr.ret ?_
          refine Ct.then_ret ?_
          refine Ct.blk_ret ?_
          refine Ct.then_ret ?_
          replace h := map_some h; obtain ⟨r1, h, rfl⟩ := h
          refine Ct.out_ret fun e => ?_
          subst e
          refine Ct.blk_ret ?_
          refine Ct.then_ret ?_
          replace h := Option.some.inj h; subst h
          exact Ct.retH2 (Ωx := [oBlk g10.1 [(pPtr (cGProblem x9.p)), (pEq (.slice g10.2.1.1 g10.2.1.2.1 g10.2.1.2.2)), (pEq (.int .i64 x9.span)), (pEq (.int .i64 x9.nodes)), (pEq (.int .i64 x9.budget)), (pEq (.int .i64 x9.count)), (pEq (.slice g10.2.2.1 g10.2.2.2.1 g10.2.2.2.2)), (pEq (.bool x9.stop))], oSl 2 1 (cK .i64) g10.2.1.1 g10.2.1.2.1 g10.2.1.2.2 x9.list]) (g10.2.2.1, g10.2.2.2.1, g10.2.2.2.2) rfl (RvOk.tmp rfl) (RvOk.tmp rfl) rfl rfl
        · replace h := bif_f hc h
          refine Tr.skip ?_
          refine Ct.then_tr ?_
          refine Tr.weak (Γ' := [(2, (pPtr (cGProblem p_0))), (7, (pEq (.int .i64 v5))), (8, (pEq (.int .i64 v6))), (9, (pEq (.pointer (some ⟨g10.1, 0, none⟩))))]) ⟨rfl, rfl, rfl, rfl, trivial⟩ ?_
          refine Tr.region ?_
          refine RegL.pure (p := (pEq (.int .i64 v5))) rfl rfl rfl (J_move rfl (Opd.tmp rfl)) ?_
          refine RegL.pure (p := (pEq (.pointer (some ⟨g10.1, 0, none⟩)))) rfl rfl rfl (J_move rfl (Opd.tmp rfl)) ?_
          refine RegL.pure (p := (pEq (.pointer (some ⟨g10.1, 0, none⟩)))) rfl rfl rfl (J_nilCheckE rfl (Opd.tmp rfl)) ?_
          refine RegL.pure (p := (pEq (.pointer (some ⟨g10.1, 3, none⟩)))) rfl rfl rfl (J_fieldAddrE rfl Try.underlying88 rfl sz2 (by decide) (Opd.tmp rfl) rfl) ?_
          refine RegL.pureW (p := (pEq (.int .i64 x9.nodes))) rfl rfl rfl (W_load (i := 0) rfl Try.isAgg2 (Opd.tmp rfl) rfl rfl) ?_
          refine RegL.pure (p := (pEq (.int .i64 (w64 (v5 - x9.nodes))))) rfl rfl rfl (J_bin rfl (Opd.tmp rfl) (Opd.tmp rfl) B_sub) ?_
          refine RegL.pure (p := (pEq (.int .i64 (w64 (v5 - x9.nodes))))) rfl rfl rfl (J_assign rfl (Opd.tmp rfl)) ?_
          refine RegL.nil ?_
          refine Ct.blk_normal ?_
          refine Ct.then_tr ?_
          refine Tr.weak (Γ' := [(2, (pPtr (cGProblem p_0))), (7, (pEq (.int .i64 (w64 (v5 - x9.nodes))))), (8, (pEq (.int .i64 v6)))]) ⟨rfl, rfl, rfl, trivial⟩ ?_
          refine Tr.region ?_
          refine RegL.pure (p := (pEq (.int .i64 v6))) rfl rfl rfl (J_move rfl (Opd.tmp rfl)) ?_
          refine RegL.pure (p := (pEq (.int .i64 (w64 (v6 + (1 : Int)))))) rfl rfl rfl (J_bin rfl (Opd.tmp rfl) Opd.con B_add) ?_
          refine RegL.pure (p := (pEq (.int .i64 (w64 (v6 + (1 : Int)))))) rfl rfl rfl (J_assign rfl (Opd.tmp rfl)) ?_
          refine RegL.nil ?_
          refine Ct.re (Ω2 := [oSl 2 1 (cK .i64) g10.2.1.1 g10.2.1.2.1 g10.2.1.2.2 x9.list, oSl 2 1 (cK .i64) g10.2.2.1 g10.2.2.2.1 g10.2.2.2.2 x9.first]) (fun h => SatO.rest h) ?_
          refine Ct.re (Ω2 := [oSl 2 1 (cK .i64) g10.2.2.1 g10.2.2.2.1 g10.2.2.2.2 x9.first]) (fun h => SatO.rest h) ?_
          refine Ct.re (Ω2 := []) (fun h => SatO.rest h) ?_
          replace h := Option.some.inj h; subst h
          exact Ct.again () rfl ⟨rfl, rfl, rfl, trivial⟩
    · replace h := bif_f hc h
      refine Tr.exit ?_
      refine Ct.then_exit ?_
      replace h := map_some h; obtain ⟨r1, h, rfl⟩ := h
      refine Ct.out_exit fun e => ?_
      subst e
      refine Ct.blk_exit ?_
      refine Ct.then_tr ?_
      refine Tr.weak (Γ' := []) trivial ?_
      refine Tr.seq ?_
      refine Tr.region ?_
      refine RegL.pure (p := (pEq (.slice none 0 0))) rfl rfl rfl (J_assign rfl Opd.con) ?_
      refine RegL.pure (p := (pEq (.int .i64 (3 : Int)))) rfl rfl rfl (J_assign rfl Opd.con) ?_
      refine RegL.nil ?_
      refine Ct.then_tr ?_
      refine Tr.weak (Γ' := [(4, (pEq (.slice none 0 0))), (5, (pEq (.int .i64 (3 : Int))))]) ⟨rfl, rfl, trivial⟩ ?_
      refine Tr.ret ?_
      refine Ct.re (Ω2 := [oSl 2 1 (cK .i64) none 0 0 ([] : (List Int))]) (fun h => SatO.nilRow h) ?_
      replace h := Option.some.inj h; subst h
      exact Ct.retH2 (Ωx := []) (none, 0, 0) rfl (RvOk.tmp rfl) (RvOk.tmp rfl) rfl rfl

theorem c_spec_LeastSpan {p_0 : GProblem} {budget_1 : Int} {r : ((List Int) × Int)} (h : m_spec_LeastSpan p_0 budget_1 = some r) : CallJ Try.prog 36 [(pAgg (cGProblem p_0)), (pEq (.int .i64 budget_1))] (pTup [(pSl 1 (cK .i64) r.1), (pEq (.int .i64 r.2))]) :=
  CallH.frozen (o_spec_LeastSpan h) (fun g => (Conv.tup (Convs.cons (Conv.row (f := (cK .i64)) 0 (fun _ => rfl) rfl) (Convs.cons Conv.refl Convs.nil))))

theorem c_slices_IndexFunc_SSint64_int64 {s_0 : (List (List Int))} {f_1 : ((List Int) → Option Bool)} {r : Int} (h : m_slices_IndexFunc_SSint64_int64 s_0 f_1 = some r) : CallJ Try.prog 120 [(pSl 1 (cSl 1 (cK .i64)) s_0), (pFn Try.prog (fun x => [(pSl 1 (cK .i64) x)]) f_1 (fun y => (pEq (.bool y))))] (pEq (.int .i64 r)) := by
  unfold m_slices_IndexFunc_SSint64_int64 at h
  refine CallJ.enterH Try.func120 rfl Try.ntmps120 rfl fun W I0 H => ?_
  refine Tr.weak (Γ' := [(0, (pSl 1 (cSl 1 (cK .i64)) s_0)), (1, (pFn Try.prog (fun x => [(pSl 1 (cK .i64) x)]) f_1 (fun y => (pEq (.bool y)))))]) ⟨rfl, rfl, trivial⟩ ?_
  refine Tr.seq ?_
  refine Tr.region ?_
  refine RegL.pure (p := (pEq (.int .i64 (0 : Int)))) rfl rfl rfl (J_assign rfl Opd.con) ?_
  refine RegL.nil ?_
  refine Ct.then_tr ?_
  refine Tr.weak (Γ' := [(0, (pSl 1 (cSl 1 (cK .i64)) s_0)), (1, (pFn Try.prog (fun x => [(pSl 1 (cK .i64) x)]) f_1 (fun y => (pEq (.bool y)))))]) ⟨rfl, rfl, trivial⟩ ?_
  refine Tr.seq ?_
  refine Tr.seq ?_
  refine Tr.region ?_
  refine RegL.pure (p := (pSl 1 (cSl 1 (cK .i64)) s_0)) rfl rfl rfl (J_move rfl (Opd.tmp rfl)) ?_
  refine RegL.pure (p := (pEq (.int .i64 (s_0.length : Int)))) rfl rfl rfl (J_len rfl Try.underlying22 (Opd.tmp rfl) rfl) ?_
  refine RegL.pure (p := (pEq (.int .i64 (0 : Int)))) rfl rfl rfl (J_move rfl Opd.con) ?_
  refine RegL.nil ?_
  refine Ct.then_tr ?_
  refine Tr.weak (Γ' := [(0, (pSl 1 (cSl 1 (cK .i64)) s_0)), (1, (pFn Try.prog (fun x => [(pSl 1 (cK .i64) x)]) f_1 (fun y => (pEq (.bool y))))), (7, (pEq (.int .i64 (s_0.length : Int)))), (8, (pEq (.int .i64 (0 : Int))))]) ⟨rfl, rfl, rfl, rfl, trivial⟩ ?_
  refine Tr.block ?_
  refine Tr.weak (Γ' := [(0, (pSl 1 (cSl 1 (cK .i64)) s_0)), (1, (pFn Try.prog (fun x => [(pSl 1 (cK .i64) x)]) f_1 (fun y => (pEq (.bool y))))), (7, (pEq (.int .i64 (s_0.length : Int)))), (8, (pEq (.int .i64 (0 : Int))))]) ⟨rfl, rfl, rfl, rfl, trivial⟩ ?_
  refine Tr.loop (γ := Unit) (σ := Int) (Γσ := fun s g => [(0, (pSl 1 (cSl 1 (cK .i64)) s_0)), (1, (pFn Try.prog (fun x => [(pSl 1 (cK .i64) x)]) f_1 (fun y => (pEq (.bool y))))), (7, (pEq (.int .i64 (s_0.length : Int)))), (8, (pEq (.int .i64 s)))]) (Ωσ := fun s g => []) (g := ()) h ?_
  clear h
  rintro v2 g3 t h
  replace h : m_slices_IndexFunc_SSint64_int64_B1 s_0 f_1 v2 = some t := h
  unfold m_slices_IndexFunc_SSint64_int64_B1 at h
  refine Tr.weakO (Γ' := [(0, (pSl 1 (cSl 1 (cK .i64)) s_0)), (1, (pFn Try.prog (fun x => [(pSl 1 (cK .i64) x)]) f_1 (fun y => (pEq (.bool y))))), (7, (pEq (.int .i64 (s_0.length : Int)))), (8, (pEq (.int .i64 v2)))]) (Ω' := []) rfl ⟨rfl, rfl, rfl, rfl, trivial⟩ ?_
  refine Tr.seq ?_
  refine Tr.region ?_
  refine RegL.pure (p := (pEq (.bool (decide (v2 < (s_0.length : Int)))))) rfl rfl rfl (J_bin rfl (Opd.tmp rfl) (Opd.tmp rfl) B_lss) ?_
  refine RegL.nil ?_
  refine Ct.then_tr ?_
  refine Tr.weak (Γ' := [(0, (pSl 1 (cSl 1 (cK .i64)) s_0)), (1, (pFn Try.prog (fun x => [(pSl 1 (cK .i64) x)]) f_1 (fun y => (pEq (.bool y))))), (7, (pEq (.int .i64 (s_0.length : Int)))), (8, (pEq (.int .i64 v2))), (9, (pEq (.bool (decide (v2 < (s_0.length : Int))))))]) ⟨rfl, rfl, rfl, rfl, rfl, trivial⟩ ?_
  refine Tr.seq ?_
  refine Tr.cond (Opd.tmp rfl) (fun hc => ?_) (fun hc => ?_)
  · replace h := bif_t hc h
    refine Tr.skip ?_
    refine Ct.then_tr ?_
    refine Tr.weak (Γ' := [(0, (pSl 1 (cSl 1 (cK .i64)) s_0)), (1, (pFn Try.prog (fun x => [(pSl 1 (cK .i64) x)]) f_1 (fun y => (pEq (.bool y))))), (7, (pEq (.int .i64 (s_0.length : Int)))), (8, (pEq (.int .i64 v2)))]) ⟨rfl, rfl, rfl, rfl, trivial⟩ ?_
    refine Tr.seq ?_
    refine Tr.block ?_
    refine Tr.seq ?_
    refine Tr.region ?_
    refine RegL.pure (p := (pEq (.int .i64 v2))) rfl rfl rfl (J_move rfl (Opd.tmp rfl)) ?_
    refine RegL.pure (p := (pEq (.int .i64 v2))) rfl rfl rfl (J_assign rfl (Opd.tmp rfl)) ?_
    refine RegL.nil ?_
    refine Ct.then_tr ?_
    refine Tr.weak (Γ' := [(0, (pSl 1 (cSl 1 (cK .i64)) s_0)), (1, (pFn Try.prog (fun x => [(pSl 1 (cK .i64) x)]) f_1 (fun y => (pEq (.bool y))))), (5, (pEq (.int .i64 v2))), (7, (pEq (.int .i64 (s_0.length : Int)))), (8, (pEq (.int .i64 v2)))]) ⟨rfl, rfl, rfl, rfl, rfl, trivial⟩ ?_
    refine Tr.seq ?_
    refine Tr.region ?_
    refine RegL.pure (p := (pFn Try.prog (fun x => [(pSl 1 (cK .i64) x)]) f_1 (fun y => (pEq (.bool y))))) rfl rfl rfl (J_move rfl (Opd.tmp rfl)) ?_
    refine RegL.pure (p := (pSl 1 (cSl 1 (cK .i64)) s_0)) rfl rfl rfl (J_move rfl (Opd.tmp rfl)) ?_
    refine RegL.pure (p := (pEq (.int .i64 v2))) rfl rfl rfl (J_move rfl (Opd.tmp rfl)) ?_
    replace h := bind_some h; obtain ⟨x4, hx4, h⟩ := h
    refine RegL.pure (p := (pPtr ((cSl 1 (cK .i64)) x4))) rfl rfl rfl (J_idx rfl Try.underlying22 sz25 (Opd.tmp rfl) (Opd.tmp rfl) hx4) ?_
    refine RegL.pure (p := (pSl 1 (cK .i64) x4)) rfl rfl rfl (J_load rfl Try.isAgg25 (Opd.tmp rfl)) ?_
    replace h := bind_some h; obtain ⟨x5, hx5, h⟩ := h
    refine RegL.pure (p := (pEq (.bool x5))) rfl rfl rfl (J_callv (x := x4) rfl (Opd.tmp rfl) rfl (Opds.cons (Opd.tmp rfl) Opds.nil) hx5 rfl) ?_
    refine RegL.nil ?_
    refine Ct.then_tr ?_
    refine Tr.weak (Γ' := [(0, (pSl 1 (cSl 1 (cK .i64)) s_0)), (1, (pFn Try.prog (fun x => [(pSl 1 (cK .i64) x)]) f_1 (fun y => (pEq (.bool y))))), (5, (pEq (.int .i64 v2))), (7, (pEq (.int .i64 (s_0.length : Int)))), (8, (pEq (.int .i64 v2))), (16, (pEq (.bool x5)))]) ⟨rfl, rfl, rfl, rfl, rfl, rfl, trivial⟩ ?_
    refine Tr.cond (Opd.tmp rfl) (fun hc => ?_) (fun hc => ?_)
    · replace h := bif_t hc h
      refine Tr.seq ?_
      refine Tr.region ?_
      refine RegL.pure (p := (pEq (.int .i64 v2))) rfl rfl rfl (J_move rfl (Opd.tmp rfl)) ?_
      refine RegL.pure (p := (pEq (.int .i64 v2))) rfl rfl rfl (J_assign rfl (Opd.tmp rfl)) ?_
      refine RegL.nil ?_
      refine Ct.then_tr ?_
      refine Tr.weak (Γ' := [(4, (pEq (.int .i64 v2)))]) ⟨rfl, trivial⟩ ?_
      refine Tr.ret ?_
      refine Ct.blk_ret ?_
      refine Ct.then_ret ?_
      replace h := map_some h; obtain ⟨r1, h, rfl⟩ := h
      refine Ct.out_ret fun e => ?_
      subst e
      refine Ct.blk_ret ?_
      refine Ct.then_ret ?_
      replace h := Option.some.inj h; subst h
      exact Ct.retH1 (Ωx := []) () rfl (RvOk.tmp rfl) rfl
    · replace h := bif_f hc h
      refine Tr.skip ?_
      refine Ct.blk_normal ?_
      refine Ct.then_tr ?_
      refine Tr.weak (Γ' := [(0, (pSl 1 (cSl 1 (cK .i64)) s_0)), (1, (pFn Try.prog (fun x => [(pSl 1 (cK .i64) x)]) f_1 (fun y => (pEq (.bool y))))), (7, (pEq (.int .i64 (s_0.length : Int)))), (8, (pEq (.int .i64 v2)))]) ⟨rfl, rfl, rfl, rfl, trivial⟩ ?_
      refine Tr.region ?_
      refine RegL.pure (p := (pEq (.int .i64 (w64 (v2 + (1 : Int)))))) rfl rfl rfl (J_bin rfl (Opd.tmp rfl) Opd.con B_add) ?_
      refine RegL.pure (p := (pEq (.int .i64 (w64 (v2 + (1 : Int)))))) rfl rfl rfl (J_move rfl (Opd.tmp rfl)) ?_
      refine RegL.nil ?_
      replace h := Option.some.inj h; subst h
      exact Ct.again () rfl ⟨rfl, rfl, rfl, rfl, trivial⟩
  · replace h := bif_f hc h
    refine Tr.exit ?_
    refine Ct.then_exit ?_
    replace h := map_some h; obtain ⟨r1, h, rfl⟩ := h
    refine Ct.out_exit fun e => ?_
    subst e
    refine Ct.blk_exit ?_
    refine Ct.then_tr ?_
    refine Tr.weak (Γ' := []) trivial ?_
    refine Tr.seq ?_
    refine Tr.region ?_
    refine RegL.pure (p := (pEq (.int .i64 (-1 : Int)))) rfl rfl rfl (J_assign rfl Opd.con) ?_
    refine RegL.nil ?_
    refine Ct.then_tr ?_
    refine Tr.weak (Γ' := [(4, (pEq (.int .i64 (-1 : Int))))]) ⟨rfl, trivial⟩ ?_
    refine Tr.ret ?_
    replace h := Option.some.inj h; subst h
    exact Ct.retH1 (Ωx := []) () rfl (RvOk.tmp rfl) rfl

theorem c_slices_ContainsFunc_SSint64_int64 {s_0 : (List (List Int))} {f_1 : ((List Int) → Option Bool)} {r : Bool} (h : m_slices_ContainsFunc_SSint64_int64 s_0 f_1 = some r) : CallJ Try.prog 113 [(pSl 1 (cSl 1 (cK .i64)) s_0), (pFn Try.prog (fun x => [(pSl 1 (cK .i64) x)]) f_1 (fun y => (pEq (.bool y))))] (pEq (.bool r)) := by
  unfold m_slices_ContainsFunc_SSint64_int64 at h
  refine CallJ.enterH Try.func113 rfl Try.ntmps113 rfl fun W I0 H => ?_
  refine Tr.weak (Γ' := [(0, (pSl 1 (cSl 1 (cK .i64)) s_0)), (1, (pFn Try.prog (fun x => [(pSl 1 (cK .i64) x)]) f_1 (fun y => (pEq (.bool y)))))]) ⟨rfl, rfl, trivial⟩ ?_
  refine Tr.seq ?_
  refine Tr.region ?_
  refine RegL.pure (p := (pEq (.bool false))) rfl rfl rfl (J_assign rfl Opd.con) ?_
  refine RegL.nil ?_
  refine Ct.then_tr ?_
  refine Tr.weak (Γ' := [(0, (pSl 1 (cSl 1 (cK .i64)) s_0)), (1, (pFn Try.prog (fun x => [(pSl 1 (cK .i64) x)]) f_1 (fun y => (pEq (.bool y)))))]) ⟨rfl, rfl, trivial⟩ ?_
  refine Tr.seq ?_
  refine Tr.region ?_
  refine RegL.pure (p := (pSl 1 (cSl 1 (cK .i64)) s_0)) rfl rfl rfl (J_move rfl (Opd.tmp rfl)) ?_
  refine RegL.pure (p := (pFn Try.prog (fun x => [(pSl 1 (cK .i64) x)]) f_1 (fun y => (pEq (.bool y))))) rfl rfl rfl (J_move rfl (Opd.tmp rfl)) ?_
  replace h := bind_some h; obtain ⟨x1, hx1, h⟩ := h
  refine RegL.pure (p := (pEq (.int .i64 x1))) rfl rfl rfl (J_call rfl Try.call120 (c_slices_IndexFunc_SSint64_int64 hx1) (Opds.cons (Opd.tmp rfl) (Opds.cons (Opd.tmp rfl) Opds.nil))) ?_
  refine RegL.pure (p := (pEq (.bool (decide ((0 : Int) ≤ x1))))) rfl rfl rfl (J_bin rfl (Opd.tmp rfl) Opd.con B_geq) ?_
  refine RegL.pure (p := (pEq (.bool (decide ((0 : Int) ≤ x1))))) rfl rfl rfl (J_assign rfl (Opd.tmp rfl)) ?_
  refine RegL.nil ?_
  refine Ct.then_tr ?_
  refine Tr.weak (Γ' := [(4, (pEq (.bool (decide ((0 : Int) ≤ x1)))))]) ⟨rfl, trivial⟩ ?_
  refine Tr.ret ?_
  replace h := Option.some.inj h; subst h
  exact Ct.retH1 (Ωx := []) () rfl (RvOk.tmp rfl) rfl

theorem c_impl_increasing {list_0 : (List Int)} {r : Bool} (h : m_impl_increasing list_0 = some r) : CallJ Try.prog 121 [(pSl 1 (cK .i64) list_0)] (pEq (.bool r)) := by
  unfold m_impl_increasing at h
  refine CallJ.enterH Try.func121 rfl Try.ntmps121 rfl fun W I0 H => ?_
  refine Tr.weak (Γ' := [(0, (pSl 1 (cK .i64) list_0))]) ⟨rfl, trivial⟩ ?_
  refine Tr.seq ?_
  refine Tr.region ?_
  refine RegL.pure (p := (pEq (.bool false))) rfl rfl rfl (J_assign rfl Opd.con) ?_
  refine RegL.nil ?_
  refine Ct.then_tr ?_
  refine Tr.weak (Γ' := [(0, (pSl 1 (cK .i64) list_0))]) ⟨rfl, trivial⟩ ?_
  refine Tr.seq ?_
  refine Tr.seq ?_
  refine Tr.region ?_
  refine RegL.pure (p := (pEq (.int .i64 (1 : Int)))) rfl rfl rfl (J_assign rfl Opd.con) ?_
  refine RegL.nil ?_
  refine Ct.then_tr ?_
  refine Tr.weak (Γ' := [(0, (pSl 1 (cK .i64) list_0)), (3, (pEq (.int .i64 (1 : Int))))]) ⟨rfl, rfl, trivial⟩ ?_
  refine Tr.block ?_
  refine Tr.weak (Γ' := [(0, (pSl 1 (cK .i64) list_0)), (3, (pEq (.int .i64 (1 : Int))))]) ⟨rfl, rfl, trivial⟩ ?_
  refine Tr.loop (γ := Unit) (σ := Int) (Γσ := fun s g => [(0, (pSl 1 (cK .i64) list_0)), (3, (pEq (.int .i64 s)))]) (Ωσ := fun s g => []) (g := ()) h ?_
  clear h
  rintro v2 g3 t h
  replace h : m_impl_increasing_B1 list_0 v2 = some t := h
  unfold m_impl_increasing_B1 at h
  refine Tr.weakO (Γ' := [(0, (pSl 1 (cK .i64) list_0)), (3, (pEq (.int .i64 v2)))]) (Ω' := []) rfl ⟨rfl, rfl, trivial⟩ ?_
  refine Tr.seq ?_
  refine Tr.seq ?_
  refine Tr.region ?_
  refine RegL.pure (p := (pEq (.int .i64 v2))) rfl rfl rfl (J_move rfl (Opd.tmp rfl)) ?_
  refine RegL.pure (p := (pSl 1 (cK .i64) list_0)) rfl rfl rfl (J_move rfl (Opd.tmp rfl)) ?_
  refine RegL.pure (p := (pEq (.int .i64 (list_0.length : Int)))) rfl rfl rfl (J_len rfl Try.underlying25 (Opd.tmp rfl) rfl) ?_
  refine RegL.pure (p := (pEq (.bool (decide (v2 < (list_0.length : Int)))))) rfl rfl rfl (J_bin rfl (Opd.tmp rfl) (Opd.tmp rfl) B_lss) ?_
  refine RegL.nil ?_
  refine Ct.then_tr ?_
  refine Tr.weak (Γ' := [(0, (pSl 1 (cK .i64) list_0)), (3, (pEq (.int .i64 v2))), (7, (pEq (.bool (decide (v2 < (list_0.length : Int))))))]) ⟨rfl, rfl, rfl, trivial⟩ ?_
  refine Tr.cond (Opd.tmp rfl) (fun hc => ?_) (fun hc => ?_)
  · replace h := bif_t hc h
    refine Tr.skip ?_
    refine Ct.then_tr ?_
    refine Tr.weak (Γ' := [(0, (pSl 1 (cK .i64) list_0)), (3, (pEq (.int .i64 v2)))]) ⟨rfl, rfl, trivial⟩ ?_
    refine Tr.seq ?_
    refine Tr.block ?_
    refine Tr.seq ?_
    replace h := bind_some h; obtain ⟨x4, hx4, h⟩ := h
    replace h := bind_some h; obtain ⟨x5, hx5, h⟩ := h
    refine Tr.drawD (n := 20) (m := 10) (es := [some (Ent.mk [(0, (pSl 1 (cK .i64) list_0))] (pSl 1 (cK .i64) list_0) true), some (Ent.mk [(3, (pEq (.int .i64 v2)))] (pEq (.int .i64 v2)) true), some (Ent.mk [(10, (pSl 1 (cK .i64) list_0)), (11, (pEq (.int .i64 v2)))] (pPtr ((cK .i64) x4)) true), some (Ent.mk [(12, (pPtr ((cK .i64) x4)))] (pEq (.int .i64 x4)) true), some (Ent.mk [(0, (pSl 1 (cK .i64) list_0))] (pSl 1 (cK .i64) list_0) true), some (Ent.mk [(3, (pEq (.int .i64 v2)))] (pEq (.int .i64 v2)) true), some (Ent.mk [(15, (pEq (.int .i64 v2)))] (pEq (.int .i64 (w64 (v2 - (1 : Int))))) true), some (Ent.mk [(14, (pSl 1 (cK .i64) list_0)), (16, (pEq (.int .i64 (w64 (v2 - (1 : Int))))))] (pPtr ((cK .i64) x5)) true), some (Ent.mk [(17, (pPtr ((cK .i64) x5)))] (pEq (.int .i64 x5)) true), some (Ent.mk [(13, (pEq (.int .i64 x4))), (18, (pEq (.int .i64 x5)))] (pEq (.bool (decide (x4 ≤ x5)))) true)]) (rd := [[0], [3], [10, 11], [12], [0], [3], [15], [14, 16], [17], [13, 18]]) rfl hmix (by kernel_rfl) fun hD => ?_
    refine RD.fin (es := [Ent.mk [(0, (pSl 1 (cK .i64) list_0))] (pSl 1 (cK .i64) list_0) true, Ent.mk [(3, (pEq (.int .i64 v2)))] (pEq (.int .i64 v2)) true, Ent.mk [(10, (pSl 1 (cK .i64) list_0)), (11, (pEq (.int .i64 v2)))] (pPtr ((cK .i64) x4)) true, Ent.mk [(12, (pPtr ((cK .i64) x4)))] (pEq (.int .i64 x4)) true, Ent.mk [(0, (pSl 1 (cK .i64) list_0))] (pSl 1 (cK .i64) list_0) true, Ent.mk [(3, (pEq (.int .i64 v2)))] (pEq (.int .i64 v2)) true, Ent.mk [(15, (pEq (.int .i64 v2)))] (pEq (.int .i64 (w64 (v2 - (1 : Int))))) true, Ent.mk [(14, (pSl 1 (cK .i64) list_0)), (16, (pEq (.int .i64 (w64 (v2 - (1 : Int))))))] (pPtr ((cK .i64) x5)) true, Ent.mk [(17, (pPtr ((cK .i64) x5)))] (pEq (.int .i64 x5)) true, Ent.mk [(13, (pEq (.int .i64 x4))), (18, (pEq (.int .i64 x5)))] (pEq (.bool (decide (x4 ≤ x5)))) true]) (done := []) hD ⟨.inr ⟨(OpJ.w (J_move rfl (Opd.tmp rfl))), ⟨rfl, trivial⟩, rfl, rfl⟩, ⟨.inr ⟨(OpJ.w (J_move rfl (Opd.tmp rfl))), ⟨rfl, trivial⟩, rfl, rfl⟩, ⟨.inr ⟨(OpJ.w (J_idx rfl Try.underlying25 sz2 (Opd.tmp rfl) (Opd.tmp rfl) hx4)), ⟨rfl, rfl, trivial⟩, rfl, rfl⟩, ⟨.inr ⟨(OpJ.w (J_load rfl Try.isAgg2 (Opd.tmp rfl))), ⟨rfl, trivial⟩, rfl, rfl⟩, ⟨.inr ⟨(OpJ.w (J_move rfl (Opd.tmp rfl))), ⟨rfl, trivial⟩, rfl, rfl⟩, ⟨.inr ⟨(OpJ.w (J_move rfl (Opd.tmp rfl))), ⟨rfl, trivial⟩, rfl, rfl⟩, ⟨.inr ⟨(OpJ.w (J_bin rfl (Opd.tmp rfl) Opd.con B_sub)), ⟨rfl, trivial⟩, rfl, rfl⟩, ⟨.inr ⟨(OpJ.w (J_idx rfl Try.underlying25 sz2 (Opd.tmp rfl) (Opd.tmp rfl) hx5)), ⟨rfl, rfl, trivial⟩, rfl, rfl⟩, ⟨.inr ⟨(OpJ.w (J_load rfl Try.isAgg2 (Opd.tmp rfl))), ⟨rfl, trivial⟩, rfl, rfl⟩, ⟨.inr ⟨(OpJ.w (J_bin rfl (Opd.tmp rfl) (Opd.tmp rfl) B_leq)), ⟨rfl, rfl, trivial⟩, rfl, rfl⟩, trivial⟩⟩⟩⟩⟩⟩⟩⟩⟩⟩ ?_
    refine RegL.nil ?_
    refine Ct.then_tr ?_
    refine Tr.weak (Γ' := [(0, (pSl 1 (cK .i64) list_0)), (3, (pEq (.int .i64 v2))), (19, (pEq (.bool (decide (x4 ≤ x5)))))]) ⟨rfl, rfl, rfl, trivial⟩ ?_
    refine Tr.cond (Opd.tmp rfl) (fun hc => ?_) (fun hc => ?_)
    · replace h := bif_t hc h
      refine Tr.seq ?_
      refine Tr.region ?_
      refine RegL.pure (p := (pEq (.bool false))) rfl rfl rfl (J_assign rfl Opd.con) ?_
      refine RegL.nil ?_
      refine Ct.then_tr ?_
      refine Tr.weak (Γ' := [(2, (pEq (.bool false)))]) ⟨rfl, trivial⟩ ?_
      refine Tr.ret ?_
      refine Ct.blk_ret ?_
      refine Ct.then_ret ?_
      replace h := map_some h; obtain ⟨r1, h, rfl⟩ := h
      refine Ct.out_ret fun e => ?_
      subst e
      refine Ct.blk_ret ?_
      refine Ct.then_ret ?_
      replace h := Option.some.inj h; subst h
      exact Ct.retH1 (Ωx := []) () rfl (RvOk.tmp rfl) rfl
    · replace h := bif_f hc h
      refine Tr.skip ?_
      refine Ct.blk_normal ?_
      refine Ct.then_tr ?_
      refine Tr.weak (Γ' := [(0, (pSl 1 (cK .i64) list_0)), (3, (pEq (.int .i64 v2)))]) ⟨rfl, rfl, trivial⟩ ?_
      refine Tr.region ?_
      refine RegL.pure (p := (pEq (.int .i64 v2))) rfl rfl rfl (J_move rfl (Opd.tmp rfl)) ?_
      refine RegL.pure (p := (pEq (.int .i64 (w64 (v2 + (1 : Int)))))) rfl rfl rfl (J_bin rfl (Opd.tmp rfl) Opd.con B_add) ?_
      refine RegL.pure (p := (pEq (.int .i64 (w64 (v2 + (1 : Int)))))) rfl rfl rfl (J_assign rfl (Opd.tmp rfl)) ?_
      refine RegL.nil ?_
      replace h := Option.some.inj h; subst h
      exact Ct.again () rfl ⟨rfl, rfl, trivial⟩
  · replace h := bif_f hc h
    refine Tr.exit ?_
    refine Ct.then_exit ?_
    replace h := map_some h; obtain ⟨r1, h, rfl⟩ := h
    refine Ct.out_exit fun e => ?_
    subst e
    refine Ct.blk_exit ?_
    refine Ct.then_tr ?_
    refine Tr.weak (Γ' := []) trivial ?_
    refine Tr.seq ?_
    refine Tr.region ?_
    refine RegL.pure (p := (pEq (.bool true))) rfl rfl rfl (J_assign rfl Opd.con) ?_
    refine RegL.nil ?_
    refine Ct.then_tr ?_
    refine Tr.weak (Γ' := [(2, (pEq (.bool true)))]) ⟨rfl, trivial⟩ ?_
    refine Tr.ret ?_
    replace h := Option.some.inj h; subst h
    exact Ct.retH1 (Ωx := []) () rfl (RvOk.tmp rfl) rfl

theorem c_impl_within {n_0 : Int} {low_1 : Int} {high_2 : Int} {r : Bool} (h : m_impl_within n_0 low_1 high_2 = some r) : CallJ Try.prog 64 [(pEq (.int .i64 n_0)), (pEq (.int .i64 low_1)), (pEq (.int .i64 high_2))] (pEq (.bool r)) := by
  unfold m_impl_within at h
  refine CallJ.enterH Try.func64 rfl Try.ntmps64 rfl fun W I0 H => ?_
  refine Tr.weak (Γ' := [(0, (pEq (.int .i64 n_0))), (1, (pEq (.int .i64 low_1))), (2, (pEq (.int .i64 high_2)))]) ⟨rfl, rfl, rfl, trivial⟩ ?_
  refine Tr.seq ?_
  refine Tr.region ?_
  refine RegL.pure (p := (pEq (.bool false))) rfl rfl rfl (J_assign rfl Opd.con) ?_
  refine RegL.nil ?_
  refine Ct.then_tr ?_
  refine Tr.weak (Γ' := [(0, (pEq (.int .i64 n_0))), (1, (pEq (.int .i64 low_1))), (2, (pEq (.int .i64 high_2)))]) ⟨rfl, rfl, rfl, trivial⟩ ?_
  refine Tr.seq ?_
  replace h := bind_some h; obtain ⟨x1, hx1, h⟩ := h
  refine Tr.cut (γ := Unit) (Γm := fun g => [(6, (pEq (.bool x1)))]) (Ωm := fun g => []) ?_ (fun g3 => ?_)
  · clear h
    have h := hx1
    clear hx1
    refine Tr.region ?_
    refine RegL.pure (p := (pEq (.int .i64 n_0))) rfl rfl rfl (J_move rfl (Opd.tmp rfl)) ?_
    refine RegL.pure (p := (pEq (.int .i64 low_1))) rfl rfl rfl (J_move rfl (Opd.tmp rfl)) ?_
    refine RegL.pure (p := (pEq (.bool (decide (low_1 ≤ n_0))))) rfl rfl rfl (J_bin rfl (Opd.tmp rfl) (Opd.tmp rfl) B_geq) ?_
    refine RegL.pure (p := (pEq (.bool (decide (low_1 ≤ n_0))))) rfl rfl rfl (J_move rfl (Opd.tmp rfl)) ?_
    rcases Bool.eq_false_or_eq_true (decide (low_1 ≤ n_0)) with hc2 | hc2
    · replace h := bif_t hc2 h
      refine RegL.pureG (p := (pEq (.int .i64 n_0))) rfl rfl rfl hc2 rfl rfl (J_move rfl (Opd.tmp rfl)) ?_
      refine RegL.pureG (p := (pEq (.int .i64 high_2))) rfl rfl rfl hc2 rfl rfl (J_move rfl (Opd.tmp rfl)) ?_
      refine RegL.pureG (p := (pEq (.bool (decide (n_0 ≤ high_2))))) rfl rfl rfl hc2 rfl rfl (J_bin rfl (Opd.tmp rfl) (Opd.tmp rfl) B_leq) ?_
      refine RegL.pure (p := (pEq (.bool (decide (n_0 ≤ high_2))))) rfl rfl rfl (J_pick rfl (Opd.tmp rfl) (fun _ => (Opd.tmp rfl)) (fun hf => absurd (hc2.symm.trans hf) (by decide))) ?_
      refine RegL.pure (p := (pEq (.bool (decide (n_0 ≤ high_2))))) rfl rfl rfl (J_assign rfl (Opd.tmp rfl)) ?_
      refine RegL.nil ?_
      replace h := Option.some.inj h; subst h
      exact Ct.mid () rfl ⟨rfl, trivial⟩
    · replace h := bif_f hc2 h
      refine RegL.skipG rfl rfl rfl hc2 rfl rfl ?_
      refine RegL.skipG rfl rfl rfl hc2 rfl rfl ?_
      refine RegL.skipG rfl rfl rfl hc2 rfl rfl ?_
      refine RegL.pure (p := (pEq (.bool false))) rfl rfl rfl (J_pick rfl (Opd.tmp rfl) (fun hf => absurd (hc2.symm.trans hf) (by decide)) (fun _ => Opd.con)) ?_
      refine RegL.pure (p := (pEq (.bool false))) rfl rfl rfl (J_assign rfl (Opd.tmp rfl)) ?_
      refine RegL.nil ?_
      replace h := Option.some.inj h; subst h
      exact Ct.mid () rfl ⟨rfl, trivial⟩
  · clear hx1
    refine Ct.then_tr ?_
    refine Tr.weak (Γ' := [(6, (pEq (.bool x1)))]) ⟨rfl, trivial⟩ ?_
    refine Tr.ret ?_
    replace h := Option.some.inj h; subst h
    exact Ct.retH1 (Ωx := []) () rfl (RvOk.tmp rfl) rfl

theorem c_impl_allWithin_1 {n_0 : Int} {a_1 : Int} {a_2 : Int} {r : Bool} (h : m_impl_allWithin_1 n_0 a_1 a_2 = some r) : CallJ Try.prog 111 [(pEq (.int .i64 n_0)), (pPtr ((cK .i64) a_1)), (pPtr ((cK .i64) a_2))] (pEq (.bool r)) := by
  unfold m_impl_allWithin_1 at h
  refine CallJ.enterH Try.func111 rfl Try.ntmps111 rfl fun W I0 H => ?_
  refine Tr.weak (Γ' := [(0, (pEq (.int .i64 n_0))), (1, (pPtr ((cK .i64) a_1))), (2, (pPtr ((cK .i64) a_2)))]) ⟨rfl, rfl, rfl, trivial⟩ ?_
  refine Tr.seq ?_
  refine Tr.region ?_
  refine RegL.pure (p := (pEq (.bool false))) rfl rfl rfl (J_assign rfl Opd.con) ?_
  refine RegL.nil ?_
  refine Ct.then_tr ?_
  refine Tr.weak (Γ' := [(0, (pEq (.int .i64 n_0))), (1, (pPtr ((cK .i64) a_1))), (2, (pPtr ((cK .i64) a_2)))]) ⟨rfl, rfl, rfl, trivial⟩ ?_
  refine Tr.seq ?_
  refine Tr.region ?_
  refine RegL.pure (p := (pEq (.int .i64 n_0))) rfl rfl rfl (J_move rfl (Opd.tmp rfl)) ?_
  refine RegL.pure (p := (pEq (.int .i64 a_1))) rfl rfl rfl (J_load rfl Try.isAgg2 (Opd.tmp rfl)) ?_
  refine RegL.pure (p := (pEq (.int .i64 a_2))) rfl rfl rfl (J_load rfl Try.isAgg2 (Opd.tmp rfl)) ?_
  replace h := bind_some h; obtain ⟨x1, hx1, h⟩ := h
  refine RegL.pure (p := (pEq (.bool x1))) rfl rfl rfl (J_call rfl Try.call64 (c_impl_within hx1) (Opds.cons (Opd.tmp rfl) (Opds.cons (Opd.tmp rfl) (Opds.cons (Opd.tmp rfl) Opds.nil)))) ?_
  refine RegL.pure (p := (pEq (.bool (!x1)))) rfl rfl rfl (J_not rfl (Opd.tmp rfl)) ?_
  refine RegL.pure (p := (pEq (.bool (!x1)))) rfl rfl rfl (J_assign rfl (Opd.tmp rfl)) ?_
  refine RegL.nil ?_
  refine Ct.then_tr ?_
  refine Tr.weak (Γ' := [(4, (pEq (.bool (!x1))))]) ⟨rfl, trivial⟩ ?_
  refine Tr.ret ?_
  replace h := Option.some.inj h; subst h
  exact Ct.retH1 (Ωx := []) () rfl (RvOk.tmp rfl) rfl

theorem c_slices_IndexFunc_int64_int64 {s_0 : (List Int)} {f_1 : (Int → Option Bool)} {r : Int} (h : m_slices_IndexFunc_int64_int64 s_0 f_1 = some r) : CallJ Try.prog 90 [(pSl 1 (cK .i64) s_0), (pFn Try.prog (fun x => [(pEq (.int .i64 x))]) f_1 (fun y => (pEq (.bool y))))] (pEq (.int .i64 r)) := by
  unfold m_slices_IndexFunc_int64_int64 at h
  refine CallJ.enterH Try.func90 rfl Try.ntmps90 rfl fun W I0 H => ?_
  refine Tr.weak (Γ' := [(0, (pSl 1 (cK .i64) s_0)), (1, (pFn Try.prog (fun x => [(pEq (.int .i64 x))]) f_1 (fun y => (pEq (.bool y)))))]) ⟨rfl, rfl, trivial⟩ ?_
  refine Tr.seq ?_
  refine Tr.region ?_
  refine RegL.pure (p := (pEq (.int .i64 (0 : Int)))) rfl rfl rfl (J_assign rfl Opd.con) ?_
  refine RegL.nil ?_
  refine Ct.then_tr ?_
  refine Tr.weak (Γ' := [(0, (pSl 1 (cK .i64) s_0)), (1, (pFn Try.prog (fun x => [(pEq (.int .i64 x))]) f_1 (fun y => (pEq (.bool y)))))]) ⟨rfl, rfl, trivial⟩ ?_
  refine Tr.seq ?_
  refine Tr.seq ?_
  refine Tr.region ?_
  refine RegL.pure (p := (pSl 1 (cK .i64) s_0)) rfl rfl rfl (J_move rfl (Opd.tmp rfl)) ?_
  refine RegL.pure (p := (pEq (.int .i64 (s_0.length : Int)))) rfl rfl rfl (J_len rfl Try.underlying25 (Opd.tmp rfl) rfl) ?_
  refine RegL.pure (p := (pEq (.int .i64 (0 : Int)))) rfl rfl rfl (J_move rfl Opd.con) ?_
  refine RegL.nil ?_
  refine Ct.then_tr ?_
  refine Tr.weak (Γ' := [(0, (pSl 1 (cK .i64) s_0)), (1, (pFn Try.prog (fun x => [(pEq (.int .i64 x))]) f_1 (fun y => (pEq (.bool y))))), (7, (pEq (.int .i64 (s_0.length : Int)))), (8, (pEq (.int .i64 (0 : Int))))]) ⟨rfl, rfl, rfl, rfl, trivial⟩ ?_
  refine Tr.block ?_
  refine Tr.weak (Γ' := [(0, (pSl 1 (cK .i64) s_0)), (1, (pFn Try.prog (fun x => [(pEq (.int .i64 x))]) f_1 (fun y => (pEq (.bool y))))), (7, (pEq (.int .i64 (s_0.length : Int)))), (8, (pEq (.int .i64 (0 : Int))))]) ⟨rfl, rfl, rfl, rfl, trivial⟩ ?_
  refine Tr.loop (γ := Unit) (σ := Int) (Γσ := fun s g => [(0, (pSl 1 (cK .i64) s_0)), (1, (pFn Try.prog (fun x => [(pEq (.int .i64 x))]) f_1 (fun y => (pEq (.bool y))))), (7, (pEq (.int .i64 (s_0.length : Int)))), (8, (pEq (.int .i64 s)))]) (Ωσ := fun s g => []) (g := ()) h ?_
  clear h
  rintro v2 g3 t h
  replace h : m_slices_IndexFunc_int64_int64_B1 s_0 f_1 v2 = some t := h
  unfold m_slices_IndexFunc_int64_int64_B1 at h
  refine Tr.weakO (Γ' := [(0, (pSl 1 (cK .i64) s_0)), (1, (pFn Try.prog (fun x => [(pEq (.int .i64 x))]) f_1 (fun y => (pEq (.bool y))))), (7, (pEq (.int .i64 (s_0.length : Int)))), (8, (pEq (.int .i64 v2)))]) (Ω' := []) rfl ⟨rfl, rfl, rfl, rfl, trivial⟩ ?_
  refine Tr.seq ?_
  refine Tr.region ?_
  refine RegL.pure (p := (pEq (.bool (decide (v2 < (s_0.length : Int)))))) rfl rfl rfl (J_bin rfl (Opd.tmp rfl) (Opd.tmp rfl) B_lss) ?_
  refine RegL.nil ?_
  refine Ct.then_tr ?_
  refine Tr.weak (Γ' := [(0, (pSl 1 (cK .i64) s_0)), (1, (pFn Try.prog (fun x => [(pEq (.int .i64 x))]) f_1 (fun y => (pEq (.bool y))))), (7, (pEq (.int .i64 (s_0.length : Int)))), (8, (pEq (.int .i64 v2))), (9, (pEq (.bool (decide (v2 < (s_0.length : Int))))))]) ⟨rfl, rfl, rfl, rfl, rfl, trivial⟩ ?_
  refine Tr.seq ?_
  refine Tr.cond (Opd.tmp rfl) (fun hc => ?_) (fun hc => ?_)
  · replace h := bif_t hc h
    refine Tr.skip ?_
    refine Ct.then_tr ?_
    refine Tr.weak (Γ' := [(0, (pSl 1 (cK .i64) s_0)), (1, (pFn Try.prog (fun x => [(pEq (.int .i64 x))]) f_1 (fun y => (pEq (.bool y))))), (7, (pEq (.int .i64 (s_0.length : Int)))), (8, (pEq (.int .i64 v2)))]) ⟨rfl, rfl, rfl, rfl, trivial⟩ ?_
    refine Tr.seq ?_
    refine Tr.block ?_
    refine Tr.seq ?_
    refine Tr.region ?_
    refine RegL.pure (p := (pEq (.int .i64 v2))) rfl rfl rfl (J_move rfl (Opd.tmp rfl)) ?_
    refine RegL.pure (p := (pEq (.int .i64 v2))) rfl rfl rfl (J_assign rfl (Opd.tmp rfl)) ?_
    refine RegL.nil ?_
    refine Ct.then_tr ?_
    refine Tr.weak (Γ' := [(0, (pSl 1 (cK .i64) s_0)), (1, (pFn Try.prog (fun x => [(pEq (.int .i64 x))]) f_1 (fun y => (pEq (.bool y))))), (5, (pEq (.int .i64 v2))), (7, (pEq (.int .i64 (s_0.length : Int)))), (8, (pEq (.int .i64 v2)))]) ⟨rfl, rfl, rfl, rfl, rfl, trivial⟩ ?_
    refine Tr.seq ?_
    refine Tr.region ?_
    refine RegL.pure (p := (pFn Try.prog (fun x => [(pEq (.int .i64 x))]) f_1 (fun y => (pEq (.bool y))))) rfl rfl rfl (J_move rfl (Opd.tmp rfl)) ?_
    refine RegL.pure (p := (pSl 1 (cK .i64) s_0)) rfl rfl rfl (J_move rfl (Opd.tmp rfl)) ?_
    refine RegL.pure (p := (pEq (.int .i64 v2))) rfl rfl rfl (J_move rfl (Opd.tmp rfl)) ?_
    replace h := bind_some h; obtain ⟨x4, hx4, h⟩ := h
    refine RegL.pure (p := (pPtr ((cK .i64) x4))) rfl rfl rfl (J_idx rfl Try.underlying25 sz2 (Opd.tmp rfl) (Opd.tmp rfl) hx4) ?_
    refine RegL.pure (p := (pEq (.int .i64 x4))) rfl rfl rfl (J_load rfl Try.isAgg2 (Opd.tmp rfl)) ?_
    replace h := bind_some h; obtain ⟨x5, hx5, h⟩ := h
    refine RegL.pure (p := (pEq (.bool x5))) rfl rfl rfl (J_callv (x := x4) rfl (Opd.tmp rfl) rfl (Opds.cons (Opd.tmp rfl) Opds.nil) hx5 rfl) ?_
    refine RegL.nil ?_
    refine Ct.then_tr ?_
    refine Tr.weak (Γ' := [(0, (pSl 1 (cK .i64) s_0)), (1, (pFn Try.prog (fun x => [(pEq (.int .i64 x))]) f_1 (fun y => (pEq (.bool y))))), (5, (pEq (.int .i64 v2))), (7, (pEq (.int .i64 (s_0.length : Int)))), (8, (pEq (.int .i64 v2))), (16, (pEq (.bool x5)))]) ⟨rfl, rfl, rfl, rfl, rfl, rfl, trivial⟩ ?_
    refine Tr.cond (Opd.tmp rfl) (fun hc => ?_) (fun hc => ?_)
    · replace h := bif_t hc h
      refine Tr.seq ?_
      refine Tr.region ?_
      refine RegL.pure (p := (pEq (.int .i64 v2))) rfl rfl rfl (J_move rfl (Opd.tmp rfl)) ?_
      refine RegL.pure (p := (pEq (.int .i64 v2))) rfl rfl rfl (J_assign rfl (Opd.tmp rfl)) ?_
      refine RegL.nil ?_
      refine Ct.then_tr ?_
      refine Tr.weak (Γ' := [(4, (pEq (.int .i64 v2)))]) ⟨rfl, trivial⟩ ?_
      refine Tr.ret ?_
      refine Ct.blk_ret ?_
      refine Ct.then_ret ?_
      replace h := map_some h; obtain ⟨r1, h, rfl⟩ := h
      refine Ct.out_ret fun e => ?_
      subst e
      refine Ct.blk_ret ?_
      refine Ct.then_ret ?_
      replace h := Option.some.inj h; subst h
      exact Ct.retH1 (Ωx := []) () rfl (RvOk.tmp rfl) rfl
    · replace h := bif_f hc h
      refine Tr.skip ?_
      refine Ct.blk_normal ?_
      refine Ct.then_tr ?_
      refine Tr.weak (Γ' := [(0, (pSl 1 (cK .i64) s_0)), (1, (pFn Try.prog (fun x => [(pEq (.int .i64 x))]) f_1 (fun y => (pEq (.bool y))))), (7, (pEq (.int .i64 (s_0.length : Int)))), (8, (pEq (.int .i64 v2)))]) ⟨rfl, rfl, rfl, rfl, trivial⟩ ?_
      refine Tr.region ?_
      refine RegL.pure (p := (pEq (.int .i64 (w64 (v2 + (1 : Int)))))) rfl rfl rfl (J_bin rfl (Opd.tmp rfl) Opd.con B_add) ?_
      refine RegL.pure (p := (pEq (.int .i64 (w64 (v2 + (1 : Int)))))) rfl rfl rfl (J_move rfl (Opd.tmp rfl)) ?_
      refine RegL.nil ?_
      replace h := Option.some.inj h; subst h
      exact Ct.again () rfl ⟨rfl, rfl, rfl, rfl, trivial⟩
  · replace h := bif_f hc h
    refine Tr.exit ?_
    refine Ct.then_exit ?_
    replace h := map_some h; obtain ⟨r1, h, rfl⟩ := h
    refine Ct.out_exit fun e => ?_
    subst e
    refine Ct.blk_exit ?_
    refine Ct.then_tr ?_
    refine Tr.weak (Γ' := []) trivial ?_
    refine Tr.seq ?_
    refine Tr.region ?_
    refine RegL.pure (p := (pEq (.int .i64 (-1 : Int)))) rfl rfl rfl (J_assign rfl Opd.con) ?_
    refine RegL.nil ?_
    refine Ct.then_tr ?_
    refine Tr.weak (Γ' := [(4, (pEq (.int .i64 (-1 : Int))))]) ⟨rfl, trivial⟩ ?_
    refine Tr.ret ?_
    replace h := Option.some.inj h; subst h
    exact Ct.retH1 (Ωx := []) () rfl (RvOk.tmp rfl) rfl

theorem c_slices_ContainsFunc_int64_int64 {s_0 : (List Int)} {f_1 : (Int → Option Bool)} {r : Bool} (h : m_slices_ContainsFunc_int64_int64 s_0 f_1 = some r) : CallJ Try.prog 104 [(pSl 1 (cK .i64) s_0), (pFn Try.prog (fun x => [(pEq (.int .i64 x))]) f_1 (fun y => (pEq (.bool y))))] (pEq (.bool r)) := by
  unfold m_slices_ContainsFunc_int64_int64 at h
  refine CallJ.enterH Try.func104 rfl Try.ntmps104 rfl fun W I0 H => ?_
  refine Tr.weak (Γ' := [(0, (pSl 1 (cK .i64) s_0)), (1, (pFn Try.prog (fun x => [(pEq (.int .i64 x))]) f_1 (fun y => (pEq (.bool y)))))]) ⟨rfl, rfl, trivial⟩ ?_
  refine Tr.seq ?_
  refine Tr.region ?_
  refine RegL.pure (p := (pEq (.bool false))) rfl rfl rfl (J_assign rfl Opd.con) ?_
  refine RegL.nil ?_
  refine Ct.then_tr ?_
  refine Tr.weak (Γ' := [(0, (pSl 1 (cK .i64) s_0)), (1, (pFn Try.prog (fun x => [(pEq (.int .i64 x))]) f_1 (fun y => (pEq (.bool y)))))]) ⟨rfl, rfl, trivial⟩ ?_
  refine Tr.seq ?_
  refine Tr.region ?_
  refine RegL.pure (p := (pSl 1 (cK .i64) s_0)) rfl rfl rfl (J_move rfl (Opd.tmp rfl)) ?_
  refine RegL.pure (p := (pFn Try.prog (fun x => [(pEq (.int .i64 x))]) f_1 (fun y => (pEq (.bool y))))) rfl rfl rfl (J_move rfl (Opd.tmp rfl)) ?_
  replace h := bind_some h; obtain ⟨x1, hx1, h⟩ := h
  refine RegL.pure (p := (pEq (.int .i64 x1))) rfl rfl rfl (J_call rfl Try.call90 (c_slices_IndexFunc_int64_int64 hx1) (Opds.cons (Opd.tmp rfl) (Opds.cons (Opd.tmp rfl) Opds.nil))) ?_
  refine RegL.pure (p := (pEq (.bool (decide ((0 : Int) ≤ x1))))) rfl rfl rfl (J_bin rfl (Opd.tmp rfl) Opd.con B_geq) ?_
  refine RegL.pure (p := (pEq (.bool (decide ((0 : Int) ≤ x1))))) rfl rfl rfl (J_assign rfl (Opd.tmp rfl)) ?_
  refine RegL.nil ?_
  refine Ct.then_tr ?_
  refine Tr.weak (Γ' := [(4, (pEq (.bool (decide ((0 : Int) ≤ x1)))))]) ⟨rfl, trivial⟩ ?_
  refine Tr.ret ?_
  replace h := Option.some.inj h; subst h
  exact Ct.retH1 (Ωx := []) () rfl (RvOk.tmp rfl) rfl

theorem c_impl_allWithin {list_0 : (List Int)} {low_1 : Int} {high_2 : Int} {r : Bool} (h : m_impl_allWithin list_0 low_1 high_2 = some r) : CallJ Try.prog 89 [(pSl 1 (cK .i64) list_0), (pEq (.int .i64 low_1)), (pEq (.int .i64 high_2))] (pEq (.bool r)) := by
  unfold m_impl_allWithin at h
  refine CallJ.enterH Try.func89 rfl Try.ntmps89 rfl fun W I0 H => ?_
  refine Tr.weak (Γ' := [(0, (pSl 1 (cK .i64) list_0)), (1, (pEq (.int .i64 low_1))), (2, (pEq (.int .i64 high_2)))]) ⟨rfl, rfl, rfl, trivial⟩ ?_
  refine Tr.seq ?_
  refine Tr.region ?_
  refine RegL.pure (p := (pPtr ((cK .i64) low_1))) rfl rfl rfl (J_box rfl (Opd.tmp rfl) OneC.int) ?_
  refine RegL.pure (p := (pPtr ((cK .i64) high_2))) rfl rfl rfl (J_box rfl (Opd.tmp rfl) OneC.int) ?_
  refine RegL.pure (p := (pEq (.bool false))) rfl rfl rfl (J_assign rfl Opd.con) ?_
  refine RegL.nil ?_
  refine Ct.then_tr ?_
  refine Tr.weak (Γ' := [(0, (pSl 1 (cK .i64) list_0)), (4, (pPtr ((cK .i64) low_1))), (5, (pPtr ((cK .i64) high_2)))]) ⟨rfl, rfl, rfl, trivial⟩ ?_
  refine Tr.seq ?_
  refine Tr.region ?_
  refine RegL.pure (p := (pSl 1 (cK .i64) list_0)) rfl rfl rfl (J_move rfl (Opd.tmp rfl)) ?_
  refine RegL.pure (p := (pFn Try.prog (fun x => [(pEq (.int .i64 x))]) (fun x => m_impl_allWithin_1 x low_1 high_2) (fun y => (pEq (.bool y))))) rfl rfl rfl (J_makeFn rfl Try.call111 (Opds.cons (Opd.tmp rfl) (Opds.cons (Opd.tmp rfl) Opds.nil)) (fun _ _ h => c_impl_allWithin_1 h)) ?_
  replace h := bind_some h; obtain ⟨x1, hx1, h⟩ := h
  refine RegL.pure (p := (pEq (.bool x1))) rfl rfl rfl (J_call rfl Try.call104 (c_slices_ContainsFunc_int64_int64 hx1) (Opds.cons (Opd.tmp rfl) (Opds.cons (Opd.tmp rfl) Opds.nil))) ?_
  refine RegL.pure (p := (pEq (.bool (!x1)))) rfl rfl rfl (J_not rfl (Opd.tmp rfl)) ?_
  refine RegL.pure (p := (pEq (.bool (!x1)))) rfl rfl rfl (J_assign rfl (Opd.tmp rfl)) ?_
  refine RegL.nil ?_
  refine Ct.then_tr ?_
  refine Tr.weak (Γ' := [(6, (pEq (.bool (!x1))))]) ⟨rfl, trivial⟩ ?_
  refine Tr.ret ?_
  replace h := Option.some.inj h; subst h
  exact Ct.retH1 (Ωx := []) () rfl (RvOk.tmp rfl) rfl

theorem c_impl_domainOk {domain_0 : (List Int)} {r : Bool} (h : m_impl_domainOk domain_0 = some r) : CallJ Try.prog 115 [(pSl 1 (cK .i64) domain_0)] (pEq (.bool r)) := by
  unfold m_impl_domainOk at h
  refine CallJ.enterH Try.func115 rfl Try.ntmps115 rfl fun W I0 H => ?_
  refine Tr.weak (Γ' := [(0, (pSl 1 (cK .i64) domain_0))]) ⟨rfl, trivial⟩ ?_
  refine Tr.seq ?_
  refine Tr.region ?_
  refine RegL.pure (p := (pEq (.bool false))) rfl rfl rfl (J_assign rfl Opd.con) ?_
  refine RegL.nil ?_
  refine Ct.then_tr ?_
  refine Tr.weak (Γ' := [(0, (pSl 1 (cK .i64) domain_0))]) ⟨rfl, trivial⟩ ?_
  refine Tr.seq ?_
  replace h := bind_some h; obtain ⟨x1, hx1, h⟩ := h
  refine Tr.cut (γ := Unit) (Γm := fun g => [(2, (pEq (.bool x1)))]) (Ωm := fun g => []) ?_ (fun g7 => ?_)
  · clear h
    have h := hx1
    clear hx1
    refine Tr.region ?_
    refine RegL.pure (p := (pSl 1 (cK .i64) domain_0)) rfl rfl rfl (J_move rfl (Opd.tmp rfl)) ?_
    refine RegL.pure (p := (pEq (.int .i64 (domain_0.length : Int)))) rfl rfl rfl (J_len rfl Try.underlying25 (Opd.tmp rfl) rfl) ?_
    refine RegL.pure (p := (pEq (.bool (decide ((1 : Int) ≤ (domain_0.length : Int)))))) rfl rfl rfl (J_bin rfl (Opd.tmp rfl) Opd.con B_geq) ?_
    refine RegL.pure (p := (pEq (.bool (decide ((1 : Int) ≤ (domain_0.length : Int)))))) rfl rfl rfl (J_move rfl (Opd.tmp rfl)) ?_
    rcases Bool.eq_false_or_eq_true (decide ((1 : Int) ≤ (domain_0.length : Int))) with hc2 | hc2
    · replace h := bif_t hc2 h
      refine RegL.pureG (p := (pSl 1 (cK .i64) domain_0)) rfl rfl rfl hc2 rfl rfl (J_move rfl (Opd.tmp rfl)) ?_
      refine RegL.pureG (p := (pEq (.int .i64 (domain_0.length : Int)))) rfl rfl rfl hc2 rfl rfl (J_len rfl Try.underlying25 (Opd.tmp rfl) rfl) ?_
      refine RegL.pureG (p := (pEq (.bool (decide ((domain_0.length : Int) ≤ (32 : Int)))))) rfl rfl rfl hc2 rfl rfl (J_bin rfl (Opd.tmp rfl) Opd.con B_leq) ?_
      refine RegL.pure (p := (pEq (.bool (decide ((domain_0.length : Int) ≤ (32 : Int)))))) rfl rfl rfl (J_pick rfl (Opd.tmp rfl) (fun _ => (Opd.tmp rfl)) (fun hf => absurd (hc2.symm.trans hf) (by decide))) ?_
      refine RegL.pure (p := (pEq (.bool (decide ((domain_0.length : Int) ≤ (32 : Int)))))) rfl rfl rfl (J_move rfl (Opd.tmp rfl)) ?_
      rcases Bool.eq_false_or_eq_true (decide ((domain_0.length : Int) ≤ (32 : Int))) with hc3 | hc3
      · replace h := bif_t hc3 h
        refine RegL.pureG (p := (pSl 1 (cK .i64) domain_0)) rfl rfl rfl hc3 rfl rfl (J_move rfl (Opd.tmp rfl)) ?_
        replace h := bind_some h; obtain ⟨x4, hx4, h⟩ := h
        refine RegL.pureG (p := (pEq (.bool x4))) rfl rfl rfl hc3 rfl rfl (J_call rfl Try.call121 (c_impl_increasing hx4) (Opds.cons (Opd.tmp rfl) Opds.nil)) ?_
        refine RegL.pure (p := (pEq (.bool x4))) rfl rfl rfl (J_pick rfl (Opd.tmp rfl) (fun _ => (Opd.tmp rfl)) (fun hf => absurd (hc3.symm.trans hf) (by decide))) ?_
        refine RegL.pure (p := (pEq (.bool x4))) rfl rfl rfl (J_move rfl (Opd.tmp rfl)) ?_
        rcases Bool.eq_false_or_eq_true x4 with hc5 | hc5
        · replace h := bif_t hc5 h
          refine RegL.pureG (p := (pSl 1 (cK .i64) domain_0)) rfl rfl rfl hc5 rfl rfl (J_move rfl (Opd.tmp rfl)) ?_
          replace h := bind_some h; obtain ⟨x6, hx6, h⟩ := h
          refine RegL.pureG (p := (pEq (.bool x6))) rfl rfl rfl hc5 rfl rfl (J_call rfl Try.call89 (c_impl_allWithin hx6) (Opds.cons (Opd.tmp rfl) (Opds.cons Opd.con (Opds.cons Opd.con Opds.nil)))) ?_
          refine RegL.pure (p := (pEq (.bool x6))) rfl rfl rfl (J_pick rfl (Opd.tmp rfl) (fun _ => (Opd.tmp rfl)) (fun hf => absurd (hc5.symm.trans hf) (by decide))) ?_
          refine RegL.pure (p := (pEq (.bool x6))) rfl rfl rfl (J_assign rfl (Opd.tmp rfl)) ?_
          refine RegL.nil ?_
          replace h := Option.some.inj h; subst h
          exact Ct.mid () rfl ⟨rfl, trivial⟩
        · replace h := bif_f hc5 h
          refine RegL.skipG rfl rfl rfl hc5 rfl rfl ?_
          refine RegL.skipG rfl rfl rfl hc5 rfl rfl ?_
          refine RegL.pure (p := (pEq (.bool false))) rfl rfl rfl (J_pick rfl (Opd.tmp rfl) (fun hf => absurd (hc5.symm.trans hf) (by decide)) (fun _ => Opd.con)) ?_
          refine RegL.pure (p := (pEq (.bool false))) rfl rfl rfl (J_assign rfl (Opd.tmp rfl)) ?_
          refine RegL.nil ?_
          replace h := Option.some.inj h; subst h
          exact Ct.mid () rfl ⟨rfl, trivial⟩
      · replace h := bif_f hc3 h
        refine RegL.skipG rfl rfl rfl hc3 rfl rfl ?_
        refine RegL.skipG rfl rfl rfl hc3 rfl rfl ?_
        refine RegL.pure (p := (pEq (.bool false))) rfl rfl rfl (J_pick rfl (Opd.tmp rfl) (fun hf => absurd (hc3.symm.trans hf) (by decide)) (fun _ => Opd.con)) ?_
        refine RegL.pure (p := (pEq (.bool false))) rfl rfl rfl (J_move rfl (Opd.tmp rfl)) ?_
        refine RegL.skipG rfl rfl rfl rfl rfl rfl ?_
        refine RegL.skipG rfl rfl rfl rfl rfl rfl ?_
        refine RegL.pure (p := (pEq (.bool false))) rfl rfl rfl (J_pick rfl (Opd.tmp rfl) (fun hf => absurd hf (by decide)) (fun _ => Opd.con)) ?_
        refine RegL.pure (p := (pEq (.bool false))) rfl rfl rfl (J_assign rfl (Opd.tmp rfl)) ?_
        refine RegL.nil ?_
        replace h := Option.some.inj h; subst h
        exact Ct.mid () rfl ⟨rfl, trivial⟩
    · replace h := bif_f hc2 h
      refine RegL.skipG rfl rfl rfl hc2 rfl rfl ?_
      refine RegL.skipG rfl rfl rfl hc2 rfl rfl ?_
      refine RegL.skipG rfl rfl rfl hc2 rfl rfl ?_
      refine RegL.pure (p := (pEq (.bool false))) rfl rfl rfl (J_pick rfl (Opd.tmp rfl) (fun hf => absurd (hc2.symm.trans hf) (by decide)) (fun _ => Opd.con)) ?_
      refine RegL.pure (p := (pEq (.bool false))) rfl rfl rfl (J_move rfl (Opd.tmp rfl)) ?_
      refine RegL.skipG rfl rfl rfl rfl rfl rfl ?_
      refine RegL.skipG rfl rfl rfl rfl rfl rfl ?_
      refine RegL.pure (p := (pEq (.bool false))) rfl rfl rfl (J_pick rfl (Opd.tmp rfl) (fun hf => absurd hf (by decide)) (fun _ => Opd.con)) ?_
      refine RegL.pure (p := (pEq (.bool false))) rfl rfl rfl (J_move rfl (Opd.tmp rfl)) ?_
      refine RegL.skipG rfl rfl rfl rfl rfl rfl ?_
      refine RegL.skipG rfl rfl rfl rfl rfl rfl ?_
      refine RegL.pure (p := (pEq (.bool false))) rfl rfl rfl (J_pick rfl (Opd.tmp rfl) (fun hf => absurd hf (by decide)) (fun _ => Opd.con)) ?_
      refine RegL.pure (p := (pEq (.bool false))) rfl rfl rfl (J_assign rfl (Opd.tmp rfl)) ?_
      refine RegL.nil ?_
      replace h := Option.some.inj h; subst h
      exact Ct.mid () rfl ⟨rfl, trivial⟩
  · clear hx1
    refine Ct.then_tr ?_
    refine Tr.weak (Γ' := [(2, (pEq (.bool x1)))]) ⟨rfl, trivial⟩ ?_
    refine Tr.ret ?_
    replace h := Option.some.inj h; subst h
    exact Ct.retH1 (Ωx := []) () rfl (RvOk.tmp rfl) rfl

theorem c_impl_domainsOk_1 {d_0 : (List Int)} {r : Bool} (h : m_impl_domainsOk_1 d_0 = some r) : CallJ Try.prog 114 [(pSl 1 (cK .i64) d_0)] (pEq (.bool r)) := by
  unfold m_impl_domainsOk_1 at h
  refine CallJ.enterH Try.func114 rfl Try.ntmps114 rfl fun W I0 H => ?_
  refine Tr.weak (Γ' := [(0, (pSl 1 (cK .i64) d_0))]) ⟨rfl, trivial⟩ ?_
  refine Tr.seq ?_
  refine Tr.region ?_
  refine RegL.pure (p := (pEq (.bool false))) rfl rfl rfl (J_assign rfl Opd.con) ?_
  refine RegL.nil ?_
  refine Ct.then_tr ?_
  refine Tr.weak (Γ' := [(0, (pSl 1 (cK .i64) d_0))]) ⟨rfl, trivial⟩ ?_
  refine Tr.seq ?_
  refine Tr.region ?_
  refine RegL.pure (p := (pSl 1 (cK .i64) d_0)) rfl rfl rfl (J_move rfl (Opd.tmp rfl)) ?_
  replace h := bind_some h; obtain ⟨x1, hx1, h⟩ := h
  refine RegL.pure (p := (pEq (.bool x1))) rfl rfl rfl (J_call rfl Try.call115 (c_impl_domainOk hx1) (Opds.cons (Opd.tmp rfl) Opds.nil)) ?_
  refine RegL.pure (p := (pEq (.bool (!x1)))) rfl rfl rfl (J_not rfl (Opd.tmp rfl)) ?_
  refine RegL.pure (p := (pEq (.bool (!x1)))) rfl rfl rfl (J_assign rfl (Opd.tmp rfl)) ?_
  refine RegL.nil ?_
  refine Ct.then_tr ?_
  refine Tr.weak (Γ' := [(2, (pEq (.bool (!x1))))]) ⟨rfl, trivial⟩ ?_
  refine Tr.ret ?_
  replace h := Option.some.inj h; subst h
  exact Ct.retH1 (Ωx := []) () rfl (RvOk.tmp rfl) rfl

theorem c_impl_domainsOk {domains_0 : (List (List Int))} {r : Bool} (h : m_impl_domainsOk domains_0 = some r) : CallJ Try.prog 95 [(pSl 1 (cSl 1 (cK .i64)) domains_0)] (pEq (.bool r)) := by
  unfold m_impl_domainsOk at h
  refine CallJ.enterH Try.func95 rfl Try.ntmps95 rfl fun W I0 H => ?_
  refine Tr.weak (Γ' := [(0, (pSl 1 (cSl 1 (cK .i64)) domains_0))]) ⟨rfl, trivial⟩ ?_
  refine Tr.seq ?_
  refine Tr.region ?_
  refine RegL.pure (p := (pEq (.bool false))) rfl rfl rfl (J_assign rfl Opd.con) ?_
  refine RegL.nil ?_
  refine Ct.then_tr ?_
  refine Tr.weak (Γ' := [(0, (pSl 1 (cSl 1 (cK .i64)) domains_0))]) ⟨rfl, trivial⟩ ?_
  refine Tr.seq ?_
  replace h := bind_some h; obtain ⟨x1, hx1, h⟩ := h
  refine Tr.cut (γ := Unit) (Γm := fun g => [(2, (pEq (.bool x1)))]) (Ωm := fun g => []) ?_ (fun g5 => ?_)
  · clear h
    have h := hx1
    clear hx1
    refine Tr.region ?_
    refine RegL.pure (p := (pSl 1 (cSl 1 (cK .i64)) domains_0)) rfl rfl rfl (J_move rfl (Opd.tmp rfl)) ?_
    refine RegL.pure (p := (pEq (.int .i64 (domains_0.length : Int)))) rfl rfl rfl (J_len rfl Try.underlying22 (Opd.tmp rfl) rfl) ?_
    refine RegL.pure (p := (pEq (.bool (decide ((1 : Int) ≤ (domains_0.length : Int)))))) rfl rfl rfl (J_bin rfl (Opd.tmp rfl) Opd.con B_geq) ?_
    refine RegL.pure (p := (pEq (.bool (decide ((1 : Int) ≤ (domains_0.length : Int)))))) rfl rfl rfl (J_move rfl (Opd.tmp rfl)) ?_
    rcases Bool.eq_false_or_eq_true (decide ((1 : Int) ≤ (domains_0.length : Int))) with hc2 | hc2
    · replace h := bif_t hc2 h
      refine RegL.pureG (p := (pSl 1 (cSl 1 (cK .i64)) domains_0)) rfl rfl rfl hc2 rfl rfl (J_move rfl (Opd.tmp rfl)) ?_
      refine RegL.pureG (p := (pEq (.int .i64 (domains_0.length : Int)))) rfl rfl rfl hc2 rfl rfl (J_len rfl Try.underlying22 (Opd.tmp rfl) rfl) ?_
      refine RegL.pureG (p := (pEq (.bool (decide ((domains_0.length : Int) ≤ (24 : Int)))))) rfl rfl rfl hc2 rfl rfl (J_bin rfl (Opd.tmp rfl) Opd.con B_leq) ?_
      refine RegL.pure (p := (pEq (.bool (decide ((domains_0.length : Int) ≤ (24 : Int)))))) rfl rfl rfl (J_pick rfl (Opd.tmp rfl) (fun _ => (Opd.tmp rfl)) (fun hf => absurd (hc2.symm.trans hf) (by decide))) ?_
      refine RegL.pure (p := (pEq (.bool (decide ((domains_0.length : Int) ≤ (24 : Int)))))) rfl rfl rfl (J_move rfl (Opd.tmp rfl)) ?_
      rcases Bool.eq_false_or_eq_true (decide ((domains_0.length : Int) ≤ (24 : Int))) with hc3 | hc3
      · replace h := bif_t hc3 h
        refine RegL.pureG (p := (pSl 1 (cSl 1 (cK .i64)) domains_0)) rfl rfl rfl hc3 rfl rfl (J_move rfl (Opd.tmp rfl)) ?_
        replace h := bind_some h; obtain ⟨x4, hx4, h⟩ := h
        refine RegL.pureG (p := (pEq (.bool x4))) rfl rfl rfl hc3 rfl rfl (J_call rfl Try.call113 (c_slices_ContainsFunc_SSint64_int64 hx4) (Opds.cons (Opd.tmp rfl) (Opds.cons (Opd.fnv Try.call114 (fun _ _ h => c_impl_domainsOk_1 h)) Opds.nil))) ?_
        refine RegL.pureG (p := (pEq (.bool (!x4)))) rfl rfl rfl hc3 rfl rfl (J_not rfl (Opd.tmp rfl)) ?_
        refine RegL.pure (p := (pEq (.bool (!x4)))) rfl rfl rfl (J_pick rfl (Opd.tmp rfl) (fun _ => (Opd.tmp rfl)) (fun hf => absurd (hc3.symm.trans hf) (by decide))) ?_
        refine RegL.pure (p := (pEq (.bool (!x4)))) rfl rfl rfl (J_assign rfl (Opd.tmp rfl)) ?_
        refine RegL.nil ?_
        replace h := Option.some.inj h; subst h
        exact Ct.mid () rfl ⟨rfl, trivial⟩
      · replace h := bif_f hc3 h
        refine RegL.skipG rfl rfl rfl hc3 rfl rfl ?_
        refine RegL.skipG rfl rfl rfl hc3 rfl rfl ?_
        refine RegL.skipG rfl rfl rfl hc3 rfl rfl ?_
        refine RegL.pure (p := (pEq (.bool false))) rfl rfl rfl (J_pick rfl (Opd.tmp rfl) (fun hf => absurd (hc3.symm.trans hf) (by decide)) (fun _ => Opd.con)) ?_
        refine RegL.pure (p := (pEq (.bool false))) rfl rfl rfl (J_assign rfl (Opd.tmp rfl)) ?_
        refine RegL.nil ?_
        replace h := Option.some.inj h; subst h
        exact Ct.mid () rfl ⟨rfl, trivial⟩
    · replace h := bif_f hc2 h
      refine RegL.skipG rfl rfl rfl hc2 rfl rfl ?_
      refine RegL.skipG rfl rfl rfl hc2 rfl rfl ?_
      refine RegL.skipG rfl rfl rfl hc2 rfl rfl ?_
      refine RegL.pure (p := (pEq (.bool false))) rfl rfl rfl (J_pick rfl (Opd.tmp rfl) (fun hf => absurd (hc2.symm.trans hf) (by decide)) (fun _ => Opd.con)) ?_
      refine RegL.pure (p := (pEq (.bool false))) rfl rfl rfl (J_move rfl (Opd.tmp rfl)) ?_
      refine RegL.skipG rfl rfl rfl rfl rfl rfl ?_
      refine RegL.skipG rfl rfl rfl rfl rfl rfl ?_
      refine RegL.skipG rfl rfl rfl rfl rfl rfl ?_
      refine RegL.pure (p := (pEq (.bool false))) rfl rfl rfl (J_pick rfl (Opd.tmp rfl) (fun hf => absurd hf (by decide)) (fun _ => Opd.con)) ?_
      refine RegL.pure (p := (pEq (.bool false))) rfl rfl rfl (J_assign rfl (Opd.tmp rfl)) ?_
      refine RegL.nil ?_
      replace h := Option.some.inj h; subst h
      exact Ct.mid () rfl ⟨rfl, trivial⟩
  · clear hx1
    refine Ct.then_tr ?_
    refine Tr.weak (Γ' := [(2, (pEq (.bool x1)))]) ⟨rfl, trivial⟩ ?_
    refine Tr.ret ?_
    replace h := Option.some.inj h; subst h
    exact Ct.retH1 (Ωx := []) () rfl (RvOk.tmp rfl) rfl

theorem c_impl_ValidProblem {p_0 : GProblem} {r : Bool} (h : m_impl_ValidProblem p_0 = some r) : CallJ Try.prog 58 [(pAgg (cGProblem p_0))] (pEq (.bool r)) := by
  unfold m_impl_ValidProblem at h
  refine CallJ.enterH Try.func58 rfl Try.ntmps58 rfl fun W I0 H => ?_
  refine Tr.weak (Γ' := [(0, (pAgg (cGProblem p_0)))]) ⟨rfl, trivial⟩ ?_
  refine Tr.seq ?_
  refine Tr.region ?_
  refine RegL.pure (p := (pPtr (cGProblem p_0))) rfl rfl rfl (J_boxA rfl (Opd.tmp rfl)) ?_
  refine RegL.pure (p := (pEq (.bool false))) rfl rfl rfl (J_assign rfl Opd.con) ?_
  refine RegL.nil ?_
  refine Ct.then_tr ?_
  refine Tr.weak (Γ' := [(1, (pPtr (cGProblem p_0)))]) ⟨rfl, trivial⟩ ?_
  refine Tr.seq ?_
  refine Tr.seq ?_
  replace h := bind_some h; obtain ⟨x1, hx1, h⟩ := h
  refine Tr.cut (γ := Unit) (Γm := fun g => [(1, (pPtr (cGProblem p_0))), (18, (pEq (.bool x1)))]) (Ωm := fun g => []) ?_ (fun g4 => ?_)
  · clear h
    have h := hx1
    clear hx1
    refine Tr.region ?_
    refine RegL.pure (p := (pPtr ((cSl 1 (cSl 1 (cK .i64))) p_0.Domains))) rfl rfl rfl (J_fieldAddr rfl Try.underlying29 rfl sz22 (by decide) (Opd.tmp rfl) rfl) ?_
    refine RegL.pure (p := (pSl 1 (cSl 1 (cK .i64)) p_0.Domains)) rfl rfl rfl (J_load rfl Try.isAgg22 (Opd.tmp rfl)) ?_
    replace h := bind_some h; obtain ⟨x2, hx2, h⟩ := h
    refine RegL.pure (p := (pEq (.bool x2))) rfl rfl rfl (J_call rfl Try.call95 (c_impl_domainsOk hx2) (Opds.cons (Opd.tmp rfl) Opds.nil)) ?_
    refine RegL.pure (p := (pEq (.bool (!x2)))) rfl rfl rfl (J_not rfl (Opd.tmp rfl)) ?_
    refine RegL.pure (p := (pEq (.bool (!x2)))) rfl rfl rfl (J_move rfl (Opd.tmp rfl)) ?_
    rcases Bool.eq_false_or_eq_true (!x2) with hc3 | hc3
    · replace h := bif_t hc3 h
      refine RegL.skipG rfl rfl rfl hc3 rfl rfl ?_
      refine RegL.skipG rfl rfl rfl hc3 rfl rfl ?_
      refine RegL.skipG rfl rfl rfl hc3 rfl rfl ?_
      refine RegL.skipG rfl rfl rfl hc3 rfl rfl ?_
      refine RegL.skipG rfl rfl rfl hc3 rfl rfl ?_
      refine RegL.skipG rfl rfl rfl hc3 rfl rfl ?_
      refine RegL.skipG rfl rfl rfl hc3 rfl rfl ?_
      refine RegL.pure (p := (pEq (.bool true))) rfl rfl rfl (J_pick rfl (Opd.tmp rfl) (fun _ => Opd.con) (fun hf => absurd (hc3.symm.trans hf) (by decide))) ?_
      refine RegL.nil ?_
      replace h := Option.some.inj h; subst h
      exact Ct.mid () rfl ⟨rfl, rfl, trivial⟩
    · replace h := bif_f hc3 h
      refine RegL.pureG (p := (pPtr ((cSl 1 (cSl 1 (cK .i64))) p_0.Apart))) rfl rfl rfl hc3 rfl rfl (J_fieldAddr rfl Try.underlying29 rfl sz22 (by decide) (Opd.tmp rfl) rfl) ?_
      refine RegL.pureG (p := (pSl 1 (cSl 1 (cK .i64)) p_0.Apart)) rfl rfl rfl hc3 rfl rfl (J_load rfl Try.isAgg22 (Opd.tmp rfl)) ?_
      refine RegL.pureG (p := (pEq (.int .i64 (p_0.Apart.length : Int)))) rfl rfl rfl hc3 rfl rfl (J_len rfl Try.underlying22 (Opd.tmp rfl) rfl) ?_
      refine RegL.pureG (p := (pPtr ((cSl 1 (cSl 1 (cK .i64))) p_0.Domains))) rfl rfl rfl hc3 rfl rfl (J_fieldAddr rfl Try.underlying29 rfl sz22 (by decide) (Opd.tmp rfl) rfl) ?_
      refine RegL.pureG (p := (pSl 1 (cSl 1 (cK .i64)) p_0.Domains)) rfl rfl rfl hc3 rfl rfl (J_load rfl Try.isAgg22 (Opd.tmp rfl)) ?_
      refine RegL.pureG (p := (pEq (.int .i64 (p_0.Domains.length : Int)))) rfl rfl rfl hc3 rfl rfl (J_len rfl Try.underlying22 (Opd.tmp rfl) rfl) ?_
      refine RegL.pureG (p := (pEq (.bool ((p_0.Apart.length : Int) != (p_0.Domains.length : Int))))) rfl rfl rfl hc3 rfl rfl (J_bin rfl (Opd.tmp rfl) (Opd.tmp rfl) B_neq) ?_
      refine RegL.pure (p := (pEq (.bool ((p_0.Apart.length : Int) != (p_0.Domains.length : Int))))) rfl rfl rfl (J_pick rfl (Opd.tmp rfl) (fun hf => absurd (hc3.symm.trans hf) (by decide)) (fun _ => (Opd.tmp rfl))) ?_
      refine RegL.nil ?_
      replace h := Option.some.inj h; subst h
      exact Ct.mid () rfl ⟨rfl, rfl, trivial⟩
  · clear hx1
    refine Ct.then_tr ?_
    refine Tr.weak (Γ' := [(1, (pPtr (cGProblem p_0))), (18, (pEq (.bool x1)))]) ⟨rfl, rfl, trivial⟩ ?_
    refine Tr.cond (Opd.tmp rfl) (fun hc => ?_) (fun hc => ?_)
    · replace h := bif_t hc h
      refine Tr.seq ?_
      refine Tr.region ?_
      refine RegL.pure (p := (pEq (.bool false))) rfl rfl rfl (J_assign rfl Opd.con) ?_
      refine RegL.nil ?_
      refine Ct.then_tr ?_
      refine Tr.weak (Γ' := [(2, (pEq (.bool false)))]) ⟨rfl, trivial⟩ ?_
      refine Tr.ret ?_
      refine Ct.then_ret ?_
      replace h := Option.some.inj h; subst h
      exact Ct.retH1 (Ωx := []) () rfl (RvOk.tmp rfl) rfl
    · replace h := bif_f hc h
      refine Tr.skip ?_
      refine Ct.then_tr ?_
      refine Tr.weak (Γ' := [(1, (pPtr (cGProblem p_0)))]) ⟨rfl, trivial⟩ ?_
      refine Tr.seq ?_
      refine Tr.seq ?_
      refine Tr.region ?_
      refine RegL.pure (p := (pPtr ((cSl 1 (cSl 1 (cK .i64))) p_0.Apart))) rfl rfl rfl (J_fieldAddr rfl Try.underlying29 rfl sz22 (by decide) (Opd.tmp rfl) rfl) ?_
      refine RegL.pure (p := (pSl 1 (cSl 1 (cK .i64)) p_0.Apart)) rfl rfl rfl (J_load rfl Try.isAgg22 (Opd.tmp rfl)) ?_
      refine RegL.pure (p := (pEq (.int .i64 (p_0.Apart.length : Int)))) rfl rfl rfl (J_len rfl Try.underlying22 (Opd.tmp rfl) rfl) ?_
      refine RegL.pure (p := (pEq (.int .i64 (0 : Int)))) rfl rfl rfl (J_move rfl Opd.con) ?_
      refine RegL.nil ?_
      refine Ct.then_tr ?_
      refine Tr.weak (Γ' := [(1, (pPtr (cGProblem p_0))), (20, (pSl 1 (cSl 1 (cK .i64)) p_0.Apart)), (21, (pEq (.int .i64 (p_0.Apart.length : Int)))), (22, (pEq (.int .i64 (0 : Int))))]) ⟨rfl, rfl, rfl, rfl, trivial⟩ ?_
      refine Tr.block ?_
      refine Tr.weak (Γ' := [(1, (pPtr (cGProblem p_0))), (20, (pSl 1 (cSl 1 (cK .i64)) p_0.Apart)), (21, (pEq (.int .i64 (p_0.Apart.length : Int)))), (22, (pEq (.int .i64 (0 : Int))))]) ⟨rfl, rfl, rfl, rfl, trivial⟩ ?_
      refine Tr.loop (γ := Unit) (σ := Int) (Γσ := fun s g => [(1, (pPtr (cGProblem p_0))), (20, (pSl 1 (cSl 1 (cK .i64)) p_0.Apart)), (21, (pEq (.int .i64 (p_0.Apart.length : Int)))), (22, (pEq (.int .i64 s)))]) (Ωσ := fun s g => []) (g := ()) h ?_
      clear h
      rintro v6 g7 t h
      replace h : m_impl_ValidProblem_B5 p_0 v6 = some t := h
      unfold m_impl_ValidProblem_B5 at h
      refine Tr.weakO (Γ' := [(1, (pPtr (cGProblem p_0))), (20, (pSl 1 (cSl 1 (cK .i64)) p_0.Apart)), (21, (pEq (.int .i64 (p_0.Apart.length : Int)))), (22, (pEq (.int .i64 v6)))]) (Ω' := []) rfl ⟨rfl, rfl, rfl, rfl, trivial⟩ ?_
      refine Tr.seq ?_
      refine Tr.region ?_
      refine RegL.pure (p := (pEq (.bool (decide (v6 < (p_0.Apart.length : Int)))))) rfl rfl rfl (J_bin rfl (Opd.tmp rfl) (Opd.tmp rfl) B_lss) ?_
      refine RegL.nil ?_
      refine Ct.then_tr ?_
      refine Tr.weak (Γ' := [(1, (pPtr (cGProblem p_0))), (20, (pSl 1 (cSl 1 (cK .i64)) p_0.Apart)), (21, (pEq (.int .i64 (p_0.Apart.length : Int)))), (22, (pEq (.int .i64 v6))), (23, (pEq (.bool (decide (v6 < (p_0.Apart.length : Int))))))]) ⟨rfl, rfl, rfl, rfl, rfl, trivial⟩ ?_
      refine Tr.seq ?_
      refine Tr.cond (Opd.tmp rfl) (fun hc => ?_) (fun hc => ?_)
      · replace h := bif_t hc h
        refine Tr.skip ?_
        refine Ct.then_tr ?_
        refine Tr.weak (Γ' := [(1, (pPtr (cGProblem p_0))), (20, (pSl 1 (cSl 1 (cK .i64)) p_0.Apart)), (21, (pEq (.int .i64 (p_0.Apart.length : Int)))), (22, (pEq (.int .i64 v6)))]) ⟨rfl, rfl, rfl, rfl, trivial⟩ ?_
        refine Tr.seq ?_
        refine Tr.block ?_
        refine Tr.seq ?_
        refine Tr.region ?_
        refine RegL.pure (p := (pEq (.int .i64 v6))) rfl rfl rfl (J_move rfl (Opd.tmp rfl)) ?_
        replace h := bind_some h; obtain ⟨x8, hx8, h⟩ := h
        refine RegL.pure (p := (pPtr ((cSl 1 (cK .i64)) x8))) rfl rfl rfl (J_idx rfl Try.underlying22 sz25 (Opd.tmp rfl) (Opd.tmp rfl) hx8) ?_
        refine RegL.pure (p := (pSl 1 (cK .i64) x8)) rfl rfl rfl (J_load rfl Try.isAgg25 (Opd.tmp rfl)) ?_
        refine RegL.pure (p := (pEq (.int .i64 v6))) rfl rfl rfl (J_assign rfl (Opd.tmp rfl)) ?_
        refine RegL.pure (p := (pSl 1 (cK .i64) x8)) rfl rfl rfl (J_assign rfl (Opd.tmp rfl)) ?_
        refine RegL.nil ?_
        refine Ct.then_tr ?_
        refine Tr.weak (Γ' := [(1, (pPtr (cGProblem p_0))), (3, (pEq (.int .i64 v6))), (4, (pSl 1 (cK .i64) x8)), (20, (pSl 1 (cSl 1 (cK .i64)) p_0.Apart)), (21, (pEq (.int .i64 (p_0.Apart.length : Int)))), (22, (pEq (.int .i64 v6)))]) ⟨rfl, rfl, rfl, rfl, rfl, rfl, trivial⟩ ?_
        refine Tr.seq ?_
        refine Tr.seq ?_
        replace h := bind_some h; obtain ⟨x9, hx9, h⟩ := h
        refine Tr.cut (γ := Unit) (Γm := fun g => [(1, (pPtr (cGProblem p_0))), (3, (pEq (.int .i64 v6))), (4, (pSl 1 (cK .i64) x8)), (20, (pSl 1 (cSl 1 (cK .i64)) p_0.Apart)), (21, (pEq (.int .i64 (p_0.Apart.length : Int)))), (22, (pEq (.int .i64 v6))), (44, (pEq (.bool x9)))]) (Ωm := fun g => []) ?_ (fun g14 => ?_)
        · clear h
          have h := hx9
          clear hx9
          refine Tr.region ?_
          refine RegL.pure (p := (pSl 1 (cK .i64) x8)) rfl rfl rfl (J_move rfl (Opd.tmp rfl)) ?_
          refine RegL.pure (p := (pEq (.int .i64 (x8.length : Int)))) rfl rfl rfl (J_len rfl Try.underlying25 (Opd.tmp rfl) rfl) ?_
          refine RegL.pure (p := (pPtr ((cSl 1 (cSl 1 (cK .i64))) p_0.Domains))) rfl rfl rfl (J_fieldAddr rfl Try.underlying29 rfl sz22 (by decide) (Opd.tmp rfl) rfl) ?_
          refine RegL.pure (p := (pSl 1 (cSl 1 (cK .i64)) p_0.Domains)) rfl rfl rfl (J_load rfl Try.isAgg22 (Opd.tmp rfl)) ?_
          refine RegL.pure (p := (pEq (.int .i64 (p_0.Domains.length : Int)))) rfl rfl rfl (J_len rfl Try.underlying22 (Opd.tmp rfl) rfl) ?_
          refine RegL.pure (p := (pEq (.bool ((x8.length : Int) != (p_0.Domains.length : Int))))) rfl rfl rfl (J_bin rfl (Opd.tmp rfl) (Opd.tmp rfl) B_neq) ?_
          refine RegL.pure (p := (pEq (.bool ((x8.length : Int) != (p_0.Domains.length : Int))))) rfl rfl rfl (J_move rfl (Opd.tmp rfl)) ?_
          rcases Bool.eq_false_or_eq_true ((x8.length : Int) != (p_0.Domains.length : Int)) with hc10 | hc10
          · replace h := bif_t hc10 h
            refine RegL.skipG rfl rfl rfl hc10 rfl rfl ?_
            refine RegL.skipG rfl rfl rfl hc10 rfl rfl ?_
            refine RegL.skipG rfl rfl rfl hc10 rfl rfl ?_
            refine RegL.pure (p := (pEq (.bool true))) rfl rfl rfl (J_pick rfl (Opd.tmp rfl) (fun _ => Opd.con) (fun hf => absurd (hc10.symm.trans hf) (by decide))) ?_
            refine RegL.pure (p := (pEq (.bool true))) rfl rfl rfl (J_move rfl (Opd.tmp rfl)) ?_
            refine RegL.skipG rfl rfl rfl rfl rfl rfl ?_
            refine RegL.skipG rfl rfl rfl rfl rfl rfl ?_
            refine RegL.skipG rfl rfl rfl rfl rfl rfl ?_
            refine RegL.skipG rfl rfl rfl rfl rfl rfl ?_
            refine RegL.skipG rfl rfl rfl rfl rfl rfl ?_
            refine RegL.pure (p := (pEq (.bool true))) rfl rfl rfl (J_pick rfl (Opd.tmp rfl) (fun _ => Opd.con) (fun hf => absurd hf (by decide))) ?_
            refine RegL.nil ?_
            replace h := Option.some.inj h; subst h
            exact Ct.mid () rfl ⟨rfl, rfl, rfl, rfl, rfl, rfl, rfl, trivial⟩
          · replace h := bif_f hc10 h
            refine RegL.pureG (p := (pSl 1 (cK .i64) x8)) rfl rfl rfl hc10 rfl rfl (J_move rfl (Opd.tmp rfl)) ?_
            replace h := bind_some h; obtain ⟨x11, hx11, h⟩ := h
            refine RegL.pureG (p := (pEq (.bool x11))) rfl rfl rfl hc10 rfl rfl (J_call rfl Try.call89 (c_impl_allWithin hx11) (Opds.cons (Opd.tmp rfl) (Opds.cons Opd.con (Opds.cons Opd.con Opds.nil)))) ?_
            refine RegL.pureG (p := (pEq (.bool (!x11)))) rfl rfl rfl hc10 rfl rfl (J_not rfl (Opd.tmp rfl)) ?_
            refine RegL.pure (p := (pEq (.bool (!x11)))) rfl rfl rfl (J_pick rfl (Opd.tmp rfl) (fun hf => absurd (hc10.symm.trans hf) (by decide)) (fun _ => (Opd.tmp rfl))) ?_
            refine RegL.pure (p := (pEq (.bool (!x11)))) rfl rfl rfl (J_move rfl (Opd.tmp rfl)) ?_
            rcases Bool.eq_false_or_eq_true (!x11) with hc12 | hc12
            · replace h := bif_t hc12 h
              refine RegL.skipG rfl rfl rfl hc12 rfl rfl ?_
              refine RegL.skipG rfl rfl rfl hc12 rfl rfl ?_
              refine RegL.skipG rfl rfl rfl hc12 rfl rfl ?_
              refine RegL.skipG rfl rfl rfl hc12 rfl rfl ?_
              refine RegL.skipG rfl rfl rfl hc12 rfl rfl ?_
              refine RegL.pure (p := (pEq (.bool true))) rfl rfl rfl (J_pick rfl (Opd.tmp rfl) (fun _ => Opd.con) (fun hf => absurd (hc12.symm.trans hf) (by decide))) ?_
              refine RegL.nil ?_
              replace h := Option.some.inj h; subst h
              exact Ct.mid () rfl ⟨rfl, rfl, rfl, rfl, rfl, rfl, rfl, trivial⟩
            · replace h := bif_f hc12 h
              refine RegL.pureG (p := (pSl 1 (cK .i64) x8)) rfl rfl rfl hc12 rfl rfl (J_move rfl (Opd.tmp rfl)) ?_
              refine RegL.pureG (p := (pEq (.int .i64 v6))) rfl rfl rfl hc12 rfl rfl (J_move rfl (Opd.tmp rfl)) ?_
              replace h := bind_some h; obtain ⟨x13, hx13, h⟩ := h
              refine RegL.pureG (p := (pPtr ((cK .i64) x13))) rfl rfl rfl hc12 rfl rfl (J_idx rfl Try.underlying25 sz2 (Opd.tmp rfl) (Opd.tmp rfl) hx13) ?_
              refine RegL.pureG (p := (pEq (.int .i64 x13))) rfl rfl rfl hc12 rfl rfl (J_load rfl Try.isAgg2 (Opd.tmp rfl)) ?_
              refine RegL.pureG (p := (pEq (.bool (x13 != (0 : Int))))) rfl rfl rfl hc12 rfl rfl (J_bin rfl (Opd.tmp rfl) Opd.con B_neq) ?_
              refine RegL.pure (p := (pEq (.bool (x13 != (0 : Int))))) rfl rfl rfl (J_pick rfl (Opd.tmp rfl) (fun hf => absurd (hc12.symm.trans hf) (by decide)) (fun _ => (Opd.tmp rfl))) ?_
              refine RegL.nil ?_
              replace h := Option.some.inj h; subst h
              exact Ct.mid () rfl ⟨rfl, rfl, rfl, rfl, rfl, rfl, rfl, trivial⟩
        · clear hx9
          refine Ct.then_tr ?_
          refine Tr.weak (Γ' := [(1, (pPtr (cGProblem p_0))), (3, (pEq (.int .i64 v6))), (4, (pSl 1 (cK .i64) x8)), (20, (pSl 1 (cSl 1 (cK .i64)) p_0.Apart)), (21, (pEq (.int .i64 (p_0.Apart.length : Int)))), (22, (pEq (.int .i64 v6))), (44, (pEq (.bool x9)))]) ⟨rfl, rfl, rfl, rfl, rfl, rfl, rfl, trivial⟩ ?_
          refine Tr.cond (Opd.tmp rfl) (fun hc => ?_) (fun hc => ?_)
          · replace h := bif_t hc h
            refine Tr.seq ?_
            refine Tr.region ?_
            refine RegL.pure (p := (pEq (.bool false))) rfl rfl rfl (J_assign rfl Opd.con) ?_
            refine RegL.nil ?_
            refine Ct.then_tr ?_
            refine Tr.weak (Γ' := [(2, (pEq (.bool false)))]) ⟨rfl, trivial⟩ ?_
            refine Tr.ret ?_
            refine Ct.then_ret ?_
            refine Ct.blk_ret ?_
            refine Ct.then_ret ?_
            replace h := map_some h; obtain ⟨r1, h, rfl⟩ := h
            refine Ct.out_ret fun e => ?_
            subst e
            refine Ct.blk_ret ?_
            refine Ct.then_ret ?_
            replace h := Option.some.inj h; subst h
            exact Ct.retH1 (Ωx := []) () rfl (RvOk.tmp rfl) rfl
          · replace h := bif_f hc h
            refine Tr.skip ?_
            refine Ct.then_tr ?_
            refine Tr.weak (Γ' := [(1, (pPtr (cGProblem p_0))), (3, (pEq (.int .i64 v6))), (4, (pSl 1 (cK .i64) x8)), (20, (pSl 1 (cSl 1 (cK .i64)) p_0.Apart)), (21, (pEq (.int .i64 (p_0.Apart.length : Int)))), (22, (pEq (.int .i64 v6)))]) ⟨rfl, rfl, rfl, rfl, rfl, rfl, trivial⟩ ?_
            refine Tr.seq ?_
            refine Tr.region ?_
            refine RegL.pure (p := (pEq (.int .i64 v6))) rfl rfl rfl (J_move rfl (Opd.tmp rfl)) ?_
            refine RegL.pure (p := (pEq (.int .i64 (0 : Int)))) rfl rfl rfl (J_move rfl Opd.con) ?_
            refine RegL.nil ?_
            refine Ct.then_tr ?_
            refine Tr.weak (Γ' := [(1, (pPtr (cGProblem p_0))), (3, (pEq (.int .i64 v6))), (4, (pSl 1 (cK .i64) x8)), (20, (pSl 1 (cSl 1 (cK .i64)) p_0.Apart)), (21, (pEq (.int .i64 (p_0.Apart.length : Int)))), (22, (pEq (.int .i64 v6))), (45, (pEq (.int .i64 v6))), (46, (pEq (.int .i64 (0 : Int))))]) ⟨rfl, rfl, rfl, rfl, rfl, rfl, rfl, rfl, trivial⟩ ?_
            refine Tr.block ?_
            refine Tr.weak (Γ' := [(1, (pPtr (cGProblem p_0))), (3, (pEq (.int .i64 v6))), (4, (pSl 1 (cK .i64) x8)), (20, (pSl 1 (cSl 1 (cK .i64)) p_0.Apart)), (21, (pEq (.int .i64 (p_0.Apart.length : Int)))), (22, (pEq (.int .i64 v6))), (45, (pEq (.int .i64 v6))), (46, (pEq (.int .i64 (0 : Int))))]) ⟨rfl, rfl, rfl, rfl, rfl, rfl, rfl, rfl, trivial⟩ ?_
            refine Tr.loop (γ := Unit) (σ := Int) (Γσ := fun s g => [(1, (pPtr (cGProblem p_0))), (3, (pEq (.int .i64 v6))), (4, (pSl 1 (cK .i64) x8)), (20, (pSl 1 (cSl 1 (cK .i64)) p_0.Apart)), (21, (pEq (.int .i64 (p_0.Apart.length : Int)))), (22, (pEq (.int .i64 v6))), (45, (pEq (.int .i64 v6))), (46, (pEq (.int .i64 s)))]) (Ωσ := fun s g => []) (g := ()) h ?_
            clear h
            rintro v16 g17 t h
            replace h : m_impl_ValidProblem_B15 p_0 v6 x8 v16 = some t := h
            unfold m_impl_ValidProblem_B15 at h
            refine Tr.weakO (Γ' := [(1, (pPtr (cGProblem p_0))), (3, (pEq (.int .i64 v6))), (4, (pSl 1 (cK .i64) x8)), (20, (pSl 1 (cSl 1 (cK .i64)) p_0.Apart)), (21, (pEq (.int .i64 (p_0.Apart.length : Int)))), (22, (pEq (.int .i64 v6))), (45, (pEq (.int .i64 v6))), (46, (pEq (.int .i64 v16)))]) (Ω' := []) rfl ⟨rfl, rfl, rfl, rfl, rfl, rfl, rfl, rfl, trivial⟩ ?_
            refine Tr.seq ?_
            refine Tr.region ?_
            refine RegL.pure (p := (pEq (.bool (decide (v16 < v6))))) rfl rfl rfl (J_bin rfl (Opd.tmp rfl) (Opd.tmp rfl) B_lss) ?_
            refine RegL.nil ?_
            refine Ct.then_tr ?_
            refine Tr.weak (Γ' := [(1, (pPtr (cGProblem p_0))), (3, (pEq (.int .i64 v6))), (4, (pSl 1 (cK .i64) x8)), (20, (pSl 1 (cSl 1 (cK .i64)) p_0.Apart)), (21, (pEq (.int .i64 (p_0.Apart.length : Int)))), (22, (pEq (.int .i64 v6))), (45, (pEq (.int .i64 v6))), (46, (pEq (.int .i64 v16))), (47, (pEq (.bool (decide (v16 < v6)))))]) ⟨rfl, rfl, rfl, rfl, rfl, rfl, rfl, rfl, rfl, trivial⟩ ?_
            refine Tr.seq ?_
            refine Tr.cond (Opd.tmp rfl) (fun hc => ?_) (fun hc => ?_)
            · replace h := bif_t hc h
              refine Tr.skip ?_
              refine Ct.then_tr ?_
              refine Tr.weak (Γ' := [(1, (pPtr (cGProblem p_0))), (3, (pEq (.int .i64 v6))), (4, (pSl 1 (cK .i64) x8)), (20, (pSl 1 (cSl 1 (cK .i64)) p_0.Apart)), (21, (pEq (.int .i64 (p_0.Apart.length : Int)))), (22, (pEq (.int .i64 v6))), (45, (pEq (.int .i64 v6))), (46, (pEq (.int .i64 v16)))]) ⟨rfl, rfl, rfl, rfl, rfl, rfl, rfl, rfl, trivial⟩ ?_
              refine Tr.seq ?_
              refine Tr.block ?_
              refine Tr.seq ?_
              refine Tr.region ?_
              refine RegL.pure (p := (pEq (.int .i64 v16))) rfl rfl rfl (J_move rfl (Opd.tmp rfl)) ?_
              refine RegL.pure (p := (pEq (.int .i64 v16))) rfl rfl rfl (J_assign rfl (Opd.tmp rfl)) ?_
              refine RegL.nil ?_
              refine Ct.then_tr ?_
              refine Tr.weak (Γ' := [(1, (pPtr (cGProblem p_0))), (3, (pEq (.int .i64 v6))), (4, (pSl 1 (cK .i64) x8)), (5, (pEq (.int .i64 v16))), (20, (pSl 1 (cSl 1 (cK .i64)) p_0.Apart)), (21, (pEq (.int .i64 (p_0.Apart.length : Int)))), (22, (pEq (.int .i64 v6))), (45, (pEq (.int .i64 v6))), (46, (pEq (.int .i64 v16)))]) ⟨rfl, rfl, rfl, rfl, rfl, rfl, rfl, rfl, rfl, trivial⟩ ?_
              refine Tr.seq ?_
              replace h := bind_some h; obtain ⟨x18, hx18, h⟩ := h
              replace h := bind_some h; obtain ⟨x19, hx19, h⟩ := h
              replace h := bind_some h; obtain ⟨x20, hx20, h⟩ := h
              refine Tr.drawD (n := 64) (m := 13) (es := [some (Ent.mk [(4, (pSl 1 (cK .i64) x8))] (pSl 1 (cK .i64) x8) true), some (Ent.mk [(5, (pEq (.int .i64 v16)))] (pEq (.int .i64 v16)) true), some (Ent.mk [(49, (pSl 1 (cK .i64) x8)), (50, (pEq (.int .i64 v16)))] (pPtr ((cK .i64) x18)) true), some (Ent.mk [(51, (pPtr ((cK .i64) x18)))] (pEq (.int .i64 x18)) true), some (Ent.mk [(1, (pPtr (cGProblem p_0)))] (pPtr ((cSl 1 (cSl 1 (cK .i64))) p_0.Apart)) true), some (Ent.mk [(53, (pPtr ((cSl 1 (cSl 1 (cK .i64))) p_0.Apart)))] (pSl 1 (cSl 1 (cK .i64)) p_0.Apart) true), some (Ent.mk [(5, (pEq (.int .i64 v16)))] (pEq (.int .i64 v16)) true), some (Ent.mk [(54, (pSl 1 (cSl 1 (cK .i64)) p_0.Apart)), (55, (pEq (.int .i64 v16)))] (pPtr ((cSl 1 (cK .i64)) x19)) true), some (Ent.mk [(56, (pPtr ((cSl 1 (cK .i64)) x19)))] (pSl 1 (cK .i64) x19) true), some (Ent.mk [(3, (pEq (.int .i64 v6)))] (pEq (.int .i64 v6)) true), some (Ent.mk [(57, (pSl 1 (cK .i64) x19)), (58, (pEq (.int .i64 v6)))] (pPtr ((cK .i64) x20)) true), some (Ent.mk [(59, (pPtr ((cK .i64) x20)))] (pEq (.int .i64 x20)) true), some (Ent.mk [(52, (pEq (.int .i64 x18))), (60, (pEq (.int .i64 x20)))] (pEq (.bool (x18 != x20))) true)]) (rd := [[4], [5], [49, 50], [51], [1], [53], [5], [54, 55], [56], [3], [57, 58], [59], [52, 60]]) rfl hmix (by kernel_rfl) fun hD => ?_
              refine RD.fin (es := [Ent.mk [(4, (pSl 1 (cK .i64) x8))] (pSl 1 (cK .i64) x8) true, Ent.mk [(5, (pEq (.int .i64 v16)))] (pEq (.int .i64 v16)) true, Ent.mk [(49, (pSl 1 (cK .i64) x8)), (50, (pEq (.int .i64 v16)))] (pPtr ((cK .i64) x18)) true, Ent.mk [(51, (pPtr ((cK .i64) x18)))] (pEq (.int .i64 x18)) true, Ent.mk [(1, (pPtr (cGProblem p_0)))] (pPtr ((cSl 1 (cSl 1 (cK .i64))) p_0.Apart)) true, Ent.mk [(53, (pPtr ((cSl 1 (cSl 1 (cK .i64))) p_0.Apart)))] (pSl 1 (cSl 1 (cK .i64)) p_0.Apart) true, Ent.mk [(5, (pEq (.int .i64 v16)))] (pEq (.int .i64 v16)) true, Ent.mk [(54, (pSl 1 (cSl 1 (cK .i64)) p_0.Apart)), (55, (pEq (.int .i64 v16)))] (pPtr ((cSl 1 (cK .i64)) x19)) true, Ent.mk [(56, (pPtr ((cSl 1 (cK .i64)) x19)))] (pSl 1 (cK .i64) x19) true, Ent.mk [(3, (pEq (.int .i64 v6)))] (pEq (.int .i64 v6)) true, Ent.mk [(57, (pSl 1 (cK .i64) x19)), (58, (pEq (.int .i64 v6)))] (pPtr ((cK .i64) x20)) true, Ent.mk [(59, (pPtr ((cK .i64) x20)))] (pEq (.int .i64 x20)) true, Ent.mk [(52, (pEq (.int .i64 x18))), (60, (pEq (.int .i64 x20)))] (pEq (.bool (x18 != x20))) true]) (done := []) hD ⟨.inr ⟨(OpJ.w (J_move rfl (Opd.tmp rfl))), ⟨rfl, trivial⟩, rfl, rfl⟩, ⟨.inr ⟨(OpJ.w (J_move rfl (Opd.tmp rfl))), ⟨rfl, trivial⟩, rfl, rfl⟩, ⟨.inr ⟨(OpJ.w (J_idx rfl Try.underlying25 sz2 (Opd.tmp rfl) (Opd.tmp rfl) hx18)), ⟨rfl, rfl, trivial⟩, rfl, rfl⟩, ⟨.inr ⟨(OpJ.w (J_load rfl Try.isAgg2 (Opd.tmp rfl))), ⟨rfl, trivial⟩, rfl, rfl⟩, ⟨.inr ⟨(OpJ.w (J_fieldAddr rfl Try.underlying29 rfl sz22 (by decide) (Opd.tmp rfl) rfl)), ⟨rfl, trivial⟩, rfl, rfl⟩, ⟨.inr ⟨(OpJ.w (J_load rfl Try.isAgg22 (Opd.tmp rfl))), ⟨rfl, trivial⟩, rfl, rfl⟩, ⟨.inr ⟨(OpJ.w (J_move rfl (Opd.tmp rfl))), ⟨rfl, trivial⟩, rfl, rfl⟩, ⟨.inr ⟨(OpJ.w (J_idx rfl Try.underlying22 sz25 (Opd.tmp rfl) (Opd.tmp rfl) hx19)), ⟨rfl, rfl, trivial⟩, rfl, rfl⟩, ⟨.inr ⟨(OpJ.w (J_load rfl Try.isAgg25 (Opd.tmp rfl))), ⟨rfl, trivial⟩, rfl, rfl⟩, ⟨.inr ⟨(OpJ.w (J_move rfl (Opd.tmp rfl))), ⟨rfl, trivial⟩, rfl, rfl⟩, ⟨.inr ⟨(OpJ.w (J_idx rfl Try.underlying25 sz2 (Opd.tmp rfl) (Opd.tmp rfl) hx20)), ⟨rfl, rfl, trivial⟩, rfl, rfl⟩, ⟨.inr ⟨(OpJ.w (J_load rfl Try.isAgg2 (Opd.tmp rfl))), ⟨rfl, trivial⟩, rfl, rfl⟩, ⟨.inr ⟨(OpJ.w (J_bin rfl (Opd.tmp rfl) (Opd.tmp rfl) B_neq)), ⟨rfl, rfl, trivial⟩, rfl, rfl⟩, trivial⟩⟩⟩⟩⟩⟩⟩⟩⟩⟩⟩⟩⟩ ?_
              refine RegL.nil ?_
              refine Ct.then_tr ?_
              refine Tr.weak (Γ' := [(1, (pPtr (cGProblem p_0))), (3, (pEq (.int .i64 v6))), (4, (pSl 1 (cK .i64) x8)), (20, (pSl 1 (cSl 1 (cK .i64)) p_0.Apart)), (21, (pEq (.int .i64 (p_0.Apart.length : Int)))), (22, (pEq (.int .i64 v6))), (45, (pEq (.int .i64 v6))), (46, (pEq (.int .i64 v16))), (61, (pEq (.bool (x18 != x20))))]) ⟨rfl, rfl, rfl, rfl, rfl, rfl, rfl, rfl, rfl, trivial⟩ ?_
              refine Tr.cond (Opd.tmp rfl) (fun hc => ?_) (fun hc => ?_)
              · replace h := bif_t hc h
                refine Tr.seq ?_
                refine Tr.region ?_
                refine RegL.pure (p := (pEq (.bool false))) rfl rfl rfl (J_assign rfl Opd.con) ?_
                refine RegL.nil ?_
                refine Ct.then_tr ?_
                refine Tr.weak (Γ' := [(2, (pEq (.bool false)))]) ⟨rfl, trivial⟩ ?_
                refine Tr.ret ?_
                refine Ct.blk_ret ?_
                refine Ct.then_ret ?_
                replace h := map_some h; obtain ⟨r1, h, rfl⟩ := h
                refine Ct.out_ret fun e => ?_
                subst e
                refine Ct.blk_ret ?_
                refine Ct.blk_ret ?_
                refine Ct.then_ret ?_
                replace h := map_some h; obtain ⟨r1, h, rfl⟩ := h
                refine Ct.out_ret fun e => ?_
                subst e
                refine Ct.blk_ret ?_
                refine Ct.then_ret ?_
                replace h := Option.some.inj h; subst h
                exact Ct.retH1 (Ωx := []) () rfl (RvOk.tmp rfl) rfl
              · replace h := bif_f hc h
                refine Tr.skip ?_
                refine Ct.blk_normal ?_
                refine Ct.then_tr ?_
                refine Tr.weak (Γ' := [(1, (pPtr (cGProblem p_0))), (3, (pEq (.int .i64 v6))), (4, (pSl 1 (cK .i64) x8)), (20, (pSl 1 (cSl 1 (cK .i64)) p_0.Apart)), (21, (pEq (.int .i64 (p_0.Apart.length : Int)))), (22, (pEq (.int .i64 v6))), (45, (pEq (.int .i64 v6))), (46, (pEq (.int .i64 v16)))]) ⟨rfl, rfl, rfl, rfl, rfl, rfl, rfl, rfl, trivial⟩ ?_
                refine Tr.region ?_
                refine RegL.pure (p := (pEq (.int .i64 (w64 (v16 + (1 : Int)))))) rfl rfl rfl (J_bin rfl (Opd.tmp rfl) Opd.con B_add) ?_
                refine RegL.pure (p := (pEq (.int .i64 (w64 (v16 + (1 : Int)))))) rfl rfl rfl (J_move rfl (Opd.tmp rfl)) ?_
                refine RegL.nil ?_
                replace h := Option.some.inj h; subst h
                exact Ct.again () rfl ⟨rfl, rfl, rfl, rfl, rfl, rfl, rfl, rfl, trivial⟩
            · replace h := bif_f hc h
              refine Tr.exit ?_
              refine Ct.then_exit ?_
              replace h := map_some h; obtain ⟨r1, h, rfl⟩ := h
              refine Ct.out_exit fun e => ?_
              subst e
              refine Ct.blk_exit ?_
              refine Ct.blk_normal ?_
              refine Ct.then_tr ?_
              refine Tr.weak (Γ' := [(1, (pPtr (cGProblem p_0))), (20, (pSl 1 (cSl 1 (cK .i64)) p_0.Apart)), (21, (pEq (.int .i64 (p_0.Apart.length : Int)))), (22, (pEq (.int .i64 v6)))]) ⟨rfl, rfl, rfl, rfl, trivial⟩ ?_
              refine Tr.region ?_
              refine RegL.pure (p := (pEq (.int .i64 (w64 (v6 + (1 : Int)))))) rfl rfl rfl (J_bin rfl (Opd.tmp rfl) Opd.con B_add) ?_
              refine RegL.pure (p := (pEq (.int .i64 (w64 (v6 + (1 : Int)))))) rfl rfl rfl (J_move rfl (Opd.tmp rfl)) ?_
              refine RegL.nil ?_
              replace h := Option.some.inj h; subst h
              exact Ct.again () rfl ⟨rfl, rfl, rfl, rfl, trivial⟩
      · replace h := bif_f hc h
        refine Tr.exit ?_
        refine Ct.then_exit ?_
        replace h := map_some h; obtain ⟨r1, h, rfl⟩ := h
        refine Ct.out_exit fun e => ?_
        subst e
        refine Ct.blk_exit ?_
        refine Ct.then_tr ?_
        refine Tr.weak (Γ' := []) trivial ?_
        refine Tr.seq ?_
        refine Tr.region ?_
        refine RegL.pure (p := (pEq (.bool true))) rfl rfl rfl (J_assign rfl Opd.con) ?_
        refine RegL.nil ?_
        refine Ct.then_tr ?_
        refine Tr.weak (Γ' := [(2, (pEq (.bool true)))]) ⟨rfl, trivial⟩ ?_
        refine Tr.ret ?_
        replace h := Option.some.inj h; subst h
        exact Ct.retH1 (Ωx := []) () rfl (RvOk.tmp rfl) rfl

theorem c_impl_budgetValid {budget_0 : Int} {r : Bool} (h : m_impl_budgetValid budget_0 = some r) : CallJ Try.prog 76 [(pEq (.int .i64 budget_0))] (pEq (.bool r)) := by
  unfold m_impl_budgetValid at h
  refine CallJ.enterH Try.func76 rfl Try.ntmps76 rfl fun W I0 H => ?_
  refine Tr.weak (Γ' := [(0, (pEq (.int .i64 budget_0)))]) ⟨rfl, trivial⟩ ?_
  refine Tr.seq ?_
  refine Tr.region ?_
  refine RegL.pure (p := (pEq (.bool false))) rfl rfl rfl (J_assign rfl Opd.con) ?_
  refine RegL.nil ?_
  refine Ct.then_tr ?_
  refine Tr.weak (Γ' := [(0, (pEq (.int .i64 budget_0)))]) ⟨rfl, trivial⟩ ?_
  refine Tr.seq ?_
  refine Tr.region ?_
  refine RegL.pure (p := (pEq (.int .i64 budget_0))) rfl rfl rfl (J_move rfl (Opd.tmp rfl)) ?_
  replace h := bind_some h; obtain ⟨x1, hx1, h⟩ := h
  refine RegL.pure (p := (pEq (.bool x1))) rfl rfl rfl (J_call rfl Try.call64 (c_impl_within hx1) (Opds.cons (Opd.tmp rfl) (Opds.cons Opd.con (Opds.cons Opd.con Opds.nil)))) ?_
  refine RegL.pure (p := (pEq (.bool x1))) rfl rfl rfl (J_assign rfl (Opd.tmp rfl)) ?_
  refine RegL.nil ?_
  refine Ct.then_tr ?_
  refine Tr.weak (Γ' := [(2, (pEq (.bool x1)))]) ⟨rfl, trivial⟩ ?_
  refine Tr.ret ?_
  replace h := Option.some.inj h; subst h
  exact Ct.retH1 (Ωx := []) () rfl (RvOk.tmp rfl) rfl

theorem o_slices_Grow_int64_int64 {s_0 : (List Int)} {n_1 : Int}  {r : (List Int)} (h : m_slices_Grow_int64_int64 s_0 n_1 = some r) : CallH Try.prog 110 [(pEq (.slice none 0 0)), (pEq (.int .i64 n_1))] [] (fun g : G3 => (pEq (.slice g.1 g.2.1 g.2.2))) (fun g : G3 => [oSl 2 1 (cK .i64) g.1 g.2.1 g.2.2 r]) := by
  unfold m_slices_Grow_int64_int64 at h
  refine CallH.enter Try.func110 rfl Try.ntmps110 rfl fun W I0 H => ?_
  refine Tr.weak (Γ' := [(0, (pEq (.slice none 0 0))), (1, (pEq (.int .i64 n_1)))]) ⟨rfl, rfl, trivial⟩ ?_
  refine Tr.seq ?_
  refine Tr.region ?_
  refine RegL.pure (p := (pEq (.slice none 0 0))) rfl rfl rfl (J_assign rfl Opd.con) ?_
  refine RegL.nil ?_
  refine Ct.then_tr ?_
  refine Tr.weak (Γ' := [(0, (pEq (.slice none 0 0))), (1, (pEq (.int .i64 n_1)))]) ⟨rfl, rfl, trivial⟩ ?_
  refine Tr.seq ?_
  refine Tr.seq ?_
  refine Tr.region ?_
  refine RegL.pure (p := (pEq (.int .i64 n_1))) rfl rfl rfl (J_move rfl (Opd.tmp rfl)) ?_
  refine RegL.pure (p := (pEq (.bool (decide (n_1 < (0 : Int)))))) rfl rfl rfl (J_bin rfl (Opd.tmp rfl) Opd.con B_lss) ?_
  refine RegL.nil ?_
  refine Ct.then_tr ?_
  refine Tr.weak (Γ' := [(0, (pEq (.slice none 0 0))), (1, (pEq (.int .i64 n_1))), (6, (pEq (.bool (decide (n_1 < (0 : Int))))))]) ⟨rfl, rfl, rfl, trivial⟩ ?_
  replace h := bind_some h; obtain ⟨x1, hx1, h⟩ := h
  refine Tr.cut (γ := Unit) (Γm := fun g => [(0, (pEq (.slice none 0 0))), (1, (pEq (.int .i64 n_1)))]) (Ωm := fun g => []) ?_ (fun g2 => ?_)
  · clear h
    have h := hx1
    clear hx1
    refine Tr.cond (Opd.tmp rfl) (fun hc => ?_) (fun hc => ?_)
    · replace h := bif_t hc h
      refine Tr.region ?_
      exact absurd h (by simp)
    · replace h := bif_f hc h
      refine Tr.skip ?_
      replace h := Option.some.inj h; subst h
      exact Ct.mid () rfl ⟨rfl, rfl, trivial⟩
  · clear hx1
    refine Ct.then_tr ?_
    refine Tr.weak (Γ' := [(0, (pEq (.slice none 0 0))), (1, (pEq (.int .i64 n_1)))]) ⟨rfl, rfl, trivial⟩ ?_
    refine Tr.seq ?_
    refine Tr.seq ?_
    refine Tr.region ?_
    refine RegL.pure (p := (pEq (.int .i64 n_1))) rfl rfl rfl (J_move rfl (Opd.tmp rfl)) ?_
    refine RegL.pure (p := (pEq (.slice none 0 0))) rfl rfl rfl (J_move rfl (Opd.tmp rfl)) ?_
    refine RegL.pure (p := (pEq (.int .i64 (0 : Int)))) rfl rfl rfl (J_nilCap rfl Try.underlying25 (Opd.tmp rfl)) ?_
    refine RegL.pure (p := (pEq (.slice none 0 0))) rfl rfl rfl (J_move rfl (Opd.tmp rfl)) ?_
    refine RegL.pure (p := (pEq (.int .i64 (0 : Int)))) rfl rfl rfl (J_nilLen rfl Try.underlying25 (Opd.tmp rfl)) ?_
    refine RegL.pure (p := (pEq (.int .i64 (w64 ((0 : Int) - (0 : Int)))))) rfl rfl rfl (J_bin rfl (Opd.tmp rfl) (Opd.tmp rfl) B_sub) ?_
    refine RegL.pure (p := (pEq (.int .i64 (w64 (n_1 - (w64 ((0 : Int) - (0 : Int)))))))) rfl rfl rfl (J_bin rfl (Opd.tmp rfl) (Opd.tmp rfl) B_sub) ?_
    refine RegL.pure (p := (pEq (.int .i64 (w64 (n_1 - (w64 ((0 : Int) - (0 : Int)))))))) rfl rfl rfl (J_assign rfl (Opd.tmp rfl)) ?_
    refine RegL.nil ?_
    refine Ct.then_tr ?_
    refine Tr.weak (Γ' := [(0, (pEq (.slice none 0 0))), (1, (pEq (.int .i64 (w64 (n_1 - (w64 ((0 : Int) - (0 : Int))))))))]) ⟨rfl, rfl, trivial⟩ ?_
    refine Tr.seq ?_
    refine Tr.region ?_
    refine RegL.pure (p := (pEq (.int .i64 (w64 (n_1 - (w64 ((0 : Int) - (0 : Int)))))))) rfl rfl rfl (J_move rfl (Opd.tmp rfl)) ?_
    refine RegL.pure (p := (pEq (.bool (decide ((0 : Int) < (w64 (n_1 - (w64 ((0 : Int) - (0 : Int)))))))))) rfl rfl rfl (J_bin rfl (Opd.tmp rfl) Opd.con B_gtr) ?_
    refine RegL.nil ?_
    refine Ct.then_tr ?_
    refine Tr.weak (Γ' := [(0, (pEq (.slice none 0 0))), (1, (pEq (.int .i64 (w64 (n_1 - (w64 ((0 : Int) - (0 : Int)))))))), (16, (pEq (.bool (decide ((0 : Int) < (w64 (n_1 - (w64 ((0 : Int) - (0 : Int))))))))))]) ⟨rfl, rfl, rfl, trivial⟩ ?_
    refine Tr.re (Ω2 := [oSl 2 1 (cK .i64) none 0 0 ([] : (List Int))]) (fun h => SatO.nilRow h) ?_
    replace h := bind_some h; obtain ⟨x4, hx4, h⟩ := h
    refine Tr.cut (γ := G3) (Γm := fun g => [(0, (pEq (.slice g.1 g.2.1 g.2.2)))]) (Ωm := fun g => [oSl 2 1 (cK .i64) g.1 g.2.1 g.2.2 x4]) ?_ (fun g10 => ?_)
    · clear h
      have h := hx4
      clear hx4
      refine Tr.cond (Opd.tmp rfl) (fun hc => ?_) (fun hc => ?_)
      · replace h := bif_t hc h
        refine Tr.region ?_
        refine RegL.pure (p := (pEq (.slice none 0 0))) rfl rfl rfl (J_move rfl (Opd.tmp rfl)) ?_
        refine RegL.pure (p := (pEq (.slice none 0 0))) rfl rfl rfl (J_move rfl (Opd.tmp rfl)) ?_
        refine RegL.pure (p := (pEq (.int .i64 ((0 : Nat) : Int)))) rfl rfl rfl (J_cap rfl Try.underlying25 (Opd.tmp rfl)) ?_
        refine RegL.pure (p := (pEq (.slice none 0 0))) rfl rfl rfl (J_nilCut rfl Try.underlying25 sz2 (Opd.tmp rfl) (Opd.tmp rfl)) ?_
        refine RegL.pure (p := (pEq (.int .i64 (w64 (n_1 - (w64 ((0 : Int) - (0 : Int)))))))) rfl rfl rfl (J_move rfl (Opd.tmp rfl)) ?_
        replace h := bind_some h; obtain ⟨x5, hx5, h⟩ := h
        refine RegL.step (γ := Option Addr × Nat) (p := fun g => pEq (.slice g.1 ((w64 (n_1 - (w64 ((0 : Int) - (0 : Int)))))).toNat g.2)) (Ω' := fun g => [oSl 2 1 (cK .i64) g.1 ((w64 (n_1 - (w64 ((0 : Int) - (0 : Int)))))).toNat g.2 x5, oSl 2 1 (cK .i64) none 0 0 ([] : (List Int))]) rfl rfl rfl (M_appendZ rfl Try.underlying25 Try.underlying3 el2 (by decide) (Opd.tmp rfl) (Opd.tmp rfl) hx5) fun g6 => ?_
        refine RegL.pure (p := (pEq (.slice none 0 0))) rfl rfl rfl (J_move rfl (Opd.tmp rfl)) ?_
        refine RegL.pureW (p := (pEq (.int .i64 (([] : (List Int)).length : Int)))) rfl rfl rfl (W_rowLen (j := 1) rfl Try.underlying25 (Opd.tmp rfl) rfl) ?_
        replace h := bind_some h; obtain ⟨u8, hu8, h⟩ := h
        refine RegL.step (γ := Unit) (p := fun _ => pEq (.slice g6.1 ((([] : (List Int)).length : Int)).toNat g6.2)) (Ω' := fun _ => [oSl 2 1 (cK .i64) g6.1 ((([] : (List Int)).length : Int)).toNat g6.2 (x5.take ((([] : (List Int)).length : Int)).toNat), oSl 2 1 (cK .i64) none 0 0 ([] : (List Int))]) rfl rfl rfl (M_rowCut rfl Try.underlying25 sz2 (Opd.tmp rfl) SOpd.none (SOpd.some (Opd.tmp rfl)) hu8) fun g9 => ?_
        refine RegL.pure (p := (pEq (.slice g6.1 ((([] : (List Int)).length : Int)).toNat g6.2))) rfl rfl rfl (J_assign rfl (Opd.tmp rfl)) ?_
        refine RegL.nil ?_
        refine Ct.re (Ω2 := [oSl 2 1 (cK .i64) none 0 0 ([] : (List Int)), oSl 2 1 (cK .i64) g6.1 ((([] : (List Int)).length : Int)).toNat g6.2 (x5.take ((([] : (List Int)).length : Int)).toNat)]) (fun h => SatO.pick 1 h) ?_
        refine Ct.re (Ω2 := [oSl 2 1 (cK .i64) g6.1 ((([] : (List Int)).length : Int)).toNat g6.2 (x5.take ((([] : (List Int)).length : Int)).toNat)]) (fun h => SatO.rest h) ?_
        replace h := Option.some.inj h; subst h
        exact Ct.mid (g6.1, ((([] : (List Int)).length : Int)).toNat, g6.2) rfl ⟨rfl, trivial⟩
      · replace h := bif_f hc h
        refine Tr.skip ?_
        replace h := Option.some.inj h; subst h
        exact Ct.mid (none, 0, 0) rfl ⟨rfl, trivial⟩
    · clear hx4
      refine Ct.then_tr ?_
      refine Tr.weak (Γ' := [(0, (pEq (.slice g10.1 g10.2.1 g10.2.2)))]) ⟨rfl, trivial⟩ ?_
      refine Tr.seq ?_
      refine Tr.region ?_
      refine RegL.pure (p := (pEq (.slice g10.1 g10.2.1 g10.2.2))) rfl rfl rfl (J_move rfl (Opd.tmp rfl)) ?_
      refine RegL.pure (p := (pEq (.slice g10.1 g10.2.1 g10.2.2))) rfl rfl rfl (J_assign rfl (Opd.tmp rfl)) ?_
      refine RegL.nil ?_
      refine Ct.then_tr ?_
      refine Tr.weak (Γ' := [(4, (pEq (.slice g10.1 g10.2.1 g10.2.2)))]) ⟨rfl, trivial⟩ ?_
      refine Tr.ret ?_
      replace h := Option.some.inj h; subst h
      exact Ct.retH1 (Ωx := []) (g10.1, g10.2.1, g10.2.2) rfl (RvOk.tmp rfl) rfl

theorem o_slices_Concat_int64_int64 {slices_0 : (List (List Int))}  {r : (List Int)} (h : m_slices_Concat_int64_int64 slices_0 = some r) : CallH Try.prog 84 [(pSl 1 (cSl 1 (cK .i64)) slices_0)] [] (fun g : G3 => (pEq (.slice g.1 g.2.1 g.2.2))) (fun g : G3 => [oSl 2 1 (cK .i64) g.1 g.2.1 g.2.2 r]) := by
  unfold m_slices_Concat_int64_int64 at h
  refine CallH.enter Try.func84 rfl Try.ntmps84 rfl fun W I0 H => ?_
  refine Tr.weak (Γ' := [(0, (pSl 1 (cSl 1 (cK .i64)) slices_0))]) ⟨rfl, trivial⟩ ?_
  refine Tr.seq ?_
  refine Tr.region ?_
  refine RegL.pure (p := (pEq (.slice none 0 0))) rfl rfl rfl (J_assign rfl Opd.con) ?_
  refine RegL.nil ?_
  refine Ct.then_tr ?_
  refine Tr.weak (Γ' := [(0, (pSl 1 (cSl 1 (cK .i64)) slices_0))]) ⟨rfl, trivial⟩ ?_
  refine Tr.seq ?_
  refine Tr.region ?_
  refine RegL.pure (p := (pEq (.int .i64 (0 : Int)))) rfl rfl rfl (J_assign rfl Opd.con) ?_
  refine RegL.nil ?_
  refine Ct.then_tr ?_
  refine Tr.weak (Γ' := [(0, (pSl 1 (cSl 1 (cK .i64)) slices_0)), (3, (pEq (.int .i64 (0 : Int))))]) ⟨rfl, rfl, trivial⟩ ?_
  refine Tr.seq ?_
  refine Tr.seq ?_
  refine Tr.region ?_
  refine RegL.pure (p := (pSl 1 (cSl 1 (cK .i64)) slices_0)) rfl rfl rfl (J_move rfl (Opd.tmp rfl)) ?_
  refine RegL.pure (p := (pEq (.int .i64 (slices_0.length : Int)))) rfl rfl rfl (J_len rfl Try.underlying22 (Opd.tmp rfl) rfl) ?_
  refine RegL.pure (p := (pEq (.int .i64 (0 : Int)))) rfl rfl rfl (J_move rfl Opd.con) ?_
  refine RegL.nil ?_
  refine Ct.then_tr ?_
  refine Tr.weak (Γ' := [(0, (pSl 1 (cSl 1 (cK .i64)) slices_0)), (3, (pEq (.int .i64 (0 : Int)))), (9, (pSl 1 (cSl 1 (cK .i64)) slices_0)), (10, (pEq (.int .i64 (slices_0.length : Int)))), (11, (pEq (.int .i64 (0 : Int))))]) ⟨rfl, rfl, rfl, rfl, rfl, trivial⟩ ?_
  replace h := bind_some h; obtain ⟨x1, hx1, h⟩ := h
  refine Tr.cut (γ := Unit) (Γm := fun g => [(0, (pSl 1 (cSl 1 (cK .i64)) slices_0)), (3, (pEq (.int .i64 x1)))]) (Ωm := fun g => []) ?_ (fun g9 => ?_)
  · clear h
    have h := hx1
    clear hx1
    refine Tr.block ?_
    refine Tr.weak (Γ' := [(0, (pSl 1 (cSl 1 (cK .i64)) slices_0)), (3, (pEq (.int .i64 (0 : Int)))), (9, (pSl 1 (cSl 1 (cK .i64)) slices_0)), (10, (pEq (.int .i64 (slices_0.length : Int)))), (11, (pEq (.int .i64 (0 : Int))))]) ⟨rfl, rfl, rfl, rfl, rfl, trivial⟩ ?_
    refine Tr.loop (γ := Unit) (σ := (Int × Int)) (Γσ := fun s g => [(0, (pSl 1 (cSl 1 (cK .i64)) slices_0)), (3, (pEq (.int .i64 s.1))), (9, (pSl 1 (cSl 1 (cK .i64)) slices_0)), (10, (pEq (.int .i64 (slices_0.length : Int)))), (11, (pEq (.int .i64 s.2)))]) (Ωσ := fun s g => []) (g := ()) h ?_
    clear h
    rintro ⟨v3, v4⟩ g5 t h
    replace h : m_slices_Concat_int64_int64_B2 slices_0 v3 v4 = some t := h
    unfold m_slices_Concat_int64_int64_B2 at h
    refine Tr.weakO (Γ' := [(0, (pSl 1 (cSl 1 (cK .i64)) slices_0)), (3, (pEq (.int .i64 v3))), (9, (pSl 1 (cSl 1 (cK .i64)) slices_0)), (10, (pEq (.int .i64 (slices_0.length : Int)))), (11, (pEq (.int .i64 v4)))]) (Ω' := []) rfl ⟨rfl, rfl, rfl, rfl, rfl, trivial⟩ ?_
    refine Tr.seq ?_
    refine Tr.region ?_
    refine RegL.pure (p := (pEq (.bool (decide (v4 < (slices_0.length : Int)))))) rfl rfl rfl (J_bin rfl (Opd.tmp rfl) (Opd.tmp rfl) B_lss) ?_
    refine RegL.nil ?_
    refine Ct.then_tr ?_
    refine Tr.weak (Γ' := [(0, (pSl 1 (cSl 1 (cK .i64)) slices_0)), (3, (pEq (.int .i64 v3))), (9, (pSl 1 (cSl 1 (cK .i64)) slices_0)), (10, (pEq (.int .i64 (slices_0.length : Int)))), (11, (pEq (.int .i64 v4))), (12, (pEq (.bool (decide (v4 < (slices_0.length : Int))))))]) ⟨rfl, rfl, rfl, rfl, rfl, rfl, trivial⟩ ?_
    refine Tr.seq ?_
    refine Tr.cond (Opd.tmp rfl) (fun hc => ?_) (fun hc => ?_)
    · replace h := bif_t hc h
      refine Tr.skip ?_
      refine Ct.then_tr ?_
      refine Tr.weak (Γ' := [(0, (pSl 1 (cSl 1 (cK .i64)) slices_0)), (3, (pEq (.int .i64 v3))), (9, (pSl 1 (cSl 1 (cK .i64)) slices_0)), (10, (pEq (.int .i64 (slices_0.length : Int)))), (11, (pEq (.int .i64 v4)))]) ⟨rfl, rfl, rfl, rfl, rfl, trivial⟩ ?_
      refine Tr.seq ?_
      refine Tr.block ?_
      refine Tr.seq ?_
      refine Tr.region ?_
      replace h := bind_some h; obtain ⟨x6, hx6, h⟩ := h
      refine RegL.pure (p := (pPtr ((cSl 1 (cK .i64)) x6))) rfl rfl rfl (J_idx rfl Try.underlying22 sz25 (Opd.tmp rfl) (Opd.tmp rfl) hx6) ?_
      refine RegL.pure (p := (pSl 1 (cK .i64) x6)) rfl rfl rfl (J_load rfl Try.isAgg25 (Opd.tmp rfl)) ?_
      refine RegL.pure (p := (pSl 1 (cK .i64) x6)) rfl rfl rfl (J_assign rfl (Opd.tmp rfl)) ?_
      refine RegL.nil ?_
      refine Ct.then_tr ?_
      refine Tr.weak (Γ' := [(0, (pSl 1 (cSl 1 (cK .i64)) slices_0)), (3, (pEq (.int .i64 v3))), (5, (pSl 1 (cK .i64) x6)), (9, (pSl 1 (cSl 1 (cK .i64)) slices_0)), (10, (pEq (.int .i64 (slices_0.length : Int)))), (11, (pEq (.int .i64 v4)))]) ⟨rfl, rfl, rfl, rfl, rfl, rfl, trivial⟩ ?_
      refine Tr.seq ?_
      refine Tr.region ?_
      refine RegL.pure (p := (pEq (.int .i64 v3))) rfl rfl rfl (J_move rfl (Opd.tmp rfl)) ?_
      refine RegL.pure (p := (pSl 1 (cK .i64) x6)) rfl rfl rfl (J_move rfl (Opd.tmp rfl)) ?_
      refine RegL.pure (p := (pEq (.int .i64 (x6.length : Int)))) rfl rfl rfl (J_len rfl Try.underlying25 (Opd.tmp rfl) rfl) ?_
      refine RegL.pure (p := (pEq (.int .i64 (w64 (v3 + (x6.length : Int)))))) rfl rfl rfl (J_bin rfl (Opd.tmp rfl) (Opd.tmp rfl) B_add) ?_
      refine RegL.pure (p := (pEq (.int .i64 (w64 (v3 + (x6.length : Int)))))) rfl rfl rfl (J_assign rfl (Opd.tmp rfl)) ?_
      refine RegL.nil ?_
      refine Ct.then_tr ?_
      refine Tr.weak (Γ' := [(0, (pSl 1 (cSl 1 (cK .i64)) slices_0)), (3, (pEq (.int .i64 (w64 (v3 + (x6.length : Int)))))), (9, (pSl 1 (cSl 1 (cK .i64)) slices_0)), (10, (pEq (.int .i64 (slices_0.length : Int)))), (11, (pEq (.int .i64 v4)))]) ⟨rfl, rfl, rfl, rfl, rfl, trivial⟩ ?_
      refine Tr.seq ?_
      refine Tr.region ?_
      refine RegL.pure (p := (pEq (.int .i64 (w64 (v3 + (x6.length : Int)))))) rfl rfl rfl (J_move rfl (Opd.tmp rfl)) ?_
      refine RegL.pure (p := (pEq (.bool (decide ((w64 (v3 + (x6.length : Int))) < (0 : Int)))))) rfl rfl rfl (J_bin rfl (Opd.tmp rfl) Opd.con B_lss) ?_
      refine RegL.nil ?_
      refine Ct.then_tr ?_
      refine Tr.weak (Γ' := [(0, (pSl 1 (cSl 1 (cK .i64)) slices_0)), (3, (pEq (.int .i64 (w64 (v3 + (x6.length : Int)))))), (9, (pSl 1 (cSl 1 (cK .i64)) slices_0)), (10, (pEq (.int .i64 (slices_0.length : Int)))), (11, (pEq (.int .i64 v4))), (20, (pEq (.bool (decide ((w64 (v3 + (x6.length : Int))) < (0 : Int))))))]) ⟨rfl, rfl, rfl, rfl, rfl, rfl, trivial⟩ ?_
      replace h := bind_some h; obtain ⟨x7, hx7, h⟩ := h
      refine Tr.cut (γ := Unit) (Γm := fun g => [(0, (pSl 1 (cSl 1 (cK .i64)) slices_0)), (3, (pEq (.int .i64 (w64 (v3 + (x6.length : Int)))))), (9, (pSl 1 (cSl 1 (cK .i64)) slices_0)), (10, (pEq (.int .i64 (slices_0.length : Int)))), (11, (pEq (.int .i64 v4)))]) (Ωm := fun g => []) ?_ (fun g8 => ?_)
      · clear h
        have h := hx7
        clear hx7
        refine Tr.cond (Opd.tmp rfl) (fun hc => ?_) (fun hc => ?_)
        · replace h := bif_t hc h
          refine Tr.region ?_
          exact absurd h (by simp)
        · replace h := bif_f hc h
          refine Tr.skip ?_
          replace h := Option.some.inj h; subst h
          exact Ct.mid () rfl ⟨rfl, rfl, rfl, rfl, rfl, trivial⟩
      · clear hx7
        refine Ct.blk_normal ?_
        refine Ct.then_tr ?_
        refine Tr.weak (Γ' := [(0, (pSl 1 (cSl 1 (cK .i64)) slices_0)), (3, (pEq (.int .i64 (w64 (v3 + (x6.length : Int)))))), (9, (pSl 1 (cSl 1 (cK .i64)) slices_0)), (10, (pEq (.int .i64 (slices_0.length : Int)))), (11, (pEq (.int .i64 v4)))]) ⟨rfl, rfl, rfl, rfl, rfl, trivial⟩ ?_
        refine Tr.region ?_
        refine RegL.pure (p := (pEq (.int .i64 (w64 (v4 + (1 : Int)))))) rfl rfl rfl (J_bin rfl (Opd.tmp rfl) Opd.con B_add) ?_
        refine RegL.pure (p := (pEq (.int .i64 (w64 (v4 + (1 : Int)))))) rfl rfl rfl (J_move rfl (Opd.tmp rfl)) ?_
        refine RegL.nil ?_
        replace h := Option.some.inj h; subst h
        exact Ct.again () rfl ⟨rfl, rfl, rfl, rfl, rfl, trivial⟩
    · replace h := bif_f hc h
      refine Tr.exit ?_
      refine Ct.then_exit ?_
      replace h := map_some h; obtain ⟨r1, h, rfl⟩ := h
      refine Ct.out_exit fun e => ?_
      subst e
      refine Ct.blk_exit ?_
      replace h := Option.some.inj h; subst h
      exact Ct.mid () rfl ⟨rfl, rfl, trivial⟩
  · clear hx1
    refine Ct.then_tr ?_
    refine Tr.weak (Γ' := [(0, (pSl 1 (cSl 1 (cK .i64)) slices_0)), (3, (pEq (.int .i64 x1)))]) ⟨rfl, rfl, trivial⟩ ?_
    refine Tr.seq ?_
    refine Tr.region ?_
    refine RegL.pure (p := (pEq (.int .i64 x1))) rfl rfl rfl (J_move rfl (Opd.tmp rfl)) ?_
    replace h := bind_some h; obtain ⟨x10, hx10, h⟩ := h
    refine RegL.step (γ := G3) (p := fun g => (pEq (.slice g.1 g.2.1 g.2.2))) (Ω' := fun g => [oSl 2 1 (cK .i64) g.1 g.2.1 g.2.2 x10]) rfl rfl rfl (M_callH (Ωi := []) rfl Try.call110 (o_slices_Grow_int64_int64 hx10) (Opds.cons Opd.con (Opds.cons (Opd.tmp rfl) Opds.nil))) fun g11 => ?_
    refine RegL.pure (p := (pEq (.slice g11.1 g11.2.1 g11.2.2))) rfl rfl rfl (J_assign rfl (Opd.tmp rfl)) ?_
    refine RegL.nil ?_
    refine Ct.then_tr ?_
    refine Tr.weak (Γ' := [(0, (pSl 1 (cSl 1 (cK .i64)) slices_0)), (6, (pEq (.slice g11.1 g11.2.1 g11.2.2)))]) ⟨rfl, rfl, trivial⟩ ?_
    refine Tr.seq ?_
    refine Tr.seq ?_
    refine Tr.region ?_
    refine RegL.pure (p := (pSl 1 (cSl 1 (cK .i64)) slices_0)) rfl rfl rfl (J_move rfl (Opd.tmp rfl)) ?_
    refine RegL.pure (p := (pEq (.int .i64 (slices_0.length : Int)))) rfl rfl rfl (J_len rfl Try.underlying22 (Opd.tmp rfl) rfl) ?_
    refine RegL.pure (p := (pEq (.int .i64 (0 : Int)))) rfl rfl rfl (J_move rfl Opd.con) ?_
    refine RegL.nil ?_
    refine Ct.then_tr ?_
    refine Tr.weak (Γ' := [(6, (pEq (.slice g11.1 g11.2.1 g11.2.2))), (25, (pSl 1 (cSl 1 (cK .i64)) slices_0)), (26, (pEq (.int .i64 (slices_0.length : Int)))), (27, (pEq (.int .i64 (0 : Int))))]) ⟨rfl, rfl, rfl, rfl, trivial⟩ ?_
    replace h := bind_some h; obtain ⟨x13, hx13, h⟩ := h
    refine Tr.cut (γ := G3) (Γm := fun g => [(6, (pEq (.slice g.1 g.2.1 g.2.2)))]) (Ωm := fun g => [oSl 2 1 (cK .i64) g.1 g.2.1 g.2.2 x13]) ?_ (fun g21 => ?_)
    · clear h
      have h := hx13
      clear hx13
      refine Tr.block ?_
      refine Tr.weak (Γ' := [(6, (pEq (.slice g11.1 g11.2.1 g11.2.2))), (25, (pSl 1 (cSl 1 (cK .i64)) slices_0)), (26, (pEq (.int .i64 (slices_0.length : Int)))), (27, (pEq (.int .i64 (0 : Int))))]) ⟨rfl, rfl, rfl, rfl, trivial⟩ ?_
      refine Tr.loop (γ := G3) (σ := (Int × (List Int))) (Γσ := fun s g => [(6, (pEq (.slice g.1 g.2.1 g.2.2))), (25, (pSl 1 (cSl 1 (cK .i64)) slices_0)), (26, (pEq (.int .i64 (slices_0.length : Int)))), (27, (pEq (.int .i64 s.1)))]) (Ωσ := fun s g => [oSl 2 1 (cK .i64) g.1 g.2.1 g.2.2 s.2]) (g := (g11.1, g11.2.1, g11.2.2)) h ?_
      clear h
      rintro ⟨v15, v16⟩ g17 t h
      replace h : m_slices_Concat_int64_int64_B14 slices_0 v15 v16 = some t := h
      unfold m_slices_Concat_int64_int64_B14 at h
      refine Tr.weakO (Γ' := [(6, (pEq (.slice g17.1 g17.2.1 g17.2.2))), (25, (pSl 1 (cSl 1 (cK .i64)) slices_0)), (26, (pEq (.int .i64 (slices_0.length : Int)))), (27, (pEq (.int .i64 v15)))]) (Ω' := [oSl 2 1 (cK .i64) g17.1 g17.2.1 g17.2.2 v16]) rfl ⟨rfl, rfl, rfl, rfl, trivial⟩ ?_
      refine Tr.seq ?_
      refine Tr.region ?_
      refine RegL.pure (p := (pEq (.bool (decide (v15 < (slices_0.length : Int)))))) rfl rfl rfl (J_bin rfl (Opd.tmp rfl) (Opd.tmp rfl) B_lss) ?_
      refine RegL.nil ?_
      refine Ct.then_tr ?_
      refine Tr.weak (Γ' := [(6, (pEq (.slice g17.1 g17.2.1 g17.2.2))), (25, (pSl 1 (cSl 1 (cK .i64)) slices_0)), (26, (pEq (.int .i64 (slices_0.length : Int)))), (27, (pEq (.int .i64 v15))), (28, (pEq (.bool (decide (v15 < (slices_0.length : Int))))))]) ⟨rfl, rfl, rfl, rfl, rfl, trivial⟩ ?_
      refine Tr.seq ?_
      refine Tr.cond (Opd.tmp rfl) (fun hc => ?_) (fun hc => ?_)
      · replace h := bif_t hc h
        refine Tr.skip ?_
        refine Ct.then_tr ?_
        refine Tr.weak (Γ' := [(6, (pEq (.slice g17.1 g17.2.1 g17.2.2))), (25, (pSl 1 (cSl 1 (cK .i64)) slices_0)), (26, (pEq (.int .i64 (slices_0.length : Int)))), (27, (pEq (.int .i64 v15)))]) ⟨rfl, rfl, rfl, rfl, trivial⟩ ?_
        refine Tr.seq ?_
        refine Tr.block ?_
        refine Tr.seq ?_
        refine Tr.region ?_
        replace h := bind_some h; obtain ⟨x18, hx18, h⟩ := h
        refine RegL.pure (p := (pPtr ((cSl 1 (cK .i64)) x18))) rfl rfl rfl (J_idx rfl Try.underlying22 sz25 (Opd.tmp rfl) (Opd.tmp rfl) hx18) ?_
        refine RegL.pure (p := (pSl 1 (cK .i64) x18)) rfl rfl rfl (J_load rfl Try.isAgg25 (Opd.tmp rfl)) ?_
        refine RegL.pure (p := (pSl 1 (cK .i64) x18)) rfl rfl rfl (J_assign rfl (Opd.tmp rfl)) ?_
        refine RegL.nil ?_
        refine Ct.then_tr ?_
        refine Tr.weak (Γ' := [(6, (pEq (.slice g17.1 g17.2.1 g17.2.2))), (8, (pSl 1 (cK .i64) x18)), (25, (pSl 1 (cSl 1 (cK .i64)) slices_0)), (26, (pEq (.int .i64 (slices_0.length : Int)))), (27, (pEq (.int .i64 v15)))]) ⟨rfl, rfl, rfl, rfl, rfl, trivial⟩ ?_
        refine Tr.region ?_
        refine RegL.pure (p := (pEq (.slice g17.1 g17.2.1 g17.2.2))) rfl rfl rfl (J_move rfl (Opd.tmp rfl)) ?_
        refine RegL.pure (p := (pSl 1 (cK .i64) x18)) rfl rfl rfl (J_move rfl (Opd.tmp rfl)) ?_
        replace h := bind_some h; obtain ⟨x19, hx19, h⟩ := h
        refine RegL.step (γ := Option Addr × Nat) (p := fun g => pEq (.slice g.1 x19.length g.2)) (Ω' := fun g => [oSl 2 1 (cK .i64) g.1 x19.length g.2 x19]) rfl rfl rfl (M_appendI rfl Try.underlying25 el2 (Opd.tmp rfl) (Opd.tmp rfl) hx19) fun g20 => ?_
        refine RegL.pure (p := (pEq (.slice g20.1 x19.length g20.2))) rfl rfl rfl (J_assign rfl (Opd.tmp rfl)) ?_
        refine RegL.nil ?_
        refine Ct.blk_normal ?_
        refine Ct.then_tr ?_
        refine Tr.weak (Γ' := [(6, (pEq (.slice g20.1 x19.length g20.2))), (25, (pSl 1 (cSl 1 (cK .i64)) slices_0)), (26, (pEq (.int .i64 (slices_0.length : Int)))), (27, (pEq (.int .i64 v15)))]) ⟨rfl, rfl, rfl, rfl, trivial⟩ ?_
        refine Tr.region ?_
        refine RegL.pure (p := (pEq (.int .i64 (w64 (v15 + (1 : Int)))))) rfl rfl rfl (J_bin rfl (Opd.tmp rfl) Opd.con B_add) ?_
        refine RegL.pure (p := (pEq (.int .i64 (w64 (v15 + (1 : Int)))))) rfl rfl rfl (J_move rfl (Opd.tmp rfl)) ?_
        refine RegL.nil ?_
        replace h := Option.some.inj h; subst h
        exact Ct.again (g20.1, x19.length, g20.2) rfl ⟨rfl, rfl, rfl, rfl, trivial⟩
      · replace h := bif_f hc h
        refine Tr.exit ?_
        refine Ct.then_exit ?_
        replace h := map_some h; obtain ⟨r1, h, rfl⟩ := h
        refine Ct.out_exit fun e => ?_
        subst e
        refine Ct.blk_exit ?_
        replace h := Option.some.inj h; subst h
        exact Ct.mid (g17.1, g17.2.1, g17.2.2) rfl ⟨rfl, trivial⟩
    · clear hx13
      refine Ct.then_tr ?_
      refine Tr.weak (Γ' := [(6, (pEq (.slice g21.1 g21.2.1 g21.2.2)))]) ⟨rfl, trivial⟩ ?_
      refine Tr.seq ?_
      refine Tr.region ?_
      refine RegL.pure (p := (pEq (.slice g21.1 g21.2.1 g21.2.2))) rfl rfl rfl (J_move rfl (Opd.tmp rfl)) ?_
      refine RegL.pure (p := (pEq (.slice g21.1 g21.2.1 g21.2.2))) rfl rfl rfl (J_assign rfl (Opd.tmp rfl)) ?_
      refine RegL.nil ?_
      refine Ct.then_tr ?_
      refine Tr.weak (Γ' := [(2, (pEq (.slice g21.1 g21.2.1 g21.2.2)))]) ⟨rfl, trivial⟩ ?_
      refine Tr.ret ?_
      replace h := Option.some.inj h; subst h
      exact Ct.retH1 (Ωx := []) (g21.1, g21.2.1, g21.2.2) rfl (RvOk.tmp rfl) rfl

theorem c_slices_Concat_int64_int64 {slices_0 : (List (List Int))} {r : (List Int)} (h : m_slices_Concat_int64_int64 slices_0 = some r) : CallJ Try.prog 84 [(pSl 1 (cSl 1 (cK .i64)) slices_0)] (pSl 1 (cK .i64) r) :=
  CallH.frozen (o_slices_Concat_int64_int64 h) (fun g => (Conv.row (f := (cK .i64)) 0 (fun _ => rfl) rfl))

theorem c_slices_Max_int64_int64 {x_0 : (List Int)} {r : Int} (h : m_slices_Max_int64_int64 x_0 = some r) : CallJ Try.prog 85 [(pSl 1 (cK .i64) x_0)] (pEq (.int .i64 r)) := by
  unfold m_slices_Max_int64_int64 at h
  refine CallJ.enterH Try.func85 rfl Try.ntmps85 rfl fun W I0 H => ?_
  refine Tr.weak (Γ' := [(0, (pSl 1 (cK .i64) x_0))]) ⟨rfl, trivial⟩ ?_
  refine Tr.seq ?_
  refine Tr.region ?_
  refine RegL.pure (p := (pEq (.int .i64 (0 : Int)))) rfl rfl rfl (J_assign rfl Opd.con) ?_
  refine RegL.nil ?_
  refine Ct.then_tr ?_
  refine Tr.weak (Γ' := [(0, (pSl 1 (cK .i64) x_0))]) ⟨rfl, trivial⟩ ?_
  refine Tr.seq ?_
  refine Tr.seq ?_
  refine Tr.region ?_
  refine RegL.pure (p := (pSl 1 (cK .i64) x_0)) rfl rfl rfl (J_move rfl (Opd.tmp rfl)) ?_
  refine RegL.pure (p := (pEq (.int .i64 (x_0.length : Int)))) rfl rfl rfl (J_len rfl Try.underlying25 (Opd.tmp rfl) rfl) ?_
  refine RegL.pure (p := (pEq (.bool (decide ((x_0.length : Int) < (1 : Int)))))) rfl rfl rfl (J_bin rfl (Opd.tmp rfl) Opd.con B_lss) ?_
  refine RegL.nil ?_
  refine Ct.then_tr ?_
  refine Tr.weak (Γ' := [(0, (pSl 1 (cK .i64) x_0)), (7, (pEq (.bool (decide ((x_0.length : Int) < (1 : Int))))))]) ⟨rfl, rfl, trivial⟩ ?_
  replace h := bind_some h; obtain ⟨x1, hx1, h⟩ := h
  refine Tr.cut (γ := Unit) (Γm := fun g => [(0, (pSl 1 (cK .i64) x_0))]) (Ωm := fun g => []) ?_ (fun g2 => ?_)
  · clear h
    have h := hx1
    clear hx1
    refine Tr.cond (Opd.tmp rfl) (fun hc => ?_) (fun hc => ?_)
    · replace h := bif_t hc h
      refine Tr.region ?_
      exact absurd h (by simp)
    · replace h := bif_f hc h
      refine Tr.skip ?_
      replace h := Option.some.inj h; subst h
      exact Ct.mid () rfl ⟨rfl, trivial⟩
  · clear hx1
    refine Ct.then_tr ?_
    refine Tr.weak (Γ' := [(0, (pSl 1 (cK .i64) x_0))]) ⟨rfl, trivial⟩ ?_
    refine Tr.seq ?_
    refine Tr.region ?_
    refine RegL.pure (p := (pSl 1 (cK .i64) x_0)) rfl rfl rfl (J_move rfl (Opd.tmp rfl)) ?_
    replace h := bind_some h; obtain ⟨x3, hx3, h⟩ := h
    refine RegL.pure (p := (pPtr ((cK .i64) x3))) rfl rfl rfl (J_idx rfl Try.underlying25 sz2 (Opd.tmp rfl) Opd.con hx3) ?_
    refine RegL.pure (p := (pEq (.int .i64 x3))) rfl rfl rfl (J_load rfl Try.isAgg2 (Opd.tmp rfl)) ?_
    refine RegL.pure (p := (pEq (.int .i64 x3))) rfl rfl rfl (J_assign rfl (Opd.tmp rfl)) ?_
    refine RegL.nil ?_
    refine Ct.then_tr ?_
    refine Tr.weak (Γ' := [(0, (pSl 1 (cK .i64) x_0)), (3, (pEq (.int .i64 x3)))]) ⟨rfl, rfl, trivial⟩ ?_
    refine Tr.seq ?_
    refine Tr.seq ?_
    refine Tr.region ?_
    refine RegL.pure (p := (pEq (.int .i64 (1 : Int)))) rfl rfl rfl (J_assign rfl Opd.con) ?_
    refine RegL.nil ?_
    refine Ct.then_tr ?_
    refine Tr.weak (Γ' := [(0, (pSl 1 (cK .i64) x_0)), (3, (pEq (.int .i64 x3))), (4, (pEq (.int .i64 (1 : Int))))]) ⟨rfl, rfl, rfl, trivial⟩ ?_
    replace h := bind_some h; obtain ⟨x4, hx4, h⟩ := h
    refine Tr.cut (γ := Unit) (Γm := fun g => [(3, (pEq (.int .i64 x4)))]) (Ωm := fun g => []) ?_ (fun g10 => ?_)
    · clear h
      have h := hx4
      clear hx4
      refine Tr.block ?_
      refine Tr.weak (Γ' := [(0, (pSl 1 (cK .i64) x_0)), (3, (pEq (.int .i64 x3))), (4, (pEq (.int .i64 (1 : Int))))]) ⟨rfl, rfl, rfl, trivial⟩ ?_
      refine Tr.loop (γ := Unit) (σ := (Int × Int)) (Γσ := fun s g => [(0, (pSl 1 (cK .i64) x_0)), (3, (pEq (.int .i64 s.1))), (4, (pEq (.int .i64 s.2)))]) (Ωσ := fun s g => []) (g := ()) h ?_
      clear h
      rintro ⟨v6, v7⟩ g8 t h
      replace h : m_slices_Max_int64_int64_B5 x_0 v6 v7 = some t := h
      unfold m_slices_Max_int64_int64_B5 at h
      refine Tr.weakO (Γ' := [(0, (pSl 1 (cK .i64) x_0)), (3, (pEq (.int .i64 v6))), (4, (pEq (.int .i64 v7)))]) (Ω' := []) rfl ⟨rfl, rfl, rfl, trivial⟩ ?_
      refine Tr.seq ?_
      refine Tr.seq ?_
      refine Tr.region ?_
      refine RegL.pure (p := (pEq (.int .i64 v7))) rfl rfl rfl (J_move rfl (Opd.tmp rfl)) ?_
      refine RegL.pure (p := (pSl 1 (cK .i64) x_0)) rfl rfl rfl (J_move rfl (Opd.tmp rfl)) ?_
      refine RegL.pure (p := (pEq (.int .i64 (x_0.length : Int)))) rfl rfl rfl (J_len rfl Try.underlying25 (Opd.tmp rfl) rfl) ?_
      refine RegL.pure (p := (pEq (.bool (decide (v7 < (x_0.length : Int)))))) rfl rfl rfl (J_bin rfl (Opd.tmp rfl) (Opd.tmp rfl) B_lss) ?_
      refine RegL.nil ?_
      refine Ct.then_tr ?_
      refine Tr.weak (Γ' := [(0, (pSl 1 (cK .i64) x_0)), (3, (pEq (.int .i64 v6))), (4, (pEq (.int .i64 v7))), (15, (pEq (.bool (decide (v7 < (x_0.length : Int))))))]) ⟨rfl, rfl, rfl, rfl, trivial⟩ ?_
      refine Tr.cond (Opd.tmp rfl) (fun hc => ?_) (fun hc => ?_)
      · replace h := bif_t hc h
        refine Tr.skip ?_
        refine Ct.then_tr ?_
        refine Tr.weak (Γ' := [(0, (pSl 1 (cK .i64) x_0)), (3, (pEq (.int .i64 v6))), (4, (pEq (.int .i64 v7)))]) ⟨rfl, rfl, rfl, trivial⟩ ?_
        refine Tr.seq ?_
        refine Tr.block ?_
        refine Tr.region ?_
        refine RegL.pure (p := (pEq (.int .i64 v6))) rfl rfl rfl (J_move rfl (Opd.tmp rfl)) ?_
        refine RegL.pure (p := (pSl 1 (cK .i64) x_0)) rfl rfl rfl (J_move rfl (Opd.tmp rfl)) ?_
        refine RegL.pure (p := (pEq (.int .i64 v7))) rfl rfl rfl (J_move rfl (Opd.tmp rfl)) ?_
        replace h := bind_some h; obtain ⟨x9, hx9, h⟩ := h
        refine RegL.pure (p := (pPtr ((cK .i64) x9))) rfl rfl rfl (J_idx rfl Try.underlying25 sz2 (Opd.tmp rfl) (Opd.tmp rfl) hx9) ?_
        refine RegL.pure (p := (pEq (.int .i64 x9))) rfl rfl rfl (J_load rfl Try.isAgg2 (Opd.tmp rfl)) ?_
        refine RegL.pure (p := (pEq (.int .i64 (if x9 > v6 then x9 else v6)))) rfl rfl rfl (J_max2 rfl (Opd.tmp rfl) (Opd.tmp rfl)) ?_
        refine RegL.pure (p := (pEq (.int .i64 (if x9 > v6 then x9 else v6)))) rfl rfl rfl (J_assign rfl (Opd.tmp rfl)) ?_
        refine RegL.nil ?_
        refine Ct.blk_normal ?_
        refine Ct.then_tr ?_
        refine Tr.weak (Γ' := [(0, (pSl 1 (cK .i64) x_0)), (3, (pEq (.int .i64 (if x9 > v6 then x9 else v6)))), (4, (pEq (.int .i64 v7)))]) ⟨rfl, rfl, rfl, trivial⟩ ?_
        refine Tr.region ?_
        refine RegL.pure (p := (pEq (.int .i64 v7))) rfl rfl rfl (J_move rfl (Opd.tmp rfl)) ?_
        refine RegL.pure (p := (pEq (.int .i64 (w64 (v7 + (1 : Int)))))) rfl rfl rfl (J_bin rfl (Opd.tmp rfl) Opd.con B_add) ?_
        refine RegL.pure (p := (pEq (.int .i64 (w64 (v7 + (1 : Int)))))) rfl rfl rfl (J_assign rfl (Opd.tmp rfl)) ?_
        refine RegL.nil ?_
        replace h := Option.some.inj h; subst h
        exact Ct.again () rfl ⟨rfl, rfl, rfl, trivial⟩
      · replace h := bif_f hc h
        refine Tr.exit ?_
        refine Ct.then_exit ?_
        replace h := map_some h; obtain ⟨r1, h, rfl⟩ := h
        refine Ct.out_exit fun e => ?_
        subst e
        refine Ct.blk_exit ?_
        replace h := Option.some.inj h; subst h
        exact Ct.mid () rfl ⟨rfl, trivial⟩
    · clear hx4
      refine Ct.then_tr ?_
      refine Tr.weak (Γ' := [(3, (pEq (.int .i64 x4)))]) ⟨rfl, trivial⟩ ?_
      refine Tr.seq ?_
      refine Tr.region ?_
      refine RegL.pure (p := (pEq (.int .i64 x4))) rfl rfl rfl (J_move rfl (Opd.tmp rfl)) ?_
      refine RegL.pure (p := (pEq (.int .i64 x4))) rfl rfl rfl (J_assign rfl (Opd.tmp rfl)) ?_
      refine RegL.nil ?_
      refine Ct.then_tr ?_
      refine Tr.weak (Γ' := [(2, (pEq (.int .i64 x4)))]) ⟨rfl, trivial⟩ ?_
      refine Tr.ret ?_
      replace h := Option.some.inj h; subst h
      exact Ct.retH1 (Ωx := []) () rfl (RvOk.tmp rfl) rfl

theorem c_slices_Min_int64_int64 {x_0 : (List Int)} {r : Int} (h : m_slices_Min_int64_int64 x_0 = some r) : CallJ Try.prog 109 [(pSl 1 (cK .i64) x_0)] (pEq (.int .i64 r)) := by
  unfold m_slices_Min_int64_int64 at h
  refine CallJ.enterH Try.func109 rfl Try.ntmps109 rfl fun W I0 H => ?_
  refine Tr.weak (Γ' := [(0, (pSl 1 (cK .i64) x_0))]) ⟨rfl, trivial⟩ ?_
  refine Tr.seq ?_
  refine Tr.region ?_
  refine RegL.pure (p := (pEq (.int .i64 (0 : Int)))) rfl rfl rfl (J_assign rfl Opd.con) ?_
  refine RegL.nil ?_
  refine Ct.then_tr ?_
  refine Tr.weak (Γ' := [(0, (pSl 1 (cK .i64) x_0))]) ⟨rfl, trivial⟩ ?_
  refine Tr.seq ?_
  refine Tr.seq ?_
  refine Tr.region ?_
  refine RegL.pure (p := (pSl 1 (cK .i64) x_0)) rfl rfl rfl (J_move rfl (Opd.tmp rfl)) ?_
  refine RegL.pure (p := (pEq (.int .i64 (x_0.length : Int)))) rfl rfl rfl (J_len rfl Try.underlying25 (Opd.tmp rfl) rfl) ?_
  refine RegL.pure (p := (pEq (.bool (decide ((x_0.length : Int) < (1 : Int)))))) rfl rfl rfl (J_bin rfl (Opd.tmp rfl) Opd.con B_lss) ?_
  refine RegL.nil ?_
  refine Ct.then_tr ?_
  refine Tr.weak (Γ' := [(0, (pSl 1 (cK .i64) x_0)), (7, (pEq (.bool (decide ((x_0.length : Int) < (1 : Int))))))]) ⟨rfl, rfl, trivial⟩ ?_
  replace h := bind_some h; obtain ⟨x1, hx1, h⟩ := h
  refine Tr.cut (γ := Unit) (Γm := fun g => [(0, (pSl 1 (cK .i64) x_0))]) (Ωm := fun g => []) ?_ (fun g2 => ?_)
  · clear h
    have h := hx1
    clear hx1
    refine Tr.cond (Opd.tmp rfl) (fun hc => ?_) (fun hc => ?_)
    · replace h := bif_t hc h
      refine Tr.region ?_
      exact absurd h (by simp)
    · replace h := bif_f hc h
      refine Tr.skip ?_
      replace h := Option.some.inj h; subst h
      exact Ct.mid () rfl ⟨rfl, trivial⟩
  · clear hx1
    refine Ct.then_tr ?_
    refine Tr.weak (Γ' := [(0, (pSl 1 (cK .i64) x_0))]) ⟨rfl, trivial⟩ ?_
    refine Tr.seq ?_
    refine Tr.region ?_
    refine RegL.pure (p := (pSl 1 (cK .i64) x_0)) rfl rfl rfl (J_move rfl (Opd.tmp rfl)) ?_
    replace h := bind_some h; obtain ⟨x3, hx3, h⟩ := h
    refine RegL.pure (p := (pPtr ((cK .i64) x3))) rfl rfl rfl (J_idx rfl Try.underlying25 sz2 (Opd.tmp rfl) Opd.con hx3) ?_
    refine RegL.pure (p := (pEq (.int .i64 x3))) rfl rfl rfl (J_load rfl Try.isAgg2 (Opd.tmp rfl)) ?_
    refine RegL.pure (p := (pEq (.int .i64 x3))) rfl rfl rfl (J_assign rfl (Opd.tmp rfl)) ?_
    refine RegL.nil ?_
    refine Ct.then_tr ?_
    refine Tr.weak (Γ' := [(0, (pSl 1 (cK .i64) x_0)), (3, (pEq (.int .i64 x3)))]) ⟨rfl, rfl, trivial⟩ ?_
    refine Tr.seq ?_
    refine Tr.seq ?_
    refine Tr.region ?_
    refine RegL.pure (p := (pEq (.int .i64 (1 : Int)))) rfl rfl rfl (J_assign rfl Opd.con) ?_
    refine RegL.nil ?_
    refine Ct.then_tr ?_
    refine Tr.weak (Γ' := [(0, (pSl 1 (cK .i64) x_0)), (3, (pEq (.int .i64 x3))), (4, (pEq (.int .i64 (1 : Int))))]) ⟨rfl, rfl, rfl, trivial⟩ ?_
    replace h := bind_some h; obtain ⟨x4, hx4, h⟩ := h
    refine Tr.cut (γ := Unit) (Γm := fun g => [(3, (pEq (.int .i64 x4)))]) (Ωm := fun g => []) ?_ (fun g10 => ?_)
    · clear h
      have h := hx4
      clear hx4
      refine Tr.block ?_
      refine Tr.weak (Γ' := [(0, (pSl 1 (cK .i64) x_0)), (3, (pEq (.int .i64 x3))), (4, (pEq (.int .i64 (1 : Int))))]) ⟨rfl, rfl, rfl, trivial⟩ ?_
      refine Tr.loop (γ := Unit) (σ := (Int × Int)) (Γσ := fun s g => [(0, (pSl 1 (cK .i64) x_0)), (3, (pEq (.int .i64 s.1))), (4, (pEq (.int .i64 s.2)))]) (Ωσ := fun s g => []) (g := ()) h ?_
      clear h
      rintro ⟨v6, v7⟩ g8 t h
      replace h : m_slices_Min_int64_int64_B5 x_0 v6 v7 = some t := h
      unfold m_slices_Min_int64_int64_B5 at h
      refine Tr.weakO (Γ' := [(0, (pSl 1 (cK .i64) x_0)), (3, (pEq (.int .i64 v6))), (4, (pEq (.int .i64 v7)))]) (Ω' := []) rfl ⟨rfl, rfl, rfl, trivial⟩ ?_
      refine Tr.seq ?_
      refine Tr.seq ?_
      refine Tr.region ?_
      refine RegL.pure (p := (pEq (.int .i64 v7))) rfl rfl rfl (J_move rfl (Opd.tmp rfl)) ?_
      refine RegL.pure (p := (pSl 1 (cK .i64) x_0)) rfl rfl rfl (J_move rfl (Opd.tmp rfl)) ?_
      refine RegL.pure (p := (pEq (.int .i64 (x_0.length : Int)))) rfl rfl rfl (J_len rfl Try.underlying25 (Opd.tmp rfl) rfl) ?_
      refine RegL.pure (p := (pEq (.bool (decide (v7 < (x_0.length : Int)))))) rfl rfl rfl (J_bin rfl (Opd.tmp rfl) (Opd.tmp rfl) B_lss) ?_
      refine RegL.nil ?_
      refine Ct.then_tr ?_
      refine Tr.weak (Γ' := [(0, (pSl 1 (cK .i64) x_0)), (3, (pEq (.int .i64 v6))), (4, (pEq (.int .i64 v7))), (15, (pEq (.bool (decide (v7 < (x_0.length : Int))))))]) ⟨rfl, rfl, rfl, rfl, trivial⟩ ?_
      refine Tr.cond (Opd.tmp rfl) (fun hc => ?_) (fun hc => ?_)
      · replace h := bif_t hc h
        refine Tr.skip ?_
        refine Ct.then_tr ?_
        refine Tr.weak (Γ' := [(0, (pSl 1 (cK .i64) x_0)), (3, (pEq (.int .i64 v6))), (4, (pEq (.int .i64 v7)))]) ⟨rfl, rfl, rfl, trivial⟩ ?_
        refine Tr.seq ?_
        refine Tr.block ?_
        refine Tr.region ?_
        refine RegL.pure (p := (pEq (.int .i64 v6))) rfl rfl rfl (J_move rfl (Opd.tmp rfl)) ?_
        refine RegL.pure (p := (pSl 1 (cK .i64) x_0)) rfl rfl rfl (J_move rfl (Opd.tmp rfl)) ?_
        refine RegL.pure (p := (pEq (.int .i64 v7))) rfl rfl rfl (J_move rfl (Opd.tmp rfl)) ?_
        replace h := bind_some h; obtain ⟨x9, hx9, h⟩ := h
        refine RegL.pure (p := (pPtr ((cK .i64) x9))) rfl rfl rfl (J_idx rfl Try.underlying25 sz2 (Opd.tmp rfl) (Opd.tmp rfl) hx9) ?_
        refine RegL.pure (p := (pEq (.int .i64 x9))) rfl rfl rfl (J_load rfl Try.isAgg2 (Opd.tmp rfl)) ?_
        refine RegL.pure (p := (pEq (.int .i64 (if x9 < v6 then x9 else v6)))) rfl rfl rfl (J_min2 rfl (Opd.tmp rfl) (Opd.tmp rfl)) ?_
        refine RegL.pure (p := (pEq (.int .i64 (if x9 < v6 then x9 else v6)))) rfl rfl rfl (J_assign rfl (Opd.tmp rfl)) ?_
        refine RegL.nil ?_
        refine Ct.blk_normal ?_
        refine Ct.then_tr ?_
        refine Tr.weak (Γ' := [(0, (pSl 1 (cK .i64) x_0)), (3, (pEq (.int .i64 (if x9 < v6 then x9 else v6)))), (4, (pEq (.int .i64 v7)))]) ⟨rfl, rfl, rfl, trivial⟩ ?_
        refine Tr.region ?_
        refine RegL.pure (p := (pEq (.int .i64 v7))) rfl rfl rfl (J_move rfl (Opd.tmp rfl)) ?_
        refine RegL.pure (p := (pEq (.int .i64 (w64 (v7 + (1 : Int)))))) rfl rfl rfl (J_bin rfl (Opd.tmp rfl) Opd.con B_add) ?_
        refine RegL.pure (p := (pEq (.int .i64 (w64 (v7 + (1 : Int)))))) rfl rfl rfl (J_assign rfl (Opd.tmp rfl)) ?_
        refine RegL.nil ?_
        replace h := Option.some.inj h; subst h
        exact Ct.again () rfl ⟨rfl, rfl, rfl, trivial⟩
      · replace h := bif_f hc h
        refine Tr.exit ?_
        refine Ct.then_exit ?_
        replace h := map_some h; obtain ⟨r1, h, rfl⟩ := h
        refine Ct.out_exit fun e => ?_
        subst e
        refine Ct.blk_exit ?_
        replace h := Option.some.inj h; subst h
        exact Ct.mid () rfl ⟨rfl, trivial⟩
    · clear hx4
      refine Ct.then_tr ?_
      refine Tr.weak (Γ' := [(3, (pEq (.int .i64 x4)))]) ⟨rfl, trivial⟩ ?_
      refine Tr.seq ?_
      refine Tr.region ?_
      refine RegL.pure (p := (pEq (.int .i64 x4))) rfl rfl rfl (J_move rfl (Opd.tmp rfl)) ?_
      refine RegL.pure (p := (pEq (.int .i64 x4))) rfl rfl rfl (J_assign rfl (Opd.tmp rfl)) ?_
      refine RegL.nil ?_
      refine Ct.then_tr ?_
      refine Tr.weak (Γ' := [(2, (pEq (.int .i64 x4)))]) ⟨rfl, trivial⟩ ?_
      refine Tr.ret ?_
      replace h := Option.some.inj h; subst h
      exact Ct.retH1 (Ωx := []) () rfl (RvOk.tmp rfl) rfl

theorem c_impl_SpanOf {list_0 : (List Int)} {r : Int} (h : m_impl_SpanOf list_0 = some r) : CallJ Try.prog 83 [(pSl 1 (cK .i64) list_0)] (pEq (.int .i64 r)) := by
  unfold m_impl_SpanOf at h
  refine CallJ.enterH Try.func83 rfl Try.ntmps83 rfl fun W I0 H => ?_
  refine Tr.weak (Γ' := [(0, (pSl 1 (cK .i64) list_0))]) ⟨rfl, trivial⟩ ?_
  refine Tr.seq ?_
  refine Tr.region ?_
  refine RegL.pure (p := (pEq (.int .i64 (0 : Int)))) rfl rfl rfl (J_assign rfl Opd.con) ?_
  refine RegL.nil ?_
  refine Ct.then_tr ?_
  refine Tr.weak (Γ' := [(0, (pSl 1 (cK .i64) list_0))]) ⟨rfl, trivial⟩ ?_
  refine Tr.seq ?_
  refine Tr.seq ?_
  replace h := bind_some h; obtain ⟨x1, hx1, h⟩ := h
  refine Tr.cut (γ := Unit) (Γm := fun g => [(0, (pSl 1 (cK .i64) list_0)), (10, (pEq (.bool x1)))]) (Ωm := fun g => []) ?_ (fun g4 => ?_)
  · clear h
    have h := hx1
    clear hx1
    refine Tr.region ?_
    refine RegL.pure (p := (pSl 1 (cK .i64) list_0)) rfl rfl rfl (J_move rfl (Opd.tmp rfl)) ?_
    refine RegL.pure (p := (pEq (.int .i64 (list_0.length : Int)))) rfl rfl rfl (J_len rfl Try.underlying25 (Opd.tmp rfl) rfl) ?_
    refine RegL.pure (p := (pEq (.bool ((list_0.length : Int) == (0 : Int))))) rfl rfl rfl (J_bin rfl (Opd.tmp rfl) Opd.con B_eql) ?_
    refine RegL.pure (p := (pEq (.bool ((list_0.length : Int) == (0 : Int))))) rfl rfl rfl (J_move rfl (Opd.tmp rfl)) ?_
    rcases Bool.eq_false_or_eq_true ((list_0.length : Int) == (0 : Int)) with hc2 | hc2
    · replace h := bif_t hc2 h
      refine RegL.skipG rfl rfl rfl hc2 rfl rfl ?_
      refine RegL.skipG rfl rfl rfl hc2 rfl rfl ?_
      refine RegL.skipG rfl rfl rfl hc2 rfl rfl ?_
      refine RegL.pure (p := (pEq (.bool true))) rfl rfl rfl (J_pick rfl (Opd.tmp rfl) (fun _ => Opd.con) (fun hf => absurd (hc2.symm.trans hf) (by decide))) ?_
      refine RegL.nil ?_
      replace h := Option.some.inj h; subst h
      exact Ct.mid () rfl ⟨rfl, rfl, trivial⟩
    · replace h := bif_f hc2 h
      refine RegL.pureG (p := (pSl 1 (cK .i64) list_0)) rfl rfl rfl hc2 rfl rfl (J_move rfl (Opd.tmp rfl)) ?_
      replace h := bind_some h; obtain ⟨x3, hx3, h⟩ := h
      refine RegL.pureG (p := (pEq (.bool x3))) rfl rfl rfl hc2 rfl rfl (J_call rfl Try.call89 (c_impl_allWithin hx3) (Opds.cons (Opd.tmp rfl) (Opds.cons Opd.con (Opds.cons Opd.con Opds.nil)))) ?_
      refine RegL.pureG (p := (pEq (.bool (!x3)))) rfl rfl rfl hc2 rfl rfl (J_not rfl (Opd.tmp rfl)) ?_
      refine RegL.pure (p := (pEq (.bool (!x3)))) rfl rfl rfl (J_pick rfl (Opd.tmp rfl) (fun hf => absurd (hc2.symm.trans hf) (by decide)) (fun _ => (Opd.tmp rfl))) ?_
      refine RegL.nil ?_
      replace h := Option.some.inj h; subst h
      exact Ct.mid () rfl ⟨rfl, rfl, trivial⟩
  · clear hx1
    refine Ct.then_tr ?_
    refine Tr.weak (Γ' := [(0, (pSl 1 (cK .i64) list_0)), (10, (pEq (.bool x1)))]) ⟨rfl, rfl, trivial⟩ ?_
    refine Tr.cond (Opd.tmp rfl) (fun hc => ?_) (fun hc => ?_)
    · replace h := bif_t hc h
      refine Tr.seq ?_
      refine Tr.region ?_
      refine RegL.pure (p := (pEq (.int .i64 (0 : Int)))) rfl rfl rfl (J_assign rfl Opd.con) ?_
      refine RegL.nil ?_
      refine Ct.then_tr ?_
      refine Tr.weak (Γ' := [(2, (pEq (.int .i64 (0 : Int))))]) ⟨rfl, trivial⟩ ?_
      refine Tr.ret ?_
      refine Ct.then_ret ?_
      replace h := Option.some.inj h; subst h
      exact Ct.retH1 (Ωx := []) () rfl (RvOk.tmp rfl) rfl
    · replace h := bif_f hc h
      refine Tr.skip ?_
      refine Ct.then_tr ?_
      refine Tr.weak (Γ' := [(0, (pSl 1 (cK .i64) list_0))]) ⟨rfl, trivial⟩ ?_
      refine Tr.seq ?_
      refine Tr.region ?_
      refine RegL.pure (p := (pSl 1 (cK .i64) list_0)) rfl rfl rfl (J_move rfl (Opd.tmp rfl)) ?_
      replace h := bind_some h; obtain ⟨x5, hx5, h⟩ := h
      refine RegL.pure (p := (pEq (.int .i64 x5))) rfl rfl rfl (J_call rfl Try.call85 (c_slices_Max_int64_int64 hx5) (Opds.cons (Opd.tmp rfl) Opds.nil)) ?_
      refine RegL.pure (p := (pSl 1 (cK .i64) list_0)) rfl rfl rfl (J_move rfl (Opd.tmp rfl)) ?_
      replace h := bind_some h; obtain ⟨x6, hx6, h⟩ := h
      refine RegL.pure (p := (pEq (.int .i64 x6))) rfl rfl rfl (J_call rfl Try.call109 (c_slices_Min_int64_int64 hx6) (Opds.cons (Opd.tmp rfl) Opds.nil)) ?_
      refine RegL.pure (p := (pEq (.int .i64 (w64 (x5 - x6))))) rfl rfl rfl (J_bin rfl (Opd.tmp rfl) (Opd.tmp rfl) B_sub) ?_
      refine RegL.pure (p := (pEq (.int .i64 (w64 (x5 - x6))))) rfl rfl rfl (J_assign rfl (Opd.tmp rfl)) ?_
      refine RegL.nil ?_
      refine Ct.then_tr ?_
      refine Tr.weak (Γ' := [(2, (pEq (.int .i64 (w64 (x5 - x6)))))]) ⟨rfl, trivial⟩ ?_
      refine Tr.ret ?_
      replace h := Option.some.inj h; subst h
      exact Ct.retH1 (Ωx := []) () rfl (RvOk.tmp rfl) rfl

theorem c_impl_abs {n_0 : Int} {r : Int} (h : m_impl_abs n_0 = some r) : CallJ Try.prog 96 [(pEq (.int .i64 n_0))] (pEq (.int .i64 r)) := by
  unfold m_impl_abs at h
  refine CallJ.enterH Try.func96 rfl Try.ntmps96 rfl fun W I0 H => ?_
  refine Tr.weak (Γ' := [(0, (pEq (.int .i64 n_0)))]) ⟨rfl, trivial⟩ ?_
  refine Tr.seq ?_
  refine Tr.region ?_
  refine RegL.pure (p := (pEq (.int .i64 (0 : Int)))) rfl rfl rfl (J_assign rfl Opd.con) ?_
  refine RegL.nil ?_
  refine Ct.then_tr ?_
  refine Tr.weak (Γ' := [(0, (pEq (.int .i64 n_0)))]) ⟨rfl, trivial⟩ ?_
  refine Tr.seq ?_
  refine Tr.region ?_
  refine RegL.pure (p := (pEq (.int .i64 n_0))) rfl rfl rfl (J_move rfl (Opd.tmp rfl)) ?_
  refine RegL.pure (p := (pEq (.int .i64 n_0))) rfl rfl rfl (J_move rfl (Opd.tmp rfl)) ?_
  refine RegL.pure (p := (pEq (.int .i64 (w64 (0 - n_0))))) rfl rfl rfl (J_neg rfl (Opd.tmp rfl)) ?_
  refine RegL.pure (p := (pEq (.int .i64 (if (w64 (0 - n_0)) > n_0 then (w64 (0 - n_0)) else n_0)))) rfl rfl rfl (J_max2 rfl (Opd.tmp rfl) (Opd.tmp rfl)) ?_
  refine RegL.pure (p := (pEq (.int .i64 (if (w64 (0 - n_0)) > n_0 then (w64 (0 - n_0)) else n_0)))) rfl rfl rfl (J_assign rfl (Opd.tmp rfl)) ?_
  refine RegL.nil ?_
  refine Ct.then_tr ?_
  refine Tr.weak (Γ' := [(2, (pEq (.int .i64 (if (w64 (0 - n_0)) > n_0 then (w64 (0 - n_0)) else n_0))))]) ⟨rfl, trivial⟩ ?_
  refine Tr.ret ?_
  replace h := Option.some.inj h; subst h
  exact Ct.retH1 (Ωx := []) () rfl (RvOk.tmp rfl) rfl

theorem o_impl_Problem_choices {p_0 : GProblem} {list_1 : (List Int)} {item_2 : Int}  {r : (List Int)} (h : m_impl_Problem_choices p_0 list_1 item_2 = some r) : CallH Try.prog 59 [(pAgg (cGProblem p_0)), (pSl 1 (cK .i64) list_1), (pEq (.int .i64 item_2))] [] (fun g : G3 => (pEq (.slice g.1 g.2.1 g.2.2))) (fun g : G3 => [oSl 2 1 (cK .i64) g.1 g.2.1 g.2.2 r]) := by
  unfold m_impl_Problem_choices at h
  refine CallH.enter Try.func59 rfl Try.ntmps59 rfl fun W I0 H => ?_
  refine Tr.weak (Γ' := [(0, (pAgg (cGProblem p_0))), (1, (pSl 1 (cK .i64) list_1)), (2, (pEq (.int .i64 item_2)))]) ⟨rfl, rfl, rfl, trivial⟩ ?_
  refine Tr.seq ?_
  refine Tr.region ?_
  refine RegL.pure (p := (pPtr (cGProblem p_0))) rfl rfl rfl (J_boxA rfl (Opd.tmp rfl)) ?_
  refine RegL.pure (p := (pEq (.slice none 0 0))) rfl rfl rfl (J_assign rfl Opd.con) ?_
  refine RegL.nil ?_
  refine Ct.then_tr ?_
  refine Tr.weak (Γ' := [(1, (pSl 1 (cK .i64) list_1)), (2, (pEq (.int .i64 item_2))), (3, (pPtr (cGProblem p_0)))]) ⟨rfl, rfl, rfl, trivial⟩ ?_
  refine Tr.seq ?_
  refine Tr.region ?_
  refine RegL.pure (p := (pEq (.slice none 0 0))) rfl rfl rfl (J_assign rfl Opd.con) ?_
  refine RegL.nil ?_
  refine Ct.then_tr ?_
  refine Tr.weak (Γ' := [(1, (pSl 1 (cK .i64) list_1)), (2, (pEq (.int .i64 item_2))), (3, (pPtr (cGProblem p_0))), (7, (pEq (.slice none 0 0)))]) ⟨rfl, rfl, rfl, rfl, trivial⟩ ?_
  refine Tr.seq ?_
  refine Tr.seq ?_
  refine Tr.region ?_
  refine RegL.pure (p := (pPtr ((cSl 1 (cSl 1 (cK .i64))) p_0.Domains))) rfl rfl rfl (J_fieldAddr rfl Try.underlying29 rfl sz22 (by decide) (Opd.tmp rfl) rfl) ?_
  refine RegL.pure (p := (pSl 1 (cSl 1 (cK .i64)) p_0.Domains)) rfl rfl rfl (J_load rfl Try.isAgg22 (Opd.tmp rfl)) ?_
  refine RegL.pure (p := (pEq (.int .i64 item_2))) rfl rfl rfl (J_move rfl (Opd.tmp rfl)) ?_
  replace h := bind_some h; obtain ⟨x1, hx1, h⟩ := h
  refine RegL.pure (p := (pPtr ((cSl 1 (cK .i64)) x1))) rfl rfl rfl (J_idx rfl Try.underlying22 sz25 (Opd.tmp rfl) (Opd.tmp rfl) hx1) ?_
  refine RegL.pure (p := (pSl 1 (cK .i64) x1)) rfl rfl rfl (J_load rfl Try.isAgg25 (Opd.tmp rfl)) ?_
  refine RegL.pure (p := (pEq (.int .i64 (x1.length : Int)))) rfl rfl rfl (J_len rfl Try.underlying25 (Opd.tmp rfl) rfl) ?_
  refine RegL.pure (p := (pEq (.int .i64 (0 : Int)))) rfl rfl rfl (J_move rfl Opd.con) ?_
  refine RegL.nil ?_
  refine Ct.then_tr ?_
  refine Tr.weak (Γ' := [(1, (pSl 1 (cK .i64) list_1)), (2, (pEq (.int .i64 item_2))), (3, (pPtr (cGProblem p_0))), (7, (pEq (.slice none 0 0))), (17, (pSl 1 (cK .i64) x1)), (18, (pEq (.int .i64 (x1.length : Int)))), (19, (pEq (.int .i64 (0 : Int))))]) ⟨rfl, rfl, rfl, rfl, rfl, rfl, rfl, trivial⟩ ?_
  refine Tr.re (Ω2 := [oSl 2 1 (cK .i64) none 0 0 ([] : (List Int))]) (fun h => SatO.nilRow h) ?_
  replace h := bind_some h; obtain ⟨x3, hx3, h⟩ := h
  refine Tr.cut (γ := G3) (Γm := fun g => [(7, (pEq (.slice g.1 g.2.1 g.2.2)))]) (Ωm := fun g => [oSl 2 1 (cK .i64) g.1 g.2.1 g.2.2 x3]) ?_ (fun g29 => ?_)
  · clear h
    have h := hx3
    clear hx3
    refine Tr.block ?_
    refine Tr.weak (Γ' := [(1, (pSl 1 (cK .i64) list_1)), (2, (pEq (.int .i64 item_2))), (3, (pPtr (cGProblem p_0))), (7, (pEq (.slice none 0 0))), (17, (pSl 1 (cK .i64) x1)), (18, (pEq (.int .i64 (x1.length : Int)))), (19, (pEq (.int .i64 (0 : Int))))]) ⟨rfl, rfl, rfl, rfl, rfl, rfl, rfl, trivial⟩ ?_
    refine Tr.loop (γ := G3) (σ := (Int × (List Int))) (Γσ := fun s g => [(1, (pSl 1 (cK .i64) list_1)), (2, (pEq (.int .i64 item_2))), (3, (pPtr (cGProblem p_0))), (7, (pEq (.slice g.1 g.2.1 g.2.2))), (17, (pSl 1 (cK .i64) x1)), (18, (pEq (.int .i64 (x1.length : Int)))), (19, (pEq (.int .i64 s.1)))]) (Ωσ := fun s g => [oSl 2 1 (cK .i64) g.1 g.2.1 g.2.2 s.2]) (g := (none, 0, 0)) h ?_
    clear h
    rintro ⟨v5, v6⟩ g7 t h
    replace h : m_impl_Problem_choices_B4 p_0 list_1 item_2 x1 v5 v6 = some t := h
    unfold m_impl_Problem_choices_B4 at h
    refine Tr.weakO (Γ' := [(1, (pSl 1 (cK .i64) list_1)), (2, (pEq (.int .i64 item_2))), (3, (pPtr (cGProblem p_0))), (7, (pEq (.slice g7.1 g7.2.1 g7.2.2))), (17, (pSl 1 (cK .i64) x1)), (18, (pEq (.int .i64 (x1.length : Int)))), (19, (pEq (.int .i64 v5)))]) (Ω' := [oSl 2 1 (cK .i64) g7.1 g7.2.1 g7.2.2 v6]) rfl ⟨rfl, rfl, rfl, rfl, rfl, rfl, rfl, trivial⟩ ?_
    refine Tr.seq ?_
    refine Tr.region ?_
    refine RegL.pure (p := (pEq (.bool (decide (v5 < (x1.length : Int)))))) rfl rfl rfl (J_bin rfl (Opd.tmp rfl) (Opd.tmp rfl) B_lss) ?_
    refine RegL.nil ?_
    refine Ct.then_tr ?_
    refine Tr.weak (Γ' := [(1, (pSl 1 (cK .i64) list_1)), (2, (pEq (.int .i64 item_2))), (3, (pPtr (cGProblem p_0))), (7, (pEq (.slice g7.1 g7.2.1 g7.2.2))), (17, (pSl 1 (cK .i64) x1)), (18, (pEq (.int .i64 (x1.length : Int)))), (19, (pEq (.int .i64 v5))), (20, (pEq (.bool (decide (v5 < (x1.length : Int))))))]) ⟨rfl, rfl, rfl, rfl, rfl, rfl, rfl, rfl, trivial⟩ ?_
    refine Tr.seq ?_
    refine Tr.cond (Opd.tmp rfl) (fun hc => ?_) (fun hc => ?_)
    · replace h := bif_t hc h
      refine Tr.skip ?_
      refine Ct.then_tr ?_
      refine Tr.weak (Γ' := [(1, (pSl 1 (cK .i64) list_1)), (2, (pEq (.int .i64 item_2))), (3, (pPtr (cGProblem p_0))), (7, (pEq (.slice g7.1 g7.2.1 g7.2.2))), (17, (pSl 1 (cK .i64) x1)), (18, (pEq (.int .i64 (x1.length : Int)))), (19, (pEq (.int .i64 v5)))]) ⟨rfl, rfl, rfl, rfl, rfl, rfl, rfl, trivial⟩ ?_
      refine Tr.seq ?_
      refine Tr.block ?_
      refine Tr.seq ?_
      refine Tr.region ?_
      replace h := bind_some h; obtain ⟨x8, hx8, h⟩ := h
      refine RegL.pure (p := (pPtr ((cK .i64) x8))) rfl rfl rfl (J_idx rfl Try.underlying25 sz2 (Opd.tmp rfl) (Opd.tmp rfl) hx8) ?_
      refine RegL.pure (p := (pEq (.int .i64 x8))) rfl rfl rfl (J_load rfl Try.isAgg2 (Opd.tmp rfl)) ?_
      refine RegL.pure (p := (pEq (.int .i64 x8))) rfl rfl rfl (J_assign rfl (Opd.tmp rfl)) ?_
      refine RegL.nil ?_
      refine Ct.then_tr ?_
      refine Tr.weak (Γ' := [(1, (pSl 1 (cK .i64) list_1)), (2, (pEq (.int .i64 item_2))), (3, (pPtr (cGProblem p_0))), (7, (pEq (.slice g7.1 g7.2.1 g7.2.2))), (9, (pEq (.int .i64 x8))), (17, (pSl 1 (cK .i64) x1)), (18, (pEq (.int .i64 (x1.length : Int)))), (19, (pEq (.int .i64 v5)))]) ⟨rfl, rfl, rfl, rfl, rfl, rfl, rfl, rfl, trivial⟩ ?_
      refine Tr.seq ?_
      refine Tr.region ?_
      refine RegL.pure (p := (pEq (.bool false))) rfl rfl rfl (J_assign rfl Opd.con) ?_
      refine RegL.nil ?_
      refine Ct.then_tr ?_
      refine Tr.weak (Γ' := [(1, (pSl 1 (cK .i64) list_1)), (2, (pEq (.int .i64 item_2))), (3, (pPtr (cGProblem p_0))), (7, (pEq (.slice g7.1 g7.2.1 g7.2.2))), (9, (pEq (.int .i64 x8))), (10, (pEq (.bool false))), (17, (pSl 1 (cK .i64) x1)), (18, (pEq (.int .i64 (x1.length : Int)))), (19, (pEq (.int .i64 v5)))]) ⟨rfl, rfl, rfl, rfl, rfl, rfl, rfl, rfl, rfl, trivial⟩ ?_
      refine Tr.seq ?_
      refine Tr.seq ?_
      refine Tr.region ?_
      refine RegL.pure (p := (pSl 1 (cK .i64) list_1)) rfl rfl rfl (J_move rfl (Opd.tmp rfl)) ?_
      refine RegL.pure (p := (pEq (.int .i64 (list_1.length : Int)))) rfl rfl rfl (J_len rfl Try.underlying25 (Opd.tmp rfl) rfl) ?_
      refine RegL.pure (p := (pEq (.int .i64 (0 : Int)))) rfl rfl rfl (J_move rfl Opd.con) ?_
      refine RegL.nil ?_
      refine Ct.then_tr ?_
      refine Tr.weak (Γ' := [(1, (pSl 1 (cK .i64) list_1)), (2, (pEq (.int .i64 item_2))), (3, (pPtr (cGProblem p_0))), (7, (pEq (.slice g7.1 g7.2.1 g7.2.2))), (9, (pEq (.int .i64 x8))), (10, (pEq (.bool false))), (17, (pSl 1 (cK .i64) x1)), (18, (pEq (.int .i64 (x1.length : Int)))), (19, (pEq (.int .i64 v5))), (23, (pSl 1 (cK .i64) list_1)), (24, (pEq (.int .i64 (list_1.length : Int)))), (25, (pEq (.int .i64 (0 : Int))))]) ⟨rfl, rfl, rfl, rfl, rfl, rfl, rfl, rfl, rfl, rfl, rfl, rfl, trivial⟩ ?_
      replace h := bind_some h; obtain ⟨x9, hx9, h⟩ := h
      refine Tr.cut (γ := Unit) (Γm := fun g => [(1, (pSl 1 (cK .i64) list_1)), (2, (pEq (.int .i64 item_2))), (3, (pPtr (cGProblem p_0))), (7, (pEq (.slice g7.1 g7.2.1 g7.2.2))), (9, (pEq (.int .i64 x8))), (10, (pEq (.bool x9))), (17, (pSl 1 (cK .i64) x1)), (18, (pEq (.int .i64 (x1.length : Int)))), (19, (pEq (.int .i64 v5)))]) (Ωm := fun g => [oSl 2 1 (cK .i64) g7.1 g7.2.1 g7.2.2 v6]) ?_ (fun g24 => ?_)
      · clear h
        have h := hx9
        clear hx9
        refine Tr.block ?_
        refine Tr.weak (Γ' := [(1, (pSl 1 (cK .i64) list_1)), (2, (pEq (.int .i64 item_2))), (3, (pPtr (cGProblem p_0))), (7, (pEq (.slice g7.1 g7.2.1 g7.2.2))), (9, (pEq (.int .i64 x8))), (10, (pEq (.bool false))), (17, (pSl 1 (cK .i64) x1)), (18, (pEq (.int .i64 (x1.length : Int)))), (19, (pEq (.int .i64 v5))), (23, (pSl 1 (cK .i64) list_1)), (24, (pEq (.int .i64 (list_1.length : Int)))), (25, (pEq (.int .i64 (0 : Int))))]) ⟨rfl, rfl, rfl, rfl, rfl, rfl, rfl, rfl, rfl, rfl, rfl, rfl, trivial⟩ ?_
        refine Tr.loop (γ := Unit) (σ := (Bool × Int)) (Γσ := fun s g => [(1, (pSl 1 (cK .i64) list_1)), (2, (pEq (.int .i64 item_2))), (3, (pPtr (cGProblem p_0))), (7, (pEq (.slice g7.1 g7.2.1 g7.2.2))), (9, (pEq (.int .i64 x8))), (10, (pEq (.bool s.1))), (17, (pSl 1 (cK .i64) x1)), (18, (pEq (.int .i64 (x1.length : Int)))), (19, (pEq (.int .i64 v5))), (23, (pSl 1 (cK .i64) list_1)), (24, (pEq (.int .i64 (list_1.length : Int)))), (25, (pEq (.int .i64 s.2)))]) (Ωσ := fun s g => [oSl 2 1 (cK .i64) g7.1 g7.2.1 g7.2.2 v6]) (g := ()) h ?_
        clear h
        rintro ⟨v11, v12⟩ g13 t h
        replace h : m_impl_Problem_choices_B10 p_0 list_1 item_2 x8 v11 v12 = some t := h
        unfold m_impl_Problem_choices_B10 at h
        refine Tr.weakO (Γ' := [(1, (pSl 1 (cK .i64) list_1)), (2, (pEq (.int .i64 item_2))), (3, (pPtr (cGProblem p_0))), (7, (pEq (.slice g7.1 g7.2.1 g7.2.2))), (9, (pEq (.int .i64 x8))), (10, (pEq (.bool v11))), (17, (pSl 1 (cK .i64) x1)), (18, (pEq (.int .i64 (x1.length : Int)))), (19, (pEq (.int .i64 v5))), (23, (pSl 1 (cK .i64) list_1)), (24, (pEq (.int .i64 (list_1.length : Int)))), (25, (pEq (.int .i64 v12)))]) (Ω' := [oSl 2 1 (cK .i64) g7.1 g7.2.1 g7.2.2 v6]) rfl ⟨rfl, rfl, rfl, rfl, rfl, rfl, rfl, rfl, rfl, rfl, rfl, rfl, trivial⟩ ?_
        refine Tr.seq ?_
        refine Tr.region ?_
        refine RegL.pure (p := (pEq (.bool (decide (v12 < (list_1.length : Int)))))) rfl rfl rfl (J_bin rfl (Opd.tmp rfl) (Opd.tmp rfl) B_lss) ?_
        refine RegL.nil ?_
        refine Ct.then_tr ?_
        refine Tr.weak (Γ' := [(1, (pSl 1 (cK .i64) list_1)), (2, (pEq (.int .i64 item_2))), (3, (pPtr (cGProblem p_0))), (7, (pEq (.slice g7.1 g7.2.1 g7.2.2))), (9, (pEq (.int .i64 x8))), (10, (pEq (.bool v11))), (17, (pSl 1 (cK .i64) x1)), (18, (pEq (.int .i64 (x1.length : Int)))), (19, (pEq (.int .i64 v5))), (23, (pSl 1 (cK .i64) list_1)), (24, (pEq (.int .i64 (list_1.length : Int)))), (25, (pEq (.int .i64 v12))), (26, (pEq (.bool (decide (v12 < (list_1.length : Int))))))]) ⟨rfl, rfl, rfl, rfl, rfl, rfl, rfl, rfl, rfl, rfl, rfl, rfl, rfl, trivial⟩ ?_
        refine Tr.seq ?_
        refine Tr.cond (Opd.tmp rfl) (fun hc => ?_) (fun hc => ?_)
        · replace h := bif_t hc h
          refine Tr.skip ?_
          refine Ct.then_tr ?_
          refine Tr.weak (Γ' := [(1, (pSl 1 (cK .i64) list_1)), (2, (pEq (.int .i64 item_2))), (3, (pPtr (cGProblem p_0))), (7, (pEq (.slice g7.1 g7.2.1 g7.2.2))), (9, (pEq (.int .i64 x8))), (10, (pEq (.bool v11))), (17, (pSl 1 (cK .i64) x1)), (18, (pEq (.int .i64 (x1.length : Int)))), (19, (pEq (.int .i64 v5))), (23, (pSl 1 (cK .i64) list_1)), (24, (pEq (.int .i64 (list_1.length : Int)))), (25, (pEq (.int .i64 v12)))]) ⟨rfl, rfl, rfl, rfl, rfl, rfl, rfl, rfl, rfl, rfl, rfl, rfl, trivial⟩ ?_
          refine Tr.seq ?_
          refine Tr.block ?_
          refine Tr.seq ?_
          refine Tr.region ?_
          refine RegL.pure (p := (pEq (.int .i64 v12))) rfl rfl rfl (J_move rfl (Opd.tmp rfl)) ?_
          replace h := bind_some h; obtain ⟨x14, hx14, h⟩ := h
          refine RegL.pure (p := (pPtr ((cK .i64) x14))) rfl rfl rfl (J_idx rfl Try.underlying25 sz2 (Opd.tmp rfl) (Opd.tmp rfl) hx14) ?_
          refine RegL.pure (p := (pEq (.int .i64 x14))) rfl rfl rfl (J_load rfl Try.isAgg2 (Opd.tmp rfl)) ?_
          refine RegL.pure (p := (pEq (.int .i64 v12))) rfl rfl rfl (J_assign rfl (Opd.tmp rfl)) ?_
          refine RegL.pure (p := (pEq (.int .i64 x14))) rfl rfl rfl (J_assign rfl (Opd.tmp rfl)) ?_
          refine RegL.nil ?_
          refine Ct.then_tr ?_
          refine Tr.weak (Γ' := [(1, (pSl 1 (cK .i64) list_1)), (2, (pEq (.int .i64 item_2))), (3, (pPtr (cGProblem p_0))), (7, (pEq (.slice g7.1 g7.2.1 g7.2.2))), (9, (pEq (.int .i64 x8))), (10, (pEq (.bool v11))), (11, (pEq (.int .i64 v12))), (12, (pEq (.int .i64 x14))), (17, (pSl 1 (cK .i64) x1)), (18, (pEq (.int .i64 (x1.length : Int)))), (19, (pEq (.int .i64 v5))), (23, (pSl 1 (cK .i64) list_1)), (24, (pEq (.int .i64 (list_1.length : Int)))), (25, (pEq (.int .i64 v12)))]) ⟨rfl, rfl, rfl, rfl, rfl, rfl, rfl, rfl, rfl, rfl, rfl, rfl, rfl, rfl, trivial⟩ ?_
          refine Tr.seq ?_
          replace h := bind_some h; obtain ⟨x15, hx15, h⟩ := h
          refine Tr.cut (γ := Unit) (Γm := fun g => [(1, (pSl 1 (cK .i64) list_1)), (2, (pEq (.int .i64 item_2))), (3, (pPtr (cGProblem p_0))), (7, (pEq (.slice g7.1 g7.2.1 g7.2.2))), (9, (pEq (.int .i64 x8))), (10, (pEq (.bool v11))), (17, (pSl 1 (cK .i64) x1)), (18, (pEq (.int .i64 (x1.length : Int)))), (19, (pEq (.int .i64 v5))), (23, (pSl 1 (cK .i64) list_1)), (24, (pEq (.int .i64 (list_1.length : Int)))), (25, (pEq (.int .i64 v12))), (51, (pEq (.bool x15)))]) (Ωm := fun g => [oSl 2 1 (cK .i64) g7.1 g7.2.1 g7.2.2 v6]) ?_ (fun g21 => ?_)
          · clear h
            have h := hx15
            clear hx15
            rcases Bool.eq_false_or_eq_true (v12 != item_2) with hc16 | hc16
            · replace h := bif_t hc16 h
              rcases Bool.eq_false_or_eq_true (decide ((0 : Int) ≤ x14)) with hc17 | hc17
              · replace h := bif_t hc17 h
                replace h := bind_some h; obtain ⟨x18, hx18, h⟩ := h
                replace h := bind_some h; obtain ⟨x19, hx19, h⟩ := h
                replace h := bind_some h; obtain ⟨x20, hx20, h⟩ := h
                refine Tr.drawD (n := 61) (m := 22) (es := [some (Ent.mk [(11, (pEq (.int .i64 v12)))] (pEq (.int .i64 v12)) true), some (Ent.mk [(2, (pEq (.int .i64 item_2)))] (pEq (.int .i64 item_2)) true), some (Ent.mk [(30, (pEq (.int .i64 v12))), (31, (pEq (.int .i64 item_2)))] (pEq (.bool (v12 != item_2))) true), some (Ent.mk [(32, (pEq (.bool (v12 != item_2))))] (pEq (.bool (v12 != item_2))) true), some (Ent.mk [(12, (pEq (.int .i64 x14)))] (pEq (.int .i64 x14)) true), some (Ent.mk [(34, (pEq (.int .i64 x14)))] (pEq (.bool (decide ((0 : Int) ≤ x14)))) true), some (Ent.mk [(33, (pEq (.bool (v12 != item_2)))), (35, (pEq (.bool (decide ((0 : Int) ≤ x14)))))] (pEq (.bool (decide ((0 : Int) ≤ x14)))) true), some (Ent.mk [(36, (pEq (.bool (decide ((0 : Int) ≤ x14)))))] (pEq (.bool (decide ((0 : Int) ≤ x14)))) true), some (Ent.mk [(9, (pEq (.int .i64 x8)))] (pEq (.int .i64 x8)) true), some (Ent.mk [(12, (pEq (.int .i64 x14)))] (pEq (.int .i64 x14)) true), some (Ent.mk [(38, (pEq (.int .i64 x8))), (39, (pEq (.int .i64 x14)))] (pEq (.int .i64 (w64 (x8 - x14)))) true), some (Ent.mk [(40, (pEq (.int .i64 (w64 (x8 - x14)))))] (pEq (.int .i64 x18)) true), some (Ent.mk [(3, (pPtr (cGProblem p_0)))] (pPtr ((cSl 1 (cSl 1 (cK .i64))) p_0.Apart)) true), some (Ent.mk [(42, (pPtr ((cSl 1 (cSl 1 (cK .i64))) p_0.Apart)))] (pSl 1 (cSl 1 (cK .i64)) p_0.Apart) true), some (Ent.mk [(2, (pEq (.int .i64 item_2)))] (pEq (.int .i64 item_2)) true), some (Ent.mk [(43, (pSl 1 (cSl 1 (cK .i64)) p_0.Apart)), (44, (pEq (.int .i64 item_2)))] (pPtr ((cSl 1 (cK .i64)) x19)) true), some (Ent.mk [(45, (pPtr ((cSl 1 (cK .i64)) x19)))] (pSl 1 (cK .i64) x19) true), some (Ent.mk [(11, (pEq (.int .i64 v12)))] (pEq (.int .i64 v12)) true), some (Ent.mk [(46, (pSl 1 (cK .i64) x19)), (47, (pEq (.int .i64 v12)))] (pPtr ((cK .i64) x20)) true), some (Ent.mk [(48, (pPtr ((cK .i64) x20)))] (pEq (.int .i64 x20)) true), some (Ent.mk [(41, (pEq (.int .i64 x18))), (49, (pEq (.int .i64 x20)))] (pEq (.bool (decide (x18 < x20)))) true), some (Ent.mk [(37, (pEq (.bool (decide ((0 : Int) ≤ x14))))), (50, (pEq (.bool (decide (x18 < x20)))))] (pEq (.bool (decide (x18 < x20)))) true)]) (rd := [[11], [2], [30, 31], [32], [12], [34], [33, 35], [36], [9], [12], [38, 39], [40], [3], [42], [2], [43, 44], [45], [11], [46, 47], [48], [41, 49], [37, 50]]) rfl hmix (by kernel_rfl) fun hD => ?_
                refine RD.fin (es := [Ent.mk [(11, (pEq (.int .i64 v12)))] (pEq (.int .i64 v12)) true, Ent.mk [(2, (pEq (.int .i64 item_2)))] (pEq (.int .i64 item_2)) true, Ent.mk [(30, (pEq (.int .i64 v12))), (31, (pEq (.int .i64 item_2)))] (pEq (.bool (v12 != item_2))) true, Ent.mk [(32, (pEq (.bool (v12 != item_2))))] (pEq (.bool (v12 != item_2))) true, Ent.mk [(12, (pEq (.int .i64 x14)))] (pEq (.int .i64 x14)) true, Ent.mk [(34, (pEq (.int .i64 x14)))] (pEq (.bool (decide ((0 : Int) ≤ x14)))) true, Ent.mk [(33, (pEq (.bool (v12 != item_2)))), (35, (pEq (.bool (decide ((0 : Int) ≤ x14)))))] (pEq (.bool (decide ((0 : Int) ≤ x14)))) true, Ent.mk [(36, (pEq (.bool (decide ((0 : Int) ≤ x14)))))] (pEq (.bool (decide ((0 : Int) ≤ x14)))) true, Ent.mk [(9, (pEq (.int .i64 x8)))] (pEq (.int .i64 x8)) true, Ent.mk [(12, (pEq (.int .i64 x14)))] (pEq (.int .i64 x14)) true, Ent.mk [(38, (pEq (.int .i64 x8))), (39, (pEq (.int .i64 x14)))] (pEq (.int .i64 (w64 (x8 - x14)))) true, Ent.mk [(40, (pEq (.int .i64 (w64 (x8 - x14)))))] (pEq (.int .i64 x18)) true, Ent.mk [(3, (pPtr (cGProblem p_0)))] (pPtr ((cSl 1 (cSl 1 (cK .i64))) p_0.Apart)) true, Ent.mk [(42, (pPtr ((cSl 1 (cSl 1 (cK .i64))) p_0.Apart)))] (pSl 1 (cSl 1 (cK .i64)) p_0.Apart) true, Ent.mk [(2, (pEq (.int .i64 item_2)))] (pEq (.int .i64 item_2)) true, Ent.mk [(43, (pSl 1 (cSl 1 (cK .i64)) p_0.Apart)), (44, (pEq (.int .i64 item_2)))] (pPtr ((cSl 1 (cK .i64)) x19)) true, Ent.mk [(45, (pPtr ((cSl 1 (cK .i64)) x19)))] (pSl 1 (cK .i64) x19) true, Ent.mk [(11, (pEq (.int .i64 v12)))] (pEq (.int .i64 v12)) true, Ent.mk [(46, (pSl 1 (cK .i64) x19)), (47, (pEq (.int .i64 v12)))] (pPtr ((cK .i64) x20)) true, Ent.mk [(48, (pPtr ((cK .i64) x20)))] (pEq (.int .i64 x20)) true, Ent.mk [(41, (pEq (.int .i64 x18))), (49, (pEq (.int .i64 x20)))] (pEq (.bool (decide (x18 < x20)))) true, Ent.mk [(37, (pEq (.bool (decide ((0 : Int) ≤ x14))))), (50, (pEq (.bool (decide (x18 < x20)))))] (pEq (.bool (decide (x18 < x20)))) true]) (done := []) hD ⟨.inr ⟨(OpJ.w (J_move rfl (Opd.tmp rfl))), ⟨rfl, trivial⟩, rfl, rfl⟩, ⟨.inr ⟨(OpJ.w (J_move rfl (Opd.tmp rfl))), ⟨rfl, trivial⟩, rfl, rfl⟩, ⟨.inr ⟨(OpJ.w (J_bin rfl (Opd.tmp rfl) (Opd.tmp rfl) B_neq)), ⟨rfl, rfl, trivial⟩, rfl, rfl⟩, ⟨.inr ⟨(OpJ.w (J_move rfl (Opd.tmp rfl))), ⟨rfl, trivial⟩, rfl, rfl⟩, ⟨.inr ⟨(OpJ.w (J_move rfl (Opd.tmp rfl))), ⟨rfl, trivial⟩, (.inl ⟨_, rfl, by simp [hc16]⟩), rfl⟩, ⟨.inr ⟨(OpJ.w (J_bin rfl (Opd.tmp rfl) Opd.con B_geq)), ⟨rfl, trivial⟩, (.inl ⟨_, rfl, by simp [hc16]⟩), rfl⟩, ⟨.inr ⟨(OpJ.w (J_pick rfl (Opd.tmp rfl) (fun _ => (Opd.tmp rfl)) (fun hf => absurd (hc16.symm.trans hf) (by decide)))), ⟨rfl, rfl, trivial⟩, rfl, rfl⟩, ⟨.inr ⟨(OpJ.w (J_move rfl (Opd.tmp rfl))), ⟨rfl, trivial⟩, rfl, rfl⟩, ⟨.inr ⟨(OpJ.w (J_move rfl (Opd.tmp rfl))), ⟨rfl, trivial⟩, (.inl ⟨_, rfl, by simp [hc17]⟩), rfl⟩, ⟨.inr ⟨(OpJ.w (J_move rfl (Opd.tmp rfl))), ⟨rfl, trivial⟩, (.inl ⟨_, rfl, by simp [hc17]⟩), rfl⟩, ⟨.inr ⟨(OpJ.w (J_bin rfl (Opd.tmp rfl) (Opd.tmp rfl) B_sub)), ⟨rfl, rfl, trivial⟩, (.inl ⟨_, rfl, by simp [hc17]⟩), rfl⟩, ⟨.inr ⟨(OpJ.w (J_call rfl Try.call96 (c_impl_abs hx18) (Opds.cons (Opd.tmp rfl) Opds.nil))), ⟨rfl, trivial⟩, (.inl ⟨_, rfl, by simp [hc17]⟩), rfl⟩, ⟨.inr ⟨(OpJ.w (J_fieldAddr rfl Try.underlying29 rfl sz22 (by decide) (Opd.tmp rfl) rfl)), ⟨rfl, trivial⟩, (.inl ⟨_, rfl, by simp [hc17]⟩), rfl⟩, ⟨.inr ⟨(OpJ.w (J_load rfl Try.isAgg22 (Opd.tmp rfl))), ⟨rfl, trivial⟩, (.inl ⟨_, rfl, by simp [hc17]⟩), rfl⟩, ⟨.inr ⟨(OpJ.w (J_move rfl (Opd.tmp rfl))), ⟨rfl, trivial⟩, (.inl ⟨_, rfl, by simp [hc17]⟩), rfl⟩, ⟨.inr ⟨(OpJ.w (J_idx rfl Try.underlying22 sz25 (Opd.tmp rfl) (Opd.tmp rfl) hx19)), ⟨rfl, rfl, trivial⟩, (.inl ⟨_, rfl, by simp [hc17]⟩), rfl⟩, ⟨.inr ⟨(OpJ.w (J_load rfl Try.isAgg25 (Opd.tmp rfl))), ⟨rfl, trivial⟩, (.inl ⟨_, rfl, by simp [hc17]⟩), rfl⟩, ⟨.inr ⟨(OpJ.w (J_move rfl (Opd.tmp rfl))), ⟨rfl, trivial⟩, (.inl ⟨_, rfl, by simp [hc17]⟩), rfl⟩, ⟨.inr ⟨(OpJ.w (J_idx rfl Try.underlying25 sz2 (Opd.tmp rfl) (Opd.tmp rfl) hx20)), ⟨rfl, rfl, trivial⟩, (.inl ⟨_, rfl, by simp [hc17]⟩), rfl⟩, ⟨.inr ⟨(OpJ.w (J_load rfl Try.isAgg2 (Opd.tmp rfl))), ⟨rfl, trivial⟩, (.inl ⟨_, rfl, by simp [hc17]⟩), rfl⟩, ⟨.inr ⟨(OpJ.w (J_bin rfl (Opd.tmp rfl) (Opd.tmp rfl) B_lss)), ⟨rfl, rfl, trivial⟩, (.inl ⟨_, rfl, by simp [hc17]⟩), rfl⟩, ⟨.inr ⟨(OpJ.w (J_pick rfl (Opd.tmp rfl) (fun _ => (Opd.tmp rfl)) (fun hf => absurd (hc17.symm.trans hf) (by decide)))), ⟨rfl, rfl, trivial⟩, rfl, rfl⟩, trivial⟩⟩⟩⟩⟩⟩⟩⟩⟩⟩⟩⟩⟩⟩⟩⟩⟩⟩⟩⟩⟩⟩ ?_
                refine RegL.nil ?_
                replace h := Option.some.inj h; subst h
                exact Ct.mid () rfl ⟨rfl, rfl, rfl, rfl, rfl, rfl, rfl, rfl, rfl, rfl, rfl, rfl, rfl, trivial⟩
              · replace h := bif_f hc17 h
                refine Tr.drawD (n := 61) (m := 22) (es := [some (Ent.mk [(11, (pEq (.int .i64 v12)))] (pEq (.int .i64 v12)) true), some (Ent.mk [(2, (pEq (.int .i64 item_2)))] (pEq (.int .i64 item_2)) true), some (Ent.mk [(30, (pEq (.int .i64 v12))), (31, (pEq (.int .i64 item_2)))] (pEq (.bool (v12 != item_2))) true), some (Ent.mk [(32, (pEq (.bool (v12 != item_2))))] (pEq (.bool (v12 != item_2))) true), some (Ent.mk [(12, (pEq (.int .i64 x14)))] (pEq (.int .i64 x14)) true), some (Ent.mk [(34, (pEq (.int .i64 x14)))] (pEq (.bool (decide ((0 : Int) ≤ x14)))) true), some (Ent.mk [(33, (pEq (.bool (v12 != item_2)))), (35, (pEq (.bool (decide ((0 : Int) ≤ x14)))))] (pEq (.bool (decide ((0 : Int) ≤ x14)))) true), some (Ent.mk [(36, (pEq (.bool (decide ((0 : Int) ≤ x14)))))] (pEq (.bool (decide ((0 : Int) ≤ x14)))) true), some (Ent.mk [(9, (pEq (.int .i64 x8)))] (pEq undef) false), some (Ent.mk [(12, (pEq (.int .i64 x14)))] (pEq undef) false), some (Ent.mk [(38, (pEq undef)), (39, (pEq undef))] (pEq undef) false), some (Ent.mk [(40, (pEq undef))] (pEq undef) false), some (Ent.mk [(3, (pPtr (cGProblem p_0)))] (pEq undef) false), some (Ent.mk [(42, (pEq undef))] (pEq undef) false), some (Ent.mk [(2, (pEq (.int .i64 item_2)))] (pEq undef) false), some (Ent.mk [(43, (pEq undef)), (44, (pEq undef))] (pEq undef) false), some (Ent.mk [(45, (pEq undef))] (pEq undef) false), some (Ent.mk [(11, (pEq (.int .i64 v12)))] (pEq undef) false), some (Ent.mk [(46, (pEq undef)), (47, (pEq undef))] (pEq undef) false), some (Ent.mk [(48, (pEq undef))] (pEq undef) false), some (Ent.mk [(41, (pEq undef)), (49, (pEq undef))] (pEq undef) false), some (Ent.mk [(37, (pEq (.bool (decide ((0 : Int) ≤ x14))))), (50, (pEq undef))] (pEq (.bool false)) true)]) (rd := [[11], [2], [30, 31], [32], [12], [34], [33, 35], [36], [9], [12], [38, 39], [40], [3], [42], [2], [43, 44], [45], [11], [46, 47], [48], [41, 49], [37, 50]]) rfl hmix (by kernel_rfl) fun hD => ?_
                refine RD.fin (es := [Ent.mk [(11, (pEq (.int .i64 v12)))] (pEq (.int .i64 v12)) true, Ent.mk [(2, (pEq (.int .i64 item_2)))] (pEq (.int .i64 item_2)) true, Ent.mk [(30, (pEq (.int .i64 v12))), (31, (pEq (.int .i64 item_2)))] (pEq (.bool (v12 != item_2))) true, Ent.mk [(32, (pEq (.bool (v12 != item_2))))] (pEq (.bool (v12 != item_2))) true, Ent.mk [(12, (pEq (.int .i64 x14)))] (pEq (.int .i64 x14)) true, Ent.mk [(34, (pEq (.int .i64 x14)))] (pEq (.bool (decide ((0 : Int) ≤ x14)))) true, Ent.mk [(33, (pEq (.bool (v12 != item_2)))), (35, (pEq (.bool (decide ((0 : Int) ≤ x14)))))] (pEq (.bool (decide ((0 : Int) ≤ x14)))) true, Ent.mk [(36, (pEq (.bool (decide ((0 : Int) ≤ x14)))))] (pEq (.bool (decide ((0 : Int) ≤ x14)))) true, Ent.mk [(9, (pEq (.int .i64 x8)))] (pEq undef) false, Ent.mk [(12, (pEq (.int .i64 x14)))] (pEq undef) false, Ent.mk [(38, (pEq undef)), (39, (pEq undef))] (pEq undef) false, Ent.mk [(40, (pEq undef))] (pEq undef) false, Ent.mk [(3, (pPtr (cGProblem p_0)))] (pEq undef) false, Ent.mk [(42, (pEq undef))] (pEq undef) false, Ent.mk [(2, (pEq (.int .i64 item_2)))] (pEq undef) false, Ent.mk [(43, (pEq undef)), (44, (pEq undef))] (pEq undef) false, Ent.mk [(45, (pEq undef))] (pEq undef) false, Ent.mk [(11, (pEq (.int .i64 v12)))] (pEq undef) false, Ent.mk [(46, (pEq undef)), (47, (pEq undef))] (pEq undef) false, Ent.mk [(48, (pEq undef))] (pEq undef) false, Ent.mk [(41, (pEq undef)), (49, (pEq undef))] (pEq undef) false, Ent.mk [(37, (pEq (.bool (decide ((0 : Int) ≤ x14))))), (50, (pEq undef))] (pEq (.bool false)) true]) (done := []) hD ⟨.inr ⟨(OpJ.w (J_move rfl (Opd.tmp rfl))), ⟨rfl, trivial⟩, rfl, rfl⟩, ⟨.inr ⟨(OpJ.w (J_move rfl (Opd.tmp rfl))), ⟨rfl, trivial⟩, rfl, rfl⟩, ⟨.inr ⟨(OpJ.w (J_bin rfl (Opd.tmp rfl) (Opd.tmp rfl) B_neq)), ⟨rfl, rfl, trivial⟩, rfl, rfl⟩, ⟨.inr ⟨(OpJ.w (J_move rfl (Opd.tmp rfl))), ⟨rfl, trivial⟩, rfl, rfl⟩, ⟨.inr ⟨(OpJ.w (J_move rfl (Opd.tmp rfl))), ⟨rfl, trivial⟩, (.inl ⟨_, rfl, by simp [hc16]⟩), rfl⟩, ⟨.inr ⟨(OpJ.w (J_bin rfl (Opd.tmp rfl) Opd.con B_geq)), ⟨rfl, trivial⟩, (.inl ⟨_, rfl, by simp [hc16]⟩), rfl⟩, ⟨.inr ⟨(OpJ.w (J_pick rfl (Opd.tmp rfl) (fun _ => (Opd.tmp rfl)) (fun hf => absurd (hc16.symm.trans hf) (by decide)))), ⟨rfl, rfl, trivial⟩, rfl, rfl⟩, ⟨.inr ⟨(OpJ.w (J_move rfl (Opd.tmp rfl))), ⟨rfl, trivial⟩, rfl, rfl⟩, ⟨.inr ⟨rfl, ⟨rfl, trivial⟩, (.inl ⟨_, rfl, by simp [hc17]⟩), rfl⟩, ⟨.inr ⟨rfl, ⟨rfl, trivial⟩, (.inl ⟨_, rfl, by simp [hc17]⟩), rfl⟩, ⟨.inr ⟨rfl, ⟨rfl, rfl, trivial⟩, (.inl ⟨_, rfl, by simp [hc17]⟩), rfl⟩, ⟨.inr ⟨rfl, ⟨rfl, trivial⟩, (.inl ⟨_, rfl, by simp [hc17]⟩), rfl⟩, ⟨.inr ⟨rfl, ⟨rfl, trivial⟩, (.inl ⟨_, rfl, by simp [hc17]⟩), rfl⟩, ⟨.inr ⟨rfl, ⟨rfl, trivial⟩, (.inl ⟨_, rfl, by simp [hc17]⟩), rfl⟩, ⟨.inr ⟨rfl, ⟨rfl, trivial⟩, (.inl ⟨_, rfl, by simp [hc17]⟩), rfl⟩, ⟨.inr ⟨rfl, ⟨rfl, rfl, trivial⟩, (.inl ⟨_, rfl, by simp [hc17]⟩), rfl⟩, ⟨.inr ⟨rfl, ⟨rfl, trivial⟩, (.inl ⟨_, rfl, by simp [hc17]⟩), rfl⟩, ⟨.inr ⟨rfl, ⟨rfl, trivial⟩, (.inl ⟨_, rfl, by simp [hc17]⟩), rfl⟩, ⟨.inr ⟨rfl, ⟨rfl, rfl, trivial⟩, (.inl ⟨_, rfl, by simp [hc17]⟩), rfl⟩, ⟨.inr ⟨rfl, ⟨rfl, trivial⟩, (.inl ⟨_, rfl, by simp [hc17]⟩), rfl⟩, ⟨.inr ⟨rfl, ⟨rfl, rfl, trivial⟩, (.inl ⟨_, rfl, by simp [hc17]⟩), rfl⟩, ⟨.inr ⟨(OpJ.w (J_pick rfl (Opd.tmp rfl) (fun hf => absurd (hc17.symm.trans hf) (by decide)) (fun _ => Opd.con))), ⟨rfl, rfl, trivial⟩, rfl, rfl⟩, trivial⟩⟩⟩⟩⟩⟩⟩⟩⟩⟩⟩⟩⟩⟩⟩⟩⟩⟩⟩⟩⟩⟩ ?_
                refine RegL.nil ?_
                replace h := Option.some.inj h; subst h
                exact Ct.mid () rfl ⟨rfl, rfl, rfl, rfl, rfl, rfl, rfl, rfl, rfl, rfl, rfl, rfl, rfl, trivial⟩
            · replace h := bif_f hc16 h
              refine Tr.drawD (n := 61) (m := 22) (es := [some (Ent.mk [(11, (pEq (.int .i64 v12)))] (pEq (.int .i64 v12)) true), some (Ent.mk [(2, (pEq (.int .i64 item_2)))] (pEq (.int .i64 item_2)) true), some (Ent.mk [(30, (pEq (.int .i64 v12))), (31, (pEq (.int .i64 item_2)))] (pEq (.bool (v12 != item_2))) true), some (Ent.mk [(32, (pEq (.bool (v12 != item_2))))] (pEq (.bool (v12 != item_2))) true), some (Ent.mk [(12, (pEq (.int .i64 x14)))] (pEq undef) false), some (Ent.mk [(34, (pEq undef))] (pEq undef) false), some (Ent.mk [(33, (pEq (.bool (v12 != item_2)))), (35, (pEq undef))] (pEq (.bool false)) true), some (Ent.mk [(36, (pEq (.bool false)))] (pEq (.bool false)) true), some (Ent.mk [(9, (pEq (.int .i64 x8)))] (pEq undef) false), some (Ent.mk [(12, (pEq (.int .i64 x14)))] (pEq undef) false), some (Ent.mk [(38, (pEq undef)), (39, (pEq undef))] (pEq undef) false), some (Ent.mk [(40, (pEq undef))] (pEq undef) false), some (Ent.mk [(3, (pPtr (cGProblem p_0)))] (pEq undef) false), some (Ent.mk [(42, (pEq undef))] (pEq undef) false), some (Ent.mk [(2, (pEq (.int .i64 item_2)))] (pEq undef) false), some (Ent.mk [(43, (pEq undef)), (44, (pEq undef))] (pEq undef) false), some (Ent.mk [(45, (pEq undef))] (pEq undef) false), some (Ent.mk [(11, (pEq (.int .i64 v12)))] (pEq undef) false), some (Ent.mk [(46, (pEq undef)), (47, (pEq undef))] (pEq undef) false), some (Ent.mk [(48, (pEq undef))] (pEq undef) false), some (Ent.mk [(41, (pEq undef)), (49, (pEq undef))] (pEq undef) false), some (Ent.mk [(37, (pEq (.bool false))), (50, (pEq undef))] (pEq (.bool false)) true)]) (rd := [[11], [2], [30, 31], [32], [12], [34], [33, 35], [36], [9], [12], [38, 39], [40], [3], [42], [2], [43, 44], [45], [11], [46, 47], [48], [41, 49], [37, 50]]) rfl hmix (by kernel_rfl) fun hD => ?_
              refine RD.fin (es := [Ent.mk [(11, (pEq (.int .i64 v12)))] (pEq (.int .i64 v12)) true, Ent.mk [(2, (pEq (.int .i64 item_2)))] (pEq (.int .i64 item_2)) true, Ent.mk [(30, (pEq (.int .i64 v12))), (31, (pEq (.int .i64 item_2)))] (pEq (.bool (v12 != item_2))) true, Ent.mk [(32, (pEq (.bool (v12 != item_2))))] (pEq (.bool (v12 != item_2))) true, Ent.mk [(12, (pEq (.int .i64 x14)))] (pEq undef) false, Ent.mk [(34, (pEq undef))] (pEq undef) false, Ent.mk [(33, (pEq (.bool (v12 != item_2)))), (35, (pEq undef))] (pEq (.bool false)) true, Ent.mk [(36, (pEq (.bool false)))] (pEq (.bool false)) true, Ent.mk [(9, (pEq (.int .i64 x8)))] (pEq undef) false, Ent.mk [(12, (pEq (.int .i64 x14)))] (pEq undef) false, Ent.mk [(38, (pEq undef)), (39, (pEq undef))] (pEq undef) false, Ent.mk [(40, (pEq undef))] (pEq undef) false, Ent.mk [(3, (pPtr (cGProblem p_0)))] (pEq undef) false, Ent.mk [(42, (pEq undef))] (pEq undef) false, Ent.mk [(2, (pEq (.int .i64 item_2)))] (pEq undef) false, Ent.mk [(43, (pEq undef)), (44, (pEq undef))] (pEq undef) false, Ent.mk [(45, (pEq undef))] (pEq undef) false, Ent.mk [(11, (pEq (.int .i64 v12)))] (pEq undef) false, Ent.mk [(46, (pEq undef)), (47, (pEq undef))] (pEq undef) false, Ent.mk [(48, (pEq undef))] (pEq undef) false, Ent.mk [(41, (pEq undef)), (49, (pEq undef))] (pEq undef) false, Ent.mk [(37, (pEq (.bool false))), (50, (pEq undef))] (pEq (.bool false)) true]) (done := []) hD ⟨.inr ⟨(OpJ.w (J_move rfl (Opd.tmp rfl))), ⟨rfl, trivial⟩, rfl, rfl⟩, ⟨.inr ⟨(OpJ.w (J_move rfl (Opd.tmp rfl))), ⟨rfl, trivial⟩, rfl, rfl⟩, ⟨.inr ⟨(OpJ.w (J_bin rfl (Opd.tmp rfl) (Opd.tmp rfl) B_neq)), ⟨rfl, rfl, trivial⟩, rfl, rfl⟩, ⟨.inr ⟨(OpJ.w (J_move rfl (Opd.tmp rfl))), ⟨rfl, trivial⟩, rfl, rfl⟩, ⟨.inr ⟨rfl, ⟨rfl, trivial⟩, (.inl ⟨_, rfl, by simp [hc16]⟩), rfl⟩, ⟨.inr ⟨rfl, ⟨rfl, trivial⟩, (.inl ⟨_, rfl, by simp [hc16]⟩), rfl⟩, ⟨.inr ⟨(OpJ.w (J_pick rfl (Opd.tmp rfl) (fun hf => absurd (hc16.symm.trans hf) (by decide)) (fun _ => Opd.con))), ⟨rfl, rfl, trivial⟩, rfl, rfl⟩, ⟨.inr ⟨(OpJ.w (J_move rfl (Opd.tmp rfl))), ⟨rfl, trivial⟩, rfl, rfl⟩, ⟨.inr ⟨rfl, ⟨rfl, trivial⟩, (.inl ⟨_, rfl, rfl⟩), rfl⟩, ⟨.inr ⟨rfl, ⟨rfl, trivial⟩, (.inl ⟨_, rfl, rfl⟩), rfl⟩, ⟨.inr ⟨rfl, ⟨rfl, rfl, trivial⟩, (.inl ⟨_, rfl, rfl⟩), rfl⟩, ⟨.inr ⟨rfl, ⟨rfl, trivial⟩, (.inl ⟨_, rfl, rfl⟩), rfl⟩, ⟨.inr ⟨rfl, ⟨rfl, trivial⟩, (.inl ⟨_, rfl, rfl⟩), rfl⟩, ⟨.inr ⟨rfl, ⟨rfl, trivial⟩, (.inl ⟨_, rfl, rfl⟩), rfl⟩, ⟨.inr ⟨rfl, ⟨rfl, trivial⟩, (.inl ⟨_, rfl, rfl⟩), rfl⟩, ⟨.inr ⟨rfl, ⟨rfl, rfl, trivial⟩, (.inl ⟨_, rfl, rfl⟩), rfl⟩, ⟨.inr ⟨rfl, ⟨rfl, trivial⟩, (.inl ⟨_, rfl, rfl⟩), rfl⟩, ⟨.inr ⟨rfl, ⟨rfl, trivial⟩, (.inl ⟨_, rfl, rfl⟩), rfl⟩, ⟨.inr ⟨rfl, ⟨rfl, rfl, trivial⟩, (.inl ⟨_, rfl, rfl⟩), rfl⟩, ⟨.inr ⟨rfl, ⟨rfl, trivial⟩, (.inl ⟨_, rfl, rfl⟩), rfl⟩, ⟨.inr ⟨rfl, ⟨rfl, rfl, trivial⟩, (.inl ⟨_, rfl, rfl⟩), rfl⟩, ⟨.inr ⟨(OpJ.w (J_pick rfl (Opd.tmp rfl) (fun hf => absurd hf (by decide)) (fun _ => Opd.con))), ⟨rfl, rfl, trivial⟩, rfl, rfl⟩, trivial⟩⟩⟩⟩⟩⟩⟩⟩⟩⟩⟩⟩⟩⟩⟩⟩⟩⟩⟩⟩⟩⟩ ?_
              refine RegL.nil ?_
              replace h := Option.some.inj h; subst h
              exact Ct.mid () rfl ⟨rfl, rfl, rfl, rfl, rfl, rfl, rfl, rfl, rfl, rfl, rfl, rfl, rfl, trivial⟩
          · clear hx15
            refine Ct.then_tr ?_
            refine Tr.weak (Γ' := [(1, (pSl 1 (cK .i64) list_1)), (2, (pEq (.int .i64 item_2))), (3, (pPtr (cGProblem p_0))), (7, (pEq (.slice g7.1 g7.2.1 g7.2.2))), (9, (pEq (.int .i64 x8))), (10, (pEq (.bool v11))), (17, (pSl 1 (cK .i64) x1)), (18, (pEq (.int .i64 (x1.length : Int)))), (19, (pEq (.int .i64 v5))), (23, (pSl 1 (cK .i64) list_1)), (24, (pEq (.int .i64 (list_1.length : Int)))), (25, (pEq (.int .i64 v12))), (51, (pEq (.bool x15)))]) ⟨rfl, rfl, rfl, rfl, rfl, rfl, rfl, rfl, rfl, rfl, rfl, rfl, rfl, trivial⟩ ?_
            replace h := bind_some h; obtain ⟨x22, hx22, h⟩ := h
            refine Tr.cut (γ := Unit) (Γm := fun g => [(1, (pSl 1 (cK .i64) list_1)), (2, (pEq (.int .i64 item_2))), (3, (pPtr (cGProblem p_0))), (7, (pEq (.slice g7.1 g7.2.1 g7.2.2))), (9, (pEq (.int .i64 x8))), (10, (pEq (.bool x22))), (17, (pSl 1 (cK .i64) x1)), (18, (pEq (.int .i64 (x1.length : Int)))), (19, (pEq (.int .i64 v5))), (23, (pSl 1 (cK .i64) list_1)), (24, (pEq (.int .i64 (list_1.length : Int)))), (25, (pEq (.int .i64 v12)))]) (Ωm := fun g => [oSl 2 1 (cK .i64) g7.1 g7.2.1 g7.2.2 v6]) ?_ (fun g23 => ?_)
            · clear h
              have h := hx22
              clear hx22
              refine Tr.cond (Opd.tmp rfl) (fun hc => ?_) (fun hc => ?_)
              · replace h := bif_t hc h
                refine Tr.region ?_
                refine RegL.pure (p := (pEq (.bool true))) rfl rfl rfl (J_assign rfl Opd.con) ?_
                refine RegL.nil ?_
                replace h := Option.some.inj h; subst h
                exact Ct.mid () rfl ⟨rfl, rfl, rfl, rfl, rfl, rfl, rfl, rfl, rfl, rfl, rfl, rfl, trivial⟩
              · replace h := bif_f hc h
                refine Tr.skip ?_
                replace h := Option.some.inj h; subst h
                exact Ct.mid () rfl ⟨rfl, rfl, rfl, rfl, rfl, rfl, rfl, rfl, rfl, rfl, rfl, rfl, trivial⟩
            · clear hx22
              refine Ct.blk_normal ?_
              refine Ct.then_tr ?_
              refine Tr.weak (Γ' := [(1, (pSl 1 (cK .i64) list_1)), (2, (pEq (.int .i64 item_2))), (3, (pPtr (cGProblem p_0))), (7, (pEq (.slice g7.1 g7.2.1 g7.2.2))), (9, (pEq (.int .i64 x8))), (10, (pEq (.bool x22))), (17, (pSl 1 (cK .i64) x1)), (18, (pEq (.int .i64 (x1.length : Int)))), (19, (pEq (.int .i64 v5))), (23, (pSl 1 (cK .i64) list_1)), (24, (pEq (.int .i64 (list_1.length : Int)))), (25, (pEq (.int .i64 v12)))]) ⟨rfl, rfl, rfl, rfl, rfl, rfl, rfl, rfl, rfl, rfl, rfl, rfl, trivial⟩ ?_
              refine Tr.region ?_
              refine RegL.pure (p := (pEq (.int .i64 (w64 (v12 + (1 : Int)))))) rfl rfl rfl (J_bin rfl (Opd.tmp rfl) Opd.con B_add) ?_
              refine RegL.pure (p := (pEq (.int .i64 (w64 (v12 + (1 : Int)))))) rfl rfl rfl (J_move rfl (Opd.tmp rfl)) ?_
              refine RegL.nil ?_
              replace h := Option.some.inj h; subst h
              exact Ct.again () rfl ⟨rfl, rfl, rfl, rfl, rfl, rfl, rfl, rfl, rfl, rfl, rfl, rfl, trivial⟩
        · replace h := bif_f hc h
          refine Tr.exit ?_
          refine Ct.then_exit ?_
          replace h := map_some h; obtain ⟨r1, h, rfl⟩ := h
          refine Ct.out_exit fun e => ?_
          subst e
          refine Ct.blk_exit ?_
          replace h := Option.some.inj h; subst h
          exact Ct.mid () rfl ⟨rfl, rfl, rfl, rfl, rfl, rfl, rfl, rfl, rfl, trivial⟩
      · clear hx9
        refine Ct.then_tr ?_
        refine Tr.weak (Γ' := [(1, (pSl 1 (cK .i64) list_1)), (2, (pEq (.int .i64 item_2))), (3, (pPtr (cGProblem p_0))), (7, (pEq (.slice g7.1 g7.2.1 g7.2.2))), (9, (pEq (.int .i64 x8))), (10, (pEq (.bool x9))), (17, (pSl 1 (cK .i64) x1)), (18, (pEq (.int .i64 (x1.length : Int)))), (19, (pEq (.int .i64 v5)))]) ⟨rfl, rfl, rfl, rfl, rfl, rfl, rfl, rfl, rfl, trivial⟩ ?_
        refine Tr.seq ?_
        refine Tr.region ?_
        refine RegL.pure (p := (pEq (.bool x9))) rfl rfl rfl (J_move rfl (Opd.tmp rfl)) ?_
        refine RegL.pure (p := (pEq (.bool (!x9)))) rfl rfl rfl (J_not rfl (Opd.tmp rfl)) ?_
        refine RegL.nil ?_
        refine Ct.then_tr ?_
        refine Tr.weak (Γ' := [(1, (pSl 1 (cK .i64) list_1)), (2, (pEq (.int .i64 item_2))), (3, (pPtr (cGProblem p_0))), (7, (pEq (.slice g7.1 g7.2.1 g7.2.2))), (9, (pEq (.int .i64 x8))), (17, (pSl 1 (cK .i64) x1)), (18, (pEq (.int .i64 (x1.length : Int)))), (19, (pEq (.int .i64 v5))), (54, (pEq (.bool (!x9))))]) ⟨rfl, rfl, rfl, rfl, rfl, rfl, rfl, rfl, rfl, trivial⟩ ?_
        replace h := bind_some h; obtain ⟨x25, hx25, h⟩ := h
        refine Tr.cut (γ := G3) (Γm := fun g => [(1, (pSl 1 (cK .i64) list_1)), (2, (pEq (.int .i64 item_2))), (3, (pPtr (cGProblem p_0))), (7, (pEq (.slice g.1 g.2.1 g.2.2))), (17, (pSl 1 (cK .i64) x1)), (18, (pEq (.int .i64 (x1.length : Int)))), (19, (pEq (.int .i64 v5)))]) (Ωm := fun g => [oSl 2 1 (cK .i64) g.1 g.2.1 g.2.2 x25]) ?_ (fun g28 => ?_)
        · clear h
          have h := hx25
          clear hx25
          refine Tr.cond (Opd.tmp rfl) (fun hc => ?_) (fun hc => ?_)
          · replace h := bif_t hc h
            refine Tr.region ?_
            refine RegL.pure (p := (pEq (.slice g7.1 g7.2.1 g7.2.2))) rfl rfl rfl (J_move rfl (Opd.tmp rfl)) ?_
            refine RegL.pure (p := (pEq (.int .i64 x8))) rfl rfl rfl (J_move rfl (Opd.tmp rfl)) ?_
            refine RegL.pure (p := (pSl 1 (cK .i64) ([x8] : (List Int)))) rfl rfl rfl (J_buildSlice (l := ([x8] : (List Int))) (qss := [(0, (cK .i64) x8)]) rfl Try.underlying25 el2 rfl (Parts.cons (Part.one (Opd.tmp rfl) OneC.int) Parts.nil) rfl rfl) ?_
            replace h := bind_some h; obtain ⟨x26, hx26, h⟩ := h
            refine RegL.step (γ := Option Addr × Nat) (p := fun g => pEq (.slice g.1 x26.length g.2)) (Ω' := fun g => [oSl 2 1 (cK .i64) g.1 x26.length g.2 x26]) rfl rfl rfl (M_appendI rfl Try.underlying25 el2 (Opd.tmp rfl) (Opd.tmp rfl) hx26) fun g27 => ?_
            refine RegL.pure (p := (pEq (.slice g27.1 x26.length g27.2))) rfl rfl rfl (J_assign rfl (Opd.tmp rfl)) ?_
            refine RegL.nil ?_
            replace h := Option.some.inj h; subst h
            exact Ct.mid (g27.1, x26.length, g27.2) rfl ⟨rfl, rfl, rfl, rfl, rfl, rfl, rfl, trivial⟩
          · replace h := bif_f hc h
            refine Tr.skip ?_
            replace h := Option.some.inj h; subst h
            exact Ct.mid (g7.1, g7.2.1, g7.2.2) rfl ⟨rfl, rfl, rfl, rfl, rfl, rfl, rfl, trivial⟩
        · clear hx25
          refine Ct.blk_normal ?_
          refine Ct.then_tr ?_
          refine Tr.weak (Γ' := [(1, (pSl 1 (cK .i64) list_1)), (2, (pEq (.int .i64 item_2))), (3, (pPtr (cGProblem p_0))), (7, (pEq (.slice g28.1 g28.2.1 g28.2.2))), (17, (pSl 1 (cK .i64) x1)), (18, (pEq (.int .i64 (x1.length : Int)))), (19, (pEq (.int .i64 v5)))]) ⟨rfl, rfl, rfl, rfl, rfl, rfl, rfl, trivial⟩ ?_
          refine Tr.region ?_
          refine RegL.pure (p := (pEq (.int .i64 (w64 (v5 + (1 : Int)))))) rfl rfl rfl (J_bin rfl (Opd.tmp rfl) Opd.con B_add) ?_
          refine RegL.pure (p := (pEq (.int .i64 (w64 (v5 + (1 : Int)))))) rfl rfl rfl (J_move rfl (Opd.tmp rfl)) ?_
          refine RegL.nil ?_
          replace h := Option.some.inj h; subst h
          exact Ct.again (g28.1, g28.2.1, g28.2.2) rfl ⟨rfl, rfl, rfl, rfl, rfl, rfl, rfl, trivial⟩
    · replace h := bif_f hc h
      refine Tr.exit ?_
      refine Ct.then_exit ?_
      replace h := map_some h; obtain ⟨r1, h, rfl⟩ := h
      refine Ct.out_exit fun e => ?_
      subst e
      refine Ct.blk_exit ?_
      replace h := Option.some.inj h; subst h
      exact Ct.mid (g7.1, g7.2.1, g7.2.2) rfl ⟨rfl, trivial⟩
  · clear hx3
    refine Ct.then_tr ?_
    refine Tr.weak (Γ' := [(7, (pEq (.slice g29.1 g29.2.1 g29.2.2)))]) ⟨rfl, trivial⟩ ?_
    refine Tr.seq ?_
    refine Tr.region ?_
    refine RegL.pure (p := (pEq (.slice g29.1 g29.2.1 g29.2.2))) rfl rfl rfl (J_move rfl (Opd.tmp rfl)) ?_
    refine RegL.pure (p := (pEq (.slice g29.1 g29.2.1 g29.2.2))) rfl rfl rfl (J_assign rfl (Opd.tmp rfl)) ?_
    refine RegL.nil ?_
    refine Ct.then_tr ?_
    refine Tr.weak (Γ' := [(6, (pEq (.slice g29.1 g29.2.1 g29.2.2)))]) ⟨rfl, trivial⟩ ?_
    refine Tr.ret ?_
    replace h := Option.some.inj h; subst h
    exact Ct.retH1 (Ωx := []) (g29.1, g29.2.1, g29.2.2) rfl (RvOk.tmp rfl) rfl

theorem c_impl_Problem_choices {p_0 : GProblem} {list_1 : (List Int)} {item_2 : Int} {r : (List Int)} (h : m_impl_Problem_choices p_0 list_1 item_2 = some r) : CallJ Try.prog 59 [(pAgg (cGProblem p_0)), (pSl 1 (cK .i64) list_1), (pEq (.int .i64 item_2))] (pSl 1 (cK .i64) r) :=
  CallH.frozen (o_impl_Problem_choices h) (fun g => (Conv.row (f := (cK .i64)) 0 (fun _ => rfl) rfl))


end Go.Proofs.Ytcofngddgljhdaa.fnExactLeastSpanW
