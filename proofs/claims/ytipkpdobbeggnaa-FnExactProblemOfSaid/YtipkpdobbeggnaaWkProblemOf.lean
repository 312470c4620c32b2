/-
  The walks that the law FnExactProblemOf reaches: each function computes its model. Printed by our own program.
-/
import Derived.Test.YtipkpdobbeggnaaProg
import Derived.Test.YtipkpdobbeggnaaMod
import Derived.Test.YtipkpdobbeggnaaCopy
import Derived.KernelRfl
import Derived.Test.YtipkpdobbeggnaaWkProblemOfb
namespace Go.Proofs.Ytipkpdobbeggnaa.fnExactProblemOfW
open Go Go.RowKit Go.Wk
set_option linter.unusedVariables false
set_option maxRecDepth 100000


theorem c_laws_heldInt64SS {a_0 : (List (List Int))} {k_1 : Int} {r : Int} (h : m_laws_heldInt64SS a_0 k_1 = some r) : CallJ Try.prog 16 [(pSl 1 (cSl 1 (cK .i64)) a_0), (pEq (.int .i64 k_1))] (pEq (.int .i64 r)) := by
  unfold m_laws_heldInt64SS at h
  refine CallJ.enterH Try.func16 rfl Try.ntmps16 rfl fun W I0 H => ?_
  refine Tr.weak (Γ' := [(0, (pSl 1 (cSl 1 (cK .i64)) a_0)), (1, (pEq (.int .i64 k_1)))]) ⟨rfl, rfl, trivial⟩ ?_
  refine Tr.seq ?_
  refine Tr.region ?_
  refine RegL.pure (p := (pEq (.int .i64 (0 : Int)))) rfl rfl rfl (J_assign rfl Opd.con) ?_
  refine RegL.nil ?_
  refine Ct.then_tr ?_
  refine Tr.weak (Γ' := [(0, (pSl 1 (cSl 1 (cK .i64)) a_0)), (1, (pEq (.int .i64 k_1)))]) ⟨rfl, rfl, trivial⟩ ?_
  refine Tr.seq ?_
  refine Tr.seq ?_
  refine Tr.region ?_
  refine RegL.pure (p := (pEq (.int .i64 (0 : Int)))) rfl rfl rfl (J_assign rfl Opd.con) ?_
  refine RegL.nil ?_
  refine Ct.then_tr ?_
  refine Tr.weak (Γ' := [(0, (pSl 1 (cSl 1 (cK .i64)) a_0)), (1, (pEq (.int .i64 k_1))), (5, (pEq (.int .i64 (0 : Int))))]) ⟨rfl, rfl, rfl, trivial⟩ ?_
  refine Tr.block ?_
  refine Tr.weak (Γ' := [(0, (pSl 1 (cSl 1 (cK .i64)) a_0)), (1, (pEq (.int .i64 k_1))), (5, (pEq (.int .i64 (0 : Int))))]) ⟨rfl, rfl, rfl, trivial⟩ ?_
  refine Tr.loop (γ := Unit) (σ := (Int × Int)) (Γσ := fun s g => [(0, (pSl 1 (cSl 1 (cK .i64)) a_0)), (1, (pEq (.int .i64 s.1))), (5, (pEq (.int .i64 s.2)))]) (Ωσ := fun s g => []) (g := ()) h ?_
  clear h
  rintro ⟨v2, v3⟩ g4 t h
  replace h : m_laws_heldInt64SS_B1 a_0 v2 v3 = some t := h
  unfold m_laws_heldInt64SS_B1 at h
  refine Tr.weakO (Γ' := [(0, (pSl 1 (cSl 1 (cK .i64)) a_0)), (1, (pEq (.int .i64 v2))), (5, (pEq (.int .i64 v3)))]) (Ω' := []) rfl ⟨rfl, rfl, rfl, trivial⟩ ?_
  refine Tr.seq ?_
  refine Tr.seq ?_
  refine Tr.region ?_
  refine RegL.pure (p := (pEq (.int .i64 v3))) rfl rfl rfl (J_move rfl (Opd.tmp rfl)) ?_
  refine RegL.pure (p := (pSl 1 (cSl 1 (cK .i64)) a_0)) rfl rfl rfl (J_move rfl (Opd.tmp rfl)) ?_
  refine RegL.pure (p := (pEq (.int .i64 (a_0.length : Int)))) rfl rfl rfl (J_len rfl Try.underlying22 (Opd.tmp rfl) rfl) ?_
  refine RegL.pure (p := (pEq (.bool (decide (v3 < (a_0.length : Int)))))) rfl rfl rfl (J_bin rfl (Opd.tmp rfl) (Opd.tmp rfl) B_lss) ?_
  refine RegL.nil ?_
  refine Ct.then_tr ?_
  refine Tr.weak (Γ' := [(0, (pSl 1 (cSl 1 (cK .i64)) a_0)), (1, (pEq (.int .i64 v2))), (5, (pEq (.int .i64 v3))), (9, (pEq (.bool (decide (v3 < (a_0.length : Int))))))]) ⟨rfl, rfl, rfl, rfl, trivial⟩ ?_
  refine Tr.cond (Opd.tmp rfl) (fun hc => ?_) (fun hc => ?_)
  · replace h := bif_t hc h
    refine Tr.skip ?_
    refine Ct.then_tr ?_
    refine Tr.weak (Γ' := [(0, (pSl 1 (cSl 1 (cK .i64)) a_0)), (1, (pEq (.int .i64 v2))), (5, (pEq (.int .i64 v3)))]) ⟨rfl, rfl, rfl, trivial⟩ ?_
    refine Tr.seq ?_
    refine Tr.block ?_
    refine Tr.seq ?_
    refine Tr.region ?_
    refine RegL.pure (p := (pSl 1 (cSl 1 (cK .i64)) a_0)) rfl rfl rfl (J_move rfl (Opd.tmp rfl)) ?_
    refine RegL.pure (p := (pEq (.int .i64 v3))) rfl rfl rfl (J_move rfl (Opd.tmp rfl)) ?_
    replace h := bind_some h; obtain ⟨x5, hx5, h⟩ := h
    refine RegL.pure (p := (pPtr ((cSl 1 (cK .i64)) x5))) rfl rfl rfl (J_idx rfl Try.underlying22 sz23 (Opd.tmp rfl) (Opd.tmp rfl) hx5) ?_
    refine RegL.pure (p := (pSl 1 (cK .i64) x5)) rfl rfl rfl (J_load rfl Try.isAgg23 (Opd.tmp rfl)) ?_
    refine RegL.pure (p := (pEq (.int .i64 v2))) rfl rfl rfl (J_move rfl (Opd.tmp rfl)) ?_
    replace h := bind_some h; obtain ⟨x6, hx6, h⟩ := h
    refine RegL.pure (p := (pEq (.int .i64 x6))) rfl rfl rfl (J_call rfl Try.call41 (c_laws_heldInt64S hx6) (Opds.cons (Opd.tmp rfl) (Opds.cons (Opd.tmp rfl) Opds.nil))) ?_
    refine RegL.pure (p := (pEq (.int .i64 x6))) rfl rfl rfl (J_assign rfl (Opd.tmp rfl)) ?_
    refine RegL.nil ?_
    refine Ct.then_tr ?_
    refine Tr.weak (Γ' := [(0, (pSl 1 (cSl 1 (cK .i64)) a_0)), (1, (pEq (.int .i64 x6))), (5, (pEq (.int .i64 v3)))]) ⟨rfl, rfl, rfl, trivial⟩ ?_
    refine Tr.seq ?_
    refine Tr.region ?_
    refine RegL.pure (p := (pEq (.int .i64 x6))) rfl rfl rfl (J_move rfl (Opd.tmp rfl)) ?_
    refine RegL.pure (p := (pEq (.bool (decide (x6 < (0 : Int)))))) rfl rfl rfl (J_bin rfl (Opd.tmp rfl) Opd.con B_lss) ?_
    refine RegL.nil ?_
    refine Ct.then_tr ?_
    refine Tr.weak (Γ' := [(0, (pSl 1 (cSl 1 (cK .i64)) a_0)), (1, (pEq (.int .i64 x6))), (5, (pEq (.int .i64 v3))), (19, (pEq (.bool (decide (x6 < (0 : Int))))))]) ⟨rfl, rfl, rfl, rfl, trivial⟩ ?_
    refine Tr.cond (Opd.tmp rfl) (fun hc => ?_) (fun hc => ?_)
    · replace h := bif_t hc h
      refine Tr.seq ?_
      refine Tr.region ?_
      refine RegL.pure (p := (pEq (.int .i64 (-1 : Int)))) rfl rfl rfl (J_assign rfl Opd.con) ?_
      refine RegL.nil ?_
      refine Ct.then_tr ?_
      refine Tr.weak (Γ' := [(4, (pEq (.int .i64 (-1 : Int))))]) ⟨rfl, trivial⟩ ?_
      refine Tr.ret ?_
      refine Ct.blk_ret ?_
      refine Ct.then_ret ?_
      replace h := map_some h; obtain ⟨r1, h, rfl⟩ := h
      refine Ct.out_ret fun e => ?_
      subst e
      refine Ct.blk_ret ?_
      refine Ct.then_ret ?_
      replace h := Option.some.inj h; subst h
      exact Ct.retH1 (Ωx := []) () rfl (RvOk.tmp rfl) rfl
    · replace h := bif_f hc h
      refine Tr.skip ?_
      refine Ct.blk_normal ?_
      refine Ct.then_tr ?_
      refine Tr.weak (Γ' := [(0, (pSl 1 (cSl 1 (cK .i64)) a_0)), (1, (pEq (.int .i64 x6))), (5, (pEq (.int .i64 v3)))]) ⟨rfl, rfl, rfl, trivial⟩ ?_
      refine Tr.region ?_
      refine RegL.pure (p := (pEq (.int .i64 v3))) rfl rfl rfl (J_move rfl (Opd.tmp rfl)) ?_
      refine RegL.pure (p := (pEq (.int .i64 (w64 (v3 + (1 : Int)))))) rfl rfl rfl (J_bin rfl (Opd.tmp rfl) Opd.con B_add) ?_
      refine RegL.pure (p := (pEq (.int .i64 (w64 (v3 + (1 : Int)))))) rfl rfl rfl (J_assign rfl (Opd.tmp rfl)) ?_
      refine RegL.nil ?_
      replace h := Option.some.inj h; subst h
      exact Ct.again () rfl ⟨rfl, rfl, rfl, trivial⟩
  · replace h := bif_f hc h
    refine Tr.exit ?_
    refine Ct.then_exit ?_
    replace h := map_some h; obtain ⟨r1, h, rfl⟩ := h
    refine Ct.out_exit fun e => ?_
    subst e
    refine Ct.blk_exit ?_
    refine Ct.then_tr ?_
    refine Tr.weak (Γ' := [(1, (pEq (.int .i64 v2)))]) ⟨rfl, trivial⟩ ?_
    refine Tr.seq ?_
    refine Tr.region ?_
    refine RegL.pure (p := (pEq (.int .i64 v2))) rfl rfl rfl (J_move rfl (Opd.tmp rfl)) ?_
    refine RegL.pure (p := (pEq (.int .i64 v2))) rfl rfl rfl (J_assign rfl (Opd.tmp rfl)) ?_
    refine RegL.nil ?_
    refine Ct.then_tr ?_
    refine Tr.weak (Γ' := [(4, (pEq (.int .i64 v2)))]) ⟨rfl, trivial⟩ ?_
    refine Tr.ret ?_
    replace h := Option.some.inj h; subst h
    exact Ct.retH1 (Ωx := []) () rfl (RvOk.tmp rfl) rfl

theorem c_laws_heldProblem {a_0 : GProblem} {k_1 : Int} {r : Int} (h : m_laws_heldProblem a_0 k_1 = some r) : CallJ Try.prog 21 [(pAgg (cGProblem a_0)), (pEq (.int .i64 k_1))] (pEq (.int .i64 r)) := by
  unfold m_laws_heldProblem at h
  refine CallJ.enterH Try.func21 rfl Try.ntmps21 rfl fun W I0 H => ?_
  refine Tr.weak (Γ' := [(0, (pAgg (cGProblem a_0))), (1, (pEq (.int .i64 k_1)))]) ⟨rfl, rfl, trivial⟩ ?_
  refine Tr.seq ?_
  refine Tr.region ?_
  refine RegL.pure (p := (pPtr (cGProblem a_0))) rfl rfl rfl (J_boxA rfl (Opd.tmp rfl)) ?_
  refine RegL.pure (p := (pEq (.int .i64 (0 : Int)))) rfl rfl rfl (J_assign rfl Opd.con) ?_
  refine RegL.nil ?_
  refine Ct.then_tr ?_
  refine Tr.weak (Γ' := [(1, (pEq (.int .i64 k_1))), (2, (pPtr (cGProblem a_0)))]) ⟨rfl, rfl, trivial⟩ ?_
  refine Tr.seq ?_
  refine Tr.region ?_
  refine RegL.pure (p := (pPtr ((cSl 1 (cSl 1 (cK .i64))) a_0.Domains))) rfl rfl rfl (J_fieldAddr rfl Try.underlying34 rfl sz22 (by decide) (Opd.tmp rfl) rfl) ?_
  refine RegL.pure (p := (pSl 1 (cSl 1 (cK .i64)) a_0.Domains)) rfl rfl rfl (J_load rfl Try.isAgg22 (Opd.tmp rfl)) ?_
  refine RegL.pure (p := (pEq (.int .i64 k_1))) rfl rfl rfl (J_move rfl (Opd.tmp rfl)) ?_
  replace h := bind_some h; obtain ⟨x1, hx1, h⟩ := h
  refine RegL.pure (p := (pEq (.int .i64 x1))) rfl rfl rfl (J_call rfl Try.call16 (c_laws_heldInt64SS hx1) (Opds.cons (Opd.tmp rfl) (Opds.cons (Opd.tmp rfl) Opds.nil))) ?_
  refine RegL.pure (p := (pEq (.int .i64 x1))) rfl rfl rfl (J_assign rfl (Opd.tmp rfl)) ?_
  refine RegL.nil ?_
  refine Ct.then_tr ?_
  refine Tr.weak (Γ' := [(1, (pEq (.int .i64 x1))), (2, (pPtr (cGProblem a_0)))]) ⟨rfl, rfl, trivial⟩ ?_
  refine Tr.seq ?_
  refine Tr.seq ?_
  refine Tr.region ?_
  refine RegL.pure (p := (pEq (.int .i64 x1))) rfl rfl rfl (J_move rfl (Opd.tmp rfl)) ?_
  refine RegL.pure (p := (pEq (.bool (decide (x1 < (0 : Int)))))) rfl rfl rfl (J_bin rfl (Opd.tmp rfl) Opd.con B_lss) ?_
  refine RegL.nil ?_
  refine Ct.then_tr ?_
  refine Tr.weak (Γ' := [(1, (pEq (.int .i64 x1))), (2, (pPtr (cGProblem a_0))), (10, (pEq (.bool (decide (x1 < (0 : Int))))))]) ⟨rfl, rfl, rfl, trivial⟩ ?_
  refine Tr.cond (Opd.tmp rfl) (fun hc => ?_) (fun hc => ?_)
  · replace h := bif_t hc h
    refine Tr.seq ?_
    refine Tr.region ?_
    refine RegL.pure (p := (pEq (.int .i64 (-1 : Int)))) rfl rfl rfl (J_assign rfl Opd.con) ?_
    refine RegL.nil ?_
    refine Ct.then_tr ?_
    refine Tr.weak (Γ' := [(4, (pEq (.int .i64 (-1 : Int))))]) ⟨rfl, trivial⟩ ?_
    refine Tr.ret ?_
    refine Ct.then_ret ?_
    replace h := Option.some.inj h; subst h
    exact Ct.retH1 (Ωx := []) () rfl (RvOk.tmp rfl) rfl
  · replace h := bif_f hc h
    refine Tr.skip ?_
    refine Ct.then_tr ?_
    refine Tr.weak (Γ' := [(1, (pEq (.int .i64 x1))), (2, (pPtr (cGProblem a_0)))]) ⟨rfl, rfl, trivial⟩ ?_
    refine Tr.seq ?_
    refine Tr.region ?_
    refine RegL.pure (p := (pPtr ((cSl 1 (cSl 1 (cK .i64))) a_0.Apart))) rfl rfl rfl (J_fieldAddr rfl Try.underlying34 rfl sz22 (by decide) (Opd.tmp rfl) rfl) ?_
    refine RegL.pure (p := (pSl 1 (cSl 1 (cK .i64)) a_0.Apart)) rfl rfl rfl (J_load rfl Try.isAgg22 (Opd.tmp rfl)) ?_
    refine RegL.pure (p := (pEq (.int .i64 x1))) rfl rfl rfl (J_move rfl (Opd.tmp rfl)) ?_
    replace h := bind_some h; obtain ⟨x2, hx2, h⟩ := h
    refine RegL.pure (p := (pEq (.int .i64 x2))) rfl rfl rfl (J_call rfl Try.call16 (c_laws_heldInt64SS hx2) (Opds.cons (Opd.tmp rfl) (Opds.cons (Opd.tmp rfl) Opds.nil))) ?_
    refine RegL.pure (p := (pEq (.int .i64 x2))) rfl rfl rfl (J_assign rfl (Opd.tmp rfl)) ?_
    refine RegL.nil ?_
    refine Ct.then_tr ?_
    refine Tr.weak (Γ' := [(1, (pEq (.int .i64 x2)))]) ⟨rfl, trivial⟩ ?_
    refine Tr.seq ?_
    refine Tr.seq ?_
    refine Tr.region ?_
    refine RegL.pure (p := (pEq (.int .i64 x2))) rfl rfl rfl (J_move rfl (Opd.tmp rfl)) ?_
    refine RegL.pure (p := (pEq (.bool (decide (x2 < (0 : Int)))))) rfl rfl rfl (J_bin rfl (Opd.tmp rfl) Opd.con B_lss) ?_
    refine RegL.nil ?_
    refine Ct.then_tr ?_
    refine Tr.weak (Γ' := [(1, (pEq (.int .i64 x2))), (16, (pEq (.bool (decide (x2 < (0 : Int))))))]) ⟨rfl, rfl, trivial⟩ ?_
    refine Tr.cond (Opd.tmp rfl) (fun hc => ?_) (fun hc => ?_)
    · replace h := bif_t hc h
      refine Tr.seq ?_
      refine Tr.region ?_
      refine RegL.pure (p := (pEq (.int .i64 (-1 : Int)))) rfl rfl rfl (J_assign rfl Opd.con) ?_
      refine RegL.nil ?_
      refine Ct.then_tr ?_
      refine Tr.weak (Γ' := [(4, (pEq (.int .i64 (-1 : Int))))]) ⟨rfl, trivial⟩ ?_
      refine Tr.ret ?_
      refine Ct.then_ret ?_
      replace h := Option.some.inj h; subst h
      exact Ct.retH1 (Ωx := []) () rfl (RvOk.tmp rfl) rfl
    · replace h := bif_f hc h
      refine Tr.skip ?_
      refine Ct.then_tr ?_
      refine Tr.weak (Γ' := [(1, (pEq (.int .i64 x2)))]) ⟨rfl, trivial⟩ ?_
      refine Tr.seq ?_
      refine Tr.region ?_
      refine RegL.pure (p := (pEq (.int .i64 x2))) rfl rfl rfl (J_move rfl (Opd.tmp rfl)) ?_
      refine RegL.pure (p := (pEq (.int .i64 x2))) rfl rfl rfl (J_assign rfl (Opd.tmp rfl)) ?_
      refine RegL.nil ?_
      refine Ct.then_tr ?_
      refine Tr.weak (Γ' := [(4, (pEq (.int .i64 x2)))]) ⟨rfl, trivial⟩ ?_
      refine Tr.ret ?_
      replace h := Option.some.inj h; subst h
      exact Ct.retH1 (Ωx := []) () rfl (RvOk.tmp rfl) rfl

theorem c_laws_FnExactProblemOf {a_0 : (List (List Int))} {a_1 : Int} {a_2 : (List Int)} {a_3 : (List (List Int))} {r : Bool} (h : m_laws_FnExactProblemOf a_0 a_1 a_2 a_3 = some r) : CallJ Try.prog 4 [(pSl 1 (cSl 1 (cK .i64)) a_0), (pEq (.int .i64 a_1)), (pSl 1 (cK .i64) a_2), (pSl 1 (cSl 1 (cK .i64)) a_3)] (pEq (.bool r)) := by
  unfold m_laws_FnExactProblemOf at h
  refine CallJ.enterH Try.func4 rfl Try.ntmps4 rfl fun W I0 H => ?_
  refine Tr.weak (Γ' := [(0, (pSl 1 (cSl 1 (cK .i64)) a_0)), (1, (pEq (.int .i64 a_1))), (2, (pSl 1 (cK .i64) a_2)), (3, (pSl 1 (cSl 1 (cK .i64)) a_3))]) ⟨rfl, rfl, rfl, rfl, trivial⟩ ?_
  refine Tr.seq ?_
  refine Tr.region ?_
  refine RegL.pure (p := (pEq (.bool false))) rfl rfl rfl (J_assign rfl Opd.con) ?_
  refine RegL.nil ?_
  refine Ct.then_tr ?_
  refine Tr.weak (Γ' := [(0, (pSl 1 (cSl 1 (cK .i64)) a_0)), (1, (pEq (.int .i64 a_1))), (2, (pSl 1 (cK .i64) a_2)), (3, (pSl 1 (cSl 1 (cK .i64)) a_3))]) ⟨rfl, rfl, rfl, rfl, trivial⟩ ?_
  refine Tr.seq ?_
  refine Tr.seq ?_
  refine Tr.region ?_
  refine RegL.pure (p := (pSl 1 (cK .i64) a_2)) rfl rfl rfl (J_move rfl (Opd.tmp rfl)) ?_
  refine RegL.pure (p := (pEq (.int .i64 (a_2.length : Int)))) rfl rfl rfl (J_len rfl Try.underlying23 (Opd.tmp rfl) rfl) ?_
  refine RegL.pure (p := (pEq (.bool (decide ((1048576 : Int) < (a_2.length : Int)))))) rfl rfl rfl (J_bin rfl (Opd.tmp rfl) Opd.con B_gtr) ?_
  refine RegL.nil ?_
  refine Ct.then_tr ?_
  refine Tr.weak (Γ' := [(0, (pSl 1 (cSl 1 (cK .i64)) a_0)), (1, (pEq (.int .i64 a_1))), (2, (pSl 1 (cK .i64) a_2)), (3, (pSl 1 (cSl 1 (cK .i64)) a_3)), (24, (pEq (.bool (decide ((1048576 : Int) < (a_2.length : Int))))))]) ⟨rfl, rfl, rfl, rfl, rfl, trivial⟩ ?_
  refine Tr.cond (Opd.tmp rfl) (fun hc => ?_) (fun hc => ?_)
  · replace h := bif_t hc h
    refine Tr.seq ?_
    refine Tr.region ?_
    refine RegL.pure (p := (pEq (.bool true))) rfl rfl rfl (J_assign rfl Opd.con) ?_
    refine RegL.nil ?_
    refine Ct.then_tr ?_
    refine Tr.weak (Γ' := [(8, (pEq (.bool true)))]) ⟨rfl, trivial⟩ ?_
    refine Tr.ret ?_
    refine Ct.then_ret ?_
    replace h := Option.some.inj h; subst h
    exact Ct.retH1 (Ωx := []) () rfl (RvOk.tmp rfl) rfl
  · replace h := bif_f hc h
    refine Tr.skip ?_
    refine Ct.then_tr ?_
    refine Tr.weak (Γ' := [(0, (pSl 1 (cSl 1 (cK .i64)) a_0)), (1, (pEq (.int .i64 a_1))), (2, (pSl 1 (cK .i64) a_2)), (3, (pSl 1 (cSl 1 (cK .i64)) a_3))]) ⟨rfl, rfl, rfl, rfl, trivial⟩ ?_
    refine Tr.seq ?_
    refine Tr.region ?_
    refine RegL.pure (p := (pEq (.int .i64 (1048576 : Int)))) rfl rfl rfl (J_assign rfl Opd.con) ?_
    refine RegL.nil ?_
    refine Ct.then_tr ?_
    refine Tr.weak (Γ' := [(0, (pSl 1 (cSl 1 (cK .i64)) a_0)), (1, (pEq (.int .i64 a_1))), (2, (pSl 1 (cK .i64) a_2)), (3, (pSl 1 (cSl 1 (cK .i64)) a_3)), (9, (pEq (.int .i64 (1048576 : Int))))]) ⟨rfl, rfl, rfl, rfl, rfl, trivial⟩ ?_
    refine Tr.seq ?_
    refine Tr.region ?_
    refine RegL.pure (p := (pSl 1 (cSl 1 (cK .i64)) a_0)) rfl rfl rfl (J_move rfl (Opd.tmp rfl)) ?_
    refine RegL.pure (p := (pEq (.int .i64 (1048576 : Int)))) rfl rfl rfl (J_move rfl (Opd.tmp rfl)) ?_
    replace h := bind_some h; obtain ⟨x1, hx1, h⟩ := h
    refine RegL.pure (p := (pEq (.int .i64 x1))) rfl rfl rfl (J_call rfl Try.call7 (c_laws_szInt64SS hx1) (Opds.cons (Opd.tmp rfl) (Opds.cons (Opd.tmp rfl) Opds.nil))) ?_
    refine RegL.pure (p := (pEq (.int .i64 x1))) rfl rfl rfl (J_assign rfl (Opd.tmp rfl)) ?_
    refine RegL.nil ?_
    refine Ct.then_tr ?_
    refine Tr.weak (Γ' := [(0, (pSl 1 (cSl 1 (cK .i64)) a_0)), (1, (pEq (.int .i64 a_1))), (2, (pSl 1 (cK .i64) a_2)), (3, (pSl 1 (cSl 1 (cK .i64)) a_3)), (9, (pEq (.int .i64 x1)))]) ⟨rfl, rfl, rfl, rfl, rfl, trivial⟩ ?_
    refine Tr.seq ?_
    refine Tr.seq ?_
    refine Tr.region ?_
    refine RegL.pure (p := (pEq (.int .i64 x1))) rfl rfl rfl (J_move rfl (Opd.tmp rfl)) ?_
    refine RegL.pure (p := (pEq (.bool (decide (x1 < (0 : Int)))))) rfl rfl rfl (J_bin rfl (Opd.tmp rfl) Opd.con B_lss) ?_
    refine RegL.nil ?_
    refine Ct.then_tr ?_
    refine Tr.weak (Γ' := [(0, (pSl 1 (cSl 1 (cK .i64)) a_0)), (1, (pEq (.int .i64 a_1))), (2, (pSl 1 (cK .i64) a_2)), (3, (pSl 1 (cSl 1 (cK .i64)) a_3)), (9, (pEq (.int .i64 x1))), (29, (pEq (.bool (decide (x1 < (0 : Int))))))]) ⟨rfl, rfl, rfl, rfl, rfl, rfl, trivial⟩ ?_
    refine Tr.cond (Opd.tmp rfl) (fun hc => ?_) (fun hc => ?_)
    · replace h := bif_t hc h
      refine Tr.seq ?_
      refine Tr.region ?_
      refine RegL.pure (p := (pEq (.bool true))) rfl rfl rfl (J_assign rfl Opd.con) ?_
      refine RegL.nil ?_
      refine Ct.then_tr ?_
      refine Tr.weak (Γ' := [(8, (pEq (.bool true)))]) ⟨rfl, trivial⟩ ?_
      refine Tr.ret ?_
      refine Ct.then_ret ?_
      replace h := Option.some.inj h; subst h
      exact Ct.retH1 (Ωx := []) () rfl (RvOk.tmp rfl) rfl
    · replace h := bif_f hc h
      refine Tr.skip ?_
      refine Ct.then_tr ?_
      refine Tr.weak (Γ' := [(0, (pSl 1 (cSl 1 (cK .i64)) a_0)), (1, (pEq (.int .i64 a_1))), (2, (pSl 1 (cK .i64) a_2)), (3, (pSl 1 (cSl 1 (cK .i64)) a_3)), (9, (pEq (.int .i64 x1)))]) ⟨rfl, rfl, rfl, rfl, rfl, trivial⟩ ?_
      refine Tr.seq ?_
      refine Tr.region ?_
      refine RegL.pure (p := (pSl 1 (cSl 1 (cK .i64)) a_3)) rfl rfl rfl (J_move rfl (Opd.tmp rfl)) ?_
      refine RegL.pure (p := (pEq (.int .i64 x1))) rfl rfl rfl (J_move rfl (Opd.tmp rfl)) ?_
      replace h := bind_some h; obtain ⟨x2, hx2, h⟩ := h
      refine RegL.pure (p := (pEq (.int .i64 x2))) rfl rfl rfl (J_call rfl Try.call7 (c_laws_szInt64SS hx2) (Opds.cons (Opd.tmp rfl) (Opds.cons (Opd.tmp rfl) Opds.nil))) ?_
      refine RegL.pure (p := (pEq (.int .i64 x2))) rfl rfl rfl (J_assign rfl (Opd.tmp rfl)) ?_
      refine RegL.nil ?_
      refine Ct.then_tr ?_
      refine Tr.weak (Γ' := [(0, (pSl 1 (cSl 1 (cK .i64)) a_0)), (1, (pEq (.int .i64 a_1))), (2, (pSl 1 (cK .i64) a_2)), (3, (pSl 1 (cSl 1 (cK .i64)) a_3)), (9, (pEq (.int .i64 x2)))]) ⟨rfl, rfl, rfl, rfl, rfl, trivial⟩ ?_
      refine Tr.seq ?_
      refine Tr.seq ?_
      refine Tr.region ?_
      refine RegL.pure (p := (pEq (.int .i64 x2))) rfl rfl rfl (J_move rfl (Opd.tmp rfl)) ?_
      refine RegL.pure (p := (pEq (.bool (decide (x2 < (0 : Int)))))) rfl rfl rfl (J_bin rfl (Opd.tmp rfl) Opd.con B_lss) ?_
      refine RegL.nil ?_
      refine Ct.then_tr ?_
      refine Tr.weak (Γ' := [(0, (pSl 1 (cSl 1 (cK .i64)) a_0)), (1, (pEq (.int .i64 a_1))), (2, (pSl 1 (cK .i64) a_2)), (3, (pSl 1 (cSl 1 (cK .i64)) a_3)), (34, (pEq (.bool (decide (x2 < (0 : Int))))))]) ⟨rfl, rfl, rfl, rfl, rfl, trivial⟩ ?_
      refine Tr.cond (Opd.tmp rfl) (fun hc => ?_) (fun hc => ?_)
      · replace h := bif_t hc h
        refine Tr.seq ?_
        refine Tr.region ?_
        refine RegL.pure (p := (pEq (.bool true))) rfl rfl rfl (J_assign rfl Opd.con) ?_
        refine RegL.nil ?_
        refine Ct.then_tr ?_
        refine Tr.weak (Γ' := [(8, (pEq (.bool true)))]) ⟨rfl, trivial⟩ ?_
        refine Tr.ret ?_
        refine Ct.then_ret ?_
        replace h := Option.some.inj h; subst h
        exact Ct.retH1 (Ωx := []) () rfl (RvOk.tmp rfl) rfl
      · replace h := bif_f hc h
        refine Tr.skip ?_
        refine Ct.then_tr ?_
        refine Tr.weak (Γ' := [(0, (pSl 1 (cSl 1 (cK .i64)) a_0)), (1, (pEq (.int .i64 a_1))), (2, (pSl 1 (cK .i64) a_2)), (3, (pSl 1 (cSl 1 (cK .i64)) a_3))]) ⟨rfl, rfl, rfl, rfl, trivial⟩ ?_
        refine Tr.seq ?_
        refine Tr.region ?_
        refine RegL.pure (p := (pSl 1 (cSl 1 (cK .i64)) a_0)) rfl rfl rfl (J_move rfl (Opd.tmp rfl)) ?_
        replace h := bind_some h; obtain ⟨x3, hx3, h⟩ := h
        refine RegL.pure (p := (pSl 1 (cSl 1 (cK .i64)) x3)) rfl rfl rfl (J_call rfl Try.call9 (c_laws_toInt64SS hx3) (Opds.cons (Opd.tmp rfl) Opds.nil)) ?_
        refine RegL.pure (p := (pEq (.int .i64 a_1))) rfl rfl rfl (J_move rfl (Opd.tmp rfl)) ?_
        refine RegL.pure (p := (pSl 1 (cK .i64) a_2)) rfl rfl rfl (J_move rfl (Opd.tmp rfl)) ?_
        replace h := bind_some h; obtain ⟨x4, hx4, h⟩ := h
        refine RegL.pure (p := (pSl 1 (cK .i64) x4)) rfl rfl rfl (J_call rfl Try.call10 (c_laws_toInt64S hx4) (Opds.cons (Opd.tmp rfl) Opds.nil)) ?_
        refine RegL.pure (p := (pSl 1 (cSl 1 (cK .i64)) a_3)) rfl rfl rfl (J_move rfl (Opd.tmp rfl)) ?_
        replace h := bind_some h; obtain ⟨x5, hx5, h⟩ := h
        refine RegL.pure (p := (pSl 1 (cSl 1 (cK .i64)) x5)) rfl rfl rfl (J_call rfl Try.call9 (c_laws_toInt64SS hx5) (Opds.cons (Opd.tmp rfl) Opds.nil)) ?_
        replace h := bind_some h; obtain ⟨x6, hx6, h⟩ := h
        refine RegL.pure (p := (pTup [(pAgg (cGProblem x6.1)), (pEq (.int .i64 x6.2))])) rfl rfl rfl (J_call rfl Try.call17 (c_spec_ProblemOf hx6) (Opds.cons (Opd.tmp rfl) (Opds.cons (Opd.tmp rfl) (Opds.cons (Opd.tmp rfl) (Opds.cons (Opd.tmp rfl) Opds.nil))))) ?_
        refine RegL.pure (p := (pTup [(pAgg (cGProblem x6.1)), (pEq (.int .i64 x6.2))])) rfl rfl rfl (J_move rfl (Opd.tmp rfl)) ?_
        refine RegL.pure (p := (pAgg (cGProblem x6.1))) rfl rfl rfl (J_extract rfl (Opd.tmp rfl) rfl) ?_
        refine RegL.pure (p := (pEq (.int .i64 x6.2))) rfl rfl rfl (J_extract rfl (Opd.tmp rfl) rfl) ?_
        refine RegL.step (γ := Nat) (p := fun b => pEq (.pointer (some ⟨b, 0, none⟩))) (Ω' := fun b => [oBlk b [(pEq (.slice none 0 0)), (pEq (.slice none 0 0))]]) rfl rfl rfl (M_alloc rfl zero34) fun b7 => ?_
        refine RegL.stepN (γ := Unit) (p := fun _ => pAny) (Ω' := fun _ => [oBlk b7 [(pSl 1 (cSl 1 (cK .i64)) x6.1.Domains), (pSl 1 (cSl 1 (cK .i64)) x6.1.Apart)]]) rfl rfl (M_storeA rfl sz34 (Opd.tmp rfl) (Opd.tmp rfl) (fun _ _ _ h => ones_of ((OneCs.cons OneC.sl (OneCs.cons OneC.sl OneCs.nil))) h) rfl rfl) fun g8 => ?_
        refine RegL.freeze (s := 10) rfl ?_
        refine RegL.pure (p := (pEq (.int .i64 x6.2))) rfl rfl rfl (J_assign rfl (Opd.tmp rfl)) ?_
        refine RegL.nil ?_
        refine Ct.then_tr ?_
        refine Tr.weak (Γ' := [(0, (pSl 1 (cSl 1 (cK .i64)) a_0)), (1, (pEq (.int .i64 a_1))), (2, (pSl 1 (cK .i64) a_2)), (3, (pSl 1 (cSl 1 (cK .i64)) a_3)), (10, (pPtr (cGProblem x6.1))), (11, (pEq (.int .i64 x6.2)))]) ⟨rfl, rfl, rfl, rfl, rfl, rfl, trivial⟩ ?_
        refine Tr.seq ?_
        refine Tr.region ?_
        refine RegL.pure (p := (pSl 1 (cSl 1 (cK .i64)) a_0)) rfl rfl rfl (J_move rfl (Opd.tmp rfl)) ?_
        replace h := bind_some h; obtain ⟨x9, hx9, h⟩ := h
        refine RegL.step (γ := (G3 × List G3)) (p := fun g => (pEq (.slice g.1.1 g.1.2.1 g.1.2.2))) (Ω' := fun g => [oSS 23 2 1 (cK .i64) g.1.1 g.1.2.1 g.1.2.2 g.2 x9]) rfl rfl rfl (M_callH (Ωi := []) rfl Try.call9 (o_laws_toInt64SS hx9) (Opds.cons (Opd.tmp rfl) Opds.nil)) fun g10 => ?_
        refine RegL.pure (p := (pEq (.slice g10.1.1 g10.1.2.1 g10.1.2.2))) rfl rfl rfl (J_assign rfl (Opd.tmp rfl)) ?_
        refine RegL.nil ?_
        refine Ct.then_tr ?_
        refine Tr.weak (Γ' := [(0, (pSl 1 (cSl 1 (cK .i64)) a_0)), (1, (pEq (.int .i64 a_1))), (2, (pSl 1 (cK .i64) a_2)), (3, (pSl 1 (cSl 1 (cK .i64)) a_3)), (10, (pPtr (cGProblem x6.1))), (11, (pEq (.int .i64 x6.2))), (12, (pEq (.slice g10.1.1 g10.1.2.1 g10.1.2.2)))]) ⟨rfl, rfl, rfl, rfl, rfl, rfl, rfl, trivial⟩ ?_
        refine Tr.seq ?_
        refine Tr.region ?_
        refine RegL.pure (p := (pSl 1 (cK .i64) a_2)) rfl rfl rfl (J_move rfl (Opd.tmp rfl)) ?_
        replace h := bind_some h; obtain ⟨x12, hx12, h⟩ := h
        refine RegL.step (γ := G3) (p := fun g => (pEq (.slice g.1 g.2.1 g.2.2))) (Ω' := fun g => [oSl 2 1 (cK .i64) g.1 g.2.1 g.2.2 x12, oSS 23 2 1 (cK .i64) g10.1.1 g10.1.2.1 g10.1.2.2 g10.2 x9]) rfl rfl rfl (M_callH (Ωi := []) rfl Try.call10 (o_laws_toInt64S hx12) (Opds.cons (Opd.tmp rfl) Opds.nil)) fun g13 => ?_
        refine RegL.pure (p := (pEq (.slice g13.1 g13.2.1 g13.2.2))) rfl rfl rfl (J_assign rfl (Opd.tmp rfl)) ?_
        refine RegL.nil ?_
        refine Ct.then_tr ?_
        refine Tr.weak (Γ' := [(0, (pSl 1 (cSl 1 (cK .i64)) a_0)), (1, (pEq (.int .i64 a_1))), (2, (pSl 1 (cK .i64) a_2)), (3, (pSl 1 (cSl 1 (cK .i64)) a_3)), (10, (pPtr (cGProblem x6.1))), (11, (pEq (.int .i64 x6.2))), (12, (pEq (.slice g10.1.1 g10.1.2.1 g10.1.2.2))), (13, (pEq (.slice g13.1 g13.2.1 g13.2.2)))]) ⟨rfl, rfl, rfl, rfl, rfl, rfl, rfl, rfl, trivial⟩ ?_
        refine Tr.seq ?_
        refine Tr.region ?_
        refine RegL.pure (p := (pSl 1 (cSl 1 (cK .i64)) a_3)) rfl rfl rfl (J_move rfl (Opd.tmp rfl)) ?_
        replace h := bind_some h; obtain ⟨x15, hx15, h⟩ := h
        refine RegL.step (γ := (G3 × List G3)) (p := fun g => (pEq (.slice g.1.1 g.1.2.1 g.1.2.2))) (Ω' := fun g => [oSS 23 2 1 (cK .i64) g.1.1 g.1.2.1 g.1.2.2 g.2 x15, oSl 2 1 (cK .i64) g13.1 g13.2.1 g13.2.2 x12, oSS 23 2 1 (cK .i64) g10.1.1 g10.1.2.1 g10.1.2.2 g10.2 x9]) rfl rfl rfl (M_callH (Ωi := []) rfl Try.call9 (o_laws_toInt64SS hx15) (Opds.cons (Opd.tmp rfl) Opds.nil)) fun g16 => ?_
        refine RegL.pure (p := (pEq (.slice g16.1.1 g16.1.2.1 g16.1.2.2))) rfl rfl rfl (J_assign rfl (Opd.tmp rfl)) ?_
        refine RegL.nil ?_
        refine Ct.then_tr ?_
        refine Tr.weak (Γ' := [(0, (pSl 1 (cSl 1 (cK .i64)) a_0)), (1, (pEq (.int .i64 a_1))), (2, (pSl 1 (cK .i64) a_2)), (3, (pSl 1 (cSl 1 (cK .i64)) a_3)), (10, (pPtr (cGProblem x6.1))), (11, (pEq (.int .i64 x6.2))), (12, (pEq (.slice g10.1.1 g10.1.2.1 g10.1.2.2))), (13, (pEq (.slice g13.1 g13.2.1 g13.2.2))), (14, (pEq (.slice g16.1.1 g16.1.2.1 g16.1.2.2)))]) ⟨rfl, rfl, rfl, rfl, rfl, rfl, rfl, rfl, rfl, trivial⟩ ?_
        refine Tr.seq ?_
        refine Tr.region ?_
        refine RegL.pure (p := (pEq (.slice g10.1.1 g10.1.2.1 g10.1.2.2))) rfl rfl rfl (J_move rfl (Opd.tmp rfl)) ?_
        refine RegL.pure (p := (pEq (.int .i64 a_1))) rfl rfl rfl (J_move rfl (Opd.tmp rfl)) ?_
        refine RegL.pure (p := (pEq (.slice g13.1 g13.2.1 g13.2.2))) rfl rfl rfl (J_move rfl (Opd.tmp rfl)) ?_
        refine RegL.pure (p := (pEq (.slice g16.1.1 g16.1.2.1 g16.1.2.2))) rfl rfl rfl (J_move rfl (Opd.tmp rfl)) ?_
        replace h := bind_some h; obtain ⟨x18, hx18, h⟩ := h
        refine RegL.step (γ := ((G3 × List G3) × (G3 × List G3))) (p := fun g => (pTup [(pAgg [(pEq (.slice g.1.1.1 g.1.1.2.1 g.1.1.2.2)), (pEq (.slice g.2.1.1 g.2.1.2.1 g.2.1.2.2))]), (pEq (.int .i64 x18.2))])) (Ω' := fun g => [oSS 23 2 1 (cK .i64) g.1.1.1 g.1.1.2.1 g.1.1.2.2 g.1.2 x18.1.Domains, oSS 23 2 1 (cK .i64) g.2.1.1 g.2.1.2.1 g.2.1.2.2 g.2.2 x18.1.Apart, oSS 23 2 1 (cK .i64) g16.1.1 g16.1.2.1 g16.1.2.2 g16.2 x15, oSl 2 1 (cK .i64) g13.1 g13.2.1 g13.2.2 x12, oSS 23 2 1 (cK .i64) g10.1.1 g10.1.2.1 g10.1.2.2 g10.2 x9]) rfl rfl rfl (M_callHB (Ωi := []) rfl Try.call18 (o_impl_ProblemOf hx18) (OpdsA.cons (OpdA.conv rfl (Conv.nest 2 (fun _ => rfl) rfl)) (OpdsA.cons (OpdA.of (Opd.tmp rfl)) (OpdsA.cons (OpdA.conv rfl (Conv.row 1 (fun _ => rfl) rfl)) (OpdsA.cons (OpdA.conv rfl (Conv.nest 0 (fun _ => rfl) rfl)) OpdsA.nil)))) (fun _ => (FreeP.tup ⟨(FreeP.agg ⟨FreeP.eq, ⟨FreeP.eq, trivial⟩⟩), ⟨FreeP.eq, trivial⟩⟩)) (fun _ => ⟨(FreeO.nest (fun _ => ⟨FreeP.eq, trivial⟩)), ⟨(FreeO.nest (fun _ => ⟨FreeP.eq, trivial⟩)), trivial⟩⟩)) fun g19 => ?_
        refine RegL.pure (p := (pTup [(pAgg [(pEq (.slice g19.1.1.1 g19.1.1.2.1 g19.1.1.2.2)), (pEq (.slice g19.2.1.1 g19.2.1.2.1 g19.2.1.2.2))]), (pEq (.int .i64 x18.2))])) rfl rfl rfl (J_move rfl (Opd.tmp rfl)) ?_
        refine RegL.pure (p := (pAgg [(pEq (.slice g19.1.1.1 g19.1.1.2.1 g19.1.1.2.2)), (pEq (.slice g19.2.1.1 g19.2.1.2.1 g19.2.1.2.2))])) rfl rfl rfl (J_extract rfl (Opd.tmp rfl) rfl) ?_
        refine RegL.pure (p := (pEq (.int .i64 x18.2))) rfl rfl rfl (J_extract rfl (Opd.tmp rfl) rfl) ?_
        refine RegL.step (γ := Nat) (p := fun b => pEq (.pointer (some ⟨b, 0, none⟩))) (Ω' := fun b => [oBlk b [(pEq (.slice none 0 0)), (pEq (.slice none 0 0))], oSS 23 2 1 (cK .i64) g19.1.1.1 g19.1.1.2.1 g19.1.1.2.2 g19.1.2 x18.1.Domains, oSS 23 2 1 (cK .i64) g19.2.1.1 g19.2.1.2.1 g19.2.1.2.2 g19.2.2 x18.1.Apart, oSS 23 2 1 (cK .i64) g16.1.1 g16.1.2.1 g16.1.2.2 g16.2 x15, oSl 2 1 (cK .i64) g13.1 g13.2.1 g13.2.2 x12, oSS 23 2 1 (cK .i64) g10.1.1 g10.1.2.1 g10.1.2.2 g10.2 x9]) rfl rfl rfl (M_alloc rfl zero34) fun b22 => ?_
        refine RegL.stepN (γ := Unit) (p := fun _ => pAny) (Ω' := fun _ => [oBlk b22 [(pEq (.slice g19.1.1.1 g19.1.1.2.1 g19.1.1.2.2)), (pEq (.slice g19.2.1.1 g19.2.1.2.1 g19.2.1.2.2))], oSS 23 2 1 (cK .i64) g19.1.1.1 g19.1.1.2.1 g19.1.1.2.2 g19.1.2 x18.1.Domains, oSS 23 2 1 (cK .i64) g19.2.1.1 g19.2.1.2.1 g19.2.1.2.2 g19.2.2 x18.1.Apart, oSS 23 2 1 (cK .i64) g16.1.1 g16.1.2.1 g16.1.2.2 g16.2 x15, oSl 2 1 (cK .i64) g13.1 g13.2.1 g13.2.2 x12, oSS 23 2 1 (cK .i64) g10.1.1 g10.1.2.1 g10.1.2.2 g10.2 x9]) rfl rfl (M_storeA rfl sz34 (Opd.tmp rfl) (Opd.tmp rfl) (fun _ _ _ h => ones_of ((OneCs.cons OneC.slice (OneCs.cons OneC.slice OneCs.nil))) h) rfl rfl) fun g23 => ?_
        refine RegL.pure (p := (pEq (.int .i64 x18.2))) rfl rfl rfl (J_assign rfl (Opd.tmp rfl)) ?_
        refine RegL.nil ?_
        refine Ct.then_tr ?_
        refine Tr.weak (Γ' := [(0, (pSl 1 (cSl 1 (cK .i64)) a_0)), (1, (pEq (.int .i64 a_1))), (2, (pSl 1 (cK .i64) a_2)), (3, (pSl 1 (cSl 1 (cK .i64)) a_3)), (10, (pPtr (cGProblem x6.1))), (11, (pEq (.int .i64 x6.2))), (12, (pEq (.slice g10.1.1 g10.1.2.1 g10.1.2.2))), (13, (pEq (.slice g13.1 g13.2.1 g13.2.2))), (14, (pEq (.slice g16.1.1 g16.1.2.1 g16.1.2.2))), (15, (pEq (.pointer (some ⟨b22, 0, none⟩)))), (16, (pEq (.int .i64 x18.2)))]) ⟨rfl, rfl, rfl, rfl, rfl, rfl, rfl, rfl, rfl, rfl, rfl, trivial⟩ ?_
        refine Tr.seq ?_
        refine Tr.seq ?_
        replace h := bind_some h; obtain ⟨x24, hx24, h⟩ := h
        refine Tr.cut (γ := Unit) (Γm := fun g => [(0, (pSl 1 (cSl 1 (cK .i64)) a_0)), (1, (pEq (.int .i64 a_1))), (2, (pSl 1 (cK .i64) a_2)), (3, (pSl 1 (cSl 1 (cK .i64)) a_3)), (10, (pPtr (cGProblem x6.1))), (11, (pEq (.int .i64 x6.2))), (12, (pEq (.slice g10.1.1 g10.1.2.1 g10.1.2.2))), (13, (pEq (.slice g13.1 g13.2.1 g13.2.2))), (14, (pEq (.slice g16.1.1 g16.1.2.1 g16.1.2.2))), (15, (pEq (.pointer (some ⟨b22, 0, none⟩)))), (16, (pEq (.int .i64 x18.2))), (68, (pEq (.bool x24)))]) (Ωm := fun g => [oBlk b22 [(pEq (.slice g19.1.1.1 g19.1.1.2.1 g19.1.1.2.2)), (pEq (.slice g19.2.1.1 g19.2.1.2.1 g19.2.1.2.2))], oSS 23 2 1 (cK .i64) g19.1.1.1 g19.1.1.2.1 g19.1.1.2.2 g19.1.2 x18.1.Domains, oSS 23 2 1 (cK .i64) g19.2.1.1 g19.2.1.2.1 g19.2.1.2.2 g19.2.2 x18.1.Apart, oSS 23 2 1 (cK .i64) g16.1.1 g16.1.2.1 g16.1.2.2 g16.2 x15, oSl 2 1 (cK .i64) g13.1 g13.2.1 g13.2.2 x12, oSS 23 2 1 (cK .i64) g10.1.1 g10.1.2.1 g10.1.2.2 g10.2 x9]) ?_ (fun g27 => ?_)
        · clear h
          have h := hx24
          clear hx24
          refine Tr.region ?_
          refine RegL.pureW (p := (pAgg [(pEq (.slice g19.1.1.1 g19.1.1.2.1 g19.1.1.2.2)), (pEq (.slice g19.2.1.1 g19.2.1.2.1 g19.2.1.2.2))])) rfl rfl rfl (W_loadA (i := 0) rfl Try.isAgg34 sz34 (Opd.tmp rfl) rfl rfl) ?_
          refine RegL.pure (p := (pAgg (cGProblem x6.1))) rfl rfl rfl (J_loadA rfl Try.isAgg34 sz34 (Opd.tmp rfl) rfl) ?_
          replace h := bind_some h; obtain ⟨x25, hx25, h⟩ := h
          refine RegL.pureW (p := (pEq (.bool x25))) rfl rfl rfl (W_call rfl Try.call19 (c_laws_eqProblem hx25) (OpdsA.cons (OpdA.conv rfl (Conv.agg (Convs.cons (Conv.nest 1 (fun _ => rfl) rfl) (Convs.cons (Conv.nest 2 (fun _ => rfl) rfl) Convs.nil)))) (OpdsA.cons (OpdA.of (Opd.tmp rfl)) OpdsA.nil)) FreeP.eq) ?_
          refine RegL.pure (p := (pEq (.bool (!x25)))) rfl rfl rfl (J_not rfl (Opd.tmp rfl)) ?_
          refine RegL.pure (p := (pEq (.bool (!x25)))) rfl rfl rfl (J_move rfl (Opd.tmp rfl)) ?_
          rcases Bool.eq_false_or_eq_true (!x25) with hc26 | hc26
          · replace h := bif_t hc26 h
            refine RegL.skipG rfl rfl rfl hc26 rfl rfl ?_
            refine RegL.skipG rfl rfl rfl hc26 rfl rfl ?_
            refine RegL.skipG rfl rfl rfl hc26 rfl rfl ?_
            refine RegL.pure (p := (pEq (.bool true))) rfl rfl rfl (J_pick rfl (Opd.tmp rfl) (fun _ => Opd.con) (fun hf => absurd (hc26.symm.trans hf) (by decide))) ?_
            refine RegL.nil ?_
            replace h := Option.some.inj h; subst h
            exact Ct.mid () rfl ⟨rfl, rfl, rfl, rfl, rfl, rfl, rfl, rfl, rfl, rfl, rfl, rfl, trivial⟩
          · replace h := bif_f hc26 h
            refine RegL.pureG (p := (pEq (.int .i64 x18.2))) rfl rfl rfl hc26 rfl rfl (J_move rfl (Opd.tmp rfl)) ?_
            refine RegL.pureG (p := (pEq (.int .i64 x6.2))) rfl rfl rfl hc26 rfl rfl (J_move rfl (Opd.tmp rfl)) ?_
            refine RegL.pureG (p := (pEq (.bool (x18.2 != x6.2)))) rfl rfl rfl hc26 rfl rfl (J_bin rfl (Opd.tmp rfl) (Opd.tmp rfl) B_neq) ?_
            refine RegL.pure (p := (pEq (.bool (x18.2 != x6.2)))) rfl rfl rfl (J_pick rfl (Opd.tmp rfl) (fun hf => absurd (hc26.symm.trans hf) (by decide)) (fun _ => (Opd.tmp rfl))) ?_
            refine RegL.nil ?_
            replace h := Option.some.inj h; subst h
            exact Ct.mid () rfl ⟨rfl, rfl, rfl, rfl, rfl, rfl, rfl, rfl, rfl, rfl, rfl, rfl, trivial⟩
        · clear hx24
          refine Ct.then_tr ?_
          refine Tr.weak (Γ' := [(0, (pSl 1 (cSl 1 (cK .i64)) a_0)), (1, (pEq (.int .i64 a_1))), (2, (pSl 1 (cK .i64) a_2)), (3, (pSl 1 (cSl 1 (cK .i64)) a_3)), (10, (pPtr (cGProblem x6.1))), (11, (pEq (.int .i64 x6.2))), (12, (pEq (.slice g10.1.1 g10.1.2.1 g10.1.2.2))), (13, (pEq (.slice g13.1 g13.2.1 g13.2.2))), (14, (pEq (.slice g16.1.1 g16.1.2.1 g16.1.2.2))), (15, (pEq (.pointer (some ⟨b22, 0, none⟩)))), (16, (pEq (.int .i64 x18.2))), (68, (pEq (.bool x24)))]) ⟨rfl, rfl, rfl, rfl, rfl, rfl, rfl, rfl, rfl, rfl, rfl, rfl, trivial⟩ ?_
          refine Tr.cond (Opd.tmp rfl) (fun hc => ?_) (fun hc => ?_)
          · replace h := bif_t hc h
            refine Tr.seq ?_
            refine Tr.region ?_
            refine RegL.pure (p := (pEq (.bool false))) rfl rfl rfl (J_assign rfl Opd.con) ?_
            refine RegL.nil ?_
            refine Ct.then_tr ?_
            refine Tr.weak (Γ' := [(8, (pEq (.bool false)))]) ⟨rfl, trivial⟩ ?_
            refine Tr.ret ?_
            refine Ct.then_ret ?_
            replace h := Option.some.inj h; subst h
            exact Ct.retH1 (Ωx := [oBlk b22 [(pEq (.slice g19.1.1.1 g19.1.1.2.1 g19.1.1.2.2)), (pEq (.slice g19.2.1.1 g19.2.1.2.1 g19.2.1.2.2))], oSS 23 2 1 (cK .i64) g19.1.1.1 g19.1.1.2.1 g19.1.1.2.2 g19.1.2 x18.1.Domains, oSS 23 2 1 (cK .i64) g19.2.1.1 g19.2.1.2.1 g19.2.1.2.2 g19.2.2 x18.1.Apart, oSS 23 2 1 (cK .i64) g16.1.1 g16.1.2.1 g16.1.2.2 g16.2 x15, oSl 2 1 (cK .i64) g13.1 g13.2.1 g13.2.2 x12, oSS 23 2 1 (cK .i64) g10.1.1 g10.1.2.1 g10.1.2.2 g10.2 x9]) () rfl (RvOk.tmp rfl) rfl
          · replace h := bif_f hc h
            refine Tr.skip ?_
            refine Ct.then_tr ?_
            refine Tr.weak (Γ' := [(0, (pSl 1 (cSl 1 (cK .i64)) a_0)), (1, (pEq (.int .i64 a_1))), (2, (pSl 1 (cK .i64) a_2)), (3, (pSl 1 (cSl 1 (cK .i64)) a_3)), (10, (pPtr (cGProblem x6.1))), (11, (pEq (.int .i64 x6.2))), (12, (pEq (.slice g10.1.1 g10.1.2.1 g10.1.2.2))), (13, (pEq (.slice g13.1 g13.2.1 g13.2.2))), (14, (pEq (.slice g16.1.1 g16.1.2.1 g16.1.2.2))), (15, (pEq (.pointer (some ⟨b22, 0, none⟩)))), (16, (pEq (.int .i64 x18.2)))]) ⟨rfl, rfl, rfl, rfl, rfl, rfl, rfl, rfl, rfl, rfl, rfl, trivial⟩ ?_
            refine Tr.seq ?_
            refine Tr.seq ?_
            refine Tr.region ?_
            refine RegL.pure (p := (pEq (.slice g10.1.1 g10.1.2.1 g10.1.2.2))) rfl rfl rfl (J_move rfl (Opd.tmp rfl)) ?_
            refine RegL.pure (p := (pSl 1 (cSl 1 (cK .i64)) a_0)) rfl rfl rfl (J_move rfl (Opd.tmp rfl)) ?_
            replace h := bind_some h; obtain ⟨x28, hx28, h⟩ := h
            refine RegL.pure (p := (pSl 1 (cSl 1 (cK .i64)) x28)) rfl rfl rfl (J_call rfl Try.call9 (c_laws_toInt64SS hx28) (Opds.cons (Opd.tmp rfl) Opds.nil)) ?_
            replace h := bind_some h; obtain ⟨x29, hx29, h⟩ := h
            refine RegL.pureW (p := (pEq (.bool x29))) rfl rfl rfl (W_call rfl Try.call12 (c_laws_eqInt64SS hx29) (OpdsA.cons (OpdA.conv rfl (Conv.nest 5 (fun _ => rfl) rfl)) (OpdsA.cons (OpdA.of (Opd.tmp rfl)) OpdsA.nil)) FreeP.eq) ?_
            refine RegL.pure (p := (pEq (.bool (!x29)))) rfl rfl rfl (J_not rfl (Opd.tmp rfl)) ?_
            refine RegL.nil ?_
            refine Ct.then_tr ?_
            refine Tr.weak (Γ' := [(0, (pSl 1 (cSl 1 (cK .i64)) a_0)), (1, (pEq (.int .i64 a_1))), (2, (pSl 1 (cK .i64) a_2)), (3, (pSl 1 (cSl 1 (cK .i64)) a_3)), (10, (pPtr (cGProblem x6.1))), (11, (pEq (.int .i64 x6.2))), (12, (pEq (.slice g10.1.1 g10.1.2.1 g10.1.2.2))), (13, (pEq (.slice g13.1 g13.2.1 g13.2.2))), (14, (pEq (.slice g16.1.1 g16.1.2.1 g16.1.2.2))), (15, (pEq (.pointer (some ⟨b22, 0, none⟩)))), (16, (pEq (.int .i64 x18.2))), (73, (pEq (.bool (!x29))))]) ⟨rfl, rfl, rfl, rfl, rfl, rfl, rfl, rfl, rfl, rfl, rfl, rfl, trivial⟩ ?_
            refine Tr.cond (Opd.tmp rfl) (fun hc => ?_) (fun hc => ?_)
            · replace h := bif_t hc h
              refine Tr.seq ?_
              refine Tr.region ?_
              refine RegL.pure (p := (pEq (.bool false))) rfl rfl rfl (J_assign rfl Opd.con) ?_
              refine RegL.nil ?_
              refine Ct.then_tr ?_
              refine Tr.weak (Γ' := [(8, (pEq (.bool false)))]) ⟨rfl, trivial⟩ ?_
              refine Tr.ret ?_
              refine Ct.then_ret ?_
              replace h := Option.some.inj h; subst h
              exact Ct.retH1 (Ωx := [oBlk b22 [(pEq (.slice g19.1.1.1 g19.1.1.2.1 g19.1.1.2.2)), (pEq (.slice g19.2.1.1 g19.2.1.2.1 g19.2.1.2.2))], oSS 23 2 1 (cK .i64) g19.1.1.1 g19.1.1.2.1 g19.1.1.2.2 g19.1.2 x18.1.Domains, oSS 23 2 1 (cK .i64) g19.2.1.1 g19.2.1.2.1 g19.2.1.2.2 g19.2.2 x18.1.Apart, oSS 23 2 1 (cK .i64) g16.1.1 g16.1.2.1 g16.1.2.2 g16.2 x15, oSl 2 1 (cK .i64) g13.1 g13.2.1 g13.2.2 x12, oSS 23 2 1 (cK .i64) g10.1.1 g10.1.2.1 g10.1.2.2 g10.2 x9]) () rfl (RvOk.tmp rfl) rfl
            · replace h := bif_f hc h
              refine Tr.skip ?_
              refine Ct.then_tr ?_
              refine Tr.weak (Γ' := [(0, (pSl 1 (cSl 1 (cK .i64)) a_0)), (1, (pEq (.int .i64 a_1))), (2, (pSl 1 (cK .i64) a_2)), (3, (pSl 1 (cSl 1 (cK .i64)) a_3)), (10, (pPtr (cGProblem x6.1))), (11, (pEq (.int .i64 x6.2))), (12, (pEq (.slice g10.1.1 g10.1.2.1 g10.1.2.2))), (13, (pEq (.slice g13.1 g13.2.1 g13.2.2))), (14, (pEq (.slice g16.1.1 g16.1.2.1 g16.1.2.2))), (15, (pEq (.pointer (some ⟨b22, 0, none⟩)))), (16, (pEq (.int .i64 x18.2)))]) ⟨rfl, rfl, rfl, rfl, rfl, rfl, rfl, rfl, rfl, rfl, rfl, trivial⟩ ?_
              refine Tr.seq ?_
              refine Tr.seq ?_
              refine Tr.region ?_
              refine RegL.pure (p := (pEq (.slice g13.1 g13.2.1 g13.2.2))) rfl rfl rfl (J_move rfl (Opd.tmp rfl)) ?_
              refine RegL.pure (p := (pSl 1 (cK .i64) a_2)) rfl rfl rfl (J_move rfl (Opd.tmp rfl)) ?_
              replace h := bind_some h; obtain ⟨x30, hx30, h⟩ := h
              refine RegL.pure (p := (pSl 1 (cK .i64) x30)) rfl rfl rfl (J_call rfl Try.call10 (c_laws_toInt64S hx30) (Opds.cons (Opd.tmp rfl) Opds.nil)) ?_
              replace h := bind_some h; obtain ⟨x31, hx31, h⟩ := h
              refine RegL.pureW (p := (pEq (.bool x31))) rfl rfl rfl (W_call rfl Try.call13 (c_laws_eqInt64S hx31) (OpdsA.cons (OpdA.conv rfl (Conv.row 4 (fun _ => rfl) rfl)) (OpdsA.cons (OpdA.of (Opd.tmp rfl)) OpdsA.nil)) FreeP.eq) ?_
              refine RegL.pure (p := (pEq (.bool (!x31)))) rfl rfl rfl (J_not rfl (Opd.tmp rfl)) ?_
              refine RegL.nil ?_
              refine Ct.then_tr ?_
              refine Tr.weak (Γ' := [(0, (pSl 1 (cSl 1 (cK .i64)) a_0)), (1, (pEq (.int .i64 a_1))), (2, (pSl 1 (cK .i64) a_2)), (3, (pSl 1 (cSl 1 (cK .i64)) a_3)), (10, (pPtr (cGProblem x6.1))), (11, (pEq (.int .i64 x6.2))), (12, (pEq (.slice g10.1.1 g10.1.2.1 g10.1.2.2))), (13, (pEq (.slice g13.1 g13.2.1 g13.2.2))), (14, (pEq (.slice g16.1.1 g16.1.2.1 g16.1.2.2))), (15, (pEq (.pointer (some ⟨b22, 0, none⟩)))), (16, (pEq (.int .i64 x18.2))), (78, (pEq (.bool (!x31))))]) ⟨rfl, rfl, rfl, rfl, rfl, rfl, rfl, rfl, rfl, rfl, rfl, rfl, trivial⟩ ?_
              refine Tr.cond (Opd.tmp rfl) (fun hc => ?_) (fun hc => ?_)
              · replace h := bif_t hc h
                refine Tr.seq ?_
                refine Tr.region ?_
                refine RegL.pure (p := (pEq (.bool false))) rfl rfl rfl (J_assign rfl Opd.con) ?_
                refine RegL.nil ?_
                refine Ct.then_tr ?_
                refine Tr.weak (Γ' := [(8, (pEq (.bool false)))]) ⟨rfl, trivial⟩ ?_
                refine Tr.ret ?_
                refine Ct.then_ret ?_
                replace h := Option.some.inj h; subst h
                exact Ct.retH1 (Ωx := [oBlk b22 [(pEq (.slice g19.1.1.1 g19.1.1.2.1 g19.1.1.2.2)), (pEq (.slice g19.2.1.1 g19.2.1.2.1 g19.2.1.2.2))], oSS 23 2 1 (cK .i64) g19.1.1.1 g19.1.1.2.1 g19.1.1.2.2 g19.1.2 x18.1.Domains, oSS 23 2 1 (cK .i64) g19.2.1.1 g19.2.1.2.1 g19.2.1.2.2 g19.2.2 x18.1.Apart, oSS 23 2 1 (cK .i64) g16.1.1 g16.1.2.1 g16.1.2.2 g16.2 x15, oSl 2 1 (cK .i64) g13.1 g13.2.1 g13.2.2 x12, oSS 23 2 1 (cK .i64) g10.1.1 g10.1.2.1 g10.1.2.2 g10.2 x9]) () rfl (RvOk.tmp rfl) rfl
              · replace h := bif_f hc h
                refine Tr.skip ?_
                refine Ct.then_tr ?_
                refine Tr.weak (Γ' := [(0, (pSl 1 (cSl 1 (cK .i64)) a_0)), (1, (pEq (.int .i64 a_1))), (2, (pSl 1 (cK .i64) a_2)), (3, (pSl 1 (cSl 1 (cK .i64)) a_3)), (10, (pPtr (cGProblem x6.1))), (11, (pEq (.int .i64 x6.2))), (12, (pEq (.slice g10.1.1 g10.1.2.1 g10.1.2.2))), (13, (pEq (.slice g13.1 g13.2.1 g13.2.2))), (14, (pEq (.slice g16.1.1 g16.1.2.1 g16.1.2.2))), (15, (pEq (.pointer (some ⟨b22, 0, none⟩)))), (16, (pEq (.int .i64 x18.2)))]) ⟨rfl, rfl, rfl, rfl, rfl, rfl, rfl, rfl, rfl, rfl, rfl, trivial⟩ ?_
                refine Tr.seq ?_
                refine Tr.seq ?_
                refine Tr.region ?_
                refine RegL.pure (p := (pEq (.slice g16.1.1 g16.1.2.1 g16.1.2.2))) rfl rfl rfl (J_move rfl (Opd.tmp rfl)) ?_
                refine RegL.pure (p := (pSl 1 (cSl 1 (cK .i64)) a_3)) rfl rfl rfl (J_move rfl (Opd.tmp rfl)) ?_
                replace h := bind_some h; obtain ⟨x32, hx32, h⟩ := h
                refine RegL.pure (p := (pSl 1 (cSl 1 (cK .i64)) x32)) rfl rfl rfl (J_call rfl Try.call9 (c_laws_toInt64SS hx32) (Opds.cons (Opd.tmp rfl) Opds.nil)) ?_
                replace h := bind_some h; obtain ⟨x33, hx33, h⟩ := h
                refine RegL.pureW (p := (pEq (.bool x33))) rfl rfl rfl (W_call rfl Try.call12 (c_laws_eqInt64SS hx33) (OpdsA.cons (OpdA.conv rfl (Conv.nest 3 (fun _ => rfl) rfl)) (OpdsA.cons (OpdA.of (Opd.tmp rfl)) OpdsA.nil)) FreeP.eq) ?_
                refine RegL.pure (p := (pEq (.bool (!x33)))) rfl rfl rfl (J_not rfl (Opd.tmp rfl)) ?_
                refine RegL.nil ?_
                refine Ct.then_tr ?_
                refine Tr.weak (Γ' := [(0, (pSl 1 (cSl 1 (cK .i64)) a_0)), (1, (pEq (.int .i64 a_1))), (2, (pSl 1 (cK .i64) a_2)), (3, (pSl 1 (cSl 1 (cK .i64)) a_3)), (10, (pPtr (cGProblem x6.1))), (11, (pEq (.int .i64 x6.2))), (12, (pEq (.slice g10.1.1 g10.1.2.1 g10.1.2.2))), (13, (pEq (.slice g13.1 g13.2.1 g13.2.2))), (14, (pEq (.slice g16.1.1 g16.1.2.1 g16.1.2.2))), (15, (pEq (.pointer (some ⟨b22, 0, none⟩)))), (16, (pEq (.int .i64 x18.2))), (83, (pEq (.bool (!x33))))]) ⟨rfl, rfl, rfl, rfl, rfl, rfl, rfl, rfl, rfl, rfl, rfl, rfl, trivial⟩ ?_
                refine Tr.cond (Opd.tmp rfl) (fun hc => ?_) (fun hc => ?_)
                · replace h := bif_t hc h
                  refine Tr.seq ?_
                  refine Tr.region ?_
                  refine RegL.pure (p := (pEq (.bool false))) rfl rfl rfl (J_assign rfl Opd.con) ?_
                  refine RegL.nil ?_
                  refine Ct.then_tr ?_
                  refine Tr.weak (Γ' := [(8, (pEq (.bool false)))]) ⟨rfl, trivial⟩ ?_
                  refine Tr.ret ?_
                  refine Ct.then_ret ?_
                  replace h := Option.some.inj h; subst h
                  exact Ct.retH1 (Ωx := [oBlk b22 [(pEq (.slice g19.1.1.1 g19.1.1.2.1 g19.1.1.2.2)), (pEq (.slice g19.2.1.1 g19.2.1.2.1 g19.2.1.2.2))], oSS 23 2 1 (cK .i64) g19.1.1.1 g19.1.1.2.1 g19.1.1.2.2 g19.1.2 x18.1.Domains, oSS 23 2 1 (cK .i64) g19.2.1.1 g19.2.1.2.1 g19.2.1.2.2 g19.2.2 x18.1.Apart, oSS 23 2 1 (cK .i64) g16.1.1 g16.1.2.1 g16.1.2.2 g16.2 x15, oSl 2 1 (cK .i64) g13.1 g13.2.1 g13.2.2 x12, oSS 23 2 1 (cK .i64) g10.1.1 g10.1.2.1 g10.1.2.2 g10.2 x9]) () rfl (RvOk.tmp rfl) rfl
                · replace h := bif_f hc h
                  refine Tr.skip ?_
                  refine Ct.then_tr ?_
                  refine Tr.weak (Γ' := [(0, (pSl 1 (cSl 1 (cK .i64)) a_0)), (1, (pEq (.int .i64 a_1))), (2, (pSl 1 (cK .i64) a_2)), (3, (pSl 1 (cSl 1 (cK .i64)) a_3)), (10, (pPtr (cGProblem x6.1))), (11, (pEq (.int .i64 x6.2))), (12, (pEq (.slice g10.1.1 g10.1.2.1 g10.1.2.2))), (13, (pEq (.slice g13.1 g13.2.1 g13.2.2))), (14, (pEq (.slice g16.1.1 g16.1.2.1 g16.1.2.2))), (15, (pEq (.pointer (some ⟨b22, 0, none⟩)))), (16, (pEq (.int .i64 x18.2)))]) ⟨rfl, rfl, rfl, rfl, rfl, rfl, rfl, rfl, rfl, rfl, rfl, trivial⟩ ?_
                  refine Tr.seq ?_
                  refine Tr.region ?_
                  refine RegL.pure (p := (pEq (.int .i64 (1 : Int)))) rfl rfl rfl (J_assign rfl Opd.con) ?_
                  refine RegL.nil ?_
                  refine Ct.then_tr ?_
                  refine Tr.weak (Γ' := [(0, (pSl 1 (cSl 1 (cK .i64)) a_0)), (1, (pEq (.int .i64 a_1))), (2, (pSl 1 (cK .i64) a_2)), (3, (pSl 1 (cSl 1 (cK .i64)) a_3)), (10, (pPtr (cGProblem x6.1))), (11, (pEq (.int .i64 x6.2))), (12, (pEq (.slice g10.1.1 g10.1.2.1 g10.1.2.2))), (13, (pEq (.slice g13.1 g13.2.1 g13.2.2))), (14, (pEq (.slice g16.1.1 g16.1.2.1 g16.1.2.2))), (15, (pEq (.pointer (some ⟨b22, 0, none⟩)))), (16, (pEq (.int .i64 x18.2))), (17, (pEq (.int .i64 (1 : Int))))]) ⟨rfl, rfl, rfl, rfl, rfl, rfl, rfl, rfl, rfl, rfl, rfl, rfl, trivial⟩ ?_
                  refine Tr.seq ?_
                  refine Tr.region ?_
                  refine RegL.pure (p := (pEq (.slice g10.1.1 g10.1.2.1 g10.1.2.2))) rfl rfl rfl (J_move rfl (Opd.tmp rfl)) ?_
                  refine RegL.pure (p := (pEq (.int .i64 (1 : Int)))) rfl rfl rfl (J_move rfl (Opd.tmp rfl)) ?_
                  replace h := bind_some h; obtain ⟨x34, hx34, h⟩ := h
                  refine RegL.re (Ω2 := [oSS 23 2 1 (cK .i64) g10.1.1 g10.1.2.1 g10.1.2.2 g10.2 x9, oBlk b22 [(pEq (.slice g19.1.1.1 g19.1.1.2.1 g19.1.1.2.2)), (pEq (.slice g19.2.1.1 g19.2.1.2.1 g19.2.1.2.2))], oSS 23 2 1 (cK .i64) g19.1.1.1 g19.1.1.2.1 g19.1.1.2.2 g19.1.2 x18.1.Domains, oSS 23 2 1 (cK .i64) g19.2.1.1 g19.2.1.2.1 g19.2.1.2.2 g19.2.2 x18.1.Apart, oSS 23 2 1 (cK .i64) g16.1.1 g16.1.2.1 g16.1.2.2 g16.2 x15, oSl 2 1 (cK .i64) g13.1 g13.2.1 g13.2.2 x12]) (fun h => SatO.pick 5 h) ?_
                  refine RegL.step (γ := Unit) (p := fun g => (pEq (.int .i64 x34.1))) (Ω' := fun g => [oSS 23 2 1 (cK .i64) g10.1.1 g10.1.2.1 g10.1.2.2 g10.2 x34.2, oBlk b22 [(pEq (.slice g19.1.1.1 g19.1.1.2.1 g19.1.1.2.2)), (pEq (.slice g19.2.1.1 g19.2.1.2.1 g19.2.1.2.2))], oSS 23 2 1 (cK .i64) g19.1.1.1 g19.1.1.2.1 g19.1.1.2.2 g19.1.2 x18.1.Domains, oSS 23 2 1 (cK .i64) g19.2.1.1 g19.2.1.2.1 g19.2.1.2.2 g19.2.2 x18.1.Apart, oSS 23 2 1 (cK .i64) g16.1.1 g16.1.2.1 g16.1.2.2 g16.2 x15, oSl 2 1 (cK .i64) g13.1 g13.2.1 g13.2.2 x12]) rfl rfl rfl (M_callH (Ωi := [oSS 23 2 1 (cK .i64) g10.1.1 g10.1.2.1 g10.1.2.2 g10.2 x9]) rfl Try.call14 (o_laws_markInt64SS hx34) (Opds.cons (Opd.tmp rfl) (Opds.cons (Opd.tmp rfl) Opds.nil))) fun g35 => ?_
                  refine RegL.pure (p := (pEq (.int .i64 x34.1))) rfl rfl rfl (J_assign rfl (Opd.tmp rfl)) ?_
                  refine RegL.nil ?_
                  refine Ct.then_tr ?_
                  refine Tr.weak (Γ' := [(0, (pSl 1 (cSl 1 (cK .i64)) a_0)), (1, (pEq (.int .i64 a_1))), (2, (pSl 1 (cK .i64) a_2)), (3, (pSl 1 (cSl 1 (cK .i64)) a_3)), (10, (pPtr (cGProblem x6.1))), (11, (pEq (.int .i64 x6.2))), (13, (pEq (.slice g13.1 g13.2.1 g13.2.2))), (14, (pEq (.slice g16.1.1 g16.1.2.1 g16.1.2.2))), (15, (pEq (.pointer (some ⟨b22, 0, none⟩)))), (16, (pEq (.int .i64 x18.2))), (17, (pEq (.int .i64 x34.1)))]) ⟨rfl, rfl, rfl, rfl, rfl, rfl, rfl, rfl, rfl, rfl, rfl, trivial⟩ ?_
                  refine Tr.seq ?_
                  refine Tr.region ?_
                  refine RegL.pure (p := (pEq (.slice g13.1 g13.2.1 g13.2.2))) rfl rfl rfl (J_move rfl (Opd.tmp rfl)) ?_
                  refine RegL.pure (p := (pEq (.int .i64 x34.1))) rfl rfl rfl (J_move rfl (Opd.tmp rfl)) ?_
                  replace h := bind_some h; obtain ⟨x36, hx36, h⟩ := h
                  refine RegL.re (Ω2 := [oSl 2 1 (cK .i64) g13.1 g13.2.1 g13.2.2 x12, oSS 23 2 1 (cK .i64) g10.1.1 g10.1.2.1 g10.1.2.2 g10.2 x34.2, oBlk b22 [(pEq (.slice g19.1.1.1 g19.1.1.2.1 g19.1.1.2.2)), (pEq (.slice g19.2.1.1 g19.2.1.2.1 g19.2.1.2.2))], oSS 23 2 1 (cK .i64) g19.1.1.1 g19.1.1.2.1 g19.1.1.2.2 g19.1.2 x18.1.Domains, oSS 23 2 1 (cK .i64) g19.2.1.1 g19.2.1.2.1 g19.2.1.2.2 g19.2.2 x18.1.Apart, oSS 23 2 1 (cK .i64) g16.1.1 g16.1.2.1 g16.1.2.2 g16.2 x15]) (fun h => SatO.pick 5 h) ?_
                  refine RegL.step (γ := Unit) (p := fun g => (pEq (.int .i64 x36.1))) (Ω' := fun g => [oSl 2 1 (cK .i64) g13.1 g13.2.1 g13.2.2 x36.2, oSS 23 2 1 (cK .i64) g10.1.1 g10.1.2.1 g10.1.2.2 g10.2 x34.2, oBlk b22 [(pEq (.slice g19.1.1.1 g19.1.1.2.1 g19.1.1.2.2)), (pEq (.slice g19.2.1.1 g19.2.1.2.1 g19.2.1.2.2))], oSS 23 2 1 (cK .i64) g19.1.1.1 g19.1.1.2.1 g19.1.1.2.2 g19.1.2 x18.1.Domains, oSS 23 2 1 (cK .i64) g19.2.1.1 g19.2.1.2.1 g19.2.1.2.2 g19.2.2 x18.1.Apart, oSS 23 2 1 (cK .i64) g16.1.1 g16.1.2.1 g16.1.2.2 g16.2 x15]) rfl rfl rfl (M_callH (Ωi := [oSl 2 1 (cK .i64) g13.1 g13.2.1 g13.2.2 x12]) rfl Try.call15 (o_laws_markInt64S hx36) (Opds.cons (Opd.tmp rfl) (Opds.cons (Opd.tmp rfl) Opds.nil))) fun g37 => ?_
                  refine RegL.pure (p := (pEq (.int .i64 x36.1))) rfl rfl rfl (J_assign rfl (Opd.tmp rfl)) ?_
                  refine RegL.nil ?_
                  refine Ct.then_tr ?_
                  refine Tr.weak (Γ' := [(0, (pSl 1 (cSl 1 (cK .i64)) a_0)), (1, (pEq (.int .i64 a_1))), (2, (pSl 1 (cK .i64) a_2)), (3, (pSl 1 (cSl 1 (cK .i64)) a_3)), (10, (pPtr (cGProblem x6.1))), (11, (pEq (.int .i64 x6.2))), (14, (pEq (.slice g16.1.1 g16.1.2.1 g16.1.2.2))), (15, (pEq (.pointer (some ⟨b22, 0, none⟩)))), (16, (pEq (.int .i64 x18.2))), (17, (pEq (.int .i64 x36.1)))]) ⟨rfl, rfl, rfl, rfl, rfl, rfl, rfl, rfl, rfl, rfl, trivial⟩ ?_
                  refine Tr.seq ?_
                  refine Tr.region ?_
                  refine RegL.pure (p := (pEq (.slice g16.1.1 g16.1.2.1 g16.1.2.2))) rfl rfl rfl (J_move rfl (Opd.tmp rfl)) ?_
                  refine RegL.pure (p := (pEq (.int .i64 x36.1))) rfl rfl rfl (J_move rfl (Opd.tmp rfl)) ?_
                  replace h := bind_some h; obtain ⟨x38, hx38, h⟩ := h
                  refine RegL.re (Ω2 := [oSS 23 2 1 (cK .i64) g16.1.1 g16.1.2.1 g16.1.2.2 g16.2 x15, oSl 2 1 (cK .i64) g13.1 g13.2.1 g13.2.2 x36.2, oSS 23 2 1 (cK .i64) g10.1.1 g10.1.2.1 g10.1.2.2 g10.2 x34.2, oBlk b22 [(pEq (.slice g19.1.1.1 g19.1.1.2.1 g19.1.1.2.2)), (pEq (.slice g19.2.1.1 g19.2.1.2.1 g19.2.1.2.2))], oSS 23 2 1 (cK .i64) g19.1.1.1 g19.1.1.2.1 g19.1.1.2.2 g19.1.2 x18.1.Domains, oSS 23 2 1 (cK .i64) g19.2.1.1 g19.2.1.2.1 g19.2.1.2.2 g19.2.2 x18.1.Apart]) (fun h => SatO.pick 5 h) ?_
                  refine RegL.step (γ := Unit) (p := fun g => (pEq (.int .i64 x38.1))) (Ω' := fun g => [oSS 23 2 1 (cK .i64) g16.1.1 g16.1.2.1 g16.1.2.2 g16.2 x38.2, oSl 2 1 (cK .i64) g13.1 g13.2.1 g13.2.2 x36.2, oSS 23 2 1 (cK .i64) g10.1.1 g10.1.2.1 g10.1.2.2 g10.2 x34.2, oBlk b22 [(pEq (.slice g19.1.1.1 g19.1.1.2.1 g19.1.1.2.2)), (pEq (.slice g19.2.1.1 g19.2.1.2.1 g19.2.1.2.2))], oSS 23 2 1 (cK .i64) g19.1.1.1 g19.1.1.2.1 g19.1.1.2.2 g19.1.2 x18.1.Domains, oSS 23 2 1 (cK .i64) g19.2.1.1 g19.2.1.2.1 g19.2.1.2.2 g19.2.2 x18.1.Apart]) rfl rfl rfl (M_callH (Ωi := [oSS 23 2 1 (cK .i64) g16.1.1 g16.1.2.1 g16.1.2.2 g16.2 x15]) rfl Try.call14 (o_laws_markInt64SS hx38) (Opds.cons (Opd.tmp rfl) (Opds.cons (Opd.tmp rfl) Opds.nil))) fun g39 => ?_
                  refine RegL.pure (p := (pEq (.int .i64 x38.1))) rfl rfl rfl (J_assign rfl (Opd.tmp rfl)) ?_
                  refine RegL.nil ?_
                  refine Ct.then_tr ?_
                  refine Tr.weak (Γ' := [(0, (pSl 1 (cSl 1 (cK .i64)) a_0)), (1, (pEq (.int .i64 a_1))), (2, (pSl 1 (cK .i64) a_2)), (3, (pSl 1 (cSl 1 (cK .i64)) a_3)), (10, (pPtr (cGProblem x6.1))), (11, (pEq (.int .i64 x6.2))), (15, (pEq (.pointer (some ⟨b22, 0, none⟩)))), (16, (pEq (.int .i64 x18.2))), (17, (pEq (.int .i64 x38.1)))]) ⟨rfl, rfl, rfl, rfl, rfl, rfl, rfl, rfl, rfl, trivial⟩ ?_
                  refine Tr.seq ?_
                  refine Tr.seq ?_
                  replace h := bind_some h; obtain ⟨x40, hx40, h⟩ := h
                  refine Tr.cut (γ := Unit) (Γm := fun g => [(0, (pSl 1 (cSl 1 (cK .i64)) a_0)), (1, (pEq (.int .i64 a_1))), (2, (pSl 1 (cK .i64) a_2)), (3, (pSl 1 (cSl 1 (cK .i64)) a_3)), (10, (pPtr (cGProblem x6.1))), (11, (pEq (.int .i64 x6.2))), (15, (pEq (.pointer (some ⟨b22, 0, none⟩)))), (105, (pEq (.bool x40)))]) (Ωm := fun g => [oBlk b22 [(pEq (.slice g19.1.1.1 g19.1.1.2.1 g19.1.1.2.2)), (pEq (.slice g19.2.1.1 g19.2.1.2.1 g19.2.1.2.2))], oSS 23 2 1 (cK .i64) g19.1.1.1 g19.1.1.2.1 g19.1.1.2.2 g19.1.2 x18.1.Domains, oSS 23 2 1 (cK .i64) g19.2.1.1 g19.2.1.2.1 g19.2.1.2.2 g19.2.2 x18.1.Apart]) ?_ (fun g44 => ?_)
                  · clear h
                    have h := hx40
                    clear hx40
                    refine Tr.region ?_
                    refine RegL.pure (p := (pEq (.int .i64 x38.1))) rfl rfl rfl (J_move rfl (Opd.tmp rfl)) ?_
                    refine RegL.pure (p := (pEq (.bool (decide (x38.1 < (0 : Int)))))) rfl rfl rfl (J_bin rfl (Opd.tmp rfl) Opd.con B_lss) ?_
                    refine RegL.pure (p := (pEq (.bool (decide (x38.1 < (0 : Int)))))) rfl rfl rfl (J_move rfl (Opd.tmp rfl)) ?_
                    rcases Bool.eq_false_or_eq_true (decide (x38.1 < (0 : Int))) with hc41 | hc41
                    · replace h := bif_t hc41 h
                      refine RegL.skipG rfl rfl rfl hc41 rfl rfl ?_
                      refine RegL.skipG rfl rfl rfl hc41 rfl rfl ?_
                      refine RegL.skipG rfl rfl rfl hc41 rfl rfl ?_
                      refine RegL.skipG rfl rfl rfl hc41 rfl rfl ?_
                      refine RegL.pure (p := (pEq (.bool true))) rfl rfl rfl (J_pick rfl (Opd.tmp rfl) (fun _ => Opd.con) (fun hf => absurd (hc41.symm.trans hf) (by decide))) ?_
                      refine RegL.pure (p := (pEq (.bool true))) rfl rfl rfl (J_move rfl (Opd.tmp rfl)) ?_
                      refine RegL.skipG rfl rfl rfl rfl rfl rfl ?_
                      refine RegL.skipG rfl rfl rfl rfl rfl rfl ?_
                      refine RegL.skipG rfl rfl rfl rfl rfl rfl ?_
                      refine RegL.pure (p := (pEq (.bool true))) rfl rfl rfl (J_pick rfl (Opd.tmp rfl) (fun _ => Opd.con) (fun hf => absurd hf (by decide))) ?_
                      refine RegL.nil ?_
                      refine Ct.re (Ω2 := [oSl 2 1 (cK .i64) g13.1 g13.2.1 g13.2.2 x36.2, oSS 23 2 1 (cK .i64) g10.1.1 g10.1.2.1 g10.1.2.2 g10.2 x34.2, oBlk b22 [(pEq (.slice g19.1.1.1 g19.1.1.2.1 g19.1.1.2.2)), (pEq (.slice g19.2.1.1 g19.2.1.2.1 g19.2.1.2.2))], oSS 23 2 1 (cK .i64) g19.1.1.1 g19.1.1.2.1 g19.1.1.2.2 g19.1.2 x18.1.Domains, oSS 23 2 1 (cK .i64) g19.2.1.1 g19.2.1.2.1 g19.2.1.2.2 g19.2.2 x18.1.Apart]) (fun h => SatO.rest h) ?_
                      refine Ct.re (Ω2 := [oSS 23 2 1 (cK .i64) g10.1.1 g10.1.2.1 g10.1.2.2 g10.2 x34.2, oBlk b22 [(pEq (.slice g19.1.1.1 g19.1.1.2.1 g19.1.1.2.2)), (pEq (.slice g19.2.1.1 g19.2.1.2.1 g19.2.1.2.2))], oSS 23 2 1 (cK .i64) g19.1.1.1 g19.1.1.2.1 g19.1.1.2.2 g19.1.2 x18.1.Domains, oSS 23 2 1 (cK .i64) g19.2.1.1 g19.2.1.2.1 g19.2.1.2.2 g19.2.2 x18.1.Apart]) (fun h => SatO.rest h) ?_
                      refine Ct.re (Ω2 := [oBlk b22 [(pEq (.slice g19.1.1.1 g19.1.1.2.1 g19.1.1.2.2)), (pEq (.slice g19.2.1.1 g19.2.1.2.1 g19.2.1.2.2))], oSS 23 2 1 (cK .i64) g19.1.1.1 g19.1.1.2.1 g19.1.1.2.2 g19.1.2 x18.1.Domains, oSS 23 2 1 (cK .i64) g19.2.1.1 g19.2.1.2.1 g19.2.1.2.2 g19.2.2 x18.1.Apart]) (fun h => SatO.rest h) ?_
                      replace h := Option.some.inj h; subst h
                      exact Ct.mid () rfl ⟨rfl, rfl, rfl, rfl, rfl, rfl, rfl, rfl, trivial⟩
                    · replace h := bif_f hc41 h
                      refine RegL.pureGW (p := (pAgg [(pEq (.slice g19.1.1.1 g19.1.1.2.1 g19.1.1.2.2)), (pEq (.slice g19.2.1.1 g19.2.1.2.1 g19.2.1.2.2))])) rfl rfl rfl hc41 rfl rfl (W_loadA (i := 3) rfl Try.isAgg34 sz34 (Opd.tmp rfl) rfl rfl) ?_
                      refine RegL.pureG (p := (pAgg (cGProblem x6.1))) rfl rfl rfl hc41 rfl rfl (J_loadA rfl Try.isAgg34 sz34 (Opd.tmp rfl) rfl) ?_
                      replace h := bind_some h; obtain ⟨x42, hx42, h⟩ := h
                      refine RegL.pureGW (p := (pEq (.bool x42))) rfl rfl rfl hc41 rfl rfl (W_call rfl Try.call19 (c_laws_eqProblem hx42) (OpdsA.cons (OpdA.conv rfl (Conv.agg (Convs.cons (Conv.nest 4 (fun _ => rfl) rfl) (Convs.cons (Conv.nest 5 (fun _ => rfl) rfl) Convs.nil)))) (OpdsA.cons (OpdA.of (Opd.tmp rfl)) OpdsA.nil)) FreeP.eq) ?_
                      refine RegL.pureG (p := (pEq (.bool (!x42)))) rfl rfl rfl hc41 rfl rfl (J_not rfl (Opd.tmp rfl)) ?_
                      refine RegL.pure (p := (pEq (.bool (!x42)))) rfl rfl rfl (J_pick rfl (Opd.tmp rfl) (fun hf => absurd (hc41.symm.trans hf) (by decide)) (fun _ => (Opd.tmp rfl))) ?_
                      refine RegL.pure (p := (pEq (.bool (!x42)))) rfl rfl rfl (J_move rfl (Opd.tmp rfl)) ?_
                      rcases Bool.eq_false_or_eq_true (!x42) with hc43 | hc43
                      · replace h := bif_t hc43 h
                        refine RegL.skipG rfl rfl rfl hc43 rfl rfl ?_
                        refine RegL.skipG rfl rfl rfl hc43 rfl rfl ?_
                        refine RegL.skipG rfl rfl rfl hc43 rfl rfl ?_
                        refine RegL.pure (p := (pEq (.bool true))) rfl rfl rfl (J_pick rfl (Opd.tmp rfl) (fun _ => Opd.con) (fun hf => absurd (hc43.symm.trans hf) (by decide))) ?_
                        refine RegL.nil ?_
                        refine Ct.re (Ω2 := [oSl 2 1 (cK .i64) g13.1 g13.2.1 g13.2.2 x36.2, oSS 23 2 1 (cK .i64) g10.1.1 g10.1.2.1 g10.1.2.2 g10.2 x34.2, oBlk b22 [(pEq (.slice g19.1.1.1 g19.1.1.2.1 g19.1.1.2.2)), (pEq (.slice g19.2.1.1 g19.2.1.2.1 g19.2.1.2.2))], oSS 23 2 1 (cK .i64) g19.1.1.1 g19.1.1.2.1 g19.1.1.2.2 g19.1.2 x18.1.Domains, oSS 23 2 1 (cK .i64) g19.2.1.1 g19.2.1.2.1 g19.2.1.2.2 g19.2.2 x18.1.Apart]) (fun h => SatO.rest h) ?_
                        refine Ct.re (Ω2 := [oSS 23 2 1 (cK .i64) g10.1.1 g10.1.2.1 g10.1.2.2 g10.2 x34.2, oBlk b22 [(pEq (.slice g19.1.1.1 g19.1.1.2.1 g19.1.1.2.2)), (pEq (.slice g19.2.1.1 g19.2.1.2.1 g19.2.1.2.2))], oSS 23 2 1 (cK .i64) g19.1.1.1 g19.1.1.2.1 g19.1.1.2.2 g19.1.2 x18.1.Domains, oSS 23 2 1 (cK .i64) g19.2.1.1 g19.2.1.2.1 g19.2.1.2.2 g19.2.2 x18.1.Apart]) (fun h => SatO.rest h) ?_
                        refine Ct.re (Ω2 := [oBlk b22 [(pEq (.slice g19.1.1.1 g19.1.1.2.1 g19.1.1.2.2)), (pEq (.slice g19.2.1.1 g19.2.1.2.1 g19.2.1.2.2))], oSS 23 2 1 (cK .i64) g19.1.1.1 g19.1.1.2.1 g19.1.1.2.2 g19.1.2 x18.1.Domains, oSS 23 2 1 (cK .i64) g19.2.1.1 g19.2.1.2.1 g19.2.1.2.2 g19.2.2 x18.1.Apart]) (fun h => SatO.rest h) ?_
                        replace h := Option.some.inj h; subst h
                        exact Ct.mid () rfl ⟨rfl, rfl, rfl, rfl, rfl, rfl, rfl, rfl, trivial⟩
                      · replace h := bif_f hc43 h
                        refine RegL.pureG (p := (pEq (.int .i64 x18.2))) rfl rfl rfl hc43 rfl rfl (J_move rfl (Opd.tmp rfl)) ?_
                        refine RegL.pureG (p := (pEq (.int .i64 x6.2))) rfl rfl rfl hc43 rfl rfl (J_move rfl (Opd.tmp rfl)) ?_
                        refine RegL.pureG (p := (pEq (.bool (x18.2 != x6.2)))) rfl rfl rfl hc43 rfl rfl (J_bin rfl (Opd.tmp rfl) (Opd.tmp rfl) B_neq) ?_
                        refine RegL.pure (p := (pEq (.bool (x18.2 != x6.2)))) rfl rfl rfl (J_pick rfl (Opd.tmp rfl) (fun hf => absurd (hc43.symm.trans hf) (by decide)) (fun _ => (Opd.tmp rfl))) ?_
                        refine RegL.nil ?_
                        refine Ct.re (Ω2 := [oSl 2 1 (cK .i64) g13.1 g13.2.1 g13.2.2 x36.2, oSS 23 2 1 (cK .i64) g10.1.1 g10.1.2.1 g10.1.2.2 g10.2 x34.2, oBlk b22 [(pEq (.slice g19.1.1.1 g19.1.1.2.1 g19.1.1.2.2)), (pEq (.slice g19.2.1.1 g19.2.1.2.1 g19.2.1.2.2))], oSS 23 2 1 (cK .i64) g19.1.1.1 g19.1.1.2.1 g19.1.1.2.2 g19.1.2 x18.1.Domains, oSS 23 2 1 (cK .i64) g19.2.1.1 g19.2.1.2.1 g19.2.1.2.2 g19.2.2 x18.1.Apart]) (fun h => SatO.rest h) ?_
                        refine Ct.re (Ω2 := [oSS 23 2 1 (cK .i64) g10.1.1 g10.1.2.1 g10.1.2.2 g10.2 x34.2, oBlk b22 [(pEq (.slice g19.1.1.1 g19.1.1.2.1 g19.1.1.2.2)), (pEq (.slice g19.2.1.1 g19.2.1.2.1 g19.2.1.2.2))], oSS 23 2 1 (cK .i64) g19.1.1.1 g19.1.1.2.1 g19.1.1.2.2 g19.1.2 x18.1.Domains, oSS 23 2 1 (cK .i64) g19.2.1.1 g19.2.1.2.1 g19.2.1.2.2 g19.2.2 x18.1.Apart]) (fun h => SatO.rest h) ?_
                        refine Ct.re (Ω2 := [oBlk b22 [(pEq (.slice g19.1.1.1 g19.1.1.2.1 g19.1.1.2.2)), (pEq (.slice g19.2.1.1 g19.2.1.2.1 g19.2.1.2.2))], oSS 23 2 1 (cK .i64) g19.1.1.1 g19.1.1.2.1 g19.1.1.2.2 g19.1.2 x18.1.Domains, oSS 23 2 1 (cK .i64) g19.2.1.1 g19.2.1.2.1 g19.2.1.2.2 g19.2.2 x18.1.Apart]) (fun h => SatO.rest h) ?_
                        replace h := Option.some.inj h; subst h
                        exact Ct.mid () rfl ⟨rfl, rfl, rfl, rfl, rfl, rfl, rfl, rfl, trivial⟩
                  · clear hx40
                    refine Ct.then_tr ?_
                    refine Tr.weak (Γ' := [(0, (pSl 1 (cSl 1 (cK .i64)) a_0)), (1, (pEq (.int .i64 a_1))), (2, (pSl 1 (cK .i64) a_2)), (3, (pSl 1 (cSl 1 (cK .i64)) a_3)), (10, (pPtr (cGProblem x6.1))), (11, (pEq (.int .i64 x6.2))), (15, (pEq (.pointer (some ⟨b22, 0, none⟩)))), (105, (pEq (.bool x40)))]) ⟨rfl, rfl, rfl, rfl, rfl, rfl, rfl, rfl, trivial⟩ ?_
                    refine Tr.cond (Opd.tmp rfl) (fun hc => ?_) (fun hc => ?_)
                    · replace h := bif_t hc h
                      refine Tr.seq ?_
                      refine Tr.region ?_
                      refine RegL.pure (p := (pEq (.bool false))) rfl rfl rfl (J_assign rfl Opd.con) ?_
                      refine RegL.nil ?_
                      refine Ct.then_tr ?_
                      refine Tr.weak (Γ' := [(8, (pEq (.bool false)))]) ⟨rfl, trivial⟩ ?_
                      refine Tr.ret ?_
                      refine Ct.then_ret ?_
                      replace h := Option.some.inj h; subst h
                      exact Ct.retH1 (Ωx := [oBlk b22 [(pEq (.slice g19.1.1.1 g19.1.1.2.1 g19.1.1.2.2)), (pEq (.slice g19.2.1.1 g19.2.1.2.1 g19.2.1.2.2))], oSS 23 2 1 (cK .i64) g19.1.1.1 g19.1.1.2.1 g19.1.1.2.2 g19.1.2 x18.1.Domains, oSS 23 2 1 (cK .i64) g19.2.1.1 g19.2.1.2.1 g19.2.1.2.2 g19.2.2 x18.1.Apart]) () rfl (RvOk.tmp rfl) rfl
                    · replace h := bif_f hc h
                      refine Tr.skip ?_
                      refine Ct.then_tr ?_
                      refine Tr.weak (Γ' := [(0, (pSl 1 (cSl 1 (cK .i64)) a_0)), (1, (pEq (.int .i64 a_1))), (2, (pSl 1 (cK .i64) a_2)), (3, (pSl 1 (cSl 1 (cK .i64)) a_3)), (10, (pPtr (cGProblem x6.1))), (11, (pEq (.int .i64 x6.2))), (15, (pEq (.pointer (some ⟨b22, 0, none⟩))))]) ⟨rfl, rfl, rfl, rfl, rfl, rfl, rfl, trivial⟩ ?_
                      refine Tr.seq ?_
                      refine Tr.region ?_
                      refine RegL.pure (p := (pEq (.int .i64 (1 : Int)))) rfl rfl rfl (J_assign rfl Opd.con) ?_
                      refine RegL.nil ?_
                      refine Ct.then_tr ?_
                      refine Tr.weak (Γ' := [(0, (pSl 1 (cSl 1 (cK .i64)) a_0)), (1, (pEq (.int .i64 a_1))), (2, (pSl 1 (cK .i64) a_2)), (3, (pSl 1 (cSl 1 (cK .i64)) a_3)), (10, (pPtr (cGProblem x6.1))), (11, (pEq (.int .i64 x6.2))), (15, (pEq (.pointer (some ⟨b22, 0, none⟩)))), (18, (pEq (.int .i64 (1 : Int))))]) ⟨rfl, rfl, rfl, rfl, rfl, rfl, rfl, rfl, trivial⟩ ?_
                      refine Tr.seq ?_
                      refine Tr.region ?_
                      refine RegL.pureW (p := (pAgg [(pEq (.slice g19.1.1.1 g19.1.1.2.1 g19.1.1.2.2)), (pEq (.slice g19.2.1.1 g19.2.1.2.1 g19.2.1.2.2))])) rfl rfl rfl (W_loadA (i := 0) rfl Try.isAgg34 sz34 (Opd.tmp rfl) rfl rfl) ?_
                      refine RegL.pure (p := (pEq (.int .i64 (1 : Int)))) rfl rfl rfl (J_move rfl (Opd.tmp rfl)) ?_
                      replace h := bind_some h; obtain ⟨x45, hx45, h⟩ := h
                      refine RegL.re (Ω2 := [oSS 23 2 1 (cK .i64) g19.2.1.1 g19.2.1.2.1 g19.2.1.2.2 g19.2.2 x18.1.Apart, oBlk b22 [(pEq (.slice g19.1.1.1 g19.1.1.2.1 g19.1.1.2.2)), (pEq (.slice g19.2.1.1 g19.2.1.2.1 g19.2.1.2.2))], oSS 23 2 1 (cK .i64) g19.1.1.1 g19.1.1.2.1 g19.1.1.2.2 g19.1.2 x18.1.Domains]) (fun h => SatO.pick 2 h) ?_
                      refine RegL.re (Ω2 := [oSS 23 2 1 (cK .i64) g19.1.1.1 g19.1.1.2.1 g19.1.1.2.2 g19.1.2 x18.1.Domains, oSS 23 2 1 (cK .i64) g19.2.1.1 g19.2.1.2.1 g19.2.1.2.2 g19.2.2 x18.1.Apart, oBlk b22 [(pEq (.slice g19.1.1.1 g19.1.1.2.1 g19.1.1.2.2)), (pEq (.slice g19.2.1.1 g19.2.1.2.1 g19.2.1.2.2))]]) (fun h => SatO.pick 2 h) ?_
                      refine RegL.step (γ := Unit) (p := fun g => (pEq (.int .i64 x45.1))) (Ω' := fun g => [oSS 23 2 1 (cK .i64) g19.1.1.1 g19.1.1.2.1 g19.1.1.2.2 g19.1.2 x45.2.1, oSS 23 2 1 (cK .i64) g19.2.1.1 g19.2.1.2.1 g19.2.1.2.2 g19.2.2 x45.2.2, oBlk b22 [(pEq (.slice g19.1.1.1 g19.1.1.2.1 g19.1.1.2.2)), (pEq (.slice g19.2.1.1 g19.2.1.2.1 g19.2.1.2.2))]]) rfl rfl rfl (M_callH (Ωi := [oSS 23 2 1 (cK .i64) g19.1.1.1 g19.1.1.2.1 g19.1.1.2.2 g19.1.2 x18.1.Domains, oSS 23 2 1 (cK .i64) g19.2.1.1 g19.2.1.2.1 g19.2.1.2.2 g19.2.2 x18.1.Apart]) rfl Try.call20 (o_laws_markProblem hx45) (Opds.cons (Opd.tmp rfl) (Opds.cons (Opd.tmp rfl) Opds.nil))) fun g46 => ?_
                      refine RegL.pure (p := (pEq (.int .i64 x45.1))) rfl rfl rfl (J_assign rfl (Opd.tmp rfl)) ?_
                      refine RegL.nil ?_
                      refine Ct.then_tr ?_
                      refine Tr.weak (Γ' := [(0, (pSl 1 (cSl 1 (cK .i64)) a_0)), (1, (pEq (.int .i64 a_1))), (2, (pSl 1 (cK .i64) a_2)), (3, (pSl 1 (cSl 1 (cK .i64)) a_3)), (10, (pPtr (cGProblem x6.1))), (11, (pEq (.int .i64 x6.2))), (15, (pEq (.pointer (some ⟨b22, 0, none⟩)))), (18, (pEq (.int .i64 x45.1)))]) ⟨rfl, rfl, rfl, rfl, rfl, rfl, rfl, rfl, trivial⟩ ?_
                      refine Tr.seq ?_
                      refine Tr.region ?_
                      refine RegL.pure (p := (pEq (.int .i64 (1 : Int)))) rfl rfl rfl (J_assign rfl Opd.con) ?_
                      refine RegL.nil ?_
                      refine Ct.then_tr ?_
                      refine Tr.weak (Γ' := [(0, (pSl 1 (cSl 1 (cK .i64)) a_0)), (1, (pEq (.int .i64 a_1))), (2, (pSl 1 (cK .i64) a_2)), (3, (pSl 1 (cSl 1 (cK .i64)) a_3)), (10, (pPtr (cGProblem x6.1))), (11, (pEq (.int .i64 x6.2))), (15, (pEq (.pointer (some ⟨b22, 0, none⟩)))), (18, (pEq (.int .i64 x45.1))), (19, (pEq (.int .i64 (1 : Int))))]) ⟨rfl, rfl, rfl, rfl, rfl, rfl, rfl, rfl, rfl, trivial⟩ ?_
                      refine Tr.seq ?_
                      refine Tr.region ?_
                      refine RegL.pureW (p := (pAgg [(pEq (.slice g19.1.1.1 g19.1.1.2.1 g19.1.1.2.2)), (pEq (.slice g19.2.1.1 g19.2.1.2.1 g19.2.1.2.2))])) rfl rfl rfl (W_loadA (i := 2) rfl Try.isAgg34 sz34 (Opd.tmp rfl) rfl rfl) ?_
                      refine RegL.pure (p := (pEq (.int .i64 (1 : Int)))) rfl rfl rfl (J_move rfl (Opd.tmp rfl)) ?_
                      replace h := bind_some h; obtain ⟨x47, hx47, h⟩ := h
                      refine RegL.pureW (p := (pEq (.int .i64 x47))) rfl rfl rfl (W_call rfl Try.call21 (c_laws_heldProblem hx47) (OpdsA.cons (OpdA.conv rfl (Conv.agg (Convs.cons (Conv.nest 0 (fun _ => rfl) rfl) (Convs.cons (Conv.nest 1 (fun _ => rfl) rfl) Convs.nil)))) (OpdsA.cons (OpdA.of (Opd.tmp rfl)) OpdsA.nil)) FreeP.eq) ?_
                      refine RegL.pure (p := (pEq (.int .i64 x47))) rfl rfl rfl (J_assign rfl (Opd.tmp rfl)) ?_
                      refine RegL.nil ?_
                      refine Ct.then_tr ?_
                      refine Tr.weak (Γ' := [(0, (pSl 1 (cSl 1 (cK .i64)) a_0)), (1, (pEq (.int .i64 a_1))), (2, (pSl 1 (cK .i64) a_2)), (3, (pSl 1 (cSl 1 (cK .i64)) a_3)), (10, (pPtr (cGProblem x6.1))), (11, (pEq (.int .i64 x6.2))), (15, (pEq (.pointer (some ⟨b22, 0, none⟩)))), (18, (pEq (.int .i64 x45.1))), (19, (pEq (.int .i64 x47)))]) ⟨rfl, rfl, rfl, rfl, rfl, rfl, rfl, rfl, rfl, trivial⟩ ?_
                      refine Tr.seq ?_
                      refine Tr.seq ?_
                      refine Tr.region ?_
                      refine RegL.pure (p := (pEq (.int .i64 x47))) rfl rfl rfl (J_move rfl (Opd.tmp rfl)) ?_
                      refine RegL.pure (p := (pEq (.bool (decide (x47 < (0 : Int)))))) rfl rfl rfl (J_bin rfl (Opd.tmp rfl) Opd.con B_lss) ?_
                      refine RegL.nil ?_
                      refine Ct.then_tr ?_
                      refine Tr.weak (Γ' := [(0, (pSl 1 (cSl 1 (cK .i64)) a_0)), (1, (pEq (.int .i64 a_1))), (2, (pSl 1 (cK .i64) a_2)), (3, (pSl 1 (cSl 1 (cK .i64)) a_3)), (10, (pPtr (cGProblem x6.1))), (11, (pEq (.int .i64 x6.2))), (15, (pEq (.pointer (some ⟨b22, 0, none⟩)))), (18, (pEq (.int .i64 x45.1))), (19, (pEq (.int .i64 x47))), (113, (pEq (.bool (decide (x47 < (0 : Int))))))]) ⟨rfl, rfl, rfl, rfl, rfl, rfl, rfl, rfl, rfl, rfl, trivial⟩ ?_
                      refine Tr.cond (Opd.tmp rfl) (fun hc => ?_) (fun hc => ?_)
                      · replace h := bif_t hc h
                        refine Tr.seq ?_
                        refine Tr.region ?_
                        refine RegL.pure (p := (pEq (.bool false))) rfl rfl rfl (J_assign rfl Opd.con) ?_
                        refine RegL.nil ?_
                        refine Ct.then_tr ?_
                        refine Tr.weak (Γ' := [(8, (pEq (.bool false)))]) ⟨rfl, trivial⟩ ?_
                        refine Tr.ret ?_
                        refine Ct.then_ret ?_
                        replace h := Option.some.inj h; subst h
                        exact Ct.retH1 (Ωx := [oSS 23 2 1 (cK .i64) g19.1.1.1 g19.1.1.2.1 g19.1.1.2.2 g19.1.2 x45.2.1, oSS 23 2 1 (cK .i64) g19.2.1.1 g19.2.1.2.1 g19.2.1.2.2 g19.2.2 x45.2.2, oBlk b22 [(pEq (.slice g19.1.1.1 g19.1.1.2.1 g19.1.1.2.2)), (pEq (.slice g19.2.1.1 g19.2.1.2.1 g19.2.1.2.2))]]) () rfl (RvOk.tmp rfl) rfl
                      · replace h := bif_f hc h
                        refine Tr.skip ?_
                        refine Ct.then_tr ?_
                        refine Tr.weak (Γ' := [(0, (pSl 1 (cSl 1 (cK .i64)) a_0)), (1, (pEq (.int .i64 a_1))), (2, (pSl 1 (cK .i64) a_2)), (3, (pSl 1 (cSl 1 (cK .i64)) a_3)), (10, (pPtr (cGProblem x6.1))), (11, (pEq (.int .i64 x6.2))), (15, (pEq (.pointer (some ⟨b22, 0, none⟩)))), (18, (pEq (.int .i64 x45.1))), (19, (pEq (.int .i64 x47)))]) ⟨rfl, rfl, rfl, rfl, rfl, rfl, rfl, rfl, rfl, trivial⟩ ?_
                        refine Tr.seq ?_
                        refine Tr.seq ?_
                        refine Tr.region ?_
                        refine RegL.pure (p := (pEq (.int .i64 x47))) rfl rfl rfl (J_move rfl (Opd.tmp rfl)) ?_
                        refine RegL.pure (p := (pEq (.int .i64 x45.1))) rfl rfl rfl (J_move rfl (Opd.tmp rfl)) ?_
                        refine RegL.pure (p := (pEq (.bool (x47 != x45.1)))) rfl rfl rfl (J_bin rfl (Opd.tmp rfl) (Opd.tmp rfl) B_neq) ?_
                        refine RegL.nil ?_
                        refine Ct.then_tr ?_
                        refine Tr.weak (Γ' := [(0, (pSl 1 (cSl 1 (cK .i64)) a_0)), (1, (pEq (.int .i64 a_1))), (2, (pSl 1 (cK .i64) a_2)), (3, (pSl 1 (cSl 1 (cK .i64)) a_3)), (10, (pPtr (cGProblem x6.1))), (11, (pEq (.int .i64 x6.2))), (15, (pEq (.pointer (some ⟨b22, 0, none⟩)))), (18, (pEq (.int .i64 x45.1))), (116, (pEq (.bool (x47 != x45.1))))]) ⟨rfl, rfl, rfl, rfl, rfl, rfl, rfl, rfl, rfl, trivial⟩ ?_
                        refine Tr.cond (Opd.tmp rfl) (fun hc => ?_) (fun hc => ?_)
                        · replace h := bif_t hc h
                          refine Tr.seq ?_
                          refine Tr.region ?_
                          refine RegL.pure (p := (pEq (.bool false))) rfl rfl rfl (J_assign rfl Opd.con) ?_
                          refine RegL.nil ?_
                          refine Ct.then_tr ?_
                          refine Tr.weak (Γ' := [(8, (pEq (.bool false)))]) ⟨rfl, trivial⟩ ?_
                          refine Tr.ret ?_
                          refine Ct.then_ret ?_
                          replace h := Option.some.inj h; subst h
                          exact Ct.retH1 (Ωx := [oSS 23 2 1 (cK .i64) g19.1.1.1 g19.1.1.2.1 g19.1.1.2.2 g19.1.2 x45.2.1, oSS 23 2 1 (cK .i64) g19.2.1.1 g19.2.1.2.1 g19.2.1.2.2 g19.2.2 x45.2.2, oBlk b22 [(pEq (.slice g19.1.1.1 g19.1.1.2.1 g19.1.1.2.2)), (pEq (.slice g19.2.1.1 g19.2.1.2.1 g19.2.1.2.2))]]) () rfl (RvOk.tmp rfl) rfl
                        · replace h := bif_f hc h
                          refine Tr.skip ?_
                          refine Ct.then_tr ?_
                          refine Tr.weak (Γ' := [(0, (pSl 1 (cSl 1 (cK .i64)) a_0)), (1, (pEq (.int .i64 a_1))), (2, (pSl 1 (cK .i64) a_2)), (3, (pSl 1 (cSl 1 (cK .i64)) a_3)), (10, (pPtr (cGProblem x6.1))), (11, (pEq (.int .i64 x6.2))), (15, (pEq (.pointer (some ⟨b22, 0, none⟩)))), (18, (pEq (.int .i64 x45.1)))]) ⟨rfl, rfl, rfl, rfl, rfl, rfl, rfl, rfl, trivial⟩ ?_
                          refine Tr.seq ?_
                          refine Tr.region ?_
                          refine RegL.pure (p := (pSl 1 (cSl 1 (cK .i64)) a_0)) rfl rfl rfl (J_move rfl (Opd.tmp rfl)) ?_
                          replace h := bind_some h; obtain ⟨x48, hx48, h⟩ := h
                          refine RegL.pure (p := (pSl 1 (cSl 1 (cK .i64)) x48)) rfl rfl rfl (J_call rfl Try.call9 (c_laws_toInt64SS hx48) (Opds.cons (Opd.tmp rfl) Opds.nil)) ?_
                          refine RegL.pure (p := (pEq (.int .i64 a_1))) rfl rfl rfl (J_move rfl (Opd.tmp rfl)) ?_
                          refine RegL.pure (p := (pSl 1 (cK .i64) a_2)) rfl rfl rfl (J_move rfl (Opd.tmp rfl)) ?_
                          replace h := bind_some h; obtain ⟨x49, hx49, h⟩ := h
                          refine RegL.pure (p := (pSl 1 (cK .i64) x49)) rfl rfl rfl (J_call rfl Try.call10 (c_laws_toInt64S hx49) (Opds.cons (Opd.tmp rfl) Opds.nil)) ?_
                          refine RegL.pure (p := (pSl 1 (cSl 1 (cK .i64)) a_3)) rfl rfl rfl (J_move rfl (Opd.tmp rfl)) ?_
                          replace h := bind_some h; obtain ⟨x50, hx50, h⟩ := h
                          refine RegL.pure (p := (pSl 1 (cSl 1 (cK .i64)) x50)) rfl rfl rfl (J_call rfl Try.call9 (c_laws_toInt64SS hx50) (Opds.cons (Opd.tmp rfl) Opds.nil)) ?_
                          replace h := bind_some h; obtain ⟨x51, hx51, h⟩ := h
                          refine RegL.pure (p := (pTup [(pAgg (cGProblem x51.1)), (pEq (.int .i64 x51.2))])) rfl rfl rfl (J_call rfl Try.call18 (c_impl_ProblemOf hx51) (Opds.cons (Opd.tmp rfl) (Opds.cons (Opd.tmp rfl) (Opds.cons (Opd.tmp rfl) (Opds.cons (Opd.tmp rfl) Opds.nil))))) ?_
                          refine RegL.pure (p := (pTup [(pAgg (cGProblem x51.1)), (pEq (.int .i64 x51.2))])) rfl rfl rfl (J_move rfl (Opd.tmp rfl)) ?_
                          refine RegL.pure (p := (pAgg (cGProblem x51.1))) rfl rfl rfl (J_extract rfl (Opd.tmp rfl) rfl) ?_
                          refine RegL.pure (p := (pEq (.int .i64 x51.2))) rfl rfl rfl (J_extract rfl (Opd.tmp rfl) rfl) ?_
                          refine RegL.step (γ := Nat) (p := fun b => pEq (.pointer (some ⟨b, 0, none⟩))) (Ω' := fun b => [oBlk b [(pEq (.slice none 0 0)), (pEq (.slice none 0 0))], oSS 23 2 1 (cK .i64) g19.1.1.1 g19.1.1.2.1 g19.1.1.2.2 g19.1.2 x45.2.1, oSS 23 2 1 (cK .i64) g19.2.1.1 g19.2.1.2.1 g19.2.1.2.2 g19.2.2 x45.2.2, oBlk b22 [(pEq (.slice g19.1.1.1 g19.1.1.2.1 g19.1.1.2.2)), (pEq (.slice g19.2.1.1 g19.2.1.2.1 g19.2.1.2.2))]]) rfl rfl rfl (M_alloc rfl zero34) fun b52 => ?_
                          refine RegL.stepN (γ := Unit) (p := fun _ => pAny) (Ω' := fun _ => [oBlk b52 [(pSl 1 (cSl 1 (cK .i64)) x51.1.Domains), (pSl 1 (cSl 1 (cK .i64)) x51.1.Apart)], oSS 23 2 1 (cK .i64) g19.1.1.1 g19.1.1.2.1 g19.1.1.2.2 g19.1.2 x45.2.1, oSS 23 2 1 (cK .i64) g19.2.1.1 g19.2.1.2.1 g19.2.1.2.2 g19.2.2 x45.2.2, oBlk b22 [(pEq (.slice g19.1.1.1 g19.1.1.2.1 g19.1.1.2.2)), (pEq (.slice g19.2.1.1 g19.2.1.2.1 g19.2.1.2.2))]]) rfl rfl (M_storeA rfl sz34 (Opd.tmp rfl) (Opd.tmp rfl) (fun _ _ _ h => ones_of ((OneCs.cons OneC.sl (OneCs.cons OneC.sl OneCs.nil))) h) rfl rfl) fun g53 => ?_
                          refine RegL.freeze (s := 20) rfl ?_
                          refine RegL.pure (p := (pEq (.int .i64 x51.2))) rfl rfl rfl (J_assign rfl (Opd.tmp rfl)) ?_
                          refine RegL.nil ?_
                          refine Ct.then_tr ?_
                          refine Tr.weak (Γ' := [(10, (pPtr (cGProblem x6.1))), (11, (pEq (.int .i64 x6.2))), (15, (pEq (.pointer (some ⟨b22, 0, none⟩)))), (18, (pEq (.int .i64 x45.1))), (20, (pPtr (cGProblem x51.1))), (21, (pEq (.int .i64 x51.2)))]) ⟨rfl, rfl, rfl, rfl, rfl, rfl, trivial⟩ ?_
                          refine Tr.seq ?_
                          refine Tr.seq ?_
                          replace h := bind_some h; obtain ⟨x54, hx54, h⟩ := h
                          refine Tr.cut (γ := Unit) (Γm := fun g => [(15, (pEq (.pointer (some ⟨b22, 0, none⟩)))), (18, (pEq (.int .i64 x45.1))), (136, (pEq (.bool x54)))]) (Ωm := fun g => [oSS 23 2 1 (cK .i64) g19.1.1.1 g19.1.1.2.1 g19.1.1.2.2 g19.1.2 x45.2.1, oSS 23 2 1 (cK .i64) g19.2.1.1 g19.2.1.2.1 g19.2.1.2.2 g19.2.2 x45.2.2, oBlk b22 [(pEq (.slice g19.1.1.1 g19.1.1.2.1 g19.1.1.2.2)), (pEq (.slice g19.2.1.1 g19.2.1.2.1 g19.2.1.2.2))]]) ?_ (fun g57 => ?_)
                          · clear h
                            have h := hx54
                            clear hx54
                            refine Tr.region ?_
                            refine RegL.pure (p := (pAgg (cGProblem x51.1))) rfl rfl rfl (J_loadA rfl Try.isAgg34 sz34 (Opd.tmp rfl) rfl) ?_
                            refine RegL.pure (p := (pAgg (cGProblem x6.1))) rfl rfl rfl (J_loadA rfl Try.isAgg34 sz34 (Opd.tmp rfl) rfl) ?_
                            replace h := bind_some h; obtain ⟨x55, hx55, h⟩ := h
                            refine RegL.pure (p := (pEq (.bool x55))) rfl rfl rfl (J_call rfl Try.call19 (c_laws_eqProblem hx55) (Opds.cons (Opd.tmp rfl) (Opds.cons (Opd.tmp rfl) Opds.nil))) ?_
                            refine RegL.pure (p := (pEq (.bool (!x55)))) rfl rfl rfl (J_not rfl (Opd.tmp rfl)) ?_
                            refine RegL.pure (p := (pEq (.bool (!x55)))) rfl rfl rfl (J_move rfl (Opd.tmp rfl)) ?_
                            rcases Bool.eq_false_or_eq_true (!x55) with hc56 | hc56
                            · replace h := bif_t hc56 h
                              refine RegL.skipG rfl rfl rfl hc56 rfl rfl ?_
                              refine RegL.skipG rfl rfl rfl hc56 rfl rfl ?_
                              refine RegL.skipG rfl rfl rfl hc56 rfl rfl ?_
                              refine RegL.pure (p := (pEq (.bool true))) rfl rfl rfl (J_pick rfl (Opd.tmp rfl) (fun _ => Opd.con) (fun hf => absurd (hc56.symm.trans hf) (by decide))) ?_
                              refine RegL.nil ?_
                              replace h := Option.some.inj h; subst h
                              exact Ct.mid () rfl ⟨rfl, rfl, rfl, trivial⟩
                            · replace h := bif_f hc56 h
                              refine RegL.pureG (p := (pEq (.int .i64 x51.2))) rfl rfl rfl hc56 rfl rfl (J_move rfl (Opd.tmp rfl)) ?_
                              refine RegL.pureG (p := (pEq (.int .i64 x6.2))) rfl rfl rfl hc56 rfl rfl (J_move rfl (Opd.tmp rfl)) ?_
                              refine RegL.pureG (p := (pEq (.bool (x51.2 != x6.2)))) rfl rfl rfl hc56 rfl rfl (J_bin rfl (Opd.tmp rfl) (Opd.tmp rfl) B_neq) ?_
                              refine RegL.pure (p := (pEq (.bool (x51.2 != x6.2)))) rfl rfl rfl (J_pick rfl (Opd.tmp rfl) (fun hf => absurd (hc56.symm.trans hf) (by decide)) (fun _ => (Opd.tmp rfl))) ?_
                              refine RegL.nil ?_
                              replace h := Option.some.inj h; subst h
                              exact Ct.mid () rfl ⟨rfl, rfl, rfl, trivial⟩
                          · clear hx54
                            refine Ct.then_tr ?_
                            refine Tr.weak (Γ' := [(15, (pEq (.pointer (some ⟨b22, 0, none⟩)))), (18, (pEq (.int .i64 x45.1))), (136, (pEq (.bool x54)))]) ⟨rfl, rfl, rfl, trivial⟩ ?_
                            refine Tr.cond (Opd.tmp rfl) (fun hc => ?_) (fun hc => ?_)
                            · replace h := bif_t hc h
                              refine Tr.seq ?_
                              refine Tr.region ?_
                              refine RegL.pure (p := (pEq (.bool false))) rfl rfl rfl (J_assign rfl Opd.con) ?_
                              refine RegL.nil ?_
                              refine Ct.then_tr ?_
                              refine Tr.weak (Γ' := [(8, (pEq (.bool false)))]) ⟨rfl, trivial⟩ ?_
                              refine Tr.ret ?_
                              refine Ct.then_ret ?_
                              replace h := Option.some.inj h; subst h
                              exact Ct.retH1 (Ωx := [oSS 23 2 1 (cK .i64) g19.1.1.1 g19.1.1.2.1 g19.1.1.2.2 g19.1.2 x45.2.1, oSS 23 2 1 (cK .i64) g19.2.1.1 g19.2.1.2.1 g19.2.1.2.2 g19.2.2 x45.2.2, oBlk b22 [(pEq (.slice g19.1.1.1 g19.1.1.2.1 g19.1.1.2.2)), (pEq (.slice g19.2.1.1 g19.2.1.2.1 g19.2.1.2.2))]]) () rfl (RvOk.tmp rfl) rfl
                            · replace h := bif_f hc h
                              refine Tr.skip ?_
                              refine Ct.then_tr ?_
                              refine Tr.weak (Γ' := [(15, (pEq (.pointer (some ⟨b22, 0, none⟩)))), (18, (pEq (.int .i64 x45.1)))]) ⟨rfl, rfl, trivial⟩ ?_
                              refine Tr.seq ?_
                              refine Tr.region ?_
                              refine RegL.pure (p := (pEq (.int .i64 (1 : Int)))) rfl rfl rfl (J_assign rfl Opd.con) ?_
                              refine RegL.nil ?_
                              refine Ct.then_tr ?_
                              refine Tr.weak (Γ' := [(15, (pEq (.pointer (some ⟨b22, 0, none⟩)))), (18, (pEq (.int .i64 x45.1))), (19, (pEq (.int .i64 (1 : Int))))]) ⟨rfl, rfl, rfl, trivial⟩ ?_
                              refine Tr.seq ?_
                              refine Tr.region ?_
                              refine RegL.pureW (p := (pAgg [(pEq (.slice g19.1.1.1 g19.1.1.2.1 g19.1.1.2.2)), (pEq (.slice g19.2.1.1 g19.2.1.2.1 g19.2.1.2.2))])) rfl rfl rfl (W_loadA (i := 2) rfl Try.isAgg34 sz34 (Opd.tmp rfl) rfl rfl) ?_
                              refine RegL.pure (p := (pEq (.int .i64 (1 : Int)))) rfl rfl rfl (J_move rfl (Opd.tmp rfl)) ?_
                              replace h := bind_some h; obtain ⟨x58, hx58, h⟩ := h
                              refine RegL.pureW (p := (pEq (.int .i64 x58))) rfl rfl rfl (W_call rfl Try.call21 (c_laws_heldProblem hx58) (OpdsA.cons (OpdA.conv rfl (Conv.agg (Convs.cons (Conv.nest 0 (fun _ => rfl) rfl) (Convs.cons (Conv.nest 1 (fun _ => rfl) rfl) Convs.nil)))) (OpdsA.cons (OpdA.of (Opd.tmp rfl)) OpdsA.nil)) FreeP.eq) ?_
                              refine RegL.pure (p := (pEq (.int .i64 x58))) rfl rfl rfl (J_assign rfl (Opd.tmp rfl)) ?_
                              refine RegL.nil ?_
                              refine Ct.then_tr ?_
                              refine Tr.weak (Γ' := [(18, (pEq (.int .i64 x45.1))), (19, (pEq (.int .i64 x58)))]) ⟨rfl, rfl, trivial⟩ ?_
                              refine Tr.seq ?_
                              refine Tr.seq ?_
                              refine Tr.region ?_
                              refine RegL.pure (p := (pEq (.int .i64 x58))) rfl rfl rfl (J_move rfl (Opd.tmp rfl)) ?_
                              refine RegL.pure (p := (pEq (.bool (decide (x58 < (0 : Int)))))) rfl rfl rfl (J_bin rfl (Opd.tmp rfl) Opd.con B_lss) ?_
                              refine RegL.nil ?_
                              refine Ct.then_tr ?_
                              refine Tr.weak (Γ' := [(18, (pEq (.int .i64 x45.1))), (19, (pEq (.int .i64 x58))), (141, (pEq (.bool (decide (x58 < (0 : Int))))))]) ⟨rfl, rfl, rfl, trivial⟩ ?_
                              refine Tr.cond (Opd.tmp rfl) (fun hc => ?_) (fun hc => ?_)
                              · replace h := bif_t hc h
                                refine Tr.seq ?_
                                refine Tr.region ?_
                                refine RegL.pure (p := (pEq (.bool false))) rfl rfl rfl (J_assign rfl Opd.con) ?_
                                refine RegL.nil ?_
                                refine Ct.then_tr ?_
                                refine Tr.weak (Γ' := [(8, (pEq (.bool false)))]) ⟨rfl, trivial⟩ ?_
                                refine Tr.ret ?_
                                refine Ct.then_ret ?_
                                replace h := Option.some.inj h; subst h
                                exact Ct.retH1 (Ωx := [oSS 23 2 1 (cK .i64) g19.1.1.1 g19.1.1.2.1 g19.1.1.2.2 g19.1.2 x45.2.1, oSS 23 2 1 (cK .i64) g19.2.1.1 g19.2.1.2.1 g19.2.1.2.2 g19.2.2 x45.2.2, oBlk b22 [(pEq (.slice g19.1.1.1 g19.1.1.2.1 g19.1.1.2.2)), (pEq (.slice g19.2.1.1 g19.2.1.2.1 g19.2.1.2.2))]]) () rfl (RvOk.tmp rfl) rfl
                              · replace h := bif_f hc h
                                refine Tr.skip ?_
                                refine Ct.then_tr ?_
                                refine Tr.weak (Γ' := [(18, (pEq (.int .i64 x45.1))), (19, (pEq (.int .i64 x58)))]) ⟨rfl, rfl, trivial⟩ ?_
                                refine Tr.seq ?_
                                refine Tr.seq ?_
                                refine Tr.region ?_
                                refine RegL.pure (p := (pEq (.int .i64 x58))) rfl rfl rfl (J_move rfl (Opd.tmp rfl)) ?_
                                refine RegL.pure (p := (pEq (.int .i64 x45.1))) rfl rfl rfl (J_move rfl (Opd.tmp rfl)) ?_
                                refine RegL.pure (p := (pEq (.bool (x58 != x45.1)))) rfl rfl rfl (J_bin rfl (Opd.tmp rfl) (Opd.tmp rfl) B_neq) ?_
                                refine RegL.nil ?_
                                refine Ct.then_tr ?_
                                refine Tr.weak (Γ' := [(144, (pEq (.bool (x58 != x45.1))))]) ⟨rfl, trivial⟩ ?_
                                refine Tr.cond (Opd.tmp rfl) (fun hc => ?_) (fun hc => ?_)
                                · replace h := bif_t hc h
                                  refine Tr.seq ?_
                                  refine Tr.region ?_
                                  refine RegL.pure (p := (pEq (.bool false))) rfl rfl rfl (J_assign rfl Opd.con) ?_
                                  refine RegL.nil ?_
                                  refine Ct.then_tr ?_
                                  refine Tr.weak (Γ' := [(8, (pEq (.bool false)))]) ⟨rfl, trivial⟩ ?_
                                  refine Tr.ret ?_
                                  refine Ct.then_ret ?_
                                  replace h := Option.some.inj h; subst h
                                  exact Ct.retH1 (Ωx := [oSS 23 2 1 (cK .i64) g19.1.1.1 g19.1.1.2.1 g19.1.1.2.2 g19.1.2 x45.2.1, oSS 23 2 1 (cK .i64) g19.2.1.1 g19.2.1.2.1 g19.2.1.2.2 g19.2.2 x45.2.2, oBlk b22 [(pEq (.slice g19.1.1.1 g19.1.1.2.1 g19.1.1.2.2)), (pEq (.slice g19.2.1.1 g19.2.1.2.1 g19.2.1.2.2))]]) () rfl (RvOk.tmp rfl) rfl
                                · replace h := bif_f hc h
                                  refine Tr.skip ?_
                                  refine Ct.then_tr ?_
                                  refine Tr.weak (Γ' := []) trivial ?_
                                  refine Tr.seq ?_
                                  refine Tr.region ?_
                                  refine RegL.pure (p := (pEq (.bool true))) rfl rfl rfl (J_assign rfl Opd.con) ?_
                                  refine RegL.nil ?_
                                  refine Ct.then_tr ?_
                                  refine Tr.weak (Γ' := [(8, (pEq (.bool true)))]) ⟨rfl, trivial⟩ ?_
                                  refine Tr.ret ?_
                                  replace h := Option.some.inj h; subst h
                                  exact Ct.retH1 (Ωx := [oSS 23 2 1 (cK .i64) g19.1.1.1 g19.1.1.2.1 g19.1.1.2.2 g19.1.2 x45.2.1, oSS 23 2 1 (cK .i64) g19.2.1.1 g19.2.1.2.1 g19.2.1.2.2 g19.2.2 x45.2.2, oBlk b22 [(pEq (.slice g19.1.1.1 g19.1.1.2.1 g19.1.1.2.2)), (pEq (.slice g19.2.1.1 g19.2.1.2.1 g19.2.1.2.2))]]) () rfl (RvOk.tmp rfl) rfl

end Go.Proofs.Ytipkpdobbeggnaa.fnExactProblemOfW
