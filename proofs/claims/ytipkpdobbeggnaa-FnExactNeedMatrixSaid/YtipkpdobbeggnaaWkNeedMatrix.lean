/-
  The walks that the law FnExactNeedMatrix reaches: each function computes its model. Printed by our own program.
-/
import Derived.Test.YtipkpdobbeggnaaProg
import Derived.Test.YtipkpdobbeggnaaMod
import Derived.Test.YtipkpdobbeggnaaMore
import Derived.KernelRfl
import Derived.Test.YtipkpdobbeggnaaWkNeedMatrixa
namespace Go.Proofs.Ytipkpdobbeggnaa.fnExactNeedMatrixW
open Go Go.RowKit Go.Wk
set_option linter.unusedVariables false
set_option maxRecDepth 100000


theorem c_laws_heldInt64S {a_0 : (List Int)} {k_1 : Int} {r : Int} (h : m_laws_heldInt64S a_0 k_1 = some r) : CallJ Try.prog 41 [(pSl 1 (cK .i64) a_0), (pEq (.int .i64 k_1))] (pEq (.int .i64 r)) := by
  unfold m_laws_heldInt64S at h
  refine CallJ.enterH Try.func41 rfl Try.ntmps41 rfl fun W I0 H => ?_
  refine Tr.weak (Γ' := [(0, (pSl 1 (cK .i64) a_0)), (1, (pEq (.int .i64 k_1)))]) ⟨rfl, rfl, trivial⟩ ?_
  refine Tr.seq ?_
  refine Tr.region ?_
  refine RegL.pure (p := (pEq (.int .i64 (0 : Int)))) rfl rfl rfl (J_assign rfl Opd.con) ?_
  refine RegL.nil ?_
  refine Ct.then_tr ?_
  refine Tr.weak (Γ' := [(0, (pSl 1 (cK .i64) a_0)), (1, (pEq (.int .i64 k_1)))]) ⟨rfl, rfl, trivial⟩ ?_
  refine Tr.seq ?_
  refine Tr.seq ?_
  refine Tr.region ?_
  refine RegL.pure (p := (pEq (.int .i64 (0 : Int)))) rfl rfl rfl (J_assign rfl Opd.con) ?_
  refine RegL.nil ?_
  refine Ct.then_tr ?_
  refine Tr.weak (Γ' := [(0, (pSl 1 (cK .i64) a_0)), (1, (pEq (.int .i64 k_1))), (5, (pEq (.int .i64 (0 : Int))))]) ⟨rfl, rfl, rfl, trivial⟩ ?_
  refine Tr.block ?_
  refine Tr.weak (Γ' := [(0, (pSl 1 (cK .i64) a_0)), (1, (pEq (.int .i64 k_1))), (5, (pEq (.int .i64 (0 : Int))))]) ⟨rfl, rfl, rfl, trivial⟩ ?_
  refine Tr.loop (γ := Unit) (σ := (Int × Int)) (Γσ := fun s g => [(0, (pSl 1 (cK .i64) a_0)), (1, (pEq (.int .i64 s.1))), (5, (pEq (.int .i64 s.2)))]) (Ωσ := fun s g => []) (g := ()) h ?_
  clear h
  rintro ⟨v2, v3⟩ g4 t h
  replace h : m_laws_heldInt64S_B1 a_0 v2 v3 = some t := h
  unfold m_laws_heldInt64S_B1 at h
  refine Tr.weakO (Γ' := [(0, (pSl 1 (cK .i64) a_0)), (1, (pEq (.int .i64 v2))), (5, (pEq (.int .i64 v3)))]) (Ω' := []) rfl ⟨rfl, rfl, rfl, trivial⟩ ?_
  refine Tr.seq ?_
  refine Tr.seq ?_
  refine Tr.region ?_
  refine RegL.pure (p := (pEq (.int .i64 v3))) rfl rfl rfl (J_move rfl (Opd.tmp rfl)) ?_
  refine RegL.pure (p := (pSl 1 (cK .i64) a_0)) rfl rfl rfl (J_move rfl (Opd.tmp rfl)) ?_
  refine RegL.pure (p := (pEq (.int .i64 (a_0.length : Int)))) rfl rfl rfl (J_len rfl Try.underlying23 (Opd.tmp rfl) rfl) ?_
  refine RegL.pure (p := (pEq (.bool (decide (v3 < (a_0.length : Int)))))) rfl rfl rfl (J_bin rfl (Opd.tmp rfl) (Opd.tmp rfl) B_lss) ?_
  refine RegL.nil ?_
  refine Ct.then_tr ?_
  refine Tr.weak (Γ' := [(0, (pSl 1 (cK .i64) a_0)), (1, (pEq (.int .i64 v2))), (5, (pEq (.int .i64 v3))), (9, (pEq (.bool (decide (v3 < (a_0.length : Int))))))]) ⟨rfl, rfl, rfl, rfl, trivial⟩ ?_
  refine Tr.cond (Opd.tmp rfl) (fun hc => ?_) (fun hc => ?_)
  · replace h := bif_t hc h
    refine Tr.skip ?_
    refine Ct.then_tr ?_
    refine Tr.weak (Γ' := [(0, (pSl 1 (cK .i64) a_0)), (1, (pEq (.int .i64 v2))), (5, (pEq (.int .i64 v3)))]) ⟨rfl, rfl, rfl, trivial⟩ ?_
    refine Tr.seq ?_
    refine Tr.block ?_
    refine Tr.seq ?_
    refine Tr.seq ?_
    refine Tr.region ?_
    refine RegL.pure (p := (pSl 1 (cK .i64) a_0)) rfl rfl rfl (J_move rfl (Opd.tmp rfl)) ?_
    refine RegL.pure (p := (pEq (.int .i64 v3))) rfl rfl rfl (J_move rfl (Opd.tmp rfl)) ?_
    replace h := bind_some h; obtain ⟨x5, hx5, h⟩ := h
    refine RegL.pure (p := (pPtr ((cK .i64) x5))) rfl rfl rfl (J_idx rfl Try.underlying23 sz2 (Opd.tmp rfl) (Opd.tmp rfl) hx5) ?_
    refine RegL.pure (p := (pEq (.int .i64 x5))) rfl rfl rfl (J_load rfl Try.isAgg2 (Opd.tmp rfl)) ?_
    refine RegL.pure (p := (pEq (.int .i64 v2))) rfl rfl rfl (J_move rfl (Opd.tmp rfl)) ?_
    refine RegL.pure (p := (pEq (.bool (x5 != v2)))) rfl rfl rfl (J_bin rfl (Opd.tmp rfl) (Opd.tmp rfl) B_neq) ?_
    refine RegL.nil ?_
    refine Ct.then_tr ?_
    refine Tr.weak (Γ' := [(0, (pSl 1 (cK .i64) a_0)), (1, (pEq (.int .i64 v2))), (5, (pEq (.int .i64 v3))), (17, (pEq (.bool (x5 != v2))))]) ⟨rfl, rfl, rfl, rfl, trivial⟩ ?_
    refine Tr.cond (Opd.tmp rfl) (fun hc => ?_) (fun hc => ?_)
    · replace h := bif_t hc h
      refine Tr.seq ?_
      refine Tr.region ?_
      refine RegL.pure (p := (pEq (.int .i64 (-1 : Int)))) rfl rfl rfl (J_assign rfl Opd.con) ?_
      refine RegL.nil ?_
      refine Ct.then_tr ?_
      refine Tr.weak (Γ' := [(4, (pEq (.int .i64 (-1 : Int))))]) ⟨rfl, trivial⟩ ?_
      refine Tr.ret ?_
      refine Ct.then_ret ?_
      refine Ct.blk_ret ?_
      refine Ct.then_ret ?_
      replace h := map_some h; obtain ⟨r1, h, rfl⟩ := h
      refine Ct.out_ret fun e => ?_
      subst e
      refine Ct.blk_ret ?_
      refine Ct.then_ret ?_
      replace h := Option.some.inj h; subst h
      exact Ct.retH1 (Ωx := []) () rfl (RvOk.tmp rfl) rfl
    · replace h := bif_f hc h
      refine Tr.skip ?_
      refine Ct.then_tr ?_
      refine Tr.weak (Γ' := [(0, (pSl 1 (cK .i64) a_0)), (1, (pEq (.int .i64 v2))), (5, (pEq (.int .i64 v3)))]) ⟨rfl, rfl, rfl, trivial⟩ ?_
      refine Tr.region ?_
      refine RegL.pure (p := (pEq (.int .i64 v2))) rfl rfl rfl (J_move rfl (Opd.tmp rfl)) ?_
      refine RegL.pure (p := (pEq (.int .i64 (w64 (v2 + (1 : Int)))))) rfl rfl rfl (J_bin rfl (Opd.tmp rfl) Opd.con B_add) ?_
      refine RegL.pure (p := (pEq (.int .i64 (w64 (v2 + (1 : Int)))))) rfl rfl rfl (J_assign rfl (Opd.tmp rfl)) ?_
      refine RegL.nil ?_
      refine Ct.blk_normal ?_
      refine Ct.then_tr ?_
      refine Tr.weak (Γ' := [(0, (pSl 1 (cK .i64) a_0)), (1, (pEq (.int .i64 (w64 (v2 + (1 : Int)))))), (5, (pEq (.int .i64 v3)))]) ⟨rfl, rfl, rfl, trivial⟩ ?_
      refine Tr.region ?_
      refine RegL.pure (p := (pEq (.int .i64 v3))) rfl rfl rfl (J_move rfl (Opd.tmp rfl)) ?_
      refine RegL.pure (p := (pEq (.int .i64 (w64 (v3 + (1 : Int)))))) rfl rfl rfl (J_bin rfl (Opd.tmp rfl) Opd.con B_add) ?_
      refine RegL.pure (p := (pEq (.int .i64 (w64 (v3 + (1 : Int)))))) rfl rfl rfl (J_assign rfl (Opd.tmp rfl)) ?_
      refine RegL.nil ?_
      replace h := Option.some.inj h; subst h
      exact Ct.again () rfl ⟨rfl, rfl, rfl, trivial⟩
  · replace h := bif_f hc h
    refine Tr.exit ?_
    refine Ct.then_exit ?_
    replace h := map_some h; obtain ⟨r1, h, rfl⟩ := h
    refine Ct.out_exit fun e => ?_
    subst e
    refine Ct.blk_exit ?_
    refine Ct.then_tr ?_
    refine Tr.weak (Γ' := [(1, (pEq (.int .i64 v2)))]) ⟨rfl, trivial⟩ ?_
    refine Tr.seq ?_
    refine Tr.region ?_
    refine RegL.pure (p := (pEq (.int .i64 v2))) rfl rfl rfl (J_move rfl (Opd.tmp rfl)) ?_
    refine RegL.pure (p := (pEq (.int .i64 v2))) rfl rfl rfl (J_assign rfl (Opd.tmp rfl)) ?_
    refine RegL.nil ?_
    refine Ct.then_tr ?_
    refine Tr.weak (Γ' := [(4, (pEq (.int .i64 v2)))]) ⟨rfl, trivial⟩ ?_
    refine Tr.ret ?_
    replace h := Option.some.inj h; subst h
    exact Ct.retH1 (Ωx := []) () rfl (RvOk.tmp rfl) rfl

theorem c_laws_heldInt64SS {a_0 : (List (List Int))} {k_1 : Int} {r : Int} (h : m_laws_heldInt64SS a_0 k_1 = some r) : CallJ Try.prog 16 [(pSl 1 (cSl 1 (cK .i64)) a_0), (pEq (.int .i64 k_1))] (pEq (.int .i64 r)) := by
  unfold m_laws_heldInt64SS at h
  refine CallJ.enterH Try.func16 rfl Try.ntmps16 rfl fun W I0 H => ?_
  refine Tr.weak (Γ' := [(0, (pSl 1 (cSl 1 (cK .i64)) a_0)), (1, (pEq (.int .i64 k_1)))]) ⟨rfl, rfl, trivial⟩ ?_
  refine Tr.seq ?_
  refine Tr.region ?_
  refine RegL.pure (p := (pEq (.int .i64 (0 : Int)))) rfl rfl rfl (J_assign rfl Opd.con) ?_
  refine RegL.nil ?_
  refine Ct.then_tr ?_
  refine Tr.weak (Γ' := [(0, (pSl 1 (cSl 1 (cK .i64)) a_0)), (1, (pEq (.int .i64 k_1)))]) ⟨rfl, rfl, trivial⟩ ?_
  refine Tr.seq ?_
  refine Tr.seq ?_
  refine Tr.region ?_
  refine RegL.pure (p := (pEq (.int .i64 (0 : Int)))) rfl rfl rfl (J_assign rfl Opd.con) ?_
  refine RegL.nil ?_
  refine Ct.then_tr ?_
  refine Tr.weak (Γ' := [(0, (pSl 1 (cSl 1 (cK .i64)) a_0)), (1, (pEq (.int .i64 k_1))), (5, (pEq (.int .i64 (0 : Int))))]) ⟨rfl, rfl, rfl, trivial⟩ ?_
  refine Tr.block ?_
  refine Tr.weak (Γ' := [(0, (pSl 1 (cSl 1 (cK .i64)) a_0)), (1, (pEq (.int .i64 k_1))), (5, (pEq (.int .i64 (0 : Int))))]) ⟨rfl, rfl, rfl, trivial⟩ ?_
  refine Tr.loop (γ := Unit) (σ := (Int × Int)) (Γσ := fun s g => [(0, (pSl 1 (cSl 1 (cK .i64)) a_0)), (1, (pEq (.int .i64 s.1))), (5, (pEq (.int .i64 s.2)))]) (Ωσ := fun s g => []) (g := ()) h ?_
  clear h
  rintro ⟨v2, v3⟩ g4 t h
  replace h : m_laws_heldInt64SS_B1 a_0 v2 v3 = some t := h
  unfold m_laws_heldInt64SS_B1 at h
  refine Tr.weakO (Γ' := [(0, (pSl 1 (cSl 1 (cK .i64)) a_0)), (1, (pEq (.int .i64 v2))), (5, (pEq (.int .i64 v3)))]) (Ω' := []) rfl ⟨rfl, rfl, rfl, trivial⟩ ?_
  refine Tr.seq ?_
  refine Tr.seq ?_
  refine Tr.region ?_
  refine RegL.pure (p := (pEq (.int .i64 v3))) rfl rfl rfl (J_move rfl (Opd.tmp rfl)) ?_
  refine RegL.pure (p := (pSl 1 (cSl 1 (cK .i64)) a_0)) rfl rfl rfl (J_move rfl (Opd.tmp rfl)) ?_
  refine RegL.pure (p := (pEq (.int .i64 (a_0.length : Int)))) rfl rfl rfl (J_len rfl Try.underlying22 (Opd.tmp rfl) rfl) ?_
  refine RegL.pure (p := (pEq (.bool (decide (v3 < (a_0.length : Int)))))) rfl rfl rfl (J_bin rfl (Opd.tmp rfl) (Opd.tmp rfl) B_lss) ?_
  refine RegL.nil ?_
  refine Ct.then_tr ?_
  refine Tr.weak (Γ' := [(0, (pSl 1 (cSl 1 (cK .i64)) a_0)), (1, (pEq (.int .i64 v2))), (5, (pEq (.int .i64 v3))), (9, (pEq (.bool (decide (v3 < (a_0.length : Int))))))]) ⟨rfl, rfl, rfl, rfl, trivial⟩ ?_
  refine Tr.cond (Opd.tmp rfl) (fun hc => ?_) (fun hc => ?_)
  · replace h := bif_t hc h
    refine Tr.skip ?_
    refine Ct.then_tr ?_
    refine Tr.weak (Γ' := [(0, (pSl 1 (cSl 1 (cK .i64)) a_0)), (1, (pEq (.int .i64 v2))), (5, (pEq (.int .i64 v3)))]) ⟨rfl, rfl, rfl, trivial⟩ ?_
    refine Tr.seq ?_
    refine Tr.block ?_
    refine Tr.seq ?_
    refine Tr.region ?_
    refine RegL.pure (p := (pSl 1 (cSl 1 (cK .i64)) a_0)) rfl rfl rfl (J_move rfl (Opd.tmp rfl)) ?_
    refine RegL.pure (p := (pEq (.int .i64 v3))) rfl rfl rfl (J_move rfl (Opd.tmp rfl)) ?_
    replace h := bind_some h; obtain ⟨x5, hx5, h⟩ := h
    refine RegL.pure (p := (pPtr ((cSl 1 (cK .i64)) x5))) rfl rfl rfl (J_idx rfl Try.underlying22 sz23 (Opd.tmp rfl) (Opd.tmp rfl) hx5) ?_
    refine RegL.pure (p := (pSl 1 (cK .i64) x5)) rfl rfl rfl (J_load rfl Try.isAgg23 (Opd.tmp rfl)) ?_
    refine RegL.pure (p := (pEq (.int .i64 v2))) rfl rfl rfl (J_move rfl (Opd.tmp rfl)) ?_
    replace h := bind_some h; obtain ⟨x6, hx6, h⟩ := h
    refine RegL.pure (p := (pEq (.int .i64 x6))) rfl rfl rfl (J_call rfl Try.call41 (c_laws_heldInt64S hx6) (Opds.cons (Opd.tmp rfl) (Opds.cons (Opd.tmp rfl) Opds.nil))) ?_
    refine RegL.pure (p := (pEq (.int .i64 x6))) rfl rfl rfl (J_assign rfl (Opd.tmp rfl)) ?_
    refine RegL.nil ?_
    refine Ct.then_tr ?_
    refine Tr.weak (Γ' := [(0, (pSl 1 (cSl 1 (cK .i64)) a_0)), (1, (pEq (.int .i64 x6))), (5, (pEq (.int .i64 v3)))]) ⟨rfl, rfl, rfl, trivial⟩ ?_
    refine Tr.seq ?_
    refine Tr.region ?_
    refine RegL.pure (p := (pEq (.int .i64 x6))) rfl rfl rfl (J_move rfl (Opd.tmp rfl)) ?_
    refine RegL.pure (p := (pEq (.bool (decide (x6 < (0 : Int)))))) rfl rfl rfl (J_bin rfl (Opd.tmp rfl) Opd.con B_lss) ?_
    refine RegL.nil ?_
    refine Ct.then_tr ?_
    refine Tr.weak (Γ' := [(0, (pSl 1 (cSl 1 (cK .i64)) a_0)), (1, (pEq (.int .i64 x6))), (5, (pEq (.int .i64 v3))), (19, (pEq (.bool (decide (x6 < (0 : Int))))))]) ⟨rfl, rfl, rfl, rfl, trivial⟩ ?_
    refine Tr.cond (Opd.tmp rfl) (fun hc => ?_) (fun hc => ?_)
    · replace h := bif_t hc h
      refine Tr.seq ?_
      refine Tr.region ?_
      refine RegL.pure (p := (pEq (.int .i64 (-1 : Int)))) rfl rfl rfl (J_assign rfl Opd.con) ?_
      refine RegL.nil ?_
      refine Ct.then_tr ?_
      refine Tr.weak (Γ' := [(4, (pEq (.int .i64 (-1 : Int))))]) ⟨rfl, trivial⟩ ?_
      refine Tr.ret ?_
      refine Ct.blk_ret ?_
      refine Ct.then_ret ?_
      replace h := map_some h; obtain ⟨r1, h, rfl⟩ := h
      refine Ct.out_ret fun e => ?_
      subst e
      refine Ct.blk_ret ?_
      refine Ct.then_ret ?_
      replace h := Option.some.inj h; subst h
      exact Ct.retH1 (Ωx := []) () rfl (RvOk.tmp rfl) rfl
    · replace h := bif_f hc h
      refine Tr.skip ?_
      refine Ct.blk_normal ?_
      refine Ct.then_tr ?_
      refine Tr.weak (Γ' := [(0, (pSl 1 (cSl 1 (cK .i64)) a_0)), (1, (pEq (.int .i64 x6))), (5, (pEq (.int .i64 v3)))]) ⟨rfl, rfl, rfl, trivial⟩ ?_
      refine Tr.region ?_
      refine RegL.pure (p := (pEq (.int .i64 v3))) rfl rfl rfl (J_move rfl (Opd.tmp rfl)) ?_
      refine RegL.pure (p := (pEq (.int .i64 (w64 (v3 + (1 : Int)))))) rfl rfl rfl (J_bin rfl (Opd.tmp rfl) Opd.con B_add) ?_
      refine RegL.pure (p := (pEq (.int .i64 (w64 (v3 + (1 : Int)))))) rfl rfl rfl (J_assign rfl (Opd.tmp rfl)) ?_
      refine RegL.nil ?_
      replace h := Option.some.inj h; subst h
      exact Ct.again () rfl ⟨rfl, rfl, rfl, trivial⟩
  · replace h := bif_f hc h
    refine Tr.exit ?_
    refine Ct.then_exit ?_
    replace h := map_some h; obtain ⟨r1, h, rfl⟩ := h
    refine Ct.out_exit fun e => ?_
    subst e
    refine Ct.blk_exit ?_
    refine Ct.then_tr ?_
    refine Tr.weak (Γ' := [(1, (pEq (.int .i64 v2)))]) ⟨rfl, trivial⟩ ?_
    refine Tr.seq ?_
    refine Tr.region ?_
    refine RegL.pure (p := (pEq (.int .i64 v2))) rfl rfl rfl (J_move rfl (Opd.tmp rfl)) ?_
    refine RegL.pure (p := (pEq (.int .i64 v2))) rfl rfl rfl (J_assign rfl (Opd.tmp rfl)) ?_
    refine RegL.nil ?_
    refine Ct.then_tr ?_
    refine Tr.weak (Γ' := [(4, (pEq (.int .i64 v2)))]) ⟨rfl, trivial⟩ ?_
    refine Tr.ret ?_
    replace h := Option.some.inj h; subst h
    exact Ct.retH1 (Ωx := []) () rfl (RvOk.tmp rfl) rfl

theorem c_laws_FnExactNeedMatrix {a_0 : (List (List Int))} {a_1 : Int} {a_2 : (List Int)} {r : Bool} (h : m_laws_FnExactNeedMatrix a_0 a_1 a_2 = some r) : CallJ Try.prog 3 [(pSl 1 (cSl 1 (cK .i64)) a_0), (pEq (.int .i64 a_1)), (pSl 1 (cK .i64) a_2)] (pEq (.bool r)) := by
  unfold m_laws_FnExactNeedMatrix at h
  refine CallJ.enterH Try.func3 rfl Try.ntmps3 rfl fun W I0 H => ?_
  refine Tr.weak (Γ' := [(0, (pSl 1 (cSl 1 (cK .i64)) a_0)), (1, (pEq (.int .i64 a_1))), (2, (pSl 1 (cK .i64) a_2))]) ⟨rfl, rfl, rfl, trivial⟩ ?_
  refine Tr.seq ?_
  refine Tr.region ?_
  refine RegL.pure (p := (pEq (.bool false))) rfl rfl rfl (J_assign rfl Opd.con) ?_
  refine RegL.nil ?_
  refine Ct.then_tr ?_
  refine Tr.weak (Γ' := [(0, (pSl 1 (cSl 1 (cK .i64)) a_0)), (1, (pEq (.int .i64 a_1))), (2, (pSl 1 (cK .i64) a_2))]) ⟨rfl, rfl, rfl, trivial⟩ ?_
  refine Tr.seq ?_
  refine Tr.seq ?_
  refine Tr.region ?_
  refine RegL.pure (p := (pSl 1 (cK .i64) a_2)) rfl rfl rfl (J_move rfl (Opd.tmp rfl)) ?_
  refine RegL.pure (p := (pEq (.int .i64 (a_2.length : Int)))) rfl rfl rfl (J_len rfl Try.underlying23 (Opd.tmp rfl) rfl) ?_
  refine RegL.pure (p := (pEq (.bool (decide ((1048576 : Int) < (a_2.length : Int)))))) rfl rfl rfl (J_bin rfl (Opd.tmp rfl) Opd.con B_gtr) ?_
  refine RegL.nil ?_
  refine Ct.then_tr ?_
  refine Tr.weak (Γ' := [(0, (pSl 1 (cSl 1 (cK .i64)) a_0)), (1, (pEq (.int .i64 a_1))), (2, (pSl 1 (cK .i64) a_2)), (21, (pEq (.bool (decide ((1048576 : Int) < (a_2.length : Int))))))]) ⟨rfl, rfl, rfl, rfl, trivial⟩ ?_
  refine Tr.cond (Opd.tmp rfl) (fun hc => ?_) (fun hc => ?_)
  · replace h := bif_t hc h
    refine Tr.seq ?_
    refine Tr.region ?_
    refine RegL.pure (p := (pEq (.bool true))) rfl rfl rfl (J_assign rfl Opd.con) ?_
    refine RegL.nil ?_
    refine Ct.then_tr ?_
    refine Tr.weak (Γ' := [(6, (pEq (.bool true)))]) ⟨rfl, trivial⟩ ?_
    refine Tr.ret ?_
    refine Ct.then_ret ?_
    replace h := Option.some.inj h; subst h
    exact Ct.retH1 (Ωx := []) () rfl (RvOk.tmp rfl) rfl
  · replace h := bif_f hc h
    refine Tr.skip ?_
    refine Ct.then_tr ?_
    refine Tr.weak (Γ' := [(0, (pSl 1 (cSl 1 (cK .i64)) a_0)), (1, (pEq (.int .i64 a_1))), (2, (pSl 1 (cK .i64) a_2))]) ⟨rfl, rfl, rfl, trivial⟩ ?_
    refine Tr.seq ?_
    refine Tr.region ?_
    refine RegL.pure (p := (pEq (.int .i64 (1048576 : Int)))) rfl rfl rfl (J_assign rfl Opd.con) ?_
    refine RegL.nil ?_
    refine Ct.then_tr ?_
    refine Tr.weak (Γ' := [(0, (pSl 1 (cSl 1 (cK .i64)) a_0)), (1, (pEq (.int .i64 a_1))), (2, (pSl 1 (cK .i64) a_2)), (7, (pEq (.int .i64 (1048576 : Int))))]) ⟨rfl, rfl, rfl, rfl, trivial⟩ ?_
    refine Tr.seq ?_
    refine Tr.region ?_
    refine RegL.pure (p := (pSl 1 (cSl 1 (cK .i64)) a_0)) rfl rfl rfl (J_move rfl (Opd.tmp rfl)) ?_
    refine RegL.pure (p := (pEq (.int .i64 (1048576 : Int)))) rfl rfl rfl (J_move rfl (Opd.tmp rfl)) ?_
    replace h := bind_some h; obtain ⟨x1, hx1, h⟩ := h
    refine RegL.pure (p := (pEq (.int .i64 x1))) rfl rfl rfl (J_call rfl Try.call7 (c_laws_szInt64SS hx1) (Opds.cons (Opd.tmp rfl) (Opds.cons (Opd.tmp rfl) Opds.nil))) ?_
    refine RegL.pure (p := (pEq (.int .i64 x1))) rfl rfl rfl (J_assign rfl (Opd.tmp rfl)) ?_
    refine RegL.nil ?_
    refine Ct.then_tr ?_
    refine Tr.weak (Γ' := [(0, (pSl 1 (cSl 1 (cK .i64)) a_0)), (1, (pEq (.int .i64 a_1))), (2, (pSl 1 (cK .i64) a_2)), (7, (pEq (.int .i64 x1)))]) ⟨rfl, rfl, rfl, rfl, trivial⟩ ?_
    refine Tr.seq ?_
    refine Tr.seq ?_
    refine Tr.region ?_
    refine RegL.pure (p := (pEq (.int .i64 x1))) rfl rfl rfl (J_move rfl (Opd.tmp rfl)) ?_
    refine RegL.pure (p := (pEq (.bool (decide (x1 < (0 : Int)))))) rfl rfl rfl (J_bin rfl (Opd.tmp rfl) Opd.con B_lss) ?_
    refine RegL.nil ?_
    refine Ct.then_tr ?_
    refine Tr.weak (Γ' := [(0, (pSl 1 (cSl 1 (cK .i64)) a_0)), (1, (pEq (.int .i64 a_1))), (2, (pSl 1 (cK .i64) a_2)), (26, (pEq (.bool (decide (x1 < (0 : Int))))))]) ⟨rfl, rfl, rfl, rfl, trivial⟩ ?_
    refine Tr.cond (Opd.tmp rfl) (fun hc => ?_) (fun hc => ?_)
    · replace h := bif_t hc h
      refine Tr.seq ?_
      refine Tr.region ?_
      refine RegL.pure (p := (pEq (.bool true))) rfl rfl rfl (J_assign rfl Opd.con) ?_
      refine RegL.nil ?_
      refine Ct.then_tr ?_
      refine Tr.weak (Γ' := [(6, (pEq (.bool true)))]) ⟨rfl, trivial⟩ ?_
      refine Tr.ret ?_
      refine Ct.then_ret ?_
      replace h := Option.some.inj h; subst h
      exact Ct.retH1 (Ωx := []) () rfl (RvOk.tmp rfl) rfl
    · replace h := bif_f hc h
      refine Tr.skip ?_
      refine Ct.then_tr ?_
      refine Tr.weak (Γ' := [(0, (pSl 1 (cSl 1 (cK .i64)) a_0)), (1, (pEq (.int .i64 a_1))), (2, (pSl 1 (cK .i64) a_2))]) ⟨rfl, rfl, rfl, trivial⟩ ?_
      refine Tr.seq ?_
      refine Tr.region ?_
      refine RegL.pure (p := (pSl 1 (cSl 1 (cK .i64)) a_0)) rfl rfl rfl (J_move rfl (Opd.tmp rfl)) ?_
      replace h := bind_some h; obtain ⟨x2, hx2, h⟩ := h
      refine RegL.pure (p := (pSl 1 (cSl 1 (cK .i64)) x2)) rfl rfl rfl (J_call rfl Try.call9 (c_laws_toInt64SS hx2) (Opds.cons (Opd.tmp rfl) Opds.nil)) ?_
      refine RegL.pure (p := (pEq (.int .i64 a_1))) rfl rfl rfl (J_move rfl (Opd.tmp rfl)) ?_
      refine RegL.pure (p := (pSl 1 (cK .i64) a_2)) rfl rfl rfl (J_move rfl (Opd.tmp rfl)) ?_
      replace h := bind_some h; obtain ⟨x3, hx3, h⟩ := h
      refine RegL.pure (p := (pSl 1 (cK .i64) x3)) rfl rfl rfl (J_call rfl Try.call10 (c_laws_toInt64S hx3) (Opds.cons (Opd.tmp rfl) Opds.nil)) ?_
      replace h := bind_some h; obtain ⟨x4, hx4, h⟩ := h
      refine RegL.pure (p := (pTup [(pSl 1 (cSl 1 (cK .i64)) x4.1), (pEq (.int .i64 x4.2))])) rfl rfl rfl (J_call rfl Try.call8 (c_spec_NeedMatrix hx4) (Opds.cons (Opd.tmp rfl) (Opds.cons (Opd.tmp rfl) (Opds.cons (Opd.tmp rfl) Opds.nil)))) ?_
      refine RegL.pure (p := (pTup [(pSl 1 (cSl 1 (cK .i64)) x4.1), (pEq (.int .i64 x4.2))])) rfl rfl rfl (J_move rfl (Opd.tmp rfl)) ?_
      refine RegL.pure (p := (pSl 1 (cSl 1 (cK .i64)) x4.1)) rfl rfl rfl (J_extract rfl (Opd.tmp rfl) rfl) ?_
      refine RegL.pure (p := (pEq (.int .i64 x4.2))) rfl rfl rfl (J_extract rfl (Opd.tmp rfl) rfl) ?_
      refine RegL.pure (p := (pSl 1 (cSl 1 (cK .i64)) x4.1)) rfl rfl rfl (J_assign rfl (Opd.tmp rfl)) ?_
      refine RegL.pure (p := (pEq (.int .i64 x4.2))) rfl rfl rfl (J_assign rfl (Opd.tmp rfl)) ?_
      refine RegL.nil ?_
      refine Ct.then_tr ?_
      refine Tr.weak (Γ' := [(0, (pSl 1 (cSl 1 (cK .i64)) a_0)), (1, (pEq (.int .i64 a_1))), (2, (pSl 1 (cK .i64) a_2)), (8, (pSl 1 (cSl 1 (cK .i64)) x4.1)), (9, (pEq (.int .i64 x4.2)))]) ⟨rfl, rfl, rfl, rfl, rfl, trivial⟩ ?_
      refine Tr.seq ?_
      refine Tr.region ?_
      refine RegL.pure (p := (pSl 1 (cSl 1 (cK .i64)) a_0)) rfl rfl rfl (J_move rfl (Opd.tmp rfl)) ?_
      replace h := bind_some h; obtain ⟨x5, hx5, h⟩ := h
      refine RegL.step (γ := (G3 × List G3)) (p := fun g => (pEq (.slice g.1.1 g.1.2.1 g.1.2.2))) (Ω' := fun g => [oSS 23 2 1 (cK .i64) g.1.1 g.1.2.1 g.1.2.2 g.2 x5]) rfl rfl rfl (M_callH (Ωi := []) rfl Try.call9 (o_laws_toInt64SS hx5) (Opds.cons (Opd.tmp rfl) Opds.nil)) fun g6 => ?_
      refine RegL.pure (p := (pEq (.slice g6.1.1 g6.1.2.1 g6.1.2.2))) rfl rfl rfl (J_assign rfl (Opd.tmp rfl)) ?_
      refine RegL.nil ?_
      refine Ct.then_tr ?_
      refine Tr.weak (Γ' := [(0, (pSl 1 (cSl 1 (cK .i64)) a_0)), (1, (pEq (.int .i64 a_1))), (2, (pSl 1 (cK .i64) a_2)), (8, (pSl 1 (cSl 1 (cK .i64)) x4.1)), (9, (pEq (.int .i64 x4.2))), (10, (pEq (.slice g6.1.1 g6.1.2.1 g6.1.2.2)))]) ⟨rfl, rfl, rfl, rfl, rfl, rfl, trivial⟩ ?_
      refine Tr.seq ?_
      refine Tr.region ?_
      refine RegL.pure (p := (pSl 1 (cK .i64) a_2)) rfl rfl rfl (J_move rfl (Opd.tmp rfl)) ?_
      replace h := bind_some h; obtain ⟨x8, hx8, h⟩ := h
      refine RegL.step (γ := G3) (p := fun g => (pEq (.slice g.1 g.2.1 g.2.2))) (Ω' := fun g => [oSl 2 1 (cK .i64) g.1 g.2.1 g.2.2 x8, oSS 23 2 1 (cK .i64) g6.1.1 g6.1.2.1 g6.1.2.2 g6.2 x5]) rfl rfl rfl (M_callH (Ωi := []) rfl Try.call10 (o_laws_toInt64S hx8) (Opds.cons (Opd.tmp rfl) Opds.nil)) fun g9 => ?_
      refine RegL.pure (p := (pEq (.slice g9.1 g9.2.1 g9.2.2))) rfl rfl rfl (J_assign rfl (Opd.tmp rfl)) ?_
      refine RegL.nil ?_
      refine Ct.then_tr ?_
      refine Tr.weak (Γ' := [(0, (pSl 1 (cSl 1 (cK .i64)) a_0)), (1, (pEq (.int .i64 a_1))), (2, (pSl 1 (cK .i64) a_2)), (8, (pSl 1 (cSl 1 (cK .i64)) x4.1)), (9, (pEq (.int .i64 x4.2))), (10, (pEq (.slice g6.1.1 g6.1.2.1 g6.1.2.2))), (11, (pEq (.slice g9.1 g9.2.1 g9.2.2)))]) ⟨rfl, rfl, rfl, rfl, rfl, rfl, rfl, trivial⟩ ?_
      refine Tr.seq ?_
      refine Tr.region ?_
      refine RegL.pure (p := (pEq (.slice g6.1.1 g6.1.2.1 g6.1.2.2))) rfl rfl rfl (J_move rfl (Opd.tmp rfl)) ?_
      refine RegL.pure (p := (pEq (.int .i64 a_1))) rfl rfl rfl (J_move rfl (Opd.tmp rfl)) ?_
      refine RegL.pure (p := (pEq (.slice g9.1 g9.2.1 g9.2.2))) rfl rfl rfl (J_move rfl (Opd.tmp rfl)) ?_
      replace h := bind_some h; obtain ⟨x11, hx11, h⟩ := h
      refine RegL.step (γ := (G3 × List G3)) (p := fun g => (pTup [(pEq (.slice g.1.1 g.1.2.1 g.1.2.2)), (pEq (.int .i64 x11.2))])) (Ω' := fun g => [oSS 23 2 1 (cK .i64) g.1.1 g.1.2.1 g.1.2.2 g.2 x11.1, oSl 2 1 (cK .i64) g9.1 g9.2.1 g9.2.2 x8, oSS 23 2 1 (cK .i64) g6.1.1 g6.1.2.1 g6.1.2.2 g6.2 x5]) rfl rfl rfl (M_callHB (Ωi := []) rfl Try.call11 (o_impl_NeedMatrix hx11) (OpdsA.cons (OpdA.conv rfl (Conv.nest 1 (fun _ => rfl) rfl)) (OpdsA.cons (OpdA.of (Opd.tmp rfl)) (OpdsA.cons (OpdA.conv rfl (Conv.row 0 (fun _ => rfl) rfl)) OpdsA.nil))) (fun _ => (FreeP.tup ⟨FreeP.eq, ⟨FreeP.eq, trivial⟩⟩)) (fun _ => ⟨(FreeO.nest (fun _ => ⟨FreeP.eq, trivial⟩)), trivial⟩)) fun g12 => ?_
      refine RegL.pure (p := (pTup [(pEq (.slice g12.1.1 g12.1.2.1 g12.1.2.2)), (pEq (.int .i64 x11.2))])) rfl rfl rfl (J_move rfl (Opd.tmp rfl)) ?_
      refine RegL.pure (p := (pEq (.slice g12.1.1 g12.1.2.1 g12.1.2.2))) rfl rfl rfl (J_extract rfl (Opd.tmp rfl) rfl) ?_
      refine RegL.pure (p := (pEq (.int .i64 x11.2))) rfl rfl rfl (J_extract rfl (Opd.tmp rfl) rfl) ?_
      refine RegL.pure (p := (pEq (.slice g12.1.1 g12.1.2.1 g12.1.2.2))) rfl rfl rfl (J_assign rfl (Opd.tmp rfl)) ?_
      refine RegL.pure (p := (pEq (.int .i64 x11.2))) rfl rfl rfl (J_assign rfl (Opd.tmp rfl)) ?_
      refine RegL.nil ?_
      refine Ct.then_tr ?_
      refine Tr.weak (Γ' := [(0, (pSl 1 (cSl 1 (cK .i64)) a_0)), (1, (pEq (.int .i64 a_1))), (2, (pSl 1 (cK .i64) a_2)), (8, (pSl 1 (cSl 1 (cK .i64)) x4.1)), (9, (pEq (.int .i64 x4.2))), (10, (pEq (.slice g6.1.1 g6.1.2.1 g6.1.2.2))), (11, (pEq (.slice g9.1 g9.2.1 g9.2.2))), (12, (pEq (.slice g12.1.1 g12.1.2.1 g12.1.2.2))), (13, (pEq (.int .i64 x11.2)))]) ⟨rfl, rfl, rfl, rfl, rfl, rfl, rfl, rfl, rfl, trivial⟩ ?_
      refine Tr.seq ?_
      refine Tr.seq ?_
      replace h := bind_some h; obtain ⟨x14, hx14, h⟩ := h
      refine Tr.cut (γ := Unit) (Γm := fun g => [(0, (pSl 1 (cSl 1 (cK .i64)) a_0)), (1, (pEq (.int .i64 a_1))), (2, (pSl 1 (cK .i64) a_2)), (8, (pSl 1 (cSl 1 (cK .i64)) x4.1)), (9, (pEq (.int .i64 x4.2))), (10, (pEq (.slice g6.1.1 g6.1.2.1 g6.1.2.2))), (11, (pEq (.slice g9.1 g9.2.1 g9.2.2))), (12, (pEq (.slice g12.1.1 g12.1.2.1 g12.1.2.2))), (13, (pEq (.int .i64 x11.2))), (55, (pEq (.bool x14)))]) (Ωm := fun g => [oSS 23 2 1 (cK .i64) g12.1.1 g12.1.2.1 g12.1.2.2 g12.2 x11.1, oSl 2 1 (cK .i64) g9.1 g9.2.1 g9.2.2 x8, oSS 23 2 1 (cK .i64) g6.1.1 g6.1.2.1 g6.1.2.2 g6.2 x5]) ?_ (fun g17 => ?_)
      · clear h
        have h := hx14
        clear hx14
        refine Tr.region ?_
        refine RegL.pure (p := (pEq (.slice g12.1.1 g12.1.2.1 g12.1.2.2))) rfl rfl rfl (J_move rfl (Opd.tmp rfl)) ?_
        refine RegL.pure (p := (pSl 1 (cSl 1 (cK .i64)) x4.1)) rfl rfl rfl (J_move rfl (Opd.tmp rfl)) ?_
        replace h := bind_some h; obtain ⟨x15, hx15, h⟩ := h
        refine RegL.pureW (p := (pEq (.bool x15))) rfl rfl rfl (W_call rfl Try.call12 (c_laws_eqInt64SS hx15) (OpdsA.cons (OpdA.conv rfl (Conv.nest 0 (fun _ => rfl) rfl)) (OpdsA.cons (OpdA.of (Opd.tmp rfl)) OpdsA.nil)) FreeP.eq) ?_
        refine RegL.pure (p := (pEq (.bool (!x15)))) rfl rfl rfl (J_not rfl (Opd.tmp rfl)) ?_
        refine RegL.pure (p := (pEq (.bool (!x15)))) rfl rfl rfl (J_move rfl (Opd.tmp rfl)) ?_
        rcases Bool.eq_false_or_eq_true (!x15) with hc16 | hc16
        · replace h := bif_t hc16 h
          refine RegL.skipG rfl rfl rfl hc16 rfl rfl ?_
          refine RegL.skipG rfl rfl rfl hc16 rfl rfl ?_
          refine RegL.skipG rfl rfl rfl hc16 rfl rfl ?_
          refine RegL.pure (p := (pEq (.bool true))) rfl rfl rfl (J_pick rfl (Opd.tmp rfl) (fun _ => Opd.con) (fun hf => absurd (hc16.symm.trans hf) (by decide))) ?_
          refine RegL.nil ?_
          replace h := Option.some.inj h; subst h
          exact Ct.mid () rfl ⟨rfl, rfl, rfl, rfl, rfl, rfl, rfl, rfl, rfl, rfl, trivial⟩
        · replace h := bif_f hc16 h
          refine RegL.pureG (p := (pEq (.int .i64 x11.2))) rfl rfl rfl hc16 rfl rfl (J_move rfl (Opd.tmp rfl)) ?_
          refine RegL.pureG (p := (pEq (.int .i64 x4.2))) rfl rfl rfl hc16 rfl rfl (J_move rfl (Opd.tmp rfl)) ?_
          refine RegL.pureG (p := (pEq (.bool (x11.2 != x4.2)))) rfl rfl rfl hc16 rfl rfl (J_bin rfl (Opd.tmp rfl) (Opd.tmp rfl) B_neq) ?_
          refine RegL.pure (p := (pEq (.bool (x11.2 != x4.2)))) rfl rfl rfl (J_pick rfl (Opd.tmp rfl) (fun hf => absurd (hc16.symm.trans hf) (by decide)) (fun _ => (Opd.tmp rfl))) ?_
          refine RegL.nil ?_
          replace h := Option.some.inj h; subst h
          exact Ct.mid () rfl ⟨rfl, rfl, rfl, rfl, rfl, rfl, rfl, rfl, rfl, rfl, trivial⟩
      · clear hx14
        refine Ct.then_tr ?_
        refine Tr.weak (Γ' := [(0, (pSl 1 (cSl 1 (cK .i64)) a_0)), (1, (pEq (.int .i64 a_1))), (2, (pSl 1 (cK .i64) a_2)), (8, (pSl 1 (cSl 1 (cK .i64)) x4.1)), (9, (pEq (.int .i64 x4.2))), (10, (pEq (.slice g6.1.1 g6.1.2.1 g6.1.2.2))), (11, (pEq (.slice g9.1 g9.2.1 g9.2.2))), (12, (pEq (.slice g12.1.1 g12.1.2.1 g12.1.2.2))), (13, (pEq (.int .i64 x11.2))), (55, (pEq (.bool x14)))]) ⟨rfl, rfl, rfl, rfl, rfl, rfl, rfl, rfl, rfl, rfl, trivial⟩ ?_
        refine Tr.cond (Opd.tmp rfl) (fun hc => ?_) (fun hc => ?_)
        · replace h := bif_t hc h
          refine Tr.seq ?_
          refine Tr.region ?_
          refine RegL.pure (p := (pEq (.bool false))) rfl rfl rfl (J_assign rfl Opd.con) ?_
          refine RegL.nil ?_
          refine Ct.then_tr ?_
          refine Tr.weak (Γ' := [(6, (pEq (.bool false)))]) ⟨rfl, trivial⟩ ?_
          refine Tr.ret ?_
          refine Ct.then_ret ?_
          replace h := Option.some.inj h; subst h
          exact Ct.retH1 (Ωx := [oSS 23 2 1 (cK .i64) g12.1.1 g12.1.2.1 g12.1.2.2 g12.2 x11.1, oSl 2 1 (cK .i64) g9.1 g9.2.1 g9.2.2 x8, oSS 23 2 1 (cK .i64) g6.1.1 g6.1.2.1 g6.1.2.2 g6.2 x5]) () rfl (RvOk.tmp rfl) rfl
        · replace h := bif_f hc h
          refine Tr.skip ?_
          refine Ct.then_tr ?_
          refine Tr.weak (Γ' := [(0, (pSl 1 (cSl 1 (cK .i64)) a_0)), (1, (pEq (.int .i64 a_1))), (2, (pSl 1 (cK .i64) a_2)), (8, (pSl 1 (cSl 1 (cK .i64)) x4.1)), (9, (pEq (.int .i64 x4.2))), (10, (pEq (.slice g6.1.1 g6.1.2.1 g6.1.2.2))), (11, (pEq (.slice g9.1 g9.2.1 g9.2.2))), (12, (pEq (.slice g12.1.1 g12.1.2.1 g12.1.2.2))), (13, (pEq (.int .i64 x11.2)))]) ⟨rfl, rfl, rfl, rfl, rfl, rfl, rfl, rfl, rfl, trivial⟩ ?_
          refine Tr.seq ?_
          refine Tr.seq ?_
          refine Tr.region ?_
          refine RegL.pure (p := (pEq (.slice g6.1.1 g6.1.2.1 g6.1.2.2))) rfl rfl rfl (J_move rfl (Opd.tmp rfl)) ?_
          refine RegL.pure (p := (pSl 1 (cSl 1 (cK .i64)) a_0)) rfl rfl rfl (J_move rfl (Opd.tmp rfl)) ?_
          replace h := bind_some h; obtain ⟨x18, hx18, h⟩ := h
          refine RegL.pure (p := (pSl 1 (cSl 1 (cK .i64)) x18)) rfl rfl rfl (J_call rfl Try.call9 (c_laws_toInt64SS hx18) (Opds.cons (Opd.tmp rfl) Opds.nil)) ?_
          replace h := bind_some h; obtain ⟨x19, hx19, h⟩ := h
          refine RegL.pureW (p := (pEq (.bool x19))) rfl rfl rfl (W_call rfl Try.call12 (c_laws_eqInt64SS hx19) (OpdsA.cons (OpdA.conv rfl (Conv.nest 2 (fun _ => rfl) rfl)) (OpdsA.cons (OpdA.of (Opd.tmp rfl)) OpdsA.nil)) FreeP.eq) ?_
          refine RegL.pure (p := (pEq (.bool (!x19)))) rfl rfl rfl (J_not rfl (Opd.tmp rfl)) ?_
          refine RegL.nil ?_
          refine Ct.then_tr ?_
          refine Tr.weak (Γ' := [(0, (pSl 1 (cSl 1 (cK .i64)) a_0)), (1, (pEq (.int .i64 a_1))), (2, (pSl 1 (cK .i64) a_2)), (8, (pSl 1 (cSl 1 (cK .i64)) x4.1)), (9, (pEq (.int .i64 x4.2))), (10, (pEq (.slice g6.1.1 g6.1.2.1 g6.1.2.2))), (11, (pEq (.slice g9.1 g9.2.1 g9.2.2))), (12, (pEq (.slice g12.1.1 g12.1.2.1 g12.1.2.2))), (13, (pEq (.int .i64 x11.2))), (60, (pEq (.bool (!x19))))]) ⟨rfl, rfl, rfl, rfl, rfl, rfl, rfl, rfl, rfl, rfl, trivial⟩ ?_
          refine Tr.cond (Opd.tmp rfl) (fun hc => ?_) (fun hc => ?_)
          · replace h := bif_t hc h
            refine Tr.seq ?_
            refine Tr.region ?_
            refine RegL.pure (p := (pEq (.bool false))) rfl rfl rfl (J_assign rfl Opd.con) ?_
            refine RegL.nil ?_
            refine Ct.then_tr ?_
            refine Tr.weak (Γ' := [(6, (pEq (.bool false)))]) ⟨rfl, trivial⟩ ?_
            refine Tr.ret ?_
            refine Ct.then_ret ?_
            replace h := Option.some.inj h; subst h
            exact Ct.retH1 (Ωx := [oSS 23 2 1 (cK .i64) g12.1.1 g12.1.2.1 g12.1.2.2 g12.2 x11.1, oSl 2 1 (cK .i64) g9.1 g9.2.1 g9.2.2 x8, oSS 23 2 1 (cK .i64) g6.1.1 g6.1.2.1 g6.1.2.2 g6.2 x5]) () rfl (RvOk.tmp rfl) rfl
          · replace h := bif_f hc h
            refine Tr.skip ?_
            refine Ct.then_tr ?_
            refine Tr.weak (Γ' := [(0, (pSl 1 (cSl 1 (cK .i64)) a_0)), (1, (pEq (.int .i64 a_1))), (2, (pSl 1 (cK .i64) a_2)), (8, (pSl 1 (cSl 1 (cK .i64)) x4.1)), (9, (pEq (.int .i64 x4.2))), (10, (pEq (.slice g6.1.1 g6.1.2.1 g6.1.2.2))), (11, (pEq (.slice g9.1 g9.2.1 g9.2.2))), (12, (pEq (.slice g12.1.1 g12.1.2.1 g12.1.2.2))), (13, (pEq (.int .i64 x11.2)))]) ⟨rfl, rfl, rfl, rfl, rfl, rfl, rfl, rfl, rfl, trivial⟩ ?_
            refine Tr.seq ?_
            refine Tr.seq ?_
            refine Tr.region ?_
            refine RegL.pure (p := (pEq (.slice g9.1 g9.2.1 g9.2.2))) rfl rfl rfl (J_move rfl (Opd.tmp rfl)) ?_
            refine RegL.pure (p := (pSl 1 (cK .i64) a_2)) rfl rfl rfl (J_move rfl (Opd.tmp rfl)) ?_
            replace h := bind_some h; obtain ⟨x20, hx20, h⟩ := h
            refine RegL.pure (p := (pSl 1 (cK .i64) x20)) rfl rfl rfl (J_call rfl Try.call10 (c_laws_toInt64S hx20) (Opds.cons (Opd.tmp rfl) Opds.nil)) ?_
            replace h := bind_some h; obtain ⟨x21, hx21, h⟩ := h
            refine RegL.pureW (p := (pEq (.bool x21))) rfl rfl rfl (W_call rfl Try.call13 (c_laws_eqInt64S hx21) (OpdsA.cons (OpdA.conv rfl (Conv.row 1 (fun _ => rfl) rfl)) (OpdsA.cons (OpdA.of (Opd.tmp rfl)) OpdsA.nil)) FreeP.eq) ?_
            refine RegL.pure (p := (pEq (.bool (!x21)))) rfl rfl rfl (J_not rfl (Opd.tmp rfl)) ?_
            refine RegL.nil ?_
            refine Ct.then_tr ?_
            refine Tr.weak (Γ' := [(0, (pSl 1 (cSl 1 (cK .i64)) a_0)), (1, (pEq (.int .i64 a_1))), (2, (pSl 1 (cK .i64) a_2)), (8, (pSl 1 (cSl 1 (cK .i64)) x4.1)), (9, (pEq (.int .i64 x4.2))), (10, (pEq (.slice g6.1.1 g6.1.2.1 g6.1.2.2))), (11, (pEq (.slice g9.1 g9.2.1 g9.2.2))), (12, (pEq (.slice g12.1.1 g12.1.2.1 g12.1.2.2))), (13, (pEq (.int .i64 x11.2))), (65, (pEq (.bool (!x21))))]) ⟨rfl, rfl, rfl, rfl, rfl, rfl, rfl, rfl, rfl, rfl, trivial⟩ ?_
            refine Tr.cond (Opd.tmp rfl) (fun hc => ?_) (fun hc => ?_)
            · replace h := bif_t hc h
              refine Tr.seq ?_
              refine Tr.region ?_
              refine RegL.pure (p := (pEq (.bool false))) rfl rfl rfl (J_assign rfl Opd.con) ?_
              refine RegL.nil ?_
              refine Ct.then_tr ?_
              refine Tr.weak (Γ' := [(6, (pEq (.bool false)))]) ⟨rfl, trivial⟩ ?_
              refine Tr.ret ?_
              refine Ct.then_ret ?_
              replace h := Option.some.inj h; subst h
              exact Ct.retH1 (Ωx := [oSS 23 2 1 (cK .i64) g12.1.1 g12.1.2.1 g12.1.2.2 g12.2 x11.1, oSl 2 1 (cK .i64) g9.1 g9.2.1 g9.2.2 x8, oSS 23 2 1 (cK .i64) g6.1.1 g6.1.2.1 g6.1.2.2 g6.2 x5]) () rfl (RvOk.tmp rfl) rfl
            · replace h := bif_f hc h
              refine Tr.skip ?_
              refine Ct.then_tr ?_
              refine Tr.weak (Γ' := [(0, (pSl 1 (cSl 1 (cK .i64)) a_0)), (1, (pEq (.int .i64 a_1))), (2, (pSl 1 (cK .i64) a_2)), (8, (pSl 1 (cSl 1 (cK .i64)) x4.1)), (9, (pEq (.int .i64 x4.2))), (10, (pEq (.slice g6.1.1 g6.1.2.1 g6.1.2.2))), (11, (pEq (.slice g9.1 g9.2.1 g9.2.2))), (12, (pEq (.slice g12.1.1 g12.1.2.1 g12.1.2.2))), (13, (pEq (.int .i64 x11.2)))]) ⟨rfl, rfl, rfl, rfl, rfl, rfl, rfl, rfl, rfl, trivial⟩ ?_
              refine Tr.seq ?_
              refine Tr.region ?_
              refine RegL.pure (p := (pEq (.int .i64 (1 : Int)))) rfl rfl rfl (J_assign rfl Opd.con) ?_
              refine RegL.nil ?_
              refine Ct.then_tr ?_
              refine Tr.weak (Γ' := [(0, (pSl 1 (cSl 1 (cK .i64)) a_0)), (1, (pEq (.int .i64 a_1))), (2, (pSl 1 (cK .i64) a_2)), (8, (pSl 1 (cSl 1 (cK .i64)) x4.1)), (9, (pEq (.int .i64 x4.2))), (10, (pEq (.slice g6.1.1 g6.1.2.1 g6.1.2.2))), (11, (pEq (.slice g9.1 g9.2.1 g9.2.2))), (12, (pEq (.slice g12.1.1 g12.1.2.1 g12.1.2.2))), (13, (pEq (.int .i64 x11.2))), (14, (pEq (.int .i64 (1 : Int))))]) ⟨rfl, rfl, rfl, rfl, rfl, rfl, rfl, rfl, rfl, rfl, trivial⟩ ?_
              refine Tr.seq ?_
              refine Tr.region ?_
              refine RegL.pure (p := (pEq (.slice g6.1.1 g6.1.2.1 g6.1.2.2))) rfl rfl rfl (J_move rfl (Opd.tmp rfl)) ?_
              refine RegL.pure (p := (pEq (.int .i64 (1 : Int)))) rfl rfl rfl (J_move rfl (Opd.tmp rfl)) ?_
              replace h := bind_some h; obtain ⟨x22, hx22, h⟩ := h
              refine RegL.re (Ω2 := [oSS 23 2 1 (cK .i64) g6.1.1 g6.1.2.1 g6.1.2.2 g6.2 x5, oSS 23 2 1 (cK .i64) g12.1.1 g12.1.2.1 g12.1.2.2 g12.2 x11.1, oSl 2 1 (cK .i64) g9.1 g9.2.1 g9.2.2 x8]) (fun h => SatO.pick 2 h) ?_
              refine RegL.step (γ := Unit) (p := fun g => (pEq (.int .i64 x22.1))) (Ω' := fun g => [oSS 23 2 1 (cK .i64) g6.1.1 g6.1.2.1 g6.1.2.2 g6.2 x22.2, oSS 23 2 1 (cK .i64) g12.1.1 g12.1.2.1 g12.1.2.2 g12.2 x11.1, oSl 2 1 (cK .i64) g9.1 g9.2.1 g9.2.2 x8]) rfl rfl rfl (M_callH (Ωi := [oSS 23 2 1 (cK .i64) g6.1.1 g6.1.2.1 g6.1.2.2 g6.2 x5]) rfl Try.call14 (o_laws_markInt64SS hx22) (Opds.cons (Opd.tmp rfl) (Opds.cons (Opd.tmp rfl) Opds.nil))) fun g23 => ?_
              refine RegL.pure (p := (pEq (.int .i64 x22.1))) rfl rfl rfl (J_assign rfl (Opd.tmp rfl)) ?_
              refine RegL.nil ?_
              refine Ct.then_tr ?_
              refine Tr.weak (Γ' := [(0, (pSl 1 (cSl 1 (cK .i64)) a_0)), (1, (pEq (.int .i64 a_1))), (2, (pSl 1 (cK .i64) a_2)), (8, (pSl 1 (cSl 1 (cK .i64)) x4.1)), (9, (pEq (.int .i64 x4.2))), (11, (pEq (.slice g9.1 g9.2.1 g9.2.2))), (12, (pEq (.slice g12.1.1 g12.1.2.1 g12.1.2.2))), (13, (pEq (.int .i64 x11.2))), (14, (pEq (.int .i64 x22.1)))]) ⟨rfl, rfl, rfl, rfl, rfl, rfl, rfl, rfl, rfl, trivial⟩ ?_
              refine Tr.seq ?_
              refine Tr.region ?_
              refine RegL.pure (p := (pEq (.slice g9.1 g9.2.1 g9.2.2))) rfl rfl rfl (J_move rfl (Opd.tmp rfl)) ?_
              refine RegL.pure (p := (pEq (.int .i64 x22.1))) rfl rfl rfl (J_move rfl (Opd.tmp rfl)) ?_
              replace h := bind_some h; obtain ⟨x24, hx24, h⟩ := h
              refine RegL.re (Ω2 := [oSl 2 1 (cK .i64) g9.1 g9.2.1 g9.2.2 x8, oSS 23 2 1 (cK .i64) g6.1.1 g6.1.2.1 g6.1.2.2 g6.2 x22.2, oSS 23 2 1 (cK .i64) g12.1.1 g12.1.2.1 g12.1.2.2 g12.2 x11.1]) (fun h => SatO.pick 2 h) ?_
              refine RegL.step (γ := Unit) (p := fun g => (pEq (.int .i64 x24.1))) (Ω' := fun g => [oSl 2 1 (cK .i64) g9.1 g9.2.1 g9.2.2 x24.2, oSS 23 2 1 (cK .i64) g6.1.1 g6.1.2.1 g6.1.2.2 g6.2 x22.2, oSS 23 2 1 (cK .i64) g12.1.1 g12.1.2.1 g12.1.2.2 g12.2 x11.1]) rfl rfl rfl (M_callH (Ωi := [oSl 2 1 (cK .i64) g9.1 g9.2.1 g9.2.2 x8]) rfl Try.call15 (o_laws_markInt64S hx24) (Opds.cons (Opd.tmp rfl) (Opds.cons (Opd.tmp rfl) Opds.nil))) fun g25 => ?_
              refine RegL.pure (p := (pEq (.int .i64 x24.1))) rfl rfl rfl (J_assign rfl (Opd.tmp rfl)) ?_
              refine RegL.nil ?_
              refine Ct.then_tr ?_
              refine Tr.weak (Γ' := [(0, (pSl 1 (cSl 1 (cK .i64)) a_0)), (1, (pEq (.int .i64 a_1))), (2, (pSl 1 (cK .i64) a_2)), (8, (pSl 1 (cSl 1 (cK .i64)) x4.1)), (9, (pEq (.int .i64 x4.2))), (12, (pEq (.slice g12.1.1 g12.1.2.1 g12.1.2.2))), (13, (pEq (.int .i64 x11.2))), (14, (pEq (.int .i64 x24.1)))]) ⟨rfl, rfl, rfl, rfl, rfl, rfl, rfl, rfl, trivial⟩ ?_
              refine Tr.seq ?_
              refine Tr.seq ?_
              replace h := bind_some h; obtain ⟨x26, hx26, h⟩ := h
              refine Tr.cut (γ := Unit) (Γm := fun g => [(0, (pSl 1 (cSl 1 (cK .i64)) a_0)), (1, (pEq (.int .i64 a_1))), (2, (pSl 1 (cK .i64) a_2)), (8, (pSl 1 (cSl 1 (cK .i64)) x4.1)), (9, (pEq (.int .i64 x4.2))), (12, (pEq (.slice g12.1.1 g12.1.2.1 g12.1.2.2))), (84, (pEq (.bool x26)))]) (Ωm := fun g => [oSS 23 2 1 (cK .i64) g12.1.1 g12.1.2.1 g12.1.2.2 g12.2 x11.1]) ?_ (fun g30 => ?_)
              · clear h
                have h := hx26
                clear hx26
                refine Tr.region ?_
                refine RegL.pure (p := (pEq (.int .i64 x24.1))) rfl rfl rfl (J_move rfl (Opd.tmp rfl)) ?_
                refine RegL.pure (p := (pEq (.bool (decide (x24.1 < (0 : Int)))))) rfl rfl rfl (J_bin rfl (Opd.tmp rfl) Opd.con B_lss) ?_
                refine RegL.pure (p := (pEq (.bool (decide (x24.1 < (0 : Int)))))) rfl rfl rfl (J_move rfl (Opd.tmp rfl)) ?_
                rcases Bool.eq_false_or_eq_true (decide (x24.1 < (0 : Int))) with hc27 | hc27
                · replace h := bif_t hc27 h
                  refine RegL.skipG rfl rfl rfl hc27 rfl rfl ?_
                  refine RegL.skipG rfl rfl rfl hc27 rfl rfl ?_
                  refine RegL.skipG rfl rfl rfl hc27 rfl rfl ?_
                  refine RegL.skipG rfl rfl rfl hc27 rfl rfl ?_
                  refine RegL.pure (p := (pEq (.bool true))) rfl rfl rfl (J_pick rfl (Opd.tmp rfl) (fun _ => Opd.con) (fun hf => absurd (hc27.symm.trans hf) (by decide))) ?_
                  refine RegL.pure (p := (pEq (.bool true))) rfl rfl rfl (J_move rfl (Opd.tmp rfl)) ?_
                  refine RegL.skipG rfl rfl rfl rfl rfl rfl ?_
                  refine RegL.skipG rfl rfl rfl rfl rfl rfl ?_
                  refine RegL.skipG rfl rfl rfl rfl rfl rfl ?_
                  refine RegL.pure (p := (pEq (.bool true))) rfl rfl rfl (J_pick rfl (Opd.tmp rfl) (fun _ => Opd.con) (fun hf => absurd hf (by decide))) ?_
                  refine RegL.nil ?_
                  refine Ct.re (Ω2 := [oSS 23 2 1 (cK .i64) g6.1.1 g6.1.2.1 g6.1.2.2 g6.2 x22.2, oSS 23 2 1 (cK .i64) g12.1.1 g12.1.2.1 g12.1.2.2 g12.2 x11.1]) (fun h => SatO.rest h) ?_
                  refine Ct.re (Ω2 := [oSS 23 2 1 (cK .i64) g12.1.1 g12.1.2.1 g12.1.2.2 g12.2 x11.1]) (fun h => SatO.rest h) ?_
                  replace h := Option.some.inj h; subst h
                  exact Ct.mid () rfl ⟨rfl, rfl, rfl, rfl, rfl, rfl, rfl, trivial⟩
                · replace h := bif_f hc27 h
                  refine RegL.pureG (p := (pEq (.slice g12.1.1 g12.1.2.1 g12.1.2.2))) rfl rfl rfl hc27 rfl rfl (J_move rfl (Opd.tmp rfl)) ?_
                  refine RegL.pureG (p := (pSl 1 (cSl 1 (cK .i64)) x4.1)) rfl rfl rfl hc27 rfl rfl (J_move rfl (Opd.tmp rfl)) ?_
                  replace h := bind_some h; obtain ⟨x28, hx28, h⟩ := h
                  refine RegL.pureGW (p := (pEq (.bool x28))) rfl rfl rfl hc27 rfl rfl (W_call rfl Try.call12 (c_laws_eqInt64SS hx28) (OpdsA.cons (OpdA.conv rfl (Conv.nest 2 (fun _ => rfl) rfl)) (OpdsA.cons (OpdA.of (Opd.tmp rfl)) OpdsA.nil)) FreeP.eq) ?_
                  refine RegL.pureG (p := (pEq (.bool (!x28)))) rfl rfl rfl hc27 rfl rfl (J_not rfl (Opd.tmp rfl)) ?_
                  refine RegL.pure (p := (pEq (.bool (!x28)))) rfl rfl rfl (J_pick rfl (Opd.tmp rfl) (fun hf => absurd (hc27.symm.trans hf) (by decide)) (fun _ => (Opd.tmp rfl))) ?_
                  refine RegL.pure (p := (pEq (.bool (!x28)))) rfl rfl rfl (J_move rfl (Opd.tmp rfl)) ?_
                  rcases Bool.eq_false_or_eq_true (!x28) with hc29 | hc29
                  · replace h := bif_t hc29 h
                    refine RegL.skipG rfl rfl rfl hc29 rfl rfl ?_
                    refine RegL.skipG rfl rfl rfl hc29 rfl rfl ?_
                    refine RegL.skipG rfl rfl rfl hc29 rfl rfl ?_
                    refine RegL.pure (p := (pEq (.bool true))) rfl rfl rfl (J_pick rfl (Opd.tmp rfl) (fun _ => Opd.con) (fun hf => absurd (hc29.symm.trans hf) (by decide))) ?_
                    refine RegL.nil ?_
                    refine Ct.re (Ω2 := [oSS 23 2 1 (cK .i64) g6.1.1 g6.1.2.1 g6.1.2.2 g6.2 x22.2, oSS 23 2 1 (cK .i64) g12.1.1 g12.1.2.1 g12.1.2.2 g12.2 x11.1]) (fun h => SatO.rest h) ?_
                    refine Ct.re (Ω2 := [oSS 23 2 1 (cK .i64) g12.1.1 g12.1.2.1 g12.1.2.2 g12.2 x11.1]) (fun h => SatO.rest h) ?_
                    replace h := Option.some.inj h; subst h
                    exact Ct.mid () rfl ⟨rfl, rfl, rfl, rfl, rfl, rfl, rfl, trivial⟩
                  · replace h := bif_f hc29 h
                    refine RegL.pureG (p := (pEq (.int .i64 x11.2))) rfl rfl rfl hc29 rfl rfl (J_move rfl (Opd.tmp rfl)) ?_
                    refine RegL.pureG (p := (pEq (.int .i64 x4.2))) rfl rfl rfl hc29 rfl rfl (J_move rfl (Opd.tmp rfl)) ?_
                    refine RegL.pureG (p := (pEq (.bool (x11.2 != x4.2)))) rfl rfl rfl hc29 rfl rfl (J_bin rfl (Opd.tmp rfl) (Opd.tmp rfl) B_neq) ?_
                    refine RegL.pure (p := (pEq (.bool (x11.2 != x4.2)))) rfl rfl rfl (J_pick rfl (Opd.tmp rfl) (fun hf => absurd (hc29.symm.trans hf) (by decide)) (fun _ => (Opd.tmp rfl))) ?_
                    refine RegL.nil ?_
                    refine Ct.re (Ω2 := [oSS 23 2 1 (cK .i64) g6.1.1 g6.1.2.1 g6.1.2.2 g6.2 x22.2, oSS 23 2 1 (cK .i64) g12.1.1 g12.1.2.1 g12.1.2.2 g12.2 x11.1]) (fun h => SatO.rest h) ?_
                    refine Ct.re (Ω2 := [oSS 23 2 1 (cK .i64) g12.1.1 g12.1.2.1 g12.1.2.2 g12.2 x11.1]) (fun h => SatO.rest h) ?_
                    replace h := Option.some.inj h; subst h
                    exact Ct.mid () rfl ⟨rfl, rfl, rfl, rfl, rfl, rfl, rfl, trivial⟩
              · clear hx26
                refine Ct.then_tr ?_
                refine Tr.weak (Γ' := [(0, (pSl 1 (cSl 1 (cK .i64)) a_0)), (1, (pEq (.int .i64 a_1))), (2, (pSl 1 (cK .i64) a_2)), (8, (pSl 1 (cSl 1 (cK .i64)) x4.1)), (9, (pEq (.int .i64 x4.2))), (12, (pEq (.slice g12.1.1 g12.1.2.1 g12.1.2.2))), (84, (pEq (.bool x26)))]) ⟨rfl, rfl, rfl, rfl, rfl, rfl, rfl, trivial⟩ ?_
                refine Tr.cond (Opd.tmp rfl) (fun hc => ?_) (fun hc => ?_)
                · replace h := bif_t hc h
                  refine Tr.seq ?_
                  refine Tr.region ?_
                  refine RegL.pure (p := (pEq (.bool false))) rfl rfl rfl (J_assign rfl Opd.con) ?_
                  refine RegL.nil ?_
                  refine Ct.then_tr ?_
                  refine Tr.weak (Γ' := [(6, (pEq (.bool false)))]) ⟨rfl, trivial⟩ ?_
                  refine Tr.ret ?_
                  refine Ct.then_ret ?_
                  replace h := Option.some.inj h; subst h
                  exact Ct.retH1 (Ωx := [oSS 23 2 1 (cK .i64) g12.1.1 g12.1.2.1 g12.1.2.2 g12.2 x11.1]) () rfl (RvOk.tmp rfl) rfl
                · replace h := bif_f hc h
                  refine Tr.skip ?_
                  refine Ct.then_tr ?_
                  refine Tr.weak (Γ' := [(0, (pSl 1 (cSl 1 (cK .i64)) a_0)), (1, (pEq (.int .i64 a_1))), (2, (pSl 1 (cK .i64) a_2)), (8, (pSl 1 (cSl 1 (cK .i64)) x4.1)), (9, (pEq (.int .i64 x4.2))), (12, (pEq (.slice g12.1.1 g12.1.2.1 g12.1.2.2)))]) ⟨rfl, rfl, rfl, rfl, rfl, rfl, trivial⟩ ?_
                  refine Tr.seq ?_
                  refine Tr.region ?_
                  refine RegL.pure (p := (pEq (.int .i64 (1 : Int)))) rfl rfl rfl (J_assign rfl Opd.con) ?_
                  refine RegL.nil ?_
                  refine Ct.then_tr ?_
                  refine Tr.weak (Γ' := [(0, (pSl 1 (cSl 1 (cK .i64)) a_0)), (1, (pEq (.int .i64 a_1))), (2, (pSl 1 (cK .i64) a_2)), (8, (pSl 1 (cSl 1 (cK .i64)) x4.1)), (9, (pEq (.int .i64 x4.2))), (12, (pEq (.slice g12.1.1 g12.1.2.1 g12.1.2.2))), (15, (pEq (.int .i64 (1 : Int))))]) ⟨rfl, rfl, rfl, rfl, rfl, rfl, rfl, trivial⟩ ?_
                  refine Tr.seq ?_
                  refine Tr.region ?_
                  refine RegL.pure (p := (pEq (.slice g12.1.1 g12.1.2.1 g12.1.2.2))) rfl rfl rfl (J_move rfl (Opd.tmp rfl)) ?_
                  refine RegL.pure (p := (pEq (.int .i64 (1 : Int)))) rfl rfl rfl (J_move rfl (Opd.tmp rfl)) ?_
                  replace h := bind_some h; obtain ⟨x31, hx31, h⟩ := h
                  refine RegL.step (γ := Unit) (p := fun g => (pEq (.int .i64 x31.1))) (Ω' := fun g => [oSS 23 2 1 (cK .i64) g12.1.1 g12.1.2.1 g12.1.2.2 g12.2 x31.2]) rfl rfl rfl (M_callH (Ωi := [oSS 23 2 1 (cK .i64) g12.1.1 g12.1.2.1 g12.1.2.2 g12.2 x11.1]) rfl Try.call14 (o_laws_markInt64SS hx31) (Opds.cons (Opd.tmp rfl) (Opds.cons (Opd.tmp rfl) Opds.nil))) fun g32 => ?_
                  refine RegL.pure (p := (pEq (.int .i64 x31.1))) rfl rfl rfl (J_assign rfl (Opd.tmp rfl)) ?_
                  refine RegL.nil ?_
                  refine Ct.then_tr ?_
                  refine Tr.weak (Γ' := [(0, (pSl 1 (cSl 1 (cK .i64)) a_0)), (1, (pEq (.int .i64 a_1))), (2, (pSl 1 (cK .i64) a_2)), (8, (pSl 1 (cSl 1 (cK .i64)) x4.1)), (9, (pEq (.int .i64 x4.2))), (12, (pEq (.slice g12.1.1 g12.1.2.1 g12.1.2.2))), (15, (pEq (.int .i64 x31.1)))]) ⟨rfl, rfl, rfl, rfl, rfl, rfl, rfl, trivial⟩ ?_
                  refine Tr.seq ?_
                  refine Tr.region ?_
                  refine RegL.pure (p := (pEq (.int .i64 (1 : Int)))) rfl rfl rfl (J_assign rfl Opd.con) ?_
                  refine RegL.nil ?_
                  refine Ct.then_tr ?_
                  refine Tr.weak (Γ' := [(0, (pSl 1 (cSl 1 (cK .i64)) a_0)), (1, (pEq (.int .i64 a_1))), (2, (pSl 1 (cK .i64) a_2)), (8, (pSl 1 (cSl 1 (cK .i64)) x4.1)), (9, (pEq (.int .i64 x4.2))), (12, (pEq (.slice g12.1.1 g12.1.2.1 g12.1.2.2))), (15, (pEq (.int .i64 x31.1))), (16, (pEq (.int .i64 (1 : Int))))]) ⟨rfl, rfl, rfl, rfl, rfl, rfl, rfl, rfl, trivial⟩ ?_
                  refine Tr.seq ?_
                  refine Tr.region ?_
                  refine RegL.pure (p := (pEq (.slice g12.1.1 g12.1.2.1 g12.1.2.2))) rfl rfl rfl (J_move rfl (Opd.tmp rfl)) ?_
                  refine RegL.pure (p := (pEq (.int .i64 (1 : Int)))) rfl rfl rfl (J_move rfl (Opd.tmp rfl)) ?_
                  replace h := bind_some h; obtain ⟨x33, hx33, h⟩ := h
                  refine RegL.pureW (p := (pEq (.int .i64 x33))) rfl rfl rfl (W_call rfl Try.call16 (c_laws_heldInt64SS hx33) (OpdsA.cons (OpdA.conv rfl (Conv.nest 0 (fun _ => rfl) rfl)) (OpdsA.cons (OpdA.of (Opd.tmp rfl)) OpdsA.nil)) FreeP.eq) ?_
                  refine RegL.pure (p := (pEq (.int .i64 x33))) rfl rfl rfl (J_assign rfl (Opd.tmp rfl)) ?_
                  refine RegL.nil ?_
                  refine Ct.then_tr ?_
                  refine Tr.weak (Γ' := [(0, (pSl 1 (cSl 1 (cK .i64)) a_0)), (1, (pEq (.int .i64 a_1))), (2, (pSl 1 (cK .i64) a_2)), (8, (pSl 1 (cSl 1 (cK .i64)) x4.1)), (9, (pEq (.int .i64 x4.2))), (12, (pEq (.slice g12.1.1 g12.1.2.1 g12.1.2.2))), (15, (pEq (.int .i64 x31.1))), (16, (pEq (.int .i64 x33)))]) ⟨rfl, rfl, rfl, rfl, rfl, rfl, rfl, rfl, trivial⟩ ?_
                  refine Tr.seq ?_
                  refine Tr.seq ?_
                  refine Tr.region ?_
                  refine RegL.pure (p := (pEq (.int .i64 x33))) rfl rfl rfl (J_move rfl (Opd.tmp rfl)) ?_
                  refine RegL.pure (p := (pEq (.bool (decide (x33 < (0 : Int)))))) rfl rfl rfl (J_bin rfl (Opd.tmp rfl) Opd.con B_lss) ?_
                  refine RegL.nil ?_
                  refine Ct.then_tr ?_
                  refine Tr.weak (Γ' := [(0, (pSl 1 (cSl 1 (cK .i64)) a_0)), (1, (pEq (.int .i64 a_1))), (2, (pSl 1 (cK .i64) a_2)), (8, (pSl 1 (cSl 1 (cK .i64)) x4.1)), (9, (pEq (.int .i64 x4.2))), (12, (pEq (.slice g12.1.1 g12.1.2.1 g12.1.2.2))), (15, (pEq (.int .i64 x31.1))), (16, (pEq (.int .i64 x33))), (92, (pEq (.bool (decide (x33 < (0 : Int))))))]) ⟨rfl, rfl, rfl, rfl, rfl, rfl, rfl, rfl, rfl, trivial⟩ ?_
                  refine Tr.cond (Opd.tmp rfl) (fun hc => ?_) (fun hc => ?_)
                  · replace h := bif_t hc h
                    refine Tr.seq ?_
                    refine Tr.region ?_
                    refine RegL.pure (p := (pEq (.bool false))) rfl rfl rfl (J_assign rfl Opd.con) ?_
                    refine RegL.nil ?_
                    refine Ct.then_tr ?_
                    refine Tr.weak (Γ' := [(6, (pEq (.bool false)))]) ⟨rfl, trivial⟩ ?_
                    refine Tr.ret ?_
                    refine Ct.then_ret ?_
                    replace h := Option.some.inj h; subst h
                    exact Ct.retH1 (Ωx := [oSS 23 2 1 (cK .i64) g12.1.1 g12.1.2.1 g12.1.2.2 g12.2 x31.2]) () rfl (RvOk.tmp rfl) rfl
                  · replace h := bif_f hc h
                    refine Tr.skip ?_
                    refine Ct.then_tr ?_
                    refine Tr.weak (Γ' := [(0, (pSl 1 (cSl 1 (cK .i64)) a_0)), (1, (pEq (.int .i64 a_1))), (2, (pSl 1 (cK .i64) a_2)), (8, (pSl 1 (cSl 1 (cK .i64)) x4.1)), (9, (pEq (.int .i64 x4.2))), (12, (pEq (.slice g12.1.1 g12.1.2.1 g12.1.2.2))), (15, (pEq (.int .i64 x31.1))), (16, (pEq (.int .i64 x33)))]) ⟨rfl, rfl, rfl, rfl, rfl, rfl, rfl, rfl, trivial⟩ ?_
                    refine Tr.seq ?_
                    refine Tr.seq ?_
                    refine Tr.region ?_
                    refine RegL.pure (p := (pEq (.int .i64 x33))) rfl rfl rfl (J_move rfl (Opd.tmp rfl)) ?_
                    refine RegL.pure (p := (pEq (.int .i64 x31.1))) rfl rfl rfl (J_move rfl (Opd.tmp rfl)) ?_
                    refine RegL.pure (p := (pEq (.bool (x33 != x31.1)))) rfl rfl rfl (J_bin rfl (Opd.tmp rfl) (Opd.tmp rfl) B_neq) ?_
                    refine RegL.nil ?_
                    refine Ct.then_tr ?_
                    refine Tr.weak (Γ' := [(0, (pSl 1 (cSl 1 (cK .i64)) a_0)), (1, (pEq (.int .i64 a_1))), (2, (pSl 1 (cK .i64) a_2)), (8, (pSl 1 (cSl 1 (cK .i64)) x4.1)), (9, (pEq (.int .i64 x4.2))), (12, (pEq (.slice g12.1.1 g12.1.2.1 g12.1.2.2))), (15, (pEq (.int .i64 x31.1))), (95, (pEq (.bool (x33 != x31.1))))]) ⟨rfl, rfl, rfl, rfl, rfl, rfl, rfl, rfl, trivial⟩ ?_
                    refine Tr.cond (Opd.tmp rfl) (fun hc => ?_) (fun hc => ?_)
                    · replace h := bif_t hc h
                      refine Tr.seq ?_
                      refine Tr.region ?_
                      refine RegL.pure (p := (pEq (.bool false))) rfl rfl rfl (J_assign rfl Opd.con) ?_
                      refine RegL.nil ?_
                      refine Ct.then_tr ?_
                      refine Tr.weak (Γ' := [(6, (pEq (.bool false)))]) ⟨rfl, trivial⟩ ?_
                      refine Tr.ret ?_
                      refine Ct.then_ret ?_
                      replace h := Option.some.inj h; subst h
                      exact Ct.retH1 (Ωx := [oSS 23 2 1 (cK .i64) g12.1.1 g12.1.2.1 g12.1.2.2 g12.2 x31.2]) () rfl (RvOk.tmp rfl) rfl
                    · replace h := bif_f hc h
                      refine Tr.skip ?_
                      refine Ct.then_tr ?_
                      refine Tr.weak (Γ' := [(0, (pSl 1 (cSl 1 (cK .i64)) a_0)), (1, (pEq (.int .i64 a_1))), (2, (pSl 1 (cK .i64) a_2)), (8, (pSl 1 (cSl 1 (cK .i64)) x4.1)), (9, (pEq (.int .i64 x4.2))), (12, (pEq (.slice g12.1.1 g12.1.2.1 g12.1.2.2))), (15, (pEq (.int .i64 x31.1)))]) ⟨rfl, rfl, rfl, rfl, rfl, rfl, rfl, trivial⟩ ?_
                      refine Tr.seq ?_
                      refine Tr.region ?_
                      refine RegL.pure (p := (pSl 1 (cSl 1 (cK .i64)) a_0)) rfl rfl rfl (J_move rfl (Opd.tmp rfl)) ?_
                      replace h := bind_some h; obtain ⟨x34, hx34, h⟩ := h
                      refine RegL.pure (p := (pSl 1 (cSl 1 (cK .i64)) x34)) rfl rfl rfl (J_call rfl Try.call9 (c_laws_toInt64SS hx34) (Opds.cons (Opd.tmp rfl) Opds.nil)) ?_
                      refine RegL.pure (p := (pEq (.int .i64 a_1))) rfl rfl rfl (J_move rfl (Opd.tmp rfl)) ?_
                      refine RegL.pure (p := (pSl 1 (cK .i64) a_2)) rfl rfl rfl (J_move rfl (Opd.tmp rfl)) ?_
                      replace h := bind_some h; obtain ⟨x35, hx35, h⟩ := h
                      refine RegL.pure (p := (pSl 1 (cK .i64) x35)) rfl rfl rfl (J_call rfl Try.call10 (c_laws_toInt64S hx35) (Opds.cons (Opd.tmp rfl) Opds.nil)) ?_
                      replace h := bind_some h; obtain ⟨x36, hx36, h⟩ := h
                      refine RegL.pure (p := (pTup [(pSl 1 (cSl 1 (cK .i64)) x36.1), (pEq (.int .i64 x36.2))])) rfl rfl rfl (J_call rfl Try.call11 (c_impl_NeedMatrix hx36) (Opds.cons (Opd.tmp rfl) (Opds.cons (Opd.tmp rfl) (Opds.cons (Opd.tmp rfl) Opds.nil)))) ?_
                      refine RegL.pure (p := (pTup [(pSl 1 (cSl 1 (cK .i64)) x36.1), (pEq (.int .i64 x36.2))])) rfl rfl rfl (J_move rfl (Opd.tmp rfl)) ?_
                      refine RegL.pure (p := (pSl 1 (cSl 1 (cK .i64)) x36.1)) rfl rfl rfl (J_extract rfl (Opd.tmp rfl) rfl) ?_
                      refine RegL.pure (p := (pEq (.int .i64 x36.2))) rfl rfl rfl (J_extract rfl (Opd.tmp rfl) rfl) ?_
                      refine RegL.pure (p := (pSl 1 (cSl 1 (cK .i64)) x36.1)) rfl rfl rfl (J_assign rfl (Opd.tmp rfl)) ?_
                      refine RegL.pure (p := (pEq (.int .i64 x36.2))) rfl rfl rfl (J_assign rfl (Opd.tmp rfl)) ?_
                      refine RegL.nil ?_
                      refine Ct.then_tr ?_
                      refine Tr.weak (Γ' := [(8, (pSl 1 (cSl 1 (cK .i64)) x4.1)), (9, (pEq (.int .i64 x4.2))), (12, (pEq (.slice g12.1.1 g12.1.2.1 g12.1.2.2))), (15, (pEq (.int .i64 x31.1))), (17, (pSl 1 (cSl 1 (cK .i64)) x36.1)), (18, (pEq (.int .i64 x36.2)))]) ⟨rfl, rfl, rfl, rfl, rfl, rfl, trivial⟩ ?_
                      refine Tr.seq ?_
                      refine Tr.seq ?_
                      replace h := bind_some h; obtain ⟨x37, hx37, h⟩ := h
                      refine Tr.cut (γ := Unit) (Γm := fun g => [(12, (pEq (.slice g12.1.1 g12.1.2.1 g12.1.2.2))), (15, (pEq (.int .i64 x31.1))), (113, (pEq (.bool x37)))]) (Ωm := fun g => [oSS 23 2 1 (cK .i64) g12.1.1 g12.1.2.1 g12.1.2.2 g12.2 x31.2]) ?_ (fun g40 => ?_)
                      · clear h
                        have h := hx37
                        clear hx37
                        refine Tr.region ?_
                        refine RegL.pure (p := (pSl 1 (cSl 1 (cK .i64)) x36.1)) rfl rfl rfl (J_move rfl (Opd.tmp rfl)) ?_
                        refine RegL.pure (p := (pSl 1 (cSl 1 (cK .i64)) x4.1)) rfl rfl rfl (J_move rfl (Opd.tmp rfl)) ?_
                        replace h := bind_some h; obtain ⟨x38, hx38, h⟩ := h
                        refine RegL.pure (p := (pEq (.bool x38))) rfl rfl rfl (J_call rfl Try.call12 (c_laws_eqInt64SS hx38) (Opds.cons (Opd.tmp rfl) (Opds.cons (Opd.tmp rfl) Opds.nil))) ?_
                        refine RegL.pure (p := (pEq (.bool (!x38)))) rfl rfl rfl (J_not rfl (Opd.tmp rfl)) ?_
                        refine RegL.pure (p := (pEq (.bool (!x38)))) rfl rfl rfl (J_move rfl (Opd.tmp rfl)) ?_
                        rcases Bool.eq_false_or_eq_true (!x38) with hc39 | hc39
                        · replace h := bif_t hc39 h
                          refine RegL.skipG rfl rfl rfl hc39 rfl rfl ?_
                          refine RegL.skipG rfl rfl rfl hc39 rfl rfl ?_
                          refine RegL.skipG rfl rfl rfl hc39 rfl rfl ?_
                          refine RegL.pure (p := (pEq (.bool true))) rfl rfl rfl (J_pick rfl (Opd.tmp rfl) (fun _ => Opd.con) (fun hf => absurd (hc39.symm.trans hf) (by decide))) ?_
                          refine RegL.nil ?_
                          replace h := Option.some.inj h; subst h
                          exact Ct.mid () rfl ⟨rfl, rfl, rfl, trivial⟩
                        · replace h := bif_f hc39 h
                          refine RegL.pureG (p := (pEq (.int .i64 x36.2))) rfl rfl rfl hc39 rfl rfl (J_move rfl (Opd.tmp rfl)) ?_
                          refine RegL.pureG (p := (pEq (.int .i64 x4.2))) rfl rfl rfl hc39 rfl rfl (J_move rfl (Opd.tmp rfl)) ?_
                          refine RegL.pureG (p := (pEq (.bool (x36.2 != x4.2)))) rfl rfl rfl hc39 rfl rfl (J_bin rfl (Opd.tmp rfl) (Opd.tmp rfl) B_neq) ?_
                          refine RegL.pure (p := (pEq (.bool (x36.2 != x4.2)))) rfl rfl rfl (J_pick rfl (Opd.tmp rfl) (fun hf => absurd (hc39.symm.trans hf) (by decide)) (fun _ => (Opd.tmp rfl))) ?_
                          refine RegL.nil ?_
                          replace h := Option.some.inj h; subst h
                          exact Ct.mid () rfl ⟨rfl, rfl, rfl, trivial⟩
                      · clear hx37
                        refine Ct.then_tr ?_
                        refine Tr.weak (Γ' := [(12, (pEq (.slice g12.1.1 g12.1.2.1 g12.1.2.2))), (15, (pEq (.int .i64 x31.1))), (113, (pEq (.bool x37)))]) ⟨rfl, rfl, rfl, trivial⟩ ?_
                        refine Tr.cond (Opd.tmp rfl) (fun hc => ?_) (fun hc => ?_)
                        · replace h := bif_t hc h
                          refine Tr.seq ?_
                          refine Tr.region ?_
                          refine RegL.pure (p := (pEq (.bool false))) rfl rfl rfl (J_assign rfl Opd.con) ?_
                          refine RegL.nil ?_
                          refine Ct.then_tr ?_
                          refine Tr.weak (Γ' := [(6, (pEq (.bool false)))]) ⟨rfl, trivial⟩ ?_
                          refine Tr.ret ?_
                          refine Ct.then_ret ?_
                          replace h := Option.some.inj h; subst h
                          exact Ct.retH1 (Ωx := [oSS 23 2 1 (cK .i64) g12.1.1 g12.1.2.1 g12.1.2.2 g12.2 x31.2]) () rfl (RvOk.tmp rfl) rfl
                        · replace h := bif_f hc h
                          refine Tr.skip ?_
                          refine Ct.then_tr ?_
                          refine Tr.weak (Γ' := [(12, (pEq (.slice g12.1.1 g12.1.2.1 g12.1.2.2))), (15, (pEq (.int .i64 x31.1)))]) ⟨rfl, rfl, trivial⟩ ?_
                          refine Tr.seq ?_
                          refine Tr.region ?_
                          refine RegL.pure (p := (pEq (.int .i64 (1 : Int)))) rfl rfl rfl (J_assign rfl Opd.con) ?_
                          refine RegL.nil ?_
                          refine Ct.then_tr ?_
                          refine Tr.weak (Γ' := [(12, (pEq (.slice g12.1.1 g12.1.2.1 g12.1.2.2))), (15, (pEq (.int .i64 x31.1))), (16, (pEq (.int .i64 (1 : Int))))]) ⟨rfl, rfl, rfl, trivial⟩ ?_
                          refine Tr.seq ?_
                          refine Tr.region ?_
                          refine RegL.pure (p := (pEq (.slice g12.1.1 g12.1.2.1 g12.1.2.2))) rfl rfl rfl (J_move rfl (Opd.tmp rfl)) ?_
                          refine RegL.pure (p := (pEq (.int .i64 (1 : Int)))) rfl rfl rfl (J_move rfl (Opd.tmp rfl)) ?_
                          replace h := bind_some h; obtain ⟨x41, hx41, h⟩ := h
                          refine RegL.pureW (p := (pEq (.int .i64 x41))) rfl rfl rfl (W_call rfl Try.call16 (c_laws_heldInt64SS hx41) (OpdsA.cons (OpdA.conv rfl (Conv.nest 0 (fun _ => rfl) rfl)) (OpdsA.cons (OpdA.of (Opd.tmp rfl)) OpdsA.nil)) FreeP.eq) ?_
                          refine RegL.pure (p := (pEq (.int .i64 x41))) rfl rfl rfl (J_assign rfl (Opd.tmp rfl)) ?_
                          refine RegL.nil ?_
                          refine Ct.then_tr ?_
                          refine Tr.weak (Γ' := [(15, (pEq (.int .i64 x31.1))), (16, (pEq (.int .i64 x41)))]) ⟨rfl, rfl, trivial⟩ ?_
                          refine Tr.seq ?_
                          refine Tr.seq ?_
                          refine Tr.region ?_
                          refine RegL.pure (p := (pEq (.int .i64 x41))) rfl rfl rfl (J_move rfl (Opd.tmp rfl)) ?_
                          refine RegL.pure (p := (pEq (.bool (decide (x41 < (0 : Int)))))) rfl rfl rfl (J_bin rfl (Opd.tmp rfl) Opd.con B_lss) ?_
                          refine RegL.nil ?_
                          refine Ct.then_tr ?_
                          refine Tr.weak (Γ' := [(15, (pEq (.int .i64 x31.1))), (16, (pEq (.int .i64 x41))), (118, (pEq (.bool (decide (x41 < (0 : Int))))))]) ⟨rfl, rfl, rfl, trivial⟩ ?_
                          refine Tr.cond (Opd.tmp rfl) (fun hc => ?_) (fun hc => ?_)
                          · replace h := bif_t hc h
                            refine Tr.seq ?_
                            refine Tr.region ?_
                            refine RegL.pure (p := (pEq (.bool false))) rfl rfl rfl (J_assign rfl Opd.con) ?_
                            refine RegL.nil ?_
                            refine Ct.then_tr ?_
                            refine Tr.weak (Γ' := [(6, (pEq (.bool false)))]) ⟨rfl, trivial⟩ ?_
                            refine Tr.ret ?_
                            refine Ct.then_ret ?_
                            replace h := Option.some.inj h; subst h
                            exact Ct.retH1 (Ωx := [oSS 23 2 1 (cK .i64) g12.1.1 g12.1.2.1 g12.1.2.2 g12.2 x31.2]) () rfl (RvOk.tmp rfl) rfl
                          · replace h := bif_f hc h
                            refine Tr.skip ?_
                            refine Ct.then_tr ?_
                            refine Tr.weak (Γ' := [(15, (pEq (.int .i64 x31.1))), (16, (pEq (.int .i64 x41)))]) ⟨rfl, rfl, trivial⟩ ?_
                            refine Tr.seq ?_
                            refine Tr.seq ?_
                            refine Tr.region ?_
                            refine RegL.pure (p := (pEq (.int .i64 x41))) rfl rfl rfl (J_move rfl (Opd.tmp rfl)) ?_
                            refine RegL.pure (p := (pEq (.int .i64 x31.1))) rfl rfl rfl (J_move rfl (Opd.tmp rfl)) ?_
                            refine RegL.pure (p := (pEq (.bool (x41 != x31.1)))) rfl rfl rfl (J_bin rfl (Opd.tmp rfl) (Opd.tmp rfl) B_neq) ?_
                            refine RegL.nil ?_
                            refine Ct.then_tr ?_
                            refine Tr.weak (Γ' := [(121, (pEq (.bool (x41 != x31.1))))]) ⟨rfl, trivial⟩ ?_
                            refine Tr.cond (Opd.tmp rfl) (fun hc => ?_) (fun hc => ?_)
                            · replace h := bif_t hc h
                              refine Tr.seq ?_
                              refine Tr.region ?_
                              refine RegL.pure (p := (pEq (.bool false))) rfl rfl rfl (J_assign rfl Opd.con) ?_
                              refine RegL.nil ?_
                              refine Ct.then_tr ?_
                              refine Tr.weak (Γ' := [(6, (pEq (.bool false)))]) ⟨rfl, trivial⟩ ?_
                              refine Tr.ret ?_
                              refine Ct.then_ret ?_
                              replace h := Option.some.inj h; subst h
                              exact Ct.retH1 (Ωx := [oSS 23 2 1 (cK .i64) g12.1.1 g12.1.2.1 g12.1.2.2 g12.2 x31.2]) () rfl (RvOk.tmp rfl) rfl
                            · replace h := bif_f hc h
                              refine Tr.skip ?_
                              refine Ct.then_tr ?_
                              refine Tr.weak (Γ' := []) trivial ?_
                              refine Tr.seq ?_
                              refine Tr.region ?_
                              refine RegL.pure (p := (pEq (.bool true))) rfl rfl rfl (J_assign rfl Opd.con) ?_
                              refine RegL.nil ?_
                              refine Ct.then_tr ?_
                              refine Tr.weak (Γ' := [(6, (pEq (.bool true)))]) ⟨rfl, trivial⟩ ?_
                              refine Tr.ret ?_
                              replace h := Option.some.inj h; subst h
                              exact Ct.retH1 (Ωx := [oSS 23 2 1 (cK .i64) g12.1.1 g12.1.2.1 g12.1.2.2 g12.2 x31.2]) () rfl (RvOk.tmp rfl) rfl

end Go.Proofs.Ytipkpdobbeggnaa.fnExactNeedMatrixW
