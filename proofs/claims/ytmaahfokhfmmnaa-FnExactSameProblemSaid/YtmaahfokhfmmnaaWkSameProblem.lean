/-
  The walks that the law FnExactSameProblem reaches: each function computes its model. Printed by our own program.
-/
import Derived.Test.YtmaahfokhfmmnaaProg
import Derived.Test.YtmaahfokhfmmnaaMod
import Derived.KernelRfl
namespace Go.Proofs.Ytmaahfokhfmmnaa.fnExactSameProblemW
open Go Go.RowKit Go.Wk
set_option linter.unusedVariables false
set_option maxRecDepth 100000
theorem hmix : Try.prog.follows .mixedOrders = true := by kernel_rfl
theorem sz2 : ∀ w, (Go.sizeOf 2).run Try.prog w = .ok 1 w := fun _ => by kernel_rfl
theorem sz22 : ∀ w, (Go.sizeOf 22).run Try.prog w = .ok 1 w := fun _ => by kernel_rfl
theorem sz27 : ∀ w, (Go.sizeOf 27).run Try.prog w = .ok 1 w := fun _ => by kernel_rfl
theorem sz29 : ∀ w, (Go.sizeOf 29).run Try.prog w = .ok 2 w := fun _ => by kernel_rfl
theorem sz32 : ∀ w, (Go.sizeOf 32).run Try.prog w = .ok 2 w := fun _ => by kernel_rfl
theorem zero32 : Zero Try.prog 32 [(pSl 1 (cSl 1 (cK .i64)) ([] : (List (List Int)))), (pSl 1 (cSl 1 (cK .i64)) ([] : (List (List Int))))] := ⟨(.agg #[.slice none 0 0, .slice none 0 0]), [.slice none 0 0, .slice none 0 0], fun _ => by kernel_rfl, rfl, fun _ _ => ⟨Pd.nilsl, ⟨Pd.nilsl, trivial⟩⟩⟩
theorem el2i : (Try.prog.info? 2).map (fun i => (i.zero, i.size, i.bytes)) = some (some (.int .i64 0), 1, 8) := by kernel_rfl
theorem el2 : Elem Try.prog 2 1 8 (cK .i64) (0 : Int) := by
  obtain ⟨i, h1, h2, h3, h4⟩ := info_parts el2i
  exact ⟨i, (.int .i64 0), [.int .i64 0], h1, h2, h3, h4, rfl, rfl, by decide, fun _ _ => ⟨rfl, trivial⟩, fun _ => rfl, fun _ _ _ _ h => ones_of ((OneCs.cons OneC.int OneCs.nil)) h⟩
theorem el22i : (Try.prog.info? 22).map (fun i => (i.zero, i.size, i.bytes)) = some (some (.slice none 0 0), 1, 24) := by kernel_rfl
theorem el22 : Elem Try.prog 22 1 24 (cSl 1 (cK .i64)) ([] : (List Int)) := by
  obtain ⟨i, h1, h2, h3, h4⟩ := info_parts el22i
  exact ⟨i, (.slice none 0 0), [.slice none 0 0], h1, h2, h3, h4, rfl, rfl, by decide, fun _ _ => ⟨Pd.nilsl, trivial⟩, fun _ => rfl, fun _ _ _ _ h => ones_of ((OneCs.cons OneC.sl OneCs.nil)) h⟩

theorem c_laws_szInt64S {a_0 : (List Int)} {left_1 : Int} {r : Int} (h : m_laws_szInt64S a_0 left_1 = some r) : CallJ Try.prog 68 [(pSl 1 (cK .i64) a_0), (pEq (.int .i64 left_1))] (pEq (.int .i64 r)) := by
  unfold m_laws_szInt64S at h
  refine CallJ.enter Try.func68 rfl Try.ntmps68 rfl fun W I0 => ?_
  refine Tr.weak (Γ' := [(0, (pSl 1 (cK .i64) a_0)), (1, (pEq (.int .i64 left_1)))]) ⟨rfl, rfl, trivial⟩ ?_
  refine Tr.seq ?_
  refine Tr.region ?_
  refine RegL.pure (p := (pEq (.int .i64 (0 : Int)))) rfl rfl rfl (J_assign rfl Opd.con) ?_
  refine RegL.nil ?_
  refine Ct.then_tr ?_
  refine Tr.weak (Γ' := [(0, (pSl 1 (cK .i64) a_0)), (1, (pEq (.int .i64 left_1)))]) ⟨rfl, rfl, trivial⟩ ?_
  refine Tr.seq ?_
  refine Tr.region ?_
  refine RegL.pure (p := (pEq (.int .i64 left_1))) rfl rfl rfl (J_move rfl (Opd.tmp rfl)) ?_
  refine RegL.pure (p := (pSl 1 (cK .i64) a_0)) rfl rfl rfl (J_move rfl (Opd.tmp rfl)) ?_
  refine RegL.pure (p := (pEq (.int .i64 (a_0.length : Int)))) rfl rfl rfl (J_len rfl Try.underlying22 (Opd.tmp rfl) rfl) ?_
  refine RegL.pure (p := (pEq (.int .i64 (w64 (left_1 - (a_0.length : Int)))))) rfl rfl rfl (J_bin rfl (Opd.tmp rfl) (Opd.tmp rfl) B_sub) ?_
  refine RegL.pure (p := (pEq (.int .i64 (w64 (left_1 - (a_0.length : Int)))))) rfl rfl rfl (J_assign rfl (Opd.tmp rfl)) ?_
  refine RegL.nil ?_
  refine Ct.then_tr ?_
  refine Tr.weak (Γ' := [(1, (pEq (.int .i64 (w64 (left_1 - (a_0.length : Int))))))]) ⟨rfl, trivial⟩ ?_
  refine Tr.seq ?_
  refine Tr.seq ?_
  refine Tr.region ?_
  refine RegL.pure (p := (pEq (.int .i64 (w64 (left_1 - (a_0.length : Int)))))) rfl rfl rfl (J_move rfl (Opd.tmp rfl)) ?_
  refine RegL.pure (p := (pEq (.bool (decide ((w64 (left_1 - (a_0.length : Int))) < (0 : Int)))))) rfl rfl rfl (J_bin rfl (Opd.tmp rfl) Opd.con B_lss) ?_
  refine RegL.nil ?_
  refine Ct.then_tr ?_
  refine Tr.weak (Γ' := [(1, (pEq (.int .i64 (w64 (left_1 - (a_0.length : Int)))))), (10, (pEq (.bool (decide ((w64 (left_1 - (a_0.length : Int))) < (0 : Int))))))]) ⟨rfl, rfl, trivial⟩ ?_
  refine Tr.cond (Opd.tmp rfl) (fun hc => ?_) (fun hc => ?_)
  · replace h := bif_t hc h
    refine Tr.seq ?_
    refine Tr.region ?_
    refine RegL.pure (p := (pEq (.int .i64 (-1 : Int)))) rfl rfl rfl (J_assign rfl Opd.con) ?_
    refine RegL.nil ?_
    refine Ct.then_tr ?_
    refine Tr.weak (Γ' := [(4, (pEq (.int .i64 (-1 : Int))))]) ⟨rfl, trivial⟩ ?_
    refine Tr.ret ?_
    refine Ct.then_ret ?_
    replace h := Option.some.inj h; subst h
    exact Ct.ret1 rfl rfl
  · replace h := bif_f hc h
    refine Tr.skip ?_
    refine Ct.then_tr ?_
    refine Tr.weak (Γ' := [(1, (pEq (.int .i64 (w64 (left_1 - (a_0.length : Int))))))]) ⟨rfl, trivial⟩ ?_
    refine Tr.seq ?_
    refine Tr.region ?_
    refine RegL.pure (p := (pEq (.int .i64 (w64 (left_1 - (a_0.length : Int)))))) rfl rfl rfl (J_move rfl (Opd.tmp rfl)) ?_
    refine RegL.pure (p := (pEq (.int .i64 (w64 (left_1 - (a_0.length : Int)))))) rfl rfl rfl (J_assign rfl (Opd.tmp rfl)) ?_
    refine RegL.nil ?_
    refine Ct.then_tr ?_
    refine Tr.weak (Γ' := [(4, (pEq (.int .i64 (w64 (left_1 - (a_0.length : Int))))))]) ⟨rfl, trivial⟩ ?_
    refine Tr.ret ?_
    replace h := Option.some.inj h; subst h
    exact Ct.ret1 rfl rfl

theorem c_laws_szInt64SS {a_0 : (List (List Int))} {left_1 : Int} {r : Int} (h : m_laws_szInt64SS a_0 left_1 = some r) : CallJ Try.prog 28 [(pSl 1 (cSl 1 (cK .i64)) a_0), (pEq (.int .i64 left_1))] (pEq (.int .i64 r)) := by
  unfold m_laws_szInt64SS at h
  refine CallJ.enter Try.func28 rfl Try.ntmps28 rfl fun W I0 => ?_
  refine Tr.weak (Γ' := [(0, (pSl 1 (cSl 1 (cK .i64)) a_0)), (1, (pEq (.int .i64 left_1)))]) ⟨rfl, rfl, trivial⟩ ?_
  refine Tr.seq ?_
  refine Tr.region ?_
  refine RegL.pure (p := (pEq (.int .i64 (0 : Int)))) rfl rfl rfl (J_assign rfl Opd.con) ?_
  refine RegL.nil ?_
  refine Ct.then_tr ?_
  refine Tr.weak (Γ' := [(0, (pSl 1 (cSl 1 (cK .i64)) a_0)), (1, (pEq (.int .i64 left_1)))]) ⟨rfl, rfl, trivial⟩ ?_
  refine Tr.seq ?_
  refine Tr.region ?_
  refine RegL.pure (p := (pEq (.int .i64 left_1))) rfl rfl rfl (J_move rfl (Opd.tmp rfl)) ?_
  refine RegL.pure (p := (pSl 1 (cSl 1 (cK .i64)) a_0)) rfl rfl rfl (J_move rfl (Opd.tmp rfl)) ?_
  refine RegL.pure (p := (pEq (.int .i64 (a_0.length : Int)))) rfl rfl rfl (J_len rfl Try.underlying27 (Opd.tmp rfl) rfl) ?_
  refine RegL.pure (p := (pEq (.int .i64 (w64 (left_1 - (a_0.length : Int)))))) rfl rfl rfl (J_bin rfl (Opd.tmp rfl) (Opd.tmp rfl) B_sub) ?_
  refine RegL.pure (p := (pEq (.int .i64 (w64 (left_1 - (a_0.length : Int)))))) rfl rfl rfl (J_assign rfl (Opd.tmp rfl)) ?_
  refine RegL.nil ?_
  refine Ct.then_tr ?_
  refine Tr.weak (Γ' := [(0, (pSl 1 (cSl 1 (cK .i64)) a_0)), (1, (pEq (.int .i64 (w64 (left_1 - (a_0.length : Int))))))]) ⟨rfl, rfl, trivial⟩ ?_
  refine Tr.seq ?_
  refine Tr.seq ?_
  refine Tr.region ?_
  refine RegL.pure (p := (pEq (.int .i64 (w64 (left_1 - (a_0.length : Int)))))) rfl rfl rfl (J_move rfl (Opd.tmp rfl)) ?_
  refine RegL.pure (p := (pEq (.bool (decide ((w64 (left_1 - (a_0.length : Int))) < (0 : Int)))))) rfl rfl rfl (J_bin rfl (Opd.tmp rfl) Opd.con B_lss) ?_
  refine RegL.nil ?_
  refine Ct.then_tr ?_
  refine Tr.weak (Γ' := [(0, (pSl 1 (cSl 1 (cK .i64)) a_0)), (1, (pEq (.int .i64 (w64 (left_1 - (a_0.length : Int)))))), (11, (pEq (.bool (decide ((w64 (left_1 - (a_0.length : Int))) < (0 : Int))))))]) ⟨rfl, rfl, rfl, trivial⟩ ?_
  refine Tr.cond (Opd.tmp rfl) (fun hc => ?_) (fun hc => ?_)
  · replace h := bif_t hc h
    refine Tr.seq ?_
    refine Tr.region ?_
    refine RegL.pure (p := (pEq (.int .i64 (-1 : Int)))) rfl rfl rfl (J_assign rfl Opd.con) ?_
    refine RegL.nil ?_
    refine Ct.then_tr ?_
    refine Tr.weak (Γ' := [(4, (pEq (.int .i64 (-1 : Int))))]) ⟨rfl, trivial⟩ ?_
    refine Tr.ret ?_
    refine Ct.then_ret ?_
    replace h := Option.some.inj h; subst h
    exact Ct.ret1 rfl rfl
  · replace h := bif_f hc h
    refine Tr.skip ?_
    refine Ct.then_tr ?_
    refine Tr.weak (Γ' := [(0, (pSl 1 (cSl 1 (cK .i64)) a_0)), (1, (pEq (.int .i64 (w64 (left_1 - (a_0.length : Int))))))]) ⟨rfl, rfl, trivial⟩ ?_
    refine Tr.seq ?_
    refine Tr.seq ?_
    refine Tr.region ?_
    refine RegL.pure (p := (pEq (.int .i64 (0 : Int)))) rfl rfl rfl (J_assign rfl Opd.con) ?_
    refine RegL.nil ?_
    refine Ct.then_tr ?_
    refine Tr.weak (Γ' := [(0, (pSl 1 (cSl 1 (cK .i64)) a_0)), (1, (pEq (.int .i64 (w64 (left_1 - (a_0.length : Int)))))), (5, (pEq (.int .i64 (0 : Int))))]) ⟨rfl, rfl, rfl, trivial⟩ ?_
    refine Tr.block ?_
    refine Tr.weak (Γ' := [(0, (pSl 1 (cSl 1 (cK .i64)) a_0)), (1, (pEq (.int .i64 (w64 (left_1 - (a_0.length : Int)))))), (5, (pEq (.int .i64 (0 : Int))))]) ⟨rfl, rfl, rfl, trivial⟩ ?_
    refine Tr.loop (γ := Unit) (σ := (Int × Int)) (Γσ := fun s g => [(0, (pSl 1 (cSl 1 (cK .i64)) a_0)), (1, (pEq (.int .i64 s.1))), (5, (pEq (.int .i64 s.2)))]) (Ωσ := fun s g => []) (g := ()) h ?_
    clear h
    rintro ⟨v2, v3⟩ g4 t h
    replace h : m_laws_szInt64SS_B1 a_0 v2 v3 = some t := h
    unfold m_laws_szInt64SS_B1 at h
    refine Tr.weakO (Γ' := [(0, (pSl 1 (cSl 1 (cK .i64)) a_0)), (1, (pEq (.int .i64 v2))), (5, (pEq (.int .i64 v3)))]) (Ω' := []) rfl ⟨rfl, rfl, rfl, trivial⟩ ?_
    refine Tr.seq ?_
    refine Tr.seq ?_
    refine Tr.region ?_
    refine RegL.pure (p := (pEq (.int .i64 v3))) rfl rfl rfl (J_move rfl (Opd.tmp rfl)) ?_
    refine RegL.pure (p := (pSl 1 (cSl 1 (cK .i64)) a_0)) rfl rfl rfl (J_move rfl (Opd.tmp rfl)) ?_
    refine RegL.pure (p := (pEq (.int .i64 (a_0.length : Int)))) rfl rfl rfl (J_len rfl Try.underlying27 (Opd.tmp rfl) rfl) ?_
    refine RegL.pure (p := (pEq (.bool (decide (v3 < (a_0.length : Int)))))) rfl rfl rfl (J_bin rfl (Opd.tmp rfl) (Opd.tmp rfl) B_lss) ?_
    refine RegL.nil ?_
    refine Ct.then_tr ?_
    refine Tr.weak (Γ' := [(0, (pSl 1 (cSl 1 (cK .i64)) a_0)), (1, (pEq (.int .i64 v2))), (5, (pEq (.int .i64 v3))), (15, (pEq (.bool (decide (v3 < (a_0.length : Int))))))]) ⟨rfl, rfl, rfl, rfl, trivial⟩ ?_
    refine Tr.cond (Opd.tmp rfl) (fun hc => ?_) (fun hc => ?_)
    · replace h := bif_t hc h
      refine Tr.skip ?_
      refine Ct.then_tr ?_
      refine Tr.weak (Γ' := [(0, (pSl 1 (cSl 1 (cK .i64)) a_0)), (1, (pEq (.int .i64 v2))), (5, (pEq (.int .i64 v3)))]) ⟨rfl, rfl, rfl, trivial⟩ ?_
      refine Tr.seq ?_
      refine Tr.block ?_
      refine Tr.seq ?_
      refine Tr.region ?_
      refine RegL.pure (p := (pSl 1 (cSl 1 (cK .i64)) a_0)) rfl rfl rfl (J_move rfl (Opd.tmp rfl)) ?_
      refine RegL.pure (p := (pEq (.int .i64 v3))) rfl rfl rfl (J_move rfl (Opd.tmp rfl)) ?_
      replace h := bind_some h; obtain ⟨x5, hx5, h⟩ := h
      refine RegL.pure (p := (pPtr ((cSl 1 (cK .i64)) x5))) rfl rfl rfl (J_idx rfl Try.underlying27 sz22 (Opd.tmp rfl) (Opd.tmp rfl) hx5) ?_
      refine RegL.pure (p := (pSl 1 (cK .i64) x5)) rfl rfl rfl (J_load rfl Try.isAgg22 (Opd.tmp rfl)) ?_
      refine RegL.pure (p := (pEq (.int .i64 v2))) rfl rfl rfl (J_move rfl (Opd.tmp rfl)) ?_
      replace h := bind_some h; obtain ⟨x6, hx6, h⟩ := h
      refine RegL.pure (p := (pEq (.int .i64 x6))) rfl rfl rfl (J_call rfl Try.call68 (c_laws_szInt64S hx6) (Opds.cons (Opd.tmp rfl) (Opds.cons (Opd.tmp rfl) Opds.nil))) ?_
      refine RegL.pure (p := (pEq (.int .i64 x6))) rfl rfl rfl (J_assign rfl (Opd.tmp rfl)) ?_
      refine RegL.nil ?_
      refine Ct.then_tr ?_
      refine Tr.weak (Γ' := [(0, (pSl 1 (cSl 1 (cK .i64)) a_0)), (1, (pEq (.int .i64 x6))), (5, (pEq (.int .i64 v3)))]) ⟨rfl, rfl, rfl, trivial⟩ ?_
      refine Tr.seq ?_
      refine Tr.region ?_
      refine RegL.pure (p := (pEq (.int .i64 x6))) rfl rfl rfl (J_move rfl (Opd.tmp rfl)) ?_
      refine RegL.pure (p := (pEq (.bool (decide (x6 < (0 : Int)))))) rfl rfl rfl (J_bin rfl (Opd.tmp rfl) Opd.con B_lss) ?_
      refine RegL.nil ?_
      refine Ct.then_tr ?_
      refine Tr.weak (Γ' := [(0, (pSl 1 (cSl 1 (cK .i64)) a_0)), (1, (pEq (.int .i64 x6))), (5, (pEq (.int .i64 v3))), (25, (pEq (.bool (decide (x6 < (0 : Int))))))]) ⟨rfl, rfl, rfl, rfl, trivial⟩ ?_
      refine Tr.cond (Opd.tmp rfl) (fun hc => ?_) (fun hc => ?_)
      · replace h := bif_t hc h
        refine Tr.seq ?_
        refine Tr.region ?_
        refine RegL.pure (p := (pEq (.int .i64 (-1 : Int)))) rfl rfl rfl (J_assign rfl Opd.con) ?_
        refine RegL.nil ?_
        refine Ct.then_tr ?_
        refine Tr.weak (Γ' := [(4, (pEq (.int .i64 (-1 : Int))))]) ⟨rfl, trivial⟩ ?_
        refine Tr.ret ?_
        refine Ct.blk_ret ?_
        refine Ct.then_ret ?_
        replace h := map_some h; obtain ⟨r1, h, rfl⟩ := h
        refine Ct.out_ret fun e => ?_
        subst e
        refine Ct.blk_ret ?_
        refine Ct.then_ret ?_
        replace h := Option.some.inj h; subst h
        exact Ct.ret1 rfl rfl
      · replace h := bif_f hc h
        refine Tr.skip ?_
        refine Ct.blk_normal ?_
        refine Ct.then_tr ?_
        refine Tr.weak (Γ' := [(0, (pSl 1 (cSl 1 (cK .i64)) a_0)), (1, (pEq (.int .i64 x6))), (5, (pEq (.int .i64 v3)))]) ⟨rfl, rfl, rfl, trivial⟩ ?_
        refine Tr.region ?_
        refine RegL.pure (p := (pEq (.int .i64 v3))) rfl rfl rfl (J_move rfl (Opd.tmp rfl)) ?_
        refine RegL.pure (p := (pEq (.int .i64 (w64 (v3 + (1 : Int)))))) rfl rfl rfl (J_bin rfl (Opd.tmp rfl) Opd.con B_add) ?_
        refine RegL.pure (p := (pEq (.int .i64 (w64 (v3 + (1 : Int)))))) rfl rfl rfl (J_assign rfl (Opd.tmp rfl)) ?_
        refine RegL.nil ?_
        replace h := Option.some.inj h; subst h
        exact Ct.again () rfl ⟨rfl, rfl, rfl, trivial⟩
    · replace h := bif_f hc h
      refine Tr.exit ?_
      refine Ct.then_exit ?_
      replace h := map_some h; obtain ⟨r1, h, rfl⟩ := h
      refine Ct.out_exit fun e => ?_
      subst e
      refine Ct.blk_exit ?_
      refine Ct.then_tr ?_
      refine Tr.weak (Γ' := [(1, (pEq (.int .i64 v2)))]) ⟨rfl, trivial⟩ ?_
      refine Tr.seq ?_
      refine Tr.region ?_
      refine RegL.pure (p := (pEq (.int .i64 v2))) rfl rfl rfl (J_move rfl (Opd.tmp rfl)) ?_
      refine RegL.pure (p := (pEq (.int .i64 v2))) rfl rfl rfl (J_assign rfl (Opd.tmp rfl)) ?_
      refine RegL.nil ?_
      refine Ct.then_tr ?_
      refine Tr.weak (Γ' := [(4, (pEq (.int .i64 v2)))]) ⟨rfl, trivial⟩ ?_
      refine Tr.ret ?_
      replace h := Option.some.inj h; subst h
      exact Ct.ret1 rfl rfl

theorem c_laws_szProblem {a_0 : GProblem} {left_1 : Int} {r : Int} (h : m_laws_szProblem a_0 left_1 = some r) : CallJ Try.prog 19 [(pAgg (cGProblem a_0)), (pEq (.int .i64 left_1))] (pEq (.int .i64 r)) := by
  unfold m_laws_szProblem at h
  refine CallJ.enter Try.func19 rfl Try.ntmps19 rfl fun W I0 => ?_
  refine Tr.weak (Γ' := [(0, (pAgg (cGProblem a_0))), (1, (pEq (.int .i64 left_1)))]) ⟨rfl, rfl, trivial⟩ ?_
  refine Tr.seq ?_
  refine Tr.region ?_
  refine RegL.pure (p := (pPtr (cGProblem a_0))) rfl rfl rfl (J_boxA rfl (Opd.tmp rfl)) ?_
  refine RegL.pure (p := (pEq (.int .i64 (0 : Int)))) rfl rfl rfl (J_assign rfl Opd.con) ?_
  refine RegL.nil ?_
  refine Ct.then_tr ?_
  refine Tr.weak (Γ' := [(1, (pEq (.int .i64 left_1))), (2, (pPtr (cGProblem a_0)))]) ⟨rfl, rfl, trivial⟩ ?_
  refine Tr.seq ?_
  refine Tr.region ?_
  refine RegL.pure (p := (pPtr ((cSl 1 (cSl 1 (cK .i64))) a_0.Domains))) rfl rfl rfl (J_fieldAddr rfl Try.underlying29 rfl sz27 (by decide) (Opd.tmp rfl) rfl) ?_
  refine RegL.pure (p := (pSl 1 (cSl 1 (cK .i64)) a_0.Domains)) rfl rfl rfl (J_load rfl Try.isAgg27 (Opd.tmp rfl)) ?_
  refine RegL.pure (p := (pEq (.int .i64 left_1))) rfl rfl rfl (J_move rfl (Opd.tmp rfl)) ?_
  replace h := bind_some h; obtain ⟨x1, hx1, h⟩ := h
  refine RegL.pure (p := (pEq (.int .i64 x1))) rfl rfl rfl (J_call rfl Try.call28 (c_laws_szInt64SS hx1) (Opds.cons (Opd.tmp rfl) (Opds.cons (Opd.tmp rfl) Opds.nil))) ?_
  refine RegL.pure (p := (pEq (.int .i64 x1))) rfl rfl rfl (J_assign rfl (Opd.tmp rfl)) ?_
  refine RegL.nil ?_
  refine Ct.then_tr ?_
  refine Tr.weak (Γ' := [(1, (pEq (.int .i64 x1))), (2, (pPtr (cGProblem a_0)))]) ⟨rfl, rfl, trivial⟩ ?_
  refine Tr.seq ?_
  refine Tr.seq ?_
  refine Tr.region ?_
  refine RegL.pure (p := (pEq (.int .i64 x1))) rfl rfl rfl (J_move rfl (Opd.tmp rfl)) ?_
  refine RegL.pure (p := (pEq (.bool (decide (x1 < (0 : Int)))))) rfl rfl rfl (J_bin rfl (Opd.tmp rfl) Opd.con B_lss) ?_
  refine RegL.nil ?_
  refine Ct.then_tr ?_
  refine Tr.weak (Γ' := [(1, (pEq (.int .i64 x1))), (2, (pPtr (cGProblem a_0))), (10, (pEq (.bool (decide (x1 < (0 : Int))))))]) ⟨rfl, rfl, rfl, trivial⟩ ?_
  refine Tr.cond (Opd.tmp rfl) (fun hc => ?_) (fun hc => ?_)
  · replace h := bif_t hc h
    refine Tr.seq ?_
    refine Tr.region ?_
    refine RegL.pure (p := (pEq (.int .i64 (-1 : Int)))) rfl rfl rfl (J_assign rfl Opd.con) ?_
    refine RegL.nil ?_
    refine Ct.then_tr ?_
    refine Tr.weak (Γ' := [(4, (pEq (.int .i64 (-1 : Int))))]) ⟨rfl, trivial⟩ ?_
    refine Tr.ret ?_
    refine Ct.then_ret ?_
    replace h := Option.some.inj h; subst h
    exact Ct.ret1 rfl rfl
  · replace h := bif_f hc h
    refine Tr.skip ?_
    refine Ct.then_tr ?_
    refine Tr.weak (Γ' := [(1, (pEq (.int .i64 x1))), (2, (pPtr (cGProblem a_0)))]) ⟨rfl, rfl, trivial⟩ ?_
    refine Tr.seq ?_
    refine Tr.region ?_
    refine RegL.pure (p := (pPtr ((cSl 1 (cSl 1 (cK .i64))) a_0.Apart))) rfl rfl rfl (J_fieldAddr rfl Try.underlying29 rfl sz27 (by decide) (Opd.tmp rfl) rfl) ?_
    refine RegL.pure (p := (pSl 1 (cSl 1 (cK .i64)) a_0.Apart)) rfl rfl rfl (J_load rfl Try.isAgg27 (Opd.tmp rfl)) ?_
    refine RegL.pure (p := (pEq (.int .i64 x1))) rfl rfl rfl (J_move rfl (Opd.tmp rfl)) ?_
    replace h := bind_some h; obtain ⟨x2, hx2, h⟩ := h
    refine RegL.pure (p := (pEq (.int .i64 x2))) rfl rfl rfl (J_call rfl Try.call28 (c_laws_szInt64SS hx2) (Opds.cons (Opd.tmp rfl) (Opds.cons (Opd.tmp rfl) Opds.nil))) ?_
    refine RegL.pure (p := (pEq (.int .i64 x2))) rfl rfl rfl (J_assign rfl (Opd.tmp rfl)) ?_
    refine RegL.nil ?_
    refine Ct.then_tr ?_
    refine Tr.weak (Γ' := [(1, (pEq (.int .i64 x2)))]) ⟨rfl, trivial⟩ ?_
    refine Tr.seq ?_
    refine Tr.seq ?_
    refine Tr.region ?_
    refine RegL.pure (p := (pEq (.int .i64 x2))) rfl rfl rfl (J_move rfl (Opd.tmp rfl)) ?_
    refine RegL.pure (p := (pEq (.bool (decide (x2 < (0 : Int)))))) rfl rfl rfl (J_bin rfl (Opd.tmp rfl) Opd.con B_lss) ?_
    refine RegL.nil ?_
    refine Ct.then_tr ?_
    refine Tr.weak (Γ' := [(1, (pEq (.int .i64 x2))), (16, (pEq (.bool (decide (x2 < (0 : Int))))))]) ⟨rfl, rfl, trivial⟩ ?_
    refine Tr.cond (Opd.tmp rfl) (fun hc => ?_) (fun hc => ?_)
    · replace h := bif_t hc h
      refine Tr.seq ?_
      refine Tr.region ?_
      refine RegL.pure (p := (pEq (.int .i64 (-1 : Int)))) rfl rfl rfl (J_assign rfl Opd.con) ?_
      refine RegL.nil ?_
      refine Ct.then_tr ?_
      refine Tr.weak (Γ' := [(4, (pEq (.int .i64 (-1 : Int))))]) ⟨rfl, trivial⟩ ?_
      refine Tr.ret ?_
      refine Ct.then_ret ?_
      replace h := Option.some.inj h; subst h
      exact Ct.ret1 rfl rfl
    · replace h := bif_f hc h
      refine Tr.skip ?_
      refine Ct.then_tr ?_
      refine Tr.weak (Γ' := [(1, (pEq (.int .i64 x2)))]) ⟨rfl, trivial⟩ ?_
      refine Tr.seq ?_
      refine Tr.region ?_
      refine RegL.pure (p := (pEq (.int .i64 x2))) rfl rfl rfl (J_move rfl (Opd.tmp rfl)) ?_
      refine RegL.pure (p := (pEq (.int .i64 x2))) rfl rfl rfl (J_assign rfl (Opd.tmp rfl)) ?_
      refine RegL.nil ?_
      refine Ct.then_tr ?_
      refine Tr.weak (Γ' := [(4, (pEq (.int .i64 x2)))]) ⟨rfl, trivial⟩ ?_
      refine Tr.ret ?_
      replace h := Option.some.inj h; subst h
      exact Ct.ret1 rfl rfl

theorem o_laws_toInt64S {a_0 : (List Int)} {r : (List Int)} (h : m_laws_toInt64S a_0 = some r) : CallO Try.prog 16 [(pSl 1 (cK .i64) a_0)] vRow (fun g : G3 => [oSl 2 1 (cK .i64) g.1 g.2.1 g.2.2 r]) := by
  unfold m_laws_toInt64S at h
  refine CallO.enter Try.func16 rfl Try.ntmps16 rfl fun W I0 => ?_
  refine Tr.weak (Γ' := [(0, (pSl 1 (cK .i64) a_0))]) ⟨rfl, trivial⟩ ?_
  refine Tr.seq ?_
  refine Tr.region ?_
  refine RegL.pure (p := (pEq (.slice none 0 0))) rfl rfl rfl (J_assign rfl Opd.con) ?_
  refine RegL.nil ?_
  refine Ct.then_tr ?_
  refine Tr.weak (Γ' := [(0, (pSl 1 (cK .i64) a_0))]) ⟨rfl, trivial⟩ ?_
  refine Tr.seq ?_
  refine Tr.region ?_
  refine RegL.pure (p := (pSl 1 (cK .i64) a_0)) rfl rfl rfl (J_move rfl (Opd.tmp rfl)) ?_
  refine RegL.pure (p := (pEq (.int .i64 (a_0.length : Int)))) rfl rfl rfl (J_len rfl Try.underlying22 (Opd.tmp rfl) rfl) ?_
  replace h := bind_some h; obtain ⟨x1, hx1, h⟩ := h
  refine RegL.step (γ := Option Addr) (p := fun a => pEq (.slice a ((a_0.length : Int)).toNat ((a_0.length : Int)).toNat)) (Ω' := fun a => oSl 2 1 (cK .i64) a ((a_0.length : Int)).toNat ((a_0.length : Int)).toNat x1 :: []) rfl rfl rfl (M_make rfl Try.underlying22 el2 (by decide) (Opd.tmp rfl) hx1) fun o3 => ?_
  refine RegL.pure (p := (pEq (.slice o3 ((a_0.length : Int)).toNat ((a_0.length : Int)).toNat))) rfl rfl rfl (J_assign rfl (Opd.tmp rfl)) ?_
  refine RegL.nil ?_
  refine Ct.then_tr ?_
  refine Tr.weak (Γ' := [(0, (pSl 1 (cK .i64) a_0)), (3, (pEq (.slice o3 ((a_0.length : Int)).toNat ((a_0.length : Int)).toNat)))]) ⟨rfl, rfl, trivial⟩ ?_
  refine Tr.seq ?_
  refine Tr.seq ?_
  refine Tr.region ?_
  refine RegL.pure (p := (pEq (.int .i64 (0 : Int)))) rfl rfl rfl (J_assign rfl Opd.con) ?_
  refine RegL.nil ?_
  refine Ct.then_tr ?_
  refine Tr.weak (Γ' := [(0, (pSl 1 (cK .i64) a_0)), (3, (pEq (.slice o3 ((a_0.length : Int)).toNat ((a_0.length : Int)).toNat))), (4, (pEq (.int .i64 (0 : Int))))]) ⟨rfl, rfl, rfl, trivial⟩ ?_
  replace h := bind_some h; obtain ⟨x4, hx4, h⟩ := h
  refine Tr.cut (γ := G3) (Γm := fun g => [(3, (pEq (.slice g.1 g.2.1 g.2.2)))]) (Ωm := fun g => [oSl 2 1 (cK .i64) g.1 g.2.1 g.2.2 x4]) ?_ (fun g11 => ?_)
  · clear h
    have h := hx4
    clear hx4
    refine Tr.block ?_
    refine Tr.weak (Γ' := [(0, (pSl 1 (cK .i64) a_0)), (3, (pEq (.slice o3 ((a_0.length : Int)).toNat ((a_0.length : Int)).toNat))), (4, (pEq (.int .i64 (0 : Int))))]) ⟨rfl, rfl, rfl, trivial⟩ ?_
    refine Tr.loop (γ := G3) (σ := (Int × (List Int))) (Γσ := fun s g => [(0, (pSl 1 (cK .i64) a_0)), (3, (pEq (.slice g.1 g.2.1 g.2.2))), (4, (pEq (.int .i64 s.1)))]) (Ωσ := fun s g => [oSl 2 1 (cK .i64) g.1 g.2.1 g.2.2 s.2]) (g := (o3, ((a_0.length : Int)).toNat, ((a_0.length : Int)).toNat)) h ?_
    clear h
    rintro ⟨v6, v7⟩ g8 t h
    replace h : m_laws_toInt64S_B5 a_0 v6 v7 = some t := h
    unfold m_laws_toInt64S_B5 at h
    refine Tr.weakO (Γ' := [(0, (pSl 1 (cK .i64) a_0)), (3, (pEq (.slice g8.1 g8.2.1 g8.2.2))), (4, (pEq (.int .i64 v6)))]) (Ω' := [oSl 2 1 (cK .i64) g8.1 g8.2.1 g8.2.2 v7]) rfl ⟨rfl, rfl, rfl, trivial⟩ ?_
    refine Tr.seq ?_
    refine Tr.seq ?_
    refine Tr.region ?_
    refine RegL.pure (p := (pEq (.int .i64 v6))) rfl rfl rfl (J_move rfl (Opd.tmp rfl)) ?_
    refine RegL.pure (p := (pSl 1 (cK .i64) a_0)) rfl rfl rfl (J_move rfl (Opd.tmp rfl)) ?_
    refine RegL.pure (p := (pEq (.int .i64 (a_0.length : Int)))) rfl rfl rfl (J_len rfl Try.underlying22 (Opd.tmp rfl) rfl) ?_
    refine RegL.pure (p := (pEq (.bool (decide (v6 < (a_0.length : Int)))))) rfl rfl rfl (J_bin rfl (Opd.tmp rfl) (Opd.tmp rfl) B_lss) ?_
    refine RegL.nil ?_
    refine Ct.then_tr ?_
    refine Tr.weak (Γ' := [(0, (pSl 1 (cK .i64) a_0)), (3, (pEq (.slice g8.1 g8.2.1 g8.2.2))), (4, (pEq (.int .i64 v6))), (11, (pEq (.bool (decide (v6 < (a_0.length : Int))))))]) ⟨rfl, rfl, rfl, rfl, trivial⟩ ?_
    refine Tr.cond (Opd.tmp rfl) (fun hc => ?_) (fun hc => ?_)
    · replace h := bif_t hc h
      refine Tr.skip ?_
      refine Ct.then_tr ?_
      refine Tr.weak (Γ' := [(0, (pSl 1 (cK .i64) a_0)), (3, (pEq (.slice g8.1 g8.2.1 g8.2.2))), (4, (pEq (.int .i64 v6)))]) ⟨rfl, rfl, rfl, trivial⟩ ?_
      refine Tr.seq ?_
      refine Tr.block ?_
      refine Tr.region ?_
      refine RegL.pure (p := (pEq (.slice g8.1 g8.2.1 g8.2.2))) rfl rfl rfl (J_move rfl (Opd.tmp rfl)) ?_
      refine RegL.pure (p := (pEq (.int .i64 v6))) rfl rfl rfl (J_move rfl (Opd.tmp rfl)) ?_
      refine RegL.pure (p := (pSl 1 (cK .i64) a_0)) rfl rfl rfl (J_move rfl (Opd.tmp rfl)) ?_
      refine RegL.pure (p := (pEq (.int .i64 v6))) rfl rfl rfl (J_move rfl (Opd.tmp rfl)) ?_
      replace h := bind_some h; obtain ⟨x9, hx9, h⟩ := h
      refine RegL.pure (p := (pPtr ((cK .i64) x9))) rfl rfl rfl (J_idx rfl Try.underlying22 sz2 (Opd.tmp rfl) (Opd.tmp rfl) hx9) ?_
      refine RegL.pure (p := (pEq (.int .i64 x9))) rfl rfl rfl (J_load rfl Try.isAgg2 (Opd.tmp rfl)) ?_
      replace h := bind_some h; obtain ⟨u10, hu10, h⟩ := h
      refine RegL.pureW (p := (pEq (.pointer (some ⟨blk g8.1, (v6).toNat * 1, none⟩)))) rfl rfl rfl (W_rowIdx (j := 0) rfl Try.underlying22 sz2 (Opd.tmp rfl) (Opd.tmp rfl) rfl (inB_some hu10)) ?_
      refine RegL.stepN (γ := Unit) (p := fun _ => pAny) (Ω' := fun _ => [oSl 2 1 (cK .i64) g8.1 g8.2.1 g8.2.2 (v7.set (v6).toNat x9)]) rfl rfl (M_rowStore rfl sz2 (fun _ => rfl) (Opd.tmp rfl) (Opd.tmp rfl) rfl OneC.int (setL_of (inB_some hu10))) fun _ => ?_
      refine RegL.nil ?_
      refine Ct.blk_normal ?_
      refine Ct.then_tr ?_
      refine Tr.weak (Γ' := [(0, (pSl 1 (cK .i64) a_0)), (3, (pEq (.slice g8.1 g8.2.1 g8.2.2))), (4, (pEq (.int .i64 v6)))]) ⟨rfl, rfl, rfl, trivial⟩ ?_
      refine Tr.region ?_
      refine RegL.pure (p := (pEq (.int .i64 v6))) rfl rfl rfl (J_move rfl (Opd.tmp rfl)) ?_
      refine RegL.pure (p := (pEq (.int .i64 (w64 (v6 + (1 : Int)))))) rfl rfl rfl (J_bin rfl (Opd.tmp rfl) Opd.con B_add) ?_
      refine RegL.pure (p := (pEq (.int .i64 (w64 (v6 + (1 : Int)))))) rfl rfl rfl (J_assign rfl (Opd.tmp rfl)) ?_
      refine RegL.nil ?_
      replace h := Option.some.inj h; subst h
      exact Ct.again (g8.1, g8.2.1, g8.2.2) rfl ⟨rfl, rfl, rfl, trivial⟩
    · replace h := bif_f hc h
      refine Tr.exit ?_
      refine Ct.then_exit ?_
      replace h := map_some h; obtain ⟨r1, h, rfl⟩ := h
      refine Ct.out_exit fun e => ?_
      subst e
      refine Ct.blk_exit ?_
      replace h := Option.some.inj h; subst h
      exact Ct.mid (g8.1, g8.2.1, g8.2.2) rfl ⟨rfl, trivial⟩
  · clear hx4
    refine Ct.then_tr ?_
    refine Tr.weak (Γ' := [(3, (pEq (.slice g11.1 g11.2.1 g11.2.2)))]) ⟨rfl, trivial⟩ ?_
    refine Tr.seq ?_
    refine Tr.region ?_
    refine RegL.pure (p := (pEq (.slice g11.1 g11.2.1 g11.2.2))) rfl rfl rfl (J_move rfl (Opd.tmp rfl)) ?_
    refine RegL.pure (p := (pEq (.slice g11.1 g11.2.1 g11.2.2))) rfl rfl rfl (J_assign rfl (Opd.tmp rfl)) ?_
    refine RegL.nil ?_
    refine Ct.then_tr ?_
    refine Tr.weak (Γ' := [(2, (pEq (.slice g11.1 g11.2.1 g11.2.2)))]) ⟨rfl, trivial⟩ ?_
    refine Tr.ret ?_
    replace h := Option.some.inj h; subst h
    exact Ct.retO1 (val := vRow) (Ωr := fun g : G3 => [oSl 2 1 (cK .i64) g.1 g.2.1 g.2.2 x4]) (g11.1, g11.2.1, g11.2.2) rfl rfl

theorem c_laws_toInt64S {a_0 : (List Int)} {r : (List Int)} (h : m_laws_toInt64S a_0 = some r) : CallJ Try.prog 16 [(pSl 1 (cK .i64) a_0)] (pSl 1 (cK .i64) r) :=
  CallO.frozen (fun _ => rfl) (o_laws_toInt64S h)

theorem o_laws_toInt64SS {a_0 : (List (List Int))} {r : (List (List Int))} (h : m_laws_toInt64SS a_0 = some r) : CallO Try.prog 30 [(pSl 1 (cSl 1 (cK .i64)) a_0)] vRow (fun g : G3 => [oSl 22 1 (cSl 1 (cK .i64)) g.1 g.2.1 g.2.2 r]) := by
  unfold m_laws_toInt64SS at h
  refine CallO.enter Try.func30 rfl Try.ntmps30 rfl fun W I0 => ?_
  refine Tr.weak (Γ' := [(0, (pSl 1 (cSl 1 (cK .i64)) a_0))]) ⟨rfl, trivial⟩ ?_
  refine Tr.seq ?_
  refine Tr.region ?_
  refine RegL.pure (p := (pEq (.slice none 0 0))) rfl rfl rfl (J_assign rfl Opd.con) ?_
  refine RegL.nil ?_
  refine Ct.then_tr ?_
  refine Tr.weak (Γ' := [(0, (pSl 1 (cSl 1 (cK .i64)) a_0))]) ⟨rfl, trivial⟩ ?_
  refine Tr.seq ?_
  refine Tr.region ?_
  refine RegL.pure (p := (pSl 1 (cSl 1 (cK .i64)) a_0)) rfl rfl rfl (J_move rfl (Opd.tmp rfl)) ?_
  refine RegL.pure (p := (pEq (.int .i64 (a_0.length : Int)))) rfl rfl rfl (J_len rfl Try.underlying27 (Opd.tmp rfl) rfl) ?_
  replace h := bind_some h; obtain ⟨x1, hx1, h⟩ := h
  refine RegL.step (γ := Option Addr) (p := fun a => pEq (.slice a ((a_0.length : Int)).toNat ((a_0.length : Int)).toNat)) (Ω' := fun a => oSl 22 1 (cSl 1 (cK .i64)) a ((a_0.length : Int)).toNat ((a_0.length : Int)).toNat x1 :: []) rfl rfl rfl (M_make rfl Try.underlying27 el22 (by decide) (Opd.tmp rfl) hx1) fun o3 => ?_
  refine RegL.pure (p := (pEq (.slice o3 ((a_0.length : Int)).toNat ((a_0.length : Int)).toNat))) rfl rfl rfl (J_assign rfl (Opd.tmp rfl)) ?_
  refine RegL.nil ?_
  refine Ct.then_tr ?_
  refine Tr.weak (Γ' := [(0, (pSl 1 (cSl 1 (cK .i64)) a_0)), (3, (pEq (.slice o3 ((a_0.length : Int)).toNat ((a_0.length : Int)).toNat)))]) ⟨rfl, rfl, trivial⟩ ?_
  refine Tr.seq ?_
  refine Tr.seq ?_
  refine Tr.region ?_
  refine RegL.pure (p := (pEq (.int .i64 (0 : Int)))) rfl rfl rfl (J_assign rfl Opd.con) ?_
  refine RegL.nil ?_
  refine Ct.then_tr ?_
  refine Tr.weak (Γ' := [(0, (pSl 1 (cSl 1 (cK .i64)) a_0)), (3, (pEq (.slice o3 ((a_0.length : Int)).toNat ((a_0.length : Int)).toNat))), (4, (pEq (.int .i64 (0 : Int))))]) ⟨rfl, rfl, rfl, trivial⟩ ?_
  replace h := bind_some h; obtain ⟨x4, hx4, h⟩ := h
  refine Tr.cut (γ := G3) (Γm := fun g => [(3, (pEq (.slice g.1 g.2.1 g.2.2)))]) (Ωm := fun g => [oSl 22 1 (cSl 1 (cK .i64)) g.1 g.2.1 g.2.2 x4]) ?_ (fun g12 => ?_)
  · clear h
    have h := hx4
    clear hx4
    refine Tr.block ?_
    refine Tr.weak (Γ' := [(0, (pSl 1 (cSl 1 (cK .i64)) a_0)), (3, (pEq (.slice o3 ((a_0.length : Int)).toNat ((a_0.length : Int)).toNat))), (4, (pEq (.int .i64 (0 : Int))))]) ⟨rfl, rfl, rfl, trivial⟩ ?_
    refine Tr.loop (γ := G3) (σ := (Int × (List (List Int)))) (Γσ := fun s g => [(0, (pSl 1 (cSl 1 (cK .i64)) a_0)), (3, (pEq (.slice g.1 g.2.1 g.2.2))), (4, (pEq (.int .i64 s.1)))]) (Ωσ := fun s g => [oSl 22 1 (cSl 1 (cK .i64)) g.1 g.2.1 g.2.2 s.2]) (g := (o3, ((a_0.length : Int)).toNat, ((a_0.length : Int)).toNat)) h ?_
    clear h
    rintro ⟨v6, v7⟩ g8 t h
    replace h : m_laws_toInt64SS_B5 a_0 v6 v7 = some t := h
    unfold m_laws_toInt64SS_B5 at h
    refine Tr.weakO (Γ' := [(0, (pSl 1 (cSl 1 (cK .i64)) a_0)), (3, (pEq (.slice g8.1 g8.2.1 g8.2.2))), (4, (pEq (.int .i64 v6)))]) (Ω' := [oSl 22 1 (cSl 1 (cK .i64)) g8.1 g8.2.1 g8.2.2 v7]) rfl ⟨rfl, rfl, rfl, trivial⟩ ?_
    refine Tr.seq ?_
    refine Tr.seq ?_
    refine Tr.region ?_
    refine RegL.pure (p := (pEq (.int .i64 v6))) rfl rfl rfl (J_move rfl (Opd.tmp rfl)) ?_
    refine RegL.pure (p := (pSl 1 (cSl 1 (cK .i64)) a_0)) rfl rfl rfl (J_move rfl (Opd.tmp rfl)) ?_
    refine RegL.pure (p := (pEq (.int .i64 (a_0.length : Int)))) rfl rfl rfl (J_len rfl Try.underlying27 (Opd.tmp rfl) rfl) ?_
    refine RegL.pure (p := (pEq (.bool (decide (v6 < (a_0.length : Int)))))) rfl rfl rfl (J_bin rfl (Opd.tmp rfl) (Opd.tmp rfl) B_lss) ?_
    refine RegL.nil ?_
    refine Ct.then_tr ?_
    refine Tr.weak (Γ' := [(0, (pSl 1 (cSl 1 (cK .i64)) a_0)), (3, (pEq (.slice g8.1 g8.2.1 g8.2.2))), (4, (pEq (.int .i64 v6))), (11, (pEq (.bool (decide (v6 < (a_0.length : Int))))))]) ⟨rfl, rfl, rfl, rfl, trivial⟩ ?_
    refine Tr.cond (Opd.tmp rfl) (fun hc => ?_) (fun hc => ?_)
    · replace h := bif_t hc h
      refine Tr.skip ?_
      refine Ct.then_tr ?_
      refine Tr.weak (Γ' := [(0, (pSl 1 (cSl 1 (cK .i64)) a_0)), (3, (pEq (.slice g8.1 g8.2.1 g8.2.2))), (4, (pEq (.int .i64 v6)))]) ⟨rfl, rfl, rfl, trivial⟩ ?_
      refine Tr.seq ?_
      refine Tr.block ?_
      refine Tr.region ?_
      refine RegL.pure (p := (pEq (.slice g8.1 g8.2.1 g8.2.2))) rfl rfl rfl (J_move rfl (Opd.tmp rfl)) ?_
      refine RegL.pure (p := (pEq (.int .i64 v6))) rfl rfl rfl (J_move rfl (Opd.tmp rfl)) ?_
      refine RegL.pure (p := (pSl 1 (cSl 1 (cK .i64)) a_0)) rfl rfl rfl (J_move rfl (Opd.tmp rfl)) ?_
      refine RegL.pure (p := (pEq (.int .i64 v6))) rfl rfl rfl (J_move rfl (Opd.tmp rfl)) ?_
      replace h := bind_some h; obtain ⟨x9, hx9, h⟩ := h
      refine RegL.pure (p := (pPtr ((cSl 1 (cK .i64)) x9))) rfl rfl rfl (J_idx rfl Try.underlying27 sz22 (Opd.tmp rfl) (Opd.tmp rfl) hx9) ?_
      refine RegL.pure (p := (pSl 1 (cK .i64) x9)) rfl rfl rfl (J_load rfl Try.isAgg22 (Opd.tmp rfl)) ?_
      replace h := bind_some h; obtain ⟨x10, hx10, h⟩ := h
      refine RegL.pure (p := (pSl 1 (cK .i64) x10)) rfl rfl rfl (J_call rfl Try.call16 (c_laws_toInt64S hx10) (Opds.cons (Opd.tmp rfl) Opds.nil)) ?_
      replace h := bind_some h; obtain ⟨u11, hu11, h⟩ := h
      refine RegL.pureW (p := (pEq (.pointer (some ⟨blk g8.1, (v6).toNat * 1, none⟩)))) rfl rfl rfl (W_rowIdx (j := 0) rfl Try.underlying27 sz22 (Opd.tmp rfl) (Opd.tmp rfl) rfl (inB_some hu11)) ?_
      refine RegL.stepN (γ := Unit) (p := fun _ => pAny) (Ω' := fun _ => [oSl 22 1 (cSl 1 (cK .i64)) g8.1 g8.2.1 g8.2.2 (v7.set (v6).toNat x10)]) rfl rfl (M_rowStore rfl sz22 (fun _ => rfl) (Opd.tmp rfl) (Opd.tmp rfl) rfl OneC.sl (setL_of (inB_some hu11))) fun _ => ?_
      refine RegL.nil ?_
      refine Ct.blk_normal ?_
      refine Ct.then_tr ?_
      refine Tr.weak (Γ' := [(0, (pSl 1 (cSl 1 (cK .i64)) a_0)), (3, (pEq (.slice g8.1 g8.2.1 g8.2.2))), (4, (pEq (.int .i64 v6)))]) ⟨rfl, rfl, rfl, trivial⟩ ?_
      refine Tr.region ?_
      refine RegL.pure (p := (pEq (.int .i64 v6))) rfl rfl rfl (J_move rfl (Opd.tmp rfl)) ?_
      refine RegL.pure (p := (pEq (.int .i64 (w64 (v6 + (1 : Int)))))) rfl rfl rfl (J_bin rfl (Opd.tmp rfl) Opd.con B_add) ?_
      refine RegL.pure (p := (pEq (.int .i64 (w64 (v6 + (1 : Int)))))) rfl rfl rfl (J_assign rfl (Opd.tmp rfl)) ?_
      refine RegL.nil ?_
      replace h := Option.some.inj h; subst h
      exact Ct.again (g8.1, g8.2.1, g8.2.2) rfl ⟨rfl, rfl, rfl, trivial⟩
    · replace h := bif_f hc h
      refine Tr.exit ?_
      refine Ct.then_exit ?_
      replace h := map_some h; obtain ⟨r1, h, rfl⟩ := h
      refine Ct.out_exit fun e => ?_
      subst e
      refine Ct.blk_exit ?_
      replace h := Option.some.inj h; subst h
      exact Ct.mid (g8.1, g8.2.1, g8.2.2) rfl ⟨rfl, trivial⟩
  · clear hx4
    refine Ct.then_tr ?_
    refine Tr.weak (Γ' := [(3, (pEq (.slice g12.1 g12.2.1 g12.2.2)))]) ⟨rfl, trivial⟩ ?_
    refine Tr.seq ?_
    refine Tr.region ?_
    refine RegL.pure (p := (pEq (.slice g12.1 g12.2.1 g12.2.2))) rfl rfl rfl (J_move rfl (Opd.tmp rfl)) ?_
    refine RegL.pure (p := (pEq (.slice g12.1 g12.2.1 g12.2.2))) rfl rfl rfl (J_assign rfl (Opd.tmp rfl)) ?_
    refine RegL.nil ?_
    refine Ct.then_tr ?_
    refine Tr.weak (Γ' := [(2, (pEq (.slice g12.1 g12.2.1 g12.2.2)))]) ⟨rfl, trivial⟩ ?_
    refine Tr.ret ?_
    replace h := Option.some.inj h; subst h
    exact Ct.retO1 (val := vRow) (Ωr := fun g : G3 => [oSl 22 1 (cSl 1 (cK .i64)) g.1 g.2.1 g.2.2 x4]) (g12.1, g12.2.1, g12.2.2) rfl rfl

theorem c_laws_toInt64SS {a_0 : (List (List Int))} {r : (List (List Int))} (h : m_laws_toInt64SS a_0 = some r) : CallJ Try.prog 30 [(pSl 1 (cSl 1 (cK .i64)) a_0)] (pSl 1 (cSl 1 (cK .i64)) r) :=
  CallO.frozen (fun _ => rfl) (o_laws_toInt64SS h)

theorem c_laws_toProblem {a_0 : GProblem} {r : GProblem} (h : m_laws_toProblem a_0 = some r) : CallJ Try.prog 21 [(pAgg (cGProblem a_0))] (pAgg (cGProblem r)) := by
  unfold m_laws_toProblem at h
  refine CallJ.enter Try.func21 rfl Try.ntmps21 rfl fun W I0 => ?_
  refine Tr.weak (Γ' := [(0, (pAgg (cGProblem a_0)))]) ⟨rfl, trivial⟩ ?_
  refine Tr.seq ?_
  refine Tr.region ?_
  refine RegL.pure (p := (pPtr (cGProblem a_0))) rfl rfl rfl (J_boxA rfl (Opd.tmp rfl)) ?_
  refine RegL.step (γ := Nat) (p := fun b => pEq (.pointer (some ⟨b, 0, none⟩))) (Ω' := fun b => [oBlk b [(pSl 1 (cSl 1 (cK .i64)) ([] : (List (List Int)))), (pSl 1 (cSl 1 (cK .i64)) ([] : (List (List Int))))]]) rfl rfl rfl (M_alloc rfl zero32) fun b1 => ?_
  refine RegL.nil ?_
  refine Ct.then_tr ?_
  refine Tr.weak (Γ' := [(1, (pPtr (cGProblem a_0))), (2, (pEq (.pointer (some ⟨b1, 0, none⟩))))]) ⟨rfl, rfl, trivial⟩ ?_
  refine Tr.seq ?_
  refine Tr.region ?_
  refine RegL.step (γ := Nat) (p := fun b => pEq (.pointer (some ⟨b, 0, none⟩))) (Ω' := fun b => [oBlk b [(pSl 1 (cSl 1 (cK .i64)) ([] : (List (List Int)))), (pSl 1 (cSl 1 (cK .i64)) ([] : (List (List Int))))], oBlk b1 [(pSl 1 (cSl 1 (cK .i64)) ([] : (List (List Int)))), (pSl 1 (cSl 1 (cK .i64)) ([] : (List (List Int))))]]) rfl rfl rfl (M_alloc rfl zero32) fun b2 => ?_
  refine RegL.nil ?_
  refine Ct.then_tr ?_
  refine Tr.weak (Γ' := [(1, (pPtr (cGProblem a_0))), (2, (pEq (.pointer (some ⟨b1, 0, none⟩)))), (3, (pEq (.pointer (some ⟨b2, 0, none⟩))))]) ⟨rfl, rfl, rfl, trivial⟩ ?_
  refine Tr.seq ?_
  refine Tr.region ?_
  refine RegL.pure (p := (pPtr ((cSl 1 (cSl 1 (cK .i64))) a_0.Domains))) rfl rfl rfl (J_fieldAddr rfl Try.underlying29 rfl sz27 (by decide) (Opd.tmp rfl) rfl) ?_
  refine RegL.pure (p := (pSl 1 (cSl 1 (cK .i64)) a_0.Domains)) rfl rfl rfl (J_load rfl Try.isAgg27 (Opd.tmp rfl)) ?_
  replace h := bind_some h; obtain ⟨x3, hx3, h⟩ := h
  refine RegL.pure (p := (pSl 1 (cSl 1 (cK .i64)) x3)) rfl rfl rfl (J_call rfl Try.call30 (c_laws_toInt64SS hx3) (Opds.cons (Opd.tmp rfl) Opds.nil)) ?_
  refine RegL.pure (p := (pEq (.pointer (some ⟨b2, 0, none⟩)))) rfl rfl rfl (J_fieldAddrE rfl Try.underlying32 rfl sz27 (by decide) (Opd.tmp rfl) rfl) ?_
  refine RegL.stepN (γ := Unit) (p := fun _ => pAny) (Ω' := fun _ => [oBlk b2 [(pSl 1 (cSl 1 (cK .i64)) x3), (pSl 1 (cSl 1 (cK .i64)) ([] : (List (List Int))))], oBlk b1 [(pSl 1 (cSl 1 (cK .i64)) ([] : (List (List Int)))), (pSl 1 (cSl 1 (cK .i64)) ([] : (List (List Int))))]]) rfl rfl (M_store rfl sz27 (Opd.tmp rfl) (Opd.tmp rfl) OneC.sl rfl rfl) fun _ => ?_
  refine RegL.nil ?_
  refine Ct.then_tr ?_
  refine Tr.weak (Γ' := [(1, (pPtr (cGProblem a_0))), (2, (pEq (.pointer (some ⟨b1, 0, none⟩)))), (3, (pEq (.pointer (some ⟨b2, 0, none⟩))))]) ⟨rfl, rfl, rfl, trivial⟩ ?_
  refine Tr.seq ?_
  refine Tr.region ?_
  refine RegL.pure (p := (pPtr ((cSl 1 (cSl 1 (cK .i64))) a_0.Apart))) rfl rfl rfl (J_fieldAddr rfl Try.underlying29 rfl sz27 (by decide) (Opd.tmp rfl) rfl) ?_
  refine RegL.pure (p := (pSl 1 (cSl 1 (cK .i64)) a_0.Apart)) rfl rfl rfl (J_load rfl Try.isAgg27 (Opd.tmp rfl)) ?_
  replace h := bind_some h; obtain ⟨x4, hx4, h⟩ := h
  refine RegL.pure (p := (pSl 1 (cSl 1 (cK .i64)) x4)) rfl rfl rfl (J_call rfl Try.call30 (c_laws_toInt64SS hx4) (Opds.cons (Opd.tmp rfl) Opds.nil)) ?_
  refine RegL.pure (p := (pEq (.pointer (some ⟨b2, 1, none⟩)))) rfl rfl rfl (J_fieldAddrE rfl Try.underlying32 rfl sz27 (by decide) (Opd.tmp rfl) rfl) ?_
  refine RegL.stepN (γ := Unit) (p := fun _ => pAny) (Ω' := fun _ => [oBlk b2 [(pSl 1 (cSl 1 (cK .i64)) x3), (pSl 1 (cSl 1 (cK .i64)) x4)], oBlk b1 [(pSl 1 (cSl 1 (cK .i64)) ([] : (List (List Int)))), (pSl 1 (cSl 1 (cK .i64)) ([] : (List (List Int))))]]) rfl rfl (M_store rfl sz27 (Opd.tmp rfl) (Opd.tmp rfl) OneC.sl rfl rfl) fun _ => ?_
  refine RegL.nil ?_
  refine Ct.then_tr ?_
  refine Tr.weak (Γ' := [(2, (pEq (.pointer (some ⟨b1, 0, none⟩)))), (3, (pEq (.pointer (some ⟨b2, 0, none⟩))))]) ⟨rfl, rfl, trivial⟩ ?_
  refine Tr.seq ?_
  refine Tr.region ?_
  refine RegL.pureW (p := (pAgg (cGProblem (GProblem.mk x3 x4)))) rfl rfl rfl (W_loadA (i := 0) rfl Try.isAgg32 sz32 (Opd.tmp rfl) rfl rfl) ?_
  refine RegL.perm perm1 ?_
  refine RegL.stepN (γ := Unit) (p := fun _ => pAny) (Ω' := fun _ => [oBlk b1 [(pSl 1 (cSl 1 (cK .i64)) (GProblem.mk x3 x4).Domains), (pSl 1 (cSl 1 (cK .i64)) (GProblem.mk x3 x4).Apart)], oBlk b2 [(pSl 1 (cSl 1 (cK .i64)) x3), (pSl 1 (cSl 1 (cK .i64)) x4)]]) rfl rfl (M_storeA rfl sz32 (Opd.tmp rfl) (Opd.tmp rfl) (fun _ _ _ h => ones_of ((OneCs.cons OneC.sl (OneCs.cons OneC.sl OneCs.nil))) h) rfl rfl) fun _ => ?_
  refine RegL.nil ?_
  refine Ct.then_tr ?_
  refine Tr.weak (Γ' := [(2, (pEq (.pointer (some ⟨b1, 0, none⟩))))]) ⟨rfl, trivial⟩ ?_
  refine Tr.ret ?_
  replace h := Option.some.inj h; subst h
  refine Ct.perm perm1 ?_
  refine Ct.drop ?_
  exact Ct.retA rfl Try.isAgg32 sz32 rfl rfl

theorem c_spec_l00Same {a_0 : (List Int)} {b_1 : (List Int)} {r : Bool} (h : m_spec_l00Same a_0 b_1 = some r) : CallJ Try.prog 93 [(pSl 1 (cK .i64) a_0), (pSl 1 (cK .i64) b_1)] (pEq (.bool r)) := by
  unfold m_spec_l00Same at h
  refine CallJ.enter Try.func93 rfl Try.ntmps93 rfl fun W I0 => ?_
  refine Tr.weak (Γ' := [(0, (pSl 1 (cK .i64) a_0)), (1, (pSl 1 (cK .i64) b_1))]) ⟨rfl, rfl, trivial⟩ ?_
  refine Tr.seq ?_
  refine Tr.region ?_
  refine RegL.pure (p := (pEq (.bool false))) rfl rfl rfl (J_assign rfl Opd.con) ?_
  refine RegL.nil ?_
  refine Ct.then_tr ?_
  refine Tr.weak (Γ' := [(0, (pSl 1 (cK .i64) a_0)), (1, (pSl 1 (cK .i64) b_1))]) ⟨rfl, rfl, trivial⟩ ?_
  refine Tr.seq ?_
  refine Tr.seq ?_
  refine Tr.region ?_
  refine RegL.pure (p := (pSl 1 (cK .i64) a_0)) rfl rfl rfl (J_move rfl (Opd.tmp rfl)) ?_
  refine RegL.pure (p := (pEq (.int .i64 (a_0.length : Int)))) rfl rfl rfl (J_len rfl Try.underlying22 (Opd.tmp rfl) rfl) ?_
  refine RegL.pure (p := (pSl 1 (cK .i64) b_1)) rfl rfl rfl (J_move rfl (Opd.tmp rfl)) ?_
  refine RegL.pure (p := (pEq (.int .i64 (b_1.length : Int)))) rfl rfl rfl (J_len rfl Try.underlying22 (Opd.tmp rfl) rfl) ?_
  refine RegL.pure (p := (pEq (.bool ((a_0.length : Int) != (b_1.length : Int))))) rfl rfl rfl (J_bin rfl (Opd.tmp rfl) (Opd.tmp rfl) B_neq) ?_
  refine RegL.nil ?_
  refine Ct.then_tr ?_
  refine Tr.weak (Γ' := [(0, (pSl 1 (cK .i64) a_0)), (1, (pSl 1 (cK .i64) b_1)), (10, (pEq (.bool ((a_0.length : Int) != (b_1.length : Int)))))]) ⟨rfl, rfl, rfl, trivial⟩ ?_
  refine Tr.cond (Opd.tmp rfl) (fun hc => ?_) (fun hc => ?_)
  · replace h := bif_t hc h
    refine Tr.seq ?_
    refine Tr.region ?_
    refine RegL.pure (p := (pEq (.bool false))) rfl rfl rfl (J_assign rfl Opd.con) ?_
    refine RegL.nil ?_
    refine Ct.then_tr ?_
    refine Tr.weak (Γ' := [(4, (pEq (.bool false)))]) ⟨rfl, trivial⟩ ?_
    refine Tr.ret ?_
    refine Ct.then_ret ?_
    replace h := Option.some.inj h; subst h
    exact Ct.ret1 rfl rfl
  · replace h := bif_f hc h
    refine Tr.skip ?_
    refine Ct.then_tr ?_
    refine Tr.weak (Γ' := [(0, (pSl 1 (cK .i64) a_0)), (1, (pSl 1 (cK .i64) b_1))]) ⟨rfl, rfl, trivial⟩ ?_
    refine Tr.seq ?_
    refine Tr.seq ?_
    refine Tr.region ?_
    refine RegL.pure (p := (pEq (.int .i64 (0 : Int)))) rfl rfl rfl (J_assign rfl Opd.con) ?_
    refine RegL.nil ?_
    refine Ct.then_tr ?_
    refine Tr.weak (Γ' := [(0, (pSl 1 (cK .i64) a_0)), (1, (pSl 1 (cK .i64) b_1)), (5, (pEq (.int .i64 (0 : Int))))]) ⟨rfl, rfl, rfl, trivial⟩ ?_
    refine Tr.block ?_
    refine Tr.weak (Γ' := [(0, (pSl 1 (cK .i64) a_0)), (1, (pSl 1 (cK .i64) b_1)), (5, (pEq (.int .i64 (0 : Int))))]) ⟨rfl, rfl, rfl, trivial⟩ ?_
    refine Tr.loop (γ := Unit) (σ := Int) (Γσ := fun s g => [(0, (pSl 1 (cK .i64) a_0)), (1, (pSl 1 (cK .i64) b_1)), (5, (pEq (.int .i64 s)))]) (Ωσ := fun s g => []) (g := ()) h ?_
    clear h
    rintro v2 g3 t h
    replace h : m_spec_l00Same_B1 a_0 b_1 v2 = some t := h
    unfold m_spec_l00Same_B1 at h
    refine Tr.weakO (Γ' := [(0, (pSl 1 (cK .i64) a_0)), (1, (pSl 1 (cK .i64) b_1)), (5, (pEq (.int .i64 v2)))]) (Ω' := []) rfl ⟨rfl, rfl, rfl, trivial⟩ ?_
    refine Tr.seq ?_
    refine Tr.seq ?_
    refine Tr.region ?_
    refine RegL.pure (p := (pEq (.int .i64 v2))) rfl rfl rfl (J_move rfl (Opd.tmp rfl)) ?_
    refine RegL.pure (p := (pSl 1 (cK .i64) a_0)) rfl rfl rfl (J_move rfl (Opd.tmp rfl)) ?_
    refine RegL.pure (p := (pEq (.int .i64 (a_0.length : Int)))) rfl rfl rfl (J_len rfl Try.underlying22 (Opd.tmp rfl) rfl) ?_
    refine RegL.pure (p := (pEq (.bool (decide (v2 < (a_0.length : Int)))))) rfl rfl rfl (J_bin rfl (Opd.tmp rfl) (Opd.tmp rfl) B_lss) ?_
    refine RegL.nil ?_
    refine Ct.then_tr ?_
    refine Tr.weak (Γ' := [(0, (pSl 1 (cK .i64) a_0)), (1, (pSl 1 (cK .i64) b_1)), (5, (pEq (.int .i64 v2))), (14, (pEq (.bool (decide (v2 < (a_0.length : Int))))))]) ⟨rfl, rfl, rfl, rfl, trivial⟩ ?_
    refine Tr.cond (Opd.tmp rfl) (fun hc => ?_) (fun hc => ?_)
    · replace h := bif_t hc h
      refine Tr.skip ?_
      refine Ct.then_tr ?_
      refine Tr.weak (Γ' := [(0, (pSl 1 (cK .i64) a_0)), (1, (pSl 1 (cK .i64) b_1)), (5, (pEq (.int .i64 v2)))]) ⟨rfl, rfl, rfl, trivial⟩ ?_
      refine Tr.seq ?_
      refine Tr.block ?_
      refine Tr.seq ?_
      replace h := bind_some h; obtain ⟨x4, hx4, h⟩ := h
      replace h := bind_some h; obtain ⟨x5, hx5, h⟩ := h
      refine Tr.draw (n := 26) (es := [Ent.mk [(0, (pSl 1 (cK .i64) a_0))] (pSl 1 (cK .i64) a_0) true, Ent.mk [(5, (pEq (.int .i64 v2)))] (pEq (.int .i64 v2)) true, Ent.mk [(17, (pSl 1 (cK .i64) a_0)), (18, (pEq (.int .i64 v2)))] (pPtr ((cK .i64) x4)) true, Ent.mk [(19, (pPtr ((cK .i64) x4)))] (pEq (.int .i64 x4)) true, Ent.mk [(1, (pSl 1 (cK .i64) b_1))] (pSl 1 (cK .i64) b_1) true, Ent.mk [(5, (pEq (.int .i64 v2)))] (pEq (.int .i64 v2)) true, Ent.mk [(21, (pSl 1 (cK .i64) b_1)), (22, (pEq (.int .i64 v2)))] (pPtr ((cK .i64) x5)) true, Ent.mk [(23, (pPtr ((cK .i64) x5)))] (pEq (.int .i64 x5)) true, Ent.mk [(20, (pEq (.int .i64 x4))), (24, (pEq (.int .i64 x5)))] (pEq (.bool (x4 != x5))) true]) (rd := [[0], [5], [17, 18], [19], [1], [5], [21, 22], [23], [20, 24]]) rfl hmix rfl (by kernel_rfl) ⟨⟨(OpJ.w (J_move rfl (Opd.tmp rfl))), ⟨rfl, trivial⟩, rfl⟩, ⟨(OpJ.w (J_move rfl (Opd.tmp rfl))), ⟨rfl, trivial⟩, rfl⟩, ⟨(OpJ.w (J_idx rfl Try.underlying22 sz2 (Opd.tmp rfl) (Opd.tmp rfl) hx4)), ⟨rfl, rfl, trivial⟩, rfl⟩, ⟨(OpJ.w (J_load rfl Try.isAgg2 (Opd.tmp rfl))), ⟨rfl, trivial⟩, rfl⟩, ⟨(OpJ.w (J_move rfl (Opd.tmp rfl))), ⟨rfl, trivial⟩, rfl⟩, ⟨(OpJ.w (J_move rfl (Opd.tmp rfl))), ⟨rfl, trivial⟩, rfl⟩, ⟨(OpJ.w (J_idx rfl Try.underlying22 sz2 (Opd.tmp rfl) (Opd.tmp rfl) hx5)), ⟨rfl, rfl, trivial⟩, rfl⟩, ⟨(OpJ.w (J_load rfl Try.isAgg2 (Opd.tmp rfl))), ⟨rfl, trivial⟩, rfl⟩, ⟨(OpJ.w (J_bin rfl (Opd.tmp rfl) (Opd.tmp rfl) B_neq)), ⟨rfl, rfl, trivial⟩, rfl⟩, trivial⟩ ?_
      refine Ct.then_tr ?_
      refine Tr.weak (Γ' := [(0, (pSl 1 (cK .i64) a_0)), (1, (pSl 1 (cK .i64) b_1)), (5, (pEq (.int .i64 v2))), (25, (pEq (.bool (x4 != x5))))]) ⟨rfl, rfl, rfl, rfl, trivial⟩ ?_
      refine Tr.cond (Opd.tmp rfl) (fun hc => ?_) (fun hc => ?_)
      · replace h := bif_t hc h
        refine Tr.seq ?_
        refine Tr.region ?_
        refine RegL.pure (p := (pEq (.bool false))) rfl rfl rfl (J_assign rfl Opd.con) ?_
        refine RegL.nil ?_
        refine Ct.then_tr ?_
        refine Tr.weak (Γ' := [(4, (pEq (.bool false)))]) ⟨rfl, trivial⟩ ?_
        refine Tr.ret ?_
        refine Ct.blk_ret ?_
        refine Ct.then_ret ?_
        replace h := map_some h; obtain ⟨r1, h, rfl⟩ := h
        refine Ct.out_ret fun e => ?_
        subst e
        refine Ct.blk_ret ?_
        refine Ct.then_ret ?_
        replace h := Option.some.inj h; subst h
        exact Ct.ret1 rfl rfl
      · replace h := bif_f hc h
        refine Tr.skip ?_
        refine Ct.blk_normal ?_
        refine Ct.then_tr ?_
        refine Tr.weak (Γ' := [(0, (pSl 1 (cK .i64) a_0)), (1, (pSl 1 (cK .i64) b_1)), (5, (pEq (.int .i64 v2)))]) ⟨rfl, rfl, rfl, trivial⟩ ?_
        refine Tr.region ?_
        refine RegL.pure (p := (pEq (.int .i64 v2))) rfl rfl rfl (J_move rfl (Opd.tmp rfl)) ?_
        refine RegL.pure (p := (pEq (.int .i64 (w64 (v2 + (1 : Int)))))) rfl rfl rfl (J_bin rfl (Opd.tmp rfl) Opd.con B_add) ?_
        refine RegL.pure (p := (pEq (.int .i64 (w64 (v2 + (1 : Int)))))) rfl rfl rfl (J_assign rfl (Opd.tmp rfl)) ?_
        refine RegL.nil ?_
        replace h := Option.some.inj h; subst h
        exact Ct.again () rfl ⟨rfl, rfl, rfl, trivial⟩
    · replace h := bif_f hc h
      refine Tr.exit ?_
      refine Ct.then_exit ?_
      replace h := map_some h; obtain ⟨r1, h, rfl⟩ := h
      refine Ct.out_exit fun e => ?_
      subst e
      refine Ct.blk_exit ?_
      refine Ct.then_tr ?_
      refine Tr.weak (Γ' := []) trivial ?_
      refine Tr.seq ?_
      refine Tr.region ?_
      refine RegL.pure (p := (pEq (.bool true))) rfl rfl rfl (J_assign rfl Opd.con) ?_
      refine RegL.nil ?_
      refine Ct.then_tr ?_
      refine Tr.weak (Γ' := [(4, (pEq (.bool true)))]) ⟨rfl, trivial⟩ ?_
      refine Tr.ret ?_
      replace h := Option.some.inj h; subst h
      exact Ct.ret1 rfl rfl

theorem c_spec_l17Lists {a_0 : (List (List Int))} {b_1 : (List (List Int))} {r : Bool} (h : m_spec_l17Lists a_0 b_1 = some r) : CallJ Try.prog 59 [(pSl 1 (cSl 1 (cK .i64)) a_0), (pSl 1 (cSl 1 (cK .i64)) b_1)] (pEq (.bool r)) := by
  unfold m_spec_l17Lists at h
  refine CallJ.enter Try.func59 rfl Try.ntmps59 rfl fun W I0 => ?_
  refine Tr.weak (Γ' := [(0, (pSl 1 (cSl 1 (cK .i64)) a_0)), (1, (pSl 1 (cSl 1 (cK .i64)) b_1))]) ⟨rfl, rfl, trivial⟩ ?_
  refine Tr.seq ?_
  refine Tr.region ?_
  refine RegL.pure (p := (pEq (.bool false))) rfl rfl rfl (J_assign rfl Opd.con) ?_
  refine RegL.nil ?_
  refine Ct.then_tr ?_
  refine Tr.weak (Γ' := [(0, (pSl 1 (cSl 1 (cK .i64)) a_0)), (1, (pSl 1 (cSl 1 (cK .i64)) b_1))]) ⟨rfl, rfl, trivial⟩ ?_
  refine Tr.seq ?_
  refine Tr.seq ?_
  refine Tr.region ?_
  refine RegL.pure (p := (pSl 1 (cSl 1 (cK .i64)) a_0)) rfl rfl rfl (J_move rfl (Opd.tmp rfl)) ?_
  refine RegL.pure (p := (pEq (.int .i64 (a_0.length : Int)))) rfl rfl rfl (J_len rfl Try.underlying27 (Opd.tmp rfl) rfl) ?_
  refine RegL.pure (p := (pSl 1 (cSl 1 (cK .i64)) b_1)) rfl rfl rfl (J_move rfl (Opd.tmp rfl)) ?_
  refine RegL.pure (p := (pEq (.int .i64 (b_1.length : Int)))) rfl rfl rfl (J_len rfl Try.underlying27 (Opd.tmp rfl) rfl) ?_
  refine RegL.pure (p := (pEq (.bool ((a_0.length : Int) != (b_1.length : Int))))) rfl rfl rfl (J_bin rfl (Opd.tmp rfl) (Opd.tmp rfl) B_neq) ?_
  refine RegL.nil ?_
  refine Ct.then_tr ?_
  refine Tr.weak (Γ' := [(0, (pSl 1 (cSl 1 (cK .i64)) a_0)), (1, (pSl 1 (cSl 1 (cK .i64)) b_1)), (10, (pEq (.bool ((a_0.length : Int) != (b_1.length : Int)))))]) ⟨rfl, rfl, rfl, trivial⟩ ?_
  refine Tr.cond (Opd.tmp rfl) (fun hc => ?_) (fun hc => ?_)
  · replace h := bif_t hc h
    refine Tr.seq ?_
    refine Tr.region ?_
    refine RegL.pure (p := (pEq (.bool false))) rfl rfl rfl (J_assign rfl Opd.con) ?_
    refine RegL.nil ?_
    refine Ct.then_tr ?_
    refine Tr.weak (Γ' := [(4, (pEq (.bool false)))]) ⟨rfl, trivial⟩ ?_
    refine Tr.ret ?_
    refine Ct.then_ret ?_
    replace h := Option.some.inj h; subst h
    exact Ct.ret1 rfl rfl
  · replace h := bif_f hc h
    refine Tr.skip ?_
    refine Ct.then_tr ?_
    refine Tr.weak (Γ' := [(0, (pSl 1 (cSl 1 (cK .i64)) a_0)), (1, (pSl 1 (cSl 1 (cK .i64)) b_1))]) ⟨rfl, rfl, trivial⟩ ?_
    refine Tr.seq ?_
    refine Tr.seq ?_
    refine Tr.region ?_
    refine RegL.pure (p := (pEq (.int .i64 (0 : Int)))) rfl rfl rfl (J_assign rfl Opd.con) ?_
    refine RegL.nil ?_
    refine Ct.then_tr ?_
    refine Tr.weak (Γ' := [(0, (pSl 1 (cSl 1 (cK .i64)) a_0)), (1, (pSl 1 (cSl 1 (cK .i64)) b_1)), (5, (pEq (.int .i64 (0 : Int))))]) ⟨rfl, rfl, rfl, trivial⟩ ?_
    refine Tr.block ?_
    refine Tr.weak (Γ' := [(0, (pSl 1 (cSl 1 (cK .i64)) a_0)), (1, (pSl 1 (cSl 1 (cK .i64)) b_1)), (5, (pEq (.int .i64 (0 : Int))))]) ⟨rfl, rfl, rfl, trivial⟩ ?_
    refine Tr.loop (γ := Unit) (σ := Int) (Γσ := fun s g => [(0, (pSl 1 (cSl 1 (cK .i64)) a_0)), (1, (pSl 1 (cSl 1 (cK .i64)) b_1)), (5, (pEq (.int .i64 s)))]) (Ωσ := fun s g => []) (g := ()) h ?_
    clear h
    rintro v2 g3 t h
    replace h : m_spec_l17Lists_B1 a_0 b_1 v2 = some t := h
    unfold m_spec_l17Lists_B1 at h
    refine Tr.weakO (Γ' := [(0, (pSl 1 (cSl 1 (cK .i64)) a_0)), (1, (pSl 1 (cSl 1 (cK .i64)) b_1)), (5, (pEq (.int .i64 v2)))]) (Ω' := []) rfl ⟨rfl, rfl, rfl, trivial⟩ ?_
    refine Tr.seq ?_
    refine Tr.seq ?_
    refine Tr.region ?_
    refine RegL.pure (p := (pEq (.int .i64 v2))) rfl rfl rfl (J_move rfl (Opd.tmp rfl)) ?_
    refine RegL.pure (p := (pSl 1 (cSl 1 (cK .i64)) a_0)) rfl rfl rfl (J_move rfl (Opd.tmp rfl)) ?_
    refine RegL.pure (p := (pEq (.int .i64 (a_0.length : Int)))) rfl rfl rfl (J_len rfl Try.underlying27 (Opd.tmp rfl) rfl) ?_
    refine RegL.pure (p := (pEq (.bool (decide (v2 < (a_0.length : Int)))))) rfl rfl rfl (J_bin rfl (Opd.tmp rfl) (Opd.tmp rfl) B_lss) ?_
    refine RegL.nil ?_
    refine Ct.then_tr ?_
    refine Tr.weak (Γ' := [(0, (pSl 1 (cSl 1 (cK .i64)) a_0)), (1, (pSl 1 (cSl 1 (cK .i64)) b_1)), (5, (pEq (.int .i64 v2))), (14, (pEq (.bool (decide (v2 < (a_0.length : Int))))))]) ⟨rfl, rfl, rfl, rfl, trivial⟩ ?_
    refine Tr.cond (Opd.tmp rfl) (fun hc => ?_) (fun hc => ?_)
    · replace h := bif_t hc h
      refine Tr.skip ?_
      refine Ct.then_tr ?_
      refine Tr.weak (Γ' := [(0, (pSl 1 (cSl 1 (cK .i64)) a_0)), (1, (pSl 1 (cSl 1 (cK .i64)) b_1)), (5, (pEq (.int .i64 v2)))]) ⟨rfl, rfl, rfl, trivial⟩ ?_
      refine Tr.seq ?_
      refine Tr.block ?_
      refine Tr.seq ?_
      replace h := bind_some h; obtain ⟨x4, hx4, h⟩ := h
      replace h := bind_some h; obtain ⟨x5, hx5, h⟩ := h
      replace h := bind_some h; obtain ⟨x6, hx6, h⟩ := h
      refine Tr.draw (n := 27) (es := [Ent.mk [(0, (pSl 1 (cSl 1 (cK .i64)) a_0))] (pSl 1 (cSl 1 (cK .i64)) a_0) true, Ent.mk [(5, (pEq (.int .i64 v2)))] (pEq (.int .i64 v2)) true, Ent.mk [(17, (pSl 1 (cSl 1 (cK .i64)) a_0)), (18, (pEq (.int .i64 v2)))] (pPtr ((cSl 1 (cK .i64)) x4)) true, Ent.mk [(19, (pPtr ((cSl 1 (cK .i64)) x4)))] (pSl 1 (cK .i64) x4) true, Ent.mk [(1, (pSl 1 (cSl 1 (cK .i64)) b_1))] (pSl 1 (cSl 1 (cK .i64)) b_1) true, Ent.mk [(5, (pEq (.int .i64 v2)))] (pEq (.int .i64 v2)) true, Ent.mk [(21, (pSl 1 (cSl 1 (cK .i64)) b_1)), (22, (pEq (.int .i64 v2)))] (pPtr ((cSl 1 (cK .i64)) x5)) true, Ent.mk [(23, (pPtr ((cSl 1 (cK .i64)) x5)))] (pSl 1 (cK .i64) x5) true, Ent.mk [(20, (pSl 1 (cK .i64) x4)), (24, (pSl 1 (cK .i64) x5))] (pEq (.bool x6)) true, Ent.mk [(25, (pEq (.bool x6)))] (pEq (.bool (!x6))) true]) (rd := [[0], [5], [17, 18], [19], [1], [5], [21, 22], [23], [20, 24], [25]]) rfl hmix rfl (by kernel_rfl) ⟨⟨(OpJ.w (J_move rfl (Opd.tmp rfl))), ⟨rfl, trivial⟩, rfl⟩, ⟨(OpJ.w (J_move rfl (Opd.tmp rfl))), ⟨rfl, trivial⟩, rfl⟩, ⟨(OpJ.w (J_idx rfl Try.underlying27 sz22 (Opd.tmp rfl) (Opd.tmp rfl) hx4)), ⟨rfl, rfl, trivial⟩, rfl⟩, ⟨(OpJ.w (J_load rfl Try.isAgg22 (Opd.tmp rfl))), ⟨rfl, trivial⟩, rfl⟩, ⟨(OpJ.w (J_move rfl (Opd.tmp rfl))), ⟨rfl, trivial⟩, rfl⟩, ⟨(OpJ.w (J_move rfl (Opd.tmp rfl))), ⟨rfl, trivial⟩, rfl⟩, ⟨(OpJ.w (J_idx rfl Try.underlying27 sz22 (Opd.tmp rfl) (Opd.tmp rfl) hx5)), ⟨rfl, rfl, trivial⟩, rfl⟩, ⟨(OpJ.w (J_load rfl Try.isAgg22 (Opd.tmp rfl))), ⟨rfl, trivial⟩, rfl⟩, ⟨(OpJ.w (J_call rfl Try.call93 (c_spec_l00Same hx6) (Opds.cons (Opd.tmp rfl) (Opds.cons (Opd.tmp rfl) Opds.nil)))), ⟨rfl, rfl, trivial⟩, rfl⟩, ⟨(OpJ.w (J_not rfl (Opd.tmp rfl))), ⟨rfl, trivial⟩, rfl⟩, trivial⟩ ?_
      refine Ct.then_tr ?_
      refine Tr.weak (Γ' := [(0, (pSl 1 (cSl 1 (cK .i64)) a_0)), (1, (pSl 1 (cSl 1 (cK .i64)) b_1)), (5, (pEq (.int .i64 v2))), (26, (pEq (.bool (!x6))))]) ⟨rfl, rfl, rfl, rfl, trivial⟩ ?_
      refine Tr.cond (Opd.tmp rfl) (fun hc => ?_) (fun hc => ?_)
      · replace h := bif_t hc h
        refine Tr.seq ?_
        refine Tr.region ?_
        refine RegL.pure (p := (pEq (.bool false))) rfl rfl rfl (J_assign rfl Opd.con) ?_
        refine RegL.nil ?_
        refine Ct.then_tr ?_
        refine Tr.weak (Γ' := [(4, (pEq (.bool false)))]) ⟨rfl, trivial⟩ ?_
        refine Tr.ret ?_
        refine Ct.blk_ret ?_
        refine Ct.then_ret ?_
        replace h := map_some h; obtain ⟨r1, h, rfl⟩ := h
        refine Ct.out_ret fun e => ?_
        subst e
        refine Ct.blk_ret ?_
        refine Ct.then_ret ?_
        replace h := Option.some.inj h; subst h
        exact Ct.ret1 rfl rfl
      · replace h := bif_f hc h
        refine Tr.skip ?_
        refine Ct.blk_normal ?_
        refine Ct.then_tr ?_
        refine Tr.weak (Γ' := [(0, (pSl 1 (cSl 1 (cK .i64)) a_0)), (1, (pSl 1 (cSl 1 (cK .i64)) b_1)), (5, (pEq (.int .i64 v2)))]) ⟨rfl, rfl, rfl, trivial⟩ ?_
        refine Tr.region ?_
        refine RegL.pure (p := (pEq (.int .i64 v2))) rfl rfl rfl (J_move rfl (Opd.tmp rfl)) ?_
        refine RegL.pure (p := (pEq (.int .i64 (w64 (v2 + (1 : Int)))))) rfl rfl rfl (J_bin rfl (Opd.tmp rfl) Opd.con B_add) ?_
        refine RegL.pure (p := (pEq (.int .i64 (w64 (v2 + (1 : Int)))))) rfl rfl rfl (J_assign rfl (Opd.tmp rfl)) ?_
        refine RegL.nil ?_
        replace h := Option.some.inj h; subst h
        exact Ct.again () rfl ⟨rfl, rfl, rfl, trivial⟩
    · replace h := bif_f hc h
      refine Tr.exit ?_
      refine Ct.then_exit ?_
      replace h := map_some h; obtain ⟨r1, h, rfl⟩ := h
      refine Ct.out_exit fun e => ?_
      subst e
      refine Ct.blk_exit ?_
      refine Ct.then_tr ?_
      refine Tr.weak (Γ' := []) trivial ?_
      refine Tr.seq ?_
      refine Tr.region ?_
      refine RegL.pure (p := (pEq (.bool true))) rfl rfl rfl (J_assign rfl Opd.con) ?_
      refine RegL.nil ?_
      refine Ct.then_tr ?_
      refine Tr.weak (Γ' := [(4, (pEq (.bool true)))]) ⟨rfl, trivial⟩ ?_
      refine Tr.ret ?_
      replace h := Option.some.inj h; subst h
      exact Ct.ret1 rfl rfl

theorem c_spec_SameProblem {a_0 : GProblem} {b_1 : GProblem} {r : Bool} (h : m_spec_SameProblem a_0 b_1 = some r) : CallJ Try.prog 20 [(pAgg (cGProblem a_0)), (pAgg (cGProblem b_1))] (pEq (.bool r)) := by
  unfold m_spec_SameProblem at h
  refine CallJ.enter Try.func20 rfl Try.ntmps20 rfl fun W I0 => ?_
  refine Tr.weak (Γ' := [(0, (pAgg (cGProblem a_0))), (1, (pAgg (cGProblem b_1)))]) ⟨rfl, rfl, trivial⟩ ?_
  refine Tr.seq ?_
  refine Tr.region ?_
  refine RegL.pure (p := (pPtr (cGProblem a_0))) rfl rfl rfl (J_boxA rfl (Opd.tmp rfl)) ?_
  refine RegL.pure (p := (pPtr (cGProblem b_1))) rfl rfl rfl (J_boxA rfl (Opd.tmp rfl)) ?_
  refine RegL.pure (p := (pEq (.bool false))) rfl rfl rfl (J_assign rfl Opd.con) ?_
  refine RegL.nil ?_
  refine Ct.then_tr ?_
  refine Tr.weak (Γ' := [(2, (pPtr (cGProblem a_0))), (3, (pPtr (cGProblem b_1)))]) ⟨rfl, rfl, trivial⟩ ?_
  refine Tr.seq ?_
  replace h := bind_some h; obtain ⟨x1, hx1, h⟩ := h
  refine Tr.cut (γ := Unit) (Γm := fun g => [(4, (pEq (.bool x1)))]) (Ωm := fun g => []) ?_ (fun g5 => ?_)
  · clear h
    have h := hx1
    clear hx1
    refine Tr.region ?_
    refine RegL.pure (p := (pPtr ((cSl 1 (cSl 1 (cK .i64))) a_0.Domains))) rfl rfl rfl (J_fieldAddr rfl Try.underlying32 rfl sz27 (by decide) (Opd.tmp rfl) rfl) ?_
    refine RegL.pure (p := (pSl 1 (cSl 1 (cK .i64)) a_0.Domains)) rfl rfl rfl (J_load rfl Try.isAgg27 (Opd.tmp rfl)) ?_
    refine RegL.pure (p := (pPtr ((cSl 1 (cSl 1 (cK .i64))) b_1.Domains))) rfl rfl rfl (J_fieldAddr rfl Try.underlying32 rfl sz27 (by decide) (Opd.tmp rfl) rfl) ?_
    refine RegL.pure (p := (pSl 1 (cSl 1 (cK .i64)) b_1.Domains)) rfl rfl rfl (J_load rfl Try.isAgg27 (Opd.tmp rfl)) ?_
    replace h := bind_some h; obtain ⟨x2, hx2, h⟩ := h
    refine RegL.pure (p := (pEq (.bool x2))) rfl rfl rfl (J_call rfl Try.call59 (c_spec_l17Lists hx2) (Opds.cons (Opd.tmp rfl) (Opds.cons (Opd.tmp rfl) Opds.nil))) ?_
    refine RegL.pure (p := (pEq (.bool x2))) rfl rfl rfl (J_move rfl (Opd.tmp rfl)) ?_
    rcases Bool.eq_false_or_eq_true x2 with hc3 | hc3
    · replace h := bif_t hc3 h
      refine RegL.pureG (p := (pPtr ((cSl 1 (cSl 1 (cK .i64))) a_0.Apart))) rfl rfl rfl hc3 rfl rfl (J_fieldAddr rfl Try.underlying32 rfl sz27 (by decide) (Opd.tmp rfl) rfl) ?_
      refine RegL.pureG (p := (pSl 1 (cSl 1 (cK .i64)) a_0.Apart)) rfl rfl rfl hc3 rfl rfl (J_load rfl Try.isAgg27 (Opd.tmp rfl)) ?_
      refine RegL.pureG (p := (pPtr ((cSl 1 (cSl 1 (cK .i64))) b_1.Apart))) rfl rfl rfl hc3 rfl rfl (J_fieldAddr rfl Try.underlying32 rfl sz27 (by decide) (Opd.tmp rfl) rfl) ?_
      refine RegL.pureG (p := (pSl 1 (cSl 1 (cK .i64)) b_1.Apart)) rfl rfl rfl hc3 rfl rfl (J_load rfl Try.isAgg27 (Opd.tmp rfl)) ?_
      replace h := bind_some h; obtain ⟨x4, hx4, h⟩ := h
      refine RegL.pureG (p := (pEq (.bool x4))) rfl rfl rfl hc3 rfl rfl (J_call rfl Try.call59 (c_spec_l17Lists hx4) (Opds.cons (Opd.tmp rfl) (Opds.cons (Opd.tmp rfl) Opds.nil))) ?_
      refine RegL.pure (p := (pEq (.bool x4))) rfl rfl rfl (J_pick rfl (Opd.tmp rfl) (fun _ => (Opd.tmp rfl)) (fun hf => absurd (hc3.symm.trans hf) (by decide))) ?_
      refine RegL.pure (p := (pEq (.bool x4))) rfl rfl rfl (J_assign rfl (Opd.tmp rfl)) ?_
      refine RegL.nil ?_
      replace h := Option.some.inj h; subst h
      exact Ct.mid () rfl ⟨rfl, trivial⟩
    · replace h := bif_f hc3 h
      refine RegL.skipG rfl rfl rfl hc3 rfl rfl ?_
      refine RegL.skipG rfl rfl rfl hc3 rfl rfl ?_
      refine RegL.skipG rfl rfl rfl hc3 rfl rfl ?_
      refine RegL.skipG rfl rfl rfl hc3 rfl rfl ?_
      refine RegL.skipG rfl rfl rfl hc3 rfl rfl ?_
      refine RegL.pure (p := (pEq (.bool false))) rfl rfl rfl (J_pick rfl (Opd.tmp rfl) (fun hf => absurd (hc3.symm.trans hf) (by decide)) (fun _ => Opd.con)) ?_
      refine RegL.pure (p := (pEq (.bool false))) rfl rfl rfl (J_assign rfl (Opd.tmp rfl)) ?_
      refine RegL.nil ?_
      replace h := Option.some.inj h; subst h
      exact Ct.mid () rfl ⟨rfl, trivial⟩
  · clear hx1
    refine Ct.then_tr ?_
    refine Tr.weak (Γ' := [(4, (pEq (.bool x1)))]) ⟨rfl, trivial⟩ ?_
    refine Tr.ret ?_
    replace h := Option.some.inj h; subst h
    exact Ct.ret1 rfl rfl

theorem c_slices_EqualFunc_SSint64_SSint64_int64_int64 {s1_0 : (List (List Int))} {s2_1 : (List (List Int))} {eq_2 : (((List Int) × (List Int)) → Option Bool)} {r : Bool} (h : m_slices_EqualFunc_SSint64_SSint64_int64_int64 s1_0 s2_1 eq_2 = some r) : CallJ Try.prog 60 [(pSl 1 (cSl 1 (cK .i64)) s1_0), (pSl 1 (cSl 1 (cK .i64)) s2_1), (pFn Try.prog (fun x => [(pSl 1 (cK .i64) x.1), (pSl 1 (cK .i64) x.2)]) eq_2 (fun y => (pEq (.bool y))))] (pEq (.bool r)) := by
  unfold m_slices_EqualFunc_SSint64_SSint64_int64_int64 at h
  refine CallJ.enter Try.func60 rfl Try.ntmps60 rfl fun W I0 => ?_
  refine Tr.weak (Γ' := [(0, (pSl 1 (cSl 1 (cK .i64)) s1_0)), (1, (pSl 1 (cSl 1 (cK .i64)) s2_1)), (2, (pFn Try.prog (fun x => [(pSl 1 (cK .i64) x.1), (pSl 1 (cK .i64) x.2)]) eq_2 (fun y => (pEq (.bool y)))))]) ⟨rfl, rfl, rfl, trivial⟩ ?_
  refine Tr.seq ?_
  refine Tr.region ?_
  refine RegL.pure (p := (pEq (.bool false))) rfl rfl rfl (J_assign rfl Opd.con) ?_
  refine RegL.nil ?_
  refine Ct.then_tr ?_
  refine Tr.weak (Γ' := [(0, (pSl 1 (cSl 1 (cK .i64)) s1_0)), (1, (pSl 1 (cSl 1 (cK .i64)) s2_1)), (2, (pFn Try.prog (fun x => [(pSl 1 (cK .i64) x.1), (pSl 1 (cK .i64) x.2)]) eq_2 (fun y => (pEq (.bool y)))))]) ⟨rfl, rfl, rfl, trivial⟩ ?_
  refine Tr.seq ?_
  refine Tr.seq ?_
  refine Tr.region ?_
  refine RegL.pure (p := (pSl 1 (cSl 1 (cK .i64)) s1_0)) rfl rfl rfl (J_move rfl (Opd.tmp rfl)) ?_
  refine RegL.pure (p := (pEq (.int .i64 (s1_0.length : Int)))) rfl rfl rfl (J_len rfl Try.underlying27 (Opd.tmp rfl) rfl) ?_
  refine RegL.pure (p := (pSl 1 (cSl 1 (cK .i64)) s2_1)) rfl rfl rfl (J_move rfl (Opd.tmp rfl)) ?_
  refine RegL.pure (p := (pEq (.int .i64 (s2_1.length : Int)))) rfl rfl rfl (J_len rfl Try.underlying27 (Opd.tmp rfl) rfl) ?_
  refine RegL.pure (p := (pEq (.bool ((s1_0.length : Int) != (s2_1.length : Int))))) rfl rfl rfl (J_bin rfl (Opd.tmp rfl) (Opd.tmp rfl) B_neq) ?_
  refine RegL.nil ?_
  refine Ct.then_tr ?_
  refine Tr.weak (Γ' := [(0, (pSl 1 (cSl 1 (cK .i64)) s1_0)), (1, (pSl 1 (cSl 1 (cK .i64)) s2_1)), (2, (pFn Try.prog (fun x => [(pSl 1 (cK .i64) x.1), (pSl 1 (cK .i64) x.2)]) eq_2 (fun y => (pEq (.bool y))))), (14, (pEq (.bool ((s1_0.length : Int) != (s2_1.length : Int)))))]) ⟨rfl, rfl, rfl, rfl, trivial⟩ ?_
  refine Tr.cond (Opd.tmp rfl) (fun hc => ?_) (fun hc => ?_)
  · replace h := bif_t hc h
    refine Tr.seq ?_
    refine Tr.region ?_
    refine RegL.pure (p := (pEq (.bool false))) rfl rfl rfl (J_assign rfl Opd.con) ?_
    refine RegL.nil ?_
    refine Ct.then_tr ?_
    refine Tr.weak (Γ' := [(6, (pEq (.bool false)))]) ⟨rfl, trivial⟩ ?_
    refine Tr.ret ?_
    refine Ct.then_ret ?_
    replace h := Option.some.inj h; subst h
    exact Ct.ret1 rfl rfl
  · replace h := bif_f hc h
    refine Tr.skip ?_
    refine Ct.then_tr ?_
    refine Tr.weak (Γ' := [(0, (pSl 1 (cSl 1 (cK .i64)) s1_0)), (1, (pSl 1 (cSl 1 (cK .i64)) s2_1)), (2, (pFn Try.prog (fun x => [(pSl 1 (cK .i64) x.1), (pSl 1 (cK .i64) x.2)]) eq_2 (fun y => (pEq (.bool y)))))]) ⟨rfl, rfl, rfl, trivial⟩ ?_
    refine Tr.seq ?_
    refine Tr.seq ?_
    refine Tr.region ?_
    refine RegL.pure (p := (pSl 1 (cSl 1 (cK .i64)) s1_0)) rfl rfl rfl (J_move rfl (Opd.tmp rfl)) ?_
    refine RegL.pure (p := (pEq (.int .i64 (s1_0.length : Int)))) rfl rfl rfl (J_len rfl Try.underlying27 (Opd.tmp rfl) rfl) ?_
    refine RegL.pure (p := (pEq (.int .i64 (0 : Int)))) rfl rfl rfl (J_move rfl Opd.con) ?_
    refine RegL.nil ?_
    refine Ct.then_tr ?_
    refine Tr.weak (Γ' := [(1, (pSl 1 (cSl 1 (cK .i64)) s2_1)), (2, (pFn Try.prog (fun x => [(pSl 1 (cK .i64) x.1), (pSl 1 (cK .i64) x.2)]) eq_2 (fun y => (pEq (.bool y))))), (15, (pSl 1 (cSl 1 (cK .i64)) s1_0)), (16, (pEq (.int .i64 (s1_0.length : Int)))), (17, (pEq (.int .i64 (0 : Int))))]) ⟨rfl, rfl, rfl, rfl, rfl, trivial⟩ ?_
    refine Tr.block ?_
    refine Tr.weak (Γ' := [(1, (pSl 1 (cSl 1 (cK .i64)) s2_1)), (2, (pFn Try.prog (fun x => [(pSl 1 (cK .i64) x.1), (pSl 1 (cK .i64) x.2)]) eq_2 (fun y => (pEq (.bool y))))), (15, (pSl 1 (cSl 1 (cK .i64)) s1_0)), (16, (pEq (.int .i64 (s1_0.length : Int)))), (17, (pEq (.int .i64 (0 : Int))))]) ⟨rfl, rfl, rfl, rfl, rfl, trivial⟩ ?_
    refine Tr.loop (γ := Unit) (σ := Int) (Γσ := fun s g => [(1, (pSl 1 (cSl 1 (cK .i64)) s2_1)), (2, (pFn Try.prog (fun x => [(pSl 1 (cK .i64) x.1), (pSl 1 (cK .i64) x.2)]) eq_2 (fun y => (pEq (.bool y))))), (15, (pSl 1 (cSl 1 (cK .i64)) s1_0)), (16, (pEq (.int .i64 (s1_0.length : Int)))), (17, (pEq (.int .i64 s)))]) (Ωσ := fun s g => []) (g := ()) h ?_
    clear h
    rintro v2 g3 t h
    replace h : m_slices_EqualFunc_SSint64_SSint64_int64_int64_B1 s1_0 s2_1 eq_2 v2 = some t := h
    unfold m_slices_EqualFunc_SSint64_SSint64_int64_int64_B1 at h
    refine Tr.weakO (Γ' := [(1, (pSl 1 (cSl 1 (cK .i64)) s2_1)), (2, (pFn Try.prog (fun x => [(pSl 1 (cK .i64) x.1), (pSl 1 (cK .i64) x.2)]) eq_2 (fun y => (pEq (.bool y))))), (15, (pSl 1 (cSl 1 (cK .i64)) s1_0)), (16, (pEq (.int .i64 (s1_0.length : Int)))), (17, (pEq (.int .i64 v2)))]) (Ω' := []) rfl ⟨rfl, rfl, rfl, rfl, rfl, trivial⟩ ?_
    refine Tr.seq ?_
    refine Tr.region ?_
    refine RegL.pure (p := (pEq (.bool (decide (v2 < (s1_0.length : Int)))))) rfl rfl rfl (J_bin rfl (Opd.tmp rfl) (Opd.tmp rfl) B_lss) ?_
    refine RegL.nil ?_
    refine Ct.then_tr ?_
    refine Tr.weak (Γ' := [(1, (pSl 1 (cSl 1 (cK .i64)) s2_1)), (2, (pFn Try.prog (fun x => [(pSl 1 (cK .i64) x.1), (pSl 1 (cK .i64) x.2)]) eq_2 (fun y => (pEq (.bool y))))), (15, (pSl 1 (cSl 1 (cK .i64)) s1_0)), (16, (pEq (.int .i64 (s1_0.length : Int)))), (17, (pEq (.int .i64 v2))), (18, (pEq (.bool (decide (v2 < (s1_0.length : Int))))))]) ⟨rfl, rfl, rfl, rfl, rfl, rfl, trivial⟩ ?_
    refine Tr.seq ?_
    refine Tr.cond (Opd.tmp rfl) (fun hc => ?_) (fun hc => ?_)
    · replace h := bif_t hc h
      refine Tr.skip ?_
      refine Ct.then_tr ?_
      refine Tr.weak (Γ' := [(1, (pSl 1 (cSl 1 (cK .i64)) s2_1)), (2, (pFn Try.prog (fun x => [(pSl 1 (cK .i64) x.1), (pSl 1 (cK .i64) x.2)]) eq_2 (fun y => (pEq (.bool y))))), (15, (pSl 1 (cSl 1 (cK .i64)) s1_0)), (16, (pEq (.int .i64 (s1_0.length : Int)))), (17, (pEq (.int .i64 v2)))]) ⟨rfl, rfl, rfl, rfl, rfl, trivial⟩ ?_
      refine Tr.seq ?_
      refine Tr.block ?_
      refine Tr.seq ?_
      refine Tr.region ?_
      refine RegL.pure (p := (pEq (.int .i64 v2))) rfl rfl rfl (J_move rfl (Opd.tmp rfl)) ?_
      replace h := bind_some h; obtain ⟨x4, hx4, h⟩ := h
      refine RegL.pure (p := (pPtr ((cSl 1 (cK .i64)) x4))) rfl rfl rfl (J_idx rfl Try.underlying27 sz22 (Opd.tmp rfl) (Opd.tmp rfl) hx4) ?_
      refine RegL.pure (p := (pSl 1 (cK .i64) x4)) rfl rfl rfl (J_load rfl Try.isAgg22 (Opd.tmp rfl)) ?_
      refine RegL.pure (p := (pEq (.int .i64 v2))) rfl rfl rfl (J_assign rfl (Opd.tmp rfl)) ?_
      refine RegL.pure (p := (pSl 1 (cK .i64) x4)) rfl rfl rfl (J_assign rfl (Opd.tmp rfl)) ?_
      refine RegL.nil ?_
      refine Ct.then_tr ?_
      refine Tr.weak (Γ' := [(1, (pSl 1 (cSl 1 (cK .i64)) s2_1)), (2, (pFn Try.prog (fun x => [(pSl 1 (cK .i64) x.1), (pSl 1 (cK .i64) x.2)]) eq_2 (fun y => (pEq (.bool y))))), (7, (pEq (.int .i64 v2))), (8, (pSl 1 (cK .i64) x4)), (15, (pSl 1 (cSl 1 (cK .i64)) s1_0)), (16, (pEq (.int .i64 (s1_0.length : Int)))), (17, (pEq (.int .i64 v2)))]) ⟨rfl, rfl, rfl, rfl, rfl, rfl, rfl, trivial⟩ ?_
      refine Tr.seq ?_
      refine Tr.region ?_
      refine RegL.pure (p := (pSl 1 (cSl 1 (cK .i64)) s2_1)) rfl rfl rfl (J_move rfl (Opd.tmp rfl)) ?_
      refine RegL.pure (p := (pEq (.int .i64 v2))) rfl rfl rfl (J_move rfl (Opd.tmp rfl)) ?_
      replace h := bind_some h; obtain ⟨x5, hx5, h⟩ := h
      refine RegL.pure (p := (pPtr ((cSl 1 (cK .i64)) x5))) rfl rfl rfl (J_idx rfl Try.underlying27 sz22 (Opd.tmp rfl) (Opd.tmp rfl) hx5) ?_
      refine RegL.pure (p := (pSl 1 (cK .i64) x5)) rfl rfl rfl (J_load rfl Try.isAgg22 (Opd.tmp rfl)) ?_
      refine RegL.pure (p := (pSl 1 (cK .i64) x5)) rfl rfl rfl (J_assign rfl (Opd.tmp rfl)) ?_
      refine RegL.nil ?_
      refine Ct.then_tr ?_
      refine Tr.weak (Γ' := [(1, (pSl 1 (cSl 1 (cK .i64)) s2_1)), (2, (pFn Try.prog (fun x => [(pSl 1 (cK .i64) x.1), (pSl 1 (cK .i64) x.2)]) eq_2 (fun y => (pEq (.bool y))))), (8, (pSl 1 (cK .i64) x4)), (9, (pSl 1 (cK .i64) x5)), (15, (pSl 1 (cSl 1 (cK .i64)) s1_0)), (16, (pEq (.int .i64 (s1_0.length : Int)))), (17, (pEq (.int .i64 v2)))]) ⟨rfl, rfl, rfl, rfl, rfl, rfl, rfl, trivial⟩ ?_
      refine Tr.seq ?_
      refine Tr.region ?_
      refine RegL.pure (p := (pFn Try.prog (fun x => [(pSl 1 (cK .i64) x.1), (pSl 1 (cK .i64) x.2)]) eq_2 (fun y => (pEq (.bool y))))) rfl rfl rfl (J_move rfl (Opd.tmp rfl)) ?_
      refine RegL.pure (p := (pSl 1 (cK .i64) x4)) rfl rfl rfl (J_move rfl (Opd.tmp rfl)) ?_
      refine RegL.pure (p := (pSl 1 (cK .i64) x5)) rfl rfl rfl (J_move rfl (Opd.tmp rfl)) ?_
      replace h := bind_some h; obtain ⟨x6, hx6, h⟩ := h
      refine RegL.pure (p := (pEq (.bool x6))) rfl rfl rfl (J_callv (x := (x4, x5)) rfl (Opd.tmp rfl) rfl (Opds.cons (Opd.tmp rfl) (Opds.cons (Opd.tmp rfl) Opds.nil)) hx6 rfl) ?_
      refine RegL.pure (p := (pEq (.bool (!x6)))) rfl rfl rfl (J_not rfl (Opd.tmp rfl)) ?_
      refine RegL.nil ?_
      refine Ct.then_tr ?_
      refine Tr.weak (Γ' := [(1, (pSl 1 (cSl 1 (cK .i64)) s2_1)), (2, (pFn Try.prog (fun x => [(pSl 1 (cK .i64) x.1), (pSl 1 (cK .i64) x.2)]) eq_2 (fun y => (pEq (.bool y))))), (15, (pSl 1 (cSl 1 (cK .i64)) s1_0)), (16, (pEq (.int .i64 (s1_0.length : Int)))), (17, (pEq (.int .i64 v2))), (30, (pEq (.bool (!x6))))]) ⟨rfl, rfl, rfl, rfl, rfl, rfl, trivial⟩ ?_
      refine Tr.cond (Opd.tmp rfl) (fun hc => ?_) (fun hc => ?_)
      · replace h := bif_t hc h
        refine Tr.seq ?_
        refine Tr.region ?_
        refine RegL.pure (p := (pEq (.bool false))) rfl rfl rfl (J_assign rfl Opd.con) ?_
        refine RegL.nil ?_
        refine Ct.then_tr ?_
        refine Tr.weak (Γ' := [(6, (pEq (.bool false)))]) ⟨rfl, trivial⟩ ?_
        refine Tr.ret ?_
        refine Ct.blk_ret ?_
        refine Ct.then_ret ?_
        replace h := map_some h; obtain ⟨r1, h, rfl⟩ := h
        refine Ct.out_ret fun e => ?_
        subst e
        refine Ct.blk_ret ?_
        refine Ct.then_ret ?_
        replace h := Option.some.inj h; subst h
        exact Ct.ret1 rfl rfl
      · replace h := bif_f hc h
        refine Tr.skip ?_
        refine Ct.blk_normal ?_
        refine Ct.then_tr ?_
        refine Tr.weak (Γ' := [(1, (pSl 1 (cSl 1 (cK .i64)) s2_1)), (2, (pFn Try.prog (fun x => [(pSl 1 (cK .i64) x.1), (pSl 1 (cK .i64) x.2)]) eq_2 (fun y => (pEq (.bool y))))), (15, (pSl 1 (cSl 1 (cK .i64)) s1_0)), (16, (pEq (.int .i64 (s1_0.length : Int)))), (17, (pEq (.int .i64 v2)))]) ⟨rfl, rfl, rfl, rfl, rfl, trivial⟩ ?_
        refine Tr.region ?_
        refine RegL.pure (p := (pEq (.int .i64 (w64 (v2 + (1 : Int)))))) rfl rfl rfl (J_bin rfl (Opd.tmp rfl) Opd.con B_add) ?_
        refine RegL.pure (p := (pEq (.int .i64 (w64 (v2 + (1 : Int)))))) rfl rfl rfl (J_move rfl (Opd.tmp rfl)) ?_
        refine RegL.nil ?_
        replace h := Option.some.inj h; subst h
        exact Ct.again () rfl ⟨rfl, rfl, rfl, rfl, rfl, trivial⟩
    · replace h := bif_f hc h
      refine Tr.exit ?_
      refine Ct.then_exit ?_
      replace h := map_some h; obtain ⟨r1, h, rfl⟩ := h
      refine Ct.out_exit fun e => ?_
      subst e
      refine Ct.blk_exit ?_
      refine Ct.then_tr ?_
      refine Tr.weak (Γ' := []) trivial ?_
      refine Tr.seq ?_
      refine Tr.region ?_
      refine RegL.pure (p := (pEq (.bool true))) rfl rfl rfl (J_assign rfl Opd.con) ?_
      refine RegL.nil ?_
      refine Ct.then_tr ?_
      refine Tr.weak (Γ' := [(6, (pEq (.bool true)))]) ⟨rfl, trivial⟩ ?_
      refine Tr.ret ?_
      replace h := Option.some.inj h; subst h
      exact Ct.ret1 rfl rfl

theorem c_slices_Equal_int64_int64 {s1_0 : (List Int)} {s2_1 : (List Int)} {r : Bool} (h : m_slices_Equal_int64_int64 s1_0 s2_1 = some r) : CallJ Try.prog 61 [(pSl 1 (cK .i64) s1_0), (pSl 1 (cK .i64) s2_1)] (pEq (.bool r)) := by
  unfold m_slices_Equal_int64_int64 at h
  refine CallJ.enter Try.func61 rfl Try.ntmps61 rfl fun W I0 => ?_
  refine Tr.weak (Γ' := [(0, (pSl 1 (cK .i64) s1_0)), (1, (pSl 1 (cK .i64) s2_1))]) ⟨rfl, rfl, trivial⟩ ?_
  refine Tr.seq ?_
  refine Tr.region ?_
  refine RegL.pure (p := (pEq (.bool false))) rfl rfl rfl (J_assign rfl Opd.con) ?_
  refine RegL.nil ?_
  refine Ct.then_tr ?_
  refine Tr.weak (Γ' := [(0, (pSl 1 (cK .i64) s1_0)), (1, (pSl 1 (cK .i64) s2_1))]) ⟨rfl, rfl, trivial⟩ ?_
  refine Tr.seq ?_
  refine Tr.seq ?_
  refine Tr.region ?_
  refine RegL.pure (p := (pSl 1 (cK .i64) s1_0)) rfl rfl rfl (J_move rfl (Opd.tmp rfl)) ?_
  refine RegL.pure (p := (pEq (.int .i64 (s1_0.length : Int)))) rfl rfl rfl (J_len rfl Try.underlying22 (Opd.tmp rfl) rfl) ?_
  refine RegL.pure (p := (pSl 1 (cK .i64) s2_1)) rfl rfl rfl (J_move rfl (Opd.tmp rfl)) ?_
  refine RegL.pure (p := (pEq (.int .i64 (s2_1.length : Int)))) rfl rfl rfl (J_len rfl Try.underlying22 (Opd.tmp rfl) rfl) ?_
  refine RegL.pure (p := (pEq (.bool ((s1_0.length : Int) != (s2_1.length : Int))))) rfl rfl rfl (J_bin rfl (Opd.tmp rfl) (Opd.tmp rfl) B_neq) ?_
  refine RegL.nil ?_
  refine Ct.then_tr ?_
  refine Tr.weak (Γ' := [(0, (pSl 1 (cK .i64) s1_0)), (1, (pSl 1 (cK .i64) s2_1)), (10, (pEq (.bool ((s1_0.length : Int) != (s2_1.length : Int)))))]) ⟨rfl, rfl, rfl, trivial⟩ ?_
  refine Tr.cond (Opd.tmp rfl) (fun hc => ?_) (fun hc => ?_)
  · replace h := bif_t hc h
    refine Tr.seq ?_
    refine Tr.region ?_
    refine RegL.pure (p := (pEq (.bool false))) rfl rfl rfl (J_assign rfl Opd.con) ?_
    refine RegL.nil ?_
    refine Ct.then_tr ?_
    refine Tr.weak (Γ' := [(4, (pEq (.bool false)))]) ⟨rfl, trivial⟩ ?_
    refine Tr.ret ?_
    refine Ct.then_ret ?_
    replace h := Option.some.inj h; subst h
    exact Ct.ret1 rfl rfl
  · replace h := bif_f hc h
    refine Tr.skip ?_
    refine Ct.then_tr ?_
    refine Tr.weak (Γ' := [(0, (pSl 1 (cK .i64) s1_0)), (1, (pSl 1 (cK .i64) s2_1))]) ⟨rfl, rfl, trivial⟩ ?_
    refine Tr.seq ?_
    refine Tr.seq ?_
    refine Tr.region ?_
    refine RegL.pure (p := (pSl 1 (cK .i64) s1_0)) rfl rfl rfl (J_move rfl (Opd.tmp rfl)) ?_
    refine RegL.pure (p := (pEq (.int .i64 (s1_0.length : Int)))) rfl rfl rfl (J_len rfl Try.underlying22 (Opd.tmp rfl) rfl) ?_
    refine RegL.pure (p := (pEq (.int .i64 (0 : Int)))) rfl rfl rfl (J_move rfl Opd.con) ?_
    refine RegL.nil ?_
    refine Ct.then_tr ?_
    refine Tr.weak (Γ' := [(0, (pSl 1 (cK .i64) s1_0)), (1, (pSl 1 (cK .i64) s2_1)), (12, (pEq (.int .i64 (s1_0.length : Int)))), (13, (pEq (.int .i64 (0 : Int))))]) ⟨rfl, rfl, rfl, rfl, trivial⟩ ?_
    refine Tr.block ?_
    refine Tr.weak (Γ' := [(0, (pSl 1 (cK .i64) s1_0)), (1, (pSl 1 (cK .i64) s2_1)), (12, (pEq (.int .i64 (s1_0.length : Int)))), (13, (pEq (.int .i64 (0 : Int))))]) ⟨rfl, rfl, rfl, rfl, trivial⟩ ?_
    refine Tr.loop (γ := Unit) (σ := Int) (Γσ := fun s g => [(0, (pSl 1 (cK .i64) s1_0)), (1, (pSl 1 (cK .i64) s2_1)), (12, (pEq (.int .i64 (s1_0.length : Int)))), (13, (pEq (.int .i64 s)))]) (Ωσ := fun s g => []) (g := ()) h ?_
    clear h
    rintro v2 g3 t h
    replace h : m_slices_Equal_int64_int64_B1 s1_0 s2_1 v2 = some t := h
    unfold m_slices_Equal_int64_int64_B1 at h
    refine Tr.weakO (Γ' := [(0, (pSl 1 (cK .i64) s1_0)), (1, (pSl 1 (cK .i64) s2_1)), (12, (pEq (.int .i64 (s1_0.length : Int)))), (13, (pEq (.int .i64 v2)))]) (Ω' := []) rfl ⟨rfl, rfl, rfl, rfl, trivial⟩ ?_
    refine Tr.seq ?_
    refine Tr.region ?_
    refine RegL.pure (p := (pEq (.bool (decide (v2 < (s1_0.length : Int)))))) rfl rfl rfl (J_bin rfl (Opd.tmp rfl) (Opd.tmp rfl) B_lss) ?_
    refine RegL.nil ?_
    refine Ct.then_tr ?_
    refine Tr.weak (Γ' := [(0, (pSl 1 (cK .i64) s1_0)), (1, (pSl 1 (cK .i64) s2_1)), (12, (pEq (.int .i64 (s1_0.length : Int)))), (13, (pEq (.int .i64 v2))), (14, (pEq (.bool (decide (v2 < (s1_0.length : Int))))))]) ⟨rfl, rfl, rfl, rfl, rfl, trivial⟩ ?_
    refine Tr.seq ?_
    refine Tr.cond (Opd.tmp rfl) (fun hc => ?_) (fun hc => ?_)
    · replace h := bif_t hc h
      refine Tr.skip ?_
      refine Ct.then_tr ?_
      refine Tr.weak (Γ' := [(0, (pSl 1 (cK .i64) s1_0)), (1, (pSl 1 (cK .i64) s2_1)), (12, (pEq (.int .i64 (s1_0.length : Int)))), (13, (pEq (.int .i64 v2)))]) ⟨rfl, rfl, rfl, rfl, trivial⟩ ?_
      refine Tr.seq ?_
      refine Tr.block ?_
      refine Tr.seq ?_
      refine Tr.region ?_
      refine RegL.pure (p := (pEq (.int .i64 v2))) rfl rfl rfl (J_move rfl (Opd.tmp rfl)) ?_
      refine RegL.pure (p := (pEq (.int .i64 v2))) rfl rfl rfl (J_assign rfl (Opd.tmp rfl)) ?_
      refine RegL.nil ?_
      refine Ct.then_tr ?_
      refine Tr.weak (Γ' := [(0, (pSl 1 (cK .i64) s1_0)), (1, (pSl 1 (cK .i64) s2_1)), (5, (pEq (.int .i64 v2))), (12, (pEq (.int .i64 (s1_0.length : Int)))), (13, (pEq (.int .i64 v2)))]) ⟨rfl, rfl, rfl, rfl, rfl, trivial⟩ ?_
      refine Tr.seq ?_
      replace h := bind_some h; obtain ⟨x4, hx4, h⟩ := h
      replace h := bind_some h; obtain ⟨x5, hx5, h⟩ := h
      refine Tr.draw (n := 26) (es := [Ent.mk [(0, (pSl 1 (cK .i64) s1_0))] (pSl 1 (cK .i64) s1_0) true, Ent.mk [(5, (pEq (.int .i64 v2)))] (pEq (.int .i64 v2)) true, Ent.mk [(16, (pSl 1 (cK .i64) s1_0)), (17, (pEq (.int .i64 v2)))] (pPtr ((cK .i64) x4)) true, Ent.mk [(18, (pPtr ((cK .i64) x4)))] (pEq (.int .i64 x4)) true, Ent.mk [(1, (pSl 1 (cK .i64) s2_1))] (pSl 1 (cK .i64) s2_1) true, Ent.mk [(5, (pEq (.int .i64 v2)))] (pEq (.int .i64 v2)) true, Ent.mk [(20, (pSl 1 (cK .i64) s2_1)), (21, (pEq (.int .i64 v2)))] (pPtr ((cK .i64) x5)) true, Ent.mk [(22, (pPtr ((cK .i64) x5)))] (pEq (.int .i64 x5)) true, Ent.mk [(19, (pEq (.int .i64 x4))), (23, (pEq (.int .i64 x5)))] (pEq (.bool (x4 != x5))) true]) (rd := [[0], [5], [16, 17], [18], [1], [5], [20, 21], [22], [19, 23]]) rfl hmix rfl (by kernel_rfl) ⟨⟨(OpJ.w (J_move rfl (Opd.tmp rfl))), ⟨rfl, trivial⟩, rfl⟩, ⟨(OpJ.w (J_move rfl (Opd.tmp rfl))), ⟨rfl, trivial⟩, rfl⟩, ⟨(OpJ.w (J_idx rfl Try.underlying22 sz2 (Opd.tmp rfl) (Opd.tmp rfl) hx4)), ⟨rfl, rfl, trivial⟩, rfl⟩, ⟨(OpJ.w (J_load rfl Try.isAgg2 (Opd.tmp rfl))), ⟨rfl, trivial⟩, rfl⟩, ⟨(OpJ.w (J_move rfl (Opd.tmp rfl))), ⟨rfl, trivial⟩, rfl⟩, ⟨(OpJ.w (J_move rfl (Opd.tmp rfl))), ⟨rfl, trivial⟩, rfl⟩, ⟨(OpJ.w (J_idx rfl Try.underlying22 sz2 (Opd.tmp rfl) (Opd.tmp rfl) hx5)), ⟨rfl, rfl, trivial⟩, rfl⟩, ⟨(OpJ.w (J_load rfl Try.isAgg2 (Opd.tmp rfl))), ⟨rfl, trivial⟩, rfl⟩, ⟨(OpJ.w (J_bin rfl (Opd.tmp rfl) (Opd.tmp rfl) B_neq)), ⟨rfl, rfl, trivial⟩, rfl⟩, trivial⟩ ?_
      refine Ct.then_tr ?_
      refine Tr.weak (Γ' := [(0, (pSl 1 (cK .i64) s1_0)), (1, (pSl 1 (cK .i64) s2_1)), (12, (pEq (.int .i64 (s1_0.length : Int)))), (13, (pEq (.int .i64 v2))), (24, (pEq (.bool (x4 != x5))))]) ⟨rfl, rfl, rfl, rfl, rfl, trivial⟩ ?_
      refine Tr.cond (Opd.tmp rfl) (fun hc => ?_) (fun hc => ?_)
      · replace h := bif_t hc h
        refine Tr.seq ?_
        refine Tr.region ?_
        refine RegL.pure (p := (pEq (.bool false))) rfl rfl rfl (J_assign rfl Opd.con) ?_
        refine RegL.nil ?_
        refine Ct.then_tr ?_
        refine Tr.weak (Γ' := [(4, (pEq (.bool false)))]) ⟨rfl, trivial⟩ ?_
        refine Tr.ret ?_
        refine Ct.blk_ret ?_
        refine Ct.then_ret ?_
        replace h := map_some h; obtain ⟨r1, h, rfl⟩ := h
        refine Ct.out_ret fun e => ?_
        subst e
        refine Ct.blk_ret ?_
        refine Ct.then_ret ?_
        replace h := Option.some.inj h; subst h
        exact Ct.ret1 rfl rfl
      · replace h := bif_f hc h
        refine Tr.skip ?_
        refine Ct.blk_normal ?_
        refine Ct.then_tr ?_
        refine Tr.weak (Γ' := [(0, (pSl 1 (cK .i64) s1_0)), (1, (pSl 1 (cK .i64) s2_1)), (12, (pEq (.int .i64 (s1_0.length : Int)))), (13, (pEq (.int .i64 v2)))]) ⟨rfl, rfl, rfl, rfl, trivial⟩ ?_
        refine Tr.region ?_
        refine RegL.pure (p := (pEq (.int .i64 (w64 (v2 + (1 : Int)))))) rfl rfl rfl (J_bin rfl (Opd.tmp rfl) Opd.con B_add) ?_
        refine RegL.pure (p := (pEq (.int .i64 (w64 (v2 + (1 : Int)))))) rfl rfl rfl (J_move rfl (Opd.tmp rfl)) ?_
        refine RegL.nil ?_
        replace h := Option.some.inj h; subst h
        exact Ct.again () rfl ⟨rfl, rfl, rfl, rfl, trivial⟩
    · replace h := bif_f hc h
      refine Tr.exit ?_
      refine Ct.then_exit ?_
      replace h := map_some h; obtain ⟨r1, h, rfl⟩ := h
      refine Ct.out_exit fun e => ?_
      subst e
      refine Ct.blk_exit ?_
      refine Ct.then_tr ?_
      refine Tr.weak (Γ' := []) trivial ?_
      refine Tr.seq ?_
      refine Tr.region ?_
      refine RegL.pure (p := (pEq (.bool true))) rfl rfl rfl (J_assign rfl Opd.con) ?_
      refine RegL.nil ?_
      refine Ct.then_tr ?_
      refine Tr.weak (Γ' := [(4, (pEq (.bool true)))]) ⟨rfl, trivial⟩ ?_
      refine Tr.ret ?_
      replace h := Option.some.inj h; subst h
      exact Ct.ret1 rfl rfl

theorem c_impl_SameProblem {a_0 : GProblem} {b_1 : GProblem} {r : Bool} (h : m_impl_SameProblem a_0 b_1 = some r) : CallJ Try.prog 22 [(pAgg (cGProblem a_0)), (pAgg (cGProblem b_1))] (pEq (.bool r)) := by
  unfold m_impl_SameProblem at h
  refine CallJ.enter Try.func22 rfl Try.ntmps22 rfl fun W I0 => ?_
  refine Tr.weak (Γ' := [(0, (pAgg (cGProblem a_0))), (1, (pAgg (cGProblem b_1)))]) ⟨rfl, rfl, trivial⟩ ?_
  refine Tr.seq ?_
  refine Tr.region ?_
  refine RegL.pure (p := (pPtr (cGProblem a_0))) rfl rfl rfl (J_boxA rfl (Opd.tmp rfl)) ?_
  refine RegL.pure (p := (pPtr (cGProblem b_1))) rfl rfl rfl (J_boxA rfl (Opd.tmp rfl)) ?_
  refine RegL.pure (p := (pEq (.bool false))) rfl rfl rfl (J_assign rfl Opd.con) ?_
  refine RegL.nil ?_
  refine Ct.then_tr ?_
  refine Tr.weak (Γ' := [(2, (pPtr (cGProblem a_0))), (3, (pPtr (cGProblem b_1)))]) ⟨rfl, rfl, trivial⟩ ?_
  refine Tr.seq ?_
  replace h := bind_some h; obtain ⟨x1, hx1, h⟩ := h
  refine Tr.cut (γ := Unit) (Γm := fun g => [(4, (pEq (.bool x1)))]) (Ωm := fun g => []) ?_ (fun g5 => ?_)
  · clear h
    have h := hx1
    clear hx1
    refine Tr.region ?_
    refine RegL.pure (p := (pPtr ((cSl 1 (cSl 1 (cK .i64))) a_0.Domains))) rfl rfl rfl (J_fieldAddr rfl Try.underlying32 rfl sz27 (by decide) (Opd.tmp rfl) rfl) ?_
    refine RegL.pure (p := (pSl 1 (cSl 1 (cK .i64)) a_0.Domains)) rfl rfl rfl (J_load rfl Try.isAgg27 (Opd.tmp rfl)) ?_
    refine RegL.pure (p := (pPtr ((cSl 1 (cSl 1 (cK .i64))) b_1.Domains))) rfl rfl rfl (J_fieldAddr rfl Try.underlying32 rfl sz27 (by decide) (Opd.tmp rfl) rfl) ?_
    refine RegL.pure (p := (pSl 1 (cSl 1 (cK .i64)) b_1.Domains)) rfl rfl rfl (J_load rfl Try.isAgg27 (Opd.tmp rfl)) ?_
    replace h := bind_some h; obtain ⟨x2, hx2, h⟩ := h
    refine RegL.pure (p := (pEq (.bool x2))) rfl rfl rfl (J_call rfl Try.call60 (c_slices_EqualFunc_SSint64_SSint64_int64_int64 hx2) (Opds.cons (Opd.tmp rfl) (Opds.cons (Opd.tmp rfl) (Opds.cons (Opd.fnv Try.call61 (fun _ _ h => c_slices_Equal_int64_int64 h)) Opds.nil)))) ?_
    refine RegL.pure (p := (pEq (.bool x2))) rfl rfl rfl (J_move rfl (Opd.tmp rfl)) ?_
    rcases Bool.eq_false_or_eq_true x2 with hc3 | hc3
    · replace h := bif_t hc3 h
      refine RegL.pureG (p := (pPtr ((cSl 1 (cSl 1 (cK .i64))) a_0.Apart))) rfl rfl rfl hc3 rfl rfl (J_fieldAddr rfl Try.underlying32 rfl sz27 (by decide) (Opd.tmp rfl) rfl) ?_
      refine RegL.pureG (p := (pSl 1 (cSl 1 (cK .i64)) a_0.Apart)) rfl rfl rfl hc3 rfl rfl (J_load rfl Try.isAgg27 (Opd.tmp rfl)) ?_
      refine RegL.pureG (p := (pPtr ((cSl 1 (cSl 1 (cK .i64))) b_1.Apart))) rfl rfl rfl hc3 rfl rfl (J_fieldAddr rfl Try.underlying32 rfl sz27 (by decide) (Opd.tmp rfl) rfl) ?_
      refine RegL.pureG (p := (pSl 1 (cSl 1 (cK .i64)) b_1.Apart)) rfl rfl rfl hc3 rfl rfl (J_load rfl Try.isAgg27 (Opd.tmp rfl)) ?_
      replace h := bind_some h; obtain ⟨x4, hx4, h⟩ := h
      refine RegL.pureG (p := (pEq (.bool x4))) rfl rfl rfl hc3 rfl rfl (J_call rfl Try.call60 (c_slices_EqualFunc_SSint64_SSint64_int64_int64 hx4) (Opds.cons (Opd.tmp rfl) (Opds.cons (Opd.tmp rfl) (Opds.cons (Opd.fnv Try.call61 (fun _ _ h => c_slices_Equal_int64_int64 h)) Opds.nil)))) ?_
      refine RegL.pure (p := (pEq (.bool x4))) rfl rfl rfl (J_pick rfl (Opd.tmp rfl) (fun _ => (Opd.tmp rfl)) (fun hf => absurd (hc3.symm.trans hf) (by decide))) ?_
      refine RegL.pure (p := (pEq (.bool x4))) rfl rfl rfl (J_assign rfl (Opd.tmp rfl)) ?_
      refine RegL.nil ?_
      replace h := Option.some.inj h; subst h
      exact Ct.mid () rfl ⟨rfl, trivial⟩
    · replace h := bif_f hc3 h
      refine RegL.skipG rfl rfl rfl hc3 rfl rfl ?_
      refine RegL.skipG rfl rfl rfl hc3 rfl rfl ?_
      refine RegL.skipG rfl rfl rfl hc3 rfl rfl ?_
      refine RegL.skipG rfl rfl rfl hc3 rfl rfl ?_
      refine RegL.skipG rfl rfl rfl hc3 rfl rfl ?_
      refine RegL.pure (p := (pEq (.bool false))) rfl rfl rfl (J_pick rfl (Opd.tmp rfl) (fun hf => absurd (hc3.symm.trans hf) (by decide)) (fun _ => Opd.con)) ?_
      refine RegL.pure (p := (pEq (.bool false))) rfl rfl rfl (J_assign rfl (Opd.tmp rfl)) ?_
      refine RegL.nil ?_
      replace h := Option.some.inj h; subst h
      exact Ct.mid () rfl ⟨rfl, trivial⟩
  · clear hx1
    refine Ct.then_tr ?_
    refine Tr.weak (Γ' := [(4, (pEq (.bool x1)))]) ⟨rfl, trivial⟩ ?_
    refine Tr.ret ?_
    replace h := Option.some.inj h; subst h
    exact Ct.ret1 rfl rfl

theorem c_laws_eqInt64S {a_0 : (List Int)} {b_1 : (List Int)} {r : Bool} (h : m_laws_eqInt64S a_0 b_1 = some r) : CallJ Try.prog 18 [(pSl 1 (cK .i64) a_0), (pSl 1 (cK .i64) b_1)] (pEq (.bool r)) := by
  unfold m_laws_eqInt64S at h
  refine CallJ.enter Try.func18 rfl Try.ntmps18 rfl fun W I0 => ?_
  refine Tr.weak (Γ' := [(0, (pSl 1 (cK .i64) a_0)), (1, (pSl 1 (cK .i64) b_1))]) ⟨rfl, rfl, trivial⟩ ?_
  refine Tr.seq ?_
  refine Tr.region ?_
  refine RegL.pure (p := (pEq (.bool false))) rfl rfl rfl (J_assign rfl Opd.con) ?_
  refine RegL.nil ?_
  refine Ct.then_tr ?_
  refine Tr.weak (Γ' := [(0, (pSl 1 (cK .i64) a_0)), (1, (pSl 1 (cK .i64) b_1))]) ⟨rfl, rfl, trivial⟩ ?_
  refine Tr.seq ?_
  refine Tr.seq ?_
  refine Tr.region ?_
  refine RegL.pure (p := (pSl 1 (cK .i64) a_0)) rfl rfl rfl (J_move rfl (Opd.tmp rfl)) ?_
  refine RegL.pure (p := (pEq (.int .i64 (a_0.length : Int)))) rfl rfl rfl (J_len rfl Try.underlying22 (Opd.tmp rfl) rfl) ?_
  refine RegL.pure (p := (pSl 1 (cK .i64) b_1)) rfl rfl rfl (J_move rfl (Opd.tmp rfl)) ?_
  refine RegL.pure (p := (pEq (.int .i64 (b_1.length : Int)))) rfl rfl rfl (J_len rfl Try.underlying22 (Opd.tmp rfl) rfl) ?_
  refine RegL.pure (p := (pEq (.bool ((a_0.length : Int) != (b_1.length : Int))))) rfl rfl rfl (J_bin rfl (Opd.tmp rfl) (Opd.tmp rfl) B_neq) ?_
  refine RegL.nil ?_
  refine Ct.then_tr ?_
  refine Tr.weak (Γ' := [(0, (pSl 1 (cK .i64) a_0)), (1, (pSl 1 (cK .i64) b_1)), (10, (pEq (.bool ((a_0.length : Int) != (b_1.length : Int)))))]) ⟨rfl, rfl, rfl, trivial⟩ ?_
  refine Tr.cond (Opd.tmp rfl) (fun hc => ?_) (fun hc => ?_)
  · replace h := bif_t hc h
    refine Tr.seq ?_
    refine Tr.region ?_
    refine RegL.pure (p := (pEq (.bool false))) rfl rfl rfl (J_assign rfl Opd.con) ?_
    refine RegL.nil ?_
    refine Ct.then_tr ?_
    refine Tr.weak (Γ' := [(4, (pEq (.bool false)))]) ⟨rfl, trivial⟩ ?_
    refine Tr.ret ?_
    refine Ct.then_ret ?_
    replace h := Option.some.inj h; subst h
    exact Ct.ret1 rfl rfl
  · replace h := bif_f hc h
    refine Tr.skip ?_
    refine Ct.then_tr ?_
    refine Tr.weak (Γ' := [(0, (pSl 1 (cK .i64) a_0)), (1, (pSl 1 (cK .i64) b_1))]) ⟨rfl, rfl, trivial⟩ ?_
    refine Tr.seq ?_
    refine Tr.seq ?_
    refine Tr.region ?_
    refine RegL.pure (p := (pEq (.int .i64 (0 : Int)))) rfl rfl rfl (J_assign rfl Opd.con) ?_
    refine RegL.nil ?_
    refine Ct.then_tr ?_
    refine Tr.weak (Γ' := [(0, (pSl 1 (cK .i64) a_0)), (1, (pSl 1 (cK .i64) b_1)), (5, (pEq (.int .i64 (0 : Int))))]) ⟨rfl, rfl, rfl, trivial⟩ ?_
    refine Tr.block ?_
    refine Tr.weak (Γ' := [(0, (pSl 1 (cK .i64) a_0)), (1, (pSl 1 (cK .i64) b_1)), (5, (pEq (.int .i64 (0 : Int))))]) ⟨rfl, rfl, rfl, trivial⟩ ?_
    refine Tr.loop (γ := Unit) (σ := Int) (Γσ := fun s g => [(0, (pSl 1 (cK .i64) a_0)), (1, (pSl 1 (cK .i64) b_1)), (5, (pEq (.int .i64 s)))]) (Ωσ := fun s g => []) (g := ()) h ?_
    clear h
    rintro v2 g3 t h
    replace h : m_laws_eqInt64S_B1 a_0 b_1 v2 = some t := h
    unfold m_laws_eqInt64S_B1 at h
    refine Tr.weakO (Γ' := [(0, (pSl 1 (cK .i64) a_0)), (1, (pSl 1 (cK .i64) b_1)), (5, (pEq (.int .i64 v2)))]) (Ω' := []) rfl ⟨rfl, rfl, rfl, trivial⟩ ?_
    refine Tr.seq ?_
    refine Tr.seq ?_
    refine Tr.region ?_
    refine RegL.pure (p := (pEq (.int .i64 v2))) rfl rfl rfl (J_move rfl (Opd.tmp rfl)) ?_
    refine RegL.pure (p := (pSl 1 (cK .i64) a_0)) rfl rfl rfl (J_move rfl (Opd.tmp rfl)) ?_
    refine RegL.pure (p := (pEq (.int .i64 (a_0.length : Int)))) rfl rfl rfl (J_len rfl Try.underlying22 (Opd.tmp rfl) rfl) ?_
    refine RegL.pure (p := (pEq (.bool (decide (v2 < (a_0.length : Int)))))) rfl rfl rfl (J_bin rfl (Opd.tmp rfl) (Opd.tmp rfl) B_lss) ?_
    refine RegL.nil ?_
    refine Ct.then_tr ?_
    refine Tr.weak (Γ' := [(0, (pSl 1 (cK .i64) a_0)), (1, (pSl 1 (cK .i64) b_1)), (5, (pEq (.int .i64 v2))), (14, (pEq (.bool (decide (v2 < (a_0.length : Int))))))]) ⟨rfl, rfl, rfl, rfl, trivial⟩ ?_
    refine Tr.cond (Opd.tmp rfl) (fun hc => ?_) (fun hc => ?_)
    · replace h := bif_t hc h
      refine Tr.skip ?_
      refine Ct.then_tr ?_
      refine Tr.weak (Γ' := [(0, (pSl 1 (cK .i64) a_0)), (1, (pSl 1 (cK .i64) b_1)), (5, (pEq (.int .i64 v2)))]) ⟨rfl, rfl, rfl, trivial⟩ ?_
      refine Tr.seq ?_
      refine Tr.block ?_
      refine Tr.seq ?_
      replace h := bind_some h; obtain ⟨x4, hx4, h⟩ := h
      replace h := bind_some h; obtain ⟨x5, hx5, h⟩ := h
      refine Tr.draw (n := 26) (es := [Ent.mk [(0, (pSl 1 (cK .i64) a_0))] (pSl 1 (cK .i64) a_0) true, Ent.mk [(5, (pEq (.int .i64 v2)))] (pEq (.int .i64 v2)) true, Ent.mk [(17, (pSl 1 (cK .i64) a_0)), (18, (pEq (.int .i64 v2)))] (pPtr ((cK .i64) x4)) true, Ent.mk [(19, (pPtr ((cK .i64) x4)))] (pEq (.int .i64 x4)) true, Ent.mk [(1, (pSl 1 (cK .i64) b_1))] (pSl 1 (cK .i64) b_1) true, Ent.mk [(5, (pEq (.int .i64 v2)))] (pEq (.int .i64 v2)) true, Ent.mk [(21, (pSl 1 (cK .i64) b_1)), (22, (pEq (.int .i64 v2)))] (pPtr ((cK .i64) x5)) true, Ent.mk [(23, (pPtr ((cK .i64) x5)))] (pEq (.int .i64 x5)) true, Ent.mk [(20, (pEq (.int .i64 x4))), (24, (pEq (.int .i64 x5)))] (pEq (.bool (x4 != x5))) true]) (rd := [[0], [5], [17, 18], [19], [1], [5], [21, 22], [23], [20, 24]]) rfl hmix rfl (by kernel_rfl) ⟨⟨(OpJ.w (J_move rfl (Opd.tmp rfl))), ⟨rfl, trivial⟩, rfl⟩, ⟨(OpJ.w (J_move rfl (Opd.tmp rfl))), ⟨rfl, trivial⟩, rfl⟩, ⟨(OpJ.w (J_idx rfl Try.underlying22 sz2 (Opd.tmp rfl) (Opd.tmp rfl) hx4)), ⟨rfl, rfl, trivial⟩, rfl⟩, ⟨(OpJ.w (J_load rfl Try.isAgg2 (Opd.tmp rfl))), ⟨rfl, trivial⟩, rfl⟩, ⟨(OpJ.w (J_move rfl (Opd.tmp rfl))), ⟨rfl, trivial⟩, rfl⟩, ⟨(OpJ.w (J_move rfl (Opd.tmp rfl))), ⟨rfl, trivial⟩, rfl⟩, ⟨(OpJ.w (J_idx rfl Try.underlying22 sz2 (Opd.tmp rfl) (Opd.tmp rfl) hx5)), ⟨rfl, rfl, trivial⟩, rfl⟩, ⟨(OpJ.w (J_load rfl Try.isAgg2 (Opd.tmp rfl))), ⟨rfl, trivial⟩, rfl⟩, ⟨(OpJ.w (J_bin rfl (Opd.tmp rfl) (Opd.tmp rfl) B_neq)), ⟨rfl, rfl, trivial⟩, rfl⟩, trivial⟩ ?_
      refine Ct.then_tr ?_
      refine Tr.weak (Γ' := [(0, (pSl 1 (cK .i64) a_0)), (1, (pSl 1 (cK .i64) b_1)), (5, (pEq (.int .i64 v2))), (25, (pEq (.bool (x4 != x5))))]) ⟨rfl, rfl, rfl, rfl, trivial⟩ ?_
      refine Tr.cond (Opd.tmp rfl) (fun hc => ?_) (fun hc => ?_)
      · replace h := bif_t hc h
        refine Tr.seq ?_
        refine Tr.region ?_
        refine RegL.pure (p := (pEq (.bool false))) rfl rfl rfl (J_assign rfl Opd.con) ?_
        refine RegL.nil ?_
        refine Ct.then_tr ?_
        refine Tr.weak (Γ' := [(4, (pEq (.bool false)))]) ⟨rfl, trivial⟩ ?_
        refine Tr.ret ?_
        refine Ct.blk_ret ?_
        refine Ct.then_ret ?_
        replace h := map_some h; obtain ⟨r1, h, rfl⟩ := h
        refine Ct.out_ret fun e => ?_
        subst e
        refine Ct.blk_ret ?_
        refine Ct.then_ret ?_
        replace h := Option.some.inj h; subst h
        exact Ct.ret1 rfl rfl
      · replace h := bif_f hc h
        refine Tr.skip ?_
        refine Ct.blk_normal ?_
        refine Ct.then_tr ?_
        refine Tr.weak (Γ' := [(0, (pSl 1 (cK .i64) a_0)), (1, (pSl 1 (cK .i64) b_1)), (5, (pEq (.int .i64 v2)))]) ⟨rfl, rfl, rfl, trivial⟩ ?_
        refine Tr.region ?_
        refine RegL.pure (p := (pEq (.int .i64 v2))) rfl rfl rfl (J_move rfl (Opd.tmp rfl)) ?_
        refine RegL.pure (p := (pEq (.int .i64 (w64 (v2 + (1 : Int)))))) rfl rfl rfl (J_bin rfl (Opd.tmp rfl) Opd.con B_add) ?_
        refine RegL.pure (p := (pEq (.int .i64 (w64 (v2 + (1 : Int)))))) rfl rfl rfl (J_assign rfl (Opd.tmp rfl)) ?_
        refine RegL.nil ?_
        replace h := Option.some.inj h; subst h
        exact Ct.again () rfl ⟨rfl, rfl, rfl, trivial⟩
    · replace h := bif_f hc h
      refine Tr.exit ?_
      refine Ct.then_exit ?_
      replace h := map_some h; obtain ⟨r1, h, rfl⟩ := h
      refine Ct.out_exit fun e => ?_
      subst e
      refine Ct.blk_exit ?_
      refine Ct.then_tr ?_
      refine Tr.weak (Γ' := []) trivial ?_
      refine Tr.seq ?_
      refine Tr.region ?_
      refine RegL.pure (p := (pEq (.bool true))) rfl rfl rfl (J_assign rfl Opd.con) ?_
      refine RegL.nil ?_
      refine Ct.then_tr ?_
      refine Tr.weak (Γ' := [(4, (pEq (.bool true)))]) ⟨rfl, trivial⟩ ?_
      refine Tr.ret ?_
      replace h := Option.some.inj h; subst h
      exact Ct.ret1 rfl rfl

theorem c_laws_eqInt64SS {a_0 : (List (List Int))} {b_1 : (List (List Int))} {r : Bool} (h : m_laws_eqInt64SS a_0 b_1 = some r) : CallJ Try.prog 32 [(pSl 1 (cSl 1 (cK .i64)) a_0), (pSl 1 (cSl 1 (cK .i64)) b_1)] (pEq (.bool r)) := by
  unfold m_laws_eqInt64SS at h
  refine CallJ.enter Try.func32 rfl Try.ntmps32 rfl fun W I0 => ?_
  refine Tr.weak (Γ' := [(0, (pSl 1 (cSl 1 (cK .i64)) a_0)), (1, (pSl 1 (cSl 1 (cK .i64)) b_1))]) ⟨rfl, rfl, trivial⟩ ?_
  refine Tr.seq ?_
  refine Tr.region ?_
  refine RegL.pure (p := (pEq (.bool false))) rfl rfl rfl (J_assign rfl Opd.con) ?_
  refine RegL.nil ?_
  refine Ct.then_tr ?_
  refine Tr.weak (Γ' := [(0, (pSl 1 (cSl 1 (cK .i64)) a_0)), (1, (pSl 1 (cSl 1 (cK .i64)) b_1))]) ⟨rfl, rfl, trivial⟩ ?_
  refine Tr.seq ?_
  refine Tr.seq ?_
  refine Tr.region ?_
  refine RegL.pure (p := (pSl 1 (cSl 1 (cK .i64)) a_0)) rfl rfl rfl (J_move rfl (Opd.tmp rfl)) ?_
  refine RegL.pure (p := (pEq (.int .i64 (a_0.length : Int)))) rfl rfl rfl (J_len rfl Try.underlying27 (Opd.tmp rfl) rfl) ?_
  refine RegL.pure (p := (pSl 1 (cSl 1 (cK .i64)) b_1)) rfl rfl rfl (J_move rfl (Opd.tmp rfl)) ?_
  refine RegL.pure (p := (pEq (.int .i64 (b_1.length : Int)))) rfl rfl rfl (J_len rfl Try.underlying27 (Opd.tmp rfl) rfl) ?_
  refine RegL.pure (p := (pEq (.bool ((a_0.length : Int) != (b_1.length : Int))))) rfl rfl rfl (J_bin rfl (Opd.tmp rfl) (Opd.tmp rfl) B_neq) ?_
  refine RegL.nil ?_
  refine Ct.then_tr ?_
  refine Tr.weak (Γ' := [(0, (pSl 1 (cSl 1 (cK .i64)) a_0)), (1, (pSl 1 (cSl 1 (cK .i64)) b_1)), (10, (pEq (.bool ((a_0.length : Int) != (b_1.length : Int)))))]) ⟨rfl, rfl, rfl, trivial⟩ ?_
  refine Tr.cond (Opd.tmp rfl) (fun hc => ?_) (fun hc => ?_)
  · replace h := bif_t hc h
    refine Tr.seq ?_
    refine Tr.region ?_
    refine RegL.pure (p := (pEq (.bool false))) rfl rfl rfl (J_assign rfl Opd.con) ?_
    refine RegL.nil ?_
    refine Ct.then_tr ?_
    refine Tr.weak (Γ' := [(4, (pEq (.bool false)))]) ⟨rfl, trivial⟩ ?_
    refine Tr.ret ?_
    refine Ct.then_ret ?_
    replace h := Option.some.inj h; subst h
    exact Ct.ret1 rfl rfl
  · replace h := bif_f hc h
    refine Tr.skip ?_
    refine Ct.then_tr ?_
    refine Tr.weak (Γ' := [(0, (pSl 1 (cSl 1 (cK .i64)) a_0)), (1, (pSl 1 (cSl 1 (cK .i64)) b_1))]) ⟨rfl, rfl, trivial⟩ ?_
    refine Tr.seq ?_
    refine Tr.seq ?_
    refine Tr.region ?_
    refine RegL.pure (p := (pEq (.int .i64 (0 : Int)))) rfl rfl rfl (J_assign rfl Opd.con) ?_
    refine RegL.nil ?_
    refine Ct.then_tr ?_
    refine Tr.weak (Γ' := [(0, (pSl 1 (cSl 1 (cK .i64)) a_0)), (1, (pSl 1 (cSl 1 (cK .i64)) b_1)), (5, (pEq (.int .i64 (0 : Int))))]) ⟨rfl, rfl, rfl, trivial⟩ ?_
    refine Tr.block ?_
    refine Tr.weak (Γ' := [(0, (pSl 1 (cSl 1 (cK .i64)) a_0)), (1, (pSl 1 (cSl 1 (cK .i64)) b_1)), (5, (pEq (.int .i64 (0 : Int))))]) ⟨rfl, rfl, rfl, trivial⟩ ?_
    refine Tr.loop (γ := Unit) (σ := Int) (Γσ := fun s g => [(0, (pSl 1 (cSl 1 (cK .i64)) a_0)), (1, (pSl 1 (cSl 1 (cK .i64)) b_1)), (5, (pEq (.int .i64 s)))]) (Ωσ := fun s g => []) (g := ()) h ?_
    clear h
    rintro v2 g3 t h
    replace h : m_laws_eqInt64SS_B1 a_0 b_1 v2 = some t := h
    unfold m_laws_eqInt64SS_B1 at h
    refine Tr.weakO (Γ' := [(0, (pSl 1 (cSl 1 (cK .i64)) a_0)), (1, (pSl 1 (cSl 1 (cK .i64)) b_1)), (5, (pEq (.int .i64 v2)))]) (Ω' := []) rfl ⟨rfl, rfl, rfl, trivial⟩ ?_
    refine Tr.seq ?_
    refine Tr.seq ?_
    refine Tr.region ?_
    refine RegL.pure (p := (pEq (.int .i64 v2))) rfl rfl rfl (J_move rfl (Opd.tmp rfl)) ?_
    refine RegL.pure (p := (pSl 1 (cSl 1 (cK .i64)) a_0)) rfl rfl rfl (J_move rfl (Opd.tmp rfl)) ?_
    refine RegL.pure (p := (pEq (.int .i64 (a_0.length : Int)))) rfl rfl rfl (J_len rfl Try.underlying27 (Opd.tmp rfl) rfl) ?_
    refine RegL.pure (p := (pEq (.bool (decide (v2 < (a_0.length : Int)))))) rfl rfl rfl (J_bin rfl (Opd.tmp rfl) (Opd.tmp rfl) B_lss) ?_
    refine RegL.nil ?_
    refine Ct.then_tr ?_
    refine Tr.weak (Γ' := [(0, (pSl 1 (cSl 1 (cK .i64)) a_0)), (1, (pSl 1 (cSl 1 (cK .i64)) b_1)), (5, (pEq (.int .i64 v2))), (14, (pEq (.bool (decide (v2 < (a_0.length : Int))))))]) ⟨rfl, rfl, rfl, rfl, trivial⟩ ?_
    refine Tr.cond (Opd.tmp rfl) (fun hc => ?_) (fun hc => ?_)
    · replace h := bif_t hc h
      refine Tr.skip ?_
      refine Ct.then_tr ?_
      refine Tr.weak (Γ' := [(0, (pSl 1 (cSl 1 (cK .i64)) a_0)), (1, (pSl 1 (cSl 1 (cK .i64)) b_1)), (5, (pEq (.int .i64 v2)))]) ⟨rfl, rfl, rfl, trivial⟩ ?_
      refine Tr.seq ?_
      refine Tr.block ?_
      refine Tr.seq ?_
      replace h := bind_some h; obtain ⟨x4, hx4, h⟩ := h
      replace h := bind_some h; obtain ⟨x5, hx5, h⟩ := h
      replace h := bind_some h; obtain ⟨x6, hx6, h⟩ := h
      refine Tr.draw (n := 27) (es := [Ent.mk [(0, (pSl 1 (cSl 1 (cK .i64)) a_0))] (pSl 1 (cSl 1 (cK .i64)) a_0) true, Ent.mk [(5, (pEq (.int .i64 v2)))] (pEq (.int .i64 v2)) true, Ent.mk [(17, (pSl 1 (cSl 1 (cK .i64)) a_0)), (18, (pEq (.int .i64 v2)))] (pPtr ((cSl 1 (cK .i64)) x4)) true, Ent.mk [(19, (pPtr ((cSl 1 (cK .i64)) x4)))] (pSl 1 (cK .i64) x4) true, Ent.mk [(1, (pSl 1 (cSl 1 (cK .i64)) b_1))] (pSl 1 (cSl 1 (cK .i64)) b_1) true, Ent.mk [(5, (pEq (.int .i64 v2)))] (pEq (.int .i64 v2)) true, Ent.mk [(21, (pSl 1 (cSl 1 (cK .i64)) b_1)), (22, (pEq (.int .i64 v2)))] (pPtr ((cSl 1 (cK .i64)) x5)) true, Ent.mk [(23, (pPtr ((cSl 1 (cK .i64)) x5)))] (pSl 1 (cK .i64) x5) true, Ent.mk [(20, (pSl 1 (cK .i64) x4)), (24, (pSl 1 (cK .i64) x5))] (pEq (.bool x6)) true, Ent.mk [(25, (pEq (.bool x6)))] (pEq (.bool (!x6))) true]) (rd := [[0], [5], [17, 18], [19], [1], [5], [21, 22], [23], [20, 24], [25]]) rfl hmix rfl (by kernel_rfl) ⟨⟨(OpJ.w (J_move rfl (Opd.tmp rfl))), ⟨rfl, trivial⟩, rfl⟩, ⟨(OpJ.w (J_move rfl (Opd.tmp rfl))), ⟨rfl, trivial⟩, rfl⟩, ⟨(OpJ.w (J_idx rfl Try.underlying27 sz22 (Opd.tmp rfl) (Opd.tmp rfl) hx4)), ⟨rfl, rfl, trivial⟩, rfl⟩, ⟨(OpJ.w (J_load rfl Try.isAgg22 (Opd.tmp rfl))), ⟨rfl, trivial⟩, rfl⟩, ⟨(OpJ.w (J_move rfl (Opd.tmp rfl))), ⟨rfl, trivial⟩, rfl⟩, ⟨(OpJ.w (J_move rfl (Opd.tmp rfl))), ⟨rfl, trivial⟩, rfl⟩, ⟨(OpJ.w (J_idx rfl Try.underlying27 sz22 (Opd.tmp rfl) (Opd.tmp rfl) hx5)), ⟨rfl, rfl, trivial⟩, rfl⟩, ⟨(OpJ.w (J_load rfl Try.isAgg22 (Opd.tmp rfl))), ⟨rfl, trivial⟩, rfl⟩, ⟨(OpJ.w (J_call rfl Try.call18 (c_laws_eqInt64S hx6) (Opds.cons (Opd.tmp rfl) (Opds.cons (Opd.tmp rfl) Opds.nil)))), ⟨rfl, rfl, trivial⟩, rfl⟩, ⟨(OpJ.w (J_not rfl (Opd.tmp rfl))), ⟨rfl, trivial⟩, rfl⟩, trivial⟩ ?_
      refine Ct.then_tr ?_
      refine Tr.weak (Γ' := [(0, (pSl 1 (cSl 1 (cK .i64)) a_0)), (1, (pSl 1 (cSl 1 (cK .i64)) b_1)), (5, (pEq (.int .i64 v2))), (26, (pEq (.bool (!x6))))]) ⟨rfl, rfl, rfl, rfl, trivial⟩ ?_
      refine Tr.cond (Opd.tmp rfl) (fun hc => ?_) (fun hc => ?_)
      · replace h := bif_t hc h
        refine Tr.seq ?_
        refine Tr.region ?_
        refine RegL.pure (p := (pEq (.bool false))) rfl rfl rfl (J_assign rfl Opd.con) ?_
        refine RegL.nil ?_
        refine Ct.then_tr ?_
        refine Tr.weak (Γ' := [(4, (pEq (.bool false)))]) ⟨rfl, trivial⟩ ?_
        refine Tr.ret ?_
        refine Ct.blk_ret ?_
        refine Ct.then_ret ?_
        replace h := map_some h; obtain ⟨r1, h, rfl⟩ := h
        refine Ct.out_ret fun e => ?_
        subst e
        refine Ct.blk_ret ?_
        refine Ct.then_ret ?_
        replace h := Option.some.inj h; subst h
        exact Ct.ret1 rfl rfl
      · replace h := bif_f hc h
        refine Tr.skip ?_
        refine Ct.blk_normal ?_
        refine Ct.then_tr ?_
        refine Tr.weak (Γ' := [(0, (pSl 1 (cSl 1 (cK .i64)) a_0)), (1, (pSl 1 (cSl 1 (cK .i64)) b_1)), (5, (pEq (.int .i64 v2)))]) ⟨rfl, rfl, rfl, trivial⟩ ?_
        refine Tr.region ?_
        refine RegL.pure (p := (pEq (.int .i64 v2))) rfl rfl rfl (J_move rfl (Opd.tmp rfl)) ?_
        refine RegL.pure (p := (pEq (.int .i64 (w64 (v2 + (1 : Int)))))) rfl rfl rfl (J_bin rfl (Opd.tmp rfl) Opd.con B_add) ?_
        refine RegL.pure (p := (pEq (.int .i64 (w64 (v2 + (1 : Int)))))) rfl rfl rfl (J_assign rfl (Opd.tmp rfl)) ?_
        refine RegL.nil ?_
        replace h := Option.some.inj h; subst h
        exact Ct.again () rfl ⟨rfl, rfl, rfl, trivial⟩
    · replace h := bif_f hc h
      refine Tr.exit ?_
      refine Ct.then_exit ?_
      replace h := map_some h; obtain ⟨r1, h, rfl⟩ := h
      refine Ct.out_exit fun e => ?_
      subst e
      refine Ct.blk_exit ?_
      refine Ct.then_tr ?_
      refine Tr.weak (Γ' := []) trivial ?_
      refine Tr.seq ?_
      refine Tr.region ?_
      refine RegL.pure (p := (pEq (.bool true))) rfl rfl rfl (J_assign rfl Opd.con) ?_
      refine RegL.nil ?_
      refine Ct.then_tr ?_
      refine Tr.weak (Γ' := [(4, (pEq (.bool true)))]) ⟨rfl, trivial⟩ ?_
      refine Tr.ret ?_
      replace h := Option.some.inj h; subst h
      exact Ct.ret1 rfl rfl

theorem c_laws_eqProblem {a_0 : GProblem} {b_1 : GProblem} {r : Bool} (h : m_laws_eqProblem a_0 b_1 = some r) : CallJ Try.prog 23 [(pAgg (cGProblem a_0)), (pAgg (cGProblem b_1))] (pEq (.bool r)) := by
  unfold m_laws_eqProblem at h
  refine CallJ.enter Try.func23 rfl Try.ntmps23 rfl fun W I0 => ?_
  refine Tr.weak (Γ' := [(0, (pAgg (cGProblem a_0))), (1, (pAgg (cGProblem b_1)))]) ⟨rfl, rfl, trivial⟩ ?_
  refine Tr.seq ?_
  refine Tr.region ?_
  refine RegL.pure (p := (pPtr (cGProblem a_0))) rfl rfl rfl (J_boxA rfl (Opd.tmp rfl)) ?_
  refine RegL.pure (p := (pPtr (cGProblem b_1))) rfl rfl rfl (J_boxA rfl (Opd.tmp rfl)) ?_
  refine RegL.pure (p := (pEq (.bool false))) rfl rfl rfl (J_assign rfl Opd.con) ?_
  refine RegL.nil ?_
  refine Ct.then_tr ?_
  refine Tr.weak (Γ' := [(2, (pPtr (cGProblem a_0))), (3, (pPtr (cGProblem b_1)))]) ⟨rfl, rfl, trivial⟩ ?_
  refine Tr.seq ?_
  refine Tr.seq ?_
  refine Tr.region ?_
  refine RegL.pure (p := (pPtr ((cSl 1 (cSl 1 (cK .i64))) a_0.Domains))) rfl rfl rfl (J_fieldAddr rfl Try.underlying32 rfl sz27 (by decide) (Opd.tmp rfl) rfl) ?_
  refine RegL.pure (p := (pSl 1 (cSl 1 (cK .i64)) a_0.Domains)) rfl rfl rfl (J_load rfl Try.isAgg27 (Opd.tmp rfl)) ?_
  refine RegL.pure (p := (pPtr ((cSl 1 (cSl 1 (cK .i64))) b_1.Domains))) rfl rfl rfl (J_fieldAddr rfl Try.underlying32 rfl sz27 (by decide) (Opd.tmp rfl) rfl) ?_
  refine RegL.pure (p := (pSl 1 (cSl 1 (cK .i64)) b_1.Domains)) rfl rfl rfl (J_load rfl Try.isAgg27 (Opd.tmp rfl)) ?_
  replace h := bind_some h; obtain ⟨x1, hx1, h⟩ := h
  refine RegL.pure (p := (pEq (.bool x1))) rfl rfl rfl (J_call rfl Try.call32 (c_laws_eqInt64SS hx1) (Opds.cons (Opd.tmp rfl) (Opds.cons (Opd.tmp rfl) Opds.nil))) ?_
  refine RegL.pure (p := (pEq (.bool (!x1)))) rfl rfl rfl (J_not rfl (Opd.tmp rfl)) ?_
  refine RegL.nil ?_
  refine Ct.then_tr ?_
  refine Tr.weak (Γ' := [(2, (pPtr (cGProblem a_0))), (3, (pPtr (cGProblem b_1))), (10, (pEq (.bool (!x1))))]) ⟨rfl, rfl, rfl, trivial⟩ ?_
  refine Tr.cond (Opd.tmp rfl) (fun hc => ?_) (fun hc => ?_)
  · replace h := bif_t hc h
    refine Tr.seq ?_
    refine Tr.region ?_
    refine RegL.pure (p := (pEq (.bool false))) rfl rfl rfl (J_assign rfl Opd.con) ?_
    refine RegL.nil ?_
    refine Ct.then_tr ?_
    refine Tr.weak (Γ' := [(4, (pEq (.bool false)))]) ⟨rfl, trivial⟩ ?_
    refine Tr.ret ?_
    refine Ct.then_ret ?_
    replace h := Option.some.inj h; subst h
    exact Ct.ret1 rfl rfl
  · replace h := bif_f hc h
    refine Tr.skip ?_
    refine Ct.then_tr ?_
    refine Tr.weak (Γ' := [(2, (pPtr (cGProblem a_0))), (3, (pPtr (cGProblem b_1)))]) ⟨rfl, rfl, trivial⟩ ?_
    refine Tr.seq ?_
    refine Tr.seq ?_
    refine Tr.region ?_
    refine RegL.pure (p := (pPtr ((cSl 1 (cSl 1 (cK .i64))) a_0.Apart))) rfl rfl rfl (J_fieldAddr rfl Try.underlying32 rfl sz27 (by decide) (Opd.tmp rfl) rfl) ?_
    refine RegL.pure (p := (pSl 1 (cSl 1 (cK .i64)) a_0.Apart)) rfl rfl rfl (J_load rfl Try.isAgg27 (Opd.tmp rfl)) ?_
    refine RegL.pure (p := (pPtr ((cSl 1 (cSl 1 (cK .i64))) b_1.Apart))) rfl rfl rfl (J_fieldAddr rfl Try.underlying32 rfl sz27 (by decide) (Opd.tmp rfl) rfl) ?_
    refine RegL.pure (p := (pSl 1 (cSl 1 (cK .i64)) b_1.Apart)) rfl rfl rfl (J_load rfl Try.isAgg27 (Opd.tmp rfl)) ?_
    replace h := bind_some h; obtain ⟨x2, hx2, h⟩ := h
    refine RegL.pure (p := (pEq (.bool x2))) rfl rfl rfl (J_call rfl Try.call32 (c_laws_eqInt64SS hx2) (Opds.cons (Opd.tmp rfl) (Opds.cons (Opd.tmp rfl) Opds.nil))) ?_
    refine RegL.pure (p := (pEq (.bool (!x2)))) rfl rfl rfl (J_not rfl (Opd.tmp rfl)) ?_
    refine RegL.nil ?_
    refine Ct.then_tr ?_
    refine Tr.weak (Γ' := [(16, (pEq (.bool (!x2))))]) ⟨rfl, trivial⟩ ?_
    refine Tr.cond (Opd.tmp rfl) (fun hc => ?_) (fun hc => ?_)
    · replace h := bif_t hc h
      refine Tr.seq ?_
      refine Tr.region ?_
      refine RegL.pure (p := (pEq (.bool false))) rfl rfl rfl (J_assign rfl Opd.con) ?_
      refine RegL.nil ?_
      refine Ct.then_tr ?_
      refine Tr.weak (Γ' := [(4, (pEq (.bool false)))]) ⟨rfl, trivial⟩ ?_
      refine Tr.ret ?_
      refine Ct.then_ret ?_
      replace h := Option.some.inj h; subst h
      exact Ct.ret1 rfl rfl
    · replace h := bif_f hc h
      refine Tr.skip ?_
      refine Ct.then_tr ?_
      refine Tr.weak (Γ' := []) trivial ?_
      refine Tr.seq ?_
      refine Tr.region ?_
      refine RegL.pure (p := (pEq (.bool true))) rfl rfl rfl (J_assign rfl Opd.con) ?_
      refine RegL.nil ?_
      refine Ct.then_tr ?_
      refine Tr.weak (Γ' := [(4, (pEq (.bool true)))]) ⟨rfl, trivial⟩ ?_
      refine Tr.ret ?_
      replace h := Option.some.inj h; subst h
      exact Ct.ret1 rfl rfl

theorem c_laws_FnExactSameProblem {aA_0 : GProblem} {aB_1 : GProblem} {r : Bool} (h : m_laws_FnExactSameProblem aA_0 aB_1 = some r) : CallJ Try.prog 4 [(pAgg (cGProblem aA_0)), (pAgg (cGProblem aB_1))] (pEq (.bool r)) := by
  unfold m_laws_FnExactSameProblem at h
  refine CallJ.enter Try.func4 rfl Try.ntmps4 rfl fun W I0 => ?_
  refine Tr.weak (Γ' := [(0, (pAgg (cGProblem aA_0))), (1, (pAgg (cGProblem aB_1)))]) ⟨rfl, rfl, trivial⟩ ?_
  refine Tr.seq ?_
  refine Tr.region ?_
  refine RegL.pure (p := (pPtr (cGProblem aA_0))) rfl rfl rfl (J_boxA rfl (Opd.tmp rfl)) ?_
  refine RegL.pure (p := (pPtr (cGProblem aB_1))) rfl rfl rfl (J_boxA rfl (Opd.tmp rfl)) ?_
  refine RegL.pure (p := (pEq (.bool false))) rfl rfl rfl (J_assign rfl Opd.con) ?_
  refine RegL.nil ?_
  refine Ct.then_tr ?_
  refine Tr.weak (Γ' := [(2, (pPtr (cGProblem aA_0))), (3, (pPtr (cGProblem aB_1)))]) ⟨rfl, rfl, trivial⟩ ?_
  refine Tr.seq ?_
  refine Tr.region ?_
  refine RegL.pure (p := (pEq (.int .i64 (1048576 : Int)))) rfl rfl rfl (J_assign rfl Opd.con) ?_
  refine RegL.nil ?_
  refine Ct.then_tr ?_
  refine Tr.weak (Γ' := [(2, (pPtr (cGProblem aA_0))), (3, (pPtr (cGProblem aB_1))), (5, (pEq (.int .i64 (1048576 : Int))))]) ⟨rfl, rfl, rfl, trivial⟩ ?_
  refine Tr.seq ?_
  refine Tr.region ?_
  refine RegL.pure (p := (pAgg (cGProblem aA_0))) rfl rfl rfl (J_loadA rfl Try.isAgg29 sz29 (Opd.tmp rfl) rfl) ?_
  refine RegL.pure (p := (pEq (.int .i64 (1048576 : Int)))) rfl rfl rfl (J_move rfl (Opd.tmp rfl)) ?_
  replace h := bind_some h; obtain ⟨x1, hx1, h⟩ := h
  refine RegL.pure (p := (pEq (.int .i64 x1))) rfl rfl rfl (J_call rfl Try.call19 (c_laws_szProblem hx1) (Opds.cons (Opd.tmp rfl) (Opds.cons (Opd.tmp rfl) Opds.nil))) ?_
  refine RegL.pure (p := (pEq (.int .i64 x1))) rfl rfl rfl (J_assign rfl (Opd.tmp rfl)) ?_
  refine RegL.nil ?_
  refine Ct.then_tr ?_
  refine Tr.weak (Γ' := [(2, (pPtr (cGProblem aA_0))), (3, (pPtr (cGProblem aB_1))), (5, (pEq (.int .i64 x1)))]) ⟨rfl, rfl, rfl, trivial⟩ ?_
  refine Tr.seq ?_
  refine Tr.seq ?_
  refine Tr.region ?_
  refine RegL.pure (p := (pEq (.int .i64 x1))) rfl rfl rfl (J_move rfl (Opd.tmp rfl)) ?_
  refine RegL.pure (p := (pEq (.bool (decide (x1 < (0 : Int)))))) rfl rfl rfl (J_bin rfl (Opd.tmp rfl) Opd.con B_lss) ?_
  refine RegL.nil ?_
  refine Ct.then_tr ?_
  refine Tr.weak (Γ' := [(2, (pPtr (cGProblem aA_0))), (3, (pPtr (cGProblem aB_1))), (5, (pEq (.int .i64 x1))), (14, (pEq (.bool (decide (x1 < (0 : Int))))))]) ⟨rfl, rfl, rfl, rfl, trivial⟩ ?_
  refine Tr.cond (Opd.tmp rfl) (fun hc => ?_) (fun hc => ?_)
  · replace h := bif_t hc h
    refine Tr.seq ?_
    refine Tr.region ?_
    refine RegL.pure (p := (pEq (.bool true))) rfl rfl rfl (J_assign rfl Opd.con) ?_
    refine RegL.nil ?_
    refine Ct.then_tr ?_
    refine Tr.weak (Γ' := [(4, (pEq (.bool true)))]) ⟨rfl, trivial⟩ ?_
    refine Tr.ret ?_
    refine Ct.then_ret ?_
    replace h := Option.some.inj h; subst h
    exact Ct.ret1 rfl rfl
  · replace h := bif_f hc h
    refine Tr.skip ?_
    refine Ct.then_tr ?_
    refine Tr.weak (Γ' := [(2, (pPtr (cGProblem aA_0))), (3, (pPtr (cGProblem aB_1))), (5, (pEq (.int .i64 x1)))]) ⟨rfl, rfl, rfl, trivial⟩ ?_
    refine Tr.seq ?_
    refine Tr.region ?_
    refine RegL.pure (p := (pAgg (cGProblem aB_1))) rfl rfl rfl (J_loadA rfl Try.isAgg29 sz29 (Opd.tmp rfl) rfl) ?_
    refine RegL.pure (p := (pEq (.int .i64 x1))) rfl rfl rfl (J_move rfl (Opd.tmp rfl)) ?_
    replace h := bind_some h; obtain ⟨x2, hx2, h⟩ := h
    refine RegL.pure (p := (pEq (.int .i64 x2))) rfl rfl rfl (J_call rfl Try.call19 (c_laws_szProblem hx2) (Opds.cons (Opd.tmp rfl) (Opds.cons (Opd.tmp rfl) Opds.nil))) ?_
    refine RegL.pure (p := (pEq (.int .i64 x2))) rfl rfl rfl (J_assign rfl (Opd.tmp rfl)) ?_
    refine RegL.nil ?_
    refine Ct.then_tr ?_
    refine Tr.weak (Γ' := [(2, (pPtr (cGProblem aA_0))), (3, (pPtr (cGProblem aB_1))), (5, (pEq (.int .i64 x2)))]) ⟨rfl, rfl, rfl, trivial⟩ ?_
    refine Tr.seq ?_
    refine Tr.seq ?_
    refine Tr.region ?_
    refine RegL.pure (p := (pEq (.int .i64 x2))) rfl rfl rfl (J_move rfl (Opd.tmp rfl)) ?_
    refine RegL.pure (p := (pEq (.bool (decide (x2 < (0 : Int)))))) rfl rfl rfl (J_bin rfl (Opd.tmp rfl) Opd.con B_lss) ?_
    refine RegL.nil ?_
    refine Ct.then_tr ?_
    refine Tr.weak (Γ' := [(2, (pPtr (cGProblem aA_0))), (3, (pPtr (cGProblem aB_1))), (19, (pEq (.bool (decide (x2 < (0 : Int))))))]) ⟨rfl, rfl, rfl, trivial⟩ ?_
    refine Tr.cond (Opd.tmp rfl) (fun hc => ?_) (fun hc => ?_)
    · replace h := bif_t hc h
      refine Tr.seq ?_
      refine Tr.region ?_
      refine RegL.pure (p := (pEq (.bool true))) rfl rfl rfl (J_assign rfl Opd.con) ?_
      refine RegL.nil ?_
      refine Ct.then_tr ?_
      refine Tr.weak (Γ' := [(4, (pEq (.bool true)))]) ⟨rfl, trivial⟩ ?_
      refine Tr.ret ?_
      refine Ct.then_ret ?_
      replace h := Option.some.inj h; subst h
      exact Ct.ret1 rfl rfl
    · replace h := bif_f hc h
      refine Tr.skip ?_
      refine Ct.then_tr ?_
      refine Tr.weak (Γ' := [(2, (pPtr (cGProblem aA_0))), (3, (pPtr (cGProblem aB_1)))]) ⟨rfl, rfl, trivial⟩ ?_
      refine Tr.seq ?_
      replace h := bind_some h; obtain ⟨x3, hx3, h⟩ := h
      replace h := bind_some h; obtain ⟨x4, hx4, h⟩ := h
      replace h := bind_some h; obtain ⟨x5, hx5, h⟩ := h
      refine Tr.draw (n := 45) (es := [Ent.mk [(2, (pPtr (cGProblem aA_0)))] (pAgg (cGProblem aA_0)) true, Ent.mk [(20, (pAgg (cGProblem aA_0)))] (pAgg (cGProblem x3)) true, Ent.mk [(3, (pPtr (cGProblem aB_1)))] (pAgg (cGProblem aB_1)) true, Ent.mk [(22, (pAgg (cGProblem aB_1)))] (pAgg (cGProblem x4)) true, Ent.mk [(21, (pAgg (cGProblem x3))), (23, (pAgg (cGProblem x4)))] (pEq (.bool x5)) true, Ent.mk [(24, (pEq (.bool x5)))] (pEq (.bool x5)) true]) (rd := [[2], [20], [3], [22], [21, 23], [24]]) rfl hmix rfl (by kernel_rfl) ⟨⟨(OpJ.w (J_loadA rfl Try.isAgg29 sz29 (Opd.tmp rfl) rfl)), ⟨rfl, trivial⟩, rfl⟩, ⟨(OpJ.w (J_call rfl Try.call21 (c_laws_toProblem hx3) (Opds.cons (Opd.tmp rfl) Opds.nil))), ⟨rfl, trivial⟩, rfl⟩, ⟨(OpJ.w (J_loadA rfl Try.isAgg29 sz29 (Opd.tmp rfl) rfl)), ⟨rfl, trivial⟩, rfl⟩, ⟨(OpJ.w (J_call rfl Try.call21 (c_laws_toProblem hx4) (Opds.cons (Opd.tmp rfl) Opds.nil))), ⟨rfl, trivial⟩, rfl⟩, ⟨(OpJ.w (J_call rfl Try.call20 (c_spec_SameProblem hx5) (Opds.cons (Opd.tmp rfl) (Opds.cons (Opd.tmp rfl) Opds.nil)))), ⟨rfl, rfl, trivial⟩, rfl⟩, ⟨(OpJ.w (J_assign rfl (Opd.tmp rfl))), ⟨rfl, trivial⟩, rfl⟩, trivial⟩ ?_
      refine Ct.then_tr ?_
      refine Tr.weak (Γ' := [(2, (pPtr (cGProblem aA_0))), (3, (pPtr (cGProblem aB_1))), (6, (pEq (.bool x5)))]) ⟨rfl, rfl, rfl, trivial⟩ ?_
      refine Tr.seq ?_
      refine Tr.region ?_
      refine RegL.pure (p := (pAgg (cGProblem aA_0))) rfl rfl rfl (J_loadA rfl Try.isAgg29 sz29 (Opd.tmp rfl) rfl) ?_
      replace h := bind_some h; obtain ⟨x6, hx6, h⟩ := h
      refine RegL.pure (p := (pAgg (cGProblem x6))) rfl rfl rfl (J_call rfl Try.call21 (c_laws_toProblem hx6) (Opds.cons (Opd.tmp rfl) Opds.nil)) ?_
      refine RegL.step (γ := Nat) (p := fun b => pEq (.pointer (some ⟨b, 0, none⟩))) (Ω' := fun b => [oBlk b [(pSl 1 (cSl 1 (cK .i64)) ([] : (List (List Int)))), (pSl 1 (cSl 1 (cK .i64)) ([] : (List (List Int))))]]) rfl rfl rfl (M_alloc rfl zero32) fun b7 => ?_
      refine RegL.stepN (γ := Unit) (p := fun _ => pAny) (Ω' := fun _ => [oBlk b7 [(pSl 1 (cSl 1 (cK .i64)) x6.Domains), (pSl 1 (cSl 1 (cK .i64)) x6.Apart)]]) rfl rfl (M_storeA rfl sz32 (Opd.tmp rfl) (Opd.tmp rfl) (fun _ _ _ h => ones_of ((OneCs.cons OneC.sl (OneCs.cons OneC.sl OneCs.nil))) h) rfl rfl) fun _ => ?_
      refine RegL.freeze (s := 7) rfl ?_
      refine RegL.nil ?_
      refine Ct.then_tr ?_
      refine Tr.weak (Γ' := [(2, (pPtr (cGProblem aA_0))), (3, (pPtr (cGProblem aB_1))), (6, (pEq (.bool x5))), (7, (pPtr (cGProblem x6)))]) ⟨rfl, rfl, rfl, rfl, trivial⟩ ?_
      refine Tr.seq ?_
      refine Tr.region ?_
      refine RegL.pure (p := (pAgg (cGProblem aB_1))) rfl rfl rfl (J_loadA rfl Try.isAgg29 sz29 (Opd.tmp rfl) rfl) ?_
      replace h := bind_some h; obtain ⟨x8, hx8, h⟩ := h
      refine RegL.pure (p := (pAgg (cGProblem x8))) rfl rfl rfl (J_call rfl Try.call21 (c_laws_toProblem hx8) (Opds.cons (Opd.tmp rfl) Opds.nil)) ?_
      refine RegL.step (γ := Nat) (p := fun b => pEq (.pointer (some ⟨b, 0, none⟩))) (Ω' := fun b => [oBlk b [(pSl 1 (cSl 1 (cK .i64)) ([] : (List (List Int)))), (pSl 1 (cSl 1 (cK .i64)) ([] : (List (List Int))))]]) rfl rfl rfl (M_alloc rfl zero32) fun b9 => ?_
      refine RegL.stepN (γ := Unit) (p := fun _ => pAny) (Ω' := fun _ => [oBlk b9 [(pSl 1 (cSl 1 (cK .i64)) x8.Domains), (pSl 1 (cSl 1 (cK .i64)) x8.Apart)]]) rfl rfl (M_storeA rfl sz32 (Opd.tmp rfl) (Opd.tmp rfl) (fun _ _ _ h => ones_of ((OneCs.cons OneC.sl (OneCs.cons OneC.sl OneCs.nil))) h) rfl rfl) fun _ => ?_
      refine RegL.freeze (s := 8) rfl ?_
      refine RegL.nil ?_
      refine Ct.then_tr ?_
      refine Tr.weak (Γ' := [(2, (pPtr (cGProblem aA_0))), (3, (pPtr (cGProblem aB_1))), (6, (pEq (.bool x5))), (7, (pPtr (cGProblem x6))), (8, (pPtr (cGProblem x8)))]) ⟨rfl, rfl, rfl, rfl, rfl, trivial⟩ ?_
      refine Tr.seq ?_
      refine Tr.region ?_
      refine RegL.pure (p := (pAgg (cGProblem x6))) rfl rfl rfl (J_loadA rfl Try.isAgg32 sz32 (Opd.tmp rfl) rfl) ?_
      refine RegL.pure (p := (pAgg (cGProblem x8))) rfl rfl rfl (J_loadA rfl Try.isAgg32 sz32 (Opd.tmp rfl) rfl) ?_
      replace h := bind_some h; obtain ⟨x10, hx10, h⟩ := h
      refine RegL.pure (p := (pEq (.bool x10))) rfl rfl rfl (J_call rfl Try.call22 (c_impl_SameProblem hx10) (Opds.cons (Opd.tmp rfl) (Opds.cons (Opd.tmp rfl) Opds.nil))) ?_
      refine RegL.pure (p := (pEq (.bool x10))) rfl rfl rfl (J_assign rfl (Opd.tmp rfl)) ?_
      refine RegL.nil ?_
      refine Ct.then_tr ?_
      refine Tr.weak (Γ' := [(2, (pPtr (cGProblem aA_0))), (3, (pPtr (cGProblem aB_1))), (6, (pEq (.bool x5))), (7, (pPtr (cGProblem x6))), (8, (pPtr (cGProblem x8))), (9, (pEq (.bool x10)))]) ⟨rfl, rfl, rfl, rfl, rfl, rfl, trivial⟩ ?_
      refine Tr.seq ?_
      refine Tr.seq ?_
      refine Tr.region ?_
      refine RegL.pure (p := (pEq (.bool x10))) rfl rfl rfl (J_move rfl (Opd.tmp rfl)) ?_
      refine RegL.pure (p := (pEq (.bool x5))) rfl rfl rfl (J_move rfl (Opd.tmp rfl)) ?_
      refine RegL.pure (p := (pEq (.bool (x10 != x5)))) rfl rfl rfl (J_bin rfl (Opd.tmp rfl) (Opd.tmp rfl) (B_bneq Try.underlying4)) ?_
      refine RegL.nil ?_
      refine Ct.then_tr ?_
      refine Tr.weak (Γ' := [(2, (pPtr (cGProblem aA_0))), (3, (pPtr (cGProblem aB_1))), (7, (pPtr (cGProblem x6))), (8, (pPtr (cGProblem x8))), (34, (pEq (.bool (x10 != x5))))]) ⟨rfl, rfl, rfl, rfl, rfl, trivial⟩ ?_
      refine Tr.cond (Opd.tmp rfl) (fun hc => ?_) (fun hc => ?_)
      · replace h := bif_t hc h
        refine Tr.seq ?_
        refine Tr.region ?_
        refine RegL.pure (p := (pEq (.bool false))) rfl rfl rfl (J_assign rfl Opd.con) ?_
        refine RegL.nil ?_
        refine Ct.then_tr ?_
        refine Tr.weak (Γ' := [(4, (pEq (.bool false)))]) ⟨rfl, trivial⟩ ?_
        refine Tr.ret ?_
        refine Ct.then_ret ?_
        replace h := Option.some.inj h; subst h
        exact Ct.ret1 rfl rfl
      · replace h := bif_f hc h
        refine Tr.skip ?_
        refine Ct.then_tr ?_
        refine Tr.weak (Γ' := [(2, (pPtr (cGProblem aA_0))), (3, (pPtr (cGProblem aB_1))), (7, (pPtr (cGProblem x6))), (8, (pPtr (cGProblem x8)))]) ⟨rfl, rfl, rfl, rfl, trivial⟩ ?_
        refine Tr.seq ?_
        refine Tr.seq ?_
        replace h := bind_some h; obtain ⟨x11, hx11, h⟩ := h
        replace h := bind_some h; obtain ⟨x12, hx12, h⟩ := h
        refine Tr.draw (n := 45) (es := [Ent.mk [(7, (pPtr (cGProblem x6)))] (pAgg (cGProblem x6)) true, Ent.mk [(2, (pPtr (cGProblem aA_0)))] (pAgg (cGProblem aA_0)) true, Ent.mk [(36, (pAgg (cGProblem aA_0)))] (pAgg (cGProblem x11)) true, Ent.mk [(35, (pAgg (cGProblem x6))), (37, (pAgg (cGProblem x11)))] (pEq (.bool x12)) true, Ent.mk [(38, (pEq (.bool x12)))] (pEq (.bool (!x12))) true]) (rd := [[7], [2], [36], [35, 37], [38]]) rfl hmix rfl (by kernel_rfl) ⟨⟨(OpJ.w (J_loadA rfl Try.isAgg32 sz32 (Opd.tmp rfl) rfl)), ⟨rfl, trivial⟩, rfl⟩, ⟨(OpJ.w (J_loadA rfl Try.isAgg29 sz29 (Opd.tmp rfl) rfl)), ⟨rfl, trivial⟩, rfl⟩, ⟨(OpJ.w (J_call rfl Try.call21 (c_laws_toProblem hx11) (Opds.cons (Opd.tmp rfl) Opds.nil))), ⟨rfl, trivial⟩, rfl⟩, ⟨(OpJ.w (J_call rfl Try.call23 (c_laws_eqProblem hx12) (Opds.cons (Opd.tmp rfl) (Opds.cons (Opd.tmp rfl) Opds.nil)))), ⟨rfl, rfl, trivial⟩, rfl⟩, ⟨(OpJ.w (J_not rfl (Opd.tmp rfl))), ⟨rfl, trivial⟩, rfl⟩, trivial⟩ ?_
        refine Ct.then_tr ?_
        refine Tr.weak (Γ' := [(3, (pPtr (cGProblem aB_1))), (8, (pPtr (cGProblem x8))), (39, (pEq (.bool (!x12))))]) ⟨rfl, rfl, rfl, trivial⟩ ?_
        refine Tr.cond (Opd.tmp rfl) (fun hc => ?_) (fun hc => ?_)
        · replace h := bif_t hc h
          refine Tr.seq ?_
          refine Tr.region ?_
          refine RegL.pure (p := (pEq (.bool false))) rfl rfl rfl (J_assign rfl Opd.con) ?_
          refine RegL.nil ?_
          refine Ct.then_tr ?_
          refine Tr.weak (Γ' := [(4, (pEq (.bool false)))]) ⟨rfl, trivial⟩ ?_
          refine Tr.ret ?_
          refine Ct.then_ret ?_
          replace h := Option.some.inj h; subst h
          exact Ct.ret1 rfl rfl
        · replace h := bif_f hc h
          refine Tr.skip ?_
          refine Ct.then_tr ?_
          refine Tr.weak (Γ' := [(3, (pPtr (cGProblem aB_1))), (8, (pPtr (cGProblem x8)))]) ⟨rfl, rfl, trivial⟩ ?_
          refine Tr.seq ?_
          refine Tr.seq ?_
          replace h := bind_some h; obtain ⟨x13, hx13, h⟩ := h
          replace h := bind_some h; obtain ⟨x14, hx14, h⟩ := h
          refine Tr.draw (n := 45) (es := [Ent.mk [(8, (pPtr (cGProblem x8)))] (pAgg (cGProblem x8)) true, Ent.mk [(3, (pPtr (cGProblem aB_1)))] (pAgg (cGProblem aB_1)) true, Ent.mk [(41, (pAgg (cGProblem aB_1)))] (pAgg (cGProblem x13)) true, Ent.mk [(40, (pAgg (cGProblem x8))), (42, (pAgg (cGProblem x13)))] (pEq (.bool x14)) true, Ent.mk [(43, (pEq (.bool x14)))] (pEq (.bool (!x14))) true]) (rd := [[8], [3], [41], [40, 42], [43]]) rfl hmix rfl (by kernel_rfl) ⟨⟨(OpJ.w (J_loadA rfl Try.isAgg32 sz32 (Opd.tmp rfl) rfl)), ⟨rfl, trivial⟩, rfl⟩, ⟨(OpJ.w (J_loadA rfl Try.isAgg29 sz29 (Opd.tmp rfl) rfl)), ⟨rfl, trivial⟩, rfl⟩, ⟨(OpJ.w (J_call rfl Try.call21 (c_laws_toProblem hx13) (Opds.cons (Opd.tmp rfl) Opds.nil))), ⟨rfl, trivial⟩, rfl⟩, ⟨(OpJ.w (J_call rfl Try.call23 (c_laws_eqProblem hx14) (Opds.cons (Opd.tmp rfl) (Opds.cons (Opd.tmp rfl) Opds.nil)))), ⟨rfl, rfl, trivial⟩, rfl⟩, ⟨(OpJ.w (J_not rfl (Opd.tmp rfl))), ⟨rfl, trivial⟩, rfl⟩, trivial⟩ ?_
          refine Ct.then_tr ?_
          refine Tr.weak (Γ' := [(44, (pEq (.bool (!x14))))]) ⟨rfl, trivial⟩ ?_
          refine Tr.cond (Opd.tmp rfl) (fun hc => ?_) (fun hc => ?_)
          · replace h := bif_t hc h
            refine Tr.seq ?_
            refine Tr.region ?_
            refine RegL.pure (p := (pEq (.bool false))) rfl rfl rfl (J_assign rfl Opd.con) ?_
            refine RegL.nil ?_
            refine Ct.then_tr ?_
            refine Tr.weak (Γ' := [(4, (pEq (.bool false)))]) ⟨rfl, trivial⟩ ?_
            refine Tr.ret ?_
            refine Ct.then_ret ?_
            replace h := Option.some.inj h; subst h
            exact Ct.ret1 rfl rfl
          · replace h := bif_f hc h
            refine Tr.skip ?_
            refine Ct.then_tr ?_
            refine Tr.weak (Γ' := []) trivial ?_
            refine Tr.seq ?_
            refine Tr.region ?_
            refine RegL.pure (p := (pEq (.bool true))) rfl rfl rfl (J_assign rfl Opd.con) ?_
            refine RegL.nil ?_
            refine Ct.then_tr ?_
            refine Tr.weak (Γ' := [(4, (pEq (.bool true)))]) ⟨rfl, trivial⟩ ?_
            refine Tr.ret ?_
            replace h := Option.some.inj h; subst h
            exact Ct.ret1 rfl rfl
end Go.Proofs.Ytmaahfokhfmmnaa.fnExactSameProblemW
