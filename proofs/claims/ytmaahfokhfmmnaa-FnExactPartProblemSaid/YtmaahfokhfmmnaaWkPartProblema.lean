/-
  The walks that the law FnExactPartProblem reaches: each function computes its model. Printed by our own program.
-/
import Derived.Test.YtmaahfokhfmmnaaProg
import Derived.Test.YtmaahfokhfmmnaaMod
import Derived.Test.YtmaahfokhfmmnaaMore
import Derived.KernelRfl
namespace Go.Proofs.Ytmaahfokhfmmnaa.fnExactPartProblemW
open Go Go.RowKit Go.Wk
set_option linter.unusedVariables false
set_option maxRecDepth 100000
theorem hmix : Try.prog.follows .mixedOrders = true := by kernel_rfl
theorem sz2 : ∀ w, (Go.sizeOf 2).run Try.prog w = .ok 1 w := fun _ => by kernel_rfl
theorem sz22 : ∀ w, (Go.sizeOf 22).run Try.prog w = .ok 1 w := fun _ => by kernel_rfl
theorem sz27 : ∀ w, (Go.sizeOf 27).run Try.prog w = .ok 1 w := fun _ => by kernel_rfl
theorem sz29 : ∀ w, (Go.sizeOf 29).run Try.prog w = .ok 2 w := fun _ => by kernel_rfl
theorem sz32 : ∀ w, (Go.sizeOf 32).run Try.prog w = .ok 2 w := fun _ => by kernel_rfl
theorem zero32 : Zero Try.prog 32 [(pEq (.slice none 0 0)), (pEq (.slice none 0 0))] := ⟨(.agg #[.slice none 0 0, .slice none 0 0]), [.slice none 0 0, .slice none 0 0], fun _ => by kernel_rfl, rfl, fun _ _ => ⟨rfl, ⟨rfl, trivial⟩⟩⟩
theorem bl32 : ∀ ps, Try.prog.built 32 ps = Instr.fill (fun x => (#[(0, 1), (1, 1)] : Array (Nat × Nat))[x]?) (List.toArray [.slice none 0 0, .slice none 0 0]) ps := fun _ => by kernel_rfl
theorem bz32 : ∀ I w, Vals I w [(pSl 1 (cSl 1 (cK .i64)) ([] : (List (List Int)))), (pSl 1 (cSl 1 (cK .i64)) ([] : (List (List Int))))] [.slice none 0 0, .slice none 0 0] := fun _ _ => ⟨Pd.nilsl, ⟨Pd.nilsl, trivial⟩⟩
theorem bz32o : ∀ I w, Vals I w [(pEq (.slice none 0 0)), (pEq (.slice none 0 0))] [.slice none 0 0, .slice none 0 0] := fun _ _ => ⟨rfl, ⟨rfl, trivial⟩⟩
theorem el2i : (Try.prog.info? 2).map (fun i => (i.zero, i.size, i.bytes)) = some (some (.int .i64 0), 1, 8) := by kernel_rfl
theorem el2 : Elem Try.prog 2 1 8 (cK .i64) (0 : Int) := by
  obtain ⟨i, h1, h2, h3, h4⟩ := info_parts el2i
  exact ⟨i, (.int .i64 0), [.int .i64 0], h1, h2, h3, h4, rfl, rfl, by decide, fun _ _ => ⟨rfl, trivial⟩, fun _ => rfl, fun _ _ _ _ h => ones_of ((OneCs.cons OneC.int OneCs.nil)) h⟩
theorem elh22i : (Try.prog.info? 22).map (fun i => (i.zero, i.size, i.bytes)) = some (some (.slice none 0 0), 1, 24) := by kernel_rfl
theorem elh22 : Elem Try.prog 22 1 24 cHdr ((none, 0, 0) : G3) := by
  obtain ⟨i, h1, h2, h3, h4⟩ := info_parts elh22i
  exact ⟨i, .slice none 0 0, [.slice none 0 0], h1, h2, h3, h4, rfl, rfl, by decide, fun _ _ => ⟨rfl, trivial⟩, fun _ => rfl, fun _ _ _ _ h => ones_of (OneCs.cons OneC.slice OneCs.nil) h⟩

theorem c_laws_szInt64S {a_0 : (List Int)} {left_1 : Int} {r : Int} (h : m_laws_szInt64S a_0 left_1 = some r) : CallJ Try.prog 68 [(pSl 1 (cK .i64) a_0), (pEq (.int .i64 left_1))] (pEq (.int .i64 r)) := by
  unfold m_laws_szInt64S at h
  refine CallJ.enterH Try.func68 rfl Try.ntmps68 rfl fun W I0 H => ?_
  refine Tr.weak (Γ' := [(0, (pSl 1 (cK .i64) a_0)), (1, (pEq (.int .i64 left_1)))]) ⟨rfl, rfl, trivial⟩ ?_
  refine Tr.seq ?_
  refine Tr.region ?_
  refine RegL.pure (p := (pEq (.int .i64 (0 : Int)))) rfl rfl rfl (J_assign rfl Opd.con) ?_
  refine RegL.nil ?_
  refine Ct.then_tr ?_
  refine Tr.weak (Γ' := [(0, (pSl 1 (cK .i64) a_0)), (1, (pEq (.int .i64 left_1)))]) ⟨rfl, rfl, trivial⟩ ?_
  refine Tr.seq ?_
  refine Tr.region ?_
  refine RegL.pure (p := (pEq (.int .i64 left_1))) rfl rfl rfl (J_move rfl (Opd.tmp rfl)) ?_
  refine RegL.pure (p := (pSl 1 (cK .i64) a_0)) rfl rfl rfl (J_move rfl (Opd.tmp rfl)) ?_
  refine RegL.pure (p := (pEq (.int .i64 (a_0.length : Int)))) rfl rfl rfl (J_len rfl Try.underlying22 (Opd.tmp rfl) rfl) ?_
  refine RegL.pure (p := (pEq (.int .i64 (w64 (left_1 - (a_0.length : Int)))))) rfl rfl rfl (J_bin rfl (Opd.tmp rfl) (Opd.tmp rfl) B_sub) ?_
  refine RegL.pure (p := (pEq (.int .i64 (w64 (left_1 - (a_0.length : Int)))))) rfl rfl rfl (J_assign rfl (Opd.tmp rfl)) ?_
  refine RegL.nil ?_
  refine Ct.then_tr ?_
  refine Tr.weak (Γ' := [(1, (pEq (.int .i64 (w64 (left_1 - (a_0.length : Int))))))]) ⟨rfl, trivial⟩ ?_
  refine Tr.seq ?_
  refine Tr.seq ?_
  refine Tr.region ?_
  refine RegL.pure (p := (pEq (.int .i64 (w64 (left_1 - (a_0.length : Int)))))) rfl rfl rfl (J_move rfl (Opd.tmp rfl)) ?_
  refine RegL.pure (p := (pEq (.bool (decide ((w64 (left_1 - (a_0.length : Int))) < (0 : Int)))))) rfl rfl rfl (J_bin rfl (Opd.tmp rfl) Opd.con B_lss) ?_
  refine RegL.nil ?_
  refine Ct.then_tr ?_
  refine Tr.weak (Γ' := [(1, (pEq (.int .i64 (w64 (left_1 - (a_0.length : Int)))))), (10, (pEq (.bool (decide ((w64 (left_1 - (a_0.length : Int))) < (0 : Int))))))]) ⟨rfl, rfl, trivial⟩ ?_
  refine Tr.cond (Opd.tmp rfl) (fun hc => ?_) (fun hc => ?_)
  · replace h := bif_t hc h
    refine Tr.seq ?_
    refine Tr.region ?_
    refine RegL.pure (p := (pEq (.int .i64 (-1 : Int)))) rfl rfl rfl (J_assign rfl Opd.con) ?_
    refine RegL.nil ?_
    refine Ct.then_tr ?_
    refine Tr.weak (Γ' := [(4, (pEq (.int .i64 (-1 : Int))))]) ⟨rfl, trivial⟩ ?_
    refine Tr.ret ?_
    refine Ct.then_ret ?_
    replace h := Option.some.inj h; subst h
    exact Ct.retH1 (Ωx := []) () rfl (RvOk.tmp rfl) rfl
  · replace h := bif_f hc h
    refine Tr.skip ?_
    refine Ct.then_tr ?_
    refine Tr.weak (Γ' := [(1, (pEq (.int .i64 (w64 (left_1 - (a_0.length : Int))))))]) ⟨rfl, trivial⟩ ?_
    refine Tr.seq ?_
    refine Tr.region ?_
    refine RegL.pure (p := (pEq (.int .i64 (w64 (left_1 - (a_0.length : Int)))))) rfl rfl rfl (J_move rfl (Opd.tmp rfl)) ?_
    refine RegL.pure (p := (pEq (.int .i64 (w64 (left_1 - (a_0.length : Int)))))) rfl rfl rfl (J_assign rfl (Opd.tmp rfl)) ?_
    refine RegL.nil ?_
    refine Ct.then_tr ?_
    refine Tr.weak (Γ' := [(4, (pEq (.int .i64 (w64 (left_1 - (a_0.length : Int))))))]) ⟨rfl, trivial⟩ ?_
    refine Tr.ret ?_
    replace h := Option.some.inj h; subst h
    exact Ct.retH1 (Ωx := []) () rfl (RvOk.tmp rfl) rfl

theorem c_laws_szInt64SS {a_0 : (List (List Int))} {left_1 : Int} {r : Int} (h : m_laws_szInt64SS a_0 left_1 = some r) : CallJ Try.prog 28 [(pSl 1 (cSl 1 (cK .i64)) a_0), (pEq (.int .i64 left_1))] (pEq (.int .i64 r)) := by
  unfold m_laws_szInt64SS at h
  refine CallJ.enterH Try.func28 rfl Try.ntmps28 rfl fun W I0 H => ?_
  refine Tr.weak (Γ' := [(0, (pSl 1 (cSl 1 (cK .i64)) a_0)), (1, (pEq (.int .i64 left_1)))]) ⟨rfl, rfl, trivial⟩ ?_
  refine Tr.seq ?_
  refine Tr.region ?_
  refine RegL.pure (p := (pEq (.int .i64 (0 : Int)))) rfl rfl rfl (J_assign rfl Opd.con) ?_
  refine RegL.nil ?_
  refine Ct.then_tr ?_
  refine Tr.weak (Γ' := [(0, (pSl 1 (cSl 1 (cK .i64)) a_0)), (1, (pEq (.int .i64 left_1)))]) ⟨rfl, rfl, trivial⟩ ?_
  refine Tr.seq ?_
  refine Tr.region ?_
  refine RegL.pure (p := (pEq (.int .i64 left_1))) rfl rfl rfl (J_move rfl (Opd.tmp rfl)) ?_
  refine RegL.pure (p := (pSl 1 (cSl 1 (cK .i64)) a_0)) rfl rfl rfl (J_move rfl (Opd.tmp rfl)) ?_
  refine RegL.pure (p := (pEq (.int .i64 (a_0.length : Int)))) rfl rfl rfl (J_len rfl Try.underlying27 (Opd.tmp rfl) rfl) ?_
  refine RegL.pure (p := (pEq (.int .i64 (w64 (left_1 - (a_0.length : Int)))))) rfl rfl rfl (J_bin rfl (Opd.tmp rfl) (Opd.tmp rfl) B_sub) ?_
  refine RegL.pure (p := (pEq (.int .i64 (w64 (left_1 - (a_0.length : Int)))))) rfl rfl rfl (J_assign rfl (Opd.tmp rfl)) ?_
  refine RegL.nil ?_
  refine Ct.then_tr ?_
  refine Tr.weak (Γ' := [(0, (pSl 1 (cSl 1 (cK .i64)) a_0)), (1, (pEq (.int .i64 (w64 (left_1 - (a_0.length : Int))))))]) ⟨rfl, rfl, trivial⟩ ?_
  refine Tr.seq ?_
  refine Tr.seq ?_
  refine Tr.region ?_
  refine RegL.pure (p := (pEq (.int .i64 (w64 (left_1 - (a_0.length : Int)))))) rfl rfl rfl (J_move rfl (Opd.tmp rfl)) ?_
  refine RegL.pure (p := (pEq (.bool (decide ((w64 (left_1 - (a_0.length : Int))) < (0 : Int)))))) rfl rfl rfl (J_bin rfl (Opd.tmp rfl) Opd.con B_lss) ?_
  refine RegL.nil ?_
  refine Ct.then_tr ?_
  refine Tr.weak (Γ' := [(0, (pSl 1 (cSl 1 (cK .i64)) a_0)), (1, (pEq (.int .i64 (w64 (left_1 - (a_0.length : Int)))))), (11, (pEq (.bool (decide ((w64 (left_1 - (a_0.length : Int))) < (0 : Int))))))]) ⟨rfl, rfl, rfl, trivial⟩ ?_
  refine Tr.cond (Opd.tmp rfl) (fun hc => ?_) (fun hc => ?_)
  · replace h := bif_t hc h
    refine Tr.seq ?_
    refine Tr.region ?_
    refine RegL.pure (p := (pEq (.int .i64 (-1 : Int)))) rfl rfl rfl (J_assign rfl Opd.con) ?_
    refine RegL.nil ?_
    refine Ct.then_tr ?_
    refine Tr.weak (Γ' := [(4, (pEq (.int .i64 (-1 : Int))))]) ⟨rfl, trivial⟩ ?_
    refine Tr.ret ?_
    refine Ct.then_ret ?_
    replace h := Option.some.inj h; subst h
    exact Ct.retH1 (Ωx := []) () rfl (RvOk.tmp rfl) rfl
  · replace h := bif_f hc h
    refine Tr.skip ?_
    refine Ct.then_tr ?_
    refine Tr.weak (Γ' := [(0, (pSl 1 (cSl 1 (cK .i64)) a_0)), (1, (pEq (.int .i64 (w64 (left_1 - (a_0.length : Int))))))]) ⟨rfl, rfl, trivial⟩ ?_
    refine Tr.seq ?_
    refine Tr.seq ?_
    refine Tr.region ?_
    refine RegL.pure (p := (pEq (.int .i64 (0 : Int)))) rfl rfl rfl (J_assign rfl Opd.con) ?_
    refine RegL.nil ?_
    refine Ct.then_tr ?_
    refine Tr.weak (Γ' := [(0, (pSl 1 (cSl 1 (cK .i64)) a_0)), (1, (pEq (.int .i64 (w64 (left_1 - (a_0.length : Int)))))), (5, (pEq (.int .i64 (0 : Int))))]) ⟨rfl, rfl, rfl, trivial⟩ ?_
    refine Tr.block ?_
    refine Tr.weak (Γ' := [(0, (pSl 1 (cSl 1 (cK .i64)) a_0)), (1, (pEq (.int .i64 (w64 (left_1 - (a_0.length : Int)))))), (5, (pEq (.int .i64 (0 : Int))))]) ⟨rfl, rfl, rfl, trivial⟩ ?_
    refine Tr.loop (γ := Unit) (σ := (Int × Int)) (Γσ := fun s g => [(0, (pSl 1 (cSl 1 (cK .i64)) a_0)), (1, (pEq (.int .i64 s.1))), (5, (pEq (.int .i64 s.2)))]) (Ωσ := fun s g => []) (g := ()) h ?_
    clear h
    rintro ⟨v2, v3⟩ g4 t h
    replace h : m_laws_szInt64SS_B1 a_0 v2 v3 = some t := h
    unfold m_laws_szInt64SS_B1 at h
    refine Tr.weakO (Γ' := [(0, (pSl 1 (cSl 1 (cK .i64)) a_0)), (1, (pEq (.int .i64 v2))), (5, (pEq (.int .i64 v3)))]) (Ω' := []) rfl ⟨rfl, rfl, rfl, trivial⟩ ?_
    refine Tr.seq ?_
    refine Tr.seq ?_
    refine Tr.region ?_
    refine RegL.pure (p := (pEq (.int .i64 v3))) rfl rfl rfl (J_move rfl (Opd.tmp rfl)) ?_
    refine RegL.pure (p := (pSl 1 (cSl 1 (cK .i64)) a_0)) rfl rfl rfl (J_move rfl (Opd.tmp rfl)) ?_
    refine RegL.pure (p := (pEq (.int .i64 (a_0.length : Int)))) rfl rfl rfl (J_len rfl Try.underlying27 (Opd.tmp rfl) rfl) ?_
    refine RegL.pure (p := (pEq (.bool (decide (v3 < (a_0.length : Int)))))) rfl rfl rfl (J_bin rfl (Opd.tmp rfl) (Opd.tmp rfl) B_lss) ?_
    refine RegL.nil ?_
    refine Ct.then_tr ?_
    refine Tr.weak (Γ' := [(0, (pSl 1 (cSl 1 (cK .i64)) a_0)), (1, (pEq (.int .i64 v2))), (5, (pEq (.int .i64 v3))), (15, (pEq (.bool (decide (v3 < (a_0.length : Int))))))]) ⟨rfl, rfl, rfl, rfl, trivial⟩ ?_
    refine Tr.cond (Opd.tmp rfl) (fun hc => ?_) (fun hc => ?_)
    · replace h := bif_t hc h
      refine Tr.skip ?_
      refine Ct.then_tr ?_
      refine Tr.weak (Γ' := [(0, (pSl 1 (cSl 1 (cK .i64)) a_0)), (1, (pEq (.int .i64 v2))), (5, (pEq (.int .i64 v3)))]) ⟨rfl, rfl, rfl, trivial⟩ ?_
      refine Tr.seq ?_
      refine Tr.block ?_
      refine Tr.seq ?_
      refine Tr.region ?_
      refine RegL.pure (p := (pSl 1 (cSl 1 (cK .i64)) a_0)) rfl rfl rfl (J_move rfl (Opd.tmp rfl)) ?_
      refine RegL.pure (p := (pEq (.int .i64 v3))) rfl rfl rfl (J_move rfl (Opd.tmp rfl)) ?_
      replace h := bind_some h; obtain ⟨x5, hx5, h⟩ := h
      refine RegL.pure (p := (pPtr ((cSl 1 (cK .i64)) x5))) rfl rfl rfl (J_idx rfl Try.underlying27 sz22 (Opd.tmp rfl) (Opd.tmp rfl) hx5) ?_
      refine RegL.pure (p := (pSl 1 (cK .i64) x5)) rfl rfl rfl (J_load rfl Try.isAgg22 (Opd.tmp rfl)) ?_
      refine RegL.pure (p := (pEq (.int .i64 v2))) rfl rfl rfl (J_move rfl (Opd.tmp rfl)) ?_
      replace h := bind_some h; obtain ⟨x6, hx6, h⟩ := h
      refine RegL.pure (p := (pEq (.int .i64 x6))) rfl rfl rfl (J_call rfl Try.call68 (c_laws_szInt64S hx6) (Opds.cons (Opd.tmp rfl) (Opds.cons (Opd.tmp rfl) Opds.nil))) ?_
      refine RegL.pure (p := (pEq (.int .i64 x6))) rfl rfl rfl (J_assign rfl (Opd.tmp rfl)) ?_
      refine RegL.nil ?_
      refine Ct.then_tr ?_
      refine Tr.weak (Γ' := [(0, (pSl 1 (cSl 1 (cK .i64)) a_0)), (1, (pEq (.int .i64 x6))), (5, (pEq (.int .i64 v3)))]) ⟨rfl, rfl, rfl, trivial⟩ ?_
      refine Tr.seq ?_
      refine Tr.region ?_
      refine RegL.pure (p := (pEq (.int .i64 x6))) rfl rfl rfl (J_move rfl (Opd.tmp rfl)) ?_
      refine RegL.pure (p := (pEq (.bool (decide (x6 < (0 : Int)))))) rfl rfl rfl (J_bin rfl (Opd.tmp rfl) Opd.con B_lss) ?_
      refine RegL.nil ?_
      refine Ct.then_tr ?_
      refine Tr.weak (Γ' := [(0, (pSl 1 (cSl 1 (cK .i64)) a_0)), (1, (pEq (.int .i64 x6))), (5, (pEq (.int .i64 v3))), (25, (pEq (.bool (decide (x6 < (0 : Int))))))]) ⟨rfl, rfl, rfl, rfl, trivial⟩ ?_
      refine Tr.cond (Opd.tmp rfl) (fun hc => ?_) (fun hc => ?_)
      · replace h := bif_t hc h
        refine Tr.seq ?_
        refine Tr.region ?_
        refine RegL.pure (p := (pEq (.int .i64 (-1 : Int)))) rfl rfl rfl (J_assign rfl Opd.con) ?_
        refine RegL.nil ?_
        refine Ct.then_tr ?_
        refine Tr.weak (Γ' := [(4, (pEq (.int .i64 (-1 : Int))))]) ⟨rfl, trivial⟩ ?_
        refine Tr.ret ?_
        refine Ct.blk_ret ?_
        refine Ct.then_ret ?_
        replace h := map_some h; obtain ⟨r1, h, rfl⟩ := h
        refine Ct.out_ret fun e => ?_
        subst e
        refine Ct.blk_ret ?_
        refine Ct.then_ret ?_
        replace h := Option.some.inj h; subst h
        exact Ct.retH1 (Ωx := []) () rfl (RvOk.tmp rfl) rfl
      · replace h := bif_f hc h
        refine Tr.skip ?_
        refine Ct.blk_normal ?_
        refine Ct.then_tr ?_
        refine Tr.weak (Γ' := [(0, (pSl 1 (cSl 1 (cK .i64)) a_0)), (1, (pEq (.int .i64 x6))), (5, (pEq (.int .i64 v3)))]) ⟨rfl, rfl, rfl, trivial⟩ ?_
        refine Tr.region ?_
        refine RegL.pure (p := (pEq (.int .i64 v3))) rfl rfl rfl (J_move rfl (Opd.tmp rfl)) ?_
        refine RegL.pure (p := (pEq (.int .i64 (w64 (v3 + (1 : Int)))))) rfl rfl rfl (J_bin rfl (Opd.tmp rfl) Opd.con B_add) ?_
        refine RegL.pure (p := (pEq (.int .i64 (w64 (v3 + (1 : Int)))))) rfl rfl rfl (J_assign rfl (Opd.tmp rfl)) ?_
        refine RegL.nil ?_
        replace h := Option.some.inj h; subst h
        exact Ct.again () rfl ⟨rfl, rfl, rfl, trivial⟩
    · replace h := bif_f hc h
      refine Tr.exit ?_
      refine Ct.then_exit ?_
      replace h := map_some h; obtain ⟨r1, h, rfl⟩ := h
      refine Ct.out_exit fun e => ?_
      subst e
      refine Ct.blk_exit ?_
      refine Ct.then_tr ?_
      refine Tr.weak (Γ' := [(1, (pEq (.int .i64 v2)))]) ⟨rfl, trivial⟩ ?_
      refine Tr.seq ?_
      refine Tr.region ?_
      refine RegL.pure (p := (pEq (.int .i64 v2))) rfl rfl rfl (J_move rfl (Opd.tmp rfl)) ?_
      refine RegL.pure (p := (pEq (.int .i64 v2))) rfl rfl rfl (J_assign rfl (Opd.tmp rfl)) ?_
      refine RegL.nil ?_
      refine Ct.then_tr ?_
      refine Tr.weak (Γ' := [(4, (pEq (.int .i64 v2)))]) ⟨rfl, trivial⟩ ?_
      refine Tr.ret ?_
      replace h := Option.some.inj h; subst h
      exact Ct.retH1 (Ωx := []) () rfl (RvOk.tmp rfl) rfl

theorem c_laws_szProblem {a_0 : GProblem} {left_1 : Int} {r : Int} (h : m_laws_szProblem a_0 left_1 = some r) : CallJ Try.prog 19 [(pAgg (cGProblem a_0)), (pEq (.int .i64 left_1))] (pEq (.int .i64 r)) := by
  unfold m_laws_szProblem at h
  refine CallJ.enterH Try.func19 rfl Try.ntmps19 rfl fun W I0 H => ?_
  refine Tr.weak (Γ' := [(0, (pAgg (cGProblem a_0))), (1, (pEq (.int .i64 left_1)))]) ⟨rfl, rfl, trivial⟩ ?_
  refine Tr.seq ?_
  refine Tr.region ?_
  refine RegL.pure (p := (pPtr (cGProblem a_0))) rfl rfl rfl (J_boxA rfl (Opd.tmp rfl)) ?_
  refine RegL.pure (p := (pEq (.int .i64 (0 : Int)))) rfl rfl rfl (J_assign rfl Opd.con) ?_
  refine RegL.nil ?_
  refine Ct.then_tr ?_
  refine Tr.weak (Γ' := [(1, (pEq (.int .i64 left_1))), (2, (pPtr (cGProblem a_0)))]) ⟨rfl, rfl, trivial⟩ ?_
  refine Tr.seq ?_
  refine Tr.region ?_
  refine RegL.pure (p := (pPtr ((cSl 1 (cSl 1 (cK .i64))) a_0.Domains))) rfl rfl rfl (J_fieldAddr rfl Try.underlying29 rfl sz27 (by decide) (Opd.tmp rfl) rfl) ?_
  refine RegL.pure (p := (pSl 1 (cSl 1 (cK .i64)) a_0.Domains)) rfl rfl rfl (J_load rfl Try.isAgg27 (Opd.tmp rfl)) ?_
  refine RegL.pure (p := (pEq (.int .i64 left_1))) rfl rfl rfl (J_move rfl (Opd.tmp rfl)) ?_
  replace h := bind_some h; obtain ⟨x1, hx1, h⟩ := h
  refine RegL.pure (p := (pEq (.int .i64 x1))) rfl rfl rfl (J_call rfl Try.call28 (c_laws_szInt64SS hx1) (Opds.cons (Opd.tmp rfl) (Opds.cons (Opd.tmp rfl) Opds.nil))) ?_
  refine RegL.pure (p := (pEq (.int .i64 x1))) rfl rfl rfl (J_assign rfl (Opd.tmp rfl)) ?_
  refine RegL.nil ?_
  refine Ct.then_tr ?_
  refine Tr.weak (Γ' := [(1, (pEq (.int .i64 x1))), (2, (pPtr (cGProblem a_0)))]) ⟨rfl, rfl, trivial⟩ ?_
  refine Tr.seq ?_
  refine Tr.seq ?_
  refine Tr.region ?_
  refine RegL.pure (p := (pEq (.int .i64 x1))) rfl rfl rfl (J_move rfl (Opd.tmp rfl)) ?_
  refine RegL.pure (p := (pEq (.bool (decide (x1 < (0 : Int)))))) rfl rfl rfl (J_bin rfl (Opd.tmp rfl) Opd.con B_lss) ?_
  refine RegL.nil ?_
  refine Ct.then_tr ?_
  refine Tr.weak (Γ' := [(1, (pEq (.int .i64 x1))), (2, (pPtr (cGProblem a_0))), (10, (pEq (.bool (decide (x1 < (0 : Int))))))]) ⟨rfl, rfl, rfl, trivial⟩ ?_
  refine Tr.cond (Opd.tmp rfl) (fun hc => ?_) (fun hc => ?_)
  · replace h := bif_t hc h
    refine Tr.seq ?_
    refine Tr.region ?_
    refine RegL.pure (p := (pEq (.int .i64 (-1 : Int)))) rfl rfl rfl (J_assign rfl Opd.con) ?_
    refine RegL.nil ?_
    refine Ct.then_tr ?_
    refine Tr.weak (Γ' := [(4, (pEq (.int .i64 (-1 : Int))))]) ⟨rfl, trivial⟩ ?_
    refine Tr.ret ?_
    refine Ct.then_ret ?_
    replace h := Option.some.inj h; subst h
    exact Ct.retH1 (Ωx := []) () rfl (RvOk.tmp rfl) rfl
  · replace h := bif_f hc h
    refine Tr.skip ?_
    refine Ct.then_tr ?_
    refine Tr.weak (Γ' := [(1, (pEq (.int .i64 x1))), (2, (pPtr (cGProblem a_0)))]) ⟨rfl, rfl, trivial⟩ ?_
    refine Tr.seq ?_
    refine Tr.region ?_
    refine RegL.pure (p := (pPtr ((cSl 1 (cSl 1 (cK .i64))) a_0.Apart))) rfl rfl rfl (J_fieldAddr rfl Try.underlying29 rfl sz27 (by decide) (Opd.tmp rfl) rfl) ?_
    refine RegL.pure (p := (pSl 1 (cSl 1 (cK .i64)) a_0.Apart)) rfl rfl rfl (J_load rfl Try.isAgg27 (Opd.tmp rfl)) ?_
    refine RegL.pure (p := (pEq (.int .i64 x1))) rfl rfl rfl (J_move rfl (Opd.tmp rfl)) ?_
    replace h := bind_some h; obtain ⟨x2, hx2, h⟩ := h
    refine RegL.pure (p := (pEq (.int .i64 x2))) rfl rfl rfl (J_call rfl Try.call28 (c_laws_szInt64SS hx2) (Opds.cons (Opd.tmp rfl) (Opds.cons (Opd.tmp rfl) Opds.nil))) ?_
    refine RegL.pure (p := (pEq (.int .i64 x2))) rfl rfl rfl (J_assign rfl (Opd.tmp rfl)) ?_
    refine RegL.nil ?_
    refine Ct.then_tr ?_
    refine Tr.weak (Γ' := [(1, (pEq (.int .i64 x2)))]) ⟨rfl, trivial⟩ ?_
    refine Tr.seq ?_
    refine Tr.seq ?_
    refine Tr.region ?_
    refine RegL.pure (p := (pEq (.int .i64 x2))) rfl rfl rfl (J_move rfl (Opd.tmp rfl)) ?_
    refine RegL.pure (p := (pEq (.bool (decide (x2 < (0 : Int)))))) rfl rfl rfl (J_bin rfl (Opd.tmp rfl) Opd.con B_lss) ?_
    refine RegL.nil ?_
    refine Ct.then_tr ?_
    refine Tr.weak (Γ' := [(1, (pEq (.int .i64 x2))), (16, (pEq (.bool (decide (x2 < (0 : Int))))))]) ⟨rfl, rfl, trivial⟩ ?_
    refine Tr.cond (Opd.tmp rfl) (fun hc => ?_) (fun hc => ?_)
    · replace h := bif_t hc h
      refine Tr.seq ?_
      refine Tr.region ?_
      refine RegL.pure (p := (pEq (.int .i64 (-1 : Int)))) rfl rfl rfl (J_assign rfl Opd.con) ?_
      refine RegL.nil ?_
      refine Ct.then_tr ?_
      refine Tr.weak (Γ' := [(4, (pEq (.int .i64 (-1 : Int))))]) ⟨rfl, trivial⟩ ?_
      refine Tr.ret ?_
      refine Ct.then_ret ?_
      replace h := Option.some.inj h; subst h
      exact Ct.retH1 (Ωx := []) () rfl (RvOk.tmp rfl) rfl
    · replace h := bif_f hc h
      refine Tr.skip ?_
      refine Ct.then_tr ?_
      refine Tr.weak (Γ' := [(1, (pEq (.int .i64 x2)))]) ⟨rfl, trivial⟩ ?_
      refine Tr.seq ?_
      refine Tr.region ?_
      refine RegL.pure (p := (pEq (.int .i64 x2))) rfl rfl rfl (J_move rfl (Opd.tmp rfl)) ?_
      refine RegL.pure (p := (pEq (.int .i64 x2))) rfl rfl rfl (J_assign rfl (Opd.tmp rfl)) ?_
      refine RegL.nil ?_
      refine Ct.then_tr ?_
      refine Tr.weak (Γ' := [(4, (pEq (.int .i64 x2)))]) ⟨rfl, trivial⟩ ?_
      refine Tr.ret ?_
      replace h := Option.some.inj h; subst h
      exact Ct.retH1 (Ωx := []) () rfl (RvOk.tmp rfl) rfl

theorem o_laws_toInt64S {a_0 : (List Int)}  {r : (List Int)} (h : m_laws_toInt64S a_0 = some r) : CallH Try.prog 16 [(pSl 1 (cK .i64) a_0)] [] (fun g : G3 => (pEq (.slice g.1 g.2.1 g.2.2))) (fun g : G3 => [oSl 2 1 (cK .i64) g.1 g.2.1 g.2.2 r]) := by
  unfold m_laws_toInt64S at h
  refine CallH.enter Try.func16 rfl Try.ntmps16 rfl fun W I0 H => ?_
  refine Tr.weak (Γ' := [(0, (pSl 1 (cK .i64) a_0))]) ⟨rfl, trivial⟩ ?_
  refine Tr.seq ?_
  refine Tr.region ?_
  refine RegL.pure (p := (pEq (.slice none 0 0))) rfl rfl rfl (J_assign rfl Opd.con) ?_
  refine RegL.nil ?_
  refine Ct.then_tr ?_
  refine Tr.weak (Γ' := [(0, (pSl 1 (cK .i64) a_0))]) ⟨rfl, trivial⟩ ?_
  refine Tr.seq ?_
  refine Tr.region ?_
  refine RegL.pure (p := (pSl 1 (cK .i64) a_0)) rfl rfl rfl (J_move rfl (Opd.tmp rfl)) ?_
  refine RegL.pure (p := (pEq (.int .i64 (a_0.length : Int)))) rfl rfl rfl (J_len rfl Try.underlying22 (Opd.tmp rfl) rfl) ?_
  replace h := bind_some h; obtain ⟨x1, hx1, h⟩ := h
  refine RegL.step (γ := Option Addr) (p := fun a => pEq (.slice a ((a_0.length : Int)).toNat ((a_0.length : Int)).toNat)) (Ω' := fun a => [oSl 2 1 (cK .i64) a ((a_0.length : Int)).toNat ((a_0.length : Int)).toNat x1]) rfl rfl rfl (M_make rfl Try.underlying22 el2 (by decide) (Opd.tmp rfl) hx1) fun o2 => ?_
  refine RegL.pure (p := (pEq (.slice o2 ((a_0.length : Int)).toNat ((a_0.length : Int)).toNat))) rfl rfl rfl (J_assign rfl (Opd.tmp rfl)) ?_
  refine RegL.nil ?_
  refine Ct.then_tr ?_
  refine Tr.weak (Γ' := [(0, (pSl 1 (cK .i64) a_0)), (3, (pEq (.slice o2 ((a_0.length : Int)).toNat ((a_0.length : Int)).toNat)))]) ⟨rfl, rfl, trivial⟩ ?_
  refine Tr.seq ?_
  refine Tr.seq ?_
  refine Tr.region ?_
  refine RegL.pure (p := (pEq (.int .i64 (0 : Int)))) rfl rfl rfl (J_assign rfl Opd.con) ?_
  refine RegL.nil ?_
  refine Ct.then_tr ?_
  refine Tr.weak (Γ' := [(0, (pSl 1 (cK .i64) a_0)), (3, (pEq (.slice o2 ((a_0.length : Int)).toNat ((a_0.length : Int)).toNat))), (4, (pEq (.int .i64 (0 : Int))))]) ⟨rfl, rfl, rfl, trivial⟩ ?_
  replace h := bind_some h; obtain ⟨x4, hx4, h⟩ := h
  refine Tr.cut (γ := G3) (Γm := fun g => [(3, (pEq (.slice g.1 g.2.1 g.2.2)))]) (Ωm := fun g => [oSl 2 1 (cK .i64) g.1 g.2.1 g.2.2 x4]) ?_ (fun g12 => ?_)
  · clear h
    have h := hx4
    clear hx4
    refine Tr.block ?_
    refine Tr.weak (Γ' := [(0, (pSl 1 (cK .i64) a_0)), (3, (pEq (.slice o2 ((a_0.length : Int)).toNat ((a_0.length : Int)).toNat))), (4, (pEq (.int .i64 (0 : Int))))]) ⟨rfl, rfl, rfl, trivial⟩ ?_
    refine Tr.loop (γ := G3) (σ := (Int × (List Int))) (Γσ := fun s g => [(0, (pSl 1 (cK .i64) a_0)), (3, (pEq (.slice g.1 g.2.1 g.2.2))), (4, (pEq (.int .i64 s.1)))]) (Ωσ := fun s g => [oSl 2 1 (cK .i64) g.1 g.2.1 g.2.2 s.2]) (g := (o2, ((a_0.length : Int)).toNat, ((a_0.length : Int)).toNat)) h ?_
    clear h
    rintro ⟨v6, v7⟩ g8 t h
    replace h : m_laws_toInt64S_B5 a_0 v6 v7 = some t := h
    unfold m_laws_toInt64S_B5 at h
    refine Tr.weakO (Γ' := [(0, (pSl 1 (cK .i64) a_0)), (3, (pEq (.slice g8.1 g8.2.1 g8.2.2))), (4, (pEq (.int .i64 v6)))]) (Ω' := [oSl 2 1 (cK .i64) g8.1 g8.2.1 g8.2.2 v7]) rfl ⟨rfl, rfl, rfl, trivial⟩ ?_
    refine Tr.seq ?_
    refine Tr.seq ?_
    refine Tr.region ?_
    refine RegL.pure (p := (pEq (.int .i64 v6))) rfl rfl rfl (J_move rfl (Opd.tmp rfl)) ?_
    refine RegL.pure (p := (pSl 1 (cK .i64) a_0)) rfl rfl rfl (J_move rfl (Opd.tmp rfl)) ?_
    refine RegL.pure (p := (pEq (.int .i64 (a_0.length : Int)))) rfl rfl rfl (J_len rfl Try.underlying22 (Opd.tmp rfl) rfl) ?_
    refine RegL.pure (p := (pEq (.bool (decide (v6 < (a_0.length : Int)))))) rfl rfl rfl (J_bin rfl (Opd.tmp rfl) (Opd.tmp rfl) B_lss) ?_
    refine RegL.nil ?_
    refine Ct.then_tr ?_
    refine Tr.weak (Γ' := [(0, (pSl 1 (cK .i64) a_0)), (3, (pEq (.slice g8.1 g8.2.1 g8.2.2))), (4, (pEq (.int .i64 v6))), (11, (pEq (.bool (decide (v6 < (a_0.length : Int))))))]) ⟨rfl, rfl, rfl, rfl, trivial⟩ ?_
    refine Tr.cond (Opd.tmp rfl) (fun hc => ?_) (fun hc => ?_)
    · replace h := bif_t hc h
      refine Tr.skip ?_
      refine Ct.then_tr ?_
      refine Tr.weak (Γ' := [(0, (pSl 1 (cK .i64) a_0)), (3, (pEq (.slice g8.1 g8.2.1 g8.2.2))), (4, (pEq (.int .i64 v6)))]) ⟨rfl, rfl, rfl, trivial⟩ ?_
      refine Tr.seq ?_
      refine Tr.block ?_
      refine Tr.region ?_
      refine RegL.pure (p := (pEq (.slice g8.1 g8.2.1 g8.2.2))) rfl rfl rfl (J_move rfl (Opd.tmp rfl)) ?_
      refine RegL.pure (p := (pEq (.int .i64 v6))) rfl rfl rfl (J_move rfl (Opd.tmp rfl)) ?_
      refine RegL.pure (p := (pSl 1 (cK .i64) a_0)) rfl rfl rfl (J_move rfl (Opd.tmp rfl)) ?_
      refine RegL.pure (p := (pEq (.int .i64 v6))) rfl rfl rfl (J_move rfl (Opd.tmp rfl)) ?_
      replace h := bind_some h; obtain ⟨x9, hx9, h⟩ := h
      refine RegL.pure (p := (pPtr ((cK .i64) x9))) rfl rfl rfl (J_idx rfl Try.underlying22 sz2 (Opd.tmp rfl) (Opd.tmp rfl) hx9) ?_
      refine RegL.pure (p := (pEq (.int .i64 x9))) rfl rfl rfl (J_load rfl Try.isAgg2 (Opd.tmp rfl)) ?_
      replace h := bind_some h; obtain ⟨u10, hu10, h⟩ := h
      refine RegL.pureW (p := (pEq (.pointer (some ⟨blk g8.1, (v6).toNat * 1, none⟩)))) rfl rfl rfl (W_rowIdx (j := 0) rfl Try.underlying22 sz2 (Opd.tmp rfl) (Opd.tmp rfl) rfl (inB_some hu10)) ?_
      refine RegL.stepN (γ := Unit) (p := fun _ => pAny) (Ω' := fun _ => [oSl 2 1 (cK .i64) g8.1 g8.2.1 g8.2.2 (v7.set (v6).toNat x9)]) rfl rfl (M_rowStore rfl sz2 (fun _ => rfl) (Opd.tmp rfl) (Opd.tmp rfl) rfl OneC.int (setL_of (inB_some hu10))) fun g11 => ?_
      refine RegL.nil ?_
      refine Ct.blk_normal ?_
      refine Ct.then_tr ?_
      refine Tr.weak (Γ' := [(0, (pSl 1 (cK .i64) a_0)), (3, (pEq (.slice g8.1 g8.2.1 g8.2.2))), (4, (pEq (.int .i64 v6)))]) ⟨rfl, rfl, rfl, trivial⟩ ?_
      refine Tr.region ?_
      refine RegL.pure (p := (pEq (.int .i64 v6))) rfl rfl rfl (J_move rfl (Opd.tmp rfl)) ?_
      refine RegL.pure (p := (pEq (.int .i64 (w64 (v6 + (1 : Int)))))) rfl rfl rfl (J_bin rfl (Opd.tmp rfl) Opd.con B_add) ?_
      refine RegL.pure (p := (pEq (.int .i64 (w64 (v6 + (1 : Int)))))) rfl rfl rfl (J_assign rfl (Opd.tmp rfl)) ?_
      refine RegL.nil ?_
      replace h := Option.some.inj h; subst h
      exact Ct.again (g8.1, g8.2.1, g8.2.2) rfl ⟨rfl, rfl, rfl, trivial⟩
    · replace h := bif_f hc h
      refine Tr.exit ?_
      refine Ct.then_exit ?_
      replace h := map_some h; obtain ⟨r1, h, rfl⟩ := h
      refine Ct.out_exit fun e => ?_
      subst e
      refine Ct.blk_exit ?_
      replace h := Option.some.inj h; subst h
      exact Ct.mid (g8.1, g8.2.1, g8.2.2) rfl ⟨rfl, trivial⟩
  · clear hx4
    refine Ct.then_tr ?_
    refine Tr.weak (Γ' := [(3, (pEq (.slice g12.1 g12.2.1 g12.2.2)))]) ⟨rfl, trivial⟩ ?_
    refine Tr.seq ?_
    refine Tr.region ?_
    refine RegL.pure (p := (pEq (.slice g12.1 g12.2.1 g12.2.2))) rfl rfl rfl (J_move rfl (Opd.tmp rfl)) ?_
    refine RegL.pure (p := (pEq (.slice g12.1 g12.2.1 g12.2.2))) rfl rfl rfl (J_assign rfl (Opd.tmp rfl)) ?_
    refine RegL.nil ?_
    refine Ct.then_tr ?_
    refine Tr.weak (Γ' := [(2, (pEq (.slice g12.1 g12.2.1 g12.2.2)))]) ⟨rfl, trivial⟩ ?_
    refine Tr.ret ?_
    replace h := Option.some.inj h; subst h
    exact Ct.retH1 (Ωx := []) (g12.1, g12.2.1, g12.2.2) rfl (RvOk.tmp rfl) rfl

theorem c_laws_toInt64S {a_0 : (List Int)} {r : (List Int)} (h : m_laws_toInt64S a_0 = some r) : CallJ Try.prog 16 [(pSl 1 (cK .i64) a_0)] (pSl 1 (cK .i64) r) :=
  CallH.frozen (o_laws_toInt64S h) (fun g => (Conv.row 0 (fun _ => rfl) rfl))

theorem o_laws_toInt64SS {a_0 : (List (List Int))}  {r : (List (List Int))} (h : m_laws_toInt64SS a_0 = some r) : CallH Try.prog 30 [(pSl 1 (cSl 1 (cK .i64)) a_0)] [] (fun g : (G3 × List G3) => (pEq (.slice g.1.1 g.1.2.1 g.1.2.2))) (fun g : (G3 × List G3) => [oSS 22 2 1 (cK .i64) g.1.1 g.1.2.1 g.1.2.2 g.2 r]) := by
  unfold m_laws_toInt64SS at h
  refine CallH.enter Try.func30 rfl Try.ntmps30 rfl fun W I0 H => ?_
  refine Tr.weak (Γ' := [(0, (pSl 1 (cSl 1 (cK .i64)) a_0))]) ⟨rfl, trivial⟩ ?_
  refine Tr.seq ?_
  refine Tr.region ?_
  refine RegL.pure (p := (pEq (.slice none 0 0))) rfl rfl rfl (J_assign rfl Opd.con) ?_
  refine RegL.nil ?_
  refine Ct.then_tr ?_
  refine Tr.weak (Γ' := [(0, (pSl 1 (cSl 1 (cK .i64)) a_0))]) ⟨rfl, trivial⟩ ?_
  refine Tr.seq ?_
  refine Tr.region ?_
  refine RegL.pure (p := (pSl 1 (cSl 1 (cK .i64)) a_0)) rfl rfl rfl (J_move rfl (Opd.tmp rfl)) ?_
  refine RegL.pure (p := (pEq (.int .i64 (a_0.length : Int)))) rfl rfl rfl (J_len rfl Try.underlying27 (Opd.tmp rfl) rfl) ?_
  replace h := bind_some h; obtain ⟨x1, hx1, h⟩ := h
  refine RegL.step (γ := Option Addr) (p := fun a => pEq (.slice a ((a_0.length : Int)).toNat ((a_0.length : Int)).toNat)) (Ω' := fun a => [oSl 22 1 cHdr a ((a_0.length : Int)).toNat ((a_0.length : Int)).toNat (List.replicate ((a_0.length : Int)).toNat ((none, 0, 0) : G3))]) rfl rfl rfl (M_make rfl Try.underlying27 elh22 (by decide) (Opd.tmp rfl) (mkL_hdr hx1)) fun o2 => ?_
  refine RegL.re (Ω2 := [oSS 22 2 1 (cK .i64) o2 ((a_0.length : Int)).toNat ((a_0.length : Int)).toNat (List.replicate ((a_0.length : Int)).toNat ((none, 0, 0) : G3)) x1]) (fun h => (by rw [(mkL_some hx1).2]; exact nest_rep h)) ?_
  refine RegL.pure (p := (pEq (.slice o2 ((a_0.length : Int)).toNat ((a_0.length : Int)).toNat))) rfl rfl rfl (J_assign rfl (Opd.tmp rfl)) ?_
  refine RegL.nil ?_
  refine Ct.then_tr ?_
  refine Tr.weak (Γ' := [(0, (pSl 1 (cSl 1 (cK .i64)) a_0)), (3, (pEq (.slice o2 ((a_0.length : Int)).toNat ((a_0.length : Int)).toNat)))]) ⟨rfl, rfl, trivial⟩ ?_
  refine Tr.seq ?_
  refine Tr.seq ?_
  refine Tr.region ?_
  refine RegL.pure (p := (pEq (.int .i64 (0 : Int)))) rfl rfl rfl (J_assign rfl Opd.con) ?_
  refine RegL.nil ?_
  refine Ct.then_tr ?_
  refine Tr.weak (Γ' := [(0, (pSl 1 (cSl 1 (cK .i64)) a_0)), (3, (pEq (.slice o2 ((a_0.length : Int)).toNat ((a_0.length : Int)).toNat))), (4, (pEq (.int .i64 (0 : Int))))]) ⟨rfl, rfl, rfl, trivial⟩ ?_
  replace h := bind_some h; obtain ⟨x4, hx4, h⟩ := h
  refine Tr.cut (γ := (G3 × List G3)) (Γm := fun g => [(3, (pEq (.slice g.1.1 g.1.2.1 g.1.2.2)))]) (Ωm := fun g => [oSS 22 2 1 (cK .i64) g.1.1 g.1.2.1 g.1.2.2 g.2 x4]) ?_ (fun g15 => ?_)
  · clear h
    have h := hx4
    clear hx4
    refine Tr.block ?_
    refine Tr.weak (Γ' := [(0, (pSl 1 (cSl 1 (cK .i64)) a_0)), (3, (pEq (.slice o2 ((a_0.length : Int)).toNat ((a_0.length : Int)).toNat))), (4, (pEq (.int .i64 (0 : Int))))]) ⟨rfl, rfl, rfl, trivial⟩ ?_
    refine Tr.loop (γ := (G3 × List G3)) (σ := (Int × (List (List Int)))) (Γσ := fun s g => [(0, (pSl 1 (cSl 1 (cK .i64)) a_0)), (3, (pEq (.slice g.1.1 g.1.2.1 g.1.2.2))), (4, (pEq (.int .i64 s.1)))]) (Ωσ := fun s g => [oSS 22 2 1 (cK .i64) g.1.1 g.1.2.1 g.1.2.2 g.2 s.2]) (g := ((o2, ((a_0.length : Int)).toNat, ((a_0.length : Int)).toNat), (List.replicate ((a_0.length : Int)).toNat ((none, 0, 0) : G3)))) h ?_
    clear h
    rintro ⟨v6, v7⟩ g8 t h
    replace h : m_laws_toInt64SS_B5 a_0 v6 v7 = some t := h
    unfold m_laws_toInt64SS_B5 at h
    refine Tr.weakO (Γ' := [(0, (pSl 1 (cSl 1 (cK .i64)) a_0)), (3, (pEq (.slice g8.1.1 g8.1.2.1 g8.1.2.2))), (4, (pEq (.int .i64 v6)))]) (Ω' := [oSS 22 2 1 (cK .i64) g8.1.1 g8.1.2.1 g8.1.2.2 g8.2 v7]) rfl ⟨rfl, rfl, rfl, trivial⟩ ?_
    refine Tr.seq ?_
    refine Tr.seq ?_
    refine Tr.region ?_
    refine RegL.pure (p := (pEq (.int .i64 v6))) rfl rfl rfl (J_move rfl (Opd.tmp rfl)) ?_
    refine RegL.pure (p := (pSl 1 (cSl 1 (cK .i64)) a_0)) rfl rfl rfl (J_move rfl (Opd.tmp rfl)) ?_
    refine RegL.pure (p := (pEq (.int .i64 (a_0.length : Int)))) rfl rfl rfl (J_len rfl Try.underlying27 (Opd.tmp rfl) rfl) ?_
    refine RegL.pure (p := (pEq (.bool (decide (v6 < (a_0.length : Int)))))) rfl rfl rfl (J_bin rfl (Opd.tmp rfl) (Opd.tmp rfl) B_lss) ?_
    refine RegL.nil ?_
    refine Ct.then_tr ?_
    refine Tr.weak (Γ' := [(0, (pSl 1 (cSl 1 (cK .i64)) a_0)), (3, (pEq (.slice g8.1.1 g8.1.2.1 g8.1.2.2))), (4, (pEq (.int .i64 v6))), (11, (pEq (.bool (decide (v6 < (a_0.length : Int))))))]) ⟨rfl, rfl, rfl, rfl, trivial⟩ ?_
    refine Tr.cond (Opd.tmp rfl) (fun hc => ?_) (fun hc => ?_)
    · replace h := bif_t hc h
      refine Tr.skip ?_
      refine Ct.then_tr ?_
      refine Tr.weak (Γ' := [(0, (pSl 1 (cSl 1 (cK .i64)) a_0)), (3, (pEq (.slice g8.1.1 g8.1.2.1 g8.1.2.2))), (4, (pEq (.int .i64 v6)))]) ⟨rfl, rfl, rfl, trivial⟩ ?_
      refine Tr.seq ?_
      refine Tr.block ?_
      refine Tr.region ?_
      refine RegL.pure (p := (pEq (.slice g8.1.1 g8.1.2.1 g8.1.2.2))) rfl rfl rfl (J_move rfl (Opd.tmp rfl)) ?_
      refine RegL.pure (p := (pEq (.int .i64 v6))) rfl rfl rfl (J_move rfl (Opd.tmp rfl)) ?_
      refine RegL.pure (p := (pSl 1 (cSl 1 (cK .i64)) a_0)) rfl rfl rfl (J_move rfl (Opd.tmp rfl)) ?_
      refine RegL.pure (p := (pEq (.int .i64 v6))) rfl rfl rfl (J_move rfl (Opd.tmp rfl)) ?_
      replace h := bind_some h; obtain ⟨x9, hx9, h⟩ := h
      refine RegL.pure (p := (pPtr ((cSl 1 (cK .i64)) x9))) rfl rfl rfl (J_idx rfl Try.underlying27 sz22 (Opd.tmp rfl) (Opd.tmp rfl) hx9) ?_
      refine RegL.pure (p := (pSl 1 (cK .i64) x9)) rfl rfl rfl (J_load rfl Try.isAgg22 (Opd.tmp rfl)) ?_
      replace h := bind_some h; obtain ⟨x10, hx10, h⟩ := h
      refine RegL.step (γ := G3) (p := fun g => (pEq (.slice g.1 g.2.1 g.2.2))) (Ω' := fun g => [oSl 2 1 (cK .i64) g.1 g.2.1 g.2.2 x10, oSS 22 2 1 (cK .i64) g8.1.1 g8.1.2.1 g8.1.2.2 g8.2 v7]) rfl rfl rfl (M_callH (Ωi := []) rfl Try.call16 (o_laws_toInt64S hx10) (Opds.cons (Opd.tmp rfl) Opds.nil)) fun g11 => ?_
      replace h := bind_some h; obtain ⟨u13, hu13, h⟩ := h
      refine RegL.pureW (p := (pEq (.pointer (some ⟨blk g8.1.1, (v6).toNat * 1, none⟩)))) rfl rfl rfl (W_nestIdx (j := 1) rfl Try.underlying27 sz22 (Opd.tmp rfl) (Opd.tmp rfl) rfl (inB_some hu13)) ?_
      refine RegL.re (Ω2 := [oSS 22 2 1 (cK .i64) g8.1.1 g8.1.2.1 g8.1.2.2 g8.2 v7, oSl 2 1 (cK .i64) g11.1 g11.2.1 g11.2.2 x10]) (fun h => SatO.pick 1 h) ?_
      refine RegL.stepN (γ := Unit) (p := fun _ => pAny) (Ω' := fun _ => [oSS 22 2 1 (cK .i64) g8.1.1 g8.1.2.1 g8.1.2.2 (g8.2.set (v6).toNat (g11.1, g11.2.1, g11.2.2)) (v7.set (v6).toNat x10)]) rfl rfl (M_nestStore rfl sz22 (Opd.tmp rfl) (Opd.tmp rfl) (inB_some hu13)) fun g14 => ?_
      refine RegL.nil ?_
      refine Ct.blk_normal ?_
      refine Ct.then_tr ?_
      refine Tr.weak (Γ' := [(0, (pSl 1 (cSl 1 (cK .i64)) a_0)), (3, (pEq (.slice g8.1.1 g8.1.2.1 g8.1.2.2))), (4, (pEq (.int .i64 v6)))]) ⟨rfl, rfl, rfl, trivial⟩ ?_
      refine Tr.region ?_
      refine RegL.pure (p := (pEq (.int .i64 v6))) rfl rfl rfl (J_move rfl (Opd.tmp rfl)) ?_
      refine RegL.pure (p := (pEq (.int .i64 (w64 (v6 + (1 : Int)))))) rfl rfl rfl (J_bin rfl (Opd.tmp rfl) Opd.con B_add) ?_
      refine RegL.pure (p := (pEq (.int .i64 (w64 (v6 + (1 : Int)))))) rfl rfl rfl (J_assign rfl (Opd.tmp rfl)) ?_
      refine RegL.nil ?_
      replace h := Option.some.inj h; subst h
      exact Ct.again ((g8.1.1, g8.1.2.1, g8.1.2.2), (g8.2.set (v6).toNat (g11.1, g11.2.1, g11.2.2))) rfl ⟨rfl, rfl, rfl, trivial⟩
    · replace h := bif_f hc h
      refine Tr.exit ?_
      refine Ct.then_exit ?_
      replace h := map_some h; obtain ⟨r1, h, rfl⟩ := h
      refine Ct.out_exit fun e => ?_
      subst e
      refine Ct.blk_exit ?_
      replace h := Option.some.inj h; subst h
      exact Ct.mid ((g8.1.1, g8.1.2.1, g8.1.2.2), g8.2) rfl ⟨rfl, trivial⟩
  · clear hx4
    refine Ct.then_tr ?_
    refine Tr.weak (Γ' := [(3, (pEq (.slice g15.1.1 g15.1.2.1 g15.1.2.2)))]) ⟨rfl, trivial⟩ ?_
    refine Tr.seq ?_
    refine Tr.region ?_
    refine RegL.pure (p := (pEq (.slice g15.1.1 g15.1.2.1 g15.1.2.2))) rfl rfl rfl (J_move rfl (Opd.tmp rfl)) ?_
    refine RegL.pure (p := (pEq (.slice g15.1.1 g15.1.2.1 g15.1.2.2))) rfl rfl rfl (J_assign rfl (Opd.tmp rfl)) ?_
    refine RegL.nil ?_
    refine Ct.then_tr ?_
    refine Tr.weak (Γ' := [(2, (pEq (.slice g15.1.1 g15.1.2.1 g15.1.2.2)))]) ⟨rfl, trivial⟩ ?_
    refine Tr.ret ?_
    replace h := Option.some.inj h; subst h
    exact Ct.retH1 (Ωx := []) ((g15.1.1, g15.1.2.1, g15.1.2.2), g15.2) rfl (RvOk.tmp rfl) rfl

theorem c_laws_toInt64SS {a_0 : (List (List Int))} {r : (List (List Int))} (h : m_laws_toInt64SS a_0 = some r) : CallJ Try.prog 30 [(pSl 1 (cSl 1 (cK .i64)) a_0)] (pSl 1 (cSl 1 (cK .i64)) r) :=
  CallH.frozen (o_laws_toInt64SS h) (fun g => (Conv.nest 0 (fun _ => rfl) rfl))

theorem o_laws_toProblem {a_0 : GProblem}  {r : GProblem} (h : m_laws_toProblem a_0 = some r) : CallH Try.prog 21 [(pAgg (cGProblem a_0))] [] (fun g : ((G3 × List G3) × (G3 × List G3)) => (pAgg [(pEq (.slice g.1.1.1 g.1.1.2.1 g.1.1.2.2)), (pEq (.slice g.2.1.1 g.2.1.2.1 g.2.1.2.2))])) (fun g : ((G3 × List G3) × (G3 × List G3)) => [oSS 22 2 1 (cK .i64) g.1.1.1 g.1.1.2.1 g.1.1.2.2 g.1.2 r.Domains, oSS 22 2 1 (cK .i64) g.2.1.1 g.2.1.2.1 g.2.1.2.2 g.2.2 r.Apart]) := by
  unfold m_laws_toProblem at h
  refine CallH.enter Try.func21 rfl Try.ntmps21 rfl fun W I0 H => ?_
  refine Tr.weak (Γ' := [(0, (pAgg (cGProblem a_0)))]) ⟨rfl, trivial⟩ ?_
  refine Tr.seq ?_
  refine Tr.region ?_
  refine RegL.pure (p := (pPtr (cGProblem a_0))) rfl rfl rfl (J_boxA rfl (Opd.tmp rfl)) ?_
  refine RegL.step (γ := Nat) (p := fun b => pEq (.pointer (some ⟨b, 0, none⟩))) (Ω' := fun b => [oBlk b [(pEq (.slice none 0 0)), (pEq (.slice none 0 0))]]) rfl rfl rfl (M_alloc rfl zero32) fun b1 => ?_
  refine RegL.nil ?_
  refine Ct.then_tr ?_
  refine Tr.weak (Γ' := [(1, (pPtr (cGProblem a_0))), (2, (pEq (.pointer (some ⟨b1, 0, none⟩))))]) ⟨rfl, rfl, trivial⟩ ?_
  refine Tr.seq ?_
  refine Tr.region ?_
  refine RegL.step (γ := Nat) (p := fun b => pEq (.pointer (some ⟨b, 0, none⟩))) (Ω' := fun b => [oBlk b [(pEq (.slice none 0 0)), (pEq (.slice none 0 0))], oBlk b1 [(pEq (.slice none 0 0)), (pEq (.slice none 0 0))]]) rfl rfl rfl (M_alloc rfl zero32) fun b2 => ?_
  refine RegL.nil ?_
  refine Ct.then_tr ?_
  refine Tr.weak (Γ' := [(1, (pPtr (cGProblem a_0))), (2, (pEq (.pointer (some ⟨b1, 0, none⟩)))), (3, (pEq (.pointer (some ⟨b2, 0, none⟩))))]) ⟨rfl, rfl, rfl, trivial⟩ ?_
  refine Tr.seq ?_
  refine Tr.region ?_
  refine RegL.pure (p := (pPtr ((cSl 1 (cSl 1 (cK .i64))) a_0.Domains))) rfl rfl rfl (J_fieldAddr rfl Try.underlying29 rfl sz27 (by decide) (Opd.tmp rfl) rfl) ?_
  refine RegL.pure (p := (pSl 1 (cSl 1 (cK .i64)) a_0.Domains)) rfl rfl rfl (J_load rfl Try.isAgg27 (Opd.tmp rfl)) ?_
  replace h := bind_some h; obtain ⟨x3, hx3, h⟩ := h
  refine RegL.step (γ := (G3 × List G3)) (p := fun g => (pEq (.slice g.1.1 g.1.2.1 g.1.2.2))) (Ω' := fun g => [oSS 22 2 1 (cK .i64) g.1.1 g.1.2.1 g.1.2.2 g.2 x3, oBlk b2 [(pEq (.slice none 0 0)), (pEq (.slice none 0 0))], oBlk b1 [(pEq (.slice none 0 0)), (pEq (.slice none 0 0))]]) rfl rfl rfl (M_callH (Ωi := []) rfl Try.call30 (o_laws_toInt64SS hx3) (Opds.cons (Opd.tmp rfl) Opds.nil)) fun g4 => ?_
  refine RegL.pure (p := (pEq (.pointer (some ⟨b2, 0, none⟩)))) rfl rfl rfl (J_fieldAddrE rfl Try.underlying32 rfl sz27 (by decide) (Opd.tmp rfl) rfl) ?_
  refine RegL.re (Ω2 := [oBlk b2 [(pEq (.slice none 0 0)), (pEq (.slice none 0 0))], oSS 22 2 1 (cK .i64) g4.1.1 g4.1.2.1 g4.1.2.2 g4.2 x3, oBlk b1 [(pEq (.slice none 0 0)), (pEq (.slice none 0 0))]]) (fun h => SatO.pick 1 h) ?_
  refine RegL.stepN (γ := Unit) (p := fun _ => pAny) (Ω' := fun _ => [oBlk b2 [(pEq (.slice g4.1.1 g4.1.2.1 g4.1.2.2)), (pEq (.slice none 0 0))], oSS 22 2 1 (cK .i64) g4.1.1 g4.1.2.1 g4.1.2.2 g4.2 x3, oBlk b1 [(pEq (.slice none 0 0)), (pEq (.slice none 0 0))]]) rfl rfl (M_store rfl sz27 (Opd.tmp rfl) (Opd.tmp rfl) OneC.slice rfl rfl) fun g6 => ?_
  refine RegL.nil ?_
  refine Ct.then_tr ?_
  refine Tr.weak (Γ' := [(1, (pPtr (cGProblem a_0))), (2, (pEq (.pointer (some ⟨b1, 0, none⟩)))), (3, (pEq (.pointer (some ⟨b2, 0, none⟩))))]) ⟨rfl, rfl, rfl, trivial⟩ ?_
  refine Tr.seq ?_
  refine Tr.region ?_
  refine RegL.pure (p := (pPtr ((cSl 1 (cSl 1 (cK .i64))) a_0.Apart))) rfl rfl rfl (J_fieldAddr rfl Try.underlying29 rfl sz27 (by decide) (Opd.tmp rfl) rfl) ?_
  refine RegL.pure (p := (pSl 1 (cSl 1 (cK .i64)) a_0.Apart)) rfl rfl rfl (J_load rfl Try.isAgg27 (Opd.tmp rfl)) ?_
  replace h := bind_some h; obtain ⟨x7, hx7, h⟩ := h
  refine RegL.step (γ := (G3 × List G3)) (p := fun g => (pEq (.slice g.1.1 g.1.2.1 g.1.2.2))) (Ω' := fun g => [oSS 22 2 1 (cK .i64) g.1.1 g.1.2.1 g.1.2.2 g.2 x7, oBlk b2 [(pEq (.slice g4.1.1 g4.1.2.1 g4.1.2.2)), (pEq (.slice none 0 0))], oSS 22 2 1 (cK .i64) g4.1.1 g4.1.2.1 g4.1.2.2 g4.2 x3, oBlk b1 [(pEq (.slice none 0 0)), (pEq (.slice none 0 0))]]) rfl rfl rfl (M_callH (Ωi := []) rfl Try.call30 (o_laws_toInt64SS hx7) (Opds.cons (Opd.tmp rfl) Opds.nil)) fun g8 => ?_
  refine RegL.pure (p := (pEq (.pointer (some ⟨b2, 1, none⟩)))) rfl rfl rfl (J_fieldAddrE rfl Try.underlying32 rfl sz27 (by decide) (Opd.tmp rfl) rfl) ?_
  refine RegL.re (Ω2 := [oBlk b2 [(pEq (.slice g4.1.1 g4.1.2.1 g4.1.2.2)), (pEq (.slice none 0 0))], oSS 22 2 1 (cK .i64) g8.1.1 g8.1.2.1 g8.1.2.2 g8.2 x7, oSS 22 2 1 (cK .i64) g4.1.1 g4.1.2.1 g4.1.2.2 g4.2 x3, oBlk b1 [(pEq (.slice none 0 0)), (pEq (.slice none 0 0))]]) (fun h => SatO.pick 1 h) ?_
  refine RegL.stepN (γ := Unit) (p := fun _ => pAny) (Ω' := fun _ => [oBlk b2 [(pEq (.slice g4.1.1 g4.1.2.1 g4.1.2.2)), (pEq (.slice g8.1.1 g8.1.2.1 g8.1.2.2))], oSS 22 2 1 (cK .i64) g8.1.1 g8.1.2.1 g8.1.2.2 g8.2 x7, oSS 22 2 1 (cK .i64) g4.1.1 g4.1.2.1 g4.1.2.2 g4.2 x3, oBlk b1 [(pEq (.slice none 0 0)), (pEq (.slice none 0 0))]]) rfl rfl (M_store rfl sz27 (Opd.tmp rfl) (Opd.tmp rfl) OneC.slice rfl rfl) fun g10 => ?_
  refine RegL.nil ?_
  refine Ct.then_tr ?_
  refine Tr.weak (Γ' := [(2, (pEq (.pointer (some ⟨b1, 0, none⟩)))), (3, (pEq (.pointer (some ⟨b2, 0, none⟩))))]) ⟨rfl, rfl, trivial⟩ ?_
  refine Tr.seq ?_
  refine Tr.region ?_
  refine RegL.pureW (p := (pAgg [(pEq (.slice g4.1.1 g4.1.2.1 g4.1.2.2)), (pEq (.slice g8.1.1 g8.1.2.1 g8.1.2.2))])) rfl rfl rfl (W_loadA (i := 0) rfl Try.isAgg32 sz32 (Opd.tmp rfl) rfl rfl) ?_
  refine RegL.re (Ω2 := [oBlk b1 [(pEq (.slice none 0 0)), (pEq (.slice none 0 0))], oBlk b2 [(pEq (.slice g4.1.1 g4.1.2.1 g4.1.2.2)), (pEq (.slice g8.1.1 g8.1.2.1 g8.1.2.2))], oSS 22 2 1 (cK .i64) g8.1.1 g8.1.2.1 g8.1.2.2 g8.2 x7, oSS 22 2 1 (cK .i64) g4.1.1 g4.1.2.1 g4.1.2.2 g4.2 x3]) (fun h => SatO.pick 3 h) ?_
  refine RegL.stepN (γ := Unit) (p := fun _ => pAny) (Ω' := fun _ => [oBlk b1 [(pEq (.slice g4.1.1 g4.1.2.1 g4.1.2.2)), (pEq (.slice g8.1.1 g8.1.2.1 g8.1.2.2))], oBlk b2 [(pEq (.slice g4.1.1 g4.1.2.1 g4.1.2.2)), (pEq (.slice g8.1.1 g8.1.2.1 g8.1.2.2))], oSS 22 2 1 (cK .i64) g8.1.1 g8.1.2.1 g8.1.2.2 g8.2 x7, oSS 22 2 1 (cK .i64) g4.1.1 g4.1.2.1 g4.1.2.2 g4.2 x3]) rfl rfl (M_storeA rfl sz32 (Opd.tmp rfl) (Opd.tmp rfl) (fun _ _ _ h => ones_of ((OneCs.cons OneC.slice (OneCs.cons OneC.slice OneCs.nil))) h) rfl rfl) fun g11 => ?_
  refine RegL.nil ?_
  refine Ct.then_tr ?_
  refine Tr.weak (Γ' := [(2, (pEq (.pointer (some ⟨b1, 0, none⟩))))]) ⟨rfl, trivial⟩ ?_
  refine Tr.ret ?_
  refine Ct.re (Ω2 := [oSS 22 2 1 (cK .i64) g8.1.1 g8.1.2.1 g8.1.2.2 g8.2 x7, oBlk b1 [(pEq (.slice g4.1.1 g4.1.2.1 g4.1.2.2)), (pEq (.slice g8.1.1 g8.1.2.1 g8.1.2.2))], oBlk b2 [(pEq (.slice g4.1.1 g4.1.2.1 g4.1.2.2)), (pEq (.slice g8.1.1 g8.1.2.1 g8.1.2.2))], oSS 22 2 1 (cK .i64) g4.1.1 g4.1.2.1 g4.1.2.2 g4.2 x3]) (fun h => SatO.pick 2 h) ?_
  refine Ct.re (Ω2 := [oSS 22 2 1 (cK .i64) g4.1.1 g4.1.2.1 g4.1.2.2 g4.2 x3, oSS 22 2 1 (cK .i64) g8.1.1 g8.1.2.1 g8.1.2.2 g8.2 x7, oBlk b1 [(pEq (.slice g4.1.1 g4.1.2.1 g4.1.2.2)), (pEq (.slice g8.1.1 g8.1.2.1 g8.1.2.2))], oBlk b2 [(pEq (.slice g4.1.1 g4.1.2.1 g4.1.2.2)), (pEq (.slice g8.1.1 g8.1.2.1 g8.1.2.2))]]) (fun h => SatO.pick 3 h) ?_
  refine Ct.re (Ω2 := [oBlk b2 [(pEq (.slice g4.1.1 g4.1.2.1 g4.1.2.2)), (pEq (.slice g8.1.1 g8.1.2.1 g8.1.2.2))], oSS 22 2 1 (cK .i64) g4.1.1 g4.1.2.1 g4.1.2.2 g4.2 x3, oSS 22 2 1 (cK .i64) g8.1.1 g8.1.2.1 g8.1.2.2 g8.2 x7, oBlk b1 [(pEq (.slice g4.1.1 g4.1.2.1 g4.1.2.2)), (pEq (.slice g8.1.1 g8.1.2.1 g8.1.2.2))]]) (fun h => SatO.pick 3 h) ?_
  refine Ct.re (Ω2 := [oBlk b1 [(pEq (.slice g4.1.1 g4.1.2.1 g4.1.2.2)), (pEq (.slice g8.1.1 g8.1.2.1 g8.1.2.2))], oBlk b2 [(pEq (.slice g4.1.1 g4.1.2.1 g4.1.2.2)), (pEq (.slice g8.1.1 g8.1.2.1 g8.1.2.2))], oSS 22 2 1 (cK .i64) g4.1.1 g4.1.2.1 g4.1.2.2 g4.2 x3, oSS 22 2 1 (cK .i64) g8.1.1 g8.1.2.1 g8.1.2.2 g8.2 x7]) (fun h => SatO.pick 3 h) ?_
  replace h := Option.some.inj h; subst h
  exact Ct.retH1 (Ωx := [oBlk b1 [(pEq (.slice g4.1.1 g4.1.2.1 g4.1.2.2)), (pEq (.slice g8.1.1 g8.1.2.1 g8.1.2.2))], oBlk b2 [(pEq (.slice g4.1.1 g4.1.2.1 g4.1.2.2)), (pEq (.slice g8.1.1 g8.1.2.1 g8.1.2.2))]]) (((g4.1.1, g4.1.2.1, g4.1.2.2), g4.2), ((g8.1.1, g8.1.2.1, g8.1.2.2), g8.2)) rfl (RvOk.cellA (i := 0) Try.isAgg32 sz32 rfl rfl rfl) rfl

theorem c_laws_toProblem {a_0 : GProblem} {r : GProblem} (h : m_laws_toProblem a_0 = some r) : CallJ Try.prog 21 [(pAgg (cGProblem a_0))] (pAgg (cGProblem r)) :=
  CallH.frozen (o_laws_toProblem h) (fun g => (Conv.agg (Convs.cons (Conv.nest 0 (fun _ => rfl) rfl) (Convs.cons (Conv.nest 1 (fun _ => rfl) rfl) Convs.nil))))

theorem c_spec_l00In {n_0 : Int} {low_1 : Int} {high_2 : Int} {r : Bool} (h : m_spec_l00In n_0 low_1 high_2 = some r) : CallJ Try.prog 53 [(pEq (.int .i64 n_0)), (pEq (.int .i64 low_1)), (pEq (.int .i64 high_2))] (pEq (.bool r)) := by
  unfold m_spec_l00In at h
  refine CallJ.enterH Try.func53 rfl Try.ntmps53 rfl fun W I0 H => ?_
  refine Tr.weak (Γ' := [(0, (pEq (.int .i64 n_0))), (1, (pEq (.int .i64 low_1))), (2, (pEq (.int .i64 high_2)))]) ⟨rfl, rfl, rfl, trivial⟩ ?_
  refine Tr.seq ?_
  refine Tr.region ?_
  refine RegL.pure (p := (pEq (.bool false))) rfl rfl rfl (J_assign rfl Opd.con) ?_
  refine RegL.nil ?_
  refine Ct.then_tr ?_
  refine Tr.weak (Γ' := [(0, (pEq (.int .i64 n_0))), (1, (pEq (.int .i64 low_1))), (2, (pEq (.int .i64 high_2)))]) ⟨rfl, rfl, rfl, trivial⟩ ?_
  refine Tr.seq ?_
  replace h := bind_some h; obtain ⟨x1, hx1, h⟩ := h
  refine Tr.cut (γ := Unit) (Γm := fun g => [(6, (pEq (.bool x1)))]) (Ωm := fun g => []) ?_ (fun g3 => ?_)
  · clear h
    have h := hx1
    clear hx1
    refine Tr.region ?_
    refine RegL.pure (p := (pEq (.int .i64 n_0))) rfl rfl rfl (J_move rfl (Opd.tmp rfl)) ?_
    refine RegL.pure (p := (pEq (.int .i64 low_1))) rfl rfl rfl (J_move rfl (Opd.tmp rfl)) ?_
    refine RegL.pure (p := (pEq (.bool (decide (low_1 ≤ n_0))))) rfl rfl rfl (J_bin rfl (Opd.tmp rfl) (Opd.tmp rfl) B_geq) ?_
    refine RegL.pure (p := (pEq (.bool (decide (low_1 ≤ n_0))))) rfl rfl rfl (J_move rfl (Opd.tmp rfl)) ?_
    rcases Bool.eq_false_or_eq_true (decide (low_1 ≤ n_0)) with hc2 | hc2
    · replace h := bif_t hc2 h
      refine RegL.pureG (p := (pEq (.int .i64 n_0))) rfl rfl rfl hc2 rfl rfl (J_move rfl (Opd.tmp rfl)) ?_
      refine RegL.pureG (p := (pEq (.int .i64 high_2))) rfl rfl rfl hc2 rfl rfl (J_move rfl (Opd.tmp rfl)) ?_
      refine RegL.pureG (p := (pEq (.bool (decide (n_0 ≤ high_2))))) rfl rfl rfl hc2 rfl rfl (J_bin rfl (Opd.tmp rfl) (Opd.tmp rfl) B_leq) ?_
      refine RegL.pure (p := (pEq (.bool (decide (n_0 ≤ high_2))))) rfl rfl rfl (J_pick rfl (Opd.tmp rfl) (fun _ => (Opd.tmp rfl)) (fun hf => absurd (hc2.symm.trans hf) (by decide))) ?_
      refine RegL.pure (p := (pEq (.bool (decide (n_0 ≤ high_2))))) rfl rfl rfl (J_assign rfl (Opd.tmp rfl)) ?_
      refine RegL.nil ?_
      replace h := Option.some.inj h; subst h
      exact Ct.mid () rfl ⟨rfl, trivial⟩
    · replace h := bif_f hc2 h
      refine RegL.skipG rfl rfl rfl hc2 rfl rfl ?_
      refine RegL.skipG rfl rfl rfl hc2 rfl rfl ?_
      refine RegL.skipG rfl rfl rfl hc2 rfl rfl ?_
      refine RegL.pure (p := (pEq (.bool false))) rfl rfl rfl (J_pick rfl (Opd.tmp rfl) (fun hf => absurd (hc2.symm.trans hf) (by decide)) (fun _ => Opd.con)) ?_
      refine RegL.pure (p := (pEq (.bool false))) rfl rfl rfl (J_assign rfl (Opd.tmp rfl)) ?_
      refine RegL.nil ?_
      replace h := Option.some.inj h; subst h
      exact Ct.mid () rfl ⟨rfl, trivial⟩
  · clear hx1
    refine Ct.then_tr ?_
    refine Tr.weak (Γ' := [(6, (pEq (.bool x1)))]) ⟨rfl, trivial⟩ ?_
    refine Tr.ret ?_
    replace h := Option.some.inj h; subst h
    exact Ct.retH1 (Ωx := []) () rfl (RvOk.tmp rfl) rfl

theorem c_spec_l00Rises {list_0 : (List Int)} {low_1 : Int} {high_2 : Int} {r : Bool} (h : m_spec_l00Rises list_0 low_1 high_2 = some r) : CallJ Try.prog 74 [(pSl 1 (cK .i64) list_0), (pEq (.int .i64 low_1)), (pEq (.int .i64 high_2))] (pEq (.bool r)) := by
  unfold m_spec_l00Rises at h
  refine CallJ.enterH Try.func74 rfl Try.ntmps74 rfl fun W I0 H => ?_
  refine Tr.weak (Γ' := [(0, (pSl 1 (cK .i64) list_0)), (1, (pEq (.int .i64 low_1))), (2, (pEq (.int .i64 high_2)))]) ⟨rfl, rfl, rfl, trivial⟩ ?_
  refine Tr.seq ?_
  refine Tr.region ?_
  refine RegL.pure (p := (pEq (.bool false))) rfl rfl rfl (J_assign rfl Opd.con) ?_
  refine RegL.nil ?_
  refine Ct.then_tr ?_
  refine Tr.weak (Γ' := [(0, (pSl 1 (cK .i64) list_0)), (1, (pEq (.int .i64 low_1))), (2, (pEq (.int .i64 high_2)))]) ⟨rfl, rfl, rfl, trivial⟩ ?_
  refine Tr.seq ?_
  refine Tr.seq ?_
  refine Tr.region ?_
  refine RegL.pure (p := (pEq (.int .i64 (0 : Int)))) rfl rfl rfl (J_assign rfl Opd.con) ?_
  refine RegL.nil ?_
  refine Ct.then_tr ?_
  refine Tr.weak (Γ' := [(0, (pSl 1 (cK .i64) list_0)), (1, (pEq (.int .i64 low_1))), (2, (pEq (.int .i64 high_2))), (7, (pEq (.int .i64 (0 : Int))))]) ⟨rfl, rfl, rfl, rfl, trivial⟩ ?_
  refine Tr.block ?_
  refine Tr.weak (Γ' := [(0, (pSl 1 (cK .i64) list_0)), (1, (pEq (.int .i64 low_1))), (2, (pEq (.int .i64 high_2))), (7, (pEq (.int .i64 (0 : Int))))]) ⟨rfl, rfl, rfl, rfl, trivial⟩ ?_
  refine Tr.loop (γ := Unit) (σ := Int) (Γσ := fun s g => [(0, (pSl 1 (cK .i64) list_0)), (1, (pEq (.int .i64 low_1))), (2, (pEq (.int .i64 high_2))), (7, (pEq (.int .i64 s)))]) (Ωσ := fun s g => []) (g := ()) h ?_
  clear h
  rintro v2 g3 t h
  replace h : m_spec_l00Rises_B1 list_0 low_1 high_2 v2 = some t := h
  unfold m_spec_l00Rises_B1 at h
  refine Tr.weakO (Γ' := [(0, (pSl 1 (cK .i64) list_0)), (1, (pEq (.int .i64 low_1))), (2, (pEq (.int .i64 high_2))), (7, (pEq (.int .i64 v2)))]) (Ω' := []) rfl ⟨rfl, rfl, rfl, rfl, trivial⟩ ?_
  refine Tr.seq ?_
  refine Tr.seq ?_
  refine Tr.region ?_
  refine RegL.pure (p := (pEq (.int .i64 v2))) rfl rfl rfl (J_move rfl (Opd.tmp rfl)) ?_
  refine RegL.pure (p := (pSl 1 (cK .i64) list_0)) rfl rfl rfl (J_move rfl (Opd.tmp rfl)) ?_
  refine RegL.pure (p := (pEq (.int .i64 (list_0.length : Int)))) rfl rfl rfl (J_len rfl Try.underlying22 (Opd.tmp rfl) rfl) ?_
  refine RegL.pure (p := (pEq (.bool (decide (v2 < (list_0.length : Int)))))) rfl rfl rfl (J_bin rfl (Opd.tmp rfl) (Opd.tmp rfl) B_lss) ?_
  refine RegL.nil ?_
  refine Ct.then_tr ?_
  refine Tr.weak (Γ' := [(0, (pSl 1 (cK .i64) list_0)), (1, (pEq (.int .i64 low_1))), (2, (pEq (.int .i64 high_2))), (7, (pEq (.int .i64 v2))), (11, (pEq (.bool (decide (v2 < (list_0.length : Int))))))]) ⟨rfl, rfl, rfl, rfl, rfl, trivial⟩ ?_
  refine Tr.cond (Opd.tmp rfl) (fun hc => ?_) (fun hc => ?_)
  · replace h := bif_t hc h
    refine Tr.skip ?_
    refine Ct.then_tr ?_
    refine Tr.weak (Γ' := [(0, (pSl 1 (cK .i64) list_0)), (1, (pEq (.int .i64 low_1))), (2, (pEq (.int .i64 high_2))), (7, (pEq (.int .i64 v2)))]) ⟨rfl, rfl, rfl, rfl, trivial⟩ ?_
    refine Tr.seq ?_
    refine Tr.block ?_
    refine Tr.seq ?_
    replace h := bind_some h; obtain ⟨x4, hx4, h⟩ := h
    refine Tr.cut (γ := Unit) (Γm := fun g => [(0, (pSl 1 (cK .i64) list_0)), (1, (pEq (.int .i64 low_1))), (2, (pEq (.int .i64 high_2))), (7, (pEq (.int .i64 v2))), (37, (pEq (.bool x4)))]) (Ωm := fun g => []) ?_ (fun g11 => ?_)
    · clear h
      have h := hx4
      clear hx4
      replace h := bind_some h; obtain ⟨x5, hx5, h⟩ := h
      replace h := bind_some h; obtain ⟨x6, hx6, h⟩ := h
      rcases Bool.eq_false_or_eq_true (!x6) with hc7 | hc7
      · replace h := bif_t hc7 h
        refine Tr.drawD (n := 38) (m := 24) (es := [some (Ent.mk [(0, (pSl 1 (cK .i64) list_0))] (pSl 1 (cK .i64) list_0) true), some (Ent.mk [(7, (pEq (.int .i64 v2)))] (pEq (.int .i64 v2)) true), some (Ent.mk [(14, (pSl 1 (cK .i64) list_0)), (15, (pEq (.int .i64 v2)))] (pPtr ((cK .i64) x5)) true), some (Ent.mk [(16, (pPtr ((cK .i64) x5)))] (pEq (.int .i64 x5)) true), some (Ent.mk [(1, (pEq (.int .i64 low_1)))] (pEq (.int .i64 low_1)) true), some (Ent.mk [(2, (pEq (.int .i64 high_2)))] (pEq (.int .i64 high_2)) true), some (Ent.mk [(17, (pEq (.int .i64 x5))), (18, (pEq (.int .i64 low_1))), (19, (pEq (.int .i64 high_2)))] (pEq (.bool x6)) true), some (Ent.mk [(20, (pEq (.bool x6)))] (pEq (.bool (!x6))) true), some (Ent.mk [(21, (pEq (.bool (!x6))))] (pEq (.bool (!x6))) true), some (Ent.mk [(7, (pEq (.int .i64 v2)))] (pEq undef) false), some (Ent.mk [(23, (pEq undef))] (pEq undef) false), some (Ent.mk [(24, (pEq undef))] (pEq undef) false), some (Ent.mk [(0, (pSl 1 (cK .i64) list_0))] (pEq undef) false), some (Ent.mk [(7, (pEq (.int .i64 v2)))] (pEq undef) false), some (Ent.mk [(27, (pEq undef))] (pEq undef) false), some (Ent.mk [(26, (pEq undef)), (28, (pEq undef))] (pEq undef) false), some (Ent.mk [(29, (pEq undef))] (pEq undef) false), some (Ent.mk [(0, (pSl 1 (cK .i64) list_0))] (pEq undef) false), some (Ent.mk [(7, (pEq (.int .i64 v2)))] (pEq undef) false), some (Ent.mk [(31, (pEq undef)), (32, (pEq undef))] (pEq undef) false), some (Ent.mk [(33, (pEq undef))] (pEq undef) false), some (Ent.mk [(30, (pEq undef)), (34, (pEq undef))] (pEq undef) false), some (Ent.mk [(25, (pEq undef)), (35, (pEq undef))] (pEq undef) false), some (Ent.mk [(22, (pEq (.bool (!x6)))), (36, (pEq undef))] (pEq (.bool true)) true)]) (rd := [[0], [7], [14, 15], [16], [1], [2], [17, 18, 19], [20], [21], [7], [23], [24], [0], [7], [27], [26, 28], [29], [0], [7], [31, 32], [33], [30, 34], [25, 35], [22, 36]]) rfl hmix (by kernel_rfl) fun hD => ?_
        refine RD.fin (es := [Ent.mk [(0, (pSl 1 (cK .i64) list_0))] (pSl 1 (cK .i64) list_0) true, Ent.mk [(7, (pEq (.int .i64 v2)))] (pEq (.int .i64 v2)) true, Ent.mk [(14, (pSl 1 (cK .i64) list_0)), (15, (pEq (.int .i64 v2)))] (pPtr ((cK .i64) x5)) true, Ent.mk [(16, (pPtr ((cK .i64) x5)))] (pEq (.int .i64 x5)) true, Ent.mk [(1, (pEq (.int .i64 low_1)))] (pEq (.int .i64 low_1)) true, Ent.mk [(2, (pEq (.int .i64 high_2)))] (pEq (.int .i64 high_2)) true, Ent.mk [(17, (pEq (.int .i64 x5))), (18, (pEq (.int .i64 low_1))), (19, (pEq (.int .i64 high_2)))] (pEq (.bool x6)) true, Ent.mk [(20, (pEq (.bool x6)))] (pEq (.bool (!x6))) true, Ent.mk [(21, (pEq (.bool (!x6))))] (pEq (.bool (!x6))) true, Ent.mk [(7, (pEq (.int .i64 v2)))] (pEq undef) false, Ent.mk [(23, (pEq undef))] (pEq undef) false, Ent.mk [(24, (pEq undef))] (pEq undef) false, Ent.mk [(0, (pSl 1 (cK .i64) list_0))] (pEq undef) false, Ent.mk [(7, (pEq (.int .i64 v2)))] (pEq undef) false, Ent.mk [(27, (pEq undef))] (pEq undef) false, Ent.mk [(26, (pEq undef)), (28, (pEq undef))] (pEq undef) false, Ent.mk [(29, (pEq undef))] (pEq undef) false, Ent.mk [(0, (pSl 1 (cK .i64) list_0))] (pEq undef) false, Ent.mk [(7, (pEq (.int .i64 v2)))] (pEq undef) false, Ent.mk [(31, (pEq undef)), (32, (pEq undef))] (pEq undef) false, Ent.mk [(33, (pEq undef))] (pEq undef) false, Ent.mk [(30, (pEq undef)), (34, (pEq undef))] (pEq undef) false, Ent.mk [(25, (pEq undef)), (35, (pEq undef))] (pEq undef) false, Ent.mk [(22, (pEq (.bool (!x6)))), (36, (pEq undef))] (pEq (.bool true)) true]) (done := []) hD ⟨.inr ⟨(OpJ.w (J_move rfl (Opd.tmp rfl))), ⟨rfl, trivial⟩, rfl, rfl⟩, ⟨.inr ⟨(OpJ.w (J_move rfl (Opd.tmp rfl))), ⟨rfl, trivial⟩, rfl, rfl⟩, ⟨.inr ⟨(OpJ.w (J_idx rfl Try.underlying22 sz2 (Opd.tmp rfl) (Opd.tmp rfl) hx5)), ⟨rfl, rfl, trivial⟩, rfl, rfl⟩, ⟨.inr ⟨(OpJ.w (J_load rfl Try.isAgg2 (Opd.tmp rfl))), ⟨rfl, trivial⟩, rfl, rfl⟩, ⟨.inr ⟨(OpJ.w (J_move rfl (Opd.tmp rfl))), ⟨rfl, trivial⟩, rfl, rfl⟩, ⟨.inr ⟨(OpJ.w (J_move rfl (Opd.tmp rfl))), ⟨rfl, trivial⟩, rfl, rfl⟩, ⟨.inr ⟨(OpJ.w (J_call rfl Try.call53 (c_spec_l00In hx6) (Opds.cons (Opd.tmp rfl) (Opds.cons (Opd.tmp rfl) (Opds.cons (Opd.tmp rfl) Opds.nil))))), ⟨rfl, rfl, rfl, trivial⟩, rfl, rfl⟩, ⟨.inr ⟨(OpJ.w (J_not rfl (Opd.tmp rfl))), ⟨rfl, trivial⟩, rfl, rfl⟩, ⟨.inr ⟨(OpJ.w (J_move rfl (Opd.tmp rfl))), ⟨rfl, trivial⟩, rfl, rfl⟩, ⟨.inr ⟨rfl, ⟨rfl, trivial⟩, (.inl ⟨_, rfl, by simp [hc7]⟩), rfl⟩, ⟨.inr ⟨rfl, ⟨rfl, trivial⟩, (.inl ⟨_, rfl, by simp [hc7]⟩), rfl⟩, ⟨.inr ⟨rfl, ⟨rfl, trivial⟩, (.inl ⟨_, rfl, by simp [hc7]⟩), rfl⟩, ⟨.inr ⟨rfl, ⟨rfl, trivial⟩, (.inr ⟨rfl, rfl⟩), rfl⟩, ⟨.inr ⟨rfl, ⟨rfl, trivial⟩, (.inr ⟨rfl, rfl⟩), rfl⟩, ⟨.inr ⟨rfl, ⟨rfl, trivial⟩, (.inr ⟨rfl, rfl⟩), rfl⟩, ⟨.inr ⟨rfl, ⟨rfl, rfl, trivial⟩, (.inr ⟨rfl, rfl⟩), rfl⟩, ⟨.inr ⟨rfl, ⟨rfl, trivial⟩, (.inr ⟨rfl, rfl⟩), rfl⟩, ⟨.inr ⟨rfl, ⟨rfl, trivial⟩, (.inr ⟨rfl, rfl⟩), rfl⟩, ⟨.inr ⟨rfl, ⟨rfl, trivial⟩, (.inr ⟨rfl, rfl⟩), rfl⟩, ⟨.inr ⟨rfl, ⟨rfl, rfl, trivial⟩, (.inr ⟨rfl, rfl⟩), rfl⟩, ⟨.inr ⟨rfl, ⟨rfl, trivial⟩, (.inr ⟨rfl, rfl⟩), rfl⟩, ⟨.inr ⟨rfl, ⟨rfl, rfl, trivial⟩, (.inr ⟨rfl, rfl⟩), rfl⟩, ⟨.inr ⟨rfl, ⟨rfl, rfl, trivial⟩, (.inl ⟨_, rfl, by simp [hc7]⟩), rfl⟩, ⟨.inr ⟨(OpJ.w (J_pick rfl (Opd.tmp rfl) (fun _ => Opd.con) (fun hf => absurd (hc7.symm.trans hf) (by decide)))), ⟨rfl, rfl, trivial⟩, rfl, rfl⟩, trivial⟩⟩⟩⟩⟩⟩⟩⟩⟩⟩⟩⟩⟩⟩⟩⟩⟩⟩⟩⟩⟩⟩⟩⟩ ?_
        refine RegL.nil ?_
        replace h := Option.some.inj h; subst h
        exact Ct.mid () rfl ⟨rfl, rfl, rfl, rfl, rfl, trivial⟩
      · replace h := bif_f hc7 h
        rcases Bool.eq_false_or_eq_true (decide ((0 : Int) < v2)) with hc8 | hc8
        · replace h := bif_t hc8 h
          replace h := bind_some h; obtain ⟨x9, hx9, h⟩ := h
          replace h := bind_some h; obtain ⟨x10, hx10, h⟩ := h
          refine Tr.drawD (n := 38) (m := 24) (es := [some (Ent.mk [(0, (pSl 1 (cK .i64) list_0))] (pSl 1 (cK .i64) list_0) true), some (Ent.mk [(7, (pEq (.int .i64 v2)))] (pEq (.int .i64 v2)) true), some (Ent.mk [(14, (pSl 1 (cK .i64) list_0)), (15, (pEq (.int .i64 v2)))] (pPtr ((cK .i64) x5)) true), some (Ent.mk [(16, (pPtr ((cK .i64) x5)))] (pEq (.int .i64 x5)) true), some (Ent.mk [(1, (pEq (.int .i64 low_1)))] (pEq (.int .i64 low_1)) true), some (Ent.mk [(2, (pEq (.int .i64 high_2)))] (pEq (.int .i64 high_2)) true), some (Ent.mk [(17, (pEq (.int .i64 x5))), (18, (pEq (.int .i64 low_1))), (19, (pEq (.int .i64 high_2)))] (pEq (.bool x6)) true), some (Ent.mk [(20, (pEq (.bool x6)))] (pEq (.bool (!x6))) true), some (Ent.mk [(21, (pEq (.bool (!x6))))] (pEq (.bool (!x6))) true), some (Ent.mk [(7, (pEq (.int .i64 v2)))] (pEq (.int .i64 v2)) true), some (Ent.mk [(23, (pEq (.int .i64 v2)))] (pEq (.bool (decide ((0 : Int) < v2)))) true), some (Ent.mk [(24, (pEq (.bool (decide ((0 : Int) < v2)))))] (pEq (.bool (decide ((0 : Int) < v2)))) true), some (Ent.mk [(0, (pSl 1 (cK .i64) list_0))] (pSl 1 (cK .i64) list_0) true), some (Ent.mk [(7, (pEq (.int .i64 v2)))] (pEq (.int .i64 v2)) true), some (Ent.mk [(27, (pEq (.int .i64 v2)))] (pEq (.int .i64 (w64 (v2 - (1 : Int))))) true), some (Ent.mk [(26, (pSl 1 (cK .i64) list_0)), (28, (pEq (.int .i64 (w64 (v2 - (1 : Int))))))] (pPtr ((cK .i64) x9)) true), some (Ent.mk [(29, (pPtr ((cK .i64) x9)))] (pEq (.int .i64 x9)) true), some (Ent.mk [(0, (pSl 1 (cK .i64) list_0))] (pSl 1 (cK .i64) list_0) true), some (Ent.mk [(7, (pEq (.int .i64 v2)))] (pEq (.int .i64 v2)) true), some (Ent.mk [(31, (pSl 1 (cK .i64) list_0)), (32, (pEq (.int .i64 v2)))] (pPtr ((cK .i64) x10)) true), some (Ent.mk [(33, (pPtr ((cK .i64) x10)))] (pEq (.int .i64 x10)) true), some (Ent.mk [(30, (pEq (.int .i64 x9))), (34, (pEq (.int .i64 x10)))] (pEq (.bool (decide (x10 ≤ x9)))) true), some (Ent.mk [(25, (pEq (.bool (decide ((0 : Int) < v2))))), (35, (pEq (.bool (decide (x10 ≤ x9)))))] (pEq (.bool (decide (x10 ≤ x9)))) true), some (Ent.mk [(22, (pEq (.bool (!x6)))), (36, (pEq (.bool (decide (x10 ≤ x9)))))] (pEq (.bool (decide (x10 ≤ x9)))) true)]) (rd := [[0], [7], [14, 15], [16], [1], [2], [17, 18, 19], [20], [21], [7], [23], [24], [0], [7], [27], [26, 28], [29], [0], [7], [31, 32], [33], [30, 34], [25, 35], [22, 36]]) rfl hmix (by kernel_rfl) fun hD => ?_
          refine RD.fin (es := [Ent.mk [(0, (pSl 1 (cK .i64) list_0))] (pSl 1 (cK .i64) list_0) true, Ent.mk [(7, (pEq (.int .i64 v2)))] (pEq (.int .i64 v2)) true, Ent.mk [(14, (pSl 1 (cK .i64) list_0)), (15, (pEq (.int .i64 v2)))] (pPtr ((cK .i64) x5)) true, Ent.mk [(16, (pPtr ((cK .i64) x5)))] (pEq (.int .i64 x5)) true, Ent.mk [(1, (pEq (.int .i64 low_1)))] (pEq (.int .i64 low_1)) true, Ent.mk [(2, (pEq (.int .i64 high_2)))] (pEq (.int .i64 high_2)) true, Ent.mk [(17, (pEq (.int .i64 x5))), (18, (pEq (.int .i64 low_1))), (19, (pEq (.int .i64 high_2)))] (pEq (.bool x6)) true, Ent.mk [(20, (pEq (.bool x6)))] (pEq (.bool (!x6))) true, Ent.mk [(21, (pEq (.bool (!x6))))] (pEq (.bool (!x6))) true, Ent.mk [(7, (pEq (.int .i64 v2)))] (pEq (.int .i64 v2)) true, Ent.mk [(23, (pEq (.int .i64 v2)))] (pEq (.bool (decide ((0 : Int) < v2)))) true, Ent.mk [(24, (pEq (.bool (decide ((0 : Int) < v2)))))] (pEq (.bool (decide ((0 : Int) < v2)))) true, Ent.mk [(0, (pSl 1 (cK .i64) list_0))] (pSl 1 (cK .i64) list_0) true, Ent.mk [(7, (pEq (.int .i64 v2)))] (pEq (.int .i64 v2)) true, Ent.mk [(27, (pEq (.int .i64 v2)))] (pEq (.int .i64 (w64 (v2 - (1 : Int))))) true, Ent.mk [(26, (pSl 1 (cK .i64) list_0)), (28, (pEq (.int .i64 (w64 (v2 - (1 : Int))))))] (pPtr ((cK .i64) x9)) true, Ent.mk [(29, (pPtr ((cK .i64) x9)))] (pEq (.int .i64 x9)) true, Ent.mk [(0, (pSl 1 (cK .i64) list_0))] (pSl 1 (cK .i64) list_0) true, Ent.mk [(7, (pEq (.int .i64 v2)))] (pEq (.int .i64 v2)) true, Ent.mk [(31, (pSl 1 (cK .i64) list_0)), (32, (pEq (.int .i64 v2)))] (pPtr ((cK .i64) x10)) true, Ent.mk [(33, (pPtr ((cK .i64) x10)))] (pEq (.int .i64 x10)) true, Ent.mk [(30, (pEq (.int .i64 x9))), (34, (pEq (.int .i64 x10)))] (pEq (.bool (decide (x10 ≤ x9)))) true, Ent.mk [(25, (pEq (.bool (decide ((0 : Int) < v2))))), (35, (pEq (.bool (decide (x10 ≤ x9)))))] (pEq (.bool (decide (x10 ≤ x9)))) true, Ent.mk [(22, (pEq (.bool (!x6)))), (36, (pEq (.bool (decide (x10 ≤ x9)))))] (pEq (.bool (decide (x10 ≤ x9)))) true]) (done := []) hD ⟨.inr ⟨(OpJ.w (J_move rfl (Opd.tmp rfl))), ⟨rfl, trivial⟩, rfl, rfl⟩, ⟨.inr ⟨(OpJ.w (J_move rfl (Opd.tmp rfl))), ⟨rfl, trivial⟩, rfl, rfl⟩, ⟨.inr ⟨(OpJ.w (J_idx rfl Try.underlying22 sz2 (Opd.tmp rfl) (Opd.tmp rfl) hx5)), ⟨rfl, rfl, trivial⟩, rfl, rfl⟩, ⟨.inr ⟨(OpJ.w (J_load rfl Try.isAgg2 (Opd.tmp rfl))), ⟨rfl, trivial⟩, rfl, rfl⟩, ⟨.inr ⟨(OpJ.w (J_move rfl (Opd.tmp rfl))), ⟨rfl, trivial⟩, rfl, rfl⟩, ⟨.inr ⟨(OpJ.w (J_move rfl (Opd.tmp rfl))), ⟨rfl, trivial⟩, rfl, rfl⟩, ⟨.inr ⟨(OpJ.w (J_call rfl Try.call53 (c_spec_l00In hx6) (Opds.cons (Opd.tmp rfl) (Opds.cons (Opd.tmp rfl) (Opds.cons (Opd.tmp rfl) Opds.nil))))), ⟨rfl, rfl, rfl, trivial⟩, rfl, rfl⟩, ⟨.inr ⟨(OpJ.w (J_not rfl (Opd.tmp rfl))), ⟨rfl, trivial⟩, rfl, rfl⟩, ⟨.inr ⟨(OpJ.w (J_move rfl (Opd.tmp rfl))), ⟨rfl, trivial⟩, rfl, rfl⟩, ⟨.inr ⟨(OpJ.w (J_move rfl (Opd.tmp rfl))), ⟨rfl, trivial⟩, (.inl ⟨_, rfl, by simp [hc7]⟩), rfl⟩, ⟨.inr ⟨(OpJ.w (J_bin rfl (Opd.tmp rfl) Opd.con B_gtr)), ⟨rfl, trivial⟩, (.inl ⟨_, rfl, by simp [hc7]⟩), rfl⟩, ⟨.inr ⟨(OpJ.w (J_move rfl (Opd.tmp rfl))), ⟨rfl, trivial⟩, (.inl ⟨_, rfl, by simp [hc7]⟩), rfl⟩, ⟨.inr ⟨(OpJ.w (J_move rfl (Opd.tmp rfl))), ⟨rfl, trivial⟩, (.inl ⟨_, rfl, by simp [hc8]⟩), rfl⟩, ⟨.inr ⟨(OpJ.w (J_move rfl (Opd.tmp rfl))), ⟨rfl, trivial⟩, (.inl ⟨_, rfl, by simp [hc8]⟩), rfl⟩, ⟨.inr ⟨(OpJ.w (J_bin rfl (Opd.tmp rfl) Opd.con B_sub)), ⟨rfl, trivial⟩, (.inl ⟨_, rfl, by simp [hc8]⟩), rfl⟩, ⟨.inr ⟨(OpJ.w (J_idx rfl Try.underlying22 sz2 (Opd.tmp rfl) (Opd.tmp rfl) hx9)), ⟨rfl, rfl, trivial⟩, (.inl ⟨_, rfl, by simp [hc8]⟩), rfl⟩, ⟨.inr ⟨(OpJ.w (J_load rfl Try.isAgg2 (Opd.tmp rfl))), ⟨rfl, trivial⟩, (.inl ⟨_, rfl, by simp [hc8]⟩), rfl⟩, ⟨.inr ⟨(OpJ.w (J_move rfl (Opd.tmp rfl))), ⟨rfl, trivial⟩, (.inl ⟨_, rfl, by simp [hc8]⟩), rfl⟩, ⟨.inr ⟨(OpJ.w (J_move rfl (Opd.tmp rfl))), ⟨rfl, trivial⟩, (.inl ⟨_, rfl, by simp [hc8]⟩), rfl⟩, ⟨.inr ⟨(OpJ.w (J_idx rfl Try.underlying22 sz2 (Opd.tmp rfl) (Opd.tmp rfl) hx10)), ⟨rfl, rfl, trivial⟩, (.inl ⟨_, rfl, by simp [hc8]⟩), rfl⟩, ⟨.inr ⟨(OpJ.w (J_load rfl Try.isAgg2 (Opd.tmp rfl))), ⟨rfl, trivial⟩, (.inl ⟨_, rfl, by simp [hc8]⟩), rfl⟩, ⟨.inr ⟨(OpJ.w (J_bin rfl (Opd.tmp rfl) (Opd.tmp rfl) B_geq)), ⟨rfl, rfl, trivial⟩, (.inl ⟨_, rfl, by simp [hc8]⟩), rfl⟩, ⟨.inr ⟨(OpJ.w (J_pick rfl (Opd.tmp rfl) (fun _ => (Opd.tmp rfl)) (fun hf => absurd (hc8.symm.trans hf) (by decide)))), ⟨rfl, rfl, trivial⟩, (.inl ⟨_, rfl, by simp [hc7]⟩), rfl⟩, ⟨.inr ⟨(OpJ.w (J_pick rfl (Opd.tmp rfl) (fun hf => absurd (hc7.symm.trans hf) (by decide)) (fun _ => (Opd.tmp rfl)))), ⟨rfl, rfl, trivial⟩, rfl, rfl⟩, trivial⟩⟩⟩⟩⟩⟩⟩⟩⟩⟩⟩⟩⟩⟩⟩⟩⟩⟩⟩⟩⟩⟩⟩⟩ ?_
          refine RegL.nil ?_
          replace h := Option.some.inj h; subst h
          exact Ct.mid () rfl ⟨rfl, rfl, rfl, rfl, rfl, trivial⟩
        · replace h := bif_f hc8 h
          refine Tr.drawD (n := 38) (m := 24) (es := [some (Ent.mk [(0, (pSl 1 (cK .i64) list_0))] (pSl 1 (cK .i64) list_0) true), some (Ent.mk [(7, (pEq (.int .i64 v2)))] (pEq (.int .i64 v2)) true), some (Ent.mk [(14, (pSl 1 (cK .i64) list_0)), (15, (pEq (.int .i64 v2)))] (pPtr ((cK .i64) x5)) true), some (Ent.mk [(16, (pPtr ((cK .i64) x5)))] (pEq (.int .i64 x5)) true), some (Ent.mk [(1, (pEq (.int .i64 low_1)))] (pEq (.int .i64 low_1)) true), some (Ent.mk [(2, (pEq (.int .i64 high_2)))] (pEq (.int .i64 high_2)) true), some (Ent.mk [(17, (pEq (.int .i64 x5))), (18, (pEq (.int .i64 low_1))), (19, (pEq (.int .i64 high_2)))] (pEq (.bool x6)) true), some (Ent.mk [(20, (pEq (.bool x6)))] (pEq (.bool (!x6))) true), some (Ent.mk [(21, (pEq (.bool (!x6))))] (pEq (.bool (!x6))) true), some (Ent.mk [(7, (pEq (.int .i64 v2)))] (pEq (.int .i64 v2)) true), some (Ent.mk [(23, (pEq (.int .i64 v2)))] (pEq (.bool (decide ((0 : Int) < v2)))) true), some (Ent.mk [(24, (pEq (.bool (decide ((0 : Int) < v2)))))] (pEq (.bool (decide ((0 : Int) < v2)))) true), some (Ent.mk [(0, (pSl 1 (cK .i64) list_0))] (pEq undef) false), some (Ent.mk [(7, (pEq (.int .i64 v2)))] (pEq undef) false), some (Ent.mk [(27, (pEq undef))] (pEq undef) false), some (Ent.mk [(26, (pEq undef)), (28, (pEq undef))] (pEq undef) false), some (Ent.mk [(29, (pEq undef))] (pEq undef) false), some (Ent.mk [(0, (pSl 1 (cK .i64) list_0))] (pEq undef) false), some (Ent.mk [(7, (pEq (.int .i64 v2)))] (pEq undef) false), some (Ent.mk [(31, (pEq undef)), (32, (pEq undef))] (pEq undef) false), some (Ent.mk [(33, (pEq undef))] (pEq undef) false), some (Ent.mk [(30, (pEq undef)), (34, (pEq undef))] (pEq undef) false), some (Ent.mk [(25, (pEq (.bool (decide ((0 : Int) < v2))))), (35, (pEq undef))] (pEq (.bool false)) true), some (Ent.mk [(22, (pEq (.bool (!x6)))), (36, (pEq (.bool false)))] (pEq (.bool false)) true)]) (rd := [[0], [7], [14, 15], [16], [1], [2], [17, 18, 19], [20], [21], [7], [23], [24], [0], [7], [27], [26, 28], [29], [0], [7], [31, 32], [33], [30, 34], [25, 35], [22, 36]]) rfl hmix (by kernel_rfl) fun hD => ?_
          refine RD.fin (es := [Ent.mk [(0, (pSl 1 (cK .i64) list_0))] (pSl 1 (cK .i64) list_0) true, Ent.mk [(7, (pEq (.int .i64 v2)))] (pEq (.int .i64 v2)) true, Ent.mk [(14, (pSl 1 (cK .i64) list_0)), (15, (pEq (.int .i64 v2)))] (pPtr ((cK .i64) x5)) true, Ent.mk [(16, (pPtr ((cK .i64) x5)))] (pEq (.int .i64 x5)) true, Ent.mk [(1, (pEq (.int .i64 low_1)))] (pEq (.int .i64 low_1)) true, Ent.mk [(2, (pEq (.int .i64 high_2)))] (pEq (.int .i64 high_2)) true, Ent.mk [(17, (pEq (.int .i64 x5))), (18, (pEq (.int .i64 low_1))), (19, (pEq (.int .i64 high_2)))] (pEq (.bool x6)) true, Ent.mk [(20, (pEq (.bool x6)))] (pEq (.bool (!x6))) true, Ent.mk [(21, (pEq (.bool (!x6))))] (pEq (.bool (!x6))) true, Ent.mk [(7, (pEq (.int .i64 v2)))] (pEq (.int .i64 v2)) true, Ent.mk [(23, (pEq (.int .i64 v2)))] (pEq (.bool (decide ((0 : Int) < v2)))) true, Ent.mk [(24, (pEq (.bool (decide ((0 : Int) < v2)))))] (pEq (.bool (decide ((0 : Int) < v2)))) true, Ent.mk [(0, (pSl 1 (cK .i64) list_0))] (pEq undef) false, Ent.mk [(7, (pEq (.int .i64 v2)))] (pEq undef) false, Ent.mk [(27, (pEq undef))] (pEq undef) false, Ent.mk [(26, (pEq undef)), (28, (pEq undef))] (pEq undef) false, Ent.mk [(29, (pEq undef))] (pEq undef) false, Ent.mk [(0, (pSl 1 (cK .i64) list_0))] (pEq undef) false, Ent.mk [(7, (pEq (.int .i64 v2)))] (pEq undef) false, Ent.mk [(31, (pEq undef)), (32, (pEq undef))] (pEq undef) false, Ent.mk [(33, (pEq undef))] (pEq undef) false, Ent.mk [(30, (pEq undef)), (34, (pEq undef))] (pEq undef) false, Ent.mk [(25, (pEq (.bool (decide ((0 : Int) < v2))))), (35, (pEq undef))] (pEq (.bool false)) true, Ent.mk [(22, (pEq (.bool (!x6)))), (36, (pEq (.bool false)))] (pEq (.bool false)) true]) (done := []) hD ⟨.inr ⟨(OpJ.w (J_move rfl (Opd.tmp rfl))), ⟨rfl, trivial⟩, rfl, rfl⟩, ⟨.inr ⟨(OpJ.w (J_move rfl (Opd.tmp rfl))), ⟨rfl, trivial⟩, rfl, rfl⟩, ⟨.inr ⟨(OpJ.w (J_idx rfl Try.underlying22 sz2 (Opd.tmp rfl) (Opd.tmp rfl) hx5)), ⟨rfl, rfl, trivial⟩, rfl, rfl⟩, ⟨.inr ⟨(OpJ.w (J_load rfl Try.isAgg2 (Opd.tmp rfl))), ⟨rfl, trivial⟩, rfl, rfl⟩, ⟨.inr ⟨(OpJ.w (J_move rfl (Opd.tmp rfl))), ⟨rfl, trivial⟩, rfl, rfl⟩, ⟨.inr ⟨(OpJ.w (J_move rfl (Opd.tmp rfl))), ⟨rfl, trivial⟩, rfl, rfl⟩, ⟨.inr ⟨(OpJ.w (J_call rfl Try.call53 (c_spec_l00In hx6) (Opds.cons (Opd.tmp rfl) (Opds.cons (Opd.tmp rfl) (Opds.cons (Opd.tmp rfl) Opds.nil))))), ⟨rfl, rfl, rfl, trivial⟩, rfl, rfl⟩, ⟨.inr ⟨(OpJ.w (J_not rfl (Opd.tmp rfl))), ⟨rfl, trivial⟩, rfl, rfl⟩, ⟨.inr ⟨(OpJ.w (J_move rfl (Opd.tmp rfl))), ⟨rfl, trivial⟩, rfl, rfl⟩, ⟨.inr ⟨(OpJ.w (J_move rfl (Opd.tmp rfl))), ⟨rfl, trivial⟩, (.inl ⟨_, rfl, by simp [hc7]⟩), rfl⟩, ⟨.inr ⟨(OpJ.w (J_bin rfl (Opd.tmp rfl) Opd.con B_gtr)), ⟨rfl, trivial⟩, (.inl ⟨_, rfl, by simp [hc7]⟩), rfl⟩, ⟨.inr ⟨(OpJ.w (J_move rfl (Opd.tmp rfl))), ⟨rfl, trivial⟩, (.inl ⟨_, rfl, by simp [hc7]⟩), rfl⟩, ⟨.inr ⟨rfl, ⟨rfl, trivial⟩, (.inl ⟨_, rfl, by simp [hc8]⟩), rfl⟩, ⟨.inr ⟨rfl, ⟨rfl, trivial⟩, (.inl ⟨_, rfl, by simp [hc8]⟩), rfl⟩, ⟨.inr ⟨rfl, ⟨rfl, trivial⟩, (.inl ⟨_, rfl, by simp [hc8]⟩), rfl⟩, ⟨.inr ⟨rfl, ⟨rfl, rfl, trivial⟩, (.inl ⟨_, rfl, by simp [hc8]⟩), rfl⟩, ⟨.inr ⟨rfl, ⟨rfl, trivial⟩, (.inl ⟨_, rfl, by simp [hc8]⟩), rfl⟩, ⟨.inr ⟨rfl, ⟨rfl, trivial⟩, (.inl ⟨_, rfl, by simp [hc8]⟩), rfl⟩, ⟨.inr ⟨rfl, ⟨rfl, trivial⟩, (.inl ⟨_, rfl, by simp [hc8]⟩), rfl⟩, ⟨.inr ⟨rfl, ⟨rfl, rfl, trivial⟩, (.inl ⟨_, rfl, by simp [hc8]⟩), rfl⟩, ⟨.inr ⟨rfl, ⟨rfl, trivial⟩, (.inl ⟨_, rfl, by simp [hc8]⟩), rfl⟩, ⟨.inr ⟨rfl, ⟨rfl, rfl, trivial⟩, (.inl ⟨_, rfl, by simp [hc8]⟩), rfl⟩, ⟨.inr ⟨(OpJ.w (J_pick rfl (Opd.tmp rfl) (fun hf => absurd (hc8.symm.trans hf) (by decide)) (fun _ => Opd.con))), ⟨rfl, rfl, trivial⟩, (.inl ⟨_, rfl, by simp [hc7]⟩), rfl⟩, ⟨.inr ⟨(OpJ.w (J_pick rfl (Opd.tmp rfl) (fun hf => absurd (hc7.symm.trans hf) (by decide)) (fun _ => (Opd.tmp rfl)))), ⟨rfl, rfl, trivial⟩, rfl, rfl⟩, trivial⟩⟩⟩⟩⟩⟩⟩⟩⟩⟩⟩⟩⟩⟩⟩⟩⟩⟩⟩⟩⟩⟩⟩⟩ ?_
          refine RegL.nil ?_
          replace h := Option.some.inj h; subst h
          exact Ct.mid () rfl ⟨rfl, rfl, rfl, rfl, rfl, trivial⟩
    · clear hx4
      refine Ct.then_tr ?_
      refine Tr.weak (Γ' := [(0, (pSl 1 (cK .i64) list_0)), (1, (pEq (.int .i64 low_1))), (2, (pEq (.int .i64 high_2))), (7, (pEq (.int .i64 v2))), (37, (pEq (.bool x4)))]) ⟨rfl, rfl, rfl, rfl, rfl, trivial⟩ ?_
      refine Tr.cond (Opd.tmp rfl) (fun hc => ?_) (fun hc => ?_)
      · replace h := bif_t hc h
        refine Tr.seq ?_
        refine Tr.region ?_
        refine RegL.pure (p := (pEq (.bool false))) rfl rfl rfl (J_assign rfl Opd.con) ?_
        refine RegL.nil ?_
        refine Ct.then_tr ?_
        refine Tr.weak (Γ' := [(6, (pEq (.bool false)))]) ⟨rfl, trivial⟩ ?_
        refine Tr.ret ?_
        refine Ct.blk_ret ?_
        refine Ct.then_ret ?_
        replace h := map_some h; obtain ⟨r1, h, rfl⟩ := h
        refine Ct.out_ret fun e => ?_
        subst e
        refine Ct.blk_ret ?_
        refine Ct.then_ret ?_
        replace h := Option.some.inj h; subst h
        exact Ct.retH1 (Ωx := []) () rfl (RvOk.tmp rfl) rfl
      · replace h := bif_f hc h
        refine Tr.skip ?_
        refine Ct.blk_normal ?_
        refine Ct.then_tr ?_
        refine Tr.weak (Γ' := [(0, (pSl 1 (cK .i64) list_0)), (1, (pEq (.int .i64 low_1))), (2, (pEq (.int .i64 high_2))), (7, (pEq (.int .i64 v2)))]) ⟨rfl, rfl, rfl, rfl, trivial⟩ ?_
        refine Tr.region ?_
        refine RegL.pure (p := (pEq (.int .i64 v2))) rfl rfl rfl (J_move rfl (Opd.tmp rfl)) ?_
        refine RegL.pure (p := (pEq (.int .i64 (w64 (v2 + (1 : Int)))))) rfl rfl rfl (J_bin rfl (Opd.tmp rfl) Opd.con B_add) ?_
        refine RegL.pure (p := (pEq (.int .i64 (w64 (v2 + (1 : Int)))))) rfl rfl rfl (J_assign rfl (Opd.tmp rfl)) ?_
        refine RegL.nil ?_
        replace h := Option.some.inj h; subst h
        exact Ct.again () rfl ⟨rfl, rfl, rfl, rfl, trivial⟩
  · replace h := bif_f hc h
    refine Tr.exit ?_
    refine Ct.then_exit ?_
    replace h := map_some h; obtain ⟨r1, h, rfl⟩ := h
    refine Ct.out_exit fun e => ?_
    subst e
    refine Ct.blk_exit ?_
    refine Ct.then_tr ?_
    refine Tr.weak (Γ' := []) trivial ?_
    refine Tr.seq ?_
    refine Tr.region ?_
    refine RegL.pure (p := (pEq (.bool true))) rfl rfl rfl (J_assign rfl Opd.con) ?_
    refine RegL.nil ?_
    refine Ct.then_tr ?_
    refine Tr.weak (Γ' := [(6, (pEq (.bool true)))]) ⟨rfl, trivial⟩ ?_
    refine Tr.ret ?_
    replace h := Option.some.inj h; subst h
    exact Ct.retH1 (Ωx := []) () rfl (RvOk.tmp rfl) rfl

theorem c_spec_l17Domain {list_0 : (List Int)} {r : Bool} (h : m_spec_l17Domain list_0 = some r) : CallJ Try.prog 70 [(pSl 1 (cK .i64) list_0)] (pEq (.bool r)) := by
  unfold m_spec_l17Domain at h
  refine CallJ.enterH Try.func70 rfl Try.ntmps70 rfl fun W I0 H => ?_
  refine Tr.weak (Γ' := [(0, (pSl 1 (cK .i64) list_0))]) ⟨rfl, trivial⟩ ?_
  refine Tr.seq ?_
  refine Tr.region ?_
  refine RegL.pure (p := (pEq (.bool false))) rfl rfl rfl (J_assign rfl Opd.con) ?_
  refine RegL.nil ?_
  refine Ct.then_tr ?_
  refine Tr.weak (Γ' := [(0, (pSl 1 (cK .i64) list_0))]) ⟨rfl, trivial⟩ ?_
  refine Tr.seq ?_
  replace h := bind_some h; obtain ⟨x1, hx1, h⟩ := h
  refine Tr.cut (γ := Unit) (Γm := fun g => [(2, (pEq (.bool x1)))]) (Ωm := fun g => []) ?_ (fun g5 => ?_)
  · clear h
    have h := hx1
    clear hx1
    refine Tr.region ?_
    refine RegL.pure (p := (pSl 1 (cK .i64) list_0)) rfl rfl rfl (J_move rfl (Opd.tmp rfl)) ?_
    refine RegL.pure (p := (pEq (.int .i64 (list_0.length : Int)))) rfl rfl rfl (J_len rfl Try.underlying22 (Opd.tmp rfl) rfl) ?_
    refine RegL.pure (p := (pEq (.bool (decide ((0 : Int) < (list_0.length : Int)))))) rfl rfl rfl (J_bin rfl (Opd.tmp rfl) Opd.con B_gtr) ?_
    refine RegL.pure (p := (pEq (.bool (decide ((0 : Int) < (list_0.length : Int)))))) rfl rfl rfl (J_move rfl (Opd.tmp rfl)) ?_
    rcases Bool.eq_false_or_eq_true (decide ((0 : Int) < (list_0.length : Int))) with hc2 | hc2
    · replace h := bif_t hc2 h
      refine RegL.pureG (p := (pSl 1 (cK .i64) list_0)) rfl rfl rfl hc2 rfl rfl (J_move rfl (Opd.tmp rfl)) ?_
      refine RegL.pureG (p := (pEq (.int .i64 (list_0.length : Int)))) rfl rfl rfl hc2 rfl rfl (J_len rfl Try.underlying22 (Opd.tmp rfl) rfl) ?_
      refine RegL.pureG (p := (pEq (.bool (decide ((list_0.length : Int) ≤ (32 : Int)))))) rfl rfl rfl hc2 rfl rfl (J_bin rfl (Opd.tmp rfl) Opd.con B_leq) ?_
      refine RegL.pure (p := (pEq (.bool (decide ((list_0.length : Int) ≤ (32 : Int)))))) rfl rfl rfl (J_pick rfl (Opd.tmp rfl) (fun _ => (Opd.tmp rfl)) (fun hf => absurd (hc2.symm.trans hf) (by decide))) ?_
      refine RegL.pure (p := (pEq (.bool (decide ((list_0.length : Int) ≤ (32 : Int)))))) rfl rfl rfl (J_move rfl (Opd.tmp rfl)) ?_
      rcases Bool.eq_false_or_eq_true (decide ((list_0.length : Int) ≤ (32 : Int))) with hc3 | hc3
      · replace h := bif_t hc3 h
        refine RegL.pureG (p := (pSl 1 (cK .i64) list_0)) rfl rfl rfl hc3 rfl rfl (J_move rfl (Opd.tmp rfl)) ?_
        replace h := bind_some h; obtain ⟨x4, hx4, h⟩ := h
        refine RegL.pureG (p := (pEq (.bool x4))) rfl rfl rfl hc3 rfl rfl (J_call rfl Try.call74 (c_spec_l00Rises hx4) (Opds.cons (Opd.tmp rfl) (Opds.cons Opd.con (Opds.cons Opd.con Opds.nil)))) ?_
        refine RegL.pure (p := (pEq (.bool x4))) rfl rfl rfl (J_pick rfl (Opd.tmp rfl) (fun _ => (Opd.tmp rfl)) (fun hf => absurd (hc3.symm.trans hf) (by decide))) ?_
        refine RegL.pure (p := (pEq (.bool x4))) rfl rfl rfl (J_assign rfl (Opd.tmp rfl)) ?_
        refine RegL.nil ?_
        replace h := Option.some.inj h; subst h
        exact Ct.mid () rfl ⟨rfl, trivial⟩
      · replace h := bif_f hc3 h
        refine RegL.skipG rfl rfl rfl hc3 rfl rfl ?_
        refine RegL.skipG rfl rfl rfl hc3 rfl rfl ?_
        refine RegL.pure (p := (pEq (.bool false))) rfl rfl rfl (J_pick rfl (Opd.tmp rfl) (fun hf => absurd (hc3.symm.trans hf) (by decide)) (fun _ => Opd.con)) ?_
        refine RegL.pure (p := (pEq (.bool false))) rfl rfl rfl (J_assign rfl (Opd.tmp rfl)) ?_
        refine RegL.nil ?_
        replace h := Option.some.inj h; subst h
        exact Ct.mid () rfl ⟨rfl, trivial⟩
    · replace h := bif_f hc2 h
      refine RegL.skipG rfl rfl rfl hc2 rfl rfl ?_
      refine RegL.skipG rfl rfl rfl hc2 rfl rfl ?_
      refine RegL.skipG rfl rfl rfl hc2 rfl rfl ?_
      refine RegL.pure (p := (pEq (.bool false))) rfl rfl rfl (J_pick rfl (Opd.tmp rfl) (fun hf => absurd (hc2.symm.trans hf) (by decide)) (fun _ => Opd.con)) ?_
      refine RegL.pure (p := (pEq (.bool false))) rfl rfl rfl (J_move rfl (Opd.tmp rfl)) ?_
      refine RegL.skipG rfl rfl rfl rfl rfl rfl ?_
      refine RegL.skipG rfl rfl rfl rfl rfl rfl ?_
      refine RegL.pure (p := (pEq (.bool false))) rfl rfl rfl (J_pick rfl (Opd.tmp rfl) (fun hf => absurd hf (by decide)) (fun _ => Opd.con)) ?_
      refine RegL.pure (p := (pEq (.bool false))) rfl rfl rfl (J_assign rfl (Opd.tmp rfl)) ?_
      refine RegL.nil ?_
      replace h := Option.some.inj h; subst h
      exact Ct.mid () rfl ⟨rfl, trivial⟩
  · clear hx1
    refine Ct.then_tr ?_
    refine Tr.weak (Γ' := [(2, (pEq (.bool x1)))]) ⟨rfl, trivial⟩ ?_
    refine Tr.ret ?_
    replace h := Option.some.inj h; subst h
    exact Ct.retH1 (Ωx := []) () rfl (RvOk.tmp rfl) rfl

theorem c_spec_l17Ok {a_0 : GProblem} {r : Bool} (h : m_spec_l17Ok a_0 = some r) : CallJ Try.prog 62 [(pPtr (cGProblem a_0))] (pEq (.bool r)) := by
  unfold m_spec_l17Ok at h
  refine CallJ.enterH Try.func62 rfl Try.ntmps62 rfl fun W I0 H => ?_
  refine Tr.weak (Γ' := [(0, (pPtr (cGProblem a_0)))]) ⟨rfl, trivial⟩ ?_
  refine Tr.seq ?_
  refine Tr.region ?_
  refine RegL.pure (p := (pEq (.bool false))) rfl rfl rfl (J_assign rfl Opd.con) ?_
  refine RegL.nil ?_
  refine Ct.then_tr ?_
  refine Tr.weak (Γ' := [(0, (pPtr (cGProblem a_0)))]) ⟨rfl, trivial⟩ ?_
  refine Tr.seq ?_
  refine Tr.region ?_
  refine RegL.pure (p := (pPtr (cGProblem a_0))) rfl rfl rfl (J_move rfl (Opd.tmp rfl)) ?_
  refine RegL.pure (p := (pPtr (cGProblem a_0))) rfl rfl rfl (J_nilCheck rfl (Opd.tmp rfl)) ?_
  refine RegL.pure (p := (pPtr ((cSl 1 (cSl 1 (cK .i64))) a_0.Domains))) rfl rfl rfl (J_fieldAddr rfl Try.underlying32 rfl sz27 (by decide) (Opd.tmp rfl) rfl) ?_
  refine RegL.pure (p := (pSl 1 (cSl 1 (cK .i64)) a_0.Domains)) rfl rfl rfl (J_load rfl Try.isAgg27 (Opd.tmp rfl)) ?_
  refine RegL.pure (p := (pEq (.int .i64 (a_0.Domains.length : Int)))) rfl rfl rfl (J_len rfl Try.underlying27 (Opd.tmp rfl) rfl) ?_
  refine RegL.pure (p := (pEq (.int .i64 (a_0.Domains.length : Int)))) rfl rfl rfl (J_assign rfl (Opd.tmp rfl)) ?_
  refine RegL.nil ?_
  refine Ct.then_tr ?_
  refine Tr.weak (Γ' := [(0, (pPtr (cGProblem a_0))), (3, (pEq (.int .i64 (a_0.Domains.length : Int))))]) ⟨rfl, rfl, trivial⟩ ?_
  refine Tr.seq ?_
  refine Tr.seq ?_
  replace h := bind_some h; obtain ⟨x1, hx1, h⟩ := h
  refine Tr.cut (γ := Unit) (Γm := fun g => [(0, (pPtr (cGProblem a_0))), (3, (pEq (.int .i64 (a_0.Domains.length : Int)))), (25, (pEq (.bool x1)))]) (Ωm := fun g => []) ?_ (fun g4 => ?_)
  · clear h
    have h := hx1
    clear hx1
    refine Tr.region ?_
    refine RegL.pure (p := (pEq (.int .i64 (a_0.Domains.length : Int)))) rfl rfl rfl (J_move rfl (Opd.tmp rfl)) ?_
    refine RegL.pure (p := (pEq (.bool (decide ((a_0.Domains.length : Int) < (1 : Int)))))) rfl rfl rfl (J_bin rfl (Opd.tmp rfl) Opd.con B_lss) ?_
    refine RegL.pure (p := (pEq (.bool (decide ((a_0.Domains.length : Int) < (1 : Int)))))) rfl rfl rfl (J_move rfl (Opd.tmp rfl)) ?_
    rcases Bool.eq_false_or_eq_true (decide ((a_0.Domains.length : Int) < (1 : Int))) with hc2 | hc2
    · replace h := bif_t hc2 h
      refine RegL.skipG rfl rfl rfl hc2 rfl rfl ?_
      refine RegL.skipG rfl rfl rfl hc2 rfl rfl ?_
      refine RegL.pure (p := (pEq (.bool true))) rfl rfl rfl (J_pick rfl (Opd.tmp rfl) (fun _ => Opd.con) (fun hf => absurd (hc2.symm.trans hf) (by decide))) ?_
      refine RegL.pure (p := (pEq (.bool true))) rfl rfl rfl (J_move rfl (Opd.tmp rfl)) ?_
      refine RegL.skipG rfl rfl rfl rfl rfl rfl ?_
      refine RegL.skipG rfl rfl rfl rfl rfl rfl ?_
      refine RegL.skipG rfl rfl rfl rfl rfl rfl ?_
      refine RegL.skipG rfl rfl rfl rfl rfl rfl ?_
      refine RegL.skipG rfl rfl rfl rfl rfl rfl ?_
      refine RegL.skipG rfl rfl rfl rfl rfl rfl ?_
      refine RegL.skipG rfl rfl rfl rfl rfl rfl ?_
      refine RegL.pure (p := (pEq (.bool true))) rfl rfl rfl (J_pick rfl (Opd.tmp rfl) (fun _ => Opd.con) (fun hf => absurd hf (by decide))) ?_
      refine RegL.nil ?_
      replace h := Option.some.inj h; subst h
      exact Ct.mid () rfl ⟨rfl, rfl, rfl, trivial⟩
    · replace h := bif_f hc2 h
      refine RegL.pureG (p := (pEq (.int .i64 (a_0.Domains.length : Int)))) rfl rfl rfl hc2 rfl rfl (J_move rfl (Opd.tmp rfl)) ?_
      refine RegL.pureG (p := (pEq (.bool (decide ((24 : Int) < (a_0.Domains.length : Int)))))) rfl rfl rfl hc2 rfl rfl (J_bin rfl (Opd.tmp rfl) Opd.con B_gtr) ?_
      refine RegL.pure (p := (pEq (.bool (decide ((24 : Int) < (a_0.Domains.length : Int)))))) rfl rfl rfl (J_pick rfl (Opd.tmp rfl) (fun hf => absurd (hc2.symm.trans hf) (by decide)) (fun _ => (Opd.tmp rfl))) ?_
      refine RegL.pure (p := (pEq (.bool (decide ((24 : Int) < (a_0.Domains.length : Int)))))) rfl rfl rfl (J_move rfl (Opd.tmp rfl)) ?_
      rcases Bool.eq_false_or_eq_true (decide ((24 : Int) < (a_0.Domains.length : Int))) with hc3 | hc3
      · replace h := bif_t hc3 h
        refine RegL.skipG rfl rfl rfl hc3 rfl rfl ?_
        refine RegL.skipG rfl rfl rfl hc3 rfl rfl ?_
        refine RegL.skipG rfl rfl rfl hc3 rfl rfl ?_
        refine RegL.skipG rfl rfl rfl hc3 rfl rfl ?_
        refine RegL.skipG rfl rfl rfl hc3 rfl rfl ?_
        refine RegL.skipG rfl rfl rfl hc3 rfl rfl ?_
        refine RegL.skipG rfl rfl rfl hc3 rfl rfl ?_
        refine RegL.pure (p := (pEq (.bool true))) rfl rfl rfl (J_pick rfl (Opd.tmp rfl) (fun _ => Opd.con) (fun hf => absurd (hc3.symm.trans hf) (by decide))) ?_
        refine RegL.nil ?_
        replace h := Option.some.inj h; subst h
        exact Ct.mid () rfl ⟨rfl, rfl, rfl, trivial⟩
      · replace h := bif_f hc3 h
        refine RegL.pureG (p := (pPtr (cGProblem a_0))) rfl rfl rfl hc3 rfl rfl (J_move rfl (Opd.tmp rfl)) ?_
        refine RegL.pureG (p := (pPtr (cGProblem a_0))) rfl rfl rfl hc3 rfl rfl (J_nilCheck rfl (Opd.tmp rfl)) ?_
        refine RegL.pureG (p := (pPtr ((cSl 1 (cSl 1 (cK .i64))) a_0.Apart))) rfl rfl rfl hc3 rfl rfl (J_fieldAddr rfl Try.underlying32 rfl sz27 (by decide) (Opd.tmp rfl) rfl) ?_
        refine RegL.pureG (p := (pSl 1 (cSl 1 (cK .i64)) a_0.Apart)) rfl rfl rfl hc3 rfl rfl (J_load rfl Try.isAgg27 (Opd.tmp rfl)) ?_
        refine RegL.pureG (p := (pEq (.int .i64 (a_0.Apart.length : Int)))) rfl rfl rfl hc3 rfl rfl (J_len rfl Try.underlying27 (Opd.tmp rfl) rfl) ?_
        refine RegL.pureG (p := (pEq (.int .i64 (a_0.Domains.length : Int)))) rfl rfl rfl hc3 rfl rfl (J_move rfl (Opd.tmp rfl)) ?_
        refine RegL.pureG (p := (pEq (.bool ((a_0.Apart.length : Int) != (a_0.Domains.length : Int))))) rfl rfl rfl hc3 rfl rfl (J_bin rfl (Opd.tmp rfl) (Opd.tmp rfl) B_neq) ?_
        refine RegL.pure (p := (pEq (.bool ((a_0.Apart.length : Int) != (a_0.Domains.length : Int))))) rfl rfl rfl (J_pick rfl (Opd.tmp rfl) (fun hf => absurd (hc3.symm.trans hf) (by decide)) (fun _ => (Opd.tmp rfl))) ?_
        refine RegL.nil ?_
        replace h := Option.some.inj h; subst h
        exact Ct.mid () rfl ⟨rfl, rfl, rfl, trivial⟩
  · clear hx1
    refine Ct.then_tr ?_
    refine Tr.weak (Γ' := [(0, (pPtr (cGProblem a_0))), (3, (pEq (.int .i64 (a_0.Domains.length : Int)))), (25, (pEq (.bool x1)))]) ⟨rfl, rfl, rfl, trivial⟩ ?_
    refine Tr.cond (Opd.tmp rfl) (fun hc => ?_) (fun hc => ?_)
    · replace h := bif_t hc h
      refine Tr.seq ?_
      refine Tr.region ?_
      refine RegL.pure (p := (pEq (.bool false))) rfl rfl rfl (J_assign rfl Opd.con) ?_
      refine RegL.nil ?_
      refine Ct.then_tr ?_
      refine Tr.weak (Γ' := [(2, (pEq (.bool false)))]) ⟨rfl, trivial⟩ ?_
      refine Tr.ret ?_
      refine Ct.then_ret ?_
      replace h := Option.some.inj h; subst h
      exact Ct.retH1 (Ωx := []) () rfl (RvOk.tmp rfl) rfl
    · replace h := bif_f hc h
      refine Tr.skip ?_
      refine Ct.then_tr ?_
      refine Tr.weak (Γ' := [(0, (pPtr (cGProblem a_0))), (3, (pEq (.int .i64 (a_0.Domains.length : Int))))]) ⟨rfl, rfl, trivial⟩ ?_
      refine Tr.seq ?_
      refine Tr.seq ?_
      refine Tr.region ?_
      refine RegL.pure (p := (pEq (.int .i64 (0 : Int)))) rfl rfl rfl (J_assign rfl Opd.con) ?_
      refine RegL.nil ?_
      refine Ct.then_tr ?_
      refine Tr.weak (Γ' := [(0, (pPtr (cGProblem a_0))), (3, (pEq (.int .i64 (a_0.Domains.length : Int)))), (4, (pEq (.int .i64 (0 : Int))))]) ⟨rfl, rfl, rfl, trivial⟩ ?_
      refine Tr.block ?_
      refine Tr.weak (Γ' := [(0, (pPtr (cGProblem a_0))), (3, (pEq (.int .i64 (a_0.Domains.length : Int)))), (4, (pEq (.int .i64 (0 : Int))))]) ⟨rfl, rfl, rfl, trivial⟩ ?_
      refine Tr.loop (γ := Unit) (σ := Int) (Γσ := fun s g => [(0, (pPtr (cGProblem a_0))), (3, (pEq (.int .i64 (a_0.Domains.length : Int)))), (4, (pEq (.int .i64 s)))]) (Ωσ := fun s g => []) (g := ()) h ?_
      clear h
      rintro v6 g7 t h
      replace h : m_spec_l17Ok_B5 a_0 v6 = some t := h
      unfold m_spec_l17Ok_B5 at h
      refine Tr.weakO (Γ' := [(0, (pPtr (cGProblem a_0))), (3, (pEq (.int .i64 (a_0.Domains.length : Int)))), (4, (pEq (.int .i64 v6)))]) (Ω' := []) rfl ⟨rfl, rfl, rfl, trivial⟩ ?_
      refine Tr.seq ?_
      refine Tr.seq ?_
      refine Tr.region ?_
      refine RegL.pure (p := (pEq (.int .i64 v6))) rfl rfl rfl (J_move rfl (Opd.tmp rfl)) ?_
      refine RegL.pure (p := (pEq (.int .i64 (a_0.Domains.length : Int)))) rfl rfl rfl (J_move rfl (Opd.tmp rfl)) ?_
      refine RegL.pure (p := (pEq (.bool (decide (v6 < (a_0.Domains.length : Int)))))) rfl rfl rfl (J_bin rfl (Opd.tmp rfl) (Opd.tmp rfl) B_lss) ?_
      refine RegL.nil ?_
      refine Ct.then_tr ?_
      refine Tr.weak (Γ' := [(0, (pPtr (cGProblem a_0))), (3, (pEq (.int .i64 (a_0.Domains.length : Int)))), (4, (pEq (.int .i64 v6))), (28, (pEq (.bool (decide (v6 < (a_0.Domains.length : Int))))))]) ⟨rfl, rfl, rfl, rfl, trivial⟩ ?_
      refine Tr.cond (Opd.tmp rfl) (fun hc => ?_) (fun hc => ?_)
      · replace h := bif_t hc h
        refine Tr.skip ?_
        refine Ct.then_tr ?_
        refine Tr.weak (Γ' := [(0, (pPtr (cGProblem a_0))), (3, (pEq (.int .i64 (a_0.Domains.length : Int)))), (4, (pEq (.int .i64 v6)))]) ⟨rfl, rfl, rfl, trivial⟩ ?_
        refine Tr.seq ?_
        refine Tr.block ?_
        refine Tr.seq ?_
        refine Tr.seq ?_
        replace h := bind_some h; obtain ⟨x8, hx8, h⟩ := h
        refine Tr.cut (γ := Unit) (Γm := fun g => [(0, (pPtr (cGProblem a_0))), (3, (pEq (.int .i64 (a_0.Domains.length : Int)))), (4, (pEq (.int .i64 v6))), (64, (pEq (.bool x8)))]) (Ωm := fun g => []) ?_ (fun g16 => ?_)
        · clear h
          have h := hx8
          clear hx8
          refine Tr.region ?_
          refine RegL.pure (p := (pPtr (cGProblem a_0))) rfl rfl rfl (J_move rfl (Opd.tmp rfl)) ?_
          refine RegL.pure (p := (pPtr (cGProblem a_0))) rfl rfl rfl (J_nilCheck rfl (Opd.tmp rfl)) ?_
          refine RegL.pure (p := (pPtr ((cSl 1 (cSl 1 (cK .i64))) a_0.Domains))) rfl rfl rfl (J_fieldAddr rfl Try.underlying32 rfl sz27 (by decide) (Opd.tmp rfl) rfl) ?_
          refine RegL.pure (p := (pSl 1 (cSl 1 (cK .i64)) a_0.Domains)) rfl rfl rfl (J_load rfl Try.isAgg27 (Opd.tmp rfl)) ?_
          refine RegL.pure (p := (pEq (.int .i64 v6))) rfl rfl rfl (J_move rfl (Opd.tmp rfl)) ?_
          replace h := bind_some h; obtain ⟨x9, hx9, h⟩ := h
          refine RegL.pure (p := (pPtr ((cSl 1 (cK .i64)) x9))) rfl rfl rfl (J_idx rfl Try.underlying27 sz22 (Opd.tmp rfl) (Opd.tmp rfl) hx9) ?_
          refine RegL.pure (p := (pSl 1 (cK .i64) x9)) rfl rfl rfl (J_load rfl Try.isAgg22 (Opd.tmp rfl)) ?_
          replace h := bind_some h; obtain ⟨x10, hx10, h⟩ := h
          refine RegL.pure (p := (pEq (.bool x10))) rfl rfl rfl (J_call rfl Try.call70 (c_spec_l17Domain hx10) (Opds.cons (Opd.tmp rfl) Opds.nil)) ?_
          refine RegL.pure (p := (pEq (.bool (!x10)))) rfl rfl rfl (J_not rfl (Opd.tmp rfl)) ?_
          refine RegL.pure (p := (pEq (.bool (!x10)))) rfl rfl rfl (J_move rfl (Opd.tmp rfl)) ?_
          rcases Bool.eq_false_or_eq_true (!x10) with hc11 | hc11
          · replace h := bif_t hc11 h
            refine RegL.skipG rfl rfl rfl hc11 rfl rfl ?_
            refine RegL.skipG rfl rfl rfl hc11 rfl rfl ?_
            refine RegL.skipG rfl rfl rfl hc11 rfl rfl ?_
            refine RegL.skipG rfl rfl rfl hc11 rfl rfl ?_
            refine RegL.skipG rfl rfl rfl hc11 rfl rfl ?_
            refine RegL.skipG rfl rfl rfl hc11 rfl rfl ?_
            refine RegL.skipG rfl rfl rfl hc11 rfl rfl ?_
            refine RegL.skipG rfl rfl rfl hc11 rfl rfl ?_
            refine RegL.skipG rfl rfl rfl hc11 rfl rfl ?_
            refine RegL.skipG rfl rfl rfl hc11 rfl rfl ?_
            refine RegL.pure (p := (pEq (.bool true))) rfl rfl rfl (J_pick rfl (Opd.tmp rfl) (fun _ => Opd.con) (fun hf => absurd (hc11.symm.trans hf) (by decide))) ?_
            refine RegL.pure (p := (pEq (.bool true))) rfl rfl rfl (J_move rfl (Opd.tmp rfl)) ?_
            refine RegL.skipG rfl rfl rfl rfl rfl rfl ?_
            refine RegL.skipG rfl rfl rfl rfl rfl rfl ?_
            refine RegL.skipG rfl rfl rfl rfl rfl rfl ?_
            refine RegL.skipG rfl rfl rfl rfl rfl rfl ?_
            refine RegL.skipG rfl rfl rfl rfl rfl rfl ?_
            refine RegL.skipG rfl rfl rfl rfl rfl rfl ?_
            refine RegL.skipG rfl rfl rfl rfl rfl rfl ?_
            refine RegL.skipG rfl rfl rfl rfl rfl rfl ?_
            refine RegL.skipG rfl rfl rfl rfl rfl rfl ?_
            refine RegL.skipG rfl rfl rfl rfl rfl rfl ?_
            refine RegL.skipG rfl rfl rfl rfl rfl rfl ?_
            refine RegL.pure (p := (pEq (.bool true))) rfl rfl rfl (J_pick rfl (Opd.tmp rfl) (fun _ => Opd.con) (fun hf => absurd hf (by decide))) ?_
            refine RegL.nil ?_
            replace h := Option.some.inj h; subst h
            exact Ct.mid () rfl ⟨rfl, rfl, rfl, rfl, trivial⟩
          · replace h := bif_f hc11 h
            refine RegL.pureG (p := (pPtr (cGProblem a_0))) rfl rfl rfl hc11 rfl rfl (J_move rfl (Opd.tmp rfl)) ?_
            refine RegL.pureG (p := (pPtr (cGProblem a_0))) rfl rfl rfl hc11 rfl rfl (J_nilCheck rfl (Opd.tmp rfl)) ?_
            refine RegL.pureG (p := (pPtr ((cSl 1 (cSl 1 (cK .i64))) a_0.Apart))) rfl rfl rfl hc11 rfl rfl (J_fieldAddr rfl Try.underlying32 rfl sz27 (by decide) (Opd.tmp rfl) rfl) ?_
            refine RegL.pureG (p := (pSl 1 (cSl 1 (cK .i64)) a_0.Apart)) rfl rfl rfl hc11 rfl rfl (J_load rfl Try.isAgg27 (Opd.tmp rfl)) ?_
            refine RegL.pureG (p := (pEq (.int .i64 v6))) rfl rfl rfl hc11 rfl rfl (J_move rfl (Opd.tmp rfl)) ?_
            replace h := bind_some h; obtain ⟨x12, hx12, h⟩ := h
            refine RegL.pureG (p := (pPtr ((cSl 1 (cK .i64)) x12))) rfl rfl rfl hc11 rfl rfl (J_idx rfl Try.underlying27 sz22 (Opd.tmp rfl) (Opd.tmp rfl) hx12) ?_
            refine RegL.pureG (p := (pSl 1 (cK .i64) x12)) rfl rfl rfl hc11 rfl rfl (J_load rfl Try.isAgg22 (Opd.tmp rfl)) ?_
            refine RegL.pureG (p := (pEq (.int .i64 (x12.length : Int)))) rfl rfl rfl hc11 rfl rfl (J_len rfl Try.underlying22 (Opd.tmp rfl) rfl) ?_
            refine RegL.pureG (p := (pEq (.int .i64 (a_0.Domains.length : Int)))) rfl rfl rfl hc11 rfl rfl (J_move rfl (Opd.tmp rfl)) ?_
            refine RegL.pureG (p := (pEq (.bool ((x12.length : Int) != (a_0.Domains.length : Int))))) rfl rfl rfl hc11 rfl rfl (J_bin rfl (Opd.tmp rfl) (Opd.tmp rfl) B_neq) ?_
            refine RegL.pure (p := (pEq (.bool ((x12.length : Int) != (a_0.Domains.length : Int))))) rfl rfl rfl (J_pick rfl (Opd.tmp rfl) (fun hf => absurd (hc11.symm.trans hf) (by decide)) (fun _ => (Opd.tmp rfl))) ?_
            refine RegL.pure (p := (pEq (.bool ((x12.length : Int) != (a_0.Domains.length : Int))))) rfl rfl rfl (J_move rfl (Opd.tmp rfl)) ?_
            rcases Bool.eq_false_or_eq_true ((x12.length : Int) != (a_0.Domains.length : Int)) with hc13 | hc13
            · replace h := bif_t hc13 h
              refine RegL.skipG rfl rfl rfl hc13 rfl rfl ?_
              refine RegL.skipG rfl rfl rfl hc13 rfl rfl ?_
              refine RegL.skipG rfl rfl rfl hc13 rfl rfl ?_
              refine RegL.skipG rfl rfl rfl hc13 rfl rfl ?_
              refine RegL.skipG rfl rfl rfl hc13 rfl rfl ?_
              refine RegL.skipG rfl rfl rfl hc13 rfl rfl ?_
              refine RegL.skipG rfl rfl rfl hc13 rfl rfl ?_
              refine RegL.skipG rfl rfl rfl hc13 rfl rfl ?_
              refine RegL.skipG rfl rfl rfl hc13 rfl rfl ?_
              refine RegL.skipG rfl rfl rfl hc13 rfl rfl ?_
              refine RegL.skipG rfl rfl rfl hc13 rfl rfl ?_
              refine RegL.pure (p := (pEq (.bool true))) rfl rfl rfl (J_pick rfl (Opd.tmp rfl) (fun _ => Opd.con) (fun hf => absurd (hc13.symm.trans hf) (by decide))) ?_
              refine RegL.nil ?_
              replace h := Option.some.inj h; subst h
              exact Ct.mid () rfl ⟨rfl, rfl, rfl, rfl, trivial⟩
            · replace h := bif_f hc13 h
              refine RegL.pureG (p := (pPtr (cGProblem a_0))) rfl rfl rfl hc13 rfl rfl (J_move rfl (Opd.tmp rfl)) ?_
              refine RegL.pureG (p := (pPtr (cGProblem a_0))) rfl rfl rfl hc13 rfl rfl (J_nilCheck rfl (Opd.tmp rfl)) ?_
              refine RegL.pureG (p := (pPtr ((cSl 1 (cSl 1 (cK .i64))) a_0.Apart))) rfl rfl rfl hc13 rfl rfl (J_fieldAddr rfl Try.underlying32 rfl sz27 (by decide) (Opd.tmp rfl) rfl) ?_
              refine RegL.pureG (p := (pSl 1 (cSl 1 (cK .i64)) a_0.Apart)) rfl rfl rfl hc13 rfl rfl (J_load rfl Try.isAgg27 (Opd.tmp rfl)) ?_
              refine RegL.pureG (p := (pEq (.int .i64 v6))) rfl rfl rfl hc13 rfl rfl (J_move rfl (Opd.tmp rfl)) ?_
              replace h := bind_some h; obtain ⟨x14, hx14, h⟩ := h
              refine RegL.pureG (p := (pPtr ((cSl 1 (cK .i64)) x14))) rfl rfl rfl hc13 rfl rfl (J_idx rfl Try.underlying27 sz22 (Opd.tmp rfl) (Opd.tmp rfl) hx14) ?_
              refine RegL.pureG (p := (pSl 1 (cK .i64) x14)) rfl rfl rfl hc13 rfl rfl (J_load rfl Try.isAgg22 (Opd.tmp rfl)) ?_
              refine RegL.pureG (p := (pEq (.int .i64 v6))) rfl rfl rfl hc13 rfl rfl (J_move rfl (Opd.tmp rfl)) ?_
              replace h := bind_some h; obtain ⟨x15, hx15, h⟩ := h
              refine RegL.pureG (p := (pPtr ((cK .i64) x15))) rfl rfl rfl hc13 rfl rfl (J_idx rfl Try.underlying22 sz2 (Opd.tmp rfl) (Opd.tmp rfl) hx15) ?_
              refine RegL.pureG (p := (pEq (.int .i64 x15))) rfl rfl rfl hc13 rfl rfl (J_load rfl Try.isAgg2 (Opd.tmp rfl)) ?_
              refine RegL.pureG (p := (pEq (.bool (x15 != (0 : Int))))) rfl rfl rfl hc13 rfl rfl (J_bin rfl (Opd.tmp rfl) Opd.con B_neq) ?_
              refine RegL.pure (p := (pEq (.bool (x15 != (0 : Int))))) rfl rfl rfl (J_pick rfl (Opd.tmp rfl) (fun hf => absurd (hc13.symm.trans hf) (by decide)) (fun _ => (Opd.tmp rfl))) ?_
              refine RegL.nil ?_
              replace h := Option.some.inj h; subst h
              exact Ct.mid () rfl ⟨rfl, rfl, rfl, rfl, trivial⟩
        · clear hx8
          refine Ct.then_tr ?_
          refine Tr.weak (Γ' := [(0, (pPtr (cGProblem a_0))), (3, (pEq (.int .i64 (a_0.Domains.length : Int)))), (4, (pEq (.int .i64 v6))), (64, (pEq (.bool x8)))]) ⟨rfl, rfl, rfl, rfl, trivial⟩ ?_
          refine Tr.cond (Opd.tmp rfl) (fun hc => ?_) (fun hc => ?_)
          · replace h := bif_t hc h
            refine Tr.seq ?_
            refine Tr.region ?_
            refine RegL.pure (p := (pEq (.bool false))) rfl rfl rfl (J_assign rfl Opd.con) ?_
            refine RegL.nil ?_
            refine Ct.then_tr ?_
            refine Tr.weak (Γ' := [(2, (pEq (.bool false)))]) ⟨rfl, trivial⟩ ?_
            refine Tr.ret ?_
            refine Ct.then_ret ?_
            refine Ct.blk_ret ?_
            refine Ct.then_ret ?_
            replace h := map_some h; obtain ⟨r1, h, rfl⟩ := h
            refine Ct.out_ret fun e => ?_
            subst e
            refine Ct.blk_ret ?_
            refine Ct.then_ret ?_
            replace h := Option.some.inj h; subst h
            exact Ct.retH1 (Ωx := []) () rfl (RvOk.tmp rfl) rfl
          · replace h := bif_f hc h
            refine Tr.skip ?_
            refine Ct.then_tr ?_
            refine Tr.weak (Γ' := [(0, (pPtr (cGProblem a_0))), (3, (pEq (.int .i64 (a_0.Domains.length : Int)))), (4, (pEq (.int .i64 v6)))]) ⟨rfl, rfl, rfl, trivial⟩ ?_
            refine Tr.seq ?_
            refine Tr.region ?_
            refine RegL.pure (p := (pEq (.int .i64 (0 : Int)))) rfl rfl rfl (J_assign rfl Opd.con) ?_
            refine RegL.nil ?_
            refine Ct.then_tr ?_
            refine Tr.weak (Γ' := [(0, (pPtr (cGProblem a_0))), (3, (pEq (.int .i64 (a_0.Domains.length : Int)))), (4, (pEq (.int .i64 v6))), (5, (pEq (.int .i64 (0 : Int))))]) ⟨rfl, rfl, rfl, rfl, trivial⟩ ?_
            refine Tr.block ?_
            refine Tr.weak (Γ' := [(0, (pPtr (cGProblem a_0))), (3, (pEq (.int .i64 (a_0.Domains.length : Int)))), (4, (pEq (.int .i64 v6))), (5, (pEq (.int .i64 (0 : Int))))]) ⟨rfl, rfl, rfl, rfl, trivial⟩ ?_
            refine Tr.loop (γ := Unit) (σ := Int) (Γσ := fun s g => [(0, (pPtr (cGProblem a_0))), (3, (pEq (.int .i64 (a_0.Domains.length : Int)))), (4, (pEq (.int .i64 v6))), (5, (pEq (.int .i64 s)))]) (Ωσ := fun s g => []) (g := ()) h ?_
            clear h
            rintro v18 g19 t h
            replace h : m_spec_l17Ok_B17 a_0 v6 v18 = some t := h
            unfold m_spec_l17Ok_B17 at h
            refine Tr.weakO (Γ' := [(0, (pPtr (cGProblem a_0))), (3, (pEq (.int .i64 (a_0.Domains.length : Int)))), (4, (pEq (.int .i64 v6))), (5, (pEq (.int .i64 v18)))]) (Ω' := []) rfl ⟨rfl, rfl, rfl, rfl, trivial⟩ ?_
            refine Tr.seq ?_
            refine Tr.seq ?_
            refine Tr.region ?_
            refine RegL.pure (p := (pEq (.int .i64 v18))) rfl rfl rfl (J_move rfl (Opd.tmp rfl)) ?_
            refine RegL.pure (p := (pEq (.int .i64 (a_0.Domains.length : Int)))) rfl rfl rfl (J_move rfl (Opd.tmp rfl)) ?_
            refine RegL.pure (p := (pEq (.bool (decide (v18 < (a_0.Domains.length : Int)))))) rfl rfl rfl (J_bin rfl (Opd.tmp rfl) (Opd.tmp rfl) B_lss) ?_
            refine RegL.nil ?_
            refine Ct.then_tr ?_
            refine Tr.weak (Γ' := [(0, (pPtr (cGProblem a_0))), (3, (pEq (.int .i64 (a_0.Domains.length : Int)))), (4, (pEq (.int .i64 v6))), (5, (pEq (.int .i64 v18))), (67, (pEq (.bool (decide (v18 < (a_0.Domains.length : Int))))))]) ⟨rfl, rfl, rfl, rfl, rfl, trivial⟩ ?_
            refine Tr.cond (Opd.tmp rfl) (fun hc => ?_) (fun hc => ?_)
            · replace h := bif_t hc h
              refine Tr.skip ?_
              refine Ct.then_tr ?_
              refine Tr.weak (Γ' := [(0, (pPtr (cGProblem a_0))), (3, (pEq (.int .i64 (a_0.Domains.length : Int)))), (4, (pEq (.int .i64 v6))), (5, (pEq (.int .i64 v18)))]) ⟨rfl, rfl, rfl, rfl, trivial⟩ ?_
              refine Tr.seq ?_
              refine Tr.block ?_
              refine Tr.seq ?_
              replace h := bind_some h; obtain ⟨x20, hx20, h⟩ := h
              refine Tr.cut (γ := Unit) (Γm := fun g => [(0, (pPtr (cGProblem a_0))), (3, (pEq (.int .i64 (a_0.Domains.length : Int)))), (4, (pEq (.int .i64 v6))), (5, (pEq (.int .i64 v18))), (109, (pEq (.bool x20)))]) (Ωm := fun g => []) ?_ (fun g30 => ?_)
              · clear h
                have h := hx20
                clear hx20
                replace h := bind_some h; obtain ⟨x21, hx21, h⟩ := h
                replace h := bind_some h; obtain ⟨x22, hx22, h⟩ := h
                replace h := bind_some h; obtain ⟨x23, hx23, h⟩ := h
                rcases Bool.eq_false_or_eq_true (!x23) with hc24 | hc24
                · replace h := bif_t hc24 h
                  refine Tr.drawD (n := 110) (m := 40) (es := [some (Ent.mk [(0, (pPtr (cGProblem a_0)))] (pPtr (cGProblem a_0)) true), some (Ent.mk [(70, (pPtr (cGProblem a_0)))] (pPtr (cGProblem a_0)) true), some (Ent.mk [(71, (pPtr (cGProblem a_0)))] (pPtr ((cSl 1 (cSl 1 (cK .i64))) a_0.Apart)) true), some (Ent.mk [(72, (pPtr ((cSl 1 (cSl 1 (cK .i64))) a_0.Apart)))] (pSl 1 (cSl 1 (cK .i64)) a_0.Apart) true), some (Ent.mk [(4, (pEq (.int .i64 v6)))] (pEq (.int .i64 v6)) true), some (Ent.mk [(73, (pSl 1 (cSl 1 (cK .i64)) a_0.Apart)), (74, (pEq (.int .i64 v6)))] (pPtr ((cSl 1 (cK .i64)) x21)) true), some (Ent.mk [(75, (pPtr ((cSl 1 (cK .i64)) x21)))] (pSl 1 (cK .i64) x21) true), some (Ent.mk [(5, (pEq (.int .i64 v18)))] (pEq (.int .i64 v18)) true), some (Ent.mk [(76, (pSl 1 (cK .i64) x21)), (77, (pEq (.int .i64 v18)))] (pPtr ((cK .i64) x22)) true), some (Ent.mk [(78, (pPtr ((cK .i64) x22)))] (pEq (.int .i64 x22)) true), some (Ent.mk [(79, (pEq (.int .i64 x22)))] (pEq (.bool x23)) true), some (Ent.mk [(80, (pEq (.bool x23)))] (pEq (.bool (!x23))) true), some (Ent.mk [(81, (pEq (.bool (!x23))))] (pEq (.bool (!x23))) true), some (Ent.mk [(5, (pEq (.int .i64 v18)))] (pEq undef) false), some (Ent.mk [(4, (pEq (.int .i64 v6)))] (pEq undef) false), some (Ent.mk [(83, (pEq undef)), (84, (pEq undef))] (pEq undef) false), some (Ent.mk [(85, (pEq undef))] (pEq undef) false), some (Ent.mk [(0, (pPtr (cGProblem a_0)))] (pEq undef) false), some (Ent.mk [(87, (pEq undef))] (pEq undef) false), some (Ent.mk [(88, (pEq undef))] (pEq undef) false), some (Ent.mk [(89, (pEq undef))] (pEq undef) false), some (Ent.mk [(5, (pEq (.int .i64 v18)))] (pEq undef) false), some (Ent.mk [(90, (pEq undef)), (91, (pEq undef))] (pEq undef) false), some (Ent.mk [(92, (pEq undef))] (pEq undef) false), some (Ent.mk [(4, (pEq (.int .i64 v6)))] (pEq undef) false), some (Ent.mk [(93, (pEq undef)), (94, (pEq undef))] (pEq undef) false), some (Ent.mk [(95, (pEq undef))] (pEq undef) false), some (Ent.mk [(0, (pPtr (cGProblem a_0)))] (pEq undef) false), some (Ent.mk [(97, (pEq undef))] (pEq undef) false), some (Ent.mk [(98, (pEq undef))] (pEq undef) false), some (Ent.mk [(99, (pEq undef))] (pEq undef) false), some (Ent.mk [(4, (pEq (.int .i64 v6)))] (pEq undef) false), some (Ent.mk [(100, (pEq undef)), (101, (pEq undef))] (pEq undef) false), some (Ent.mk [(102, (pEq undef))] (pEq undef) false), some (Ent.mk [(5, (pEq (.int .i64 v18)))] (pEq undef) false), some (Ent.mk [(103, (pEq undef)), (104, (pEq undef))] (pEq undef) false), some (Ent.mk [(105, (pEq undef))] (pEq undef) false), some (Ent.mk [(96, (pEq undef)), (106, (pEq undef))] (pEq undef) false), some (Ent.mk [(86, (pEq undef)), (107, (pEq undef))] (pEq undef) false), some (Ent.mk [(82, (pEq (.bool (!x23)))), (108, (pEq undef))] (pEq (.bool true)) true)]) (rd := [[0], [70], [71], [72], [4], [73, 74], [75], [5], [76, 77], [78], [79], [80], [81], [5], [4], [83, 84], [85], [0], [87], [88], [89], [5], [90, 91], [92], [4], [93, 94], [95], [0], [97], [98], [99], [4], [100, 101], [102], [5], [103, 104], [105], [96, 106], [86, 107], [82, 108]]) rfl hmix (by kernel_rfl) fun hD => ?_
                  refine RD.fin (es := [Ent.mk [(0, (pPtr (cGProblem a_0)))] (pPtr (cGProblem a_0)) true, Ent.mk [(70, (pPtr (cGProblem a_0)))] (pPtr (cGProblem a_0)) true, Ent.mk [(71, (pPtr (cGProblem a_0)))] (pPtr ((cSl 1 (cSl 1 (cK .i64))) a_0.Apart)) true, Ent.mk [(72, (pPtr ((cSl 1 (cSl 1 (cK .i64))) a_0.Apart)))] (pSl 1 (cSl 1 (cK .i64)) a_0.Apart) true, Ent.mk [(4, (pEq (.int .i64 v6)))] (pEq (.int .i64 v6)) true, Ent.mk [(73, (pSl 1 (cSl 1 (cK .i64)) a_0.Apart)), (74, (pEq (.int .i64 v6)))] (pPtr ((cSl 1 (cK .i64)) x21)) true, Ent.mk [(75, (pPtr ((cSl 1 (cK .i64)) x21)))] (pSl 1 (cK .i64) x21) true, Ent.mk [(5, (pEq (.int .i64 v18)))] (pEq (.int .i64 v18)) true, Ent.mk [(76, (pSl 1 (cK .i64) x21)), (77, (pEq (.int .i64 v18)))] (pPtr ((cK .i64) x22)) true, Ent.mk [(78, (pPtr ((cK .i64) x22)))] (pEq (.int .i64 x22)) true, Ent.mk [(79, (pEq (.int .i64 x22)))] (pEq (.bool x23)) true, Ent.mk [(80, (pEq (.bool x23)))] (pEq (.bool (!x23))) true, Ent.mk [(81, (pEq (.bool (!x23))))] (pEq (.bool (!x23))) true, Ent.mk [(5, (pEq (.int .i64 v18)))] (pEq undef) false, Ent.mk [(4, (pEq (.int .i64 v6)))] (pEq undef) false, Ent.mk [(83, (pEq undef)), (84, (pEq undef))] (pEq undef) false, Ent.mk [(85, (pEq undef))] (pEq undef) false, Ent.mk [(0, (pPtr (cGProblem a_0)))] (pEq undef) false, Ent.mk [(87, (pEq undef))] (pEq undef) false, Ent.mk [(88, (pEq undef))] (pEq undef) false, Ent.mk [(89, (pEq undef))] (pEq undef) false, Ent.mk [(5, (pEq (.int .i64 v18)))] (pEq undef) false, Ent.mk [(90, (pEq undef)), (91, (pEq undef))] (pEq undef) false, Ent.mk [(92, (pEq undef))] (pEq undef) false, Ent.mk [(4, (pEq (.int .i64 v6)))] (pEq undef) false, Ent.mk [(93, (pEq undef)), (94, (pEq undef))] (pEq undef) false, Ent.mk [(95, (pEq undef))] (pEq undef) false, Ent.mk [(0, (pPtr (cGProblem a_0)))] (pEq undef) false, Ent.mk [(97, (pEq undef))] (pEq undef) false, Ent.mk [(98, (pEq undef))] (pEq undef) false, Ent.mk [(99, (pEq undef))] (pEq undef) false, Ent.mk [(4, (pEq (.int .i64 v6)))] (pEq undef) false, Ent.mk [(100, (pEq undef)), (101, (pEq undef))] (pEq undef) false, Ent.mk [(102, (pEq undef))] (pEq undef) false, Ent.mk [(5, (pEq (.int .i64 v18)))] (pEq undef) false, Ent.mk [(103, (pEq undef)), (104, (pEq undef))] (pEq undef) false, Ent.mk [(105, (pEq undef))] (pEq undef) false, Ent.mk [(96, (pEq undef)), (106, (pEq undef))] (pEq undef) false, Ent.mk [(86, (pEq undef)), (107, (pEq undef))] (pEq undef) false, Ent.mk [(82, (pEq (.bool (!x23)))), (108, (pEq undef))] (pEq (.bool true)) true]) (done := []) hD ⟨.inr ⟨(OpJ.w (J_move rfl (Opd.tmp rfl))), ⟨rfl, trivial⟩, rfl, rfl⟩, ⟨.inr ⟨(OpJ.w (J_nilCheck rfl (Opd.tmp rfl))), ⟨rfl, trivial⟩, rfl, rfl⟩, ⟨.inr ⟨(OpJ.w (J_fieldAddr rfl Try.underlying32 rfl sz27 (by decide) (Opd.tmp rfl) rfl)), ⟨rfl, trivial⟩, rfl, rfl⟩, ⟨.inr ⟨(OpJ.w (J_load rfl Try.isAgg27 (Opd.tmp rfl))), ⟨rfl, trivial⟩, rfl, rfl⟩, ⟨.inr ⟨(OpJ.w (J_move rfl (Opd.tmp rfl))), ⟨rfl, trivial⟩, rfl, rfl⟩, ⟨.inr ⟨(OpJ.w (J_idx rfl Try.underlying27 sz22 (Opd.tmp rfl) (Opd.tmp rfl) hx21)), ⟨rfl, rfl, trivial⟩, rfl, rfl⟩, ⟨.inr ⟨(OpJ.w (J_load rfl Try.isAgg22 (Opd.tmp rfl))), ⟨rfl, trivial⟩, rfl, rfl⟩, ⟨.inr ⟨(OpJ.w (J_move rfl (Opd.tmp rfl))), ⟨rfl, trivial⟩, rfl, rfl⟩, ⟨.inr ⟨(OpJ.w (J_idx rfl Try.underlying22 sz2 (Opd.tmp rfl) (Opd.tmp rfl) hx22)), ⟨rfl, rfl, trivial⟩, rfl, rfl⟩, ⟨.inr ⟨(OpJ.w (J_load rfl Try.isAgg2 (Opd.tmp rfl))), ⟨rfl, trivial⟩, rfl, rfl⟩, ⟨.inr ⟨(OpJ.w (J_call rfl Try.call53 (c_spec_l00In hx23) (Opds.cons (Opd.tmp rfl) (Opds.cons Opd.con (Opds.cons Opd.con Opds.nil))))), ⟨rfl, trivial⟩, rfl, rfl⟩, ⟨.inr ⟨(OpJ.w (J_not rfl (Opd.tmp rfl))), ⟨rfl, trivial⟩, rfl, rfl⟩, ⟨.inr ⟨(OpJ.w (J_move rfl (Opd.tmp rfl))), ⟨rfl, trivial⟩, rfl, rfl⟩, ⟨.inr ⟨rfl, ⟨rfl, trivial⟩, (.inl ⟨_, rfl, by simp [hc24]⟩), rfl⟩, ⟨.inr ⟨rfl, ⟨rfl, trivial⟩, (.inl ⟨_, rfl, by simp [hc24]⟩), rfl⟩, ⟨.inr ⟨rfl, ⟨rfl, rfl, trivial⟩, (.inl ⟨_, rfl, by simp [hc24]⟩), rfl⟩, ⟨.inr ⟨rfl, ⟨rfl, trivial⟩, (.inl ⟨_, rfl, by simp [hc24]⟩), rfl⟩, ⟨.inr ⟨rfl, ⟨rfl, trivial⟩, (.inr ⟨rfl, rfl⟩), rfl⟩, ⟨.inr ⟨rfl, ⟨rfl, trivial⟩, (.inr ⟨rfl, rfl⟩), rfl⟩, ⟨.inr ⟨rfl, ⟨rfl, trivial⟩, (.inr ⟨rfl, rfl⟩), rfl⟩, ⟨.inr ⟨rfl, ⟨rfl, trivial⟩, (.inr ⟨rfl, rfl⟩), rfl⟩, ⟨.inr ⟨rfl, ⟨rfl, trivial⟩, (.inr ⟨rfl, rfl⟩), rfl⟩, ⟨.inr ⟨rfl, ⟨rfl, rfl, trivial⟩, (.inr ⟨rfl, rfl⟩), rfl⟩, ⟨.inr ⟨rfl, ⟨rfl, trivial⟩, (.inr ⟨rfl, rfl⟩), rfl⟩, ⟨.inr ⟨rfl, ⟨rfl, trivial⟩, (.inr ⟨rfl, rfl⟩), rfl⟩, ⟨.inr ⟨rfl, ⟨rfl, rfl, trivial⟩, (.inr ⟨rfl, rfl⟩), rfl⟩, ⟨.inr ⟨rfl, ⟨rfl, trivial⟩, (.inr ⟨rfl, rfl⟩), rfl⟩, ⟨.inr ⟨rfl, ⟨rfl, trivial⟩, (.inr ⟨rfl, rfl⟩), rfl⟩, ⟨.inr ⟨rfl, ⟨rfl, trivial⟩, (.inr ⟨rfl, rfl⟩), rfl⟩, ⟨.inr ⟨rfl, ⟨rfl, trivial⟩, (.inr ⟨rfl, rfl⟩), rfl⟩, ⟨.inr ⟨rfl, ⟨rfl, trivial⟩, (.inr ⟨rfl, rfl⟩), rfl⟩, ⟨.inr ⟨rfl, ⟨rfl, trivial⟩, (.inr ⟨rfl, rfl⟩), rfl⟩, ⟨.inr ⟨rfl, ⟨rfl, rfl, trivial⟩, (.inr ⟨rfl, rfl⟩), rfl⟩, ⟨.inr ⟨rfl, ⟨rfl, trivial⟩, (.inr ⟨rfl, rfl⟩), rfl⟩, ⟨.inr ⟨rfl, ⟨rfl, trivial⟩, (.inr ⟨rfl, rfl⟩), rfl⟩, ⟨.inr ⟨rfl, ⟨rfl, rfl, trivial⟩, (.inr ⟨rfl, rfl⟩), rfl⟩, ⟨.inr ⟨rfl, ⟨rfl, trivial⟩, (.inr ⟨rfl, rfl⟩), rfl⟩, ⟨.inr ⟨rfl, ⟨rfl, rfl, trivial⟩, (.inr ⟨rfl, rfl⟩), rfl⟩, ⟨.inr ⟨rfl, ⟨rfl, rfl, trivial⟩, (.inl ⟨_, rfl, by simp [hc24]⟩), rfl⟩, ⟨.inr ⟨(OpJ.w (J_pick rfl (Opd.tmp rfl) (fun _ => Opd.con) (fun hf => absurd (hc24.symm.trans hf) (by decide)))), ⟨rfl, rfl, trivial⟩, rfl, rfl⟩, trivial⟩⟩⟩⟩⟩⟩⟩⟩⟩⟩⟩⟩⟩⟩⟩⟩⟩⟩⟩⟩⟩⟩⟩⟩⟩⟩⟩⟩⟩⟩⟩⟩⟩⟩⟩⟩⟩⟩⟩⟩ ?_
                  refine RegL.nil ?_
                  replace h := Option.some.inj h; subst h
                  exact Ct.mid () rfl ⟨rfl, rfl, rfl, rfl, rfl, trivial⟩
                · replace h := bif_f hc24 h
                  rcases Bool.eq_false_or_eq_true (decide (v18 < v6)) with hc25 | hc25
                  · replace h := bif_t hc25 h
                    replace h := bind_some h; obtain ⟨x26, hx26, h⟩ := h
                    replace h := bind_some h; obtain ⟨x27, hx27, h⟩ := h
                    replace h := bind_some h; obtain ⟨x28, hx28, h⟩ := h
                    replace h := bind_some h; obtain ⟨x29, hx29, h⟩ := h
                    refine Tr.drawD (n := 110) (m := 40) (es := [some (Ent.mk [(0, (pPtr (cGProblem a_0)))] (pPtr (cGProblem a_0)) true), some (Ent.mk [(70, (pPtr (cGProblem a_0)))] (pPtr (cGProblem a_0)) true), some (Ent.mk [(71, (pPtr (cGProblem a_0)))] (pPtr ((cSl 1 (cSl 1 (cK .i64))) a_0.Apart)) true), some (Ent.mk [(72, (pPtr ((cSl 1 (cSl 1 (cK .i64))) a_0.Apart)))] (pSl 1 (cSl 1 (cK .i64)) a_0.Apart) true), some (Ent.mk [(4, (pEq (.int .i64 v6)))] (pEq (.int .i64 v6)) true), some (Ent.mk [(73, (pSl 1 (cSl 1 (cK .i64)) a_0.Apart)), (74, (pEq (.int .i64 v6)))] (pPtr ((cSl 1 (cK .i64)) x21)) true), some (Ent.mk [(75, (pPtr ((cSl 1 (cK .i64)) x21)))] (pSl 1 (cK .i64) x21) true), some (Ent.mk [(5, (pEq (.int .i64 v18)))] (pEq (.int .i64 v18)) true), some (Ent.mk [(76, (pSl 1 (cK .i64) x21)), (77, (pEq (.int .i64 v18)))] (pPtr ((cK .i64) x22)) true), some (Ent.mk [(78, (pPtr ((cK .i64) x22)))] (pEq (.int .i64 x22)) true), some (Ent.mk [(79, (pEq (.int .i64 x22)))] (pEq (.bool x23)) true), some (Ent.mk [(80, (pEq (.bool x23)))] (pEq (.bool (!x23))) true), some (Ent.mk [(81, (pEq (.bool (!x23))))] (pEq (.bool (!x23))) true), some (Ent.mk [(5, (pEq (.int .i64 v18)))] (pEq (.int .i64 v18)) true), some (Ent.mk [(4, (pEq (.int .i64 v6)))] (pEq (.int .i64 v6)) true), some (Ent.mk [(83, (pEq (.int .i64 v18))), (84, (pEq (.int .i64 v6)))] (pEq (.bool (decide (v18 < v6)))) true), some (Ent.mk [(85, (pEq (.bool (decide (v18 < v6)))))] (pEq (.bool (decide (v18 < v6)))) true), some (Ent.mk [(0, (pPtr (cGProblem a_0)))] (pPtr (cGProblem a_0)) true), some (Ent.mk [(87, (pPtr (cGProblem a_0)))] (pPtr (cGProblem a_0)) true), some (Ent.mk [(88, (pPtr (cGProblem a_0)))] (pPtr ((cSl 1 (cSl 1 (cK .i64))) a_0.Apart)) true), some (Ent.mk [(89, (pPtr ((cSl 1 (cSl 1 (cK .i64))) a_0.Apart)))] (pSl 1 (cSl 1 (cK .i64)) a_0.Apart) true), some (Ent.mk [(5, (pEq (.int .i64 v18)))] (pEq (.int .i64 v18)) true), some (Ent.mk [(90, (pSl 1 (cSl 1 (cK .i64)) a_0.Apart)), (91, (pEq (.int .i64 v18)))] (pPtr ((cSl 1 (cK .i64)) x26)) true), some (Ent.mk [(92, (pPtr ((cSl 1 (cK .i64)) x26)))] (pSl 1 (cK .i64) x26) true), some (Ent.mk [(4, (pEq (.int .i64 v6)))] (pEq (.int .i64 v6)) true), some (Ent.mk [(93, (pSl 1 (cK .i64) x26)), (94, (pEq (.int .i64 v6)))] (pPtr ((cK .i64) x27)) true), some (Ent.mk [(95, (pPtr ((cK .i64) x27)))] (pEq (.int .i64 x27)) true), some (Ent.mk [(0, (pPtr (cGProblem a_0)))] (pPtr (cGProblem a_0)) true), some (Ent.mk [(97, (pPtr (cGProblem a_0)))] (pPtr (cGProblem a_0)) true), some (Ent.mk [(98, (pPtr (cGProblem a_0)))] (pPtr ((cSl 1 (cSl 1 (cK .i64))) a_0.Apart)) true), some (Ent.mk [(99, (pPtr ((cSl 1 (cSl 1 (cK .i64))) a_0.Apart)))] (pSl 1 (cSl 1 (cK .i64)) a_0.Apart) true), some (Ent.mk [(4, (pEq (.int .i64 v6)))] (pEq (.int .i64 v6)) true), some (Ent.mk [(100, (pSl 1 (cSl 1 (cK .i64)) a_0.Apart)), (101, (pEq (.int .i64 v6)))] (pPtr ((cSl 1 (cK .i64)) x28)) true), some (Ent.mk [(102, (pPtr ((cSl 1 (cK .i64)) x28)))] (pSl 1 (cK .i64) x28) true), some (Ent.mk [(5, (pEq (.int .i64 v18)))] (pEq (.int .i64 v18)) true), some (Ent.mk [(103, (pSl 1 (cK .i64) x28)), (104, (pEq (.int .i64 v18)))] (pPtr ((cK .i64) x29)) true), some (Ent.mk [(105, (pPtr ((cK .i64) x29)))] (pEq (.int .i64 x29)) true), some (Ent.mk [(96, (pEq (.int .i64 x27))), (106, (pEq (.int .i64 x29)))] (pEq (.bool (x27 != x29))) true), some (Ent.mk [(86, (pEq (.bool (decide (v18 < v6))))), (107, (pEq (.bool (x27 != x29))))] (pEq (.bool (x27 != x29))) true), some (Ent.mk [(82, (pEq (.bool (!x23)))), (108, (pEq (.bool (x27 != x29))))] (pEq (.bool (x27 != x29))) true)]) (rd := [[0], [70], [71], [72], [4], [73, 74], [75], [5], [76, 77], [78], [79], [80], [81], [5], [4], [83, 84], [85], [0], [87], [88], [89], [5], [90, 91], [92], [4], [93, 94], [95], [0], [97], [98], [99], [4], [100, 101], [102], [5], [103, 104], [105], [96, 106], [86, 107], [82, 108]]) rfl hmix (by kernel_rfl) fun hD => ?_
                    refine RD.fin (es := [Ent.mk [(0, (pPtr (cGProblem a_0)))] (pPtr (cGProblem a_0)) true, Ent.mk [(70, (pPtr (cGProblem a_0)))] (pPtr (cGProblem a_0)) true, Ent.mk [(71, (pPtr (cGProblem a_0)))] (pPtr ((cSl 1 (cSl 1 (cK .i64))) a_0.Apart)) true, Ent.mk [(72, (pPtr ((cSl 1 (cSl 1 (cK .i64))) a_0.Apart)))] (pSl 1 (cSl 1 (cK .i64)) a_0.Apart) true, Ent.mk [(4, (pEq (.int .i64 v6)))] (pEq (.int .i64 v6)) true, Ent.mk [(73, (pSl 1 (cSl 1 (cK .i64)) a_0.Apart)), (74, (pEq (.int .i64 v6)))] (pPtr ((cSl 1 (cK .i64)) x21)) true, Ent.mk [(75, (pPtr ((cSl 1 (cK .i64)) x21)))] (pSl 1 (cK .i64) x21) true, Ent.mk [(5, (pEq (.int .i64 v18)))] (pEq (.int .i64 v18)) true, Ent.mk [(76, (pSl 1 (cK .i64) x21)), (77, (pEq (.int .i64 v18)))] (pPtr ((cK .i64) x22)) true, Ent.mk [(78, (pPtr ((cK .i64) x22)))] (pEq (.int .i64 x22)) true, Ent.mk [(79, (pEq (.int .i64 x22)))] (pEq (.bool x23)) true, Ent.mk [(80, (pEq (.bool x23)))] (pEq (.bool (!x23))) true, Ent.mk [(81, (pEq (.bool (!x23))))] (pEq (.bool (!x23))) true, Ent.mk [(5, (pEq (.int .i64 v18)))] (pEq (.int .i64 v18)) true, Ent.mk [(4, (pEq (.int .i64 v6)))] (pEq (.int .i64 v6)) true, Ent.mk [(83, (pEq (.int .i64 v18))), (84, (pEq (.int .i64 v6)))] (pEq (.bool (decide (v18 < v6)))) true, Ent.mk [(85, (pEq (.bool (decide (v18 < v6)))))] (pEq (.bool (decide (v18 < v6)))) true, Ent.mk [(0, (pPtr (cGProblem a_0)))] (pPtr (cGProblem a_0)) true, Ent.mk [(87, (pPtr (cGProblem a_0)))] (pPtr (cGProblem a_0)) true, Ent.mk [(88, (pPtr (cGProblem a_0)))] (pPtr ((cSl 1 (cSl 1 (cK .i64))) a_0.Apart)) true, Ent.mk [(89, (pPtr ((cSl 1 (cSl 1 (cK .i64))) a_0.Apart)))] (pSl 1 (cSl 1 (cK .i64)) a_0.Apart) true, Ent.mk [(5, (pEq (.int .i64 v18)))] (pEq (.int .i64 v18)) true, Ent.mk [(90, (pSl 1 (cSl 1 (cK .i64)) a_0.Apart)), (91, (pEq (.int .i64 v18)))] (pPtr ((cSl 1 (cK .i64)) x26)) true, Ent.mk [(92, (pPtr ((cSl 1 (cK .i64)) x26)))] (pSl 1 (cK .i64) x26) true, Ent.mk [(4, (pEq (.int .i64 v6)))] (pEq (.int .i64 v6)) true, Ent.mk [(93, (pSl 1 (cK .i64) x26)), (94, (pEq (.int .i64 v6)))] (pPtr ((cK .i64) x27)) true, Ent.mk [(95, (pPtr ((cK .i64) x27)))] (pEq (.int .i64 x27)) true, Ent.mk [(0, (pPtr (cGProblem a_0)))] (pPtr (cGProblem a_0)) true, Ent.mk [(97, (pPtr (cGProblem a_0)))] (pPtr (cGProblem a_0)) true, Ent.mk [(98, (pPtr (cGProblem a_0)))] (pPtr ((cSl 1 (cSl 1 (cK .i64))) a_0.Apart)) true, Ent.mk [(99, (pPtr ((cSl 1 (cSl 1 (cK .i64))) a_0.Apart)))] (pSl 1 (cSl 1 (cK .i64)) a_0.Apart) true, Ent.mk [(4, (pEq (.int .i64 v6)))] (pEq (.int .i64 v6)) true, Ent.mk [(100, (pSl 1 (cSl 1 (cK .i64)) a_0.Apart)), (101, (pEq (.int .i64 v6)))] (pPtr ((cSl 1 (cK .i64)) x28)) true, Ent.mk [(102, (pPtr ((cSl 1 (cK .i64)) x28)))] (pSl 1 (cK .i64) x28) true, Ent.mk [(5, (pEq (.int .i64 v18)))] (pEq (.int .i64 v18)) true, Ent.mk [(103, (pSl 1 (cK .i64) x28)), (104, (pEq (.int .i64 v18)))] (pPtr ((cK .i64) x29)) true, Ent.mk [(105, (pPtr ((cK .i64) x29)))] (pEq (.int .i64 x29)) true, Ent.mk [(96, (pEq (.int .i64 x27))), (106, (pEq (.int .i64 x29)))] (pEq (.bool (x27 != x29))) true, Ent.mk [(86, (pEq (.bool (decide (v18 < v6))))), (107, (pEq (.bool (x27 != x29))))] (pEq (.bool (x27 != x29))) true, Ent.mk [(82, (pEq (.bool (!x23)))), (108, (pEq (.bool (x27 != x29))))] (pEq (.bool (x27 != x29))) true]) (done := []) hD ⟨.inr ⟨(OpJ.w (J_move rfl (Opd.tmp rfl))), ⟨rfl, trivial⟩, rfl, rfl⟩, ⟨.inr ⟨(OpJ.w (J_nilCheck rfl (Opd.tmp rfl))), ⟨rfl, trivial⟩, rfl, rfl⟩, ⟨.inr ⟨(OpJ.w (J_fieldAddr rfl Try.underlying32 rfl sz27 (by decide) (Opd.tmp rfl) rfl)), ⟨rfl, trivial⟩, rfl, rfl⟩, ⟨.inr ⟨(OpJ.w (J_load rfl Try.isAgg27 (Opd.tmp rfl))), ⟨rfl, trivial⟩, rfl, rfl⟩, ⟨.inr ⟨(OpJ.w (J_move rfl (Opd.tmp rfl))), ⟨rfl, trivial⟩, rfl, rfl⟩, ⟨.inr ⟨(OpJ.w (J_idx rfl Try.underlying27 sz22 (Opd.tmp rfl) (Opd.tmp rfl) hx21)), ⟨rfl, rfl, trivial⟩, rfl, rfl⟩, ⟨.inr ⟨(OpJ.w (J_load rfl Try.isAgg22 (Opd.tmp rfl))), ⟨rfl, trivial⟩, rfl, rfl⟩, ⟨.inr ⟨(OpJ.w (J_move rfl (Opd.tmp rfl))), ⟨rfl, trivial⟩, rfl, rfl⟩, ⟨.inr ⟨(OpJ.w (J_idx rfl Try.underlying22 sz2 (Opd.tmp rfl) (Opd.tmp rfl) hx22)), ⟨rfl, rfl, trivial⟩, rfl, rfl⟩, ⟨.inr ⟨(OpJ.w (J_load rfl Try.isAgg2 (Opd.tmp rfl))), ⟨rfl, trivial⟩, rfl, rfl⟩, ⟨.inr ⟨(OpJ.w (J_call rfl Try.call53 (c_spec_l00In hx23) (Opds.cons (Opd.tmp rfl) (Opds.cons Opd.con (Opds.cons Opd.con Opds.nil))))), ⟨rfl, trivial⟩, rfl, rfl⟩, ⟨.inr ⟨(OpJ.w (J_not rfl (Opd.tmp rfl))), ⟨rfl, trivial⟩, rfl, rfl⟩, ⟨.inr ⟨(OpJ.w (J_move rfl (Opd.tmp rfl))), ⟨rfl, trivial⟩, rfl, rfl⟩, ⟨.inr ⟨(OpJ.w (J_move rfl (Opd.tmp rfl))), ⟨rfl, trivial⟩, (.inl ⟨_, rfl, by simp [hc24]⟩), rfl⟩, ⟨.inr ⟨(OpJ.w (J_move rfl (Opd.tmp rfl))), ⟨rfl, trivial⟩, (.inl ⟨_, rfl, by simp [hc24]⟩), rfl⟩, ⟨.inr ⟨(OpJ.w (J_bin rfl (Opd.tmp rfl) (Opd.tmp rfl) B_lss)), ⟨rfl, rfl, trivial⟩, (.inl ⟨_, rfl, by simp [hc24]⟩), rfl⟩, ⟨.inr ⟨(OpJ.w (J_move rfl (Opd.tmp rfl))), ⟨rfl, trivial⟩, (.inl ⟨_, rfl, by simp [hc24]⟩), rfl⟩, ⟨.inr ⟨(OpJ.w (J_move rfl (Opd.tmp rfl))), ⟨rfl, trivial⟩, (.inl ⟨_, rfl, by simp [hc25]⟩), rfl⟩, ⟨.inr ⟨(OpJ.w (J_nilCheck rfl (Opd.tmp rfl))), ⟨rfl, trivial⟩, (.inl ⟨_, rfl, by simp [hc25]⟩), rfl⟩, ⟨.inr ⟨(OpJ.w (J_fieldAddr rfl Try.underlying32 rfl sz27 (by decide) (Opd.tmp rfl) rfl)), ⟨rfl, trivial⟩, (.inl ⟨_, rfl, by simp [hc25]⟩), rfl⟩, ⟨.inr ⟨(OpJ.w (J_load rfl Try.isAgg27 (Opd.tmp rfl))), ⟨rfl, trivial⟩, (.inl ⟨_, rfl, by simp [hc25]⟩), rfl⟩, ⟨.inr ⟨(OpJ.w (J_move rfl (Opd.tmp rfl))), ⟨rfl, trivial⟩, (.inl ⟨_, rfl, by simp [hc25]⟩), rfl⟩, ⟨.inr ⟨(OpJ.w (J_idx rfl Try.underlying27 sz22 (Opd.tmp rfl) (Opd.tmp rfl) hx26)), ⟨rfl, rfl, trivial⟩, (.inl ⟨_, rfl, by simp [hc25]⟩), rfl⟩, ⟨.inr ⟨(OpJ.w (J_load rfl Try.isAgg22 (Opd.tmp rfl))), ⟨rfl, trivial⟩, (.inl ⟨_, rfl, by simp [hc25]⟩), rfl⟩, ⟨.inr ⟨(OpJ.w (J_move rfl (Opd.tmp rfl))), ⟨rfl, trivial⟩, (.inl ⟨_, rfl, by simp [hc25]⟩), rfl⟩, ⟨.inr ⟨(OpJ.w (J_idx rfl Try.underlying22 sz2 (Opd.tmp rfl) (Opd.tmp rfl) hx27)), ⟨rfl, rfl, trivial⟩, (.inl ⟨_, rfl, by simp [hc25]⟩), rfl⟩, ⟨.inr ⟨(OpJ.w (J_load rfl Try.isAgg2 (Opd.tmp rfl))), ⟨rfl, trivial⟩, (.inl ⟨_, rfl, by simp [hc25]⟩), rfl⟩, ⟨.inr ⟨(OpJ.w (J_move rfl (Opd.tmp rfl))), ⟨rfl, trivial⟩, (.inl ⟨_, rfl, by simp [hc25]⟩), rfl⟩, ⟨.inr ⟨(OpJ.w (J_nilCheck rfl (Opd.tmp rfl))), ⟨rfl, trivial⟩, (.inl ⟨_, rfl, by simp [hc25]⟩), rfl⟩, ⟨.inr ⟨(OpJ.w (J_fieldAddr rfl Try.underlying32 rfl sz27 (by decide) (Opd.tmp rfl) rfl)), ⟨rfl, trivial⟩, (.inl ⟨_, rfl, by simp [hc25]⟩), rfl⟩, ⟨.inr ⟨(OpJ.w (J_load rfl Try.isAgg27 (Opd.tmp rfl))), ⟨rfl, trivial⟩, (.inl ⟨_, rfl, by simp [hc25]⟩), rfl⟩, ⟨.inr ⟨(OpJ.w (J_move rfl (Opd.tmp rfl))), ⟨rfl, trivial⟩, (.inl ⟨_, rfl, by simp [hc25]⟩), rfl⟩, ⟨.inr ⟨(OpJ.w (J_idx rfl Try.underlying27 sz22 (Opd.tmp rfl) (Opd.tmp rfl) hx28)), ⟨rfl, rfl, trivial⟩, (.inl ⟨_, rfl, by simp [hc25]⟩), rfl⟩, ⟨.inr ⟨(OpJ.w (J_load rfl Try.isAgg22 (Opd.tmp rfl))), ⟨rfl, trivial⟩, (.inl ⟨_, rfl, by simp [hc25]⟩), rfl⟩, ⟨.inr ⟨(OpJ.w (J_move rfl (Opd.tmp rfl))), ⟨rfl, trivial⟩, (.inl ⟨_, rfl, by simp [hc25]⟩), rfl⟩, ⟨.inr ⟨(OpJ.w (J_idx rfl Try.underlying22 sz2 (Opd.tmp rfl) (Opd.tmp rfl) hx29)), ⟨rfl, rfl, trivial⟩, (.inl ⟨_, rfl, by simp [hc25]⟩), rfl⟩, ⟨.inr ⟨(OpJ.w (J_load rfl Try.isAgg2 (Opd.tmp rfl))), ⟨rfl, trivial⟩, (.inl ⟨_, rfl, by simp [hc25]⟩), rfl⟩, ⟨.inr ⟨(OpJ.w (J_bin rfl (Opd.tmp rfl) (Opd.tmp rfl) B_neq)), ⟨rfl, rfl, trivial⟩, (.inl ⟨_, rfl, by simp [hc25]⟩), rfl⟩, ⟨.inr ⟨(OpJ.w (J_pick rfl (Opd.tmp rfl) (fun _ => (Opd.tmp rfl)) (fun hf => absurd (hc25.symm.trans hf) (by decide)))), ⟨rfl, rfl, trivial⟩, (.inl ⟨_, rfl, by simp [hc24]⟩), rfl⟩, ⟨.inr ⟨(OpJ.w (J_pick rfl (Opd.tmp rfl) (fun hf => absurd (hc24.symm.trans hf) (by decide)) (fun _ => (Opd.tmp rfl)))), ⟨rfl, rfl, trivial⟩, rfl, rfl⟩, trivial⟩⟩⟩⟩⟩⟩⟩⟩⟩⟩⟩⟩⟩⟩⟩⟩⟩⟩⟩⟩⟩⟩⟩⟩⟩⟩⟩⟩⟩⟩⟩⟩⟩⟩⟩⟩⟩⟩⟩⟩ ?_
                    refine RegL.nil ?_
                    replace h := Option.some.inj h; subst h
                    exact Ct.mid () rfl ⟨rfl, rfl, rfl, rfl, rfl, trivial⟩
                  · replace h := bif_f hc25 h
                    refine Tr.drawD (n := 110) (m := 40) (es := [some (Ent.mk [(0, (pPtr (cGProblem a_0)))] (pPtr (cGProblem a_0)) true), some (Ent.mk [(70, (pPtr (cGProblem a_0)))] (pPtr (cGProblem a_0)) true), some (Ent.mk [(71, (pPtr (cGProblem a_0)))] (pPtr ((cSl 1 (cSl 1 (cK .i64))) a_0.Apart)) true), some (Ent.mk [(72, (pPtr ((cSl 1 (cSl 1 (cK .i64))) a_0.Apart)))] (pSl 1 (cSl 1 (cK .i64)) a_0.Apart) true), some (Ent.mk [(4, (pEq (.int .i64 v6)))] (pEq (.int .i64 v6)) true), some (Ent.mk [(73, (pSl 1 (cSl 1 (cK .i64)) a_0.Apart)), (74, (pEq (.int .i64 v6)))] (pPtr ((cSl 1 (cK .i64)) x21)) true), some (Ent.mk [(75, (pPtr ((cSl 1 (cK .i64)) x21)))] (pSl 1 (cK .i64) x21) true), some (Ent.mk [(5, (pEq (.int .i64 v18)))] (pEq (.int .i64 v18)) true), some (Ent.mk [(76, (pSl 1 (cK .i64) x21)), (77, (pEq (.int .i64 v18)))] (pPtr ((cK .i64) x22)) true), some (Ent.mk [(78, (pPtr ((cK .i64) x22)))] (pEq (.int .i64 x22)) true), some (Ent.mk [(79, (pEq (.int .i64 x22)))] (pEq (.bool x23)) true), some (Ent.mk [(80, (pEq (.bool x23)))] (pEq (.bool (!x23))) true), some (Ent.mk [(81, (pEq (.bool (!x23))))] (pEq (.bool (!x23))) true), some (Ent.mk [(5, (pEq (.int .i64 v18)))] (pEq (.int .i64 v18)) true), some (Ent.mk [(4, (pEq (.int .i64 v6)))] (pEq (.int .i64 v6)) true), some (Ent.mk [(83, (pEq (.int .i64 v18))), (84, (pEq (.int .i64 v6)))] (pEq (.bool (decide (v18 < v6)))) true), some (Ent.mk [(85, (pEq (.bool (decide (v18 < v6)))))] (pEq (.bool (decide (v18 < v6)))) true), some (Ent.mk [(0, (pPtr (cGProblem a_0)))] (pEq undef) false), some (Ent.mk [(87, (pEq undef))] (pEq undef) false), some (Ent.mk [(88, (pEq undef))] (pEq undef) false), some (Ent.mk [(89, (pEq undef))] (pEq undef) false), some (Ent.mk [(5, (pEq (.int .i64 v18)))] (pEq undef) false), some (Ent.mk [(90, (pEq undef)), (91, (pEq undef))] (pEq undef) false), some (Ent.mk [(92, (pEq undef))] (pEq undef) false), some (Ent.mk [(4, (pEq (.int .i64 v6)))] (pEq undef) false), some (Ent.mk [(93, (pEq undef)), (94, (pEq undef))] (pEq undef) false), some (Ent.mk [(95, (pEq undef))] (pEq undef) false), some (Ent.mk [(0, (pPtr (cGProblem a_0)))] (pEq undef) false), some (Ent.mk [(97, (pEq undef))] (pEq undef) false), some (Ent.mk [(98, (pEq undef))] (pEq undef) false), some (Ent.mk [(99, (pEq undef))] (pEq undef) false), some (Ent.mk [(4, (pEq (.int .i64 v6)))] (pEq undef) false), some (Ent.mk [(100, (pEq undef)), (101, (pEq undef))] (pEq undef) false), some (Ent.mk [(102, (pEq undef))] (pEq undef) false), some (Ent.mk [(5, (pEq (.int .i64 v18)))] (pEq undef) false), some (Ent.mk [(103, (pEq undef)), (104, (pEq undef))] (pEq undef) false), some (Ent.mk [(105, (pEq undef))] (pEq undef) false), some (Ent.mk [(96, (pEq undef)), (106, (pEq undef))] (pEq undef) false), some (Ent.mk [(86, (pEq (.bool (decide (v18 < v6))))), (107, (pEq undef))] (pEq (.bool false)) true), some (Ent.mk [(82, (pEq (.bool (!x23)))), (108, (pEq (.bool false)))] (pEq (.bool false)) true)]) (rd := [[0], [70], [71], [72], [4], [73, 74], [75], [5], [76, 77], [78], [79], [80], [81], [5], [4], [83, 84], [85], [0], [87], [88], [89], [5], [90, 91], [92], [4], [93, 94], [95], [0], [97], [98], [99], [4], [100, 101], [102], [5], [103, 104], [105], [96, 106], [86, 107], [82, 108]]) rfl hmix (by kernel_rfl) fun hD => ?_
                    refine RD.fin (es := [Ent.mk [(0, (pPtr (cGProblem a_0)))] (pPtr (cGProblem a_0)) true, Ent.mk [(70, (pPtr (cGProblem a_0)))] (pPtr (cGProblem a_0)) true, Ent.mk [(71, (pPtr (cGProblem a_0)))] (pPtr ((cSl 1 (cSl 1 (cK .i64))) a_0.Apart)) true, Ent.mk [(72, (pPtr ((cSl 1 (cSl 1 (cK .i64))) a_0.Apart)))] (pSl 1 (cSl 1 (cK .i64)) a_0.Apart) true, Ent.mk [(4, (pEq (.int .i64 v6)))] (pEq (.int .i64 v6)) true, Ent.mk [(73, (pSl 1 (cSl 1 (cK .i64)) a_0.Apart)), (74, (pEq (.int .i64 v6)))] (pPtr ((cSl 1 (cK .i64)) x21)) true, Ent.mk [(75, (pPtr ((cSl 1 (cK .i64)) x21)))] (pSl 1 (cK .i64) x21) true, Ent.mk [(5, (pEq (.int .i64 v18)))] (pEq (.int .i64 v18)) true, Ent.mk [(76, (pSl 1 (cK .i64) x21)), (77, (pEq (.int .i64 v18)))] (pPtr ((cK .i64) x22)) true, Ent.mk [(78, (pPtr ((cK .i64) x22)))] (pEq (.int .i64 x22)) true, Ent.mk [(79, (pEq (.int .i64 x22)))] (pEq (.bool x23)) true, Ent.mk [(80, (pEq (.bool x23)))] (pEq (.bool (!x23))) true, Ent.mk [(81, (pEq (.bool (!x23))))] (pEq (.bool (!x23))) true, Ent.mk [(5, (pEq (.int .i64 v18)))] (pEq (.int .i64 v18)) true, Ent.mk [(4, (pEq (.int .i64 v6)))] (pEq (.int .i64 v6)) true, Ent.mk [(83, (pEq (.int .i64 v18))), (84, (pEq (.int .i64 v6)))] (pEq (.bool (decide (v18 < v6)))) true, Ent.mk [(85, (pEq (.bool (decide (v18 < v6)))))] (pEq (.bool (decide (v18 < v6)))) true, Ent.mk [(0, (pPtr (cGProblem a_0)))] (pEq undef) false, Ent.mk [(87, (pEq undef))] (pEq undef) false, Ent.mk [(88, (pEq undef))] (pEq undef) false, Ent.mk [(89, (pEq undef))] (pEq undef) false, Ent.mk [(5, (pEq (.int .i64 v18)))] (pEq undef) false, Ent.mk [(90, (pEq undef)), (91, (pEq undef))] (pEq undef) false, Ent.mk [(92, (pEq undef))] (pEq undef) false, Ent.mk [(4, (pEq (.int .i64 v6)))] (pEq undef) false, Ent.mk [(93, (pEq undef)), (94, (pEq undef))] (pEq undef) false, Ent.mk [(95, (pEq undef))] (pEq undef) false, Ent.mk [(0, (pPtr (cGProblem a_0)))] (pEq undef) false, Ent.mk [(97, (pEq undef))] (pEq undef) false, Ent.mk [(98, (pEq undef))] (pEq undef) false, Ent.mk [(99, (pEq undef))] (pEq undef) false, Ent.mk [(4, (pEq (.int .i64 v6)))] (pEq undef) false, Ent.mk [(100, (pEq undef)), (101, (pEq undef))] (pEq undef) false, Ent.mk [(102, (pEq undef))] (pEq undef) false, Ent.mk [(5, (pEq (.int .i64 v18)))] (pEq undef) false, Ent.mk [(103, (pEq undef)), (104, (pEq undef))] (pEq undef) false, Ent.mk [(105, (pEq undef))] (pEq undef) false, Ent.mk [(96, (pEq undef)), (106, (pEq undef))] (pEq undef) false, Ent.mk [(86, (pEq (.bool (decide (v18 < v6))))), (107, (pEq undef))] (pEq (.bool false)) true, Ent.mk [(82, (pEq (.bool (!x23)))), (108, (pEq (.bool false)))] (pEq (.bool false)) true]) (done := []) hD ⟨.inr ⟨(OpJ.w (J_move rfl (Opd.tmp rfl))), ⟨rfl, trivial⟩, rfl, rfl⟩, ⟨.inr ⟨(OpJ.w (J_nilCheck rfl (Opd.tmp rfl))), ⟨rfl, trivial⟩, rfl, rfl⟩, ⟨.inr ⟨(OpJ.w (J_fieldAddr rfl Try.underlying32 rfl sz27 (by decide) (Opd.tmp rfl) rfl)), ⟨rfl, trivial⟩, rfl, rfl⟩, ⟨.inr ⟨(OpJ.w (J_load rfl Try.isAgg27 (Opd.tmp rfl))), ⟨rfl, trivial⟩, rfl, rfl⟩, ⟨.inr ⟨(OpJ.w (J_move rfl (Opd.tmp rfl))), ⟨rfl, trivial⟩, rfl, rfl⟩, ⟨.inr ⟨(OpJ.w (J_idx rfl Try.underlying27 sz22 (Opd.tmp rfl) (Opd.tmp rfl) hx21)), ⟨rfl, rfl, trivial⟩, rfl, rfl⟩, ⟨.inr ⟨(OpJ.w (J_load rfl Try.isAgg22 (Opd.tmp rfl))), ⟨rfl, trivial⟩, rfl, rfl⟩, ⟨.inr ⟨(OpJ.w (J_move rfl (Opd.tmp rfl))), ⟨rfl, trivial⟩, rfl, rfl⟩, ⟨.inr ⟨(OpJ.w (J_idx rfl Try.underlying22 sz2 (Opd.tmp rfl) (Opd.tmp rfl) hx22)), ⟨rfl, rfl, trivial⟩, rfl, rfl⟩, ⟨.inr ⟨(OpJ.w (J_load rfl Try.isAgg2 (Opd.tmp rfl))), ⟨rfl, trivial⟩, rfl, rfl⟩, ⟨.inr ⟨(OpJ.w (J_call rfl Try.call53 (c_spec_l00In hx23) (Opds.cons (Opd.tmp rfl) (Opds.cons Opd.con (Opds.cons Opd.con Opds.nil))))), ⟨rfl, trivial⟩, rfl, rfl⟩, ⟨.inr ⟨(OpJ.w (J_not rfl (Opd.tmp rfl))), ⟨rfl, trivial⟩, rfl, rfl⟩, ⟨.inr ⟨(OpJ.w (J_move rfl (Opd.tmp rfl))), ⟨rfl, trivial⟩, rfl, rfl⟩, ⟨.inr ⟨(OpJ.w (J_move rfl (Opd.tmp rfl))), ⟨rfl, trivial⟩, (.inl ⟨_, rfl, by simp [hc24]⟩), rfl⟩, ⟨.inr ⟨(OpJ.w (J_move rfl (Opd.tmp rfl))), ⟨rfl, trivial⟩, (.inl ⟨_, rfl, by simp [hc24]⟩), rfl⟩, ⟨.inr ⟨(OpJ.w (J_bin rfl (Opd.tmp rfl) (Opd.tmp rfl) B_lss)), ⟨rfl, rfl, trivial⟩, (.inl ⟨_, rfl, by simp [hc24]⟩), rfl⟩, ⟨.inr ⟨(OpJ.w (J_move rfl (Opd.tmp rfl))), ⟨rfl, trivial⟩, (.inl ⟨_, rfl, by simp [hc24]⟩), rfl⟩, ⟨.inr ⟨rfl, ⟨rfl, trivial⟩, (.inl ⟨_, rfl, by simp [hc25]⟩), rfl⟩, ⟨.inr ⟨rfl, ⟨rfl, trivial⟩, (.inl ⟨_, rfl, by simp [hc25]⟩), rfl⟩, ⟨.inr ⟨rfl, ⟨rfl, trivial⟩, (.inl ⟨_, rfl, by simp [hc25]⟩), rfl⟩, ⟨.inr ⟨rfl, ⟨rfl, trivial⟩, (.inl ⟨_, rfl, by simp [hc25]⟩), rfl⟩, ⟨.inr ⟨rfl, ⟨rfl, trivial⟩, (.inl ⟨_, rfl, by simp [hc25]⟩), rfl⟩, ⟨.inr ⟨rfl, ⟨rfl, rfl, trivial⟩, (.inl ⟨_, rfl, by simp [hc25]⟩), rfl⟩, ⟨.inr ⟨rfl, ⟨rfl, trivial⟩, (.inl ⟨_, rfl, by simp [hc25]⟩), rfl⟩, ⟨.inr ⟨rfl, ⟨rfl, trivial⟩, (.inl ⟨_, rfl, by simp [hc25]⟩), rfl⟩, ⟨.inr ⟨rfl, ⟨rfl, rfl, trivial⟩, (.inl ⟨_, rfl, by simp [hc25]⟩), rfl⟩, ⟨.inr ⟨rfl, ⟨rfl, trivial⟩, (.inl ⟨_, rfl, by simp [hc25]⟩), rfl⟩, ⟨.inr ⟨rfl, ⟨rfl, trivial⟩, (.inl ⟨_, rfl, by simp [hc25]⟩), rfl⟩, ⟨.inr ⟨rfl, ⟨rfl, trivial⟩, (.inl ⟨_, rfl, by simp [hc25]⟩), rfl⟩, ⟨.inr ⟨rfl, ⟨rfl, trivial⟩, (.inl ⟨_, rfl, by simp [hc25]⟩), rfl⟩, ⟨.inr ⟨rfl, ⟨rfl, trivial⟩, (.inl ⟨_, rfl, by simp [hc25]⟩), rfl⟩, ⟨.inr ⟨rfl, ⟨rfl, trivial⟩, (.inl ⟨_, rfl, by simp [hc25]⟩), rfl⟩, ⟨.inr ⟨rfl, ⟨rfl, rfl, trivial⟩, (.inl ⟨_, rfl, by simp [hc25]⟩), rfl⟩, ⟨.inr ⟨rfl, ⟨rfl, trivial⟩, (.inl ⟨_, rfl, by simp [hc25]⟩), rfl⟩, ⟨.inr ⟨rfl, ⟨rfl, trivial⟩, (.inl ⟨_, rfl, by simp [hc25]⟩), rfl⟩, ⟨.inr ⟨rfl, ⟨rfl, rfl, trivial⟩, (.inl ⟨_, rfl, by simp [hc25]⟩), rfl⟩, ⟨.inr ⟨rfl, ⟨rfl, trivial⟩, (.inl ⟨_, rfl, by simp [hc25]⟩), rfl⟩, ⟨.inr ⟨rfl, ⟨rfl, rfl, trivial⟩, (.inl ⟨_, rfl, by simp [hc25]⟩), rfl⟩, ⟨.inr ⟨(OpJ.w (J_pick rfl (Opd.tmp rfl) (fun hf => absurd (hc25.symm.trans hf) (by decide)) (fun _ => Opd.con))), ⟨rfl, rfl, trivial⟩, (.inl ⟨_, rfl, by simp [hc24]⟩), rfl⟩, ⟨.inr ⟨(OpJ.w (J_pick rfl (Opd.tmp rfl) (fun hf => absurd (hc24.symm.trans hf) (by decide)) (fun _ => (Opd.tmp rfl)))), ⟨rfl, rfl, trivial⟩, rfl, rfl⟩, trivial⟩⟩⟩⟩⟩⟩⟩⟩⟩⟩⟩⟩⟩⟩⟩⟩⟩⟩⟩⟩⟩⟩⟩⟩⟩⟩⟩⟩⟩⟩⟩⟩⟩⟩⟩⟩⟩⟩⟩⟩ ?_
                    refine RegL.nil ?_
                    replace h := Option.some.inj h; subst h
                    exact Ct.mid () rfl ⟨rfl, rfl, rfl, rfl, rfl, trivial⟩
              · clear hx20
                refine Ct.then_tr ?_
                refine Tr.weak (Γ' := [(0, (pPtr (cGProblem a_0))), (3, (pEq (.int .i64 (a_0.Domains.length : Int)))), (4, (pEq (.int .i64 v6))), (5, (pEq (.int .i64 v18))), (109, (pEq (.bool x20)))]) ⟨rfl, rfl, rfl, rfl, rfl, trivial⟩ ?_
                refine Tr.cond (Opd.tmp rfl) (fun hc => ?_) (fun hc => ?_)
                · replace h := bif_t hc h
                  refine Tr.seq ?_
                  refine Tr.region ?_
                  refine RegL.pure (p := (pEq (.bool false))) rfl rfl rfl (J_assign rfl Opd.con) ?_
                  refine RegL.nil ?_
                  refine Ct.then_tr ?_
                  refine Tr.weak (Γ' := [(2, (pEq (.bool false)))]) ⟨rfl, trivial⟩ ?_
                  refine Tr.ret ?_
                  refine Ct.blk_ret ?_
                  refine Ct.then_ret ?_
                  replace h := map_some h; obtain ⟨r1, h, rfl⟩ := h
                  refine Ct.out_ret fun e => ?_
                  subst e
                  refine Ct.blk_ret ?_
                  refine Ct.blk_ret ?_
                  refine Ct.then_ret ?_
                  replace h := map_some h; obtain ⟨r1, h, rfl⟩ := h
                  refine Ct.out_ret fun e => ?_
                  subst e
                  refine Ct.blk_ret ?_
                  refine Ct.then_ret ?_
                  replace h := Option.some.inj h; subst h
                  exact Ct.retH1 (Ωx := []) () rfl (RvOk.tmp rfl) rfl
                · replace h := bif_f hc h
                  refine Tr.skip ?_
                  refine Ct.blk_normal ?_
                  refine Ct.then_tr ?_
                  refine Tr.weak (Γ' := [(0, (pPtr (cGProblem a_0))), (3, (pEq (.int .i64 (a_0.Domains.length : Int)))), (4, (pEq (.int .i64 v6))), (5, (pEq (.int .i64 v18)))]) ⟨rfl, rfl, rfl, rfl, trivial⟩ ?_
                  refine Tr.region ?_
                  refine RegL.pure (p := (pEq (.int .i64 v18))) rfl rfl rfl (J_move rfl (Opd.tmp rfl)) ?_
                  refine RegL.pure (p := (pEq (.int .i64 (w64 (v18 + (1 : Int)))))) rfl rfl rfl (J_bin rfl (Opd.tmp rfl) Opd.con B_add) ?_
                  refine RegL.pure (p := (pEq (.int .i64 (w64 (v18 + (1 : Int)))))) rfl rfl rfl (J_assign rfl (Opd.tmp rfl)) ?_
                  refine RegL.nil ?_
                  replace h := Option.some.inj h; subst h
                  exact Ct.again () rfl ⟨rfl, rfl, rfl, rfl, trivial⟩
            · replace h := bif_f hc h
              refine Tr.exit ?_
              refine Ct.then_exit ?_
              replace h := map_some h; obtain ⟨r1, h, rfl⟩ := h
              refine Ct.out_exit fun e => ?_
              subst e
              refine Ct.blk_exit ?_
              refine Ct.blk_normal ?_
              refine Ct.then_tr ?_
              refine Tr.weak (Γ' := [(0, (pPtr (cGProblem a_0))), (3, (pEq (.int .i64 (a_0.Domains.length : Int)))), (4, (pEq (.int .i64 v6)))]) ⟨rfl, rfl, rfl, trivial⟩ ?_
              refine Tr.region ?_
              refine RegL.pure (p := (pEq (.int .i64 v6))) rfl rfl rfl (J_move rfl (Opd.tmp rfl)) ?_
              refine RegL.pure (p := (pEq (.int .i64 (w64 (v6 + (1 : Int)))))) rfl rfl rfl (J_bin rfl (Opd.tmp rfl) Opd.con B_add) ?_
              refine RegL.pure (p := (pEq (.int .i64 (w64 (v6 + (1 : Int)))))) rfl rfl rfl (J_assign rfl (Opd.tmp rfl)) ?_
              refine RegL.nil ?_
              replace h := Option.some.inj h; subst h
              exact Ct.again () rfl ⟨rfl, rfl, rfl, trivial⟩
      · replace h := bif_f hc h
        refine Tr.exit ?_
        refine Ct.then_exit ?_
        replace h := map_some h; obtain ⟨r1, h, rfl⟩ := h
        refine Ct.out_exit fun e => ?_
        subst e
        refine Ct.blk_exit ?_
        refine Ct.then_tr ?_
        refine Tr.weak (Γ' := []) trivial ?_
        refine Tr.seq ?_
        refine Tr.region ?_
        refine RegL.pure (p := (pEq (.bool true))) rfl rfl rfl (J_assign rfl Opd.con) ?_
        refine RegL.nil ?_
        refine Ct.then_tr ?_
        refine Tr.weak (Γ' := [(2, (pEq (.bool true)))]) ⟨rfl, trivial⟩ ?_
        refine Tr.ret ?_
        replace h := Option.some.inj h; subst h
        exact Ct.retH1 (Ωx := []) () rfl (RvOk.tmp rfl) rfl

theorem o_spec_l00Own {list_0 : (List Int)}  {r : (List Int)} (h : m_spec_l00Own list_0 = some r) : CallH Try.prog 75 [(pSl 1 (cK .i64) list_0)] [] (fun g : G3 => (pEq (.slice g.1 g.2.1 g.2.2))) (fun g : G3 => [oSl 2 1 (cK .i64) g.1 g.2.1 g.2.2 r]) := by
  unfold m_spec_l00Own at h
  refine CallH.enter Try.func75 rfl Try.ntmps75 rfl fun W I0 H => ?_
  refine Tr.weak (Γ' := [(0, (pSl 1 (cK .i64) list_0))]) ⟨rfl, trivial⟩ ?_
  refine Tr.seq ?_
  refine Tr.region ?_
  refine RegL.pure (p := (pEq (.slice none 0 0))) rfl rfl rfl (J_assign rfl Opd.con) ?_
  refine RegL.nil ?_
  refine Ct.then_tr ?_
  refine Tr.weak (Γ' := [(0, (pSl 1 (cK .i64) list_0))]) ⟨rfl, trivial⟩ ?_
  refine Tr.seq ?_
  refine Tr.region ?_
  refine RegL.step (γ := Option Addr) (p := fun a => pEq (.slice a 0 0)) (Ω' := fun a => [oSl 2 1 (cK .i64) a 0 0 ([] : (List Int))]) rfl rfl rfl (M_buildSlice (qss := []) rfl Try.underlying22 el2 rfl Parts.nil rfl rfl) fun o2 => ?_
  refine RegL.pure (p := (pSl 1 (cK .i64) list_0)) rfl rfl rfl (J_move rfl (Opd.tmp rfl)) ?_
  replace h := bind_some h; obtain ⟨x3, hx3, h⟩ := h
  refine RegL.step (γ := Option Addr × Nat) (p := fun g => pEq (.slice g.1 x3.length g.2)) (Ω' := fun g => [oSl 2 1 (cK .i64) g.1 x3.length g.2 x3]) rfl rfl rfl (M_appendI rfl Try.underlying22 el2 (Opd.tmp rfl) (Opd.tmp rfl) hx3) fun g4 => ?_
  refine RegL.pure (p := (pEq (.slice g4.1 x3.length g4.2))) rfl rfl rfl (J_assign rfl (Opd.tmp rfl)) ?_
  refine RegL.nil ?_
  refine Ct.then_tr ?_
  refine Tr.weak (Γ' := [(2, (pEq (.slice g4.1 x3.length g4.2)))]) ⟨rfl, trivial⟩ ?_
  refine Tr.ret ?_
  replace h := Option.some.inj h; subst h
  exact Ct.retH1 (Ωx := []) (g4.1, x3.length, g4.2) rfl (RvOk.tmp rfl) rfl

theorem c_spec_l00Own {list_0 : (List Int)} {r : (List Int)} (h : m_spec_l00Own list_0 = some r) : CallJ Try.prog 75 [(pSl 1 (cK .i64) list_0)] (pSl 1 (cK .i64) r) :=
  CallH.frozen (o_spec_l00Own h) (fun g => (Conv.row 0 (fun _ => rfl) rfl))

theorem o_spec_PartProblem {a_0 : GProblem} {a_1 : (List Int)}  {r : (GProblem × Int)} (h : m_spec_PartProblem a_0 a_1 = some r) : CallH Try.prog 36 [(pAgg (cGProblem a_0)), (pSl 1 (cK .i64) a_1)] [] (fun g : ((G3 × List G3) × (G3 × List G3)) => (pTup [(pAgg [(pEq (.slice g.1.1.1 g.1.1.2.1 g.1.1.2.2)), (pEq (.slice g.2.1.1 g.2.1.2.1 g.2.1.2.2))]), (pEq (.int .i64 r.2))])) (fun g : ((G3 × List G3) × (G3 × List G3)) => [oSS 22 2 1 (cK .i64) g.1.1.1 g.1.1.2.1 g.1.1.2.2 g.1.2 r.1.Domains, oSS 22 2 1 (cK .i64) g.2.1.1 g.2.1.2.1 g.2.1.2.2 g.2.2 r.1.Apart]) := by
  unfold m_spec_PartProblem at h
  refine CallH.enter Try.func36 rfl Try.ntmps36 rfl fun W I0 H => ?_
  refine Tr.weak (Γ' := [(0, (pAgg (cGProblem a_0))), (1, (pSl 1 (cK .i64) a_1))]) ⟨rfl, rfl, trivial⟩ ?_
  refine Tr.seq ?_
  refine Tr.region ?_
  refine RegL.pure (p := (pPtr (cGProblem a_0))) rfl rfl rfl (J_boxA rfl (Opd.tmp rfl)) ?_
  refine RegL.step (γ := Nat) (p := fun b => pEq (.pointer (some ⟨b, 0, none⟩))) (Ω' := fun b => [oBlk b [(pEq (.slice none 0 0)), (pEq (.slice none 0 0))]]) rfl rfl rfl (M_alloc rfl zero32) fun b1 => ?_
  refine RegL.pure (p := (pEq (.int .i64 (0 : Int)))) rfl rfl rfl (J_assign rfl Opd.con) ?_
  refine RegL.nil ?_
  refine Ct.then_tr ?_
  refine Tr.weak (Γ' := [(1, (pSl 1 (cK .i64) a_1)), (2, (pPtr (cGProblem a_0))), (4, (pEq (.pointer (some ⟨b1, 0, none⟩))))]) ⟨rfl, rfl, rfl, trivial⟩ ?_
  refine Tr.seq ?_
  refine Tr.seq ?_
  refine Tr.region ?_
  replace h := bind_some h; obtain ⟨x2, hx2, h⟩ := h
  refine RegL.pure (p := (pEq (.bool x2))) rfl rfl rfl (J_call rfl Try.call62 (c_spec_l17Ok hx2) (Opds.cons (Opd.tmp rfl) Opds.nil)) ?_
  refine RegL.pure (p := (pEq (.bool (!x2)))) rfl rfl rfl (J_not rfl (Opd.tmp rfl)) ?_
  refine RegL.nil ?_
  refine Ct.then_tr ?_
  refine Tr.weak (Γ' := [(1, (pSl 1 (cK .i64) a_1)), (2, (pPtr (cGProblem a_0))), (4, (pEq (.pointer (some ⟨b1, 0, none⟩)))), (11, (pEq (.bool (!x2))))]) ⟨rfl, rfl, rfl, rfl, trivial⟩ ?_
  refine Tr.cond (Opd.tmp rfl) (fun hc => ?_) (fun hc => ?_)
  · replace h := bif_t hc h
    refine Tr.seq ?_
    refine Tr.region ?_
    refine RegL.pure (p := (pAgg [(pEq (.slice none 0 0)), (pEq (.slice none 0 0))])) rfl rfl rfl (J_build (qss := []) rfl bl32 bz32o Parts.nil rfl) ?_
    refine RegL.stepN (γ := Unit) (p := fun _ => pAny) (Ω' := fun _ => [oBlk b1 [(pEq (.slice none 0 0)), (pEq (.slice none 0 0))]]) rfl rfl (M_storeA rfl sz32 (Opd.tmp rfl) (Opd.tmp rfl) (fun _ _ _ h => ones_of ((OneCs.cons OneC.slice (OneCs.cons OneC.slice OneCs.nil))) h) rfl rfl) fun g3 => ?_
    refine RegL.pure (p := (pEq (.int .i64 (1 : Int)))) rfl rfl rfl (J_assign rfl Opd.con) ?_
    refine RegL.nil ?_
    refine Ct.then_tr ?_
    refine Tr.weak (Γ' := [(4, (pEq (.pointer (some ⟨b1, 0, none⟩)))), (5, (pEq (.int .i64 (1 : Int))))]) ⟨rfl, rfl, trivial⟩ ?_
    refine Tr.ret ?_
    refine Ct.then_ret ?_
    refine Ct.re (Ω2 := [oSS 22 2 1 (cK .i64) none 0 0 [] ([] : (List (List Int))), oBlk b1 [(pEq (.slice none 0 0)), (pEq (.slice none 0 0))]]) (fun h => nest_nil h) ?_
    refine Ct.re (Ω2 := [oSS 22 2 1 (cK .i64) none 0 0 [] ([] : (List (List Int))), oSS 22 2 1 (cK .i64) none 0 0 [] ([] : (List (List Int))), oBlk b1 [(pEq (.slice none 0 0)), (pEq (.slice none 0 0))]]) (fun h => nest_nil h) ?_
    refine Ct.re (Ω2 := [oSS 22 2 1 (cK .i64) none 0 0 [] ([] : (List (List Int))), oSS 22 2 1 (cK .i64) none 0 0 [] ([] : (List (List Int))), oBlk b1 [(pEq (.slice none 0 0)), (pEq (.slice none 0 0))]]) (fun h => SatO.pick 1 h) ?_
    refine Ct.re (Ω2 := [oBlk b1 [(pEq (.slice none 0 0)), (pEq (.slice none 0 0))], oSS 22 2 1 (cK .i64) none 0 0 [] ([] : (List (List Int))), oSS 22 2 1 (cK .i64) none 0 0 [] ([] : (List (List Int)))]) (fun h => SatO.pick 2 h) ?_
    replace h := Option.some.inj h; subst h
    exact Ct.retH2 (Ωx := [oBlk b1 [(pEq (.slice none 0 0)), (pEq (.slice none 0 0))]]) (((none, 0, 0), []), ((none, 0, 0), [])) rfl (RvOk.cellA (i := 0) Try.isAgg32 sz32 rfl rfl rfl) (RvOk.tmp rfl) rfl rfl
  · replace h := bif_f hc h
    refine Tr.skip ?_
    refine Ct.then_tr ?_
    refine Tr.weak (Γ' := [(1, (pSl 1 (cK .i64) a_1)), (2, (pPtr (cGProblem a_0))), (4, (pEq (.pointer (some ⟨b1, 0, none⟩))))]) ⟨rfl, rfl, rfl, trivial⟩ ?_
    refine Tr.seq ?_
    refine Tr.seq ?_
    replace h := bind_some h; obtain ⟨x6, hx6, h⟩ := h
    refine Tr.cut (γ := Unit) (Γm := fun g => [(1, (pSl 1 (cK .i64) a_1)), (2, (pPtr (cGProblem a_0))), (4, (pEq (.pointer (some ⟨b1, 0, none⟩)))), (24, (pEq (.bool x6)))]) (Ωm := fun g => [oBlk b1 [(pEq (.slice none 0 0)), (pEq (.slice none 0 0))]]) ?_ (fun g9 => ?_)
    · clear h
      have h := hx6
      clear hx6
      refine Tr.region ?_
      refine RegL.pure (p := (pSl 1 (cK .i64) a_1)) rfl rfl rfl (J_move rfl (Opd.tmp rfl)) ?_
      refine RegL.pure (p := (pPtr ((cSl 1 (cSl 1 (cK .i64))) a_0.Domains))) rfl rfl rfl (J_fieldAddr rfl Try.underlying32 rfl sz27 (by decide) (Opd.tmp rfl) rfl) ?_
      refine RegL.pure (p := (pSl 1 (cSl 1 (cK .i64)) a_0.Domains)) rfl rfl rfl (J_load rfl Try.isAgg27 (Opd.tmp rfl)) ?_
      refine RegL.pure (p := (pEq (.int .i64 (a_0.Domains.length : Int)))) rfl rfl rfl (J_len rfl Try.underlying27 (Opd.tmp rfl) rfl) ?_
      refine RegL.pure (p := (pEq (.int .i64 (w64 ((a_0.Domains.length : Int) - (1 : Int)))))) rfl rfl rfl (J_bin rfl (Opd.tmp rfl) Opd.con B_sub) ?_
      replace h := bind_some h; obtain ⟨x7, hx7, h⟩ := h
      refine RegL.pure (p := (pEq (.bool x7))) rfl rfl rfl (J_call rfl Try.call74 (c_spec_l00Rises hx7) (Opds.cons (Opd.tmp rfl) (Opds.cons Opd.con (Opds.cons (Opd.tmp rfl) Opds.nil)))) ?_
      refine RegL.pure (p := (pEq (.bool (!x7)))) rfl rfl rfl (J_not rfl (Opd.tmp rfl)) ?_
      refine RegL.pure (p := (pEq (.bool (!x7)))) rfl rfl rfl (J_move rfl (Opd.tmp rfl)) ?_
      rcases Bool.eq_false_or_eq_true (!x7) with hc8 | hc8
      · replace h := bif_t hc8 h
        refine RegL.skipG rfl rfl rfl hc8 rfl rfl ?_
        refine RegL.skipG rfl rfl rfl hc8 rfl rfl ?_
        refine RegL.skipG rfl rfl rfl hc8 rfl rfl ?_
        refine RegL.pure (p := (pEq (.bool true))) rfl rfl rfl (J_pick rfl (Opd.tmp rfl) (fun _ => Opd.con) (fun hf => absurd (hc8.symm.trans hf) (by decide))) ?_
        refine RegL.nil ?_
        replace h := Option.some.inj h; subst h
        exact Ct.mid () rfl ⟨rfl, rfl, rfl, rfl, trivial⟩
      · replace h := bif_f hc8 h
        refine RegL.pureG (p := (pSl 1 (cK .i64) a_1)) rfl rfl rfl hc8 rfl rfl (J_move rfl (Opd.tmp rfl)) ?_
        refine RegL.pureG (p := (pEq (.int .i64 (a_1.length : Int)))) rfl rfl rfl hc8 rfl rfl (J_len rfl Try.underlying22 (Opd.tmp rfl) rfl) ?_
        refine RegL.pureG (p := (pEq (.bool ((a_1.length : Int) == (0 : Int))))) rfl rfl rfl hc8 rfl rfl (J_bin rfl (Opd.tmp rfl) Opd.con B_eql) ?_
        refine RegL.pure (p := (pEq (.bool ((a_1.length : Int) == (0 : Int))))) rfl rfl rfl (J_pick rfl (Opd.tmp rfl) (fun hf => absurd (hc8.symm.trans hf) (by decide)) (fun _ => (Opd.tmp rfl))) ?_
        refine RegL.nil ?_
        replace h := Option.some.inj h; subst h
        exact Ct.mid () rfl ⟨rfl, rfl, rfl, rfl, trivial⟩
    · clear hx6
      refine Ct.then_tr ?_
      refine Tr.weak (Γ' := [(1, (pSl 1 (cK .i64) a_1)), (2, (pPtr (cGProblem a_0))), (4, (pEq (.pointer (some ⟨b1, 0, none⟩)))), (24, (pEq (.bool x6)))]) ⟨rfl, rfl, rfl, rfl, trivial⟩ ?_
      refine Tr.cond (Opd.tmp rfl) (fun hc => ?_) (fun hc => ?_)
      · replace h := bif_t hc h
        refine Tr.seq ?_
        refine Tr.region ?_
        refine RegL.pure (p := (pAgg [(pEq (.slice none 0 0)), (pEq (.slice none 0 0))])) rfl rfl rfl (J_build (qss := []) rfl bl32 bz32o Parts.nil rfl) ?_
        refine RegL.stepN (γ := Unit) (p := fun _ => pAny) (Ω' := fun _ => [oBlk b1 [(pEq (.slice none 0 0)), (pEq (.slice none 0 0))]]) rfl rfl (M_storeA rfl sz32 (Opd.tmp rfl) (Opd.tmp rfl) (fun _ _ _ h => ones_of ((OneCs.cons OneC.slice (OneCs.cons OneC.slice OneCs.nil))) h) rfl rfl) fun g10 => ?_
        refine RegL.pure (p := (pEq (.int .i64 (2 : Int)))) rfl rfl rfl (J_assign rfl Opd.con) ?_
        refine RegL.nil ?_
        refine Ct.then_tr ?_
        refine Tr.weak (Γ' := [(4, (pEq (.pointer (some ⟨b1, 0, none⟩)))), (5, (pEq (.int .i64 (2 : Int))))]) ⟨rfl, rfl, trivial⟩ ?_
        refine Tr.ret ?_
        refine Ct.then_ret ?_
        refine Ct.re (Ω2 := [oSS 22 2 1 (cK .i64) none 0 0 [] ([] : (List (List Int))), oBlk b1 [(pEq (.slice none 0 0)), (pEq (.slice none 0 0))]]) (fun h => nest_nil h) ?_
        refine Ct.re (Ω2 := [oSS 22 2 1 (cK .i64) none 0 0 [] ([] : (List (List Int))), oSS 22 2 1 (cK .i64) none 0 0 [] ([] : (List (List Int))), oBlk b1 [(pEq (.slice none 0 0)), (pEq (.slice none 0 0))]]) (fun h => nest_nil h) ?_
        refine Ct.re (Ω2 := [oSS 22 2 1 (cK .i64) none 0 0 [] ([] : (List (List Int))), oSS 22 2 1 (cK .i64) none 0 0 [] ([] : (List (List Int))), oBlk b1 [(pEq (.slice none 0 0)), (pEq (.slice none 0 0))]]) (fun h => SatO.pick 1 h) ?_
        refine Ct.re (Ω2 := [oBlk b1 [(pEq (.slice none 0 0)), (pEq (.slice none 0 0))], oSS 22 2 1 (cK .i64) none 0 0 [] ([] : (List (List Int))), oSS 22 2 1 (cK .i64) none 0 0 [] ([] : (List (List Int)))]) (fun h => SatO.pick 2 h) ?_
        replace h := Option.some.inj h; subst h
        exact Ct.retH2 (Ωx := [oBlk b1 [(pEq (.slice none 0 0)), (pEq (.slice none 0 0))]]) (((none, 0, 0), []), ((none, 0, 0), [])) rfl (RvOk.cellA (i := 0) Try.isAgg32 sz32 rfl rfl rfl) (RvOk.tmp rfl) rfl rfl
      · replace h := bif_f hc h
        refine Tr.skip ?_
        refine Ct.then_tr ?_
        refine Tr.weak (Γ' := [(1, (pSl 1 (cK .i64) a_1)), (2, (pPtr (cGProblem a_0))), (4, (pEq (.pointer (some ⟨b1, 0, none⟩))))]) ⟨rfl, rfl, rfl, trivial⟩ ?_
        refine Tr.seq ?_
        refine Tr.region ?_
        refine RegL.pure (p := (pAgg [(pEq (.slice none 0 0)), (pEq (.slice none 0 0))])) rfl rfl rfl (J_build (qss := []) rfl bl32 bz32o Parts.nil rfl) ?_
        refine RegL.step (γ := Nat) (p := fun b => pEq (.pointer (some ⟨b, 0, none⟩))) (Ω' := fun b => [oBlk b [(pEq (.slice none 0 0)), (pEq (.slice none 0 0))], oBlk b1 [(pEq (.slice none 0 0)), (pEq (.slice none 0 0))]]) rfl rfl rfl (M_alloc rfl zero32) fun b13 => ?_
        refine RegL.stepN (γ := Unit) (p := fun _ => pAny) (Ω' := fun _ => [oBlk b13 [(pEq (.slice none 0 0)), (pEq (.slice none 0 0))], oBlk b1 [(pEq (.slice none 0 0)), (pEq (.slice none 0 0))]]) rfl rfl (M_storeA rfl sz32 (Opd.tmp rfl) (Opd.tmp rfl) (fun _ _ _ h => ones_of ((OneCs.cons OneC.slice (OneCs.cons OneC.slice OneCs.nil))) h) rfl rfl) fun g14 => ?_
        refine RegL.nil ?_
        refine Ct.then_tr ?_
        refine Tr.weak (Γ' := [(1, (pSl 1 (cK .i64) a_1)), (2, (pPtr (cGProblem a_0))), (4, (pEq (.pointer (some ⟨b1, 0, none⟩)))), (6, (pEq (.pointer (some ⟨b13, 0, none⟩))))]) ⟨rfl, rfl, rfl, rfl, trivial⟩ ?_
        refine Tr.seq ?_
        refine Tr.seq ?_
        refine Tr.region ?_
        refine RegL.pure (p := (pEq (.int .i64 (0 : Int)))) rfl rfl rfl (J_assign rfl Opd.con) ?_
        refine RegL.nil ?_
        refine Ct.then_tr ?_
        refine Tr.weak (Γ' := [(1, (pSl 1 (cK .i64) a_1)), (2, (pPtr (cGProblem a_0))), (4, (pEq (.pointer (some ⟨b1, 0, none⟩)))), (6, (pEq (.pointer (some ⟨b13, 0, none⟩)))), (7, (pEq (.int .i64 (0 : Int))))]) ⟨rfl, rfl, rfl, rfl, rfl, trivial⟩ ?_
        refine Tr.re (Ω2 := [oSS 22 2 1 (cK .i64) none 0 0 [] ([] : (List (List Int))), oBlk b13 [(pEq (.slice none 0 0)), (pEq (.slice none 0 0))], oBlk b1 [(pEq (.slice none 0 0)), (pEq (.slice none 0 0))]]) (fun h => nest_nil h) ?_
        refine Tr.re (Ω2 := [oSS 22 2 1 (cK .i64) none 0 0 [] ([] : (List (List Int))), oSS 22 2 1 (cK .i64) none 0 0 [] ([] : (List (List Int))), oBlk b13 [(pEq (.slice none 0 0)), (pEq (.slice none 0 0))], oBlk b1 [(pEq (.slice none 0 0)), (pEq (.slice none 0 0))]]) (fun h => nest_nil h) ?_
        replace h := bind_some h; obtain ⟨x17, hx17, h⟩ := h
        refine Tr.cut (γ := ((G3 × List G3) × (G3 × List G3))) (Γm := fun g => [(4, (pEq (.pointer (some ⟨b1, 0, none⟩)))), (6, (pEq (.pointer (some ⟨b13, 0, none⟩))))]) (Ωm := fun g => [oSS 22 2 1 (cK .i64) g.1.1.1 g.1.1.2.1 g.1.1.2.2 g.1.2 x17.1, oSS 22 2 1 (cK .i64) g.2.1.1 g.2.1.2.1 g.2.1.2.2 g.2.2 x17.2, oBlk b13 [(pEq (.slice g.2.1.1 g.2.1.2.1 g.2.1.2.2)), (pEq (.slice g.1.1.1 g.1.1.2.1 g.1.1.2.2))], oBlk b1 [(pEq (.slice none 0 0)), (pEq (.slice none 0 0))]]) ?_ (fun g52 => ?_)
        · clear h
          have h := hx17
          clear hx17
          refine Tr.block ?_
          refine Tr.weak (Γ' := [(1, (pSl 1 (cK .i64) a_1)), (2, (pPtr (cGProblem a_0))), (4, (pEq (.pointer (some ⟨b1, 0, none⟩)))), (6, (pEq (.pointer (some ⟨b13, 0, none⟩)))), (7, (pEq (.int .i64 (0 : Int))))]) ⟨rfl, rfl, rfl, rfl, rfl, trivial⟩ ?_
          refine Tr.loop (γ := ((G3 × List G3) × (G3 × List G3))) (σ := (Int × (List (List Int)) × (List (List Int)))) (Γσ := fun s g => [(1, (pSl 1 (cK .i64) a_1)), (2, (pPtr (cGProblem a_0))), (4, (pEq (.pointer (some ⟨b1, 0, none⟩)))), (6, (pEq (.pointer (some ⟨b13, 0, none⟩)))), (7, (pEq (.int .i64 s.1)))]) (Ωσ := fun s g => [oSS 22 2 1 (cK .i64) g.1.1.1 g.1.1.2.1 g.1.1.2.2 g.1.2 s.2.1, oSS 22 2 1 (cK .i64) g.2.1.1 g.2.1.2.1 g.2.1.2.2 g.2.2 s.2.2, oBlk b13 [(pEq (.slice g.2.1.1 g.2.1.2.1 g.2.1.2.2)), (pEq (.slice g.1.1.1 g.1.1.2.1 g.1.1.2.2))], oBlk b1 [(pEq (.slice none 0 0)), (pEq (.slice none 0 0))]]) (g := (((none, 0, 0), []), ((none, 0, 0), []))) h ?_
          clear h
          rintro ⟨v19, v20, v21⟩ g22 t h
          replace h : m_spec_PartProblem_B18 a_0 a_1 v19 v20 v21 = some t := h
          unfold m_spec_PartProblem_B18 at h
          refine Tr.weakO (Γ' := [(1, (pSl 1 (cK .i64) a_1)), (2, (pPtr (cGProblem a_0))), (4, (pEq (.pointer (some ⟨b1, 0, none⟩)))), (6, (pEq (.pointer (some ⟨b13, 0, none⟩)))), (7, (pEq (.int .i64 v19)))]) (Ω' := [oSS 22 2 1 (cK .i64) g22.1.1.1 g22.1.1.2.1 g22.1.1.2.2 g22.1.2 v20, oSS 22 2 1 (cK .i64) g22.2.1.1 g22.2.1.2.1 g22.2.1.2.2 g22.2.2 v21, oBlk b13 [(pEq (.slice g22.2.1.1 g22.2.1.2.1 g22.2.1.2.2)), (pEq (.slice g22.1.1.1 g22.1.1.2.1 g22.1.1.2.2))], oBlk b1 [(pEq (.slice none 0 0)), (pEq (.slice none 0 0))]]) rfl ⟨rfl, rfl, rfl, rfl, rfl, trivial⟩ ?_
          refine Tr.seq ?_
          refine Tr.seq ?_
          refine Tr.region ?_
          refine RegL.pure (p := (pEq (.int .i64 v19))) rfl rfl rfl (J_move rfl (Opd.tmp rfl)) ?_
          refine RegL.pure (p := (pSl 1 (cK .i64) a_1)) rfl rfl rfl (J_move rfl (Opd.tmp rfl)) ?_
          refine RegL.pure (p := (pEq (.int .i64 (a_1.length : Int)))) rfl rfl rfl (J_len rfl Try.underlying22 (Opd.tmp rfl) rfl) ?_
          refine RegL.pure (p := (pEq (.bool (decide (v19 < (a_1.length : Int)))))) rfl rfl rfl (J_bin rfl (Opd.tmp rfl) (Opd.tmp rfl) B_lss) ?_
          refine RegL.nil ?_
          refine Ct.then_tr ?_
          refine Tr.weak (Γ' := [(1, (pSl 1 (cK .i64) a_1)), (2, (pPtr (cGProblem a_0))), (4, (pEq (.pointer (some ⟨b1, 0, none⟩)))), (6, (pEq (.pointer (some ⟨b13, 0, none⟩)))), (7, (pEq (.int .i64 v19))), (30, (pEq (.bool (decide (v19 < (a_1.length : Int))))))]) ⟨rfl, rfl, rfl, rfl, rfl, rfl, trivial⟩ ?_
          refine Tr.cond (Opd.tmp rfl) (fun hc => ?_) (fun hc => ?_)
          · replace h := bif_t hc h
            refine Tr.skip ?_
            refine Ct.then_tr ?_
            refine Tr.weak (Γ' := [(1, (pSl 1 (cK .i64) a_1)), (2, (pPtr (cGProblem a_0))), (4, (pEq (.pointer (some ⟨b1, 0, none⟩)))), (6, (pEq (.pointer (some ⟨b13, 0, none⟩)))), (7, (pEq (.int .i64 v19)))]) ⟨rfl, rfl, rfl, rfl, rfl, trivial⟩ ?_
            refine Tr.seq ?_
            refine Tr.block ?_
            refine Tr.seq ?_
            replace h := bind_some h; obtain ⟨x23, hx23, h⟩ := h
            replace h := bind_some h; obtain ⟨x24, hx24, h⟩ := h
            refine Tr.drawD (n := 78) (m := 13) (es := [some (Ent.mk [(6, (pEq (.pointer (some ⟨b13, 0, none⟩))))] (pEq (.pointer (some ⟨b13, 0, none⟩))) true), some (Ent.mk [(33, (pEq (.pointer (some ⟨b13, 0, none⟩))))] (pEq (.slice g22.2.1.1 g22.2.1.2.1 g22.2.1.2.2)) true), some (Ent.mk [(2, (pPtr (cGProblem a_0)))] (pPtr ((cSl 1 (cSl 1 (cK .i64))) a_0.Domains)) true), some (Ent.mk [(35, (pPtr ((cSl 1 (cSl 1 (cK .i64))) a_0.Domains)))] (pSl 1 (cSl 1 (cK .i64)) a_0.Domains) true), some (Ent.mk [(1, (pSl 1 (cK .i64) a_1))] (pSl 1 (cK .i64) a_1) true), some (Ent.mk [(7, (pEq (.int .i64 v19)))] (pEq (.int .i64 v19)) true), some (Ent.mk [(37, (pSl 1 (cK .i64) a_1)), (38, (pEq (.int .i64 v19)))] (pPtr ((cK .i64) x23)) true), some (Ent.mk [(39, (pPtr ((cK .i64) x23)))] (pEq (.int .i64 x23)) true), some (Ent.mk [(36, (pSl 1 (cSl 1 (cK .i64)) a_0.Domains)), (40, (pEq (.int .i64 x23)))] (pPtr ((cSl 1 (cK .i64)) x24)) true), some (Ent.mk [(41, (pPtr ((cSl 1 (cK .i64)) x24)))] (pSl 1 (cK .i64) x24) true), none, none, none]) (rd := [[6], [33], [2], [35], [1], [7], [37, 38], [39], [36, 40], [41], [42], [43], [34, 44]]) rfl hmix (by kernel_rfl) fun hD => ?_
            replace h := bind_some h; obtain ⟨x25, hx25, h⟩ := h
            refine RD.step hD (es := [some (Ent.mk [(6, (pEq (.pointer (some ⟨b13, 0, none⟩))))] (pEq (.pointer (some ⟨b13, 0, none⟩))) true), some (Ent.mk [(33, (pEq (.pointer (some ⟨b13, 0, none⟩))))] (pEq (.slice g22.2.1.1 g22.2.1.2.1 g22.2.1.2.2)) true), some (Ent.mk [(2, (pPtr (cGProblem a_0)))] (pPtr ((cSl 1 (cSl 1 (cK .i64))) a_0.Domains)) true), some (Ent.mk [(35, (pPtr ((cSl 1 (cSl 1 (cK .i64))) a_0.Domains)))] (pSl 1 (cSl 1 (cK .i64)) a_0.Domains) true), some (Ent.mk [(1, (pSl 1 (cK .i64) a_1))] (pSl 1 (cK .i64) a_1) true), some (Ent.mk [(7, (pEq (.int .i64 v19)))] (pEq (.int .i64 v19)) true), some (Ent.mk [(37, (pSl 1 (cK .i64) a_1)), (38, (pEq (.int .i64 v19)))] (pPtr ((cK .i64) x23)) true), some (Ent.mk [(39, (pPtr ((cK .i64) x23)))] (pEq (.int .i64 x23)) true), some (Ent.mk [(36, (pSl 1 (cSl 1 (cK .i64)) a_0.Domains)), (40, (pEq (.int .i64 x23)))] (pPtr ((cSl 1 (cK .i64)) x24)) true), some (Ent.mk [(41, (pPtr ((cSl 1 (cK .i64)) x24)))] (pSl 1 (cK .i64) x24) true), none, none, none]) (done := []) (mask := [true, true, true, true, true, true, true, true, true, true, false, false, false]) (γ := G3) (p := fun g => (pEq (.slice g.1 g.2.1 g.2.2))) (Ω' := fun g => [oSl 2 1 (cK .i64) g.1 g.2.1 g.2.2 x25, oSS 22 2 1 (cK .i64) g22.1.1.1 g22.1.1.2.1 g22.1.1.2.2 g22.1.2 v20, oSS 22 2 1 (cK .i64) g22.2.1.1 g22.2.1.2.1 g22.2.1.2.2 g22.2.2 v21, oBlk b13 [(pEq (.slice g22.2.1.1 g22.2.1.2.1 g22.2.1.2.2)), (pEq (.slice g22.1.1.1 g22.1.1.2.1 g22.1.1.2.2))], oBlk b1 [(pEq (.slice none 0 0)), (pEq (.slice none 0 0))]]) (es' := fun g26 => [some (Ent.mk [(6, (pEq (.pointer (some ⟨b13, 0, none⟩))))] (pEq (.pointer (some ⟨b13, 0, none⟩))) true), some (Ent.mk [(33, (pEq (.pointer (some ⟨b13, 0, none⟩))))] (pEq (.slice g22.2.1.1 g22.2.1.2.1 g22.2.1.2.2)) true), some (Ent.mk [(2, (pPtr (cGProblem a_0)))] (pPtr ((cSl 1 (cSl 1 (cK .i64))) a_0.Domains)) true), some (Ent.mk [(35, (pPtr ((cSl 1 (cSl 1 (cK .i64))) a_0.Domains)))] (pSl 1 (cSl 1 (cK .i64)) a_0.Domains) true), some (Ent.mk [(1, (pSl 1 (cK .i64) a_1))] (pSl 1 (cK .i64) a_1) true), some (Ent.mk [(7, (pEq (.int .i64 v19)))] (pEq (.int .i64 v19)) true), some (Ent.mk [(37, (pSl 1 (cK .i64) a_1)), (38, (pEq (.int .i64 v19)))] (pPtr ((cK .i64) x23)) true), some (Ent.mk [(39, (pPtr ((cK .i64) x23)))] (pEq (.int .i64 x23)) true), some (Ent.mk [(36, (pSl 1 (cSl 1 (cK .i64)) a_0.Domains)), (40, (pEq (.int .i64 x23)))] (pPtr ((cSl 1 (cK .i64)) x24)) true), some (Ent.mk [(41, (pPtr ((cSl 1 (cK .i64)) x24)))] (pSl 1 (cK .i64) x24) true), some (Ent.mk [(42, (pSl 1 (cK .i64) x24))] (pEq (.slice g26.1 g26.2.1 g26.2.2)) true), none, none]) (Γc := [(42, (pSl 1 (cK .i64) x24))]) 10 rfl rfl rfl (by kernel_rfl) ⟨.inr ⟨(OpJ.w (J_fieldAddrE rfl Try.underlying32 rfl sz27 (by decide) (Opd.tmp rfl) rfl)), ⟨rfl, trivial⟩, rfl, rfl⟩, ⟨.inr ⟨(W_load (i := 2) rfl Try.isAgg27 (Opd.tmp rfl) rfl rfl), ⟨rfl, trivial⟩, rfl, rfl⟩, ⟨.inr ⟨(OpJ.w (J_fieldAddr rfl Try.underlying32 rfl sz27 (by decide) (Opd.tmp rfl) rfl)), ⟨rfl, trivial⟩, rfl, rfl⟩, ⟨.inr ⟨(OpJ.w (J_load rfl Try.isAgg27 (Opd.tmp rfl))), ⟨rfl, trivial⟩, rfl, rfl⟩, ⟨.inr ⟨(OpJ.w (J_move rfl (Opd.tmp rfl))), ⟨rfl, trivial⟩, rfl, rfl⟩, ⟨.inr ⟨(OpJ.w (J_move rfl (Opd.tmp rfl))), ⟨rfl, trivial⟩, rfl, rfl⟩, ⟨.inr ⟨(OpJ.w (J_idx rfl Try.underlying22 sz2 (Opd.tmp rfl) (Opd.tmp rfl) hx23)), ⟨rfl, rfl, trivial⟩, rfl, rfl⟩, ⟨.inr ⟨(OpJ.w (J_load rfl Try.isAgg2 (Opd.tmp rfl))), ⟨rfl, trivial⟩, rfl, rfl⟩, ⟨.inr ⟨(OpJ.w (J_idx rfl Try.underlying27 sz22 (Opd.tmp rfl) (Opd.tmp rfl) hx24)), ⟨rfl, rfl, trivial⟩, rfl, rfl⟩, ⟨.inr ⟨(OpJ.w (J_load rfl Try.isAgg22 (Opd.tmp rfl))), ⟨rfl, trivial⟩, rfl, rfl⟩, trivial⟩⟩⟩⟩⟩⟩⟩⟩⟩⟩ rfl rfl ⟨rfl, trivial⟩ (fun _ => M_callH (Ωi := []) rfl Try.call75 (o_spec_l00Own hx25) (Opds.cons (Opd.tmp rfl) Opds.nil)) (fun g26 => ⟨rfl, ⟨rfl, ⟨rfl, ⟨rfl, ⟨rfl, ⟨rfl, ⟨rfl, ⟨rfl, ⟨rfl, ⟨rfl, trivial⟩⟩⟩⟩⟩⟩⟩⟩⟩⟩) (fun g26 => rfl) rfl fun g26 => ?_
            refine RD.step hD (es := [some (Ent.mk [(6, (pEq (.pointer (some ⟨b13, 0, none⟩))))] (pEq (.pointer (some ⟨b13, 0, none⟩))) true), some (Ent.mk [(33, (pEq (.pointer (some ⟨b13, 0, none⟩))))] (pEq (.slice g22.2.1.1 g22.2.1.2.1 g22.2.1.2.2)) true), some (Ent.mk [(2, (pPtr (cGProblem a_0)))] (pPtr ((cSl 1 (cSl 1 (cK .i64))) a_0.Domains)) true), some (Ent.mk [(35, (pPtr ((cSl 1 (cSl 1 (cK .i64))) a_0.Domains)))] (pSl 1 (cSl 1 (cK .i64)) a_0.Domains) true), some (Ent.mk [(1, (pSl 1 (cK .i64) a_1))] (pSl 1 (cK .i64) a_1) true), some (Ent.mk [(7, (pEq (.int .i64 v19)))] (pEq (.int .i64 v19)) true), some (Ent.mk [(37, (pSl 1 (cK .i64) a_1)), (38, (pEq (.int .i64 v19)))] (pPtr ((cK .i64) x23)) true), some (Ent.mk [(39, (pPtr ((cK .i64) x23)))] (pEq (.int .i64 x23)) true), some (Ent.mk [(36, (pSl 1 (cSl 1 (cK .i64)) a_0.Domains)), (40, (pEq (.int .i64 x23)))] (pPtr ((cSl 1 (cK .i64)) x24)) true), some (Ent.mk [(41, (pPtr ((cSl 1 (cK .i64)) x24)))] (pSl 1 (cK .i64) x24) true), some (Ent.mk [(42, (pSl 1 (cK .i64) x24))] (pEq (.slice g26.1 g26.2.1 g26.2.2)) true), none, none]) (done := [10]) (mask := [true, true, true, true, true, true, true, true, true, true, true, false, false]) (γ := Option Addr) (p := fun a => pEq (.slice a 1 1)) (Ω' := fun a => [oSl 22 1 cHdr a 1 1 [(g26.1, g26.2.1, g26.2.2)], oSl 2 1 (cK .i64) g26.1 g26.2.1 g26.2.2 x25, oSS 22 2 1 (cK .i64) g22.1.1.1 g22.1.1.2.1 g22.1.1.2.2 g22.1.2 v20, oSS 22 2 1 (cK .i64) g22.2.1.1 g22.2.1.2.1 g22.2.1.2.2 g22.2.2 v21, oBlk b13 [(pEq (.slice g22.2.1.1 g22.2.1.2.1 g22.2.1.2.2)), (pEq (.slice g22.1.1.1 g22.1.1.2.1 g22.1.1.2.2))], oBlk b1 [(pEq (.slice none 0 0)), (pEq (.slice none 0 0))]]) (es' := fun o28 => [some (Ent.mk [(6, (pEq (.pointer (some ⟨b13, 0, none⟩))))] (pEq (.pointer (some ⟨b13, 0, none⟩))) true), some (Ent.mk [(33, (pEq (.pointer (some ⟨b13, 0, none⟩))))] (pEq (.slice g22.2.1.1 g22.2.1.2.1 g22.2.1.2.2)) true), some (Ent.mk [(2, (pPtr (cGProblem a_0)))] (pPtr ((cSl 1 (cSl 1 (cK .i64))) a_0.Domains)) true), some (Ent.mk [(35, (pPtr ((cSl 1 (cSl 1 (cK .i64))) a_0.Domains)))] (pSl 1 (cSl 1 (cK .i64)) a_0.Domains) true), some (Ent.mk [(1, (pSl 1 (cK .i64) a_1))] (pSl 1 (cK .i64) a_1) true), some (Ent.mk [(7, (pEq (.int .i64 v19)))] (pEq (.int .i64 v19)) true), some (Ent.mk [(37, (pSl 1 (cK .i64) a_1)), (38, (pEq (.int .i64 v19)))] (pPtr ((cK .i64) x23)) true), some (Ent.mk [(39, (pPtr ((cK .i64) x23)))] (pEq (.int .i64 x23)) true), some (Ent.mk [(36, (pSl 1 (cSl 1 (cK .i64)) a_0.Domains)), (40, (pEq (.int .i64 x23)))] (pPtr ((cSl 1 (cK .i64)) x24)) true), some (Ent.mk [(41, (pPtr ((cSl 1 (cK .i64)) x24)))] (pSl 1 (cK .i64) x24) true), some (Ent.mk [(42, (pSl 1 (cK .i64) x24))] (pEq (.slice g26.1 g26.2.1 g26.2.2)) true), some (Ent.mk [(43, (pEq (.slice g26.1 g26.2.1 g26.2.2)))] (pEq (.slice o28 1 1)) true), none]) (Γc := [(43, (pEq (.slice g26.1 g26.2.1 g26.2.2)))]) 11 rfl rfl rfl (by kernel_rfl) ⟨.inr ⟨(OpJ.w (J_fieldAddrE rfl Try.underlying32 rfl sz27 (by decide) (Opd.tmp rfl) rfl)), ⟨rfl, trivial⟩, rfl, rfl⟩, ⟨.inr ⟨(W_load (i := 3) rfl Try.isAgg27 (Opd.tmp rfl) rfl rfl), ⟨rfl, trivial⟩, rfl, rfl⟩, ⟨.inr ⟨(OpJ.w (J_fieldAddr rfl Try.underlying32 rfl sz27 (by decide) (Opd.tmp rfl) rfl)), ⟨rfl, trivial⟩, rfl, rfl⟩, ⟨.inr ⟨(OpJ.w (J_load rfl Try.isAgg27 (Opd.tmp rfl))), ⟨rfl, trivial⟩, rfl, rfl⟩, ⟨.inr ⟨(OpJ.w (J_move rfl (Opd.tmp rfl))), ⟨rfl, trivial⟩, rfl, rfl⟩, ⟨.inr ⟨(OpJ.w (J_move rfl (Opd.tmp rfl))), ⟨rfl, trivial⟩, rfl, rfl⟩, ⟨.inr ⟨(OpJ.w (J_idx rfl Try.underlying22 sz2 (Opd.tmp rfl) (Opd.tmp rfl) hx23)), ⟨rfl, rfl, trivial⟩, rfl, rfl⟩, ⟨.inr ⟨(OpJ.w (J_load rfl Try.isAgg2 (Opd.tmp rfl))), ⟨rfl, trivial⟩, rfl, rfl⟩, ⟨.inr ⟨(OpJ.w (J_idx rfl Try.underlying27 sz22 (Opd.tmp rfl) (Opd.tmp rfl) hx24)), ⟨rfl, rfl, trivial⟩, rfl, rfl⟩, ⟨.inr ⟨(OpJ.w (J_load rfl Try.isAgg22 (Opd.tmp rfl))), ⟨rfl, trivial⟩, rfl, rfl⟩, ⟨.inl rfl, trivial⟩⟩⟩⟩⟩⟩⟩⟩⟩⟩⟩ rfl rfl ⟨rfl, trivial⟩ (fun _ => M_buildSlice (qss := [(0, cHdr (g26.1, g26.2.1, g26.2.2))]) rfl Try.underlying27 elh22 rfl (Parts.cons (Part.one (Opd.tmp rfl) OneC.slice) Parts.nil) rfl rfl) (fun o28 => ⟨rfl, ⟨rfl, ⟨rfl, ⟨rfl, ⟨rfl, ⟨rfl, ⟨rfl, ⟨rfl, ⟨rfl, ⟨rfl, ⟨rfl, trivial⟩⟩⟩⟩⟩⟩⟩⟩⟩⟩⟩) (fun o28 => rfl) rfl fun o28 => ?_
            refine RD.re (Ω2 := [oSS 22 2 1 (cK .i64) o28 1 1 [(g26.1, g26.2.1, g26.2.2)] [x25], oSS 22 2 1 (cK .i64) g22.1.1.1 g22.1.1.2.1 g22.1.1.2.2 g22.1.2 v20, oSS 22 2 1 (cK .i64) g22.2.1.1 g22.2.1.2.1 g22.2.1.2.2 g22.2.2 v21, oBlk b13 [(pEq (.slice g22.2.1.1 g22.2.1.2.1 g22.2.1.2.2)), (pEq (.slice g22.1.1.1 g22.1.1.2.1 g22.1.1.2.2))], oBlk b1 [(pEq (.slice none 0 0)), (pEq (.slice none 0 0))]]) (fun h => nest_one h) ?_
            replace h := bind_some h; obtain ⟨x30, hx30, h⟩ := h
            refine RD.re (Ω2 := [oSS 22 2 1 (cK .i64) g22.2.1.1 g22.2.1.2.1 g22.2.1.2.2 g22.2.2 v21, oSS 22 2 1 (cK .i64) o28 1 1 [(g26.1, g26.2.1, g26.2.2)] [x25], oSS 22 2 1 (cK .i64) g22.1.1.1 g22.1.1.2.1 g22.1.1.2.2 g22.1.2 v20, oBlk b13 [(pEq (.slice g22.2.1.1 g22.2.1.2.1 g22.2.1.2.2)), (pEq (.slice g22.1.1.1 g22.1.1.2.1 g22.1.1.2.2))], oBlk b1 [(pEq (.slice none 0 0)), (pEq (.slice none 0 0))]]) (fun h => SatO.pick 2 h) ?_
            refine RD.step hD (es := [some (Ent.mk [(6, (pEq (.pointer (some ⟨b13, 0, none⟩))))] (pEq (.pointer (some ⟨b13, 0, none⟩))) true), some (Ent.mk [(33, (pEq (.pointer (some ⟨b13, 0, none⟩))))] (pEq (.slice g22.2.1.1 g22.2.1.2.1 g22.2.1.2.2)) true), some (Ent.mk [(2, (pPtr (cGProblem a_0)))] (pPtr ((cSl 1 (cSl 1 (cK .i64))) a_0.Domains)) true), some (Ent.mk [(35, (pPtr ((cSl 1 (cSl 1 (cK .i64))) a_0.Domains)))] (pSl 1 (cSl 1 (cK .i64)) a_0.Domains) true), some (Ent.mk [(1, (pSl 1 (cK .i64) a_1))] (pSl 1 (cK .i64) a_1) true), some (Ent.mk [(7, (pEq (.int .i64 v19)))] (pEq (.int .i64 v19)) true), some (Ent.mk [(37, (pSl 1 (cK .i64) a_1)), (38, (pEq (.int .i64 v19)))] (pPtr ((cK .i64) x23)) true), some (Ent.mk [(39, (pPtr ((cK .i64) x23)))] (pEq (.int .i64 x23)) true), some (Ent.mk [(36, (pSl 1 (cSl 1 (cK .i64)) a_0.Domains)), (40, (pEq (.int .i64 x23)))] (pPtr ((cSl 1 (cK .i64)) x24)) true), some (Ent.mk [(41, (pPtr ((cSl 1 (cK .i64)) x24)))] (pSl 1 (cK .i64) x24) true), some (Ent.mk [(42, (pSl 1 (cK .i64) x24))] (pEq (.slice g26.1 g26.2.1 g26.2.2)) true), some (Ent.mk [(43, (pEq (.slice g26.1 g26.2.1 g26.2.2)))] (pEq (.slice o28 1 1)) true), none]) (done := [11, 10]) (mask := [true, true, true, true, true, true, true, true, true, true, true, true, false]) (γ := (Option Addr × Nat) × List G3) (p := fun g => pEq (.slice g.1.1 x30.length g.1.2)) (Ω' := fun g => [oSS 22 2 1 (cK .i64) g.1.1 x30.length g.1.2 g.2 x30, oSS 22 2 1 (cK .i64) g22.1.1.1 g22.1.1.2.1 g22.1.1.2.2 g22.1.2 v20, oBlk b13 [(pEq (.slice g22.2.1.1 g22.2.1.2.1 g22.2.1.2.2)), (pEq (.slice g22.1.1.1 g22.1.1.2.1 g22.1.1.2.2))], oBlk b1 [(pEq (.slice none 0 0)), (pEq (.slice none 0 0))]]) (es' := fun g31 => [some (Ent.mk [(6, (pEq (.pointer (some ⟨b13, 0, none⟩))))] (pEq (.pointer (some ⟨b13, 0, none⟩))) true), some (Ent.mk [(33, (pEq (.pointer (some ⟨b13, 0, none⟩))))] (pEq (.slice g22.2.1.1 g22.2.1.2.1 g22.2.1.2.2)) true), some (Ent.mk [(2, (pPtr (cGProblem a_0)))] (pPtr ((cSl 1 (cSl 1 (cK .i64))) a_0.Domains)) true), some (Ent.mk [(35, (pPtr ((cSl 1 (cSl 1 (cK .i64))) a_0.Domains)))] (pSl 1 (cSl 1 (cK .i64)) a_0.Domains) true), some (Ent.mk [(1, (pSl 1 (cK .i64) a_1))] (pSl 1 (cK .i64) a_1) true), some (Ent.mk [(7, (pEq (.int .i64 v19)))] (pEq (.int .i64 v19)) true), some (Ent.mk [(37, (pSl 1 (cK .i64) a_1)), (38, (pEq (.int .i64 v19)))] (pPtr ((cK .i64) x23)) true), some (Ent.mk [(39, (pPtr ((cK .i64) x23)))] (pEq (.int .i64 x23)) true), some (Ent.mk [(36, (pSl 1 (cSl 1 (cK .i64)) a_0.Domains)), (40, (pEq (.int .i64 x23)))] (pPtr ((cSl 1 (cK .i64)) x24)) true), some (Ent.mk [(41, (pPtr ((cSl 1 (cK .i64)) x24)))] (pSl 1 (cK .i64) x24) true), some (Ent.mk [(42, (pSl 1 (cK .i64) x24))] (pEq (.slice g26.1 g26.2.1 g26.2.2)) true), some (Ent.mk [(43, (pEq (.slice g26.1 g26.2.1 g26.2.2)))] (pEq (.slice o28 1 1)) true), some (Ent.mk [(34, (pEq (.slice g22.2.1.1 g22.2.1.2.1 g22.2.1.2.2))), (44, (pEq (.slice o28 1 1)))] (pEq (.slice g31.1.1 x30.length g31.1.2)) true)]) (Γc := [(34, (pEq (.slice g22.2.1.1 g22.2.1.2.1 g22.2.1.2.2))), (44, (pEq (.slice o28 1 1)))]) 12 rfl rfl rfl (by kernel_rfl) ⟨.inr ⟨(OpJ.w (J_fieldAddrE rfl Try.underlying32 rfl sz27 (by decide) (Opd.tmp rfl) rfl)), ⟨rfl, trivial⟩, rfl, rfl⟩, ⟨.inr ⟨(W_load (i := 3) rfl Try.isAgg27 (Opd.tmp rfl) rfl rfl), ⟨rfl, trivial⟩, rfl, rfl⟩, ⟨.inr ⟨(OpJ.w (J_fieldAddr rfl Try.underlying32 rfl sz27 (by decide) (Opd.tmp rfl) rfl)), ⟨rfl, trivial⟩, rfl, rfl⟩, ⟨.inr ⟨(OpJ.w (J_load rfl Try.isAgg27 (Opd.tmp rfl))), ⟨rfl, trivial⟩, rfl, rfl⟩, ⟨.inr ⟨(OpJ.w (J_move rfl (Opd.tmp rfl))), ⟨rfl, trivial⟩, rfl, rfl⟩, ⟨.inr ⟨(OpJ.w (J_move rfl (Opd.tmp rfl))), ⟨rfl, trivial⟩, rfl, rfl⟩, ⟨.inr ⟨(OpJ.w (J_idx rfl Try.underlying22 sz2 (Opd.tmp rfl) (Opd.tmp rfl) hx23)), ⟨rfl, rfl, trivial⟩, rfl, rfl⟩, ⟨.inr ⟨(OpJ.w (J_load rfl Try.isAgg2 (Opd.tmp rfl))), ⟨rfl, trivial⟩, rfl, rfl⟩, ⟨.inr ⟨(OpJ.w (J_idx rfl Try.underlying27 sz22 (Opd.tmp rfl) (Opd.tmp rfl) hx24)), ⟨rfl, rfl, trivial⟩, rfl, rfl⟩, ⟨.inr ⟨(OpJ.w (J_load rfl Try.isAgg22 (Opd.tmp rfl))), ⟨rfl, trivial⟩, rfl, rfl⟩, ⟨.inl rfl, ⟨.inl rfl, trivial⟩⟩⟩⟩⟩⟩⟩⟩⟩⟩⟩⟩ rfl rfl ⟨rfl, rfl, trivial⟩ (fun _ => M_nestAppend rfl Try.underlying27 elh22 (Opd.tmp rfl) (Opd.tmp rfl) hx30) (fun g31 => ⟨rfl, ⟨rfl, ⟨rfl, ⟨rfl, ⟨rfl, ⟨rfl, ⟨rfl, ⟨rfl, ⟨rfl, ⟨rfl, ⟨rfl, ⟨rfl, trivial⟩⟩⟩⟩⟩⟩⟩⟩⟩⟩⟩⟩) (fun g31 => rfl) rfl fun g31 => ?_
            refine RD.fin (es := [Ent.mk [(6, (pEq (.pointer (some ⟨b13, 0, none⟩))))] (pEq (.pointer (some ⟨b13, 0, none⟩))) true, Ent.mk [(33, (pEq (.pointer (some ⟨b13, 0, none⟩))))] (pEq (.slice g22.2.1.1 g22.2.1.2.1 g22.2.1.2.2)) true, Ent.mk [(2, (pPtr (cGProblem a_0)))] (pPtr ((cSl 1 (cSl 1 (cK .i64))) a_0.Domains)) true, Ent.mk [(35, (pPtr ((cSl 1 (cSl 1 (cK .i64))) a_0.Domains)))] (pSl 1 (cSl 1 (cK .i64)) a_0.Domains) true, Ent.mk [(1, (pSl 1 (cK .i64) a_1))] (pSl 1 (cK .i64) a_1) true, Ent.mk [(7, (pEq (.int .i64 v19)))] (pEq (.int .i64 v19)) true, Ent.mk [(37, (pSl 1 (cK .i64) a_1)), (38, (pEq (.int .i64 v19)))] (pPtr ((cK .i64) x23)) true, Ent.mk [(39, (pPtr ((cK .i64) x23)))] (pEq (.int .i64 x23)) true, Ent.mk [(36, (pSl 1 (cSl 1 (cK .i64)) a_0.Domains)), (40, (pEq (.int .i64 x23)))] (pPtr ((cSl 1 (cK .i64)) x24)) true, Ent.mk [(41, (pPtr ((cSl 1 (cK .i64)) x24)))] (pSl 1 (cK .i64) x24) true, Ent.mk [(42, (pSl 1 (cK .i64) x24))] (pEq (.slice g26.1 g26.2.1 g26.2.2)) true, Ent.mk [(43, (pEq (.slice g26.1 g26.2.1 g26.2.2)))] (pEq (.slice o28 1 1)) true, Ent.mk [(34, (pEq (.slice g22.2.1.1 g22.2.1.2.1 g22.2.1.2.2))), (44, (pEq (.slice o28 1 1)))] (pEq (.slice g31.1.1 x30.length g31.1.2)) true]) (done := [12, 11, 10]) hD ⟨.inr ⟨(OpJ.w (J_fieldAddrE rfl Try.underlying32 rfl sz27 (by decide) (Opd.tmp rfl) rfl)), ⟨rfl, trivial⟩, rfl, rfl⟩, ⟨.inr ⟨(W_load (i := 2) rfl Try.isAgg27 (Opd.tmp rfl) rfl rfl), ⟨rfl, trivial⟩, rfl, rfl⟩, ⟨.inr ⟨(OpJ.w (J_fieldAddr rfl Try.underlying32 rfl sz27 (by decide) (Opd.tmp rfl) rfl)), ⟨rfl, trivial⟩, rfl, rfl⟩, ⟨.inr ⟨(OpJ.w (J_load rfl Try.isAgg27 (Opd.tmp rfl))), ⟨rfl, trivial⟩, rfl, rfl⟩, ⟨.inr ⟨(OpJ.w (J_move rfl (Opd.tmp rfl))), ⟨rfl, trivial⟩, rfl, rfl⟩, ⟨.inr ⟨(OpJ.w (J_move rfl (Opd.tmp rfl))), ⟨rfl, trivial⟩, rfl, rfl⟩, ⟨.inr ⟨(OpJ.w (J_idx rfl Try.underlying22 sz2 (Opd.tmp rfl) (Opd.tmp rfl) hx23)), ⟨rfl, rfl, trivial⟩, rfl, rfl⟩, ⟨.inr ⟨(OpJ.w (J_load rfl Try.isAgg2 (Opd.tmp rfl))), ⟨rfl, trivial⟩, rfl, rfl⟩, ⟨.inr ⟨(OpJ.w (J_idx rfl Try.underlying27 sz22 (Opd.tmp rfl) (Opd.tmp rfl) hx24)), ⟨rfl, rfl, trivial⟩, rfl, rfl⟩, ⟨.inr ⟨(OpJ.w (J_load rfl Try.isAgg22 (Opd.tmp rfl))), ⟨rfl, trivial⟩, rfl, rfl⟩, ⟨.inl rfl, ⟨.inl rfl, ⟨.inl rfl, trivial⟩⟩⟩⟩⟩⟩⟩⟩⟩⟩⟩⟩⟩ ?_
            refine RegL.pure (p := (pEq (.pointer (some ⟨b13, 0, none⟩)))) rfl rfl rfl (J_fieldAddrE rfl Try.underlying32 rfl sz27 (by decide) (Opd.tmp rfl) rfl) ?_
            refine RegL.re (Ω2 := [oBlk b13 [(pEq (.slice g22.2.1.1 g22.2.1.2.1 g22.2.1.2.2)), (pEq (.slice g22.1.1.1 g22.1.1.2.1 g22.1.1.2.2))], oSS 22 2 1 (cK .i64) g31.1.1 x30.length g31.1.2 g31.2 x30, oSS 22 2 1 (cK .i64) g22.1.1.1 g22.1.1.2.1 g22.1.1.2.2 g22.1.2 v20, oBlk b1 [(pEq (.slice none 0 0)), (pEq (.slice none 0 0))]]) (fun h => SatO.pick 2 h) ?_
            refine RegL.stepN (γ := Unit) (p := fun _ => pAny) (Ω' := fun _ => [oBlk b13 [(pEq (.slice g31.1.1 x30.length g31.1.2)), (pEq (.slice g22.1.1.1 g22.1.1.2.1 g22.1.1.2.2))], oSS 22 2 1 (cK .i64) g31.1.1 x30.length g31.1.2 g31.2 x30, oSS 22 2 1 (cK .i64) g22.1.1.1 g22.1.1.2.1 g22.1.1.2.2 g22.1.2 v20, oBlk b1 [(pEq (.slice none 0 0)), (pEq (.slice none 0 0))]]) rfl rfl (M_store rfl sz27 (Opd.tmp rfl) (Opd.tmp rfl) OneC.slice rfl rfl) fun g32 => ?_
            refine RegL.nil ?_
            refine Ct.then_tr ?_
            refine Tr.weak (Γ' := [(1, (pSl 1 (cK .i64) a_1)), (2, (pPtr (cGProblem a_0))), (4, (pEq (.pointer (some ⟨b1, 0, none⟩)))), (6, (pEq (.pointer (some ⟨b13, 0, none⟩)))), (7, (pEq (.int .i64 v19)))]) ⟨rfl, rfl, rfl, rfl, rfl, trivial⟩ ?_
            refine Tr.seq ?_
            refine Tr.region ?_
            refine RegL.step (γ := Option Addr) (p := fun a => pEq (.slice a 0 0)) (Ω' := fun a => [oSl 2 1 (cK .i64) a 0 0 ([] : (List Int)), oBlk b13 [(pEq (.slice g31.1.1 x30.length g31.1.2)), (pEq (.slice g22.1.1.1 g22.1.1.2.1 g22.1.1.2.2))], oSS 22 2 1 (cK .i64) g31.1.1 x30.length g31.1.2 g31.2 x30, oSS 22 2 1 (cK .i64) g22.1.1.1 g22.1.1.2.1 g22.1.1.2.2 g22.1.2 v20, oBlk b1 [(pEq (.slice none 0 0)), (pEq (.slice none 0 0))]]) rfl rfl rfl (M_buildSlice (qss := []) rfl Try.underlying22 el2 rfl Parts.nil rfl rfl) fun o34 => ?_
            refine RegL.pure (p := (pEq (.slice o34 0 0))) rfl rfl rfl (J_assign rfl (Opd.tmp rfl)) ?_
            refine RegL.nil ?_
            refine Ct.then_tr ?_
            refine Tr.weak (Γ' := [(1, (pSl 1 (cK .i64) a_1)), (2, (pPtr (cGProblem a_0))), (4, (pEq (.pointer (some ⟨b1, 0, none⟩)))), (6, (pEq (.pointer (some ⟨b13, 0, none⟩)))), (7, (pEq (.int .i64 v19))), (8, (pEq (.slice o34 0 0)))]) ⟨rfl, rfl, rfl, rfl, rfl, rfl, trivial⟩ ?_
            refine Tr.seq ?_
            refine Tr.seq ?_
            refine Tr.region ?_
            refine RegL.pure (p := (pEq (.int .i64 (0 : Int)))) rfl rfl rfl (J_assign rfl Opd.con) ?_
            refine RegL.nil ?_
            refine Ct.then_tr ?_
            refine Tr.weak (Γ' := [(1, (pSl 1 (cK .i64) a_1)), (2, (pPtr (cGProblem a_0))), (4, (pEq (.pointer (some ⟨b1, 0, none⟩)))), (6, (pEq (.pointer (some ⟨b13, 0, none⟩)))), (7, (pEq (.int .i64 v19))), (8, (pEq (.slice o34 0 0))), (9, (pEq (.int .i64 (0 : Int))))]) ⟨rfl, rfl, rfl, rfl, rfl, rfl, rfl, trivial⟩ ?_
            replace h := bind_some h; obtain ⟨x35, hx35, h⟩ := h
            refine Tr.cut (γ := G3) (Γm := fun g => [(1, (pSl 1 (cK .i64) a_1)), (2, (pPtr (cGProblem a_0))), (4, (pEq (.pointer (some ⟨b1, 0, none⟩)))), (6, (pEq (.pointer (some ⟨b13, 0, none⟩)))), (7, (pEq (.int .i64 v19))), (8, (pEq (.slice g.1 g.2.1 g.2.2)))]) (Ωm := fun g => [oSl 2 1 (cK .i64) g.1 g.2.1 g.2.2 x35, oBlk b13 [(pEq (.slice g31.1.1 x30.length g31.1.2)), (pEq (.slice g22.1.1.1 g22.1.1.2.1 g22.1.1.2.2))], oSS 22 2 1 (cK .i64) g31.1.1 x30.length g31.1.2 g31.2 x30, oSS 22 2 1 (cK .i64) g22.1.1.1 g22.1.1.2.1 g22.1.1.2.2 g22.1.2 v20, oBlk b1 [(pEq (.slice none 0 0)), (pEq (.slice none 0 0))]]) ?_ (fun g46 => ?_)
            · clear h
              have h := hx35
              clear hx35
              refine Tr.block ?_
              refine Tr.weak (Γ' := [(1, (pSl 1 (cK .i64) a_1)), (2, (pPtr (cGProblem a_0))), (4, (pEq (.pointer (some ⟨b1, 0, none⟩)))), (6, (pEq (.pointer (some ⟨b13, 0, none⟩)))), (7, (pEq (.int .i64 v19))), (8, (pEq (.slice o34 0 0))), (9, (pEq (.int .i64 (0 : Int))))]) ⟨rfl, rfl, rfl, rfl, rfl, rfl, rfl, trivial⟩ ?_
              refine Tr.loop (γ := G3) (σ := (Int × (List Int))) (Γσ := fun s g => [(1, (pSl 1 (cK .i64) a_1)), (2, (pPtr (cGProblem a_0))), (4, (pEq (.pointer (some ⟨b1, 0, none⟩)))), (6, (pEq (.pointer (some ⟨b13, 0, none⟩)))), (7, (pEq (.int .i64 v19))), (8, (pEq (.slice g.1 g.2.1 g.2.2))), (9, (pEq (.int .i64 s.1)))]) (Ωσ := fun s g => [oSl 2 1 (cK .i64) g.1 g.2.1 g.2.2 s.2, oBlk b13 [(pEq (.slice g31.1.1 x30.length g31.1.2)), (pEq (.slice g22.1.1.1 g22.1.1.2.1 g22.1.1.2.2))], oSS 22 2 1 (cK .i64) g31.1.1 x30.length g31.1.2 g31.2 x30, oSS 22 2 1 (cK .i64) g22.1.1.1 g22.1.1.2.1 g22.1.1.2.2 g22.1.2 v20, oBlk b1 [(pEq (.slice none 0 0)), (pEq (.slice none 0 0))]]) (g := (o34, 0, 0)) h ?_
              clear h
              rintro ⟨v37, v38⟩ g39 t h
              replace h : m_spec_PartProblem_B36 a_0 a_1 v19 v37 v38 = some t := h
              unfold m_spec_PartProblem_B36 at h
              refine Tr.weakO (Γ' := [(1, (pSl 1 (cK .i64) a_1)), (2, (pPtr (cGProblem a_0))), (4, (pEq (.pointer (some ⟨b1, 0, none⟩)))), (6, (pEq (.pointer (some ⟨b13, 0, none⟩)))), (7, (pEq (.int .i64 v19))), (8, (pEq (.slice g39.1 g39.2.1 g39.2.2))), (9, (pEq (.int .i64 v37)))]) (Ω' := [oSl 2 1 (cK .i64) g39.1 g39.2.1 g39.2.2 v38, oBlk b13 [(pEq (.slice g31.1.1 x30.length g31.1.2)), (pEq (.slice g22.1.1.1 g22.1.1.2.1 g22.1.1.2.2))], oSS 22 2 1 (cK .i64) g31.1.1 x30.length g31.1.2 g31.2 x30, oSS 22 2 1 (cK .i64) g22.1.1.1 g22.1.1.2.1 g22.1.1.2.2 g22.1.2 v20, oBlk b1 [(pEq (.slice none 0 0)), (pEq (.slice none 0 0))]]) rfl ⟨rfl, rfl, rfl, rfl, rfl, rfl, rfl, trivial⟩ ?_
              refine Tr.seq ?_
              refine Tr.seq ?_
              refine Tr.region ?_
              refine RegL.pure (p := (pEq (.int .i64 v37))) rfl rfl rfl (J_move rfl (Opd.tmp rfl)) ?_
              refine RegL.pure (p := (pSl 1 (cK .i64) a_1)) rfl rfl rfl (J_move rfl (Opd.tmp rfl)) ?_
              refine RegL.pure (p := (pEq (.int .i64 (a_1.length : Int)))) rfl rfl rfl (J_len rfl Try.underlying22 (Opd.tmp rfl) rfl) ?_
              refine RegL.pure (p := (pEq (.bool (decide (v37 < (a_1.length : Int)))))) rfl rfl rfl (J_bin rfl (Opd.tmp rfl) (Opd.tmp rfl) B_lss) ?_
              refine RegL.nil ?_
              refine Ct.then_tr ?_
              refine Tr.weak (Γ' := [(1, (pSl 1 (cK .i64) a_1)), (2, (pPtr (cGProblem a_0))), (4, (pEq (.pointer (some ⟨b1, 0, none⟩)))), (6, (pEq (.pointer (some ⟨b13, 0, none⟩)))), (7, (pEq (.int .i64 v19))), (8, (pEq (.slice g39.1 g39.2.1 g39.2.2))), (9, (pEq (.int .i64 v37))), (51, (pEq (.bool (decide (v37 < (a_1.length : Int))))))]) ⟨rfl, rfl, rfl, rfl, rfl, rfl, rfl, rfl, trivial⟩ ?_
              refine Tr.cond (Opd.tmp rfl) (fun hc => ?_) (fun hc => ?_)
              · replace h := bif_t hc h
                refine Tr.skip ?_
                refine Ct.then_tr ?_
                refine Tr.weak (Γ' := [(1, (pSl 1 (cK .i64) a_1)), (2, (pPtr (cGProblem a_0))), (4, (pEq (.pointer (some ⟨b1, 0, none⟩)))), (6, (pEq (.pointer (some ⟨b13, 0, none⟩)))), (7, (pEq (.int .i64 v19))), (8, (pEq (.slice g39.1 g39.2.1 g39.2.2))), (9, (pEq (.int .i64 v37)))]) ⟨rfl, rfl, rfl, rfl, rfl, rfl, rfl, trivial⟩ ?_
                refine Tr.seq ?_
                refine Tr.block ?_
                replace h := bind_some h; obtain ⟨x40, hx40, h⟩ := h
                replace h := bind_some h; obtain ⟨x41, hx41, h⟩ := h
                replace h := bind_some h; obtain ⟨x42, hx42, h⟩ := h
                replace h := bind_some h; obtain ⟨x43, hx43, h⟩ := h
                refine Tr.drawD (n := 78) (m := 17) (es := [some (Ent.mk [(8, (pEq (.slice g39.1 g39.2.1 g39.2.2)))] (pEq (.slice g39.1 g39.2.1 g39.2.2)) true), some (Ent.mk [(2, (pPtr (cGProblem a_0)))] (pPtr ((cSl 1 (cSl 1 (cK .i64))) a_0.Apart)) true), some (Ent.mk [(55, (pPtr ((cSl 1 (cSl 1 (cK .i64))) a_0.Apart)))] (pSl 1 (cSl 1 (cK .i64)) a_0.Apart) true), some (Ent.mk [(1, (pSl 1 (cK .i64) a_1))] (pSl 1 (cK .i64) a_1) true), some (Ent.mk [(7, (pEq (.int .i64 v19)))] (pEq (.int .i64 v19)) true), some (Ent.mk [(57, (pSl 1 (cK .i64) a_1)), (58, (pEq (.int .i64 v19)))] (pPtr ((cK .i64) x40)) true), some (Ent.mk [(59, (pPtr ((cK .i64) x40)))] (pEq (.int .i64 x40)) true), some (Ent.mk [(56, (pSl 1 (cSl 1 (cK .i64)) a_0.Apart)), (60, (pEq (.int .i64 x40)))] (pPtr ((cSl 1 (cK .i64)) x41)) true), some (Ent.mk [(61, (pPtr ((cSl 1 (cK .i64)) x41)))] (pSl 1 (cK .i64) x41) true), some (Ent.mk [(1, (pSl 1 (cK .i64) a_1))] (pSl 1 (cK .i64) a_1) true), some (Ent.mk [(9, (pEq (.int .i64 v37)))] (pEq (.int .i64 v37)) true), some (Ent.mk [(63, (pSl 1 (cK .i64) a_1)), (64, (pEq (.int .i64 v37)))] (pPtr ((cK .i64) x42)) true), some (Ent.mk [(65, (pPtr ((cK .i64) x42)))] (pEq (.int .i64 x42)) true), some (Ent.mk [(62, (pSl 1 (cK .i64) x41)), (66, (pEq (.int .i64 x42)))] (pPtr ((cK .i64) x43)) true), some (Ent.mk [(67, (pPtr ((cK .i64) x43)))] (pEq (.int .i64 x43)) true), some (Ent.mk [(68, (pEq (.int .i64 x43)))] (pSl 1 (cK .i64) ([x43] : (List Int))) true), none]) (rd := [[8], [2], [55], [1], [7], [57, 58], [59], [56, 60], [61], [1], [9], [63, 64], [65], [62, 66], [67], [68], [54, 69]]) rfl hmix (by kernel_rfl) fun hD => ?_
                replace h := bind_some h; obtain ⟨x44, hx44, h⟩ := h
                refine RD.step hD (es := [some (Ent.mk [(8, (pEq (.slice g39.1 g39.2.1 g39.2.2)))] (pEq (.slice g39.1 g39.2.1 g39.2.2)) true), some (Ent.mk [(2, (pPtr (cGProblem a_0)))] (pPtr ((cSl 1 (cSl 1 (cK .i64))) a_0.Apart)) true), some (Ent.mk [(55, (pPtr ((cSl 1 (cSl 1 (cK .i64))) a_0.Apart)))] (pSl 1 (cSl 1 (cK .i64)) a_0.Apart) true), some (Ent.mk [(1, (pSl 1 (cK .i64) a_1))] (pSl 1 (cK .i64) a_1) true), some (Ent.mk [(7, (pEq (.int .i64 v19)))] (pEq (.int .i64 v19)) true), some (Ent.mk [(57, (pSl 1 (cK .i64) a_1)), (58, (pEq (.int .i64 v19)))] (pPtr ((cK .i64) x40)) true), some (Ent.mk [(59, (pPtr ((cK .i64) x40)))] (pEq (.int .i64 x40)) true), some (Ent.mk [(56, (pSl 1 (cSl 1 (cK .i64)) a_0.Apart)), (60, (pEq (.int .i64 x40)))] (pPtr ((cSl 1 (cK .i64)) x41)) true), some (Ent.mk [(61, (pPtr ((cSl 1 (cK .i64)) x41)))] (pSl 1 (cK .i64) x41) true), some (Ent.mk [(1, (pSl 1 (cK .i64) a_1))] (pSl 1 (cK .i64) a_1) true), some (Ent.mk [(9, (pEq (.int .i64 v37)))] (pEq (.int .i64 v37)) true), some (Ent.mk [(63, (pSl 1 (cK .i64) a_1)), (64, (pEq (.int .i64 v37)))] (pPtr ((cK .i64) x42)) true), some (Ent.mk [(65, (pPtr ((cK .i64) x42)))] (pEq (.int .i64 x42)) true), some (Ent.mk [(62, (pSl 1 (cK .i64) x41)), (66, (pEq (.int .i64 x42)))] (pPtr ((cK .i64) x43)) true), some (Ent.mk [(67, (pPtr ((cK .i64) x43)))] (pEq (.int .i64 x43)) true), some (Ent.mk [(68, (pEq (.int .i64 x43)))] (pSl 1 (cK .i64) ([x43] : (List Int))) true), none]) (done := []) (mask := [true, true, true, true, true, true, true, true, true, true, true, true, true, true, true, true, false]) (γ := Option Addr × Nat) (p := fun g => pEq (.slice g.1 x44.length g.2)) (Ω' := fun g => [oSl 2 1 (cK .i64) g.1 x44.length g.2 x44, oBlk b13 [(pEq (.slice g31.1.1 x30.length g31.1.2)), (pEq (.slice g22.1.1.1 g22.1.1.2.1 g22.1.1.2.2))], oSS 22 2 1 (cK .i64) g31.1.1 x30.length g31.1.2 g31.2 x30, oSS 22 2 1 (cK .i64) g22.1.1.1 g22.1.1.2.1 g22.1.1.2.2 g22.1.2 v20, oBlk b1 [(pEq (.slice none 0 0)), (pEq (.slice none 0 0))]]) (es' := fun g45 => [some (Ent.mk [(8, (pEq (.slice g39.1 g39.2.1 g39.2.2)))] (pEq (.slice g39.1 g39.2.1 g39.2.2)) true), some (Ent.mk [(2, (pPtr (cGProblem a_0)))] (pPtr ((cSl 1 (cSl 1 (cK .i64))) a_0.Apart)) true), some (Ent.mk [(55, (pPtr ((cSl 1 (cSl 1 (cK .i64))) a_0.Apart)))] (pSl 1 (cSl 1 (cK .i64)) a_0.Apart) true), some (Ent.mk [(1, (pSl 1 (cK .i64) a_1))] (pSl 1 (cK .i64) a_1) true), some (Ent.mk [(7, (pEq (.int .i64 v19)))] (pEq (.int .i64 v19)) true), some (Ent.mk [(57, (pSl 1 (cK .i64) a_1)), (58, (pEq (.int .i64 v19)))] (pPtr ((cK .i64) x40)) true), some (Ent.mk [(59, (pPtr ((cK .i64) x40)))] (pEq (.int .i64 x40)) true), some (Ent.mk [(56, (pSl 1 (cSl 1 (cK .i64)) a_0.Apart)), (60, (pEq (.int .i64 x40)))] (pPtr ((cSl 1 (cK .i64)) x41)) true), some (Ent.mk [(61, (pPtr ((cSl 1 (cK .i64)) x41)))] (pSl 1 (cK .i64) x41) true), some (Ent.mk [(1, (pSl 1 (cK .i64) a_1))] (pSl 1 (cK .i64) a_1) true), some (Ent.mk [(9, (pEq (.int .i64 v37)))] (pEq (.int .i64 v37)) true), some (Ent.mk [(63, (pSl 1 (cK .i64) a_1)), (64, (pEq (.int .i64 v37)))] (pPtr ((cK .i64) x42)) true), some (Ent.mk [(65, (pPtr ((cK .i64) x42)))] (pEq (.int .i64 x42)) true), some (Ent.mk [(62, (pSl 1 (cK .i64) x41)), (66, (pEq (.int .i64 x42)))] (pPtr ((cK .i64) x43)) true), some (Ent.mk [(67, (pPtr ((cK .i64) x43)))] (pEq (.int .i64 x43)) true), some (Ent.mk [(68, (pEq (.int .i64 x43)))] (pSl 1 (cK .i64) ([x43] : (List Int))) true), some (Ent.mk [(54, (pEq (.slice g39.1 g39.2.1 g39.2.2))), (69, (pSl 1 (cK .i64) ([x43] : (List Int))))] (pEq (.slice g45.1 x44.length g45.2)) true)]) (Γc := [(54, (pEq (.slice g39.1 g39.2.1 g39.2.2))), (69, (pSl 1 (cK .i64) ([x43] : (List Int))))]) 16 rfl rfl rfl (by kernel_rfl) ⟨.inr ⟨(OpJ.w (J_move rfl (Opd.tmp rfl))), ⟨rfl, trivial⟩, rfl, rfl⟩, ⟨.inr ⟨(OpJ.w (J_fieldAddr rfl Try.underlying32 rfl sz27 (by decide) (Opd.tmp rfl) rfl)), ⟨rfl, trivial⟩, rfl, rfl⟩, ⟨.inr ⟨(OpJ.w (J_load rfl Try.isAgg27 (Opd.tmp rfl))), ⟨rfl, trivial⟩, rfl, rfl⟩, ⟨.inr ⟨(OpJ.w (J_move rfl (Opd.tmp rfl))), ⟨rfl, trivial⟩, rfl, rfl⟩, ⟨.inr ⟨(OpJ.w (J_move rfl (Opd.tmp rfl))), ⟨rfl, trivial⟩, rfl, rfl⟩, ⟨.inr ⟨(OpJ.w (J_idx rfl Try.underlying22 sz2 (Opd.tmp rfl) (Opd.tmp rfl) hx40)), ⟨rfl, rfl, trivial⟩, rfl, rfl⟩, ⟨.inr ⟨(OpJ.w (J_load rfl Try.isAgg2 (Opd.tmp rfl))), ⟨rfl, trivial⟩, rfl, rfl⟩, ⟨.inr ⟨(OpJ.w (J_idx rfl Try.underlying27 sz22 (Opd.tmp rfl) (Opd.tmp rfl) hx41)), ⟨rfl, rfl, trivial⟩, rfl, rfl⟩, ⟨.inr ⟨(OpJ.w (J_load rfl Try.isAgg22 (Opd.tmp rfl))), ⟨rfl, trivial⟩, rfl, rfl⟩, ⟨.inr ⟨(OpJ.w (J_move rfl (Opd.tmp rfl))), ⟨rfl, trivial⟩, rfl, rfl⟩, ⟨.inr ⟨(OpJ.w (J_move rfl (Opd.tmp rfl))), ⟨rfl, trivial⟩, rfl, rfl⟩, ⟨.inr ⟨(OpJ.w (J_idx rfl Try.underlying22 sz2 (Opd.tmp rfl) (Opd.tmp rfl) hx42)), ⟨rfl, rfl, trivial⟩, rfl, rfl⟩, ⟨.inr ⟨(OpJ.w (J_load rfl Try.isAgg2 (Opd.tmp rfl))), ⟨rfl, trivial⟩, rfl, rfl⟩, ⟨.inr ⟨(OpJ.w (J_idx rfl Try.underlying22 sz2 (Opd.tmp rfl) (Opd.tmp rfl) hx43)), ⟨rfl, rfl, trivial⟩, rfl, rfl⟩, ⟨.inr ⟨(OpJ.w (J_load rfl Try.isAgg2 (Opd.tmp rfl))), ⟨rfl, trivial⟩, rfl, rfl⟩, ⟨.inr ⟨(OpJ.w (J_buildSlice (l := ([x43] : (List Int))) (qss := [(0, (cK .i64) x43)]) rfl Try.underlying22 el2 rfl (Parts.cons (Part.one (Opd.tmp rfl) OneC.int) Parts.nil) rfl rfl)), ⟨rfl, trivial⟩, rfl, rfl⟩, trivial⟩⟩⟩⟩⟩⟩⟩⟩⟩⟩⟩⟩⟩⟩⟩⟩ rfl rfl ⟨rfl, rfl, trivial⟩ (fun _ => M_appendI rfl Try.underlying22 el2 (Opd.tmp rfl) (Opd.tmp rfl) hx44) (fun g45 => ⟨rfl, ⟨rfl, ⟨rfl, ⟨rfl, ⟨rfl, ⟨rfl, ⟨rfl, ⟨rfl, ⟨rfl, ⟨rfl, ⟨rfl, ⟨rfl, ⟨rfl, ⟨rfl, ⟨rfl, ⟨rfl, trivial⟩⟩⟩⟩⟩⟩⟩⟩⟩⟩⟩⟩⟩⟩⟩⟩) (fun g45 => rfl) rfl fun g45 => ?_
                refine RD.fin (es := [Ent.mk [(8, (pEq (.slice g39.1 g39.2.1 g39.2.2)))] (pEq (.slice g39.1 g39.2.1 g39.2.2)) true, Ent.mk [(2, (pPtr (cGProblem a_0)))] (pPtr ((cSl 1 (cSl 1 (cK .i64))) a_0.Apart)) true, Ent.mk [(55, (pPtr ((cSl 1 (cSl 1 (cK .i64))) a_0.Apart)))] (pSl 1 (cSl 1 (cK .i64)) a_0.Apart) true, Ent.mk [(1, (pSl 1 (cK .i64) a_1))] (pSl 1 (cK .i64) a_1) true, Ent.mk [(7, (pEq (.int .i64 v19)))] (pEq (.int .i64 v19)) true, Ent.mk [(57, (pSl 1 (cK .i64) a_1)), (58, (pEq (.int .i64 v19)))] (pPtr ((cK .i64) x40)) true, Ent.mk [(59, (pPtr ((cK .i64) x40)))] (pEq (.int .i64 x40)) true, Ent.mk [(56, (pSl 1 (cSl 1 (cK .i64)) a_0.Apart)), (60, (pEq (.int .i64 x40)))] (pPtr ((cSl 1 (cK .i64)) x41)) true, Ent.mk [(61, (pPtr ((cSl 1 (cK .i64)) x41)))] (pSl 1 (cK .i64) x41) true, Ent.mk [(1, (pSl 1 (cK .i64) a_1))] (pSl 1 (cK .i64) a_1) true, Ent.mk [(9, (pEq (.int .i64 v37)))] (pEq (.int .i64 v37)) true, Ent.mk [(63, (pSl 1 (cK .i64) a_1)), (64, (pEq (.int .i64 v37)))] (pPtr ((cK .i64) x42)) true, Ent.mk [(65, (pPtr ((cK .i64) x42)))] (pEq (.int .i64 x42)) true, Ent.mk [(62, (pSl 1 (cK .i64) x41)), (66, (pEq (.int .i64 x42)))] (pPtr ((cK .i64) x43)) true, Ent.mk [(67, (pPtr ((cK .i64) x43)))] (pEq (.int .i64 x43)) true, Ent.mk [(68, (pEq (.int .i64 x43)))] (pSl 1 (cK .i64) ([x43] : (List Int))) true, Ent.mk [(54, (pEq (.slice g39.1 g39.2.1 g39.2.2))), (69, (pSl 1 (cK .i64) ([x43] : (List Int))))] (pEq (.slice g45.1 x44.length g45.2)) true]) (done := [16]) hD ⟨.inr ⟨(OpJ.w (J_move rfl (Opd.tmp rfl))), ⟨rfl, trivial⟩, rfl, rfl⟩, ⟨.inr ⟨(OpJ.w (J_fieldAddr rfl Try.underlying32 rfl sz27 (by decide) (Opd.tmp rfl) rfl)), ⟨rfl, trivial⟩, rfl, rfl⟩, ⟨.inr ⟨(OpJ.w (J_load rfl Try.isAgg27 (Opd.tmp rfl))), ⟨rfl, trivial⟩, rfl, rfl⟩, ⟨.inr ⟨(OpJ.w (J_move rfl (Opd.tmp rfl))), ⟨rfl, trivial⟩, rfl, rfl⟩, ⟨.inr ⟨(OpJ.w (J_move rfl (Opd.tmp rfl))), ⟨rfl, trivial⟩, rfl, rfl⟩, ⟨.inr ⟨(OpJ.w (J_idx rfl Try.underlying22 sz2 (Opd.tmp rfl) (Opd.tmp rfl) hx40)), ⟨rfl, rfl, trivial⟩, rfl, rfl⟩, ⟨.inr ⟨(OpJ.w (J_load rfl Try.isAgg2 (Opd.tmp rfl))), ⟨rfl, trivial⟩, rfl, rfl⟩, ⟨.inr ⟨(OpJ.w (J_idx rfl Try.underlying27 sz22 (Opd.tmp rfl) (Opd.tmp rfl) hx41)), ⟨rfl, rfl, trivial⟩, rfl, rfl⟩, ⟨.inr ⟨(OpJ.w (J_load rfl Try.isAgg22 (Opd.tmp rfl))), ⟨rfl, trivial⟩, rfl, rfl⟩, ⟨.inr ⟨(OpJ.w (J_move rfl (Opd.tmp rfl))), ⟨rfl, trivial⟩, rfl, rfl⟩, ⟨.inr ⟨(OpJ.w (J_move rfl (Opd.tmp rfl))), ⟨rfl, trivial⟩, rfl, rfl⟩, ⟨.inr ⟨(OpJ.w (J_idx rfl Try.underlying22 sz2 (Opd.tmp rfl) (Opd.tmp rfl) hx42)), ⟨rfl, rfl, trivial⟩, rfl, rfl⟩, ⟨.inr ⟨(OpJ.w (J_load rfl Try.isAgg2 (Opd.tmp rfl))), ⟨rfl, trivial⟩, rfl, rfl⟩, ⟨.inr ⟨(OpJ.w (J_idx rfl Try.underlying22 sz2 (Opd.tmp rfl) (Opd.tmp rfl) hx43)), ⟨rfl, rfl, trivial⟩, rfl, rfl⟩, ⟨.inr ⟨(OpJ.w (J_load rfl Try.isAgg2 (Opd.tmp rfl))), ⟨rfl, trivial⟩, rfl, rfl⟩, ⟨.inr ⟨(OpJ.w (J_buildSlice (l := ([x43] : (List Int))) (qss := [(0, (cK .i64) x43)]) rfl Try.underlying22 el2 rfl (Parts.cons (Part.one (Opd.tmp rfl) OneC.int) Parts.nil) rfl rfl)), ⟨rfl, trivial⟩, rfl, rfl⟩, ⟨.inl rfl, trivial⟩⟩⟩⟩⟩⟩⟩⟩⟩⟩⟩⟩⟩⟩⟩⟩⟩ ?_
                refine RegL.pure (p := (pEq (.slice g45.1 x44.length g45.2))) rfl rfl rfl (J_assign rfl (Opd.tmp rfl)) ?_
                refine RegL.nil ?_
                refine Ct.blk_normal ?_
                refine Ct.then_tr ?_
                refine Tr.weak (Γ' := [(1, (pSl 1 (cK .i64) a_1)), (2, (pPtr (cGProblem a_0))), (4, (pEq (.pointer (some ⟨b1, 0, none⟩)))), (6, (pEq (.pointer (some ⟨b13, 0, none⟩)))), (7, (pEq (.int .i64 v19))), (8, (pEq (.slice g45.1 x44.length g45.2))), (9, (pEq (.int .i64 v37)))]) ⟨rfl, rfl, rfl, rfl, rfl, rfl, rfl, trivial⟩ ?_
                refine Tr.region ?_
                refine RegL.pure (p := (pEq (.int .i64 v37))) rfl rfl rfl (J_move rfl (Opd.tmp rfl)) ?_
                refine RegL.pure (p := (pEq (.int .i64 (w64 (v37 + (1 : Int)))))) rfl rfl rfl (J_bin rfl (Opd.tmp rfl) Opd.con B_add) ?_
                refine RegL.pure (p := (pEq (.int .i64 (w64 (v37 + (1 : Int)))))) rfl rfl rfl (J_assign rfl (Opd.tmp rfl)) ?_
                refine RegL.nil ?_
                replace h := Option.some.inj h; subst h
                exact Ct.again (g45.1, x44.length, g45.2) rfl ⟨rfl, rfl, rfl, rfl, rfl, rfl, rfl, trivial⟩
              · replace h := bif_f hc h
                refine Tr.exit ?_
                refine Ct.then_exit ?_
                replace h := map_some h; obtain ⟨r1, h, rfl⟩ := h
                refine Ct.out_exit fun e => ?_
                subst e
                refine Ct.blk_exit ?_
                replace h := Option.some.inj h; subst h
                exact Ct.mid (g39.1, g39.2.1, g39.2.2) rfl ⟨rfl, rfl, rfl, rfl, rfl, rfl, trivial⟩
            · clear hx35
              refine Ct.then_tr ?_
              refine Tr.weak (Γ' := [(1, (pSl 1 (cK .i64) a_1)), (2, (pPtr (cGProblem a_0))), (4, (pEq (.pointer (some ⟨b1, 0, none⟩)))), (6, (pEq (.pointer (some ⟨b13, 0, none⟩)))), (7, (pEq (.int .i64 v19))), (8, (pEq (.slice g46.1 g46.2.1 g46.2.2)))]) ⟨rfl, rfl, rfl, rfl, rfl, rfl, trivial⟩ ?_
              refine Tr.region ?_
              refine RegL.pure (p := (pEq (.pointer (some ⟨b13, 1, none⟩)))) rfl rfl rfl (J_fieldAddrE rfl Try.underlying32 rfl sz27 (by decide) (Opd.tmp rfl) rfl) ?_
              refine RegL.pureW (p := (pEq (.slice g22.1.1.1 g22.1.1.2.1 g22.1.1.2.2))) rfl rfl rfl (W_load (i := 1) rfl Try.isAgg27 (Opd.tmp rfl) rfl rfl) ?_
              refine RegL.pure (p := (pEq (.slice g46.1 g46.2.1 g46.2.2))) rfl rfl rfl (J_move rfl (Opd.tmp rfl)) ?_
              refine RegL.step (γ := Option Addr) (p := fun a => pEq (.slice a 1 1)) (Ω' := fun a => [oSl 22 1 cHdr a 1 1 [(g46.1, g46.2.1, g46.2.2)], oSl 2 1 (cK .i64) g46.1 g46.2.1 g46.2.2 x35, oBlk b13 [(pEq (.slice g31.1.1 x30.length g31.1.2)), (pEq (.slice g22.1.1.1 g22.1.1.2.1 g22.1.1.2.2))], oSS 22 2 1 (cK .i64) g31.1.1 x30.length g31.1.2 g31.2 x30, oSS 22 2 1 (cK .i64) g22.1.1.1 g22.1.1.2.1 g22.1.1.2.2 g22.1.2 v20, oBlk b1 [(pEq (.slice none 0 0)), (pEq (.slice none 0 0))]]) rfl rfl rfl (M_buildSlice (qss := [(0, cHdr (g46.1, g46.2.1, g46.2.2))]) rfl Try.underlying27 elh22 rfl (Parts.cons (Part.one (Opd.tmp rfl) OneC.slice) Parts.nil) rfl rfl) fun o47 => ?_
              refine RegL.re (Ω2 := [oSS 22 2 1 (cK .i64) o47 1 1 [(g46.1, g46.2.1, g46.2.2)] [x35], oBlk b13 [(pEq (.slice g31.1.1 x30.length g31.1.2)), (pEq (.slice g22.1.1.1 g22.1.1.2.1 g22.1.1.2.2))], oSS 22 2 1 (cK .i64) g31.1.1 x30.length g31.1.2 g31.2 x30, oSS 22 2 1 (cK .i64) g22.1.1.1 g22.1.1.2.1 g22.1.1.2.2 g22.1.2 v20, oBlk b1 [(pEq (.slice none 0 0)), (pEq (.slice none 0 0))]]) (fun h => nest_one h) ?_
              replace h := bind_some h; obtain ⟨x49, hx49, h⟩ := h
              refine RegL.re (Ω2 := [oSS 22 2 1 (cK .i64) g22.1.1.1 g22.1.1.2.1 g22.1.1.2.2 g22.1.2 v20, oSS 22 2 1 (cK .i64) o47 1 1 [(g46.1, g46.2.1, g46.2.2)] [x35], oBlk b13 [(pEq (.slice g31.1.1 x30.length g31.1.2)), (pEq (.slice g22.1.1.1 g22.1.1.2.1 g22.1.1.2.2))], oSS 22 2 1 (cK .i64) g31.1.1 x30.length g31.1.2 g31.2 x30, oBlk b1 [(pEq (.slice none 0 0)), (pEq (.slice none 0 0))]]) (fun h => SatO.pick 3 h) ?_
              refine RegL.step (γ := (Option Addr × Nat) × List G3) (p := fun g => pEq (.slice g.1.1 x49.length g.1.2)) (Ω' := fun g => [oSS 22 2 1 (cK .i64) g.1.1 x49.length g.1.2 g.2 x49, oBlk b13 [(pEq (.slice g31.1.1 x30.length g31.1.2)), (pEq (.slice g22.1.1.1 g22.1.1.2.1 g22.1.1.2.2))], oSS 22 2 1 (cK .i64) g31.1.1 x30.length g31.1.2 g31.2 x30, oBlk b1 [(pEq (.slice none 0 0)), (pEq (.slice none 0 0))]]) rfl rfl rfl (M_nestAppend rfl Try.underlying27 elh22 (Opd.tmp rfl) (Opd.tmp rfl) hx49) fun g50 => ?_
              refine RegL.pure (p := (pEq (.pointer (some ⟨b13, 1, none⟩)))) rfl rfl rfl (J_fieldAddrE rfl Try.underlying32 rfl sz27 (by decide) (Opd.tmp rfl) rfl) ?_
              refine RegL.re (Ω2 := [oBlk b13 [(pEq (.slice g31.1.1 x30.length g31.1.2)), (pEq (.slice g22.1.1.1 g22.1.1.2.1 g22.1.1.2.2))], oSS 22 2 1 (cK .i64) g50.1.1 x49.length g50.1.2 g50.2 x49, oSS 22 2 1 (cK .i64) g31.1.1 x30.length g31.1.2 g31.2 x30, oBlk b1 [(pEq (.slice none 0 0)), (pEq (.slice none 0 0))]]) (fun h => SatO.pick 1 h) ?_
              refine RegL.stepN (γ := Unit) (p := fun _ => pAny) (Ω' := fun _ => [oBlk b13 [(pEq (.slice g31.1.1 x30.length g31.1.2)), (pEq (.slice g50.1.1 x49.length g50.1.2))], oSS 22 2 1 (cK .i64) g50.1.1 x49.length g50.1.2 g50.2 x49, oSS 22 2 1 (cK .i64) g31.1.1 x30.length g31.1.2 g31.2 x30, oBlk b1 [(pEq (.slice none 0 0)), (pEq (.slice none 0 0))]]) rfl rfl (M_store rfl sz27 (Opd.tmp rfl) (Opd.tmp rfl) OneC.slice rfl rfl) fun g51 => ?_
              refine RegL.nil ?_
              refine Ct.blk_normal ?_
              refine Ct.then_tr ?_
              refine Tr.weak (Γ' := [(1, (pSl 1 (cK .i64) a_1)), (2, (pPtr (cGProblem a_0))), (4, (pEq (.pointer (some ⟨b1, 0, none⟩)))), (6, (pEq (.pointer (some ⟨b13, 0, none⟩)))), (7, (pEq (.int .i64 v19)))]) ⟨rfl, rfl, rfl, rfl, rfl, trivial⟩ ?_
              refine Tr.region ?_
              refine RegL.pure (p := (pEq (.int .i64 v19))) rfl rfl rfl (J_move rfl (Opd.tmp rfl)) ?_
              refine RegL.pure (p := (pEq (.int .i64 (w64 (v19 + (1 : Int)))))) rfl rfl rfl (J_bin rfl (Opd.tmp rfl) Opd.con B_add) ?_
              refine RegL.pure (p := (pEq (.int .i64 (w64 (v19 + (1 : Int)))))) rfl rfl rfl (J_assign rfl (Opd.tmp rfl)) ?_
              refine RegL.nil ?_
              refine Ct.re (Ω2 := [oBlk b1 [(pEq (.slice none 0 0)), (pEq (.slice none 0 0))], oBlk b13 [(pEq (.slice g31.1.1 x30.length g31.1.2)), (pEq (.slice g50.1.1 x49.length g50.1.2))], oSS 22 2 1 (cK .i64) g50.1.1 x49.length g50.1.2 g50.2 x49, oSS 22 2 1 (cK .i64) g31.1.1 x30.length g31.1.2 g31.2 x30]) (fun h => SatO.pick 3 h) ?_
              refine Ct.re (Ω2 := [oBlk b13 [(pEq (.slice g31.1.1 x30.length g31.1.2)), (pEq (.slice g50.1.1 x49.length g50.1.2))], oBlk b1 [(pEq (.slice none 0 0)), (pEq (.slice none 0 0))], oSS 22 2 1 (cK .i64) g50.1.1 x49.length g50.1.2 g50.2 x49, oSS 22 2 1 (cK .i64) g31.1.1 x30.length g31.1.2 g31.2 x30]) (fun h => SatO.pick 1 h) ?_
              refine Ct.re (Ω2 := [oSS 22 2 1 (cK .i64) g31.1.1 x30.length g31.1.2 g31.2 x30, oBlk b13 [(pEq (.slice g31.1.1 x30.length g31.1.2)), (pEq (.slice g50.1.1 x49.length g50.1.2))], oBlk b1 [(pEq (.slice none 0 0)), (pEq (.slice none 0 0))], oSS 22 2 1 (cK .i64) g50.1.1 x49.length g50.1.2 g50.2 x49]) (fun h => SatO.pick 3 h) ?_
              refine Ct.re (Ω2 := [oSS 22 2 1 (cK .i64) g50.1.1 x49.length g50.1.2 g50.2 x49, oSS 22 2 1 (cK .i64) g31.1.1 x30.length g31.1.2 g31.2 x30, oBlk b13 [(pEq (.slice g31.1.1 x30.length g31.1.2)), (pEq (.slice g50.1.1 x49.length g50.1.2))], oBlk b1 [(pEq (.slice none 0 0)), (pEq (.slice none 0 0))]]) (fun h => SatO.pick 3 h) ?_
              replace h := Option.some.inj h; subst h
              exact Ct.again (((g50.1.1, x49.length, g50.1.2), g50.2), ((g31.1.1, x30.length, g31.1.2), g31.2)) rfl ⟨rfl, rfl, rfl, rfl, rfl, trivial⟩
          · replace h := bif_f hc h
            refine Tr.exit ?_
            refine Ct.then_exit ?_
            replace h := map_some h; obtain ⟨r1, h, rfl⟩ := h
            refine Ct.out_exit fun e => ?_
            subst e
            refine Ct.blk_exit ?_
            replace h := Option.some.inj h; subst h
            exact Ct.mid (((g22.1.1.1, g22.1.1.2.1, g22.1.1.2.2), g22.1.2), ((g22.2.1.1, g22.2.1.2.1, g22.2.1.2.2), g22.2.2)) rfl ⟨rfl, rfl, trivial⟩
        · clear hx17
          refine Ct.then_tr ?_
          refine Tr.weak (Γ' := [(4, (pEq (.pointer (some ⟨b1, 0, none⟩)))), (6, (pEq (.pointer (some ⟨b13, 0, none⟩))))]) ⟨rfl, rfl, trivial⟩ ?_
          refine Tr.seq ?_
          refine Tr.region ?_
          refine RegL.pureW (p := (pAgg [(pEq (.slice g52.2.1.1 g52.2.1.2.1 g52.2.1.2.2)), (pEq (.slice g52.1.1.1 g52.1.1.2.1 g52.1.1.2.2))])) rfl rfl rfl (W_loadA (i := 2) rfl Try.isAgg32 sz32 (Opd.tmp rfl) rfl rfl) ?_
          refine RegL.re (Ω2 := [oBlk b1 [(pEq (.slice none 0 0)), (pEq (.slice none 0 0))], oSS 22 2 1 (cK .i64) g52.1.1.1 g52.1.1.2.1 g52.1.1.2.2 g52.1.2 x17.1, oSS 22 2 1 (cK .i64) g52.2.1.1 g52.2.1.2.1 g52.2.1.2.2 g52.2.2 x17.2, oBlk b13 [(pEq (.slice g52.2.1.1 g52.2.1.2.1 g52.2.1.2.2)), (pEq (.slice g52.1.1.1 g52.1.1.2.1 g52.1.1.2.2))]]) (fun h => SatO.pick 3 h) ?_
          refine RegL.stepN (γ := Unit) (p := fun _ => pAny) (Ω' := fun _ => [oBlk b1 [(pEq (.slice g52.2.1.1 g52.2.1.2.1 g52.2.1.2.2)), (pEq (.slice g52.1.1.1 g52.1.1.2.1 g52.1.1.2.2))], oSS 22 2 1 (cK .i64) g52.1.1.1 g52.1.1.2.1 g52.1.1.2.2 g52.1.2 x17.1, oSS 22 2 1 (cK .i64) g52.2.1.1 g52.2.1.2.1 g52.2.1.2.2 g52.2.2 x17.2, oBlk b13 [(pEq (.slice g52.2.1.1 g52.2.1.2.1 g52.2.1.2.2)), (pEq (.slice g52.1.1.1 g52.1.1.2.1 g52.1.1.2.2))]]) rfl rfl (M_storeA rfl sz32 (Opd.tmp rfl) (Opd.tmp rfl) (fun _ _ _ h => ones_of ((OneCs.cons OneC.slice (OneCs.cons OneC.slice OneCs.nil))) h) rfl rfl) fun g53 => ?_
          refine RegL.pure (p := (pEq (.int .i64 (0 : Int)))) rfl rfl rfl (J_assign rfl Opd.con) ?_
          refine RegL.nil ?_
          refine Ct.then_tr ?_
          refine Tr.weak (Γ' := [(4, (pEq (.pointer (some ⟨b1, 0, none⟩)))), (5, (pEq (.int .i64 (0 : Int))))]) ⟨rfl, rfl, trivial⟩ ?_
          refine Tr.ret ?_
          refine Ct.re (Ω2 := [oSS 22 2 1 (cK .i64) g52.1.1.1 g52.1.1.2.1 g52.1.1.2.2 g52.1.2 x17.1, oBlk b1 [(pEq (.slice g52.2.1.1 g52.2.1.2.1 g52.2.1.2.2)), (pEq (.slice g52.1.1.1 g52.1.1.2.1 g52.1.1.2.2))], oSS 22 2 1 (cK .i64) g52.2.1.1 g52.2.1.2.1 g52.2.1.2.2 g52.2.2 x17.2, oBlk b13 [(pEq (.slice g52.2.1.1 g52.2.1.2.1 g52.2.1.2.2)), (pEq (.slice g52.1.1.1 g52.1.1.2.1 g52.1.1.2.2))]]) (fun h => SatO.pick 1 h) ?_
          refine Ct.re (Ω2 := [oSS 22 2 1 (cK .i64) g52.2.1.1 g52.2.1.2.1 g52.2.1.2.2 g52.2.2 x17.2, oSS 22 2 1 (cK .i64) g52.1.1.1 g52.1.1.2.1 g52.1.1.2.2 g52.1.2 x17.1, oBlk b1 [(pEq (.slice g52.2.1.1 g52.2.1.2.1 g52.2.1.2.2)), (pEq (.slice g52.1.1.1 g52.1.1.2.1 g52.1.1.2.2))], oBlk b13 [(pEq (.slice g52.2.1.1 g52.2.1.2.1 g52.2.1.2.2)), (pEq (.slice g52.1.1.1 g52.1.1.2.1 g52.1.1.2.2))]]) (fun h => SatO.pick 2 h) ?_
          refine Ct.re (Ω2 := [oBlk b13 [(pEq (.slice g52.2.1.1 g52.2.1.2.1 g52.2.1.2.2)), (pEq (.slice g52.1.1.1 g52.1.1.2.1 g52.1.1.2.2))], oSS 22 2 1 (cK .i64) g52.2.1.1 g52.2.1.2.1 g52.2.1.2.2 g52.2.2 x17.2, oSS 22 2 1 (cK .i64) g52.1.1.1 g52.1.1.2.1 g52.1.1.2.2 g52.1.2 x17.1, oBlk b1 [(pEq (.slice g52.2.1.1 g52.2.1.2.1 g52.2.1.2.2)), (pEq (.slice g52.1.1.1 g52.1.1.2.1 g52.1.1.2.2))]]) (fun h => SatO.pick 3 h) ?_
          refine Ct.re (Ω2 := [oBlk b1 [(pEq (.slice g52.2.1.1 g52.2.1.2.1 g52.2.1.2.2)), (pEq (.slice g52.1.1.1 g52.1.1.2.1 g52.1.1.2.2))], oBlk b13 [(pEq (.slice g52.2.1.1 g52.2.1.2.1 g52.2.1.2.2)), (pEq (.slice g52.1.1.1 g52.1.1.2.1 g52.1.1.2.2))], oSS 22 2 1 (cK .i64) g52.2.1.1 g52.2.1.2.1 g52.2.1.2.2 g52.2.2 x17.2, oSS 22 2 1 (cK .i64) g52.1.1.1 g52.1.1.2.1 g52.1.1.2.2 g52.1.2 x17.1]) (fun h => SatO.pick 3 h) ?_
          replace h := Option.some.inj h; subst h
          exact Ct.retH2 (Ωx := [oBlk b1 [(pEq (.slice g52.2.1.1 g52.2.1.2.1 g52.2.1.2.2)), (pEq (.slice g52.1.1.1 g52.1.1.2.1 g52.1.1.2.2))], oBlk b13 [(pEq (.slice g52.2.1.1 g52.2.1.2.1 g52.2.1.2.2)), (pEq (.slice g52.1.1.1 g52.1.1.2.1 g52.1.1.2.2))]]) (((g52.2.1.1, g52.2.1.2.1, g52.2.1.2.2), g52.2.2), ((g52.1.1.1, g52.1.1.2.1, g52.1.1.2.2), g52.1.2)) rfl (RvOk.cellA (i := 0) Try.isAgg32 sz32 rfl rfl rfl) (RvOk.tmp rfl) rfl rfl

theorem c_spec_PartProblem {a_0 : GProblem} {a_1 : (List Int)} {r : (GProblem × Int)} (h : m_spec_PartProblem a_0 a_1 = some r) : CallJ Try.prog 36 [(pAgg (cGProblem a_0)), (pSl 1 (cK .i64) a_1)] (pTup [(pAgg (cGProblem r.1)), (pEq (.int .i64 r.2))]) :=
  CallH.frozen (o_spec_PartProblem h) (fun g => (Conv.tup (Convs.cons (Conv.agg (Convs.cons (Conv.nest 0 (fun _ => rfl) rfl) (Convs.cons (Conv.nest 1 (fun _ => rfl) rfl) Convs.nil))) (Convs.cons Conv.refl Convs.nil))))

theorem c_slices_IndexFunc_SSint64_int64 {s_0 : (List (List Int))} {f_1 : ((List Int) → Option Bool)} {r : Int} (h : m_slices_IndexFunc_SSint64_int64 s_0 f_1 = some r) : CallJ Try.prog 106 [(pSl 1 (cSl 1 (cK .i64)) s_0), (pFn Try.prog (fun x => [(pSl 1 (cK .i64) x)]) f_1 (fun y => (pEq (.bool y))))] (pEq (.int .i64 r)) := by
  unfold m_slices_IndexFunc_SSint64_int64 at h
  refine CallJ.enterH Try.func106 rfl Try.ntmps106 rfl fun W I0 H => ?_
  refine Tr.weak (Γ' := [(0, (pSl 1 (cSl 1 (cK .i64)) s_0)), (1, (pFn Try.prog (fun x => [(pSl 1 (cK .i64) x)]) f_1 (fun y => (pEq (.bool y)))))]) ⟨rfl, rfl, trivial⟩ ?_
  refine Tr.seq ?_
  refine Tr.region ?_
  refine RegL.pure (p := (pEq (.int .i64 (0 : Int)))) rfl rfl rfl (J_assign rfl Opd.con) ?_
  refine RegL.nil ?_
  refine Ct.then_tr ?_
  refine Tr.weak (Γ' := [(0, (pSl 1 (cSl 1 (cK .i64)) s_0)), (1, (pFn Try.prog (fun x => [(pSl 1 (cK .i64) x)]) f_1 (fun y => (pEq (.bool y)))))]) ⟨rfl, rfl, trivial⟩ ?_
  refine Tr.seq ?_
  refine Tr.seq ?_
  refine Tr.region ?_
  refine RegL.pure (p := (pSl 1 (cSl 1 (cK .i64)) s_0)) rfl rfl rfl (J_move rfl (Opd.tmp rfl)) ?_
  refine RegL.pure (p := (pEq (.int .i64 (s_0.length : Int)))) rfl rfl rfl (J_len rfl Try.underlying27 (Opd.tmp rfl) rfl) ?_
  refine RegL.pure (p := (pEq (.int .i64 (0 : Int)))) rfl rfl rfl (J_move rfl Opd.con) ?_
  refine RegL.nil ?_
  refine Ct.then_tr ?_
  refine Tr.weak (Γ' := [(0, (pSl 1 (cSl 1 (cK .i64)) s_0)), (1, (pFn Try.prog (fun x => [(pSl 1 (cK .i64) x)]) f_1 (fun y => (pEq (.bool y))))), (7, (pEq (.int .i64 (s_0.length : Int)))), (8, (pEq (.int .i64 (0 : Int))))]) ⟨rfl, rfl, rfl, rfl, trivial⟩ ?_
  refine Tr.block ?_
  refine Tr.weak (Γ' := [(0, (pSl 1 (cSl 1 (cK .i64)) s_0)), (1, (pFn Try.prog (fun x => [(pSl 1 (cK .i64) x)]) f_1 (fun y => (pEq (.bool y))))), (7, (pEq (.int .i64 (s_0.length : Int)))), (8, (pEq (.int .i64 (0 : Int))))]) ⟨rfl, rfl, rfl, rfl, trivial⟩ ?_
  refine Tr.loop (γ := Unit) (σ := Int) (Γσ := fun s g => [(0, (pSl 1 (cSl 1 (cK .i64)) s_0)), (1, (pFn Try.prog (fun x => [(pSl 1 (cK .i64) x)]) f_1 (fun y => (pEq (.bool y))))), (7, (pEq (.int .i64 (s_0.length : Int)))), (8, (pEq (.int .i64 s)))]) (Ωσ := fun s g => []) (g := ()) h ?_
  clear h
  rintro v2 g3 t h
  replace h : m_slices_IndexFunc_SSint64_int64_B1 s_0 f_1 v2 = some t := h
  unfold m_slices_IndexFunc_SSint64_int64_B1 at h
  refine Tr.weakO (Γ' := [(0, (pSl 1 (cSl 1 (cK .i64)) s_0)), (1, (pFn Try.prog (fun x => [(pSl 1 (cK .i64) x)]) f_1 (fun y => (pEq (.bool y))))), (7, (pEq (.int .i64 (s_0.length : Int)))), (8, (pEq (.int .i64 v2)))]) (Ω' := []) rfl ⟨rfl, rfl, rfl, rfl, trivial⟩ ?_
  refine Tr.seq ?_
  refine Tr.region ?_
  refine RegL.pure (p := (pEq (.bool (decide (v2 < (s_0.length : Int)))))) rfl rfl rfl (J_bin rfl (Opd.tmp rfl) (Opd.tmp rfl) B_lss) ?_
  refine RegL.nil ?_
  refine Ct.then_tr ?_
  refine Tr.weak (Γ' := [(0, (pSl 1 (cSl 1 (cK .i64)) s_0)), (1, (pFn Try.prog (fun x => [(pSl 1 (cK .i64) x)]) f_1 (fun y => (pEq (.bool y))))), (7, (pEq (.int .i64 (s_0.length : Int)))), (8, (pEq (.int .i64 v2))), (9, (pEq (.bool (decide (v2 < (s_0.length : Int))))))]) ⟨rfl, rfl, rfl, rfl, rfl, trivial⟩ ?_
  refine Tr.seq ?_
  refine Tr.cond (Opd.tmp rfl) (fun hc => ?_) (fun hc => ?_)
  · replace h := bif_t hc h
    refine Tr.skip ?_
    refine Ct.then_tr ?_
    refine Tr.weak (Γ' := [(0, (pSl 1 (cSl 1 (cK .i64)) s_0)), (1, (pFn Try.prog (fun x => [(pSl 1 (cK .i64) x)]) f_1 (fun y => (pEq (.bool y))))), (7, (pEq (.int .i64 (s_0.length : Int)))), (8, (pEq (.int .i64 v2)))]) ⟨rfl, rfl, rfl, rfl, trivial⟩ ?_
    refine Tr.seq ?_
    refine Tr.block ?_
    refine Tr.seq ?_
    refine Tr.region ?_
    refine RegL.pure (p := (pEq (.int .i64 v2))) rfl rfl rfl (J_move rfl (Opd.tmp rfl)) ?_
    refine RegL.pure (p := (pEq (.int .i64 v2))) rfl rfl rfl (J_assign rfl (Opd.tmp rfl)) ?_
    refine RegL.nil ?_
    refine Ct.then_tr ?_
    refine Tr.weak (Γ' := [(0, (pSl 1 (cSl 1 (cK .i64)) s_0)), (1, (pFn Try.prog (fun x => [(pSl 1 (cK .i64) x)]) f_1 (fun y => (pEq (.bool y))))), (5, (pEq (.int .i64 v2))), (7, (pEq (.int .i64 (s_0.length : Int)))), (8, (pEq (.int .i64 v2)))]) ⟨rfl, rfl, rfl, rfl, rfl, trivial⟩ ?_
    refine Tr.seq ?_
    refine Tr.region ?_
    refine RegL.pure (p := (pFn Try.prog (fun x => [(pSl 1 (cK .i64) x)]) f_1 (fun y => (pEq (.bool y))))) rfl rfl rfl (J_move rfl (Opd.tmp rfl)) ?_
    refine RegL.pure (p := (pSl 1 (cSl 1 (cK .i64)) s_0)) rfl rfl rfl (J_move rfl (Opd.tmp rfl)) ?_
    refine RegL.pure (p := (pEq (.int .i64 v2))) rfl rfl rfl (J_move rfl (Opd.tmp rfl)) ?_
    replace h := bind_some h; obtain ⟨x4, hx4, h⟩ := h
    refine RegL.pure (p := (pPtr ((cSl 1 (cK .i64)) x4))) rfl rfl rfl (J_idx rfl Try.underlying27 sz22 (Opd.tmp rfl) (Opd.tmp rfl) hx4) ?_
    refine RegL.pure (p := (pSl 1 (cK .i64) x4)) rfl rfl rfl (J_load rfl Try.isAgg22 (Opd.tmp rfl)) ?_
    replace h := bind_some h; obtain ⟨x5, hx5, h⟩ := h
    refine RegL.pure (p := (pEq (.bool x5))) rfl rfl rfl (J_callv (x := x4) rfl (Opd.tmp rfl) rfl (Opds.cons (Opd.tmp rfl) Opds.nil) hx5 rfl) ?_
    refine RegL.nil ?_
    refine Ct.then_tr ?_
    refine Tr.weak (Γ' := [(0, (pSl 1 (cSl 1 (cK .i64)) s_0)), (1, (pFn Try.prog (fun x => [(pSl 1 (cK .i64) x)]) f_1 (fun y => (pEq (.bool y))))), (5, (pEq (.int .i64 v2))), (7, (pEq (.int .i64 (s_0.length : Int)))), (8, (pEq (.int .i64 v2))), (16, (pEq (.bool x5)))]) ⟨rfl, rfl, rfl, rfl, rfl, rfl, trivial⟩ ?_
    refine Tr.cond (Opd.tmp rfl) (fun hc => ?_) (fun hc => ?_)
    · replace h := bif_t hc h
      refine Tr.seq ?_
      refine Tr.region ?_
      refine RegL.pure (p := (pEq (.int .i64 v2))) rfl rfl rfl (J_move rfl (Opd.tmp rfl)) ?_
      refine RegL.pure (p := (pEq (.int .i64 v2))) rfl rfl rfl (J_assign rfl (Opd.tmp rfl)) ?_
      refine RegL.nil ?_
      refine Ct.then_tr ?_
      refine Tr.weak (Γ' := [(4, (pEq (.int .i64 v2)))]) ⟨rfl, trivial⟩ ?_
      refine Tr.ret ?_
      refine Ct.blk_ret ?_
      refine Ct.then_ret ?_
      replace h := map_some h; obtain ⟨r1, h, rfl⟩ := h
      refine Ct.out_ret fun e => ?_
      subst e
      refine Ct.blk_ret ?_
      refine Ct.then_ret ?_
      replace h := Option.some.inj h; subst h
      exact Ct.retH1 (Ωx := []) () rfl (RvOk.tmp rfl) rfl
    · replace h := bif_f hc h
      refine Tr.skip ?_
      refine Ct.blk_normal ?_
      refine Ct.then_tr ?_
      refine Tr.weak (Γ' := [(0, (pSl 1 (cSl 1 (cK .i64)) s_0)), (1, (pFn Try.prog (fun x => [(pSl 1 (cK .i64) x)]) f_1 (fun y => (pEq (.bool y))))), (7, (pEq (.int .i64 (s_0.length : Int)))), (8, (pEq (.int .i64 v2)))]) ⟨rfl, rfl, rfl, rfl, trivial⟩ ?_
      refine Tr.region ?_
      refine RegL.pure (p := (pEq (.int .i64 (w64 (v2 + (1 : Int)))))) rfl rfl rfl (J_bin rfl (Opd.tmp rfl) Opd.con B_add) ?_
      refine RegL.pure (p := (pEq (.int .i64 (w64 (v2 + (1 : Int)))))) rfl rfl rfl (J_move rfl (Opd.tmp rfl)) ?_
      refine RegL.nil ?_
      replace h := Option.some.inj h; subst h
      exact Ct.again () rfl ⟨rfl, rfl, rfl, rfl, trivial⟩
  · replace h := bif_f hc h
    refine Tr.exit ?_
    refine Ct.then_exit ?_
    replace h := map_some h; obtain ⟨r1, h, rfl⟩ := h
    refine Ct.out_exit fun e => ?_
    subst e
    refine Ct.blk_exit ?_
    refine Ct.then_tr ?_
    refine Tr.weak (Γ' := []) trivial ?_
    refine Tr.seq ?_
    refine Tr.region ?_
    refine RegL.pure (p := (pEq (.int .i64 (-1 : Int)))) rfl rfl rfl (J_assign rfl Opd.con) ?_
    refine RegL.nil ?_
    refine Ct.then_tr ?_
    refine Tr.weak (Γ' := [(4, (pEq (.int .i64 (-1 : Int))))]) ⟨rfl, trivial⟩ ?_
    refine Tr.ret ?_
    replace h := Option.some.inj h; subst h
    exact Ct.retH1 (Ωx := []) () rfl (RvOk.tmp rfl) rfl

theorem c_slices_ContainsFunc_SSint64_int64 {s_0 : (List (List Int))} {f_1 : ((List Int) → Option Bool)} {r : Bool} (h : m_slices_ContainsFunc_SSint64_int64 s_0 f_1 = some r) : CallJ Try.prog 94 [(pSl 1 (cSl 1 (cK .i64)) s_0), (pFn Try.prog (fun x => [(pSl 1 (cK .i64) x)]) f_1 (fun y => (pEq (.bool y))))] (pEq (.bool r)) := by
  unfold m_slices_ContainsFunc_SSint64_int64 at h
  refine CallJ.enterH Try.func94 rfl Try.ntmps94 rfl fun W I0 H => ?_
  refine Tr.weak (Γ' := [(0, (pSl 1 (cSl 1 (cK .i64)) s_0)), (1, (pFn Try.prog (fun x => [(pSl 1 (cK .i64) x)]) f_1 (fun y => (pEq (.bool y)))))]) ⟨rfl, rfl, trivial⟩ ?_
  refine Tr.seq ?_
  refine Tr.region ?_
  refine RegL.pure (p := (pEq (.bool false))) rfl rfl rfl (J_assign rfl Opd.con) ?_
  refine RegL.nil ?_
  refine Ct.then_tr ?_
  refine Tr.weak (Γ' := [(0, (pSl 1 (cSl 1 (cK .i64)) s_0)), (1, (pFn Try.prog (fun x => [(pSl 1 (cK .i64) x)]) f_1 (fun y => (pEq (.bool y)))))]) ⟨rfl, rfl, trivial⟩ ?_
  refine Tr.seq ?_
  refine Tr.region ?_
  refine RegL.pure (p := (pSl 1 (cSl 1 (cK .i64)) s_0)) rfl rfl rfl (J_move rfl (Opd.tmp rfl)) ?_
  refine RegL.pure (p := (pFn Try.prog (fun x => [(pSl 1 (cK .i64) x)]) f_1 (fun y => (pEq (.bool y))))) rfl rfl rfl (J_move rfl (Opd.tmp rfl)) ?_
  replace h := bind_some h; obtain ⟨x1, hx1, h⟩ := h
  refine RegL.pure (p := (pEq (.int .i64 x1))) rfl rfl rfl (J_call rfl Try.call106 (c_slices_IndexFunc_SSint64_int64 hx1) (Opds.cons (Opd.tmp rfl) (Opds.cons (Opd.tmp rfl) Opds.nil))) ?_
  refine RegL.pure (p := (pEq (.bool (decide ((0 : Int) ≤ x1))))) rfl rfl rfl (J_bin rfl (Opd.tmp rfl) Opd.con B_geq) ?_
  refine RegL.pure (p := (pEq (.bool (decide ((0 : Int) ≤ x1))))) rfl rfl rfl (J_assign rfl (Opd.tmp rfl)) ?_
  refine RegL.nil ?_
  refine Ct.then_tr ?_
  refine Tr.weak (Γ' := [(4, (pEq (.bool (decide ((0 : Int) ≤ x1)))))]) ⟨rfl, trivial⟩ ?_
  refine Tr.ret ?_
  replace h := Option.some.inj h; subst h
  exact Ct.retH1 (Ωx := []) () rfl (RvOk.tmp rfl) rfl

theorem c_impl_increasing {list_0 : (List Int)} {r : Bool} (h : m_impl_increasing list_0 = some r) : CallJ Try.prog 76 [(pSl 1 (cK .i64) list_0)] (pEq (.bool r)) := by
  unfold m_impl_increasing at h
  refine CallJ.enterH Try.func76 rfl Try.ntmps76 rfl fun W I0 H => ?_
  refine Tr.weak (Γ' := [(0, (pSl 1 (cK .i64) list_0))]) ⟨rfl, trivial⟩ ?_
  refine Tr.seq ?_
  refine Tr.region ?_
  refine RegL.pure (p := (pEq (.bool false))) rfl rfl rfl (J_assign rfl Opd.con) ?_
  refine RegL.nil ?_
  refine Ct.then_tr ?_
  refine Tr.weak (Γ' := [(0, (pSl 1 (cK .i64) list_0))]) ⟨rfl, trivial⟩ ?_
  refine Tr.seq ?_
  refine Tr.seq ?_
  refine Tr.region ?_
  refine RegL.pure (p := (pEq (.int .i64 (1 : Int)))) rfl rfl rfl (J_assign rfl Opd.con) ?_
  refine RegL.nil ?_
  refine Ct.then_tr ?_
  refine Tr.weak (Γ' := [(0, (pSl 1 (cK .i64) list_0)), (3, (pEq (.int .i64 (1 : Int))))]) ⟨rfl, rfl, trivial⟩ ?_
  refine Tr.block ?_
  refine Tr.weak (Γ' := [(0, (pSl 1 (cK .i64) list_0)), (3, (pEq (.int .i64 (1 : Int))))]) ⟨rfl, rfl, trivial⟩ ?_
  refine Tr.loop (γ := Unit) (σ := Int) (Γσ := fun s g => [(0, (pSl 1 (cK .i64) list_0)), (3, (pEq (.int .i64 s)))]) (Ωσ := fun s g => []) (g := ()) h ?_
  clear h
  rintro v2 g3 t h
  replace h : m_impl_increasing_B1 list_0 v2 = some t := h
  unfold m_impl_increasing_B1 at h
  refine Tr.weakO (Γ' := [(0, (pSl 1 (cK .i64) list_0)), (3, (pEq (.int .i64 v2)))]) (Ω' := []) rfl ⟨rfl, rfl, trivial⟩ ?_
  refine Tr.seq ?_
  refine Tr.seq ?_
  refine Tr.region ?_
  refine RegL.pure (p := (pEq (.int .i64 v2))) rfl rfl rfl (J_move rfl (Opd.tmp rfl)) ?_
  refine RegL.pure (p := (pSl 1 (cK .i64) list_0)) rfl rfl rfl (J_move rfl (Opd.tmp rfl)) ?_
  refine RegL.pure (p := (pEq (.int .i64 (list_0.length : Int)))) rfl rfl rfl (J_len rfl Try.underlying22 (Opd.tmp rfl) rfl) ?_
  refine RegL.pure (p := (pEq (.bool (decide (v2 < (list_0.length : Int)))))) rfl rfl rfl (J_bin rfl (Opd.tmp rfl) (Opd.tmp rfl) B_lss) ?_
  refine RegL.nil ?_
  refine Ct.then_tr ?_
  refine Tr.weak (Γ' := [(0, (pSl 1 (cK .i64) list_0)), (3, (pEq (.int .i64 v2))), (7, (pEq (.bool (decide (v2 < (list_0.length : Int))))))]) ⟨rfl, rfl, rfl, trivial⟩ ?_
  refine Tr.cond (Opd.tmp rfl) (fun hc => ?_) (fun hc => ?_)
  · replace h := bif_t hc h
    refine Tr.skip ?_
    refine Ct.then_tr ?_
    refine Tr.weak (Γ' := [(0, (pSl 1 (cK .i64) list_0)), (3, (pEq (.int .i64 v2)))]) ⟨rfl, rfl, trivial⟩ ?_
    refine Tr.seq ?_
    refine Tr.block ?_
    refine Tr.seq ?_
    replace h := bind_some h; obtain ⟨x4, hx4, h⟩ := h
    replace h := bind_some h; obtain ⟨x5, hx5, h⟩ := h
    refine Tr.drawD (n := 20) (m := 10) (es := [some (Ent.mk [(0, (pSl 1 (cK .i64) list_0))] (pSl 1 (cK .i64) list_0) true), some (Ent.mk [(3, (pEq (.int .i64 v2)))] (pEq (.int .i64 v2)) true), some (Ent.mk [(10, (pSl 1 (cK .i64) list_0)), (11, (pEq (.int .i64 v2)))] (pPtr ((cK .i64) x4)) true), some (Ent.mk [(12, (pPtr ((cK .i64) x4)))] (pEq (.int .i64 x4)) true), some (Ent.mk [(0, (pSl 1 (cK .i64) list_0))] (pSl 1 (cK .i64) list_0) true), some (Ent.mk [(3, (pEq (.int .i64 v2)))] (pEq (.int .i64 v2)) true), some (Ent.mk [(15, (pEq (.int .i64 v2)))] (pEq (.int .i64 (w64 (v2 - (1 : Int))))) true), some (Ent.mk [(14, (pSl 1 (cK .i64) list_0)), (16, (pEq (.int .i64 (w64 (v2 - (1 : Int))))))] (pPtr ((cK .i64) x5)) true), some (Ent.mk [(17, (pPtr ((cK .i64) x5)))] (pEq (.int .i64 x5)) true), some (Ent.mk [(13, (pEq (.int .i64 x4))), (18, (pEq (.int .i64 x5)))] (pEq (.bool (decide (x4 ≤ x5)))) true)]) (rd := [[0], [3], [10, 11], [12], [0], [3], [15], [14, 16], [17], [13, 18]]) rfl hmix (by kernel_rfl) fun hD => ?_
    refine RD.fin (es := [Ent.mk [(0, (pSl 1 (cK .i64) list_0))] (pSl 1 (cK .i64) list_0) true, Ent.mk [(3, (pEq (.int .i64 v2)))] (pEq (.int .i64 v2)) true, Ent.mk [(10, (pSl 1 (cK .i64) list_0)), (11, (pEq (.int .i64 v2)))] (pPtr ((cK .i64) x4)) true, Ent.mk [(12, (pPtr ((cK .i64) x4)))] (pEq (.int .i64 x4)) true, Ent.mk [(0, (pSl 1 (cK .i64) list_0))] (pSl 1 (cK .i64) list_0) true, Ent.mk [(3, (pEq (.int .i64 v2)))] (pEq (.int .i64 v2)) true, Ent.mk [(15, (pEq (.int .i64 v2)))] (pEq (.int .i64 (w64 (v2 - (1 : Int))))) true, Ent.mk [(14, (pSl 1 (cK .i64) list_0)), (16, (pEq (.int .i64 (w64 (v2 - (1 : Int))))))] (pPtr ((cK .i64) x5)) true, Ent.mk [(17, (pPtr ((cK .i64) x5)))] (pEq (.int .i64 x5)) true, Ent.mk [(13, (pEq (.int .i64 x4))), (18, (pEq (.int .i64 x5)))] (pEq (.bool (decide (x4 ≤ x5)))) true]) (done := []) hD ⟨.inr ⟨(OpJ.w (J_move rfl (Opd.tmp rfl))), ⟨rfl, trivial⟩, rfl, rfl⟩, ⟨.inr ⟨(OpJ.w (J_move rfl (Opd.tmp rfl))), ⟨rfl, trivial⟩, rfl, rfl⟩, ⟨.inr ⟨(OpJ.w (J_idx rfl Try.underlying22 sz2 (Opd.tmp rfl) (Opd.tmp rfl) hx4)), ⟨rfl, rfl, trivial⟩, rfl, rfl⟩, ⟨.inr ⟨(OpJ.w (J_load rfl Try.isAgg2 (Opd.tmp rfl))), ⟨rfl, trivial⟩, rfl, rfl⟩, ⟨.inr ⟨(OpJ.w (J_move rfl (Opd.tmp rfl))), ⟨rfl, trivial⟩, rfl, rfl⟩, ⟨.inr ⟨(OpJ.w (J_move rfl (Opd.tmp rfl))), ⟨rfl, trivial⟩, rfl, rfl⟩, ⟨.inr ⟨(OpJ.w (J_bin rfl (Opd.tmp rfl) Opd.con B_sub)), ⟨rfl, trivial⟩, rfl, rfl⟩, ⟨.inr ⟨(OpJ.w (J_idx rfl Try.underlying22 sz2 (Opd.tmp rfl) (Opd.tmp rfl) hx5)), ⟨rfl, rfl, trivial⟩, rfl, rfl⟩, ⟨.inr ⟨(OpJ.w (J_load rfl Try.isAgg2 (Opd.tmp rfl))), ⟨rfl, trivial⟩, rfl, rfl⟩, ⟨.inr ⟨(OpJ.w (J_bin rfl (Opd.tmp rfl) (Opd.tmp rfl) B_leq)), ⟨rfl, rfl, trivial⟩, rfl, rfl⟩, trivial⟩⟩⟩⟩⟩⟩⟩⟩⟩⟩ ?_
    refine RegL.nil ?_
    refine Ct.then_tr ?_
    refine Tr.weak (Γ' := [(0, (pSl 1 (cK .i64) list_0)), (3, (pEq (.int .i64 v2))), (19, (pEq (.bool (decide (x4 ≤ x5)))))]) ⟨rfl, rfl, rfl, trivial⟩ ?_
    refine Tr.cond (Opd.tmp rfl) (fun hc => ?_) (fun hc => ?_)
    · replace h := bif_t hc h
      refine Tr.seq ?_
      refine Tr.region ?_
      refine RegL.pure (p := (pEq (.bool false))) rfl rfl rfl (J_assign rfl Opd.con) ?_
      refine RegL.nil ?_
      refine Ct.then_tr ?_
      refine Tr.weak (Γ' := [(2, (pEq (.bool false)))]) ⟨rfl, trivial⟩ ?_
      refine Tr.ret ?_
      refine Ct.blk_ret ?_
      refine Ct.then_ret ?_
      replace h := map_some h; obtain ⟨r1, h, rfl⟩ := h
      refine Ct.out_ret fun e => ?_
      subst e
      refine Ct.blk_ret ?_
      refine Ct.then_ret ?_
      replace h := Option.some.inj h; subst h
      exact Ct.retH1 (Ωx := []) () rfl (RvOk.tmp rfl) rfl
    · replace h := bif_f hc h
      refine Tr.skip ?_
      refine Ct.blk_normal ?_
      refine Ct.then_tr ?_
      refine Tr.weak (Γ' := [(0, (pSl 1 (cK .i64) list_0)), (3, (pEq (.int .i64 v2)))]) ⟨rfl, rfl, trivial⟩ ?_
      refine Tr.region ?_
      refine RegL.pure (p := (pEq (.int .i64 v2))) rfl rfl rfl (J_move rfl (Opd.tmp rfl)) ?_
      refine RegL.pure (p := (pEq (.int .i64 (w64 (v2 + (1 : Int)))))) rfl rfl rfl (J_bin rfl (Opd.tmp rfl) Opd.con B_add) ?_
      refine RegL.pure (p := (pEq (.int .i64 (w64 (v2 + (1 : Int)))))) rfl rfl rfl (J_assign rfl (Opd.tmp rfl)) ?_
      refine RegL.nil ?_
      replace h := Option.some.inj h; subst h
      exact Ct.again () rfl ⟨rfl, rfl, trivial⟩
  · replace h := bif_f hc h
    refine Tr.exit ?_
    refine Ct.then_exit ?_
    replace h := map_some h; obtain ⟨r1, h, rfl⟩ := h
    refine Ct.out_exit fun e => ?_
    subst e
    refine Ct.blk_exit ?_
    refine Ct.then_tr ?_
    refine Tr.weak (Γ' := []) trivial ?_
    refine Tr.seq ?_
    refine Tr.region ?_
    refine RegL.pure (p := (pEq (.bool true))) rfl rfl rfl (J_assign rfl Opd.con) ?_
    refine RegL.nil ?_
    refine Ct.then_tr ?_
    refine Tr.weak (Γ' := [(2, (pEq (.bool true)))]) ⟨rfl, trivial⟩ ?_
    refine Tr.ret ?_
    replace h := Option.some.inj h; subst h
    exact Ct.retH1 (Ωx := []) () rfl (RvOk.tmp rfl) rfl

theorem c_impl_within {n_0 : Int} {low_1 : Int} {high_2 : Int} {r : Bool} (h : m_impl_within n_0 low_1 high_2 = some r) : CallJ Try.prog 72 [(pEq (.int .i64 n_0)), (pEq (.int .i64 low_1)), (pEq (.int .i64 high_2))] (pEq (.bool r)) := by
  unfold m_impl_within at h
  refine CallJ.enterH Try.func72 rfl Try.ntmps72 rfl fun W I0 H => ?_
  refine Tr.weak (Γ' := [(0, (pEq (.int .i64 n_0))), (1, (pEq (.int .i64 low_1))), (2, (pEq (.int .i64 high_2)))]) ⟨rfl, rfl, rfl, trivial⟩ ?_
  refine Tr.seq ?_
  refine Tr.region ?_
  refine RegL.pure (p := (pEq (.bool false))) rfl rfl rfl (J_assign rfl Opd.con) ?_
  refine RegL.nil ?_
  refine Ct.then_tr ?_
  refine Tr.weak (Γ' := [(0, (pEq (.int .i64 n_0))), (1, (pEq (.int .i64 low_1))), (2, (pEq (.int .i64 high_2)))]) ⟨rfl, rfl, rfl, trivial⟩ ?_
  refine Tr.seq ?_
  replace h := bind_some h; obtain ⟨x1, hx1, h⟩ := h
  refine Tr.cut (γ := Unit) (Γm := fun g => [(6, (pEq (.bool x1)))]) (Ωm := fun g => []) ?_ (fun g3 => ?_)
  · clear h
    have h := hx1
    clear hx1
    refine Tr.region ?_
    refine RegL.pure (p := (pEq (.int .i64 n_0))) rfl rfl rfl (J_move rfl (Opd.tmp rfl)) ?_
    refine RegL.pure (p := (pEq (.int .i64 low_1))) rfl rfl rfl (J_move rfl (Opd.tmp rfl)) ?_
    refine RegL.pure (p := (pEq (.bool (decide (low_1 ≤ n_0))))) rfl rfl rfl (J_bin rfl (Opd.tmp rfl) (Opd.tmp rfl) B_geq) ?_
    refine RegL.pure (p := (pEq (.bool (decide (low_1 ≤ n_0))))) rfl rfl rfl (J_move rfl (Opd.tmp rfl)) ?_
    rcases Bool.eq_false_or_eq_true (decide (low_1 ≤ n_0)) with hc2 | hc2
    · replace h := bif_t hc2 h
      refine RegL.pureG (p := (pEq (.int .i64 n_0))) rfl rfl rfl hc2 rfl rfl (J_move rfl (Opd.tmp rfl)) ?_
      refine RegL.pureG (p := (pEq (.int .i64 high_2))) rfl rfl rfl hc2 rfl rfl (J_move rfl (Opd.tmp rfl)) ?_
      refine RegL.pureG (p := (pEq (.bool (decide (n_0 ≤ high_2))))) rfl rfl rfl hc2 rfl rfl (J_bin rfl (Opd.tmp rfl) (Opd.tmp rfl) B_leq) ?_
      refine RegL.pure (p := (pEq (.bool (decide (n_0 ≤ high_2))))) rfl rfl rfl (J_pick rfl (Opd.tmp rfl) (fun _ => (Opd.tmp rfl)) (fun hf => absurd (hc2.symm.trans hf) (by decide))) ?_
      refine RegL.pure (p := (pEq (.bool (decide (n_0 ≤ high_2))))) rfl rfl rfl (J_assign rfl (Opd.tmp rfl)) ?_
      refine RegL.nil ?_
      replace h := Option.some.inj h; subst h
      exact Ct.mid () rfl ⟨rfl, trivial⟩
    · replace h := bif_f hc2 h
      refine RegL.skipG rfl rfl rfl hc2 rfl rfl ?_
      refine RegL.skipG rfl rfl rfl hc2 rfl rfl ?_
      refine RegL.skipG rfl rfl rfl hc2 rfl rfl ?_
      refine RegL.pure (p := (pEq (.bool false))) rfl rfl rfl (J_pick rfl (Opd.tmp rfl) (fun hf => absurd (hc2.symm.trans hf) (by decide)) (fun _ => Opd.con)) ?_
      refine RegL.pure (p := (pEq (.bool false))) rfl rfl rfl (J_assign rfl (Opd.tmp rfl)) ?_
      refine RegL.nil ?_
      replace h := Option.some.inj h; subst h
      exact Ct.mid () rfl ⟨rfl, trivial⟩
  · clear hx1
    refine Ct.then_tr ?_
    refine Tr.weak (Γ' := [(6, (pEq (.bool x1)))]) ⟨rfl, trivial⟩ ?_
    refine Tr.ret ?_
    replace h := Option.some.inj h; subst h
    exact Ct.retH1 (Ωx := []) () rfl (RvOk.tmp rfl) rfl

theorem c_impl_allWithin_1 {n_0 : Int} {a_1 : Int} {a_2 : Int} {r : Bool} (h : m_impl_allWithin_1 n_0 a_1 a_2 = some r) : CallJ Try.prog 92 [(pEq (.int .i64 n_0)), (pPtr ((cK .i64) a_1)), (pPtr ((cK .i64) a_2))] (pEq (.bool r)) := by
  unfold m_impl_allWithin_1 at h
  refine CallJ.enterH Try.func92 rfl Try.ntmps92 rfl fun W I0 H => ?_
  refine Tr.weak (Γ' := [(0, (pEq (.int .i64 n_0))), (1, (pPtr ((cK .i64) a_1))), (2, (pPtr ((cK .i64) a_2)))]) ⟨rfl, rfl, rfl, trivial⟩ ?_
  refine Tr.seq ?_
  refine Tr.region ?_
  refine RegL.pure (p := (pEq (.bool false))) rfl rfl rfl (J_assign rfl Opd.con) ?_
  refine RegL.nil ?_
  refine Ct.then_tr ?_
  refine Tr.weak (Γ' := [(0, (pEq (.int .i64 n_0))), (1, (pPtr ((cK .i64) a_1))), (2, (pPtr ((cK .i64) a_2)))]) ⟨rfl, rfl, rfl, trivial⟩ ?_
  refine Tr.seq ?_
  refine Tr.region ?_
  refine RegL.pure (p := (pEq (.int .i64 n_0))) rfl rfl rfl (J_move rfl (Opd.tmp rfl)) ?_
  refine RegL.pure (p := (pEq (.int .i64 a_1))) rfl rfl rfl (J_load rfl Try.isAgg2 (Opd.tmp rfl)) ?_
  refine RegL.pure (p := (pEq (.int .i64 a_2))) rfl rfl rfl (J_load rfl Try.isAgg2 (Opd.tmp rfl)) ?_
  replace h := bind_some h; obtain ⟨x1, hx1, h⟩ := h
  refine RegL.pure (p := (pEq (.bool x1))) rfl rfl rfl (J_call rfl Try.call72 (c_impl_within hx1) (Opds.cons (Opd.tmp rfl) (Opds.cons (Opd.tmp rfl) (Opds.cons (Opd.tmp rfl) Opds.nil)))) ?_
  refine RegL.pure (p := (pEq (.bool (!x1)))) rfl rfl rfl (J_not rfl (Opd.tmp rfl)) ?_
  refine RegL.pure (p := (pEq (.bool (!x1)))) rfl rfl rfl (J_assign rfl (Opd.tmp rfl)) ?_
  refine RegL.nil ?_
  refine Ct.then_tr ?_
  refine Tr.weak (Γ' := [(4, (pEq (.bool (!x1))))]) ⟨rfl, trivial⟩ ?_
  refine Tr.ret ?_
  replace h := Option.some.inj h; subst h
  exact Ct.retH1 (Ωx := []) () rfl (RvOk.tmp rfl) rfl

theorem c_slices_IndexFunc_int64_int64 {s_0 : (List Int)} {f_1 : (Int → Option Bool)} {r : Int} (h : m_slices_IndexFunc_int64_int64 s_0 f_1 = some r) : CallJ Try.prog 105 [(pSl 1 (cK .i64) s_0), (pFn Try.prog (fun x => [(pEq (.int .i64 x))]) f_1 (fun y => (pEq (.bool y))))] (pEq (.int .i64 r)) := by
  unfold m_slices_IndexFunc_int64_int64 at h
  refine CallJ.enterH Try.func105 rfl Try.ntmps105 rfl fun W I0 H => ?_
  refine Tr.weak (Γ' := [(0, (pSl 1 (cK .i64) s_0)), (1, (pFn Try.prog (fun x => [(pEq (.int .i64 x))]) f_1 (fun y => (pEq (.bool y)))))]) ⟨rfl, rfl, trivial⟩ ?_
  refine Tr.seq ?_
  refine Tr.region ?_
  refine RegL.pure (p := (pEq (.int .i64 (0 : Int)))) rfl rfl rfl (J_assign rfl Opd.con) ?_
  refine RegL.nil ?_
  refine Ct.then_tr ?_
  refine Tr.weak (Γ' := [(0, (pSl 1 (cK .i64) s_0)), (1, (pFn Try.prog (fun x => [(pEq (.int .i64 x))]) f_1 (fun y => (pEq (.bool y)))))]) ⟨rfl, rfl, trivial⟩ ?_
  refine Tr.seq ?_
  refine Tr.seq ?_
  refine Tr.region ?_
  refine RegL.pure (p := (pSl 1 (cK .i64) s_0)) rfl rfl rfl (J_move rfl (Opd.tmp rfl)) ?_
  refine RegL.pure (p := (pEq (.int .i64 (s_0.length : Int)))) rfl rfl rfl (J_len rfl Try.underlying22 (Opd.tmp rfl) rfl) ?_
  refine RegL.pure (p := (pEq (.int .i64 (0 : Int)))) rfl rfl rfl (J_move rfl Opd.con) ?_
  refine RegL.nil ?_
  refine Ct.then_tr ?_
  refine Tr.weak (Γ' := [(0, (pSl 1 (cK .i64) s_0)), (1, (pFn Try.prog (fun x => [(pEq (.int .i64 x))]) f_1 (fun y => (pEq (.bool y))))), (7, (pEq (.int .i64 (s_0.length : Int)))), (8, (pEq (.int .i64 (0 : Int))))]) ⟨rfl, rfl, rfl, rfl, trivial⟩ ?_
  refine Tr.block ?_
  refine Tr.weak (Γ' := [(0, (pSl 1 (cK .i64) s_0)), (1, (pFn Try.prog (fun x => [(pEq (.int .i64 x))]) f_1 (fun y => (pEq (.bool y))))), (7, (pEq (.int .i64 (s_0.length : Int)))), (8, (pEq (.int .i64 (0 : Int))))]) ⟨rfl, rfl, rfl, rfl, trivial⟩ ?_
  refine Tr.loop (γ := Unit) (σ := Int) (Γσ := fun s g => [(0, (pSl 1 (cK .i64) s_0)), (1, (pFn Try.prog (fun x => [(pEq (.int .i64 x))]) f_1 (fun y => (pEq (.bool y))))), (7, (pEq (.int .i64 (s_0.length : Int)))), (8, (pEq (.int .i64 s)))]) (Ωσ := fun s g => []) (g := ()) h ?_
  clear h
  rintro v2 g3 t h
  replace h : m_slices_IndexFunc_int64_int64_B1 s_0 f_1 v2 = some t := h
  unfold m_slices_IndexFunc_int64_int64_B1 at h
  refine Tr.weakO (Γ' := [(0, (pSl 1 (cK .i64) s_0)), (1, (pFn Try.prog (fun x => [(pEq (.int .i64 x))]) f_1 (fun y => (pEq (.bool y))))), (7, (pEq (.int .i64 (s_0.length : Int)))), (8, (pEq (.int .i64 v2)))]) (Ω' := []) rfl ⟨rfl, rfl, rfl, rfl, trivial⟩ ?_
  refine Tr.seq ?_
  refine Tr.region ?_
  refine RegL.pure (p := (pEq (.bool (decide (v2 < (s_0.length : Int)))))) rfl rfl rfl (J_bin rfl (Opd.tmp rfl) (Opd.tmp rfl) B_lss) ?_
  refine RegL.nil ?_
  refine Ct.then_tr ?_
  refine Tr.weak (Γ' := [(0, (pSl 1 (cK .i64) s_0)), (1, (pFn Try.prog (fun x => [(pEq (.int .i64 x))]) f_1 (fun y => (pEq (.bool y))))), (7, (pEq (.int .i64 (s_0.length : Int)))), (8, (pEq (.int .i64 v2))), (9, (pEq (.bool (decide (v2 < (s_0.length : Int))))))]) ⟨rfl, rfl, rfl, rfl, rfl, trivial⟩ ?_
  refine Tr.seq ?_
  refine Tr.cond (Opd.tmp rfl) (fun hc => ?_) (fun hc => ?_)
  · replace h := bif_t hc h
    refine Tr.skip ?_
    refine Ct.then_tr ?_
    refine Tr.weak (Γ' := [(0, (pSl 1 (cK .i64) s_0)), (1, (pFn Try.prog (fun x => [(pEq (.int .i64 x))]) f_1 (fun y => (pEq (.bool y))))), (7, (pEq (.int .i64 (s_0.length : Int)))), (8, (pEq (.int .i64 v2)))]) ⟨rfl, rfl, rfl, rfl, trivial⟩ ?_
    refine Tr.seq ?_
    refine Tr.block ?_
    refine Tr.seq ?_
    refine Tr.region ?_
    refine RegL.pure (p := (pEq (.int .i64 v2))) rfl rfl rfl (J_move rfl (Opd.tmp rfl)) ?_
    refine RegL.pure (p := (pEq (.int .i64 v2))) rfl rfl rfl (J_assign rfl (Opd.tmp rfl)) ?_
    refine RegL.nil ?_
    refine Ct.then_tr ?_
    refine Tr.weak (Γ' := [(0, (pSl 1 (cK .i64) s_0)), (1, (pFn Try.prog (fun x => [(pEq (.int .i64 x))]) f_1 (fun y => (pEq (.bool y))))), (5, (pEq (.int .i64 v2))), (7, (pEq (.int .i64 (s_0.length : Int)))), (8, (pEq (.int .i64 v2)))]) ⟨rfl, rfl, rfl, rfl, rfl, trivial⟩ ?_
    refine Tr.seq ?_
    refine Tr.region ?_
    refine RegL.pure (p := (pFn Try.prog (fun x => [(pEq (.int .i64 x))]) f_1 (fun y => (pEq (.bool y))))) rfl rfl rfl (J_move rfl (Opd.tmp rfl)) ?_
    refine RegL.pure (p := (pSl 1 (cK .i64) s_0)) rfl rfl rfl (J_move rfl (Opd.tmp rfl)) ?_
    refine RegL.pure (p := (pEq (.int .i64 v2))) rfl rfl rfl (J_move rfl (Opd.tmp rfl)) ?_
    replace h := bind_some h; obtain ⟨x4, hx4, h⟩ := h
    refine RegL.pure (p := (pPtr ((cK .i64) x4))) rfl rfl rfl (J_idx rfl Try.underlying22 sz2 (Opd.tmp rfl) (Opd.tmp rfl) hx4) ?_
    refine RegL.pure (p := (pEq (.int .i64 x4))) rfl rfl rfl (J_load rfl Try.isAgg2 (Opd.tmp rfl)) ?_
    replace h := bind_some h; obtain ⟨x5, hx5, h⟩ := h
    refine RegL.pure (p := (pEq (.bool x5))) rfl rfl rfl (J_callv (x := x4) rfl (Opd.tmp rfl) rfl (Opds.cons (Opd.tmp rfl) Opds.nil) hx5 rfl) ?_
    refine RegL.nil ?_
    refine Ct.then_tr ?_
    refine Tr.weak (Γ' := [(0, (pSl 1 (cK .i64) s_0)), (1, (pFn Try.prog (fun x => [(pEq (.int .i64 x))]) f_1 (fun y => (pEq (.bool y))))), (5, (pEq (.int .i64 v2))), (7, (pEq (.int .i64 (s_0.length : Int)))), (8, (pEq (.int .i64 v2))), (16, (pEq (.bool x5)))]) ⟨rfl, rfl, rfl, rfl, rfl, rfl, trivial⟩ ?_
    refine Tr.cond (Opd.tmp rfl) (fun hc => ?_) (fun hc => ?_)
    · replace h := bif_t hc h
      refine Tr.seq ?_
      refine Tr.region ?_
      refine RegL.pure (p := (pEq (.int .i64 v2))) rfl rfl rfl (J_move rfl (Opd.tmp rfl)) ?_
      refine RegL.pure (p := (pEq (.int .i64 v2))) rfl rfl rfl (J_assign rfl (Opd.tmp rfl)) ?_
      refine RegL.nil ?_
      refine Ct.then_tr ?_
      refine Tr.weak (Γ' := [(4, (pEq (.int .i64 v2)))]) ⟨rfl, trivial⟩ ?_
      refine Tr.ret ?_
      refine Ct.blk_ret ?_
      refine Ct.then_ret ?_
      replace h := map_some h; obtain ⟨r1, h, rfl⟩ := h
      refine Ct.out_ret fun e => ?_
      subst e
      refine Ct.blk_ret ?_
      refine Ct.then_ret ?_
      replace h := Option.some.inj h; subst h
      exact Ct.retH1 (Ωx := []) () rfl (RvOk.tmp rfl) rfl
    · replace h := bif_f hc h
      refine Tr.skip ?_
      refine Ct.blk_normal ?_
      refine Ct.then_tr ?_
      refine Tr.weak (Γ' := [(0, (pSl 1 (cK .i64) s_0)), (1, (pFn Try.prog (fun x => [(pEq (.int .i64 x))]) f_1 (fun y => (pEq (.bool y))))), (7, (pEq (.int .i64 (s_0.length : Int)))), (8, (pEq (.int .i64 v2)))]) ⟨rfl, rfl, rfl, rfl, trivial⟩ ?_
      refine Tr.region ?_
      refine RegL.pure (p := (pEq (.int .i64 (w64 (v2 + (1 : Int)))))) rfl rfl rfl (J_bin rfl (Opd.tmp rfl) Opd.con B_add) ?_
      refine RegL.pure (p := (pEq (.int .i64 (w64 (v2 + (1 : Int)))))) rfl rfl rfl (J_move rfl (Opd.tmp rfl)) ?_
      refine RegL.nil ?_
      replace h := Option.some.inj h; subst h
      exact Ct.again () rfl ⟨rfl, rfl, rfl, rfl, trivial⟩
  · replace h := bif_f hc h
    refine Tr.exit ?_
    refine Ct.then_exit ?_
    replace h := map_some h; obtain ⟨r1, h, rfl⟩ := h
    refine Ct.out_exit fun e => ?_
    subst e
    refine Ct.blk_exit ?_
    refine Ct.then_tr ?_
    refine Tr.weak (Γ' := []) trivial ?_
    refine Tr.seq ?_
    refine Tr.region ?_
    refine RegL.pure (p := (pEq (.int .i64 (-1 : Int)))) rfl rfl rfl (J_assign rfl Opd.con) ?_
    refine RegL.nil ?_
    refine Ct.then_tr ?_
    refine Tr.weak (Γ' := [(4, (pEq (.int .i64 (-1 : Int))))]) ⟨rfl, trivial⟩ ?_
    refine Tr.ret ?_
    replace h := Option.some.inj h; subst h
    exact Ct.retH1 (Ωx := []) () rfl (RvOk.tmp rfl) rfl

theorem c_slices_ContainsFunc_int64_int64 {s_0 : (List Int)} {f_1 : (Int → Option Bool)} {r : Bool} (h : m_slices_ContainsFunc_int64_int64 s_0 f_1 = some r) : CallJ Try.prog 91 [(pSl 1 (cK .i64) s_0), (pFn Try.prog (fun x => [(pEq (.int .i64 x))]) f_1 (fun y => (pEq (.bool y))))] (pEq (.bool r)) := by
  unfold m_slices_ContainsFunc_int64_int64 at h
  refine CallJ.enterH Try.func91 rfl Try.ntmps91 rfl fun W I0 H => ?_
  refine Tr.weak (Γ' := [(0, (pSl 1 (cK .i64) s_0)), (1, (pFn Try.prog (fun x => [(pEq (.int .i64 x))]) f_1 (fun y => (pEq (.bool y)))))]) ⟨rfl, rfl, trivial⟩ ?_
  refine Tr.seq ?_
  refine Tr.region ?_
  refine RegL.pure (p := (pEq (.bool false))) rfl rfl rfl (J_assign rfl Opd.con) ?_
  refine RegL.nil ?_
  refine Ct.then_tr ?_
  refine Tr.weak (Γ' := [(0, (pSl 1 (cK .i64) s_0)), (1, (pFn Try.prog (fun x => [(pEq (.int .i64 x))]) f_1 (fun y => (pEq (.bool y)))))]) ⟨rfl, rfl, trivial⟩ ?_
  refine Tr.seq ?_
  refine Tr.region ?_
  refine RegL.pure (p := (pSl 1 (cK .i64) s_0)) rfl rfl rfl (J_move rfl (Opd.tmp rfl)) ?_
  refine RegL.pure (p := (pFn Try.prog (fun x => [(pEq (.int .i64 x))]) f_1 (fun y => (pEq (.bool y))))) rfl rfl rfl (J_move rfl (Opd.tmp rfl)) ?_
  replace h := bind_some h; obtain ⟨x1, hx1, h⟩ := h
  refine RegL.pure (p := (pEq (.int .i64 x1))) rfl rfl rfl (J_call rfl Try.call105 (c_slices_IndexFunc_int64_int64 hx1) (Opds.cons (Opd.tmp rfl) (Opds.cons (Opd.tmp rfl) Opds.nil))) ?_
  refine RegL.pure (p := (pEq (.bool (decide ((0 : Int) ≤ x1))))) rfl rfl rfl (J_bin rfl (Opd.tmp rfl) Opd.con B_geq) ?_
  refine RegL.pure (p := (pEq (.bool (decide ((0 : Int) ≤ x1))))) rfl rfl rfl (J_assign rfl (Opd.tmp rfl)) ?_
  refine RegL.nil ?_
  refine Ct.then_tr ?_
  refine Tr.weak (Γ' := [(4, (pEq (.bool (decide ((0 : Int) ≤ x1)))))]) ⟨rfl, trivial⟩ ?_
  refine Tr.ret ?_
  replace h := Option.some.inj h; subst h
  exact Ct.retH1 (Ωx := []) () rfl (RvOk.tmp rfl) rfl

theorem c_impl_allWithin {list_0 : (List Int)} {low_1 : Int} {high_2 : Int} {r : Bool} (h : m_impl_allWithin list_0 low_1 high_2 = some r) : CallJ Try.prog 56 [(pSl 1 (cK .i64) list_0), (pEq (.int .i64 low_1)), (pEq (.int .i64 high_2))] (pEq (.bool r)) := by
  unfold m_impl_allWithin at h
  refine CallJ.enterH Try.func56 rfl Try.ntmps56 rfl fun W I0 H => ?_
  refine Tr.weak (Γ' := [(0, (pSl 1 (cK .i64) list_0)), (1, (pEq (.int .i64 low_1))), (2, (pEq (.int .i64 high_2)))]) ⟨rfl, rfl, rfl, trivial⟩ ?_
  refine Tr.seq ?_
  refine Tr.region ?_
  refine RegL.pure (p := (pPtr ((cK .i64) low_1))) rfl rfl rfl (J_box rfl (Opd.tmp rfl) OneC.int) ?_
  refine RegL.pure (p := (pPtr ((cK .i64) high_2))) rfl rfl rfl (J_box rfl (Opd.tmp rfl) OneC.int) ?_
  refine RegL.pure (p := (pEq (.bool false))) rfl rfl rfl (J_assign rfl Opd.con) ?_
  refine RegL.nil ?_
  refine Ct.then_tr ?_
  refine Tr.weak (Γ' := [(0, (pSl 1 (cK .i64) list_0)), (4, (pPtr ((cK .i64) low_1))), (5, (pPtr ((cK .i64) high_2)))]) ⟨rfl, rfl, rfl, trivial⟩ ?_
  refine Tr.seq ?_
  refine Tr.region ?_
  refine RegL.pure (p := (pSl 1 (cK .i64) list_0)) rfl rfl rfl (J_move rfl (Opd.tmp rfl)) ?_
  refine RegL.pure (p := (pFn Try.prog (fun x => [(pEq (.int .i64 x))]) (fun x => m_impl_allWithin_1 x low_1 high_2) (fun y => (pEq (.bool y))))) rfl rfl rfl (J_makeFn rfl Try.call92 (Opds.cons (Opd.tmp rfl) (Opds.cons (Opd.tmp rfl) Opds.nil)) (fun _ _ h => c_impl_allWithin_1 h)) ?_
  replace h := bind_some h; obtain ⟨x1, hx1, h⟩ := h
  refine RegL.pure (p := (pEq (.bool x1))) rfl rfl rfl (J_call rfl Try.call91 (c_slices_ContainsFunc_int64_int64 hx1) (Opds.cons (Opd.tmp rfl) (Opds.cons (Opd.tmp rfl) Opds.nil))) ?_
  refine RegL.pure (p := (pEq (.bool (!x1)))) rfl rfl rfl (J_not rfl (Opd.tmp rfl)) ?_
  refine RegL.pure (p := (pEq (.bool (!x1)))) rfl rfl rfl (J_assign rfl (Opd.tmp rfl)) ?_
  refine RegL.nil ?_
  refine Ct.then_tr ?_
  refine Tr.weak (Γ' := [(6, (pEq (.bool (!x1))))]) ⟨rfl, trivial⟩ ?_
  refine Tr.ret ?_
  replace h := Option.some.inj h; subst h
  exact Ct.retH1 (Ωx := []) () rfl (RvOk.tmp rfl) rfl

theorem c_impl_domainOk {domain_0 : (List Int)} {r : Bool} (h : m_impl_domainOk domain_0 = some r) : CallJ Try.prog 96 [(pSl 1 (cK .i64) domain_0)] (pEq (.bool r)) := by
  unfold m_impl_domainOk at h
  refine CallJ.enterH Try.func96 rfl Try.ntmps96 rfl fun W I0 H => ?_
  refine Tr.weak (Γ' := [(0, (pSl 1 (cK .i64) domain_0))]) ⟨rfl, trivial⟩ ?_
  refine Tr.seq ?_
  refine Tr.region ?_
  refine RegL.pure (p := (pEq (.bool false))) rfl rfl rfl (J_assign rfl Opd.con) ?_
  refine RegL.nil ?_
  refine Ct.then_tr ?_
  refine Tr.weak (Γ' := [(0, (pSl 1 (cK .i64) domain_0))]) ⟨rfl, trivial⟩ ?_
  refine Tr.seq ?_
  replace h := bind_some h; obtain ⟨x1, hx1, h⟩ := h
  refine Tr.cut (γ := Unit) (Γm := fun g => [(2, (pEq (.bool x1)))]) (Ωm := fun g => []) ?_ (fun g7 => ?_)
  · clear h
    have h := hx1
    clear hx1
    refine Tr.region ?_
    refine RegL.pure (p := (pSl 1 (cK .i64) domain_0)) rfl rfl rfl (J_move rfl (Opd.tmp rfl)) ?_
    refine RegL.pure (p := (pEq (.int .i64 (domain_0.length : Int)))) rfl rfl rfl (J_len rfl Try.underlying22 (Opd.tmp rfl) rfl) ?_
    refine RegL.pure (p := (pEq (.bool (decide ((1 : Int) ≤ (domain_0.length : Int)))))) rfl rfl rfl (J_bin rfl (Opd.tmp rfl) Opd.con B_geq) ?_
    refine RegL.pure (p := (pEq (.bool (decide ((1 : Int) ≤ (domain_0.length : Int)))))) rfl rfl rfl (J_move rfl (Opd.tmp rfl)) ?_
    rcases Bool.eq_false_or_eq_true (decide ((1 : Int) ≤ (domain_0.length : Int))) with hc2 | hc2
    · replace h := bif_t hc2 h
      refine RegL.pureG (p := (pSl 1 (cK .i64) domain_0)) rfl rfl rfl hc2 rfl rfl (J_move rfl (Opd.tmp rfl)) ?_
      refine RegL.pureG (p := (pEq (.int .i64 (domain_0.length : Int)))) rfl rfl rfl hc2 rfl rfl (J_len rfl Try.underlying22 (Opd.tmp rfl) rfl) ?_
      refine RegL.pureG (p := (pEq (.bool (decide ((domain_0.length : Int) ≤ (32 : Int)))))) rfl rfl rfl hc2 rfl rfl (J_bin rfl (Opd.tmp rfl) Opd.con B_leq) ?_
      refine RegL.pure (p := (pEq (.bool (decide ((domain_0.length : Int) ≤ (32 : Int)))))) rfl rfl rfl (J_pick rfl (Opd.tmp rfl) (fun _ => (Opd.tmp rfl)) (fun hf => absurd (hc2.symm.trans hf) (by decide))) ?_
      refine RegL.pure (p := (pEq (.bool (decide ((domain_0.length : Int) ≤ (32 : Int)))))) rfl rfl rfl (J_move rfl (Opd.tmp rfl)) ?_
      rcases Bool.eq_false_or_eq_true (decide ((domain_0.length : Int) ≤ (32 : Int))) with hc3 | hc3
      · replace h := bif_t hc3 h
        refine RegL.pureG (p := (pSl 1 (cK .i64) domain_0)) rfl rfl rfl hc3 rfl rfl (J_move rfl (Opd.tmp rfl)) ?_
        replace h := bind_some h; obtain ⟨x4, hx4, h⟩ := h
        refine RegL.pureG (p := (pEq (.bool x4))) rfl rfl rfl hc3 rfl rfl (J_call rfl Try.call76 (c_impl_increasing hx4) (Opds.cons (Opd.tmp rfl) Opds.nil)) ?_
        refine RegL.pure (p := (pEq (.bool x4))) rfl rfl rfl (J_pick rfl (Opd.tmp rfl) (fun _ => (Opd.tmp rfl)) (fun hf => absurd (hc3.symm.trans hf) (by decide))) ?_
        refine RegL.pure (p := (pEq (.bool x4))) rfl rfl rfl (J_move rfl (Opd.tmp rfl)) ?_
        rcases Bool.eq_false_or_eq_true x4 with hc5 | hc5
        · replace h := bif_t hc5 h
          refine RegL.pureG (p := (pSl 1 (cK .i64) domain_0)) rfl rfl rfl hc5 rfl rfl (J_move rfl (Opd.tmp rfl)) ?_
          replace h := bind_some h; obtain ⟨x6, hx6, h⟩ := h
          refine RegL.pureG (p := (pEq (.bool x6))) rfl rfl rfl hc5 rfl rfl (J_call rfl Try.call56 (c_impl_allWithin hx6) (Opds.cons (Opd.tmp rfl) (Opds.cons Opd.con (Opds.cons Opd.con Opds.nil)))) ?_
          refine RegL.pure (p := (pEq (.bool x6))) rfl rfl rfl (J_pick rfl (Opd.tmp rfl) (fun _ => (Opd.tmp rfl)) (fun hf => absurd (hc5.symm.trans hf) (by decide))) ?_
          refine RegL.pure (p := (pEq (.bool x6))) rfl rfl rfl (J_assign rfl (Opd.tmp rfl)) ?_
          refine RegL.nil ?_
          replace h := Option.some.inj h; subst h
          exact Ct.mid () rfl ⟨rfl, trivial⟩
        · replace h := bif_f hc5 h
          refine RegL.skipG rfl rfl rfl hc5 rfl rfl ?_
          refine RegL.skipG rfl rfl rfl hc5 rfl rfl ?_
          refine RegL.pure (p := (pEq (.bool false))) rfl rfl rfl (J_pick rfl (Opd.tmp rfl) (fun hf => absurd (hc5.symm.trans hf) (by decide)) (fun _ => Opd.con)) ?_
          refine RegL.pure (p := (pEq (.bool false))) rfl rfl rfl (J_assign rfl (Opd.tmp rfl)) ?_
          refine RegL.nil ?_
          replace h := Option.some.inj h; subst h
          exact Ct.mid () rfl ⟨rfl, trivial⟩
      · replace h := bif_f hc3 h
        refine RegL.skipG rfl rfl rfl hc3 rfl rfl ?_
        refine RegL.skipG rfl rfl rfl hc3 rfl rfl ?_
        refine RegL.pure (p := (pEq (.bool false))) rfl rfl rfl (J_pick rfl (Opd.tmp rfl) (fun hf => absurd (hc3.symm.trans hf) (by decide)) (fun _ => Opd.con)) ?_
        refine RegL.pure (p := (pEq (.bool false))) rfl rfl rfl (J_move rfl (Opd.tmp rfl)) ?_
        refine RegL.skipG rfl rfl rfl rfl rfl rfl ?_
        refine RegL.skipG rfl rfl rfl rfl rfl rfl ?_
        refine RegL.pure (p := (pEq (.bool false))) rfl rfl rfl (J_pick rfl (Opd.tmp rfl) (fun hf => absurd hf (by decide)) (fun _ => Opd.con)) ?_
        refine RegL.pure (p := (pEq (.bool false))) rfl rfl rfl (J_assign rfl (Opd.tmp rfl)) ?_
        refine RegL.nil ?_
        replace h := Option.some.inj h; subst h
        exact Ct.mid () rfl ⟨rfl, trivial⟩
    · replace h := bif_f hc2 h
      refine RegL.skipG rfl rfl rfl hc2 rfl rfl ?_
      refine RegL.skipG rfl rfl rfl hc2 rfl rfl ?_
      refine RegL.skipG rfl rfl rfl hc2 rfl rfl ?_
      refine RegL.pure (p := (pEq (.bool false))) rfl rfl rfl (J_pick rfl (Opd.tmp rfl) (fun hf => absurd (hc2.symm.trans hf) (by decide)) (fun _ => Opd.con)) ?_
      refine RegL.pure (p := (pEq (.bool false))) rfl rfl rfl (J_move rfl (Opd.tmp rfl)) ?_
      refine RegL.skipG rfl rfl rfl rfl rfl rfl ?_
      refine RegL.skipG rfl rfl rfl rfl rfl rfl ?_
      refine RegL.pure (p := (pEq (.bool false))) rfl rfl rfl (J_pick rfl (Opd.tmp rfl) (fun hf => absurd hf (by decide)) (fun _ => Opd.con)) ?_
      refine RegL.pure (p := (pEq (.bool false))) rfl rfl rfl (J_move rfl (Opd.tmp rfl)) ?_
      refine RegL.skipG rfl rfl rfl rfl rfl rfl ?_
      refine RegL.skipG rfl rfl rfl rfl rfl rfl ?_
      refine RegL.pure (p := (pEq (.bool false))) rfl rfl rfl (J_pick rfl (Opd.tmp rfl) (fun hf => absurd hf (by decide)) (fun _ => Opd.con)) ?_
      refine RegL.pure (p := (pEq (.bool false))) rfl rfl rfl (J_assign rfl (Opd.tmp rfl)) ?_
      refine RegL.nil ?_
      replace h := Option.some.inj h; subst h
      exact Ct.mid () rfl ⟨rfl, trivial⟩
  · clear hx1
    refine Ct.then_tr ?_
    refine Tr.weak (Γ' := [(2, (pEq (.bool x1)))]) ⟨rfl, trivial⟩ ?_
    refine Tr.ret ?_
    replace h := Option.some.inj h; subst h
    exact Ct.retH1 (Ωx := []) () rfl (RvOk.tmp rfl) rfl

theorem c_impl_domainsOk_1 {d_0 : (List Int)} {r : Bool} (h : m_impl_domainsOk_1 d_0 = some r) : CallJ Try.prog 95 [(pSl 1 (cK .i64) d_0)] (pEq (.bool r)) := by
  unfold m_impl_domainsOk_1 at h
  refine CallJ.enterH Try.func95 rfl Try.ntmps95 rfl fun W I0 H => ?_
  refine Tr.weak (Γ' := [(0, (pSl 1 (cK .i64) d_0))]) ⟨rfl, trivial⟩ ?_
  refine Tr.seq ?_
  refine Tr.region ?_
  refine RegL.pure (p := (pEq (.bool false))) rfl rfl rfl (J_assign rfl Opd.con) ?_
  refine RegL.nil ?_
  refine Ct.then_tr ?_
  refine Tr.weak (Γ' := [(0, (pSl 1 (cK .i64) d_0))]) ⟨rfl, trivial⟩ ?_
  refine Tr.seq ?_
  refine Tr.region ?_
  refine RegL.pure (p := (pSl 1 (cK .i64) d_0)) rfl rfl rfl (J_move rfl (Opd.tmp rfl)) ?_
  replace h := bind_some h; obtain ⟨x1, hx1, h⟩ := h
  refine RegL.pure (p := (pEq (.bool x1))) rfl rfl rfl (J_call rfl Try.call96 (c_impl_domainOk hx1) (Opds.cons (Opd.tmp rfl) Opds.nil)) ?_
  refine RegL.pure (p := (pEq (.bool (!x1)))) rfl rfl rfl (J_not rfl (Opd.tmp rfl)) ?_
  refine RegL.pure (p := (pEq (.bool (!x1)))) rfl rfl rfl (J_assign rfl (Opd.tmp rfl)) ?_
  refine RegL.nil ?_
  refine Ct.then_tr ?_
  refine Tr.weak (Γ' := [(2, (pEq (.bool (!x1))))]) ⟨rfl, trivial⟩ ?_
  refine Tr.ret ?_
  replace h := Option.some.inj h; subst h
  exact Ct.retH1 (Ωx := []) () rfl (RvOk.tmp rfl) rfl

theorem c_impl_domainsOk {domains_0 : (List (List Int))} {r : Bool} (h : m_impl_domainsOk domains_0 = some r) : CallJ Try.prog 63 [(pSl 1 (cSl 1 (cK .i64)) domains_0)] (pEq (.bool r)) := by
  unfold m_impl_domainsOk at h
  refine CallJ.enterH Try.func63 rfl Try.ntmps63 rfl fun W I0 H => ?_
  refine Tr.weak (Γ' := [(0, (pSl 1 (cSl 1 (cK .i64)) domains_0))]) ⟨rfl, trivial⟩ ?_
  refine Tr.seq ?_
  refine Tr.region ?_
  refine RegL.pure (p := (pEq (.bool false))) rfl rfl rfl (J_assign rfl Opd.con) ?_
  refine RegL.nil ?_
  refine Ct.then_tr ?_
  refine Tr.weak (Γ' := [(0, (pSl 1 (cSl 1 (cK .i64)) domains_0))]) ⟨rfl, trivial⟩ ?_
  refine Tr.seq ?_
  replace h := bind_some h; obtain ⟨x1, hx1, h⟩ := h
  refine Tr.cut (γ := Unit) (Γm := fun g => [(2, (pEq (.bool x1)))]) (Ωm := fun g => []) ?_ (fun g5 => ?_)
  · clear h
    have h := hx1
    clear hx1
    refine Tr.region ?_
    refine RegL.pure (p := (pSl 1 (cSl 1 (cK .i64)) domains_0)) rfl rfl rfl (J_move rfl (Opd.tmp rfl)) ?_
    refine RegL.pure (p := (pEq (.int .i64 (domains_0.length : Int)))) rfl rfl rfl (J_len rfl Try.underlying27 (Opd.tmp rfl) rfl) ?_
    refine RegL.pure (p := (pEq (.bool (decide ((1 : Int) ≤ (domains_0.length : Int)))))) rfl rfl rfl (J_bin rfl (Opd.tmp rfl) Opd.con B_geq) ?_
    refine RegL.pure (p := (pEq (.bool (decide ((1 : Int) ≤ (domains_0.length : Int)))))) rfl rfl rfl (J_move rfl (Opd.tmp rfl)) ?_
    rcases Bool.eq_false_or_eq_true (decide ((1 : Int) ≤ (domains_0.length : Int))) with hc2 | hc2
    · replace h := bif_t hc2 h
      refine RegL.pureG (p := (pSl 1 (cSl 1 (cK .i64)) domains_0)) rfl rfl rfl hc2 rfl rfl (J_move rfl (Opd.tmp rfl)) ?_
      refine RegL.pureG (p := (pEq (.int .i64 (domains_0.length : Int)))) rfl rfl rfl hc2 rfl rfl (J_len rfl Try.underlying27 (Opd.tmp rfl) rfl) ?_
      refine RegL.pureG (p := (pEq (.bool (decide ((domains_0.length : Int) ≤ (24 : Int)))))) rfl rfl rfl hc2 rfl rfl (J_bin rfl (Opd.tmp rfl) Opd.con B_leq) ?_
      refine RegL.pure (p := (pEq (.bool (decide ((domains_0.length : Int) ≤ (24 : Int)))))) rfl rfl rfl (J_pick rfl (Opd.tmp rfl) (fun _ => (Opd.tmp rfl)) (fun hf => absurd (hc2.symm.trans hf) (by decide))) ?_
      refine RegL.pure (p := (pEq (.bool (decide ((domains_0.length : Int) ≤ (24 : Int)))))) rfl rfl rfl (J_move rfl (Opd.tmp rfl)) ?_
      rcases Bool.eq_false_or_eq_true (decide ((domains_0.length : Int) ≤ (24 : Int))) with hc3 | hc3
      · replace h := bif_t hc3 h
        refine RegL.pureG (p := (pSl 1 (cSl 1 (cK .i64)) domains_0)) rfl rfl rfl hc3 rfl rfl (J_move rfl (Opd.tmp rfl)) ?_
        replace h := bind_some h; obtain ⟨x4, hx4, h⟩ := h
        refine RegL.pureG (p := (pEq (.bool x4))) rfl rfl rfl hc3 rfl rfl (J_call rfl Try.call94 (c_slices_ContainsFunc_SSint64_int64 hx4) (Opds.cons (Opd.tmp rfl) (Opds.cons (Opd.fnv Try.call95 (fun _ _ h => c_impl_domainsOk_1 h)) Opds.nil))) ?_
        refine RegL.pureG (p := (pEq (.bool (!x4)))) rfl rfl rfl hc3 rfl rfl (J_not rfl (Opd.tmp rfl)) ?_
        refine RegL.pure (p := (pEq (.bool (!x4)))) rfl rfl rfl (J_pick rfl (Opd.tmp rfl) (fun _ => (Opd.tmp rfl)) (fun hf => absurd (hc3.symm.trans hf) (by decide))) ?_
        refine RegL.pure (p := (pEq (.bool (!x4)))) rfl rfl rfl (J_assign rfl (Opd.tmp rfl)) ?_
        refine RegL.nil ?_
        replace h := Option.some.inj h; subst h
        exact Ct.mid () rfl ⟨rfl, trivial⟩
      · replace h := bif_f hc3 h
        refine RegL.skipG rfl rfl rfl hc3 rfl rfl ?_
        refine RegL.skipG rfl rfl rfl hc3 rfl rfl ?_
        refine RegL.skipG rfl rfl rfl hc3 rfl rfl ?_
        refine RegL.pure (p := (pEq (.bool false))) rfl rfl rfl (J_pick rfl (Opd.tmp rfl) (fun hf => absurd (hc3.symm.trans hf) (by decide)) (fun _ => Opd.con)) ?_
        refine RegL.pure (p := (pEq (.bool false))) rfl rfl rfl (J_assign rfl (Opd.tmp rfl)) ?_
        refine RegL.nil ?_
        replace h := Option.some.inj h; subst h
        exact Ct.mid () rfl ⟨rfl, trivial⟩
    · replace h := bif_f hc2 h
      refine RegL.skipG rfl rfl rfl hc2 rfl rfl ?_
      refine RegL.skipG rfl rfl rfl hc2 rfl rfl ?_
      refine RegL.skipG rfl rfl rfl hc2 rfl rfl ?_
      refine RegL.pure (p := (pEq (.bool false))) rfl rfl rfl (J_pick rfl (Opd.tmp rfl) (fun hf => absurd (hc2.symm.trans hf) (by decide)) (fun _ => Opd.con)) ?_
      refine RegL.pure (p := (pEq (.bool false))) rfl rfl rfl (J_move rfl (Opd.tmp rfl)) ?_
      refine RegL.skipG rfl rfl rfl rfl rfl rfl ?_
      refine RegL.skipG rfl rfl rfl rfl rfl rfl ?_
      refine RegL.skipG rfl rfl rfl rfl rfl rfl ?_
      refine RegL.pure (p := (pEq (.bool false))) rfl rfl rfl (J_pick rfl (Opd.tmp rfl) (fun hf => absurd hf (by decide)) (fun _ => Opd.con)) ?_
      refine RegL.pure (p := (pEq (.bool false))) rfl rfl rfl (J_assign rfl (Opd.tmp rfl)) ?_
      refine RegL.nil ?_
      replace h := Option.some.inj h; subst h
      exact Ct.mid () rfl ⟨rfl, trivial⟩
  · clear hx1
    refine Ct.then_tr ?_
    refine Tr.weak (Γ' := [(2, (pEq (.bool x1)))]) ⟨rfl, trivial⟩ ?_
    refine Tr.ret ?_
    replace h := Option.some.inj h; subst h
    exact Ct.retH1 (Ωx := []) () rfl (RvOk.tmp rfl) rfl


end Go.Proofs.Ytmaahfokhfmmnaa.fnExactPartProblemW
