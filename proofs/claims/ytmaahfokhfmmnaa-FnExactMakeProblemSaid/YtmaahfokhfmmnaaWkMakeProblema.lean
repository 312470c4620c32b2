/-
  The walks that the law FnExactMakeProblem reaches: each function computes its model. Printed by our own program.
-/
import Derived.Test.YtmaahfokhfmmnaaProg
import Derived.Test.YtmaahfokhfmmnaaMod
import Derived.Test.YtmaahfokhfmmnaaMore
import Derived.KernelRfl
namespace Go.Proofs.Ytmaahfokhfmmnaa.fnExactMakeProblemW
open Go Go.RowKit Go.Wk
set_option linter.unusedVariables false
set_option maxRecDepth 100000
theorem hmix : Try.prog.follows .mixedOrders = true := by kernel_rfl
theorem sz2 : ∀ w, (Go.sizeOf 2).run Try.prog w = .ok 1 w := fun _ => by kernel_rfl
theorem sz22 : ∀ w, (Go.sizeOf 22).run Try.prog w = .ok 1 w := fun _ => by kernel_rfl
theorem sz27 : ∀ w, (Go.sizeOf 27).run Try.prog w = .ok 1 w := fun _ => by kernel_rfl
theorem sz32 : ∀ w, (Go.sizeOf 32).run Try.prog w = .ok 2 w := fun _ => by kernel_rfl
theorem zero32 : Zero Try.prog 32 [(pEq (.slice none 0 0)), (pEq (.slice none 0 0))] := ⟨(.agg #[.slice none 0 0, .slice none 0 0]), [.slice none 0 0, .slice none 0 0], fun _ => by kernel_rfl, rfl, fun _ _ => ⟨rfl, ⟨rfl, trivial⟩⟩⟩
theorem bl32 : ∀ ps, Try.prog.built 32 ps = Instr.fill (fun x => (#[(0, 1), (1, 1)] : Array (Nat × Nat))[x]?) (List.toArray [.slice none 0 0, .slice none 0 0]) ps := fun _ => by kernel_rfl
theorem bz32 : ∀ I w, Vals I w [(pSl 1 (cSl 1 (cK .i64)) ([] : (List (List Int)))), (pSl 1 (cSl 1 (cK .i64)) ([] : (List (List Int))))] [.slice none 0 0, .slice none 0 0] := fun _ _ => ⟨Pd.nilsl, ⟨Pd.nilsl, trivial⟩⟩
theorem bz32o : ∀ I w, Vals I w [(pEq (.slice none 0 0)), (pEq (.slice none 0 0))] [.slice none 0 0, .slice none 0 0] := fun _ _ => ⟨rfl, ⟨rfl, trivial⟩⟩
theorem el2i : (Try.prog.info? 2).map (fun i => (i.zero, i.size, i.bytes)) = some (some (.int .i64 0), 1, 8) := by kernel_rfl
theorem el2 : Elem Try.prog 2 1 8 (cK .i64) (0 : Int) := by
  obtain ⟨i, h1, h2, h3, h4⟩ := info_parts el2i
  exact ⟨i, (.int .i64 0), [.int .i64 0], h1, h2, h3, h4, rfl, rfl, by decide, fun _ _ => ⟨rfl, trivial⟩, fun _ => rfl, fun _ _ _ _ h => ones_of ((OneCs.cons OneC.int OneCs.nil)) h⟩
theorem elh22i : (Try.prog.info? 22).map (fun i => (i.zero, i.size, i.bytes)) = some (some (.slice none 0 0), 1, 24) := by kernel_rfl
theorem elh22 : Elem Try.prog 22 1 24 cHdr ((none, 0, 0) : G3) := by
  obtain ⟨i, h1, h2, h3, h4⟩ := info_parts elh22i
  exact ⟨i, .slice none 0 0, [.slice none 0 0], h1, h2, h3, h4, rfl, rfl, by decide, fun _ _ => ⟨rfl, trivial⟩, fun _ => rfl, fun _ _ _ _ h => ones_of (OneCs.cons OneC.slice OneCs.nil) h⟩

theorem c_laws_szInt64S {a_0 : (List Int)} {left_1 : Int} {r : Int} (h : m_laws_szInt64S a_0 left_1 = some r) : CallJ Try.prog 68 [(pSl 1 (cK .i64) a_0), (pEq (.int .i64 left_1))] (pEq (.int .i64 r)) := by
  unfold m_laws_szInt64S at h
  refine CallJ.enterH Try.func68 rfl Try.ntmps68 rfl fun W I0 H => ?_
  refine Tr.weak (Γ' := [(0, (pSl 1 (cK .i64) a_0)), (1, (pEq (.int .i64 left_1)))]) ⟨rfl, rfl, trivial⟩ ?_
  refine Tr.seq ?_
  refine Tr.region ?_
  refine RegL.pure (p := (pEq (.int .i64 (0 : Int)))) rfl rfl rfl (J_assign rfl Opd.con) ?_
  refine RegL.nil ?_
  refine Ct.then_tr ?_
  refine Tr.weak (Γ' := [(0, (pSl 1 (cK .i64) a_0)), (1, (pEq (.int .i64 left_1)))]) ⟨rfl, rfl, trivial⟩ ?_
  refine Tr.seq ?_
  refine Tr.region ?_
  refine RegL.pure (p := (pEq (.int .i64 left_1))) rfl rfl rfl (J_move rfl (Opd.tmp rfl)) ?_
  refine RegL.pure (p := (pSl 1 (cK .i64) a_0)) rfl rfl rfl (J_move rfl (Opd.tmp rfl)) ?_
  refine RegL.pure (p := (pEq (.int .i64 (a_0.length : Int)))) rfl rfl rfl (J_len rfl Try.underlying22 (Opd.tmp rfl) rfl) ?_
  refine RegL.pure (p := (pEq (.int .i64 (w64 (left_1 - (a_0.length : Int)))))) rfl rfl rfl (J_bin rfl (Opd.tmp rfl) (Opd.tmp rfl) B_sub) ?_
  refine RegL.pure (p := (pEq (.int .i64 (w64 (left_1 - (a_0.length : Int)))))) rfl rfl rfl (J_assign rfl (Opd.tmp rfl)) ?_
  refine RegL.nil ?_
  refine Ct.then_tr ?_
  refine Tr.weak (Γ' := [(1, (pEq (.int .i64 (w64 (left_1 - (a_0.length : Int))))))]) ⟨rfl, trivial⟩ ?_
  refine Tr.seq ?_
  refine Tr.seq ?_
  refine Tr.region ?_
  refine RegL.pure (p := (pEq (.int .i64 (w64 (left_1 - (a_0.length : Int)))))) rfl rfl rfl (J_move rfl (Opd.tmp rfl)) ?_
  refine RegL.pure (p := (pEq (.bool (decide ((w64 (left_1 - (a_0.length : Int))) < (0 : Int)))))) rfl rfl rfl (J_bin rfl (Opd.tmp rfl) Opd.con B_lss) ?_
  refine RegL.nil ?_
  refine Ct.then_tr ?_
  refine Tr.weak (Γ' := [(1, (pEq (.int .i64 (w64 (left_1 - (a_0.length : Int)))))), (10, (pEq (.bool (decide ((w64 (left_1 - (a_0.length : Int))) < (0 : Int))))))]) ⟨rfl, rfl, trivial⟩ ?_
  refine Tr.cond (Opd.tmp rfl) (fun hc => ?_) (fun hc => ?_)
  · replace h := bif_t hc h
    refine Tr.seq ?_
    refine Tr.region ?_
    refine RegL.pure (p := (pEq (.int .i64 (-1 : Int)))) rfl rfl rfl (J_assign rfl Opd.con) ?_
    refine RegL.nil ?_
    refine Ct.then_tr ?_
    refine Tr.weak (Γ' := [(4, (pEq (.int .i64 (-1 : Int))))]) ⟨rfl, trivial⟩ ?_
    refine Tr.ret ?_
    refine Ct.then_ret ?_
    replace h := Option.some.inj h; subst h
    exact Ct.retH1 (Ωx := []) () rfl (RvOk.tmp rfl) rfl
  · replace h := bif_f hc h
    refine Tr.skip ?_
    refine Ct.then_tr ?_
    refine Tr.weak (Γ' := [(1, (pEq (.int .i64 (w64 (left_1 - (a_0.length : Int))))))]) ⟨rfl, trivial⟩ ?_
    refine Tr.seq ?_
    refine Tr.region ?_
    refine RegL.pure (p := (pEq (.int .i64 (w64 (left_1 - (a_0.length : Int)))))) rfl rfl rfl (J_move rfl (Opd.tmp rfl)) ?_
    refine RegL.pure (p := (pEq (.int .i64 (w64 (left_1 - (a_0.length : Int)))))) rfl rfl rfl (J_assign rfl (Opd.tmp rfl)) ?_
    refine RegL.nil ?_
    refine Ct.then_tr ?_
    refine Tr.weak (Γ' := [(4, (pEq (.int .i64 (w64 (left_1 - (a_0.length : Int))))))]) ⟨rfl, trivial⟩ ?_
    refine Tr.ret ?_
    replace h := Option.some.inj h; subst h
    exact Ct.retH1 (Ωx := []) () rfl (RvOk.tmp rfl) rfl

theorem c_laws_szInt64SS {a_0 : (List (List Int))} {left_1 : Int} {r : Int} (h : m_laws_szInt64SS a_0 left_1 = some r) : CallJ Try.prog 28 [(pSl 1 (cSl 1 (cK .i64)) a_0), (pEq (.int .i64 left_1))] (pEq (.int .i64 r)) := by
  unfold m_laws_szInt64SS at h
  refine CallJ.enterH Try.func28 rfl Try.ntmps28 rfl fun W I0 H => ?_
  refine Tr.weak (Γ' := [(0, (pSl 1 (cSl 1 (cK .i64)) a_0)), (1, (pEq (.int .i64 left_1)))]) ⟨rfl, rfl, trivial⟩ ?_
  refine Tr.seq ?_
  refine Tr.region ?_
  refine RegL.pure (p := (pEq (.int .i64 (0 : Int)))) rfl rfl rfl (J_assign rfl Opd.con) ?_
  refine RegL.nil ?_
  refine Ct.then_tr ?_
  refine Tr.weak (Γ' := [(0, (pSl 1 (cSl 1 (cK .i64)) a_0)), (1, (pEq (.int .i64 left_1)))]) ⟨rfl, rfl, trivial⟩ ?_
  refine Tr.seq ?_
  refine Tr.region ?_
  refine RegL.pure (p := (pEq (.int .i64 left_1))) rfl rfl rfl (J_move rfl (Opd.tmp rfl)) ?_
  refine RegL.pure (p := (pSl 1 (cSl 1 (cK .i64)) a_0)) rfl rfl rfl (J_move rfl (Opd.tmp rfl)) ?_
  refine RegL.pure (p := (pEq (.int .i64 (a_0.length : Int)))) rfl rfl rfl (J_len rfl Try.underlying27 (Opd.tmp rfl) rfl) ?_
  refine RegL.pure (p := (pEq (.int .i64 (w64 (left_1 - (a_0.length : Int)))))) rfl rfl rfl (J_bin rfl (Opd.tmp rfl) (Opd.tmp rfl) B_sub) ?_
  refine RegL.pure (p := (pEq (.int .i64 (w64 (left_1 - (a_0.length : Int)))))) rfl rfl rfl (J_assign rfl (Opd.tmp rfl)) ?_
  refine RegL.nil ?_
  refine Ct.then_tr ?_
  refine Tr.weak (Γ' := [(0, (pSl 1 (cSl 1 (cK .i64)) a_0)), (1, (pEq (.int .i64 (w64 (left_1 - (a_0.length : Int))))))]) ⟨rfl, rfl, trivial⟩ ?_
  refine Tr.seq ?_
  refine Tr.seq ?_
  refine Tr.region ?_
  refine RegL.pure (p := (pEq (.int .i64 (w64 (left_1 - (a_0.length : Int)))))) rfl rfl rfl (J_move rfl (Opd.tmp rfl)) ?_
  refine RegL.pure (p := (pEq (.bool (decide ((w64 (left_1 - (a_0.length : Int))) < (0 : Int)))))) rfl rfl rfl (J_bin rfl (Opd.tmp rfl) Opd.con B_lss) ?_
  refine RegL.nil ?_
  refine Ct.then_tr ?_
  refine Tr.weak (Γ' := [(0, (pSl 1 (cSl 1 (cK .i64)) a_0)), (1, (pEq (.int .i64 (w64 (left_1 - (a_0.length : Int)))))), (11, (pEq (.bool (decide ((w64 (left_1 - (a_0.length : Int))) < (0 : Int))))))]) ⟨rfl, rfl, rfl, trivial⟩ ?_
  refine Tr.cond (Opd.tmp rfl) (fun hc => ?_) (fun hc => ?_)
  · replace h := bif_t hc h
    refine Tr.seq ?_
    refine Tr.region ?_
    refine RegL.pure (p := (pEq (.int .i64 (-1 : Int)))) rfl rfl rfl (J_assign rfl Opd.con) ?_
    refine RegL.nil ?_
    refine Ct.then_tr ?_
    refine Tr.weak (Γ' := [(4, (pEq (.int .i64 (-1 : Int))))]) ⟨rfl, trivial⟩ ?_
    refine Tr.ret ?_
    refine Ct.then_ret ?_
    replace h := Option.some.inj h; subst h
    exact Ct.retH1 (Ωx := []) () rfl (RvOk.tmp rfl) rfl
  · replace h := bif_f hc h
    refine Tr.skip ?_
    refine Ct.then_tr ?_
    refine Tr.weak (Γ' := [(0, (pSl 1 (cSl 1 (cK .i64)) a_0)), (1, (pEq (.int .i64 (w64 (left_1 - (a_0.length : Int))))))]) ⟨rfl, rfl, trivial⟩ ?_
    refine Tr.seq ?_
    refine Tr.seq ?_
    refine Tr.region ?_
    refine RegL.pure (p := (pEq (.int .i64 (0 : Int)))) rfl rfl rfl (J_assign rfl Opd.con) ?_
    refine RegL.nil ?_
    refine Ct.then_tr ?_
    refine Tr.weak (Γ' := [(0, (pSl 1 (cSl 1 (cK .i64)) a_0)), (1, (pEq (.int .i64 (w64 (left_1 - (a_0.length : Int)))))), (5, (pEq (.int .i64 (0 : Int))))]) ⟨rfl, rfl, rfl, trivial⟩ ?_
    refine Tr.block ?_
    refine Tr.weak (Γ' := [(0, (pSl 1 (cSl 1 (cK .i64)) a_0)), (1, (pEq (.int .i64 (w64 (left_1 - (a_0.length : Int)))))), (5, (pEq (.int .i64 (0 : Int))))]) ⟨rfl, rfl, rfl, trivial⟩ ?_
    refine Tr.loop (γ := Unit) (σ := (Int × Int)) (Γσ := fun s g => [(0, (pSl 1 (cSl 1 (cK .i64)) a_0)), (1, (pEq (.int .i64 s.1))), (5, (pEq (.int .i64 s.2)))]) (Ωσ := fun s g => []) (g := ()) h ?_
    clear h
    rintro ⟨v2, v3⟩ g4 t h
    replace h : m_laws_szInt64SS_B1 a_0 v2 v3 = some t := h
    unfold m_laws_szInt64SS_B1 at h
    refine Tr.weakO (Γ' := [(0, (pSl 1 (cSl 1 (cK .i64)) a_0)), (1, (pEq (.int .i64 v2))), (5, (pEq (.int .i64 v3)))]) (Ω' := []) rfl ⟨rfl, rfl, rfl, trivial⟩ ?_
    refine Tr.seq ?_
    refine Tr.seq ?_
    refine Tr.region ?_
    refine RegL.pure (p := (pEq (.int .i64 v3))) rfl rfl rfl (J_move rfl (Opd.tmp rfl)) ?_
    refine RegL.pure (p := (pSl 1 (cSl 1 (cK .i64)) a_0)) rfl rfl rfl (J_move rfl (Opd.tmp rfl)) ?_
    refine RegL.pure (p := (pEq (.int .i64 (a_0.length : Int)))) rfl rfl rfl (J_len rfl Try.underlying27 (Opd.tmp rfl) rfl) ?_
    refine RegL.pure (p := (pEq (.bool (decide (v3 < (a_0.length : Int)))))) rfl rfl rfl (J_bin rfl (Opd.tmp rfl) (Opd.tmp rfl) B_lss) ?_
    refine RegL.nil ?_
    refine Ct.then_tr ?_
    refine Tr.weak (Γ' := [(0, (pSl 1 (cSl 1 (cK .i64)) a_0)), (1, (pEq (.int .i64 v2))), (5, (pEq (.int .i64 v3))), (15, (pEq (.bool (decide (v3 < (a_0.length : Int))))))]) ⟨rfl, rfl, rfl, rfl, trivial⟩ ?_
    refine Tr.cond (Opd.tmp rfl) (fun hc => ?_) (fun hc => ?_)
    · replace h := bif_t hc h
      refine Tr.skip ?_
      refine Ct.then_tr ?_
      refine Tr.weak (Γ' := [(0, (pSl 1 (cSl 1 (cK .i64)) a_0)), (1, (pEq (.int .i64 v2))), (5, (pEq (.int .i64 v3)))]) ⟨rfl, rfl, rfl, trivial⟩ ?_
      refine Tr.seq ?_
      refine Tr.block ?_
      refine Tr.seq ?_
      refine Tr.region ?_
      refine RegL.pure (p := (pSl 1 (cSl 1 (cK .i64)) a_0)) rfl rfl rfl (J_move rfl (Opd.tmp rfl)) ?_
      refine RegL.pure (p := (pEq (.int .i64 v3))) rfl rfl rfl (J_move rfl (Opd.tmp rfl)) ?_
      replace h := bind_some h; obtain ⟨x5, hx5, h⟩ := h
      refine RegL.pure (p := (pPtr ((cSl 1 (cK .i64)) x5))) rfl rfl rfl (J_idx rfl Try.underlying27 sz22 (Opd.tmp rfl) (Opd.tmp rfl) hx5) ?_
      refine RegL.pure (p := (pSl 1 (cK .i64) x5)) rfl rfl rfl (J_load rfl Try.isAgg22 (Opd.tmp rfl)) ?_
      refine RegL.pure (p := (pEq (.int .i64 v2))) rfl rfl rfl (J_move rfl (Opd.tmp rfl)) ?_
      replace h := bind_some h; obtain ⟨x6, hx6, h⟩ := h
      refine RegL.pure (p := (pEq (.int .i64 x6))) rfl rfl rfl (J_call rfl Try.call68 (c_laws_szInt64S hx6) (Opds.cons (Opd.tmp rfl) (Opds.cons (Opd.tmp rfl) Opds.nil))) ?_
      refine RegL.pure (p := (pEq (.int .i64 x6))) rfl rfl rfl (J_assign rfl (Opd.tmp rfl)) ?_
      refine RegL.nil ?_
      refine Ct.then_tr ?_
      refine Tr.weak (Γ' := [(0, (pSl 1 (cSl 1 (cK .i64)) a_0)), (1, (pEq (.int .i64 x6))), (5, (pEq (.int .i64 v3)))]) ⟨rfl, rfl, rfl, trivial⟩ ?_
      refine Tr.seq ?_
      refine Tr.region ?_
      refine RegL.pure (p := (pEq (.int .i64 x6))) rfl rfl rfl (J_move rfl (Opd.tmp rfl)) ?_
      refine RegL.pure (p := (pEq (.bool (decide (x6 < (0 : Int)))))) rfl rfl rfl (J_bin rfl (Opd.tmp rfl) Opd.con B_lss) ?_
      refine RegL.nil ?_
      refine Ct.then_tr ?_
      refine Tr.weak (Γ' := [(0, (pSl 1 (cSl 1 (cK .i64)) a_0)), (1, (pEq (.int .i64 x6))), (5, (pEq (.int .i64 v3))), (25, (pEq (.bool (decide (x6 < (0 : Int))))))]) ⟨rfl, rfl, rfl, rfl, trivial⟩ ?_
      refine Tr.cond (Opd.tmp rfl) (fun hc => ?_) (fun hc => ?_)
      · replace h := bif_t hc h
        refine Tr.seq ?_
        refine Tr.region ?_
        refine RegL.pure (p := (pEq (.int .i64 (-1 : Int)))) rfl rfl rfl (J_assign rfl Opd.con) ?_
        refine RegL.nil ?_
        refine Ct.then_tr ?_
        refine Tr.weak (Γ' := [(4, (pEq (.int .i64 (-1 : Int))))]) ⟨rfl, trivial⟩ ?_
        refine Tr.ret ?_
        refine Ct.blk_ret ?_
        refine Ct.then_ret ?_
        replace h := map_some h; obtain ⟨r1, h, rfl⟩ := h
        refine Ct.out_ret fun e => ?_
        subst e
        refine Ct.blk_ret ?_
        refine Ct.then_ret ?_
        replace h := Option.some.inj h; subst h
        exact Ct.retH1 (Ωx := []) () rfl (RvOk.tmp rfl) rfl
      · replace h := bif_f hc h
        refine Tr.skip ?_
        refine Ct.blk_normal ?_
        refine Ct.then_tr ?_
        refine Tr.weak (Γ' := [(0, (pSl 1 (cSl 1 (cK .i64)) a_0)), (1, (pEq (.int .i64 x6))), (5, (pEq (.int .i64 v3)))]) ⟨rfl, rfl, rfl, trivial⟩ ?_
        refine Tr.region ?_
        refine RegL.pure (p := (pEq (.int .i64 v3))) rfl rfl rfl (J_move rfl (Opd.tmp rfl)) ?_
        refine RegL.pure (p := (pEq (.int .i64 (w64 (v3 + (1 : Int)))))) rfl rfl rfl (J_bin rfl (Opd.tmp rfl) Opd.con B_add) ?_
        refine RegL.pure (p := (pEq (.int .i64 (w64 (v3 + (1 : Int)))))) rfl rfl rfl (J_assign rfl (Opd.tmp rfl)) ?_
        refine RegL.nil ?_
        replace h := Option.some.inj h; subst h
        exact Ct.again () rfl ⟨rfl, rfl, rfl, trivial⟩
    · replace h := bif_f hc h
      refine Tr.exit ?_
      refine Ct.then_exit ?_
      replace h := map_some h; obtain ⟨r1, h, rfl⟩ := h
      refine Ct.out_exit fun e => ?_
      subst e
      refine Ct.blk_exit ?_
      refine Ct.then_tr ?_
      refine Tr.weak (Γ' := [(1, (pEq (.int .i64 v2)))]) ⟨rfl, trivial⟩ ?_
      refine Tr.seq ?_
      refine Tr.region ?_
      refine RegL.pure (p := (pEq (.int .i64 v2))) rfl rfl rfl (J_move rfl (Opd.tmp rfl)) ?_
      refine RegL.pure (p := (pEq (.int .i64 v2))) rfl rfl rfl (J_assign rfl (Opd.tmp rfl)) ?_
      refine RegL.nil ?_
      refine Ct.then_tr ?_
      refine Tr.weak (Γ' := [(4, (pEq (.int .i64 v2)))]) ⟨rfl, trivial⟩ ?_
      refine Tr.ret ?_
      replace h := Option.some.inj h; subst h
      exact Ct.retH1 (Ωx := []) () rfl (RvOk.tmp rfl) rfl

theorem o_laws_toInt64S {a_0 : (List Int)}  {r : (List Int)} (h : m_laws_toInt64S a_0 = some r) : CallH Try.prog 16 [(pSl 1 (cK .i64) a_0)] [] (fun g : G3 => (pEq (.slice g.1 g.2.1 g.2.2))) (fun g : G3 => [oSl 2 1 (cK .i64) g.1 g.2.1 g.2.2 r]) := by
  unfold m_laws_toInt64S at h
  refine CallH.enter Try.func16 rfl Try.ntmps16 rfl fun W I0 H => ?_
  refine Tr.weak (Γ' := [(0, (pSl 1 (cK .i64) a_0))]) ⟨rfl, trivial⟩ ?_
  refine Tr.seq ?_
  refine Tr.region ?_
  refine RegL.pure (p := (pEq (.slice none 0 0))) rfl rfl rfl (J_assign rfl Opd.con) ?_
  refine RegL.nil ?_
  refine Ct.then_tr ?_
  refine Tr.weak (Γ' := [(0, (pSl 1 (cK .i64) a_0))]) ⟨rfl, trivial⟩ ?_
  refine Tr.seq ?_
  refine Tr.region ?_
  refine RegL.pure (p := (pSl 1 (cK .i64) a_0)) rfl rfl rfl (J_move rfl (Opd.tmp rfl)) ?_
  refine RegL.pure (p := (pEq (.int .i64 (a_0.length : Int)))) rfl rfl rfl (J_len rfl Try.underlying22 (Opd.tmp rfl) rfl) ?_
  replace h := bind_some h; obtain ⟨x1, hx1, h⟩ := h
  refine RegL.step (γ := Option Addr) (p := fun a => pEq (.slice a ((a_0.length : Int)).toNat ((a_0.length : Int)).toNat)) (Ω' := fun a => [oSl 2 1 (cK .i64) a ((a_0.length : Int)).toNat ((a_0.length : Int)).toNat x1]) rfl rfl rfl (M_make rfl Try.underlying22 el2 (by decide) (Opd.tmp rfl) hx1) fun o2 => ?_
  refine RegL.pure (p := (pEq (.slice o2 ((a_0.length : Int)).toNat ((a_0.length : Int)).toNat))) rfl rfl rfl (J_assign rfl (Opd.tmp rfl)) ?_
  refine RegL.nil ?_
  refine Ct.then_tr ?_
  refine Tr.weak (Γ' := [(0, (pSl 1 (cK .i64) a_0)), (3, (pEq (.slice o2 ((a_0.length : Int)).toNat ((a_0.length : Int)).toNat)))]) ⟨rfl, rfl, trivial⟩ ?_
  refine Tr.seq ?_
  refine Tr.seq ?_
  refine Tr.region ?_
  refine RegL.pure (p := (pEq (.int .i64 (0 : Int)))) rfl rfl rfl (J_assign rfl Opd.con) ?_
  refine RegL.nil ?_
  refine Ct.then_tr ?_
  refine Tr.weak (Γ' := [(0, (pSl 1 (cK .i64) a_0)), (3, (pEq (.slice o2 ((a_0.length : Int)).toNat ((a_0.length : Int)).toNat))), (4, (pEq (.int .i64 (0 : Int))))]) ⟨rfl, rfl, rfl, trivial⟩ ?_
  replace h := bind_some h; obtain ⟨x4, hx4, h⟩ := h
  refine Tr.cut (γ := G3) (Γm := fun g => [(3, (pEq (.slice g.1 g.2.1 g.2.2)))]) (Ωm := fun g => [oSl 2 1 (cK .i64) g.1 g.2.1 g.2.2 x4]) ?_ (fun g12 => ?_)
  · clear h
    have h := hx4
    clear hx4
    refine Tr.block ?_
    refine Tr.weak (Γ' := [(0, (pSl 1 (cK .i64) a_0)), (3, (pEq (.slice o2 ((a_0.length : Int)).toNat ((a_0.length : Int)).toNat))), (4, (pEq (.int .i64 (0 : Int))))]) ⟨rfl, rfl, rfl, trivial⟩ ?_
    refine Tr.loop (γ := G3) (σ := (Int × (List Int))) (Γσ := fun s g => [(0, (pSl 1 (cK .i64) a_0)), (3, (pEq (.slice g.1 g.2.1 g.2.2))), (4, (pEq (.int .i64 s.1)))]) (Ωσ := fun s g => [oSl 2 1 (cK .i64) g.1 g.2.1 g.2.2 s.2]) (g := (o2, ((a_0.length : Int)).toNat, ((a_0.length : Int)).toNat)) h ?_
    clear h
    rintro ⟨v6, v7⟩ g8 t h
    replace h : m_laws_toInt64S_B5 a_0 v6 v7 = some t := h
    unfold m_laws_toInt64S_B5 at h
    refine Tr.weakO (Γ' := [(0, (pSl 1 (cK .i64) a_0)), (3, (pEq (.slice g8.1 g8.2.1 g8.2.2))), (4, (pEq (.int .i64 v6)))]) (Ω' := [oSl 2 1 (cK .i64) g8.1 g8.2.1 g8.2.2 v7]) rfl ⟨rfl, rfl, rfl, trivial⟩ ?_
    refine Tr.seq ?_
    refine Tr.seq ?_
    refine Tr.region ?_
    refine RegL.pure (p := (pEq (.int .i64 v6))) rfl rfl rfl (J_move rfl (Opd.tmp rfl)) ?_
    refine RegL.pure (p := (pSl 1 (cK .i64) a_0)) rfl rfl rfl (J_move rfl (Opd.tmp rfl)) ?_
    refine RegL.pure (p := (pEq (.int .i64 (a_0.length : Int)))) rfl rfl rfl (J_len rfl Try.underlying22 (Opd.tmp rfl) rfl) ?_
    refine RegL.pure (p := (pEq (.bool (decide (v6 < (a_0.length : Int)))))) rfl rfl rfl (J_bin rfl (Opd.tmp rfl) (Opd.tmp rfl) B_lss) ?_
    refine RegL.nil ?_
    refine Ct.then_tr ?_
    refine Tr.weak (Γ' := [(0, (pSl 1 (cK .i64) a_0)), (3, (pEq (.slice g8.1 g8.2.1 g8.2.2))), (4, (pEq (.int .i64 v6))), (11, (pEq (.bool (decide (v6 < (a_0.length : Int))))))]) ⟨rfl, rfl, rfl, rfl, trivial⟩ ?_
    refine Tr.cond (Opd.tmp rfl) (fun hc => ?_) (fun hc => ?_)
    · replace h := bif_t hc h
      refine Tr.skip ?_
      refine Ct.then_tr ?_
      refine Tr.weak (Γ' := [(0, (pSl 1 (cK .i64) a_0)), (3, (pEq (.slice g8.1 g8.2.1 g8.2.2))), (4, (pEq (.int .i64 v6)))]) ⟨rfl, rfl, rfl, trivial⟩ ?_
      refine Tr.seq ?_
      refine Tr.block ?_
      refine Tr.region ?_
      refine RegL.pure (p := (pEq (.slice g8.1 g8.2.1 g8.2.2))) rfl rfl rfl (J_move rfl (Opd.tmp rfl)) ?_
      refine RegL.pure (p := (pEq (.int .i64 v6))) rfl rfl rfl (J_move rfl (Opd.tmp rfl)) ?_
      refine RegL.pure (p := (pSl 1 (cK .i64) a_0)) rfl rfl rfl (J_move rfl (Opd.tmp rfl)) ?_
      refine RegL.pure (p := (pEq (.int .i64 v6))) rfl rfl rfl (J_move rfl (Opd.tmp rfl)) ?_
      replace h := bind_some h; obtain ⟨x9, hx9, h⟩ := h
      refine RegL.pure (p := (pPtr ((cK .i64) x9))) rfl rfl rfl (J_idx rfl Try.underlying22 sz2 (Opd.tmp rfl) (Opd.tmp rfl) hx9) ?_
      refine RegL.pure (p := (pEq (.int .i64 x9))) rfl rfl rfl (J_load rfl Try.isAgg2 (Opd.tmp rfl)) ?_
      replace h := bind_some h; obtain ⟨u10, hu10, h⟩ := h
      refine RegL.pureW (p := (pEq (.pointer (some ⟨blk g8.1, (v6).toNat * 1, none⟩)))) rfl rfl rfl (W_rowIdx (j := 0) rfl Try.underlying22 sz2 (Opd.tmp rfl) (Opd.tmp rfl) rfl (inB_some hu10)) ?_
      refine RegL.stepN (γ := Unit) (p := fun _ => pAny) (Ω' := fun _ => [oSl 2 1 (cK .i64) g8.1 g8.2.1 g8.2.2 (v7.set (v6).toNat x9)]) rfl rfl (M_rowStore rfl sz2 (fun _ => rfl) (Opd.tmp rfl) (Opd.tmp rfl) rfl OneC.int (setL_of (inB_some hu10))) fun g11 => ?_
      refine RegL.nil ?_
      refine Ct.blk_normal ?_
      refine Ct.then_tr ?_
      refine Tr.weak (Γ' := [(0, (pSl 1 (cK .i64) a_0)), (3, (pEq (.slice g8.1 g8.2.1 g8.2.2))), (4, (pEq (.int .i64 v6)))]) ⟨rfl, rfl, rfl, trivial⟩ ?_
      refine Tr.region ?_
      refine RegL.pure (p := (pEq (.int .i64 v6))) rfl rfl rfl (J_move rfl (Opd.tmp rfl)) ?_
      refine RegL.pure (p := (pEq (.int .i64 (w64 (v6 + (1 : Int)))))) rfl rfl rfl (J_bin rfl (Opd.tmp rfl) Opd.con B_add) ?_
      refine RegL.pure (p := (pEq (.int .i64 (w64 (v6 + (1 : Int)))))) rfl rfl rfl (J_assign rfl (Opd.tmp rfl)) ?_
      refine RegL.nil ?_
      replace h := Option.some.inj h; subst h
      exact Ct.again (g8.1, g8.2.1, g8.2.2) rfl ⟨rfl, rfl, rfl, trivial⟩
    · replace h := bif_f hc h
      refine Tr.exit ?_
      refine Ct.then_exit ?_
      replace h := map_some h; obtain ⟨r1, h, rfl⟩ := h
      refine Ct.out_exit fun e => ?_
      subst e
      refine Ct.blk_exit ?_
      replace h := Option.some.inj h; subst h
      exact Ct.mid (g8.1, g8.2.1, g8.2.2) rfl ⟨rfl, trivial⟩
  · clear hx4
    refine Ct.then_tr ?_
    refine Tr.weak (Γ' := [(3, (pEq (.slice g12.1 g12.2.1 g12.2.2)))]) ⟨rfl, trivial⟩ ?_
    refine Tr.seq ?_
    refine Tr.region ?_
    refine RegL.pure (p := (pEq (.slice g12.1 g12.2.1 g12.2.2))) rfl rfl rfl (J_move rfl (Opd.tmp rfl)) ?_
    refine RegL.pure (p := (pEq (.slice g12.1 g12.2.1 g12.2.2))) rfl rfl rfl (J_assign rfl (Opd.tmp rfl)) ?_
    refine RegL.nil ?_
    refine Ct.then_tr ?_
    refine Tr.weak (Γ' := [(2, (pEq (.slice g12.1 g12.2.1 g12.2.2)))]) ⟨rfl, trivial⟩ ?_
    refine Tr.ret ?_
    replace h := Option.some.inj h; subst h
    exact Ct.retH1 (Ωx := []) (g12.1, g12.2.1, g12.2.2) rfl (RvOk.tmp rfl) rfl

theorem c_laws_toInt64S {a_0 : (List Int)} {r : (List Int)} (h : m_laws_toInt64S a_0 = some r) : CallJ Try.prog 16 [(pSl 1 (cK .i64) a_0)] (pSl 1 (cK .i64) r) :=
  CallH.frozen (o_laws_toInt64S h) (fun g => (Conv.row 0 (fun _ => rfl) rfl))

theorem o_laws_toInt64SS {a_0 : (List (List Int))}  {r : (List (List Int))} (h : m_laws_toInt64SS a_0 = some r) : CallH Try.prog 30 [(pSl 1 (cSl 1 (cK .i64)) a_0)] [] (fun g : (G3 × List G3) => (pEq (.slice g.1.1 g.1.2.1 g.1.2.2))) (fun g : (G3 × List G3) => [oSS 22 2 1 (cK .i64) g.1.1 g.1.2.1 g.1.2.2 g.2 r]) := by
  unfold m_laws_toInt64SS at h
  refine CallH.enter Try.func30 rfl Try.ntmps30 rfl fun W I0 H => ?_
  refine Tr.weak (Γ' := [(0, (pSl 1 (cSl 1 (cK .i64)) a_0))]) ⟨rfl, trivial⟩ ?_
  refine Tr.seq ?_
  refine Tr.region ?_
  refine RegL.pure (p := (pEq (.slice none 0 0))) rfl rfl rfl (J_assign rfl Opd.con) ?_
  refine RegL.nil ?_
  refine Ct.then_tr ?_
  refine Tr.weak (Γ' := [(0, (pSl 1 (cSl 1 (cK .i64)) a_0))]) ⟨rfl, trivial⟩ ?_
  refine Tr.seq ?_
  refine Tr.region ?_
  refine RegL.pure (p := (pSl 1 (cSl 1 (cK .i64)) a_0)) rfl rfl rfl (J_move rfl (Opd.tmp rfl)) ?_
  refine RegL.pure (p := (pEq (.int .i64 (a_0.length : Int)))) rfl rfl rfl (J_len rfl Try.underlying27 (Opd.tmp rfl) rfl) ?_
  replace h := bind_some h; obtain ⟨x1, hx1, h⟩ := h
  refine RegL.step (γ := Option Addr) (p := fun a => pEq (.slice a ((a_0.length : Int)).toNat ((a_0.length : Int)).toNat)) (Ω' := fun a => [oSl 22 1 cHdr a ((a_0.length : Int)).toNat ((a_0.length : Int)).toNat (List.replicate ((a_0.length : Int)).toNat ((none, 0, 0) : G3))]) rfl rfl rfl (M_make rfl Try.underlying27 elh22 (by decide) (Opd.tmp rfl) (mkL_hdr hx1)) fun o2 => ?_
  refine RegL.re (Ω2 := [oSS 22 2 1 (cK .i64) o2 ((a_0.length : Int)).toNat ((a_0.length : Int)).toNat (List.replicate ((a_0.length : Int)).toNat ((none, 0, 0) : G3)) x1]) (fun h => (by rw [(mkL_some hx1).2]; exact nest_rep h)) ?_
  refine RegL.pure (p := (pEq (.slice o2 ((a_0.length : Int)).toNat ((a_0.length : Int)).toNat))) rfl rfl rfl (J_assign rfl (Opd.tmp rfl)) ?_
  refine RegL.nil ?_
  refine Ct.then_tr ?_
  refine Tr.weak (Γ' := [(0, (pSl 1 (cSl 1 (cK .i64)) a_0)), (3, (pEq (.slice o2 ((a_0.length : Int)).toNat ((a_0.length : Int)).toNat)))]) ⟨rfl, rfl, trivial⟩ ?_
  refine Tr.seq ?_
  refine Tr.seq ?_
  refine Tr.region ?_
  refine RegL.pure (p := (pEq (.int .i64 (0 : Int)))) rfl rfl rfl (J_assign rfl Opd.con) ?_
  refine RegL.nil ?_
  refine Ct.then_tr ?_
  refine Tr.weak (Γ' := [(0, (pSl 1 (cSl 1 (cK .i64)) a_0)), (3, (pEq (.slice o2 ((a_0.length : Int)).toNat ((a_0.length : Int)).toNat))), (4, (pEq (.int .i64 (0 : Int))))]) ⟨rfl, rfl, rfl, trivial⟩ ?_
  replace h := bind_some h; obtain ⟨x4, hx4, h⟩ := h
  refine Tr.cut (γ := (G3 × List G3)) (Γm := fun g => [(3, (pEq (.slice g.1.1 g.1.2.1 g.1.2.2)))]) (Ωm := fun g => [oSS 22 2 1 (cK .i64) g.1.1 g.1.2.1 g.1.2.2 g.2 x4]) ?_ (fun g15 => ?_)
  · clear h
    have h := hx4
    clear hx4
    refine Tr.block ?_
    refine Tr.weak (Γ' := [(0, (pSl 1 (cSl 1 (cK .i64)) a_0)), (3, (pEq (.slice o2 ((a_0.length : Int)).toNat ((a_0.length : Int)).toNat))), (4, (pEq (.int .i64 (0 : Int))))]) ⟨rfl, rfl, rfl, trivial⟩ ?_
    refine Tr.loop (γ := (G3 × List G3)) (σ := (Int × (List (List Int)))) (Γσ := fun s g => [(0, (pSl 1 (cSl 1 (cK .i64)) a_0)), (3, (pEq (.slice g.1.1 g.1.2.1 g.1.2.2))), (4, (pEq (.int .i64 s.1)))]) (Ωσ := fun s g => [oSS 22 2 1 (cK .i64) g.1.1 g.1.2.1 g.1.2.2 g.2 s.2]) (g := ((o2, ((a_0.length : Int)).toNat, ((a_0.length : Int)).toNat), (List.replicate ((a_0.length : Int)).toNat ((none, 0, 0) : G3)))) h ?_
    clear h
    rintro ⟨v6, v7⟩ g8 t h
    replace h : m_laws_toInt64SS_B5 a_0 v6 v7 = some t := h
    unfold m_laws_toInt64SS_B5 at h
    refine Tr.weakO (Γ' := [(0, (pSl 1 (cSl 1 (cK .i64)) a_0)), (3, (pEq (.slice g8.1.1 g8.1.2.1 g8.1.2.2))), (4, (pEq (.int .i64 v6)))]) (Ω' := [oSS 22 2 1 (cK .i64) g8.1.1 g8.1.2.1 g8.1.2.2 g8.2 v7]) rfl ⟨rfl, rfl, rfl, trivial⟩ ?_
    refine Tr.seq ?_
    refine Tr.seq ?_
    refine Tr.region ?_
    refine RegL.pure (p := (pEq (.int .i64 v6))) rfl rfl rfl (J_move rfl (Opd.tmp rfl)) ?_
    refine RegL.pure (p := (pSl 1 (cSl 1 (cK .i64)) a_0)) rfl rfl rfl (J_move rfl (Opd.tmp rfl)) ?_
    refine RegL.pure (p := (pEq (.int .i64 (a_0.length : Int)))) rfl rfl rfl (J_len rfl Try.underlying27 (Opd.tmp rfl) rfl) ?_
    refine RegL.pure (p := (pEq (.bool (decide (v6 < (a_0.length : Int)))))) rfl rfl rfl (J_bin rfl (Opd.tmp rfl) (Opd.tmp rfl) B_lss) ?_
    refine RegL.nil ?_
    refine Ct.then_tr ?_
    refine Tr.weak (Γ' := [(0, (pSl 1 (cSl 1 (cK .i64)) a_0)), (3, (pEq (.slice g8.1.1 g8.1.2.1 g8.1.2.2))), (4, (pEq (.int .i64 v6))), (11, (pEq (.bool (decide (v6 < (a_0.length : Int))))))]) ⟨rfl, rfl, rfl, rfl, trivial⟩ ?_
    refine Tr.cond (Opd.tmp rfl) (fun hc => ?_) (fun hc => ?_)
    · replace h := bif_t hc h
      refine Tr.skip ?_
      refine Ct.then_tr ?_
      refine Tr.weak (Γ' := [(0, (pSl 1 (cSl 1 (cK .i64)) a_0)), (3, (pEq (.slice g8.1.1 g8.1.2.1 g8.1.2.2))), (4, (pEq (.int .i64 v6)))]) ⟨rfl, rfl, rfl, trivial⟩ ?_
      refine Tr.seq ?_
      refine Tr.block ?_
      refine Tr.region ?_
      refine RegL.pure (p := (pEq (.slice g8.1.1 g8.1.2.1 g8.1.2.2))) rfl rfl rfl (J_move rfl (Opd.tmp rfl)) ?_
      refine RegL.pure (p := (pEq (.int .i64 v6))) rfl rfl rfl (J_move rfl (Opd.tmp rfl)) ?_
      refine RegL.pure (p := (pSl 1 (cSl 1 (cK .i64)) a_0)) rfl rfl rfl (J_move rfl (Opd.tmp rfl)) ?_
      refine RegL.pure (p := (pEq (.int .i64 v6))) rfl rfl rfl (J_move rfl (Opd.tmp rfl)) ?_
      replace h := bind_some h; obtain ⟨x9, hx9, h⟩ := h
      refine RegL.pure (p := (pPtr ((cSl 1 (cK .i64)) x9))) rfl rfl rfl (J_idx rfl Try.underlying27 sz22 (Opd.tmp rfl) (Opd.tmp rfl) hx9) ?_
      refine RegL.pure (p := (pSl 1 (cK .i64) x9)) rfl rfl rfl (J_load rfl Try.isAgg22 (Opd.tmp rfl)) ?_
      replace h := bind_some h; obtain ⟨x10, hx10, h⟩ := h
      refine RegL.step (γ := G3) (p := fun g => (pEq (.slice g.1 g.2.1 g.2.2))) (Ω' := fun g => [oSl 2 1 (cK .i64) g.1 g.2.1 g.2.2 x10, oSS 22 2 1 (cK .i64) g8.1.1 g8.1.2.1 g8.1.2.2 g8.2 v7]) rfl rfl rfl (M_callH (Ωi := []) rfl Try.call16 (o_laws_toInt64S hx10) (Opds.cons (Opd.tmp rfl) Opds.nil)) fun g11 => ?_
      replace h := bind_some h; obtain ⟨u13, hu13, h⟩ := h
      refine RegL.pureW (p := (pEq (.pointer (some ⟨blk g8.1.1, (v6).toNat * 1, none⟩)))) rfl rfl rfl (W_nestIdx (j := 1) rfl Try.underlying27 sz22 (Opd.tmp rfl) (Opd.tmp rfl) rfl (inB_some hu13)) ?_
      refine RegL.re (Ω2 := [oSS 22 2 1 (cK .i64) g8.1.1 g8.1.2.1 g8.1.2.2 g8.2 v7, oSl 2 1 (cK .i64) g11.1 g11.2.1 g11.2.2 x10]) (fun h => SatO.pick 1 h) ?_
      refine RegL.stepN (γ := Unit) (p := fun _ => pAny) (Ω' := fun _ => [oSS 22 2 1 (cK .i64) g8.1.1 g8.1.2.1 g8.1.2.2 (g8.2.set (v6).toNat (g11.1, g11.2.1, g11.2.2)) (v7.set (v6).toNat x10)]) rfl rfl (M_nestStore rfl sz22 (Opd.tmp rfl) (Opd.tmp rfl) (inB_some hu13)) fun g14 => ?_
      refine RegL.nil ?_
      refine Ct.blk_normal ?_
      refine Ct.then_tr ?_
      refine Tr.weak (Γ' := [(0, (pSl 1 (cSl 1 (cK .i64)) a_0)), (3, (pEq (.slice g8.1.1 g8.1.2.1 g8.1.2.2))), (4, (pEq (.int .i64 v6)))]) ⟨rfl, rfl, rfl, trivial⟩ ?_
      refine Tr.region ?_
      refine RegL.pure (p := (pEq (.int .i64 v6))) rfl rfl rfl (J_move rfl (Opd.tmp rfl)) ?_
      refine RegL.pure (p := (pEq (.int .i64 (w64 (v6 + (1 : Int)))))) rfl rfl rfl (J_bin rfl (Opd.tmp rfl) Opd.con B_add) ?_
      refine RegL.pure (p := (pEq (.int .i64 (w64 (v6 + (1 : Int)))))) rfl rfl rfl (J_assign rfl (Opd.tmp rfl)) ?_
      refine RegL.nil ?_
      replace h := Option.some.inj h; subst h
      exact Ct.again ((g8.1.1, g8.1.2.1, g8.1.2.2), (g8.2.set (v6).toNat (g11.1, g11.2.1, g11.2.2))) rfl ⟨rfl, rfl, rfl, trivial⟩
    · replace h := bif_f hc h
      refine Tr.exit ?_
      refine Ct.then_exit ?_
      replace h := map_some h; obtain ⟨r1, h, rfl⟩ := h
      refine Ct.out_exit fun e => ?_
      subst e
      refine Ct.blk_exit ?_
      replace h := Option.some.inj h; subst h
      exact Ct.mid ((g8.1.1, g8.1.2.1, g8.1.2.2), g8.2) rfl ⟨rfl, trivial⟩
  · clear hx4
    refine Ct.then_tr ?_
    refine Tr.weak (Γ' := [(3, (pEq (.slice g15.1.1 g15.1.2.1 g15.1.2.2)))]) ⟨rfl, trivial⟩ ?_
    refine Tr.seq ?_
    refine Tr.region ?_
    refine RegL.pure (p := (pEq (.slice g15.1.1 g15.1.2.1 g15.1.2.2))) rfl rfl rfl (J_move rfl (Opd.tmp rfl)) ?_
    refine RegL.pure (p := (pEq (.slice g15.1.1 g15.1.2.1 g15.1.2.2))) rfl rfl rfl (J_assign rfl (Opd.tmp rfl)) ?_
    refine RegL.nil ?_
    refine Ct.then_tr ?_
    refine Tr.weak (Γ' := [(2, (pEq (.slice g15.1.1 g15.1.2.1 g15.1.2.2)))]) ⟨rfl, trivial⟩ ?_
    refine Tr.ret ?_
    replace h := Option.some.inj h; subst h
    exact Ct.retH1 (Ωx := []) ((g15.1.1, g15.1.2.1, g15.1.2.2), g15.2) rfl (RvOk.tmp rfl) rfl

theorem c_laws_toInt64SS {a_0 : (List (List Int))} {r : (List (List Int))} (h : m_laws_toInt64SS a_0 = some r) : CallJ Try.prog 30 [(pSl 1 (cSl 1 (cK .i64)) a_0)] (pSl 1 (cSl 1 (cK .i64)) r) :=
  CallH.frozen (o_laws_toInt64SS h) (fun g => (Conv.nest 0 (fun _ => rfl) rfl))

theorem c_spec_l00In {n_0 : Int} {low_1 : Int} {high_2 : Int} {r : Bool} (h : m_spec_l00In n_0 low_1 high_2 = some r) : CallJ Try.prog 53 [(pEq (.int .i64 n_0)), (pEq (.int .i64 low_1)), (pEq (.int .i64 high_2))] (pEq (.bool r)) := by
  unfold m_spec_l00In at h
  refine CallJ.enterH Try.func53 rfl Try.ntmps53 rfl fun W I0 H => ?_
  refine Tr.weak (Γ' := [(0, (pEq (.int .i64 n_0))), (1, (pEq (.int .i64 low_1))), (2, (pEq (.int .i64 high_2)))]) ⟨rfl, rfl, rfl, trivial⟩ ?_
  refine Tr.seq ?_
  refine Tr.region ?_
  refine RegL.pure (p := (pEq (.bool false))) rfl rfl rfl (J_assign rfl Opd.con) ?_
  refine RegL.nil ?_
  refine Ct.then_tr ?_
  refine Tr.weak (Γ' := [(0, (pEq (.int .i64 n_0))), (1, (pEq (.int .i64 low_1))), (2, (pEq (.int .i64 high_2)))]) ⟨rfl, rfl, rfl, trivial⟩ ?_
  refine Tr.seq ?_
  replace h := bind_some h; obtain ⟨x1, hx1, h⟩ := h
  refine Tr.cut (γ := Unit) (Γm := fun g => [(6, (pEq (.bool x1)))]) (Ωm := fun g => []) ?_ (fun g3 => ?_)
  · clear h
    have h := hx1
    clear hx1
    refine Tr.region ?_
    refine RegL.pure (p := (pEq (.int .i64 n_0))) rfl rfl rfl (J_move rfl (Opd.tmp rfl)) ?_
    refine RegL.pure (p := (pEq (.int .i64 low_1))) rfl rfl rfl (J_move rfl (Opd.tmp rfl)) ?_
    refine RegL.pure (p := (pEq (.bool (decide (low_1 ≤ n_0))))) rfl rfl rfl (J_bin rfl (Opd.tmp rfl) (Opd.tmp rfl) B_geq) ?_
    refine RegL.pure (p := (pEq (.bool (decide (low_1 ≤ n_0))))) rfl rfl rfl (J_move rfl (Opd.tmp rfl)) ?_
    rcases Bool.eq_false_or_eq_true (decide (low_1 ≤ n_0)) with hc2 | hc2
    · replace h := bif_t hc2 h
      refine RegL.pureG (p := (pEq (.int .i64 n_0))) rfl rfl rfl hc2 rfl rfl (J_move rfl (Opd.tmp rfl)) ?_
      refine RegL.pureG (p := (pEq (.int .i64 high_2))) rfl rfl rfl hc2 rfl rfl (J_move rfl (Opd.tmp rfl)) ?_
      refine RegL.pureG (p := (pEq (.bool (decide (n_0 ≤ high_2))))) rfl rfl rfl hc2 rfl rfl (J_bin rfl (Opd.tmp rfl) (Opd.tmp rfl) B_leq) ?_
      refine RegL.pure (p := (pEq (.bool (decide (n_0 ≤ high_2))))) rfl rfl rfl (J_pick rfl (Opd.tmp rfl) (fun _ => (Opd.tmp rfl)) (fun hf => absurd (hc2.symm.trans hf) (by decide))) ?_
      refine RegL.pure (p := (pEq (.bool (decide (n_0 ≤ high_2))))) rfl rfl rfl (J_assign rfl (Opd.tmp rfl)) ?_
      refine RegL.nil ?_
      replace h := Option.some.inj h; subst h
      exact Ct.mid () rfl ⟨rfl, trivial⟩
    · replace h := bif_f hc2 h
      refine RegL.skipG rfl rfl rfl hc2 rfl rfl ?_
      refine RegL.skipG rfl rfl rfl hc2 rfl rfl ?_
      refine RegL.skipG rfl rfl rfl hc2 rfl rfl ?_
      refine RegL.pure (p := (pEq (.bool false))) rfl rfl rfl (J_pick rfl (Opd.tmp rfl) (fun hf => absurd (hc2.symm.trans hf) (by decide)) (fun _ => Opd.con)) ?_
      refine RegL.pure (p := (pEq (.bool false))) rfl rfl rfl (J_assign rfl (Opd.tmp rfl)) ?_
      refine RegL.nil ?_
      replace h := Option.some.inj h; subst h
      exact Ct.mid () rfl ⟨rfl, trivial⟩
  · clear hx1
    refine Ct.then_tr ?_
    refine Tr.weak (Γ' := [(6, (pEq (.bool x1)))]) ⟨rfl, trivial⟩ ?_
    refine Tr.ret ?_
    replace h := Option.some.inj h; subst h
    exact Ct.retH1 (Ωx := []) () rfl (RvOk.tmp rfl) rfl

theorem o_spec_l00Own {list_0 : (List Int)}  {r : (List Int)} (h : m_spec_l00Own list_0 = some r) : CallH Try.prog 75 [(pSl 1 (cK .i64) list_0)] [] (fun g : G3 => (pEq (.slice g.1 g.2.1 g.2.2))) (fun g : G3 => [oSl 2 1 (cK .i64) g.1 g.2.1 g.2.2 r]) := by
  unfold m_spec_l00Own at h
  refine CallH.enter Try.func75 rfl Try.ntmps75 rfl fun W I0 H => ?_
  refine Tr.weak (Γ' := [(0, (pSl 1 (cK .i64) list_0))]) ⟨rfl, trivial⟩ ?_
  refine Tr.seq ?_
  refine Tr.region ?_
  refine RegL.pure (p := (pEq (.slice none 0 0))) rfl rfl rfl (J_assign rfl Opd.con) ?_
  refine RegL.nil ?_
  refine Ct.then_tr ?_
  refine Tr.weak (Γ' := [(0, (pSl 1 (cK .i64) list_0))]) ⟨rfl, trivial⟩ ?_
  refine Tr.seq ?_
  refine Tr.region ?_
  refine RegL.step (γ := Option Addr) (p := fun a => pEq (.slice a 0 0)) (Ω' := fun a => [oSl 2 1 (cK .i64) a 0 0 ([] : (List Int))]) rfl rfl rfl (M_buildSlice (qss := []) rfl Try.underlying22 el2 rfl Parts.nil rfl rfl) fun o2 => ?_
  refine RegL.pure (p := (pSl 1 (cK .i64) list_0)) rfl rfl rfl (J_move rfl (Opd.tmp rfl)) ?_
  replace h := bind_some h; obtain ⟨x3, hx3, h⟩ := h
  refine RegL.step (γ := Option Addr × Nat) (p := fun g => pEq (.slice g.1 x3.length g.2)) (Ω' := fun g => [oSl 2 1 (cK .i64) g.1 x3.length g.2 x3]) rfl rfl rfl (M_appendI rfl Try.underlying22 el2 (Opd.tmp rfl) (Opd.tmp rfl) hx3) fun g4 => ?_
  refine RegL.pure (p := (pEq (.slice g4.1 x3.length g4.2))) rfl rfl rfl (J_assign rfl (Opd.tmp rfl)) ?_
  refine RegL.nil ?_
  refine Ct.then_tr ?_
  refine Tr.weak (Γ' := [(2, (pEq (.slice g4.1 x3.length g4.2)))]) ⟨rfl, trivial⟩ ?_
  refine Tr.ret ?_
  replace h := Option.some.inj h; subst h
  exact Ct.retH1 (Ωx := []) (g4.1, x3.length, g4.2) rfl (RvOk.tmp rfl) rfl

theorem c_spec_l00Own {list_0 : (List Int)} {r : (List Int)} (h : m_spec_l00Own list_0 = some r) : CallJ Try.prog 75 [(pSl 1 (cK .i64) list_0)] (pSl 1 (cK .i64) r) :=
  CallH.frozen (o_spec_l00Own h) (fun g => (Conv.row 0 (fun _ => rfl) rfl))

theorem o_spec_l17OwnLists {a_0 : (List (List Int))}  {r : (List (List Int))} (h : m_spec_l17OwnLists a_0 = some r) : CallH Try.prog 69 [(pSl 1 (cSl 1 (cK .i64)) a_0)] [] (fun g : (G3 × List G3) => (pEq (.slice g.1.1 g.1.2.1 g.1.2.2))) (fun g : (G3 × List G3) => [oSS 22 2 1 (cK .i64) g.1.1 g.1.2.1 g.1.2.2 g.2 r]) := by
  unfold m_spec_l17OwnLists at h
  refine CallH.enter Try.func69 rfl Try.ntmps69 rfl fun W I0 H => ?_
  refine Tr.weak (Γ' := [(0, (pSl 1 (cSl 1 (cK .i64)) a_0))]) ⟨rfl, trivial⟩ ?_
  refine Tr.seq ?_
  refine Tr.region ?_
  refine RegL.pure (p := (pEq (.slice none 0 0))) rfl rfl rfl (J_assign rfl Opd.con) ?_
  refine RegL.nil ?_
  refine Ct.then_tr ?_
  refine Tr.weak (Γ' := [(0, (pSl 1 (cSl 1 (cK .i64)) a_0))]) ⟨rfl, trivial⟩ ?_
  refine Tr.seq ?_
  refine Tr.region ?_
  refine RegL.step (γ := Option Addr) (p := fun a => pEq (.slice a 0 0)) (Ω' := fun a => [oSl 22 1 cHdr a 0 0 []]) rfl rfl rfl (M_buildSlice (qss := []) rfl Try.underlying27 elh22 rfl Parts.nil rfl rfl) fun o1 => ?_
  refine RegL.re (Ω2 := [oSS 22 2 1 (cK .i64) o1 0 0 [] ([] : (List (List Int)))]) (fun h => nest_zero h) ?_
  refine RegL.pure (p := (pEq (.slice o1 0 0))) rfl rfl rfl (J_assign rfl (Opd.tmp rfl)) ?_
  refine RegL.nil ?_
  refine Ct.then_tr ?_
  refine Tr.weak (Γ' := [(0, (pSl 1 (cSl 1 (cK .i64)) a_0)), (3, (pEq (.slice o1 0 0)))]) ⟨rfl, rfl, trivial⟩ ?_
  refine Tr.seq ?_
  refine Tr.seq ?_
  refine Tr.region ?_
  refine RegL.pure (p := (pEq (.int .i64 (0 : Int)))) rfl rfl rfl (J_assign rfl Opd.con) ?_
  refine RegL.nil ?_
  refine Ct.then_tr ?_
  refine Tr.weak (Γ' := [(0, (pSl 1 (cSl 1 (cK .i64)) a_0)), (3, (pEq (.slice o1 0 0))), (4, (pEq (.int .i64 (0 : Int))))]) ⟨rfl, rfl, rfl, trivial⟩ ?_
  replace h := bind_some h; obtain ⟨x3, hx3, h⟩ := h
  refine Tr.cut (γ := (G3 × List G3)) (Γm := fun g => [(3, (pEq (.slice g.1.1 g.1.2.1 g.1.2.2)))]) (Ωm := fun g => [oSS 22 2 1 (cK .i64) g.1.1 g.1.2.1 g.1.2.2 g.2 x3]) ?_ (fun g16 => ?_)
  · clear h
    have h := hx3
    clear hx3
    refine Tr.block ?_
    refine Tr.weak (Γ' := [(0, (pSl 1 (cSl 1 (cK .i64)) a_0)), (3, (pEq (.slice o1 0 0))), (4, (pEq (.int .i64 (0 : Int))))]) ⟨rfl, rfl, rfl, trivial⟩ ?_
    refine Tr.loop (γ := (G3 × List G3)) (σ := (Int × (List (List Int)))) (Γσ := fun s g => [(0, (pSl 1 (cSl 1 (cK .i64)) a_0)), (3, (pEq (.slice g.1.1 g.1.2.1 g.1.2.2))), (4, (pEq (.int .i64 s.1)))]) (Ωσ := fun s g => [oSS 22 2 1 (cK .i64) g.1.1 g.1.2.1 g.1.2.2 g.2 s.2]) (g := ((o1, 0, 0), [])) h ?_
    clear h
    rintro ⟨v5, v6⟩ g7 t h
    replace h : m_spec_l17OwnLists_B4 a_0 v5 v6 = some t := h
    unfold m_spec_l17OwnLists_B4 at h
    refine Tr.weakO (Γ' := [(0, (pSl 1 (cSl 1 (cK .i64)) a_0)), (3, (pEq (.slice g7.1.1 g7.1.2.1 g7.1.2.2))), (4, (pEq (.int .i64 v5)))]) (Ω' := [oSS 22 2 1 (cK .i64) g7.1.1 g7.1.2.1 g7.1.2.2 g7.2 v6]) rfl ⟨rfl, rfl, rfl, trivial⟩ ?_
    refine Tr.seq ?_
    refine Tr.seq ?_
    refine Tr.region ?_
    refine RegL.pure (p := (pEq (.int .i64 v5))) rfl rfl rfl (J_move rfl (Opd.tmp rfl)) ?_
    refine RegL.pure (p := (pSl 1 (cSl 1 (cK .i64)) a_0)) rfl rfl rfl (J_move rfl (Opd.tmp rfl)) ?_
    refine RegL.pure (p := (pEq (.int .i64 (a_0.length : Int)))) rfl rfl rfl (J_len rfl Try.underlying27 (Opd.tmp rfl) rfl) ?_
    refine RegL.pure (p := (pEq (.bool (decide (v5 < (a_0.length : Int)))))) rfl rfl rfl (J_bin rfl (Opd.tmp rfl) (Opd.tmp rfl) B_lss) ?_
    refine RegL.nil ?_
    refine Ct.then_tr ?_
    refine Tr.weak (Γ' := [(0, (pSl 1 (cSl 1 (cK .i64)) a_0)), (3, (pEq (.slice g7.1.1 g7.1.2.1 g7.1.2.2))), (4, (pEq (.int .i64 v5))), (9, (pEq (.bool (decide (v5 < (a_0.length : Int))))))]) ⟨rfl, rfl, rfl, rfl, trivial⟩ ?_
    refine Tr.cond (Opd.tmp rfl) (fun hc => ?_) (fun hc => ?_)
    · replace h := bif_t hc h
      refine Tr.skip ?_
      refine Ct.then_tr ?_
      refine Tr.weak (Γ' := [(0, (pSl 1 (cSl 1 (cK .i64)) a_0)), (3, (pEq (.slice g7.1.1 g7.1.2.1 g7.1.2.2))), (4, (pEq (.int .i64 v5)))]) ⟨rfl, rfl, rfl, trivial⟩ ?_
      refine Tr.seq ?_
      refine Tr.block ?_
      refine Tr.region ?_
      refine RegL.pure (p := (pEq (.slice g7.1.1 g7.1.2.1 g7.1.2.2))) rfl rfl rfl (J_move rfl (Opd.tmp rfl)) ?_
      refine RegL.pure (p := (pSl 1 (cSl 1 (cK .i64)) a_0)) rfl rfl rfl (J_move rfl (Opd.tmp rfl)) ?_
      refine RegL.pure (p := (pEq (.int .i64 v5))) rfl rfl rfl (J_move rfl (Opd.tmp rfl)) ?_
      replace h := bind_some h; obtain ⟨x8, hx8, h⟩ := h
      refine RegL.pure (p := (pPtr ((cSl 1 (cK .i64)) x8))) rfl rfl rfl (J_idx rfl Try.underlying27 sz22 (Opd.tmp rfl) (Opd.tmp rfl) hx8) ?_
      refine RegL.pure (p := (pSl 1 (cK .i64) x8)) rfl rfl rfl (J_load rfl Try.isAgg22 (Opd.tmp rfl)) ?_
      replace h := bind_some h; obtain ⟨x9, hx9, h⟩ := h
      refine RegL.step (γ := G3) (p := fun g => (pEq (.slice g.1 g.2.1 g.2.2))) (Ω' := fun g => [oSl 2 1 (cK .i64) g.1 g.2.1 g.2.2 x9, oSS 22 2 1 (cK .i64) g7.1.1 g7.1.2.1 g7.1.2.2 g7.2 v6]) rfl rfl rfl (M_callH (Ωi := []) rfl Try.call75 (o_spec_l00Own hx9) (Opds.cons (Opd.tmp rfl) Opds.nil)) fun g10 => ?_
      refine RegL.step (γ := Option Addr) (p := fun a => pEq (.slice a 1 1)) (Ω' := fun a => [oSl 22 1 cHdr a 1 1 [(g10.1, g10.2.1, g10.2.2)], oSl 2 1 (cK .i64) g10.1 g10.2.1 g10.2.2 x9, oSS 22 2 1 (cK .i64) g7.1.1 g7.1.2.1 g7.1.2.2 g7.2 v6]) rfl rfl rfl (M_buildSlice (qss := [(0, cHdr (g10.1, g10.2.1, g10.2.2))]) rfl Try.underlying27 elh22 rfl (Parts.cons (Part.one (Opd.tmp rfl) OneC.slice) Parts.nil) rfl rfl) fun o12 => ?_
      refine RegL.re (Ω2 := [oSS 22 2 1 (cK .i64) o12 1 1 [(g10.1, g10.2.1, g10.2.2)] [x9], oSS 22 2 1 (cK .i64) g7.1.1 g7.1.2.1 g7.1.2.2 g7.2 v6]) (fun h => nest_one h) ?_
      replace h := bind_some h; obtain ⟨x14, hx14, h⟩ := h
      refine RegL.re (Ω2 := [oSS 22 2 1 (cK .i64) g7.1.1 g7.1.2.1 g7.1.2.2 g7.2 v6, oSS 22 2 1 (cK .i64) o12 1 1 [(g10.1, g10.2.1, g10.2.2)] [x9]]) (fun h => SatO.pick 1 h) ?_
      refine RegL.step (γ := (Option Addr × Nat) × List G3) (p := fun g => pEq (.slice g.1.1 x14.length g.1.2)) (Ω' := fun g => [oSS 22 2 1 (cK .i64) g.1.1 x14.length g.1.2 g.2 x14]) rfl rfl rfl (M_nestAppend rfl Try.underlying27 elh22 (Opd.tmp rfl) (Opd.tmp rfl) hx14) fun g15 => ?_
      refine RegL.pure (p := (pEq (.slice g15.1.1 x14.length g15.1.2))) rfl rfl rfl (J_assign rfl (Opd.tmp rfl)) ?_
      refine RegL.nil ?_
      refine Ct.blk_normal ?_
      refine Ct.then_tr ?_
      refine Tr.weak (Γ' := [(0, (pSl 1 (cSl 1 (cK .i64)) a_0)), (3, (pEq (.slice g15.1.1 x14.length g15.1.2))), (4, (pEq (.int .i64 v5)))]) ⟨rfl, rfl, rfl, trivial⟩ ?_
      refine Tr.region ?_
      refine RegL.pure (p := (pEq (.int .i64 v5))) rfl rfl rfl (J_move rfl (Opd.tmp rfl)) ?_
      refine RegL.pure (p := (pEq (.int .i64 (w64 (v5 + (1 : Int)))))) rfl rfl rfl (J_bin rfl (Opd.tmp rfl) Opd.con B_add) ?_
      refine RegL.pure (p := (pEq (.int .i64 (w64 (v5 + (1 : Int)))))) rfl rfl rfl (J_assign rfl (Opd.tmp rfl)) ?_
      refine RegL.nil ?_
      replace h := Option.some.inj h; subst h
      exact Ct.again ((g15.1.1, x14.length, g15.1.2), g15.2) rfl ⟨rfl, rfl, rfl, trivial⟩
    · replace h := bif_f hc h
      refine Tr.exit ?_
      refine Ct.then_exit ?_
      replace h := map_some h; obtain ⟨r1, h, rfl⟩ := h
      refine Ct.out_exit fun e => ?_
      subst e
      refine Ct.blk_exit ?_
      replace h := Option.some.inj h; subst h
      exact Ct.mid ((g7.1.1, g7.1.2.1, g7.1.2.2), g7.2) rfl ⟨rfl, trivial⟩
  · clear hx3
    refine Ct.then_tr ?_
    refine Tr.weak (Γ' := [(3, (pEq (.slice g16.1.1 g16.1.2.1 g16.1.2.2)))]) ⟨rfl, trivial⟩ ?_
    refine Tr.seq ?_
    refine Tr.region ?_
    refine RegL.pure (p := (pEq (.slice g16.1.1 g16.1.2.1 g16.1.2.2))) rfl rfl rfl (J_move rfl (Opd.tmp rfl)) ?_
    refine RegL.pure (p := (pEq (.slice g16.1.1 g16.1.2.1 g16.1.2.2))) rfl rfl rfl (J_assign rfl (Opd.tmp rfl)) ?_
    refine RegL.nil ?_
    refine Ct.then_tr ?_
    refine Tr.weak (Γ' := [(2, (pEq (.slice g16.1.1 g16.1.2.1 g16.1.2.2)))]) ⟨rfl, trivial⟩ ?_
    refine Tr.ret ?_
    replace h := Option.some.inj h; subst h
    exact Ct.retH1 (Ωx := []) ((g16.1.1, g16.1.2.1, g16.1.2.2), g16.2) rfl (RvOk.tmp rfl) rfl

theorem c_spec_l17OwnLists {a_0 : (List (List Int))} {r : (List (List Int))} (h : m_spec_l17OwnLists a_0 = some r) : CallJ Try.prog 69 [(pSl 1 (cSl 1 (cK .i64)) a_0)] (pSl 1 (cSl 1 (cK .i64)) r) :=
  CallH.frozen (o_spec_l17OwnLists h) (fun g => (Conv.nest 0 (fun _ => rfl) rfl))

theorem c_spec_l00Rises {list_0 : (List Int)} {low_1 : Int} {high_2 : Int} {r : Bool} (h : m_spec_l00Rises list_0 low_1 high_2 = some r) : CallJ Try.prog 74 [(pSl 1 (cK .i64) list_0), (pEq (.int .i64 low_1)), (pEq (.int .i64 high_2))] (pEq (.bool r)) := by
  unfold m_spec_l00Rises at h
  refine CallJ.enterH Try.func74 rfl Try.ntmps74 rfl fun W I0 H => ?_
  refine Tr.weak (Γ' := [(0, (pSl 1 (cK .i64) list_0)), (1, (pEq (.int .i64 low_1))), (2, (pEq (.int .i64 high_2)))]) ⟨rfl, rfl, rfl, trivial⟩ ?_
  refine Tr.seq ?_
  refine Tr.region ?_
  refine RegL.pure (p := (pEq (.bool false))) rfl rfl rfl (J_assign rfl Opd.con) ?_
  refine RegL.nil ?_
  refine Ct.then_tr ?_
  refine Tr.weak (Γ' := [(0, (pSl 1 (cK .i64) list_0)), (1, (pEq (.int .i64 low_1))), (2, (pEq (.int .i64 high_2)))]) ⟨rfl, rfl, rfl, trivial⟩ ?_
  refine Tr.seq ?_
  refine Tr.seq ?_
  refine Tr.region ?_
  refine RegL.pure (p := (pEq (.int .i64 (0 : Int)))) rfl rfl rfl (J_assign rfl Opd.con) ?_
  refine RegL.nil ?_
  refine Ct.then_tr ?_
  refine Tr.weak (Γ' := [(0, (pSl 1 (cK .i64) list_0)), (1, (pEq (.int .i64 low_1))), (2, (pEq (.int .i64 high_2))), (7, (pEq (.int .i64 (0 : Int))))]) ⟨rfl, rfl, rfl, rfl, trivial⟩ ?_
  refine Tr.block ?_
  refine Tr.weak (Γ' := [(0, (pSl 1 (cK .i64) list_0)), (1, (pEq (.int .i64 low_1))), (2, (pEq (.int .i64 high_2))), (7, (pEq (.int .i64 (0 : Int))))]) ⟨rfl, rfl, rfl, rfl, trivial⟩ ?_
  refine Tr.loop (γ := Unit) (σ := Int) (Γσ := fun s g => [(0, (pSl 1 (cK .i64) list_0)), (1, (pEq (.int .i64 low_1))), (2, (pEq (.int .i64 high_2))), (7, (pEq (.int .i64 s)))]) (Ωσ := fun s g => []) (g := ()) h ?_
  clear h
  rintro v2 g3 t h
  replace h : m_spec_l00Rises_B1 list_0 low_1 high_2 v2 = some t := h
  unfold m_spec_l00Rises_B1 at h
  refine Tr.weakO (Γ' := [(0, (pSl 1 (cK .i64) list_0)), (1, (pEq (.int .i64 low_1))), (2, (pEq (.int .i64 high_2))), (7, (pEq (.int .i64 v2)))]) (Ω' := []) rfl ⟨rfl, rfl, rfl, rfl, trivial⟩ ?_
  refine Tr.seq ?_
  refine Tr.seq ?_
  refine Tr.region ?_
  refine RegL.pure (p := (pEq (.int .i64 v2))) rfl rfl rfl (J_move rfl (Opd.tmp rfl)) ?_
  refine RegL.pure (p := (pSl 1 (cK .i64) list_0)) rfl rfl rfl (J_move rfl (Opd.tmp rfl)) ?_
  refine RegL.pure (p := (pEq (.int .i64 (list_0.length : Int)))) rfl rfl rfl (J_len rfl Try.underlying22 (Opd.tmp rfl) rfl) ?_
  refine RegL.pure (p := (pEq (.bool (decide (v2 < (list_0.length : Int)))))) rfl rfl rfl (J_bin rfl (Opd.tmp rfl) (Opd.tmp rfl) B_lss) ?_
  refine RegL.nil ?_
  refine Ct.then_tr ?_
  refine Tr.weak (Γ' := [(0, (pSl 1 (cK .i64) list_0)), (1, (pEq (.int .i64 low_1))), (2, (pEq (.int .i64 high_2))), (7, (pEq (.int .i64 v2))), (11, (pEq (.bool (decide (v2 < (list_0.length : Int))))))]) ⟨rfl, rfl, rfl, rfl, rfl, trivial⟩ ?_
  refine Tr.cond (Opd.tmp rfl) (fun hc => ?_) (fun hc => ?_)
  · replace h := bif_t hc h
    refine Tr.skip ?_
    refine Ct.then_tr ?_
    refine Tr.weak (Γ' := [(0, (pSl 1 (cK .i64) list_0)), (1, (pEq (.int .i64 low_1))), (2, (pEq (.int .i64 high_2))), (7, (pEq (.int .i64 v2)))]) ⟨rfl, rfl, rfl, rfl, trivial⟩ ?_
    refine Tr.seq ?_
    refine Tr.block ?_
    refine Tr.seq ?_
    replace h := bind_some h; obtain ⟨x4, hx4, h⟩ := h
    refine Tr.cut (γ := Unit) (Γm := fun g => [(0, (pSl 1 (cK .i64) list_0)), (1, (pEq (.int .i64 low_1))), (2, (pEq (.int .i64 high_2))), (7, (pEq (.int .i64 v2))), (37, (pEq (.bool x4)))]) (Ωm := fun g => []) ?_ (fun g11 => ?_)
    · clear h
      have h := hx4
      clear hx4
      replace h := bind_some h; obtain ⟨x5, hx5, h⟩ := h
      replace h := bind_some h; obtain ⟨x6, hx6, h⟩ := h
      rcases Bool.eq_false_or_eq_true (!x6) with hc7 | hc7
      · replace h := bif_t hc7 h
        refine Tr.drawD (n := 38) (m := 24) (es := [some (Ent.mk [(0, (pSl 1 (cK .i64) list_0))] (pSl 1 (cK .i64) list_0) true), some (Ent.mk [(7, (pEq (.int .i64 v2)))] (pEq (.int .i64 v2)) true), some (Ent.mk [(14, (pSl 1 (cK .i64) list_0)), (15, (pEq (.int .i64 v2)))] (pPtr ((cK .i64) x5)) true), some (Ent.mk [(16, (pPtr ((cK .i64) x5)))] (pEq (.int .i64 x5)) true), some (Ent.mk [(1, (pEq (.int .i64 low_1)))] (pEq (.int .i64 low_1)) true), some (Ent.mk [(2, (pEq (.int .i64 high_2)))] (pEq (.int .i64 high_2)) true), some (Ent.mk [(17, (pEq (.int .i64 x5))), (18, (pEq (.int .i64 low_1))), (19, (pEq (.int .i64 high_2)))] (pEq (.bool x6)) true), some (Ent.mk [(20, (pEq (.bool x6)))] (pEq (.bool (!x6))) true), some (Ent.mk [(21, (pEq (.bool (!x6))))] (pEq (.bool (!x6))) true), some (Ent.mk [(7, (pEq (.int .i64 v2)))] (pEq undef) false), some (Ent.mk [(23, (pEq undef))] (pEq undef) false), some (Ent.mk [(24, (pEq undef))] (pEq undef) false), some (Ent.mk [(0, (pSl 1 (cK .i64) list_0))] (pEq undef) false), some (Ent.mk [(7, (pEq (.int .i64 v2)))] (pEq undef) false), some (Ent.mk [(27, (pEq undef))] (pEq undef) false), some (Ent.mk [(26, (pEq undef)), (28, (pEq undef))] (pEq undef) false), some (Ent.mk [(29, (pEq undef))] (pEq undef) false), some (Ent.mk [(0, (pSl 1 (cK .i64) list_0))] (pEq undef) false), some (Ent.mk [(7, (pEq (.int .i64 v2)))] (pEq undef) false), some (Ent.mk [(31, (pEq undef)), (32, (pEq undef))] (pEq undef) false), some (Ent.mk [(33, (pEq undef))] (pEq undef) false), some (Ent.mk [(30, (pEq undef)), (34, (pEq undef))] (pEq undef) false), some (Ent.mk [(25, (pEq undef)), (35, (pEq undef))] (pEq undef) false), some (Ent.mk [(22, (pEq (.bool (!x6)))), (36, (pEq undef))] (pEq (.bool true)) true)]) (rd := [[0], [7], [14, 15], [16], [1], [2], [17, 18, 19], [20], [21], [7], [23], [24], [0], [7], [27], [26, 28], [29], [0], [7], [31, 32], [33], [30, 34], [25, 35], [22, 36]]) rfl hmix (by kernel_rfl) fun hD => ?_
        refine RD.fin (es := [Ent.mk [(0, (pSl 1 (cK .i64) list_0))] (pSl 1 (cK .i64) list_0) true, Ent.mk [(7, (pEq (.int .i64 v2)))] (pEq (.int .i64 v2)) true, Ent.mk [(14, (pSl 1 (cK .i64) list_0)), (15, (pEq (.int .i64 v2)))] (pPtr ((cK .i64) x5)) true, Ent.mk [(16, (pPtr ((cK .i64) x5)))] (pEq (.int .i64 x5)) true, Ent.mk [(1, (pEq (.int .i64 low_1)))] (pEq (.int .i64 low_1)) true, Ent.mk [(2, (pEq (.int .i64 high_2)))] (pEq (.int .i64 high_2)) true, Ent.mk [(17, (pEq (.int .i64 x5))), (18, (pEq (.int .i64 low_1))), (19, (pEq (.int .i64 high_2)))] (pEq (.bool x6)) true, Ent.mk [(20, (pEq (.bool x6)))] (pEq (.bool (!x6))) true, Ent.mk [(21, (pEq (.bool (!x6))))] (pEq (.bool (!x6))) true, Ent.mk [(7, (pEq (.int .i64 v2)))] (pEq undef) false, Ent.mk [(23, (pEq undef))] (pEq undef) false, Ent.mk [(24, (pEq undef))] (pEq undef) false, Ent.mk [(0, (pSl 1 (cK .i64) list_0))] (pEq undef) false, Ent.mk [(7, (pEq (.int .i64 v2)))] (pEq undef) false, Ent.mk [(27, (pEq undef))] (pEq undef) false, Ent.mk [(26, (pEq undef)), (28, (pEq undef))] (pEq undef) false, Ent.mk [(29, (pEq undef))] (pEq undef) false, Ent.mk [(0, (pSl 1 (cK .i64) list_0))] (pEq undef) false, Ent.mk [(7, (pEq (.int .i64 v2)))] (pEq undef) false, Ent.mk [(31, (pEq undef)), (32, (pEq undef))] (pEq undef) false, Ent.mk [(33, (pEq undef))] (pEq undef) false, Ent.mk [(30, (pEq undef)), (34, (pEq undef))] (pEq undef) false, Ent.mk [(25, (pEq undef)), (35, (pEq undef))] (pEq undef) false, Ent.mk [(22, (pEq (.bool (!x6)))), (36, (pEq undef))] (pEq (.bool true)) true]) (done := []) hD ⟨.inr ⟨(OpJ.w (J_move rfl (Opd.tmp rfl))), ⟨rfl, trivial⟩, rfl, rfl⟩, ⟨.inr ⟨(OpJ.w (J_move rfl (Opd.tmp rfl))), ⟨rfl, trivial⟩, rfl, rfl⟩, ⟨.inr ⟨(OpJ.w (J_idx rfl Try.underlying22 sz2 (Opd.tmp rfl) (Opd.tmp rfl) hx5)), ⟨rfl, rfl, trivial⟩, rfl, rfl⟩, ⟨.inr ⟨(OpJ.w (J_load rfl Try.isAgg2 (Opd.tmp rfl))), ⟨rfl, trivial⟩, rfl, rfl⟩, ⟨.inr ⟨(OpJ.w (J_move rfl (Opd.tmp rfl))), ⟨rfl, trivial⟩, rfl, rfl⟩, ⟨.inr ⟨(OpJ.w (J_move rfl (Opd.tmp rfl))), ⟨rfl, trivial⟩, rfl, rfl⟩, ⟨.inr ⟨(OpJ.w (J_call rfl Try.call53 (c_spec_l00In hx6) (Opds.cons (Opd.tmp rfl) (Opds.cons (Opd.tmp rfl) (Opds.cons (Opd.tmp rfl) Opds.nil))))), ⟨rfl, rfl, rfl, trivial⟩, rfl, rfl⟩, ⟨.inr ⟨(OpJ.w (J_not rfl (Opd.tmp rfl))), ⟨rfl, trivial⟩, rfl, rfl⟩, ⟨.inr ⟨(OpJ.w (J_move rfl (Opd.tmp rfl))), ⟨rfl, trivial⟩, rfl, rfl⟩, ⟨.inr ⟨rfl, ⟨rfl, trivial⟩, (.inl ⟨_, rfl, by simp [hc7]⟩), rfl⟩, ⟨.inr ⟨rfl, ⟨rfl, trivial⟩, (.inl ⟨_, rfl, by simp [hc7]⟩), rfl⟩, ⟨.inr ⟨rfl, ⟨rfl, trivial⟩, (.inl ⟨_, rfl, by simp [hc7]⟩), rfl⟩, ⟨.inr ⟨rfl, ⟨rfl, trivial⟩, (.inr ⟨rfl, rfl⟩), rfl⟩, ⟨.inr ⟨rfl, ⟨rfl, trivial⟩, (.inr ⟨rfl, rfl⟩), rfl⟩, ⟨.inr ⟨rfl, ⟨rfl, trivial⟩, (.inr ⟨rfl, rfl⟩), rfl⟩, ⟨.inr ⟨rfl, ⟨rfl, rfl, trivial⟩, (.inr ⟨rfl, rfl⟩), rfl⟩, ⟨.inr ⟨rfl, ⟨rfl, trivial⟩, (.inr ⟨rfl, rfl⟩), rfl⟩, ⟨.inr ⟨rfl, ⟨rfl, trivial⟩, (.inr ⟨rfl, rfl⟩), rfl⟩, ⟨.inr ⟨rfl, ⟨rfl, trivial⟩, (.inr ⟨rfl, rfl⟩), rfl⟩, ⟨.inr ⟨rfl, ⟨rfl, rfl, trivial⟩, (.inr ⟨rfl, rfl⟩), rfl⟩, ⟨.inr ⟨rfl, ⟨rfl, trivial⟩, (.inr ⟨rfl, rfl⟩), rfl⟩, ⟨.inr ⟨rfl, ⟨rfl, rfl, trivial⟩, (.inr ⟨rfl, rfl⟩), rfl⟩, ⟨.inr ⟨rfl, ⟨rfl, rfl, trivial⟩, (.inl ⟨_, rfl, by simp [hc7]⟩), rfl⟩, ⟨.inr ⟨(OpJ.w (J_pick rfl (Opd.tmp rfl) (fun _ => Opd.con) (fun hf => absurd (hc7.symm.trans hf) (by decide)))), ⟨rfl, rfl, trivial⟩, rfl, rfl⟩, trivial⟩⟩⟩⟩⟩⟩⟩⟩⟩⟩⟩⟩⟩⟩⟩⟩⟩⟩⟩⟩⟩⟩⟩⟩ ?_
        refine RegL.nil ?_
        replace h := Option.some.inj h; subst h
        exact Ct.mid () rfl ⟨rfl, rfl, rfl, rfl, rfl, trivial⟩
      · replace h := bif_f hc7 h
        rcases Bool.eq_false_or_eq_true (decide ((0 : Int) < v2)) with hc8 | hc8
        · replace h := bif_t hc8 h
          replace h := bind_some h; obtain ⟨x9, hx9, h⟩ := h
          replace h := bind_some h; obtain ⟨x10, hx10, h⟩ := h
          refine Tr.drawD (n := 38) (m := 24) (es := [some (Ent.mk [(0, (pSl 1 (cK .i64) list_0))] (pSl 1 (cK .i64) list_0) true), some (Ent.mk [(7, (pEq (.int .i64 v2)))] (pEq (.int .i64 v2)) true), some (Ent.mk [(14, (pSl 1 (cK .i64) list_0)), (15, (pEq (.int .i64 v2)))] (pPtr ((cK .i64) x5)) true), some (Ent.mk [(16, (pPtr ((cK .i64) x5)))] (pEq (.int .i64 x5)) true), some (Ent.mk [(1, (pEq (.int .i64 low_1)))] (pEq (.int .i64 low_1)) true), some (Ent.mk [(2, (pEq (.int .i64 high_2)))] (pEq (.int .i64 high_2)) true), some (Ent.mk [(17, (pEq (.int .i64 x5))), (18, (pEq (.int .i64 low_1))), (19, (pEq (.int .i64 high_2)))] (pEq (.bool x6)) true), some (Ent.mk [(20, (pEq (.bool x6)))] (pEq (.bool (!x6))) true), some (Ent.mk [(21, (pEq (.bool (!x6))))] (pEq (.bool (!x6))) true), some (Ent.mk [(7, (pEq (.int .i64 v2)))] (pEq (.int .i64 v2)) true), some (Ent.mk [(23, (pEq (.int .i64 v2)))] (pEq (.bool (decide ((0 : Int) < v2)))) true), some (Ent.mk [(24, (pEq (.bool (decide ((0 : Int) < v2)))))] (pEq (.bool (decide ((0 : Int) < v2)))) true), some (Ent.mk [(0, (pSl 1 (cK .i64) list_0))] (pSl 1 (cK .i64) list_0) true), some (Ent.mk [(7, (pEq (.int .i64 v2)))] (pEq (.int .i64 v2)) true), some (Ent.mk [(27, (pEq (.int .i64 v2)))] (pEq (.int .i64 (w64 (v2 - (1 : Int))))) true), some (Ent.mk [(26, (pSl 1 (cK .i64) list_0)), (28, (pEq (.int .i64 (w64 (v2 - (1 : Int))))))] (pPtr ((cK .i64) x9)) true), some (Ent.mk [(29, (pPtr ((cK .i64) x9)))] (pEq (.int .i64 x9)) true), some (Ent.mk [(0, (pSl 1 (cK .i64) list_0))] (pSl 1 (cK .i64) list_0) true), some (Ent.mk [(7, (pEq (.int .i64 v2)))] (pEq (.int .i64 v2)) true), some (Ent.mk [(31, (pSl 1 (cK .i64) list_0)), (32, (pEq (.int .i64 v2)))] (pPtr ((cK .i64) x10)) true), some (Ent.mk [(33, (pPtr ((cK .i64) x10)))] (pEq (.int .i64 x10)) true), some (Ent.mk [(30, (pEq (.int .i64 x9))), (34, (pEq (.int .i64 x10)))] (pEq (.bool (decide (x10 ≤ x9)))) true), some (Ent.mk [(25, (pEq (.bool (decide ((0 : Int) < v2))))), (35, (pEq (.bool (decide (x10 ≤ x9)))))] (pEq (.bool (decide (x10 ≤ x9)))) true), some (Ent.mk [(22, (pEq (.bool (!x6)))), (36, (pEq (.bool (decide (x10 ≤ x9)))))] (pEq (.bool (decide (x10 ≤ x9)))) true)]) (rd := [[0], [7], [14, 15], [16], [1], [2], [17, 18, 19], [20], [21], [7], [23], [24], [0], [7], [27], [26, 28], [29], [0], [7], [31, 32], [33], [30, 34], [25, 35], [22, 36]]) rfl hmix (by kernel_rfl) fun hD => ?_
          refine RD.fin (es := [Ent.mk [(0, (pSl 1 (cK .i64) list_0))] (pSl 1 (cK .i64) list_0) true, Ent.mk [(7, (pEq (.int .i64 v2)))] (pEq (.int .i64 v2)) true, Ent.mk [(14, (pSl 1 (cK .i64) list_0)), (15, (pEq (.int .i64 v2)))] (pPtr ((cK .i64) x5)) true, Ent.mk [(16, (pPtr ((cK .i64) x5)))] (pEq (.int .i64 x5)) true, Ent.mk [(1, (pEq (.int .i64 low_1)))] (pEq (.int .i64 low_1)) true, Ent.mk [(2, (pEq (.int .i64 high_2)))] (pEq (.int .i64 high_2)) true, Ent.mk [(17, (pEq (.int .i64 x5))), (18, (pEq (.int .i64 low_1))), (19, (pEq (.int .i64 high_2)))] (pEq (.bool x6)) true, Ent.mk [(20, (pEq (.bool x6)))] (pEq (.bool (!x6))) true, Ent.mk [(21, (pEq (.bool (!x6))))] (pEq (.bool (!x6))) true, Ent.mk [(7, (pEq (.int .i64 v2)))] (pEq (.int .i64 v2)) true, Ent.mk [(23, (pEq (.int .i64 v2)))] (pEq (.bool (decide ((0 : Int) < v2)))) true, Ent.mk [(24, (pEq (.bool (decide ((0 : Int) < v2)))))] (pEq (.bool (decide ((0 : Int) < v2)))) true, Ent.mk [(0, (pSl 1 (cK .i64) list_0))] (pSl 1 (cK .i64) list_0) true, Ent.mk [(7, (pEq (.int .i64 v2)))] (pEq (.int .i64 v2)) true, Ent.mk [(27, (pEq (.int .i64 v2)))] (pEq (.int .i64 (w64 (v2 - (1 : Int))))) true, Ent.mk [(26, (pSl 1 (cK .i64) list_0)), (28, (pEq (.int .i64 (w64 (v2 - (1 : Int))))))] (pPtr ((cK .i64) x9)) true, Ent.mk [(29, (pPtr ((cK .i64) x9)))] (pEq (.int .i64 x9)) true, Ent.mk [(0, (pSl 1 (cK .i64) list_0))] (pSl 1 (cK .i64) list_0) true, Ent.mk [(7, (pEq (.int .i64 v2)))] (pEq (.int .i64 v2)) true, Ent.mk [(31, (pSl 1 (cK .i64) list_0)), (32, (pEq (.int .i64 v2)))] (pPtr ((cK .i64) x10)) true, Ent.mk [(33, (pPtr ((cK .i64) x10)))] (pEq (.int .i64 x10)) true, Ent.mk [(30, (pEq (.int .i64 x9))), (34, (pEq (.int .i64 x10)))] (pEq (.bool (decide (x10 ≤ x9)))) true, Ent.mk [(25, (pEq (.bool (decide ((0 : Int) < v2))))), (35, (pEq (.bool (decide (x10 ≤ x9)))))] (pEq (.bool (decide (x10 ≤ x9)))) true, Ent.mk [(22, (pEq (.bool (!x6)))), (36, (pEq (.bool (decide (x10 ≤ x9)))))] (pEq (.bool (decide (x10 ≤ x9)))) true]) (done := []) hD ⟨.inr ⟨(OpJ.w (J_move rfl (Opd.tmp rfl))), ⟨rfl, trivial⟩, rfl, rfl⟩, ⟨.inr ⟨(OpJ.w (J_move rfl (Opd.tmp rfl))), ⟨rfl, trivial⟩, rfl, rfl⟩, ⟨.inr ⟨(OpJ.w (J_idx rfl Try.underlying22 sz2 (Opd.tmp rfl) (Opd.tmp rfl) hx5)), ⟨rfl, rfl, trivial⟩, rfl, rfl⟩, ⟨.inr ⟨(OpJ.w (J_load rfl Try.isAgg2 (Opd.tmp rfl))), ⟨rfl, trivial⟩, rfl, rfl⟩, ⟨.inr ⟨(OpJ.w (J_move rfl (Opd.tmp rfl))), ⟨rfl, trivial⟩, rfl, rfl⟩, ⟨.inr ⟨(OpJ.w (J_move rfl (Opd.tmp rfl))), ⟨rfl, trivial⟩, rfl, rfl⟩, ⟨.inr ⟨(OpJ.w (J_call rfl Try.call53 (c_spec_l00In hx6) (Opds.cons (Opd.tmp rfl) (Opds.cons (Opd.tmp rfl) (Opds.cons (Opd.tmp rfl) Opds.nil))))), ⟨rfl, rfl, rfl, trivial⟩, rfl, rfl⟩, ⟨.inr ⟨(OpJ.w (J_not rfl (Opd.tmp rfl))), ⟨rfl, trivial⟩, rfl, rfl⟩, ⟨.inr ⟨(OpJ.w (J_move rfl (Opd.tmp rfl))), ⟨rfl, trivial⟩, rfl, rfl⟩, ⟨.inr ⟨(OpJ.w (J_move rfl (Opd.tmp rfl))), ⟨rfl, trivial⟩, (.inl ⟨_, rfl, by simp [hc7]⟩), rfl⟩, ⟨.inr ⟨(OpJ.w (J_bin rfl (Opd.tmp rfl) Opd.con B_gtr)), ⟨rfl, trivial⟩, (.inl ⟨_, rfl, by simp [hc7]⟩), rfl⟩, ⟨.inr ⟨(OpJ.w (J_move rfl (Opd.tmp rfl))), ⟨rfl, trivial⟩, (.inl ⟨_, rfl, by simp [hc7]⟩), rfl⟩, ⟨.inr ⟨(OpJ.w (J_move rfl (Opd.tmp rfl))), ⟨rfl, trivial⟩, (.inl ⟨_, rfl, by simp [hc8]⟩), rfl⟩, ⟨.inr ⟨(OpJ.w (J_move rfl (Opd.tmp rfl))), ⟨rfl, trivial⟩, (.inl ⟨_, rfl, by simp [hc8]⟩), rfl⟩, ⟨.inr ⟨(OpJ.w (J_bin rfl (Opd.tmp rfl) Opd.con B_sub)), ⟨rfl, trivial⟩, (.inl ⟨_, rfl, by simp [hc8]⟩), rfl⟩, ⟨.inr ⟨(OpJ.w (J_idx rfl Try.underlying22 sz2 (Opd.tmp rfl) (Opd.tmp rfl) hx9)), ⟨rfl, rfl, trivial⟩, (.inl ⟨_, rfl, by simp [hc8]⟩), rfl⟩, ⟨.inr ⟨(OpJ.w (J_load rfl Try.isAgg2 (Opd.tmp rfl))), ⟨rfl, trivial⟩, (.inl ⟨_, rfl, by simp [hc8]⟩), rfl⟩, ⟨.inr ⟨(OpJ.w (J_move rfl (Opd.tmp rfl))), ⟨rfl, trivial⟩, (.inl ⟨_, rfl, by simp [hc8]⟩), rfl⟩, ⟨.inr ⟨(OpJ.w (J_move rfl (Opd.tmp rfl))), ⟨rfl, trivial⟩, (.inl ⟨_, rfl, by simp [hc8]⟩), rfl⟩, ⟨.inr ⟨(OpJ.w (J_idx rfl Try.underlying22 sz2 (Opd.tmp rfl) (Opd.tmp rfl) hx10)), ⟨rfl, rfl, trivial⟩, (.inl ⟨_, rfl, by simp [hc8]⟩), rfl⟩, ⟨.inr ⟨(OpJ.w (J_load rfl Try.isAgg2 (Opd.tmp rfl))), ⟨rfl, trivial⟩, (.inl ⟨_, rfl, by simp [hc8]⟩), rfl⟩, ⟨.inr ⟨(OpJ.w (J_bin rfl (Opd.tmp rfl) (Opd.tmp rfl) B_geq)), ⟨rfl, rfl, trivial⟩, (.inl ⟨_, rfl, by simp [hc8]⟩), rfl⟩, ⟨.inr ⟨(OpJ.w (J_pick rfl (Opd.tmp rfl) (fun _ => (Opd.tmp rfl)) (fun hf => absurd (hc8.symm.trans hf) (by decide)))), ⟨rfl, rfl, trivial⟩, (.inl ⟨_, rfl, by simp [hc7]⟩), rfl⟩, ⟨.inr ⟨(OpJ.w (J_pick rfl (Opd.tmp rfl) (fun hf => absurd (hc7.symm.trans hf) (by decide)) (fun _ => (Opd.tmp rfl)))), ⟨rfl, rfl, trivial⟩, rfl, rfl⟩, trivial⟩⟩⟩⟩⟩⟩⟩⟩⟩⟩⟩⟩⟩⟩⟩⟩⟩⟩⟩⟩⟩⟩⟩⟩ ?_
          refine RegL.nil ?_
          replace h := Option.some.inj h; subst h
          exact Ct.mid () rfl ⟨rfl, rfl, rfl, rfl, rfl, trivial⟩
        · replace h := bif_f hc8 h
          refine Tr.drawD (n := 38) (m := 24) (es := [some (Ent.mk [(0, (pSl 1 (cK .i64) list_0))] (pSl 1 (cK .i64) list_0) true), some (Ent.mk [(7, (pEq (.int .i64 v2)))] (pEq (.int .i64 v2)) true), some (Ent.mk [(14, (pSl 1 (cK .i64) list_0)), (15, (pEq (.int .i64 v2)))] (pPtr ((cK .i64) x5)) true), some (Ent.mk [(16, (pPtr ((cK .i64) x5)))] (pEq (.int .i64 x5)) true), some (Ent.mk [(1, (pEq (.int .i64 low_1)))] (pEq (.int .i64 low_1)) true), some (Ent.mk [(2, (pEq (.int .i64 high_2)))] (pEq (.int .i64 high_2)) true), some (Ent.mk [(17, (pEq (.int .i64 x5))), (18, (pEq (.int .i64 low_1))), (19, (pEq (.int .i64 high_2)))] (pEq (.bool x6)) true), some (Ent.mk [(20, (pEq (.bool x6)))] (pEq (.bool (!x6))) true), some (Ent.mk [(21, (pEq (.bool (!x6))))] (pEq (.bool (!x6))) true), some (Ent.mk [(7, (pEq (.int .i64 v2)))] (pEq (.int .i64 v2)) true), some (Ent.mk [(23, (pEq (.int .i64 v2)))] (pEq (.bool (decide ((0 : Int) < v2)))) true), some (Ent.mk [(24, (pEq (.bool (decide ((0 : Int) < v2)))))] (pEq (.bool (decide ((0 : Int) < v2)))) true), some (Ent.mk [(0, (pSl 1 (cK .i64) list_0))] (pEq undef) false), some (Ent.mk [(7, (pEq (.int .i64 v2)))] (pEq undef) false), some (Ent.mk [(27, (pEq undef))] (pEq undef) false), some (Ent.mk [(26, (pEq undef)), (28, (pEq undef))] (pEq undef) false), some (Ent.mk [(29, (pEq undef))] (pEq undef) false), some (Ent.mk [(0, (pSl 1 (cK .i64) list_0))] (pEq undef) false), some (Ent.mk [(7, (pEq (.int .i64 v2)))] (pEq undef) false), some (Ent.mk [(31, (pEq undef)), (32, (pEq undef))] (pEq undef) false), some (Ent.mk [(33, (pEq undef))] (pEq undef) false), some (Ent.mk [(30, (pEq undef)), (34, (pEq undef))] (pEq undef) false), some (Ent.mk [(25, (pEq (.bool (decide ((0 : Int) < v2))))), (35, (pEq undef))] (pEq (.bool false)) true), some (Ent.mk [(22, (pEq (.bool (!x6)))), (36, (pEq (.bool false)))] (pEq (.bool false)) true)]) (rd := [[0], [7], [14, 15], [16], [1], [2], [17, 18, 19], [20], [21], [7], [23], [24], [0], [7], [27], [26, 28], [29], [0], [7], [31, 32], [33], [30, 34], [25, 35], [22, 36]]) rfl hmix (by kernel_rfl) fun hD => ?_
          refine RD.fin (es := [Ent.mk [(0, (pSl 1 (cK .i64) list_0))] (pSl 1 (cK .i64) list_0) true, Ent.mk [(7, (pEq (.int .i64 v2)))] (pEq (.int .i64 v2)) true, Ent.mk [(14, (pSl 1 (cK .i64) list_0)), (15, (pEq (.int .i64 v2)))] (pPtr ((cK .i64) x5)) true, Ent.mk [(16, (pPtr ((cK .i64) x5)))] (pEq (.int .i64 x5)) true, Ent.mk [(1, (pEq (.int .i64 low_1)))] (pEq (.int .i64 low_1)) true, Ent.mk [(2, (pEq (.int .i64 high_2)))] (pEq (.int .i64 high_2)) true, Ent.mk [(17, (pEq (.int .i64 x5))), (18, (pEq (.int .i64 low_1))), (19, (pEq (.int .i64 high_2)))] (pEq (.bool x6)) true, Ent.mk [(20, (pEq (.bool x6)))] (pEq (.bool (!x6))) true, Ent.mk [(21, (pEq (.bool (!x6))))] (pEq (.bool (!x6))) true, Ent.mk [(7, (pEq (.int .i64 v2)))] (pEq (.int .i64 v2)) true, Ent.mk [(23, (pEq (.int .i64 v2)))] (pEq (.bool (decide ((0 : Int) < v2)))) true, Ent.mk [(24, (pEq (.bool (decide ((0 : Int) < v2)))))] (pEq (.bool (decide ((0 : Int) < v2)))) true, Ent.mk [(0, (pSl 1 (cK .i64) list_0))] (pEq undef) false, Ent.mk [(7, (pEq (.int .i64 v2)))] (pEq undef) false, Ent.mk [(27, (pEq undef))] (pEq undef) false, Ent.mk [(26, (pEq undef)), (28, (pEq undef))] (pEq undef) false, Ent.mk [(29, (pEq undef))] (pEq undef) false, Ent.mk [(0, (pSl 1 (cK .i64) list_0))] (pEq undef) false, Ent.mk [(7, (pEq (.int .i64 v2)))] (pEq undef) false, Ent.mk [(31, (pEq undef)), (32, (pEq undef))] (pEq undef) false, Ent.mk [(33, (pEq undef))] (pEq undef) false, Ent.mk [(30, (pEq undef)), (34, (pEq undef))] (pEq undef) false, Ent.mk [(25, (pEq (.bool (decide ((0 : Int) < v2))))), (35, (pEq undef))] (pEq (.bool false)) true, Ent.mk [(22, (pEq (.bool (!x6)))), (36, (pEq (.bool false)))] (pEq (.bool false)) true]) (done := []) hD ⟨.inr ⟨(OpJ.w (J_move rfl (Opd.tmp rfl))), ⟨rfl, trivial⟩, rfl, rfl⟩, ⟨.inr ⟨(OpJ.w (J_move rfl (Opd.tmp rfl))), ⟨rfl, trivial⟩, rfl, rfl⟩, ⟨.inr ⟨(OpJ.w (J_idx rfl Try.underlying22 sz2 (Opd.tmp rfl) (Opd.tmp rfl) hx5)), ⟨rfl, rfl, trivial⟩, rfl, rfl⟩, ⟨.inr ⟨(OpJ.w (J_load rfl Try.isAgg2 (Opd.tmp rfl))), ⟨rfl, trivial⟩, rfl, rfl⟩, ⟨.inr ⟨(OpJ.w (J_move rfl (Opd.tmp rfl))), ⟨rfl, trivial⟩, rfl, rfl⟩, ⟨.inr ⟨(OpJ.w (J_move rfl (Opd.tmp rfl))), ⟨rfl, trivial⟩, rfl, rfl⟩, ⟨.inr ⟨(OpJ.w (J_call rfl Try.call53 (c_spec_l00In hx6) (Opds.cons (Opd.tmp rfl) (Opds.cons (Opd.tmp rfl) (Opds.cons (Opd.tmp rfl) Opds.nil))))), ⟨rfl, rfl, rfl, trivial⟩, rfl, rfl⟩, ⟨.inr ⟨(OpJ.w (J_not rfl (Opd.tmp rfl))), ⟨rfl, trivial⟩, rfl, rfl⟩, ⟨.inr ⟨(OpJ.w (J_move rfl (Opd.tmp rfl))), ⟨rfl, trivial⟩, rfl, rfl⟩, ⟨.inr ⟨(OpJ.w (J_move rfl (Opd.tmp rfl))), ⟨rfl, trivial⟩, (.inl ⟨_, rfl, by simp [hc7]⟩), rfl⟩, ⟨.inr ⟨(OpJ.w (J_bin rfl (Opd.tmp rfl) Opd.con B_gtr)), ⟨rfl, trivial⟩, (.inl ⟨_, rfl, by simp [hc7]⟩), rfl⟩, ⟨.inr ⟨(OpJ.w (J_move rfl (Opd.tmp rfl))), ⟨rfl, trivial⟩, (.inl ⟨_, rfl, by simp [hc7]⟩), rfl⟩, ⟨.inr ⟨rfl, ⟨rfl, trivial⟩, (.inl ⟨_, rfl, by simp [hc8]⟩), rfl⟩, ⟨.inr ⟨rfl, ⟨rfl, trivial⟩, (.inl ⟨_, rfl, by simp [hc8]⟩), rfl⟩, ⟨.inr ⟨rfl, ⟨rfl, trivial⟩, (.inl ⟨_, rfl, by simp [hc8]⟩), rfl⟩, ⟨.inr ⟨rfl, ⟨rfl, rfl, trivial⟩, (.inl ⟨_, rfl, by simp [hc8]⟩), rfl⟩, ⟨.inr ⟨rfl, ⟨rfl, trivial⟩, (.inl ⟨_, rfl, by simp [hc8]⟩), rfl⟩, ⟨.inr ⟨rfl, ⟨rfl, trivial⟩, (.inl ⟨_, rfl, by simp [hc8]⟩), rfl⟩, ⟨.inr ⟨rfl, ⟨rfl, trivial⟩, (.inl ⟨_, rfl, by simp [hc8]⟩), rfl⟩, ⟨.inr ⟨rfl, ⟨rfl, rfl, trivial⟩, (.inl ⟨_, rfl, by simp [hc8]⟩), rfl⟩, ⟨.inr ⟨rfl, ⟨rfl, trivial⟩, (.inl ⟨_, rfl, by simp [hc8]⟩), rfl⟩, ⟨.inr ⟨rfl, ⟨rfl, rfl, trivial⟩, (.inl ⟨_, rfl, by simp [hc8]⟩), rfl⟩, ⟨.inr ⟨(OpJ.w (J_pick rfl (Opd.tmp rfl) (fun hf => absurd (hc8.symm.trans hf) (by decide)) (fun _ => Opd.con))), ⟨rfl, rfl, trivial⟩, (.inl ⟨_, rfl, by simp [hc7]⟩), rfl⟩, ⟨.inr ⟨(OpJ.w (J_pick rfl (Opd.tmp rfl) (fun hf => absurd (hc7.symm.trans hf) (by decide)) (fun _ => (Opd.tmp rfl)))), ⟨rfl, rfl, trivial⟩, rfl, rfl⟩, trivial⟩⟩⟩⟩⟩⟩⟩⟩⟩⟩⟩⟩⟩⟩⟩⟩⟩⟩⟩⟩⟩⟩⟩⟩ ?_
          refine RegL.nil ?_
          replace h := Option.some.inj h; subst h
          exact Ct.mid () rfl ⟨rfl, rfl, rfl, rfl, rfl, trivial⟩
    · clear hx4
      refine Ct.then_tr ?_
      refine Tr.weak (Γ' := [(0, (pSl 1 (cK .i64) list_0)), (1, (pEq (.int .i64 low_1))), (2, (pEq (.int .i64 high_2))), (7, (pEq (.int .i64 v2))), (37, (pEq (.bool x4)))]) ⟨rfl, rfl, rfl, rfl, rfl, trivial⟩ ?_
      refine Tr.cond (Opd.tmp rfl) (fun hc => ?_) (fun hc => ?_)
      · replace h := bif_t hc h
        refine Tr.seq ?_
        refine Tr.region ?_
        refine RegL.pure (p := (pEq (.bool false))) rfl rfl rfl (J_assign rfl Opd.con) ?_
        refine RegL.nil ?_
        refine Ct.then_tr ?_
        refine Tr.weak (Γ' := [(6, (pEq (.bool false)))]) ⟨rfl, trivial⟩ ?_
        refine Tr.ret ?_
        refine Ct.blk_ret ?_
        refine Ct.then_ret ?_
        replace h := map_some h; obtain ⟨r1, h, rfl⟩ := h
        refine Ct.out_ret fun e => ?_
        subst e
        refine Ct.blk_ret ?_
        refine Ct.then_ret ?_
        replace h := Option.some.inj h; subst h
        exact Ct.retH1 (Ωx := []) () rfl (RvOk.tmp rfl) rfl
      · replace h := bif_f hc h
        refine Tr.skip ?_
        refine Ct.blk_normal ?_
        refine Ct.then_tr ?_
        refine Tr.weak (Γ' := [(0, (pSl 1 (cK .i64) list_0)), (1, (pEq (.int .i64 low_1))), (2, (pEq (.int .i64 high_2))), (7, (pEq (.int .i64 v2)))]) ⟨rfl, rfl, rfl, rfl, trivial⟩ ?_
        refine Tr.region ?_
        refine RegL.pure (p := (pEq (.int .i64 v2))) rfl rfl rfl (J_move rfl (Opd.tmp rfl)) ?_
        refine RegL.pure (p := (pEq (.int .i64 (w64 (v2 + (1 : Int)))))) rfl rfl rfl (J_bin rfl (Opd.tmp rfl) Opd.con B_add) ?_
        refine RegL.pure (p := (pEq (.int .i64 (w64 (v2 + (1 : Int)))))) rfl rfl rfl (J_assign rfl (Opd.tmp rfl)) ?_
        refine RegL.nil ?_
        replace h := Option.some.inj h; subst h
        exact Ct.again () rfl ⟨rfl, rfl, rfl, rfl, trivial⟩
  · replace h := bif_f hc h
    refine Tr.exit ?_
    refine Ct.then_exit ?_
    replace h := map_some h; obtain ⟨r1, h, rfl⟩ := h
    refine Ct.out_exit fun e => ?_
    subst e
    refine Ct.blk_exit ?_
    refine Ct.then_tr ?_
    refine Tr.weak (Γ' := []) trivial ?_
    refine Tr.seq ?_
    refine Tr.region ?_
    refine RegL.pure (p := (pEq (.bool true))) rfl rfl rfl (J_assign rfl Opd.con) ?_
    refine RegL.nil ?_
    refine Ct.then_tr ?_
    refine Tr.weak (Γ' := [(6, (pEq (.bool true)))]) ⟨rfl, trivial⟩ ?_
    refine Tr.ret ?_
    replace h := Option.some.inj h; subst h
    exact Ct.retH1 (Ωx := []) () rfl (RvOk.tmp rfl) rfl

theorem c_spec_l17Domain {list_0 : (List Int)} {r : Bool} (h : m_spec_l17Domain list_0 = some r) : CallJ Try.prog 70 [(pSl 1 (cK .i64) list_0)] (pEq (.bool r)) := by
  unfold m_spec_l17Domain at h
  refine CallJ.enterH Try.func70 rfl Try.ntmps70 rfl fun W I0 H => ?_
  refine Tr.weak (Γ' := [(0, (pSl 1 (cK .i64) list_0))]) ⟨rfl, trivial⟩ ?_
  refine Tr.seq ?_
  refine Tr.region ?_
  refine RegL.pure (p := (pEq (.bool false))) rfl rfl rfl (J_assign rfl Opd.con) ?_
  refine RegL.nil ?_
  refine Ct.then_tr ?_
  refine Tr.weak (Γ' := [(0, (pSl 1 (cK .i64) list_0))]) ⟨rfl, trivial⟩ ?_
  refine Tr.seq ?_
  replace h := bind_some h; obtain ⟨x1, hx1, h⟩ := h
  refine Tr.cut (γ := Unit) (Γm := fun g => [(2, (pEq (.bool x1)))]) (Ωm := fun g => []) ?_ (fun g5 => ?_)
  · clear h
    have h := hx1
    clear hx1
    refine Tr.region ?_
    refine RegL.pure (p := (pSl 1 (cK .i64) list_0)) rfl rfl rfl (J_move rfl (Opd.tmp rfl)) ?_
    refine RegL.pure (p := (pEq (.int .i64 (list_0.length : Int)))) rfl rfl rfl (J_len rfl Try.underlying22 (Opd.tmp rfl) rfl) ?_
    refine RegL.pure (p := (pEq (.bool (decide ((0 : Int) < (list_0.length : Int)))))) rfl rfl rfl (J_bin rfl (Opd.tmp rfl) Opd.con B_gtr) ?_
    refine RegL.pure (p := (pEq (.bool (decide ((0 : Int) < (list_0.length : Int)))))) rfl rfl rfl (J_move rfl (Opd.tmp rfl)) ?_
    rcases Bool.eq_false_or_eq_true (decide ((0 : Int) < (list_0.length : Int))) with hc2 | hc2
    · replace h := bif_t hc2 h
      refine RegL.pureG (p := (pSl 1 (cK .i64) list_0)) rfl rfl rfl hc2 rfl rfl (J_move rfl (Opd.tmp rfl)) ?_
      refine RegL.pureG (p := (pEq (.int .i64 (list_0.length : Int)))) rfl rfl rfl hc2 rfl rfl (J_len rfl Try.underlying22 (Opd.tmp rfl) rfl) ?_
      refine RegL.pureG (p := (pEq (.bool (decide ((list_0.length : Int) ≤ (32 : Int)))))) rfl rfl rfl hc2 rfl rfl (J_bin rfl (Opd.tmp rfl) Opd.con B_leq) ?_
      refine RegL.pure (p := (pEq (.bool (decide ((list_0.length : Int) ≤ (32 : Int)))))) rfl rfl rfl (J_pick rfl (Opd.tmp rfl) (fun _ => (Opd.tmp rfl)) (fun hf => absurd (hc2.symm.trans hf) (by decide))) ?_
      refine RegL.pure (p := (pEq (.bool (decide ((list_0.length : Int) ≤ (32 : Int)))))) rfl rfl rfl (J_move rfl (Opd.tmp rfl)) ?_
      rcases Bool.eq_false_or_eq_true (decide ((list_0.length : Int) ≤ (32 : Int))) with hc3 | hc3
      · replace h := bif_t hc3 h
        refine RegL.pureG (p := (pSl 1 (cK .i64) list_0)) rfl rfl rfl hc3 rfl rfl (J_move rfl (Opd.tmp rfl)) ?_
        replace h := bind_some h; obtain ⟨x4, hx4, h⟩ := h
        refine RegL.pureG (p := (pEq (.bool x4))) rfl rfl rfl hc3 rfl rfl (J_call rfl Try.call74 (c_spec_l00Rises hx4) (Opds.cons (Opd.tmp rfl) (Opds.cons Opd.con (Opds.cons Opd.con Opds.nil)))) ?_
        refine RegL.pure (p := (pEq (.bool x4))) rfl rfl rfl (J_pick rfl (Opd.tmp rfl) (fun _ => (Opd.tmp rfl)) (fun hf => absurd (hc3.symm.trans hf) (by decide))) ?_
        refine RegL.pure (p := (pEq (.bool x4))) rfl rfl rfl (J_assign rfl (Opd.tmp rfl)) ?_
        refine RegL.nil ?_
        replace h := Option.some.inj h; subst h
        exact Ct.mid () rfl ⟨rfl, trivial⟩
      · replace h := bif_f hc3 h
        refine RegL.skipG rfl rfl rfl hc3 rfl rfl ?_
        refine RegL.skipG rfl rfl rfl hc3 rfl rfl ?_
        refine RegL.pure (p := (pEq (.bool false))) rfl rfl rfl (J_pick rfl (Opd.tmp rfl) (fun hf => absurd (hc3.symm.trans hf) (by decide)) (fun _ => Opd.con)) ?_
        refine RegL.pure (p := (pEq (.bool false))) rfl rfl rfl (J_assign rfl (Opd.tmp rfl)) ?_
        refine RegL.nil ?_
        replace h := Option.some.inj h; subst h
        exact Ct.mid () rfl ⟨rfl, trivial⟩
    · replace h := bif_f hc2 h
      refine RegL.skipG rfl rfl rfl hc2 rfl rfl ?_
      refine RegL.skipG rfl rfl rfl hc2 rfl rfl ?_
      refine RegL.skipG rfl rfl rfl hc2 rfl rfl ?_
      refine RegL.pure (p := (pEq (.bool false))) rfl rfl rfl (J_pick rfl (Opd.tmp rfl) (fun hf => absurd (hc2.symm.trans hf) (by decide)) (fun _ => Opd.con)) ?_
      refine RegL.pure (p := (pEq (.bool false))) rfl rfl rfl (J_move rfl (Opd.tmp rfl)) ?_
      refine RegL.skipG rfl rfl rfl rfl rfl rfl ?_
      refine RegL.skipG rfl rfl rfl rfl rfl rfl ?_
      refine RegL.pure (p := (pEq (.bool false))) rfl rfl rfl (J_pick rfl (Opd.tmp rfl) (fun hf => absurd hf (by decide)) (fun _ => Opd.con)) ?_
      refine RegL.pure (p := (pEq (.bool false))) rfl rfl rfl (J_assign rfl (Opd.tmp rfl)) ?_
      refine RegL.nil ?_
      replace h := Option.some.inj h; subst h
      exact Ct.mid () rfl ⟨rfl, trivial⟩
  · clear hx1
    refine Ct.then_tr ?_
    refine Tr.weak (Γ' := [(2, (pEq (.bool x1)))]) ⟨rfl, trivial⟩ ?_
    refine Tr.ret ?_
    replace h := Option.some.inj h; subst h
    exact Ct.retH1 (Ωx := []) () rfl (RvOk.tmp rfl) rfl

theorem c_spec_l00Max {a_0 : Int} {b_1 : Int} {r : Int} (h : m_spec_l00Max a_0 b_1 = some r) : CallJ Try.prog 55 [(pEq (.int .i64 a_0)), (pEq (.int .i64 b_1))] (pEq (.int .i64 r)) := by
  unfold m_spec_l00Max at h
  refine CallJ.enterH Try.func55 rfl Try.ntmps55 rfl fun W I0 H => ?_
  refine Tr.weak (Γ' := [(0, (pEq (.int .i64 a_0))), (1, (pEq (.int .i64 b_1)))]) ⟨rfl, rfl, trivial⟩ ?_
  refine Tr.seq ?_
  refine Tr.region ?_
  refine RegL.pure (p := (pEq (.int .i64 (0 : Int)))) rfl rfl rfl (J_assign rfl Opd.con) ?_
  refine RegL.nil ?_
  refine Ct.then_tr ?_
  refine Tr.weak (Γ' := [(0, (pEq (.int .i64 a_0))), (1, (pEq (.int .i64 b_1)))]) ⟨rfl, rfl, trivial⟩ ?_
  refine Tr.seq ?_
  refine Tr.seq ?_
  refine Tr.region ?_
  refine RegL.pure (p := (pEq (.int .i64 a_0))) rfl rfl rfl (J_move rfl (Opd.tmp rfl)) ?_
  refine RegL.pure (p := (pEq (.int .i64 b_1))) rfl rfl rfl (J_move rfl (Opd.tmp rfl)) ?_
  refine RegL.pure (p := (pEq (.bool (decide (b_1 < a_0))))) rfl rfl rfl (J_bin rfl (Opd.tmp rfl) (Opd.tmp rfl) B_gtr) ?_
  refine RegL.nil ?_
  refine Ct.then_tr ?_
  refine Tr.weak (Γ' := [(0, (pEq (.int .i64 a_0))), (1, (pEq (.int .i64 b_1))), (7, (pEq (.bool (decide (b_1 < a_0)))))]) ⟨rfl, rfl, rfl, trivial⟩ ?_
  refine Tr.cond (Opd.tmp rfl) (fun hc => ?_) (fun hc => ?_)
  · replace h := bif_t hc h
    refine Tr.seq ?_
    refine Tr.region ?_
    refine RegL.pure (p := (pEq (.int .i64 a_0))) rfl rfl rfl (J_move rfl (Opd.tmp rfl)) ?_
    refine RegL.pure (p := (pEq (.int .i64 a_0))) rfl rfl rfl (J_assign rfl (Opd.tmp rfl)) ?_
    refine RegL.nil ?_
    refine Ct.then_tr ?_
    refine Tr.weak (Γ' := [(4, (pEq (.int .i64 a_0)))]) ⟨rfl, trivial⟩ ?_
    refine Tr.ret ?_
    refine Ct.then_ret ?_
    replace h := Option.some.inj h; subst h
    exact Ct.retH1 (Ωx := []) () rfl (RvOk.tmp rfl) rfl
  · replace h := bif_f hc h
    refine Tr.skip ?_
    refine Ct.then_tr ?_
    refine Tr.weak (Γ' := [(1, (pEq (.int .i64 b_1)))]) ⟨rfl, trivial⟩ ?_
    refine Tr.seq ?_
    refine Tr.region ?_
    refine RegL.pure (p := (pEq (.int .i64 b_1))) rfl rfl rfl (J_move rfl (Opd.tmp rfl)) ?_
    refine RegL.pure (p := (pEq (.int .i64 b_1))) rfl rfl rfl (J_assign rfl (Opd.tmp rfl)) ?_
    refine RegL.nil ?_
    refine Ct.then_tr ?_
    refine Tr.weak (Γ' := [(4, (pEq (.int .i64 b_1)))]) ⟨rfl, trivial⟩ ?_
    refine Tr.ret ?_
    replace h := Option.some.inj h; subst h
    exact Ct.retH1 (Ωx := []) () rfl (RvOk.tmp rfl) rfl

theorem o_spec_MakeProblem {a_0 : (List (List Int))} {a_1 : (List (List Int))}  {r : (GProblem × Int)} (h : m_spec_MakeProblem a_0 a_1 = some r) : CallH Try.prog 29 [(pSl 1 (cSl 1 (cK .i64)) a_0), (pSl 1 (cSl 1 (cK .i64)) a_1)] [] (fun g : ((G3 × List G3) × (G3 × List G3)) => (pTup [(pAgg [(pEq (.slice g.1.1.1 g.1.1.2.1 g.1.1.2.2)), (pEq (.slice g.2.1.1 g.2.1.2.1 g.2.1.2.2))]), (pEq (.int .i64 r.2))])) (fun g : ((G3 × List G3) × (G3 × List G3)) => [oSS 22 2 1 (cK .i64) g.1.1.1 g.1.1.2.1 g.1.1.2.2 g.1.2 r.1.Domains, oSS 22 2 1 (cK .i64) g.2.1.1 g.2.1.2.1 g.2.1.2.2 g.2.2 r.1.Apart]) := by
  unfold m_spec_MakeProblem at h
  refine CallH.enter Try.func29 rfl Try.ntmps29 rfl fun W I0 H => ?_
  refine Tr.weak (Γ' := [(0, (pSl 1 (cSl 1 (cK .i64)) a_0)), (1, (pSl 1 (cSl 1 (cK .i64)) a_1))]) ⟨rfl, rfl, trivial⟩ ?_
  refine Tr.seq ?_
  refine Tr.region ?_
  refine RegL.step (γ := Nat) (p := fun b => pEq (.pointer (some ⟨b, 0, none⟩))) (Ω' := fun b => [oBlk b [(pEq (.slice none 0 0)), (pEq (.slice none 0 0))]]) rfl rfl rfl (M_alloc rfl zero32) fun b1 => ?_
  refine RegL.pure (p := (pEq (.int .i64 (0 : Int)))) rfl rfl rfl (J_assign rfl Opd.con) ?_
  refine RegL.nil ?_
  refine Ct.then_tr ?_
  refine Tr.weak (Γ' := [(0, (pSl 1 (cSl 1 (cK .i64)) a_0)), (1, (pSl 1 (cSl 1 (cK .i64)) a_1)), (4, (pEq (.pointer (some ⟨b1, 0, none⟩))))]) ⟨rfl, rfl, rfl, trivial⟩ ?_
  refine Tr.seq ?_
  refine Tr.region ?_
  refine RegL.pure (p := (pSl 1 (cSl 1 (cK .i64)) a_0)) rfl rfl rfl (J_move rfl (Opd.tmp rfl)) ?_
  refine RegL.pure (p := (pEq (.int .i64 (a_0.length : Int)))) rfl rfl rfl (J_len rfl Try.underlying27 (Opd.tmp rfl) rfl) ?_
  refine RegL.pure (p := (pEq (.int .i64 (a_0.length : Int)))) rfl rfl rfl (J_assign rfl (Opd.tmp rfl)) ?_
  refine RegL.nil ?_
  refine Ct.then_tr ?_
  refine Tr.weak (Γ' := [(0, (pSl 1 (cSl 1 (cK .i64)) a_0)), (1, (pSl 1 (cSl 1 (cK .i64)) a_1)), (4, (pEq (.pointer (some ⟨b1, 0, none⟩)))), (6, (pEq (.int .i64 (a_0.length : Int))))]) ⟨rfl, rfl, rfl, rfl, trivial⟩ ?_
  refine Tr.seq ?_
  refine Tr.seq ?_
  refine Tr.region ?_
  refine RegL.pure (p := (pEq (.int .i64 (a_0.length : Int)))) rfl rfl rfl (J_move rfl (Opd.tmp rfl)) ?_
  replace h := bind_some h; obtain ⟨x2, hx2, h⟩ := h
  refine RegL.pure (p := (pEq (.bool x2))) rfl rfl rfl (J_call rfl Try.call53 (c_spec_l00In hx2) (Opds.cons (Opd.tmp rfl) (Opds.cons Opd.con (Opds.cons Opd.con Opds.nil)))) ?_
  refine RegL.pure (p := (pEq (.bool (!x2)))) rfl rfl rfl (J_not rfl (Opd.tmp rfl)) ?_
  refine RegL.nil ?_
  refine Ct.then_tr ?_
  refine Tr.weak (Γ' := [(0, (pSl 1 (cSl 1 (cK .i64)) a_0)), (1, (pSl 1 (cSl 1 (cK .i64)) a_1)), (4, (pEq (.pointer (some ⟨b1, 0, none⟩)))), (6, (pEq (.int .i64 (a_0.length : Int)))), (16, (pEq (.bool (!x2))))]) ⟨rfl, rfl, rfl, rfl, rfl, trivial⟩ ?_
  refine Tr.cond (Opd.tmp rfl) (fun hc => ?_) (fun hc => ?_)
  · replace h := bif_t hc h
    refine Tr.seq ?_
    refine Tr.region ?_
    refine RegL.pure (p := (pAgg [(pEq (.slice none 0 0)), (pEq (.slice none 0 0))])) rfl rfl rfl (J_build (qss := []) rfl bl32 bz32o Parts.nil rfl) ?_
    refine RegL.stepN (γ := Unit) (p := fun _ => pAny) (Ω' := fun _ => [oBlk b1 [(pEq (.slice none 0 0)), (pEq (.slice none 0 0))]]) rfl rfl (M_storeA rfl sz32 (Opd.tmp rfl) (Opd.tmp rfl) (fun _ _ _ h => ones_of ((OneCs.cons OneC.slice (OneCs.cons OneC.slice OneCs.nil))) h) rfl rfl) fun g3 => ?_
    refine RegL.pure (p := (pEq (.int .i64 (1 : Int)))) rfl rfl rfl (J_assign rfl Opd.con) ?_
    refine RegL.nil ?_
    refine Ct.then_tr ?_
    refine Tr.weak (Γ' := [(4, (pEq (.pointer (some ⟨b1, 0, none⟩)))), (5, (pEq (.int .i64 (1 : Int))))]) ⟨rfl, rfl, trivial⟩ ?_
    refine Tr.ret ?_
    refine Ct.then_ret ?_
    refine Ct.re (Ω2 := [oSS 22 2 1 (cK .i64) none 0 0 [] ([] : (List (List Int))), oBlk b1 [(pEq (.slice none 0 0)), (pEq (.slice none 0 0))]]) (fun h => nest_nil h) ?_
    refine Ct.re (Ω2 := [oSS 22 2 1 (cK .i64) none 0 0 [] ([] : (List (List Int))), oSS 22 2 1 (cK .i64) none 0 0 [] ([] : (List (List Int))), oBlk b1 [(pEq (.slice none 0 0)), (pEq (.slice none 0 0))]]) (fun h => nest_nil h) ?_
    refine Ct.re (Ω2 := [oSS 22 2 1 (cK .i64) none 0 0 [] ([] : (List (List Int))), oSS 22 2 1 (cK .i64) none 0 0 [] ([] : (List (List Int))), oBlk b1 [(pEq (.slice none 0 0)), (pEq (.slice none 0 0))]]) (fun h => SatO.pick 1 h) ?_
    refine Ct.re (Ω2 := [oBlk b1 [(pEq (.slice none 0 0)), (pEq (.slice none 0 0))], oSS 22 2 1 (cK .i64) none 0 0 [] ([] : (List (List Int))), oSS 22 2 1 (cK .i64) none 0 0 [] ([] : (List (List Int)))]) (fun h => SatO.pick 2 h) ?_
    replace h := Option.some.inj h; subst h
    exact Ct.retH2 (Ωx := [oBlk b1 [(pEq (.slice none 0 0)), (pEq (.slice none 0 0))]]) (((none, 0, 0), []), ((none, 0, 0), [])) rfl (RvOk.cellA (i := 0) Try.isAgg32 sz32 rfl rfl rfl) (RvOk.tmp rfl) rfl rfl
  · replace h := bif_f hc h
    refine Tr.skip ?_
    refine Ct.then_tr ?_
    refine Tr.weak (Γ' := [(0, (pSl 1 (cSl 1 (cK .i64)) a_0)), (1, (pSl 1 (cSl 1 (cK .i64)) a_1)), (4, (pEq (.pointer (some ⟨b1, 0, none⟩)))), (6, (pEq (.int .i64 (a_0.length : Int))))]) ⟨rfl, rfl, rfl, rfl, trivial⟩ ?_
    refine Tr.seq ?_
    refine Tr.region ?_
    refine RegL.pure (p := (pSl 1 (cSl 1 (cK .i64)) a_0)) rfl rfl rfl (J_move rfl (Opd.tmp rfl)) ?_
    replace h := bind_some h; obtain ⟨x6, hx6, h⟩ := h
    refine RegL.step (γ := (G3 × List G3)) (p := fun g => (pEq (.slice g.1.1 g.1.2.1 g.1.2.2))) (Ω' := fun g => [oSS 22 2 1 (cK .i64) g.1.1 g.1.2.1 g.1.2.2 g.2 x6, oBlk b1 [(pEq (.slice none 0 0)), (pEq (.slice none 0 0))]]) rfl rfl rfl (M_callH (Ωi := []) rfl Try.call69 (o_spec_l17OwnLists hx6) (Opds.cons (Opd.tmp rfl) Opds.nil)) fun g7 => ?_
    refine RegL.pure (p := (pAgg [(pEq (.slice g7.1.1 g7.1.2.1 g7.1.2.2)), (pEq (.slice none 0 0))])) rfl rfl rfl (J_build (qss := [(0, [(pEq (.slice g7.1.1 g7.1.2.1 g7.1.2.2))])]) rfl bl32 bz32o (Parts.cons (Part.one (Opd.tmp rfl) OneC.slice) Parts.nil) rfl) ?_
    refine RegL.step (γ := Nat) (p := fun b => pEq (.pointer (some ⟨b, 0, none⟩))) (Ω' := fun b => [oBlk b [(pEq (.slice none 0 0)), (pEq (.slice none 0 0))], oSS 22 2 1 (cK .i64) g7.1.1 g7.1.2.1 g7.1.2.2 g7.2 x6, oBlk b1 [(pEq (.slice none 0 0)), (pEq (.slice none 0 0))]]) rfl rfl rfl (M_alloc rfl zero32) fun b9 => ?_
    refine RegL.stepN (γ := Unit) (p := fun _ => pAny) (Ω' := fun _ => [oBlk b9 [(pEq (.slice g7.1.1 g7.1.2.1 g7.1.2.2)), (pEq (.slice none 0 0))], oSS 22 2 1 (cK .i64) g7.1.1 g7.1.2.1 g7.1.2.2 g7.2 x6, oBlk b1 [(pEq (.slice none 0 0)), (pEq (.slice none 0 0))]]) rfl rfl (M_storeA rfl sz32 (Opd.tmp rfl) (Opd.tmp rfl) (fun _ _ _ h => ones_of ((OneCs.cons OneC.slice (OneCs.cons OneC.slice OneCs.nil))) h) rfl rfl) fun g10 => ?_
    refine RegL.nil ?_
    refine Ct.then_tr ?_
    refine Tr.weak (Γ' := [(0, (pSl 1 (cSl 1 (cK .i64)) a_0)), (1, (pSl 1 (cSl 1 (cK .i64)) a_1)), (4, (pEq (.pointer (some ⟨b1, 0, none⟩)))), (6, (pEq (.int .i64 (a_0.length : Int)))), (7, (pEq (.pointer (some ⟨b9, 0, none⟩))))]) ⟨rfl, rfl, rfl, rfl, rfl, trivial⟩ ?_
    refine Tr.seq ?_
    refine Tr.seq ?_
    refine Tr.region ?_
    refine RegL.pure (p := (pEq (.int .i64 (0 : Int)))) rfl rfl rfl (J_assign rfl Opd.con) ?_
    refine RegL.nil ?_
    refine Ct.then_tr ?_
    refine Tr.weak (Γ' := [(0, (pSl 1 (cSl 1 (cK .i64)) a_0)), (1, (pSl 1 (cSl 1 (cK .i64)) a_1)), (4, (pEq (.pointer (some ⟨b1, 0, none⟩)))), (6, (pEq (.int .i64 (a_0.length : Int)))), (7, (pEq (.pointer (some ⟨b9, 0, none⟩)))), (8, (pEq (.int .i64 (0 : Int))))]) ⟨rfl, rfl, rfl, rfl, rfl, rfl, trivial⟩ ?_
    refine Tr.block ?_
    refine Tr.re (Ω2 := [oSS 22 2 1 (cK .i64) none 0 0 [] ([] : (List (List Int))), oBlk b9 [(pEq (.slice g7.1.1 g7.1.2.1 g7.1.2.2)), (pEq (.slice none 0 0))], oSS 22 2 1 (cK .i64) g7.1.1 g7.1.2.1 g7.1.2.2 g7.2 x6, oBlk b1 [(pEq (.slice none 0 0)), (pEq (.slice none 0 0))]]) (fun h => nest_nil h) ?_
    refine Tr.weak (Γ' := [(0, (pSl 1 (cSl 1 (cK .i64)) a_0)), (1, (pSl 1 (cSl 1 (cK .i64)) a_1)), (4, (pEq (.pointer (some ⟨b1, 0, none⟩)))), (6, (pEq (.int .i64 (a_0.length : Int)))), (7, (pEq (.pointer (some ⟨b9, 0, none⟩)))), (8, (pEq (.int .i64 (0 : Int))))]) ⟨rfl, rfl, rfl, rfl, rfl, rfl, trivial⟩ ?_
    refine Tr.loop (γ := (G3 × List G3)) (σ := (Int × (List (List Int)))) (Γσ := fun s g => [(0, (pSl 1 (cSl 1 (cK .i64)) a_0)), (1, (pSl 1 (cSl 1 (cK .i64)) a_1)), (4, (pEq (.pointer (some ⟨b1, 0, none⟩)))), (6, (pEq (.int .i64 (a_0.length : Int)))), (7, (pEq (.pointer (some ⟨b9, 0, none⟩)))), (8, (pEq (.int .i64 s.1)))]) (Ωσ := fun s g => [oSS 22 2 1 (cK .i64) g.1.1 g.1.2.1 g.1.2.2 g.2 s.2, oBlk b9 [(pEq (.slice g7.1.1 g7.1.2.1 g7.1.2.2)), (pEq (.slice g.1.1 g.1.2.1 g.1.2.2))], oSS 22 2 1 (cK .i64) g7.1.1 g7.1.2.1 g7.1.2.2 g7.2 x6, oBlk b1 [(pEq (.slice none 0 0)), (pEq (.slice none 0 0))]]) (g := ((none, 0, 0), [])) h ?_
    clear h
    rintro ⟨v13, v14⟩ g15 t h
    replace h : m_spec_MakeProblem_B12 a_0 a_1 x6 v13 v14 = some t := h
    unfold m_spec_MakeProblem_B12 at h
    refine Tr.weakO (Γ' := [(0, (pSl 1 (cSl 1 (cK .i64)) a_0)), (1, (pSl 1 (cSl 1 (cK .i64)) a_1)), (4, (pEq (.pointer (some ⟨b1, 0, none⟩)))), (6, (pEq (.int .i64 (a_0.length : Int)))), (7, (pEq (.pointer (some ⟨b9, 0, none⟩)))), (8, (pEq (.int .i64 v13)))]) (Ω' := [oSS 22 2 1 (cK .i64) g15.1.1 g15.1.2.1 g15.1.2.2 g15.2 v14, oBlk b9 [(pEq (.slice g7.1.1 g7.1.2.1 g7.1.2.2)), (pEq (.slice g15.1.1 g15.1.2.1 g15.1.2.2))], oSS 22 2 1 (cK .i64) g7.1.1 g7.1.2.1 g7.1.2.2 g7.2 x6, oBlk b1 [(pEq (.slice none 0 0)), (pEq (.slice none 0 0))]]) rfl ⟨rfl, rfl, rfl, rfl, rfl, rfl, trivial⟩ ?_
    refine Tr.seq ?_
    refine Tr.seq ?_
    refine Tr.region ?_
    refine RegL.pure (p := (pEq (.int .i64 v13))) rfl rfl rfl (J_move rfl (Opd.tmp rfl)) ?_
    refine RegL.pure (p := (pEq (.int .i64 (a_0.length : Int)))) rfl rfl rfl (J_move rfl (Opd.tmp rfl)) ?_
    refine RegL.pure (p := (pEq (.bool (decide (v13 < (a_0.length : Int)))))) rfl rfl rfl (J_bin rfl (Opd.tmp rfl) (Opd.tmp rfl) B_lss) ?_
    refine RegL.nil ?_
    refine Ct.then_tr ?_
    refine Tr.weak (Γ' := [(0, (pSl 1 (cSl 1 (cK .i64)) a_0)), (1, (pSl 1 (cSl 1 (cK .i64)) a_1)), (4, (pEq (.pointer (some ⟨b1, 0, none⟩)))), (6, (pEq (.int .i64 (a_0.length : Int)))), (7, (pEq (.pointer (some ⟨b9, 0, none⟩)))), (8, (pEq (.int .i64 v13))), (23, (pEq (.bool (decide (v13 < (a_0.length : Int))))))]) ⟨rfl, rfl, rfl, rfl, rfl, rfl, rfl, trivial⟩ ?_
    refine Tr.cond (Opd.tmp rfl) (fun hc => ?_) (fun hc => ?_)
    · replace h := bif_t hc h
      refine Tr.skip ?_
      refine Ct.then_tr ?_
      refine Tr.weak (Γ' := [(0, (pSl 1 (cSl 1 (cK .i64)) a_0)), (1, (pSl 1 (cSl 1 (cK .i64)) a_1)), (4, (pEq (.pointer (some ⟨b1, 0, none⟩)))), (6, (pEq (.int .i64 (a_0.length : Int)))), (7, (pEq (.pointer (some ⟨b9, 0, none⟩)))), (8, (pEq (.int .i64 v13)))]) ⟨rfl, rfl, rfl, rfl, rfl, rfl, trivial⟩ ?_
      refine Tr.seq ?_
      refine Tr.block ?_
      refine Tr.seq ?_
      refine Tr.seq ?_
      refine Tr.region ?_
      refine RegL.pure (p := (pSl 1 (cSl 1 (cK .i64)) a_0)) rfl rfl rfl (J_move rfl (Opd.tmp rfl)) ?_
      refine RegL.pure (p := (pEq (.int .i64 v13))) rfl rfl rfl (J_move rfl (Opd.tmp rfl)) ?_
      replace h := bind_some h; obtain ⟨x16, hx16, h⟩ := h
      refine RegL.pure (p := (pPtr ((cSl 1 (cK .i64)) x16))) rfl rfl rfl (J_idx rfl Try.underlying27 sz22 (Opd.tmp rfl) (Opd.tmp rfl) hx16) ?_
      refine RegL.pure (p := (pSl 1 (cK .i64) x16)) rfl rfl rfl (J_load rfl Try.isAgg22 (Opd.tmp rfl)) ?_
      replace h := bind_some h; obtain ⟨x17, hx17, h⟩ := h
      refine RegL.pure (p := (pEq (.bool x17))) rfl rfl rfl (J_call rfl Try.call70 (c_spec_l17Domain hx17) (Opds.cons (Opd.tmp rfl) Opds.nil)) ?_
      refine RegL.pure (p := (pEq (.bool (!x17)))) rfl rfl rfl (J_not rfl (Opd.tmp rfl)) ?_
      refine RegL.nil ?_
      refine Ct.then_tr ?_
      refine Tr.weak (Γ' := [(0, (pSl 1 (cSl 1 (cK .i64)) a_0)), (1, (pSl 1 (cSl 1 (cK .i64)) a_1)), (4, (pEq (.pointer (some ⟨b1, 0, none⟩)))), (6, (pEq (.int .i64 (a_0.length : Int)))), (7, (pEq (.pointer (some ⟨b9, 0, none⟩)))), (8, (pEq (.int .i64 v13))), (31, (pEq (.bool (!x17))))]) ⟨rfl, rfl, rfl, rfl, rfl, rfl, rfl, trivial⟩ ?_
      refine Tr.cond (Opd.tmp rfl) (fun hc => ?_) (fun hc => ?_)
      · replace h := bif_t hc h
        refine Tr.seq ?_
        refine Tr.region ?_
        refine RegL.pure (p := (pAgg [(pEq (.slice none 0 0)), (pEq (.slice none 0 0))])) rfl rfl rfl (J_build (qss := []) rfl bl32 bz32o Parts.nil rfl) ?_
        refine RegL.re (Ω2 := [oBlk b1 [(pEq (.slice none 0 0)), (pEq (.slice none 0 0))], oSS 22 2 1 (cK .i64) g15.1.1 g15.1.2.1 g15.1.2.2 g15.2 v14, oBlk b9 [(pEq (.slice g7.1.1 g7.1.2.1 g7.1.2.2)), (pEq (.slice g15.1.1 g15.1.2.1 g15.1.2.2))], oSS 22 2 1 (cK .i64) g7.1.1 g7.1.2.1 g7.1.2.2 g7.2 x6]) (fun h => SatO.pick 3 h) ?_
        refine RegL.stepN (γ := Unit) (p := fun _ => pAny) (Ω' := fun _ => [oBlk b1 [(pEq (.slice none 0 0)), (pEq (.slice none 0 0))], oSS 22 2 1 (cK .i64) g15.1.1 g15.1.2.1 g15.1.2.2 g15.2 v14, oBlk b9 [(pEq (.slice g7.1.1 g7.1.2.1 g7.1.2.2)), (pEq (.slice g15.1.1 g15.1.2.1 g15.1.2.2))], oSS 22 2 1 (cK .i64) g7.1.1 g7.1.2.1 g7.1.2.2 g7.2 x6]) rfl rfl (M_storeA rfl sz32 (Opd.tmp rfl) (Opd.tmp rfl) (fun _ _ _ h => ones_of ((OneCs.cons OneC.slice (OneCs.cons OneC.slice OneCs.nil))) h) rfl rfl) fun g18 => ?_
        refine RegL.pure (p := (pEq (.int .i64 (1 : Int)))) rfl rfl rfl (J_assign rfl Opd.con) ?_
        refine RegL.nil ?_
        refine Ct.then_tr ?_
        refine Tr.weak (Γ' := [(4, (pEq (.pointer (some ⟨b1, 0, none⟩)))), (5, (pEq (.int .i64 (1 : Int))))]) ⟨rfl, rfl, trivial⟩ ?_
        refine Tr.ret ?_
        refine Ct.then_ret ?_
        refine Ct.blk_ret ?_
        refine Ct.then_ret ?_
        replace h := map_some h; obtain ⟨r1, h, rfl⟩ := h
        refine Ct.out_ret fun e => ?_
        subst e
        refine Ct.blk_ret ?_
        refine Ct.then_ret ?_
        refine Ct.re (Ω2 := [oSS 22 2 1 (cK .i64) none 0 0 [] ([] : (List (List Int))), oBlk b1 [(pEq (.slice none 0 0)), (pEq (.slice none 0 0))], oSS 22 2 1 (cK .i64) g15.1.1 g15.1.2.1 g15.1.2.2 g15.2 v14, oBlk b9 [(pEq (.slice g7.1.1 g7.1.2.1 g7.1.2.2)), (pEq (.slice g15.1.1 g15.1.2.1 g15.1.2.2))], oSS 22 2 1 (cK .i64) g7.1.1 g7.1.2.1 g7.1.2.2 g7.2 x6]) (fun h => nest_nil h) ?_
        refine Ct.re (Ω2 := [oSS 22 2 1 (cK .i64) none 0 0 [] ([] : (List (List Int))), oSS 22 2 1 (cK .i64) none 0 0 [] ([] : (List (List Int))), oBlk b1 [(pEq (.slice none 0 0)), (pEq (.slice none 0 0))], oSS 22 2 1 (cK .i64) g15.1.1 g15.1.2.1 g15.1.2.2 g15.2 v14, oBlk b9 [(pEq (.slice g7.1.1 g7.1.2.1 g7.1.2.2)), (pEq (.slice g15.1.1 g15.1.2.1 g15.1.2.2))], oSS 22 2 1 (cK .i64) g7.1.1 g7.1.2.1 g7.1.2.2 g7.2 x6]) (fun h => nest_nil h) ?_
        refine Ct.re (Ω2 := [oSS 22 2 1 (cK .i64) none 0 0 [] ([] : (List (List Int))), oSS 22 2 1 (cK .i64) none 0 0 [] ([] : (List (List Int))), oBlk b1 [(pEq (.slice none 0 0)), (pEq (.slice none 0 0))], oSS 22 2 1 (cK .i64) g15.1.1 g15.1.2.1 g15.1.2.2 g15.2 v14, oBlk b9 [(pEq (.slice g7.1.1 g7.1.2.1 g7.1.2.2)), (pEq (.slice g15.1.1 g15.1.2.1 g15.1.2.2))], oSS 22 2 1 (cK .i64) g7.1.1 g7.1.2.1 g7.1.2.2 g7.2 x6]) (fun h => SatO.pick 1 h) ?_
        refine Ct.re (Ω2 := [oSS 22 2 1 (cK .i64) g7.1.1 g7.1.2.1 g7.1.2.2 g7.2 x6, oSS 22 2 1 (cK .i64) none 0 0 [] ([] : (List (List Int))), oSS 22 2 1 (cK .i64) none 0 0 [] ([] : (List (List Int))), oBlk b1 [(pEq (.slice none 0 0)), (pEq (.slice none 0 0))], oSS 22 2 1 (cK .i64) g15.1.1 g15.1.2.1 g15.1.2.2 g15.2 v14, oBlk b9 [(pEq (.slice g7.1.1 g7.1.2.1 g7.1.2.2)), (pEq (.slice g15.1.1 g15.1.2.1 g15.1.2.2))]]) (fun h => SatO.pick 5 h) ?_
        refine Ct.re (Ω2 := [oBlk b9 [(pEq (.slice g7.1.1 g7.1.2.1 g7.1.2.2)), (pEq (.slice g15.1.1 g15.1.2.1 g15.1.2.2))], oSS 22 2 1 (cK .i64) g7.1.1 g7.1.2.1 g7.1.2.2 g7.2 x6, oSS 22 2 1 (cK .i64) none 0 0 [] ([] : (List (List Int))), oSS 22 2 1 (cK .i64) none 0 0 [] ([] : (List (List Int))), oBlk b1 [(pEq (.slice none 0 0)), (pEq (.slice none 0 0))], oSS 22 2 1 (cK .i64) g15.1.1 g15.1.2.1 g15.1.2.2 g15.2 v14]) (fun h => SatO.pick 5 h) ?_
        refine Ct.re (Ω2 := [oSS 22 2 1 (cK .i64) g15.1.1 g15.1.2.1 g15.1.2.2 g15.2 v14, oBlk b9 [(pEq (.slice g7.1.1 g7.1.2.1 g7.1.2.2)), (pEq (.slice g15.1.1 g15.1.2.1 g15.1.2.2))], oSS 22 2 1 (cK .i64) g7.1.1 g7.1.2.1 g7.1.2.2 g7.2 x6, oSS 22 2 1 (cK .i64) none 0 0 [] ([] : (List (List Int))), oSS 22 2 1 (cK .i64) none 0 0 [] ([] : (List (List Int))), oBlk b1 [(pEq (.slice none 0 0)), (pEq (.slice none 0 0))]]) (fun h => SatO.pick 5 h) ?_
        refine Ct.re (Ω2 := [oBlk b1 [(pEq (.slice none 0 0)), (pEq (.slice none 0 0))], oSS 22 2 1 (cK .i64) g15.1.1 g15.1.2.1 g15.1.2.2 g15.2 v14, oBlk b9 [(pEq (.slice g7.1.1 g7.1.2.1 g7.1.2.2)), (pEq (.slice g15.1.1 g15.1.2.1 g15.1.2.2))], oSS 22 2 1 (cK .i64) g7.1.1 g7.1.2.1 g7.1.2.2 g7.2 x6, oSS 22 2 1 (cK .i64) none 0 0 [] ([] : (List (List Int))), oSS 22 2 1 (cK .i64) none 0 0 [] ([] : (List (List Int)))]) (fun h => SatO.pick 5 h) ?_
        replace h := Option.some.inj h; subst h
        exact Ct.retH2 (Ωx := [oBlk b1 [(pEq (.slice none 0 0)), (pEq (.slice none 0 0))], oSS 22 2 1 (cK .i64) g15.1.1 g15.1.2.1 g15.1.2.2 g15.2 v14, oBlk b9 [(pEq (.slice g7.1.1 g7.1.2.1 g7.1.2.2)), (pEq (.slice g15.1.1 g15.1.2.1 g15.1.2.2))], oSS 22 2 1 (cK .i64) g7.1.1 g7.1.2.1 g7.1.2.2 g7.2 x6]) (((none, 0, 0), []), ((none, 0, 0), [])) rfl (RvOk.cellA (i := 0) Try.isAgg32 sz32 rfl rfl rfl) (RvOk.tmp rfl) rfl rfl
      · replace h := bif_f hc h
        refine Tr.skip ?_
        refine Ct.then_tr ?_
        refine Tr.weak (Γ' := [(0, (pSl 1 (cSl 1 (cK .i64)) a_0)), (1, (pSl 1 (cSl 1 (cK .i64)) a_1)), (4, (pEq (.pointer (some ⟨b1, 0, none⟩)))), (6, (pEq (.int .i64 (a_0.length : Int)))), (7, (pEq (.pointer (some ⟨b9, 0, none⟩)))), (8, (pEq (.int .i64 v13)))]) ⟨rfl, rfl, rfl, rfl, rfl, rfl, trivial⟩ ?_
        refine Tr.drawD (n := 129) (m := 6) (es := [some (Ent.mk [(7, (pEq (.pointer (some ⟨b9, 0, none⟩))))] (pEq (.pointer (some ⟨b9, 1, none⟩))) true), some (Ent.mk [(33, (pEq (.pointer (some ⟨b9, 1, none⟩))))] (pEq (.slice g15.1.1 g15.1.2.1 g15.1.2.2)) true), some (Ent.mk [(6, (pEq (.int .i64 (a_0.length : Int))))] (pEq (.int .i64 (a_0.length : Int))) true), none, none, none]) (rd := [[7], [33], [6], [35], [36], [34, 37]]) rfl hmix (by kernel_rfl) fun hD => ?_
        replace h := bind_some h; obtain ⟨x21, hx21, h⟩ := h
        refine RD.step hD (es := [some (Ent.mk [(7, (pEq (.pointer (some ⟨b9, 0, none⟩))))] (pEq (.pointer (some ⟨b9, 1, none⟩))) true), some (Ent.mk [(33, (pEq (.pointer (some ⟨b9, 1, none⟩))))] (pEq (.slice g15.1.1 g15.1.2.1 g15.1.2.2)) true), some (Ent.mk [(6, (pEq (.int .i64 (a_0.length : Int))))] (pEq (.int .i64 (a_0.length : Int))) true), none, none, none]) (done := []) (mask := [true, true, true, false, false, false]) (γ := Option Addr) (p := fun a => pEq (.slice a ((a_0.length : Int)).toNat ((a_0.length : Int)).toNat)) (Ω' := fun a => [oSl 2 1 (cK .i64) a ((a_0.length : Int)).toNat ((a_0.length : Int)).toNat x21, oSS 22 2 1 (cK .i64) g15.1.1 g15.1.2.1 g15.1.2.2 g15.2 v14, oBlk b9 [(pEq (.slice g7.1.1 g7.1.2.1 g7.1.2.2)), (pEq (.slice g15.1.1 g15.1.2.1 g15.1.2.2))], oSS 22 2 1 (cK .i64) g7.1.1 g7.1.2.1 g7.1.2.2 g7.2 x6, oBlk b1 [(pEq (.slice none 0 0)), (pEq (.slice none 0 0))]]) (es' := fun o22 => [some (Ent.mk [(7, (pEq (.pointer (some ⟨b9, 0, none⟩))))] (pEq (.pointer (some ⟨b9, 1, none⟩))) true), some (Ent.mk [(33, (pEq (.pointer (some ⟨b9, 1, none⟩))))] (pEq (.slice g15.1.1 g15.1.2.1 g15.1.2.2)) true), some (Ent.mk [(6, (pEq (.int .i64 (a_0.length : Int))))] (pEq (.int .i64 (a_0.length : Int))) true), some (Ent.mk [(35, (pEq (.int .i64 (a_0.length : Int))))] (pEq (.slice o22 ((a_0.length : Int)).toNat ((a_0.length : Int)).toNat)) true), none, none]) (Γc := [(35, (pEq (.int .i64 (a_0.length : Int))))]) 3 rfl rfl rfl (by kernel_rfl) ⟨.inr ⟨(OpJ.w (J_fieldAddrE rfl Try.underlying32 rfl sz27 (by decide) (Opd.tmp rfl) rfl)), ⟨rfl, trivial⟩, rfl, rfl⟩, ⟨.inr ⟨(W_load (i := 1) rfl Try.isAgg27 (Opd.tmp rfl) rfl rfl), ⟨rfl, trivial⟩, rfl, rfl⟩, ⟨.inr ⟨(OpJ.w (J_move rfl (Opd.tmp rfl))), ⟨rfl, trivial⟩, rfl, rfl⟩, trivial⟩⟩⟩ rfl rfl ⟨rfl, trivial⟩ (fun _ => M_make rfl Try.underlying22 el2 (by decide) (Opd.tmp rfl) hx21) (fun o22 => ⟨rfl, ⟨rfl, ⟨rfl, trivial⟩⟩⟩) (fun o22 => rfl) rfl fun o22 => ?_
        refine RD.step hD (es := [some (Ent.mk [(7, (pEq (.pointer (some ⟨b9, 0, none⟩))))] (pEq (.pointer (some ⟨b9, 1, none⟩))) true), some (Ent.mk [(33, (pEq (.pointer (some ⟨b9, 1, none⟩))))] (pEq (.slice g15.1.1 g15.1.2.1 g15.1.2.2)) true), some (Ent.mk [(6, (pEq (.int .i64 (a_0.length : Int))))] (pEq (.int .i64 (a_0.length : Int))) true), some (Ent.mk [(35, (pEq (.int .i64 (a_0.length : Int))))] (pEq (.slice o22 ((a_0.length : Int)).toNat ((a_0.length : Int)).toNat)) true), none, none]) (done := [3]) (mask := [true, true, true, true, false, false]) (γ := Option Addr) (p := fun a => pEq (.slice a 1 1)) (Ω' := fun a => [oSl 22 1 cHdr a 1 1 [(o22, ((a_0.length : Int)).toNat, ((a_0.length : Int)).toNat)], oSl 2 1 (cK .i64) o22 ((a_0.length : Int)).toNat ((a_0.length : Int)).toNat x21, oSS 22 2 1 (cK .i64) g15.1.1 g15.1.2.1 g15.1.2.2 g15.2 v14, oBlk b9 [(pEq (.slice g7.1.1 g7.1.2.1 g7.1.2.2)), (pEq (.slice g15.1.1 g15.1.2.1 g15.1.2.2))], oSS 22 2 1 (cK .i64) g7.1.1 g7.1.2.1 g7.1.2.2 g7.2 x6, oBlk b1 [(pEq (.slice none 0 0)), (pEq (.slice none 0 0))]]) (es' := fun o24 => [some (Ent.mk [(7, (pEq (.pointer (some ⟨b9, 0, none⟩))))] (pEq (.pointer (some ⟨b9, 1, none⟩))) true), some (Ent.mk [(33, (pEq (.pointer (some ⟨b9, 1, none⟩))))] (pEq (.slice g15.1.1 g15.1.2.1 g15.1.2.2)) true), some (Ent.mk [(6, (pEq (.int .i64 (a_0.length : Int))))] (pEq (.int .i64 (a_0.length : Int))) true), some (Ent.mk [(35, (pEq (.int .i64 (a_0.length : Int))))] (pEq (.slice o22 ((a_0.length : Int)).toNat ((a_0.length : Int)).toNat)) true), some (Ent.mk [(36, (pEq (.slice o22 ((a_0.length : Int)).toNat ((a_0.length : Int)).toNat)))] (pEq (.slice o24 1 1)) true), none]) (Γc := [(36, (pEq (.slice o22 ((a_0.length : Int)).toNat ((a_0.length : Int)).toNat)))]) 4 rfl rfl rfl (by kernel_rfl) ⟨.inr ⟨(OpJ.w (J_fieldAddrE rfl Try.underlying32 rfl sz27 (by decide) (Opd.tmp rfl) rfl)), ⟨rfl, trivial⟩, rfl, rfl⟩, ⟨.inr ⟨(W_load (i := 2) rfl Try.isAgg27 (Opd.tmp rfl) rfl rfl), ⟨rfl, trivial⟩, rfl, rfl⟩, ⟨.inr ⟨(OpJ.w (J_move rfl (Opd.tmp rfl))), ⟨rfl, trivial⟩, rfl, rfl⟩, ⟨.inl rfl, trivial⟩⟩⟩⟩ rfl rfl ⟨rfl, trivial⟩ (fun _ => M_buildSlice (qss := [(0, cHdr (o22, ((a_0.length : Int)).toNat, ((a_0.length : Int)).toNat))]) rfl Try.underlying27 elh22 rfl (Parts.cons (Part.one (Opd.tmp rfl) OneC.slice) Parts.nil) rfl rfl) (fun o24 => ⟨rfl, ⟨rfl, ⟨rfl, ⟨rfl, trivial⟩⟩⟩⟩) (fun o24 => rfl) rfl fun o24 => ?_
        refine RD.re (Ω2 := [oSS 22 2 1 (cK .i64) o24 1 1 [(o22, ((a_0.length : Int)).toNat, ((a_0.length : Int)).toNat)] [x21], oSS 22 2 1 (cK .i64) g15.1.1 g15.1.2.1 g15.1.2.2 g15.2 v14, oBlk b9 [(pEq (.slice g7.1.1 g7.1.2.1 g7.1.2.2)), (pEq (.slice g15.1.1 g15.1.2.1 g15.1.2.2))], oSS 22 2 1 (cK .i64) g7.1.1 g7.1.2.1 g7.1.2.2 g7.2 x6, oBlk b1 [(pEq (.slice none 0 0)), (pEq (.slice none 0 0))]]) (fun h => nest_one h) ?_
        replace h := bind_some h; obtain ⟨x26, hx26, h⟩ := h
        refine RD.re (Ω2 := [oSS 22 2 1 (cK .i64) g15.1.1 g15.1.2.1 g15.1.2.2 g15.2 v14, oSS 22 2 1 (cK .i64) o24 1 1 [(o22, ((a_0.length : Int)).toNat, ((a_0.length : Int)).toNat)] [x21], oBlk b9 [(pEq (.slice g7.1.1 g7.1.2.1 g7.1.2.2)), (pEq (.slice g15.1.1 g15.1.2.1 g15.1.2.2))], oSS 22 2 1 (cK .i64) g7.1.1 g7.1.2.1 g7.1.2.2 g7.2 x6, oBlk b1 [(pEq (.slice none 0 0)), (pEq (.slice none 0 0))]]) (fun h => SatO.pick 1 h) ?_
        refine RD.step hD (es := [some (Ent.mk [(7, (pEq (.pointer (some ⟨b9, 0, none⟩))))] (pEq (.pointer (some ⟨b9, 1, none⟩))) true), some (Ent.mk [(33, (pEq (.pointer (some ⟨b9, 1, none⟩))))] (pEq (.slice g15.1.1 g15.1.2.1 g15.1.2.2)) true), some (Ent.mk [(6, (pEq (.int .i64 (a_0.length : Int))))] (pEq (.int .i64 (a_0.length : Int))) true), some (Ent.mk [(35, (pEq (.int .i64 (a_0.length : Int))))] (pEq (.slice o22 ((a_0.length : Int)).toNat ((a_0.length : Int)).toNat)) true), some (Ent.mk [(36, (pEq (.slice o22 ((a_0.length : Int)).toNat ((a_0.length : Int)).toNat)))] (pEq (.slice o24 1 1)) true), none]) (done := [4, 3]) (mask := [true, true, true, true, true, false]) (γ := (Option Addr × Nat) × List G3) (p := fun g => pEq (.slice g.1.1 x26.length g.1.2)) (Ω' := fun g => [oSS 22 2 1 (cK .i64) g.1.1 x26.length g.1.2 g.2 x26, oBlk b9 [(pEq (.slice g7.1.1 g7.1.2.1 g7.1.2.2)), (pEq (.slice g15.1.1 g15.1.2.1 g15.1.2.2))], oSS 22 2 1 (cK .i64) g7.1.1 g7.1.2.1 g7.1.2.2 g7.2 x6, oBlk b1 [(pEq (.slice none 0 0)), (pEq (.slice none 0 0))]]) (es' := fun g27 => [some (Ent.mk [(7, (pEq (.pointer (some ⟨b9, 0, none⟩))))] (pEq (.pointer (some ⟨b9, 1, none⟩))) true), some (Ent.mk [(33, (pEq (.pointer (some ⟨b9, 1, none⟩))))] (pEq (.slice g15.1.1 g15.1.2.1 g15.1.2.2)) true), some (Ent.mk [(6, (pEq (.int .i64 (a_0.length : Int))))] (pEq (.int .i64 (a_0.length : Int))) true), some (Ent.mk [(35, (pEq (.int .i64 (a_0.length : Int))))] (pEq (.slice o22 ((a_0.length : Int)).toNat ((a_0.length : Int)).toNat)) true), some (Ent.mk [(36, (pEq (.slice o22 ((a_0.length : Int)).toNat ((a_0.length : Int)).toNat)))] (pEq (.slice o24 1 1)) true), some (Ent.mk [(34, (pEq (.slice g15.1.1 g15.1.2.1 g15.1.2.2))), (37, (pEq (.slice o24 1 1)))] (pEq (.slice g27.1.1 x26.length g27.1.2)) true)]) (Γc := [(34, (pEq (.slice g15.1.1 g15.1.2.1 g15.1.2.2))), (37, (pEq (.slice o24 1 1)))]) 5 rfl rfl rfl (by kernel_rfl) ⟨.inr ⟨(OpJ.w (J_fieldAddrE rfl Try.underlying32 rfl sz27 (by decide) (Opd.tmp rfl) rfl)), ⟨rfl, trivial⟩, rfl, rfl⟩, ⟨.inr ⟨(W_load (i := 2) rfl Try.isAgg27 (Opd.tmp rfl) rfl rfl), ⟨rfl, trivial⟩, rfl, rfl⟩, ⟨.inr ⟨(OpJ.w (J_move rfl (Opd.tmp rfl))), ⟨rfl, trivial⟩, rfl, rfl⟩, ⟨.inl rfl, ⟨.inl rfl, trivial⟩⟩⟩⟩⟩ rfl rfl ⟨rfl, rfl, trivial⟩ (fun _ => M_nestAppend rfl Try.underlying27 elh22 (Opd.tmp rfl) (Opd.tmp rfl) hx26) (fun g27 => ⟨rfl, ⟨rfl, ⟨rfl, ⟨rfl, ⟨rfl, trivial⟩⟩⟩⟩⟩) (fun g27 => rfl) rfl fun g27 => ?_
        refine RD.fin (es := [Ent.mk [(7, (pEq (.pointer (some ⟨b9, 0, none⟩))))] (pEq (.pointer (some ⟨b9, 1, none⟩))) true, Ent.mk [(33, (pEq (.pointer (some ⟨b9, 1, none⟩))))] (pEq (.slice g15.1.1 g15.1.2.1 g15.1.2.2)) true, Ent.mk [(6, (pEq (.int .i64 (a_0.length : Int))))] (pEq (.int .i64 (a_0.length : Int))) true, Ent.mk [(35, (pEq (.int .i64 (a_0.length : Int))))] (pEq (.slice o22 ((a_0.length : Int)).toNat ((a_0.length : Int)).toNat)) true, Ent.mk [(36, (pEq (.slice o22 ((a_0.length : Int)).toNat ((a_0.length : Int)).toNat)))] (pEq (.slice o24 1 1)) true, Ent.mk [(34, (pEq (.slice g15.1.1 g15.1.2.1 g15.1.2.2))), (37, (pEq (.slice o24 1 1)))] (pEq (.slice g27.1.1 x26.length g27.1.2)) true]) (done := [5, 4, 3]) hD ⟨.inr ⟨(OpJ.w (J_fieldAddrE rfl Try.underlying32 rfl sz27 (by decide) (Opd.tmp rfl) rfl)), ⟨rfl, trivial⟩, rfl, rfl⟩, ⟨.inr ⟨(W_load (i := 1) rfl Try.isAgg27 (Opd.tmp rfl) rfl rfl), ⟨rfl, trivial⟩, rfl, rfl⟩, ⟨.inr ⟨(OpJ.w (J_move rfl (Opd.tmp rfl))), ⟨rfl, trivial⟩, rfl, rfl⟩, ⟨.inl rfl, ⟨.inl rfl, ⟨.inl rfl, trivial⟩⟩⟩⟩⟩⟩ ?_
        refine RegL.pure (p := (pEq (.pointer (some ⟨b9, 1, none⟩)))) rfl rfl rfl (J_fieldAddrE rfl Try.underlying32 rfl sz27 (by decide) (Opd.tmp rfl) rfl) ?_
        refine RegL.re (Ω2 := [oBlk b9 [(pEq (.slice g7.1.1 g7.1.2.1 g7.1.2.2)), (pEq (.slice g15.1.1 g15.1.2.1 g15.1.2.2))], oSS 22 2 1 (cK .i64) g27.1.1 x26.length g27.1.2 g27.2 x26, oSS 22 2 1 (cK .i64) g7.1.1 g7.1.2.1 g7.1.2.2 g7.2 x6, oBlk b1 [(pEq (.slice none 0 0)), (pEq (.slice none 0 0))]]) (fun h => SatO.pick 1 h) ?_
        refine RegL.stepN (γ := Unit) (p := fun _ => pAny) (Ω' := fun _ => [oBlk b9 [(pEq (.slice g7.1.1 g7.1.2.1 g7.1.2.2)), (pEq (.slice g27.1.1 x26.length g27.1.2))], oSS 22 2 1 (cK .i64) g27.1.1 x26.length g27.1.2 g27.2 x26, oSS 22 2 1 (cK .i64) g7.1.1 g7.1.2.1 g7.1.2.2 g7.2 x6, oBlk b1 [(pEq (.slice none 0 0)), (pEq (.slice none 0 0))]]) rfl rfl (M_store rfl sz27 (Opd.tmp rfl) (Opd.tmp rfl) OneC.slice rfl rfl) fun g28 => ?_
        refine RegL.nil ?_
        refine Ct.blk_normal ?_
        refine Ct.then_tr ?_
        refine Tr.weak (Γ' := [(0, (pSl 1 (cSl 1 (cK .i64)) a_0)), (1, (pSl 1 (cSl 1 (cK .i64)) a_1)), (4, (pEq (.pointer (some ⟨b1, 0, none⟩)))), (6, (pEq (.int .i64 (a_0.length : Int)))), (7, (pEq (.pointer (some ⟨b9, 0, none⟩)))), (8, (pEq (.int .i64 v13)))]) ⟨rfl, rfl, rfl, rfl, rfl, rfl, trivial⟩ ?_
        refine Tr.region ?_
        refine RegL.pure (p := (pEq (.int .i64 v13))) rfl rfl rfl (J_move rfl (Opd.tmp rfl)) ?_
        refine RegL.pure (p := (pEq (.int .i64 (w64 (v13 + (1 : Int)))))) rfl rfl rfl (J_bin rfl (Opd.tmp rfl) Opd.con B_add) ?_
        refine RegL.pure (p := (pEq (.int .i64 (w64 (v13 + (1 : Int)))))) rfl rfl rfl (J_assign rfl (Opd.tmp rfl)) ?_
        refine RegL.nil ?_
        refine Ct.re (Ω2 := [oBlk b1 [(pEq (.slice none 0 0)), (pEq (.slice none 0 0))], oBlk b9 [(pEq (.slice g7.1.1 g7.1.2.1 g7.1.2.2)), (pEq (.slice g27.1.1 x26.length g27.1.2))], oSS 22 2 1 (cK .i64) g27.1.1 x26.length g27.1.2 g27.2 x26, oSS 22 2 1 (cK .i64) g7.1.1 g7.1.2.1 g7.1.2.2 g7.2 x6]) (fun h => SatO.pick 3 h) ?_
        refine Ct.re (Ω2 := [oSS 22 2 1 (cK .i64) g7.1.1 g7.1.2.1 g7.1.2.2 g7.2 x6, oBlk b1 [(pEq (.slice none 0 0)), (pEq (.slice none 0 0))], oBlk b9 [(pEq (.slice g7.1.1 g7.1.2.1 g7.1.2.2)), (pEq (.slice g27.1.1 x26.length g27.1.2))], oSS 22 2 1 (cK .i64) g27.1.1 x26.length g27.1.2 g27.2 x26]) (fun h => SatO.pick 3 h) ?_
        refine Ct.re (Ω2 := [oBlk b9 [(pEq (.slice g7.1.1 g7.1.2.1 g7.1.2.2)), (pEq (.slice g27.1.1 x26.length g27.1.2))], oSS 22 2 1 (cK .i64) g7.1.1 g7.1.2.1 g7.1.2.2 g7.2 x6, oBlk b1 [(pEq (.slice none 0 0)), (pEq (.slice none 0 0))], oSS 22 2 1 (cK .i64) g27.1.1 x26.length g27.1.2 g27.2 x26]) (fun h => SatO.pick 2 h) ?_
        refine Ct.re (Ω2 := [oSS 22 2 1 (cK .i64) g27.1.1 x26.length g27.1.2 g27.2 x26, oBlk b9 [(pEq (.slice g7.1.1 g7.1.2.1 g7.1.2.2)), (pEq (.slice g27.1.1 x26.length g27.1.2))], oSS 22 2 1 (cK .i64) g7.1.1 g7.1.2.1 g7.1.2.2 g7.2 x6, oBlk b1 [(pEq (.slice none 0 0)), (pEq (.slice none 0 0))]]) (fun h => SatO.pick 3 h) ?_
        replace h := Option.some.inj h; subst h
        exact Ct.again ((g27.1.1, x26.length, g27.1.2), g27.2) rfl ⟨rfl, rfl, rfl, rfl, rfl, rfl, trivial⟩
    · replace h := bif_f hc h
      refine Tr.exit ?_
      refine Ct.then_exit ?_
      replace h := map_some h; obtain ⟨r1, h, rfl⟩ := h
      refine Ct.out_exit fun e => ?_
      subst e
      refine Ct.blk_exit ?_
      refine Ct.then_tr ?_
      refine Tr.weak (Γ' := [(1, (pSl 1 (cSl 1 (cK .i64)) a_1)), (4, (pEq (.pointer (some ⟨b1, 0, none⟩)))), (6, (pEq (.int .i64 (a_0.length : Int)))), (7, (pEq (.pointer (some ⟨b9, 0, none⟩))))]) ⟨rfl, rfl, rfl, rfl, trivial⟩ ?_
      refine Tr.seq ?_
      refine Tr.seq ?_
      refine Tr.region ?_
      refine RegL.pure (p := (pEq (.int .i64 (0 : Int)))) rfl rfl rfl (J_assign rfl Opd.con) ?_
      refine RegL.nil ?_
      refine Ct.then_tr ?_
      refine Tr.weak (Γ' := [(1, (pSl 1 (cSl 1 (cK .i64)) a_1)), (4, (pEq (.pointer (some ⟨b1, 0, none⟩)))), (6, (pEq (.int .i64 (a_0.length : Int)))), (7, (pEq (.pointer (some ⟨b9, 0, none⟩)))), (9, (pEq (.int .i64 (0 : Int))))]) ⟨rfl, rfl, rfl, rfl, rfl, trivial⟩ ?_
      refine Tr.block ?_
      refine Tr.weak (Γ' := [(1, (pSl 1 (cSl 1 (cK .i64)) a_1)), (4, (pEq (.pointer (some ⟨b1, 0, none⟩)))), (6, (pEq (.int .i64 (a_0.length : Int)))), (7, (pEq (.pointer (some ⟨b9, 0, none⟩)))), (9, (pEq (.int .i64 (0 : Int))))]) ⟨rfl, rfl, rfl, rfl, rfl, trivial⟩ ?_
      refine Tr.loop (γ := (G3 × List G3)) (σ := (Int × (List (List Int)))) (Γσ := fun s g => [(1, (pSl 1 (cSl 1 (cK .i64)) a_1)), (4, (pEq (.pointer (some ⟨b1, 0, none⟩)))), (6, (pEq (.int .i64 (a_0.length : Int)))), (7, (pEq (.pointer (some ⟨b9, 0, none⟩)))), (9, (pEq (.int .i64 s.1)))]) (Ωσ := fun s g => [oSS 22 2 1 (cK .i64) g.1.1 g.1.2.1 g.1.2.2 g.2 s.2, oBlk b9 [(pEq (.slice g7.1.1 g7.1.2.1 g7.1.2.2)), (pEq (.slice g.1.1 g.1.2.1 g.1.2.2))], oSS 22 2 1 (cK .i64) g7.1.1 g7.1.2.1 g7.1.2.2 g7.2 x6, oBlk b1 [(pEq (.slice none 0 0)), (pEq (.slice none 0 0))]]) (g := ((g15.1.1, g15.1.2.1, g15.1.2.2), g15.2)) h ?_
      clear h
      rintro ⟨v30, v31⟩ g32 t h
      replace h : m_spec_MakeProblem_B29 a_0 a_1 x6 v30 v31 = some t := h
      unfold m_spec_MakeProblem_B29 at h
      refine Tr.weakO (Γ' := [(1, (pSl 1 (cSl 1 (cK .i64)) a_1)), (4, (pEq (.pointer (some ⟨b1, 0, none⟩)))), (6, (pEq (.int .i64 (a_0.length : Int)))), (7, (pEq (.pointer (some ⟨b9, 0, none⟩)))), (9, (pEq (.int .i64 v30)))]) (Ω' := [oSS 22 2 1 (cK .i64) g32.1.1 g32.1.2.1 g32.1.2.2 g32.2 v31, oBlk b9 [(pEq (.slice g7.1.1 g7.1.2.1 g7.1.2.2)), (pEq (.slice g32.1.1 g32.1.2.1 g32.1.2.2))], oSS 22 2 1 (cK .i64) g7.1.1 g7.1.2.1 g7.1.2.2 g7.2 x6, oBlk b1 [(pEq (.slice none 0 0)), (pEq (.slice none 0 0))]]) rfl ⟨rfl, rfl, rfl, rfl, rfl, trivial⟩ ?_
      refine Tr.seq ?_
      refine Tr.seq ?_
      refine Tr.region ?_
      refine RegL.pure (p := (pEq (.int .i64 v30))) rfl rfl rfl (J_move rfl (Opd.tmp rfl)) ?_
      refine RegL.pure (p := (pSl 1 (cSl 1 (cK .i64)) a_1)) rfl rfl rfl (J_move rfl (Opd.tmp rfl)) ?_
      refine RegL.pure (p := (pEq (.int .i64 (a_1.length : Int)))) rfl rfl rfl (J_len rfl Try.underlying27 (Opd.tmp rfl) rfl) ?_
      refine RegL.pure (p := (pEq (.bool (decide (v30 < (a_1.length : Int)))))) rfl rfl rfl (J_bin rfl (Opd.tmp rfl) (Opd.tmp rfl) B_lss) ?_
      refine RegL.nil ?_
      refine Ct.then_tr ?_
      refine Tr.weak (Γ' := [(1, (pSl 1 (cSl 1 (cK .i64)) a_1)), (4, (pEq (.pointer (some ⟨b1, 0, none⟩)))), (6, (pEq (.int .i64 (a_0.length : Int)))), (7, (pEq (.pointer (some ⟨b9, 0, none⟩)))), (9, (pEq (.int .i64 v30))), (43, (pEq (.bool (decide (v30 < (a_1.length : Int))))))]) ⟨rfl, rfl, rfl, rfl, rfl, rfl, trivial⟩ ?_
      refine Tr.cond (Opd.tmp rfl) (fun hc => ?_) (fun hc => ?_)
      · replace h := bif_t hc h
        refine Tr.skip ?_
        refine Ct.then_tr ?_
        refine Tr.weak (Γ' := [(1, (pSl 1 (cSl 1 (cK .i64)) a_1)), (4, (pEq (.pointer (some ⟨b1, 0, none⟩)))), (6, (pEq (.int .i64 (a_0.length : Int)))), (7, (pEq (.pointer (some ⟨b9, 0, none⟩)))), (9, (pEq (.int .i64 v30)))]) ⟨rfl, rfl, rfl, rfl, rfl, trivial⟩ ?_
        refine Tr.seq ?_
        refine Tr.block ?_
        refine Tr.seq ?_
        refine Tr.region ?_
        refine RegL.pure (p := (pSl 1 (cSl 1 (cK .i64)) a_1)) rfl rfl rfl (J_move rfl (Opd.tmp rfl)) ?_
        refine RegL.pure (p := (pEq (.int .i64 v30))) rfl rfl rfl (J_move rfl (Opd.tmp rfl)) ?_
        replace h := bind_some h; obtain ⟨x33, hx33, h⟩ := h
        refine RegL.pure (p := (pPtr ((cSl 1 (cK .i64)) x33))) rfl rfl rfl (J_idx rfl Try.underlying27 sz22 (Opd.tmp rfl) (Opd.tmp rfl) hx33) ?_
        refine RegL.pure (p := (pSl 1 (cK .i64) x33)) rfl rfl rfl (J_load rfl Try.isAgg22 (Opd.tmp rfl)) ?_
        refine RegL.pure (p := (pSl 1 (cK .i64) x33)) rfl rfl rfl (J_assign rfl (Opd.tmp rfl)) ?_
        refine RegL.nil ?_
        refine Ct.then_tr ?_
        refine Tr.weak (Γ' := [(1, (pSl 1 (cSl 1 (cK .i64)) a_1)), (4, (pEq (.pointer (some ⟨b1, 0, none⟩)))), (6, (pEq (.int .i64 (a_0.length : Int)))), (7, (pEq (.pointer (some ⟨b9, 0, none⟩)))), (9, (pEq (.int .i64 v30))), (10, (pSl 1 (cK .i64) x33))]) ⟨rfl, rfl, rfl, rfl, rfl, rfl, trivial⟩ ?_
        refine Tr.seq ?_
        refine Tr.seq ?_
        replace h := bind_some h; obtain ⟨x34, hx34, h⟩ := h
        refine Tr.cut (γ := Unit) (Γm := fun g => [(1, (pSl 1 (cSl 1 (cK .i64)) a_1)), (4, (pEq (.pointer (some ⟨b1, 0, none⟩)))), (6, (pEq (.int .i64 (a_0.length : Int)))), (7, (pEq (.pointer (some ⟨b9, 0, none⟩)))), (9, (pEq (.int .i64 v30))), (10, (pSl 1 (cK .i64) x33)), (86, (pEq (.bool x34)))]) (Ωm := fun g => [oSS 22 2 1 (cK .i64) g32.1.1 g32.1.2.1 g32.1.2.2 g32.2 v31, oBlk b9 [(pEq (.slice g7.1.1 g7.1.2.1 g7.1.2.2)), (pEq (.slice g32.1.1 g32.1.2.1 g32.1.2.2))], oSS 22 2 1 (cK .i64) g7.1.1 g7.1.2.1 g7.1.2.2 g7.2 x6, oBlk b1 [(pEq (.slice none 0 0)), (pEq (.slice none 0 0))]]) ?_ (fun g47 => ?_)
        · clear h
          have h := hx34
          clear hx34
          rcases Bool.eq_false_or_eq_true ((x33.length : Int) != (3 : Int)) with hc35 | hc35
          · replace h := bif_t hc35 h
            refine Tr.drawD (n := 129) (m := 37) (es := [some (Ent.mk [(10, (pSl 1 (cK .i64) x33))] (pSl 1 (cK .i64) x33) true), some (Ent.mk [(50, (pSl 1 (cK .i64) x33))] (pEq (.int .i64 (x33.length : Int))) true), some (Ent.mk [(51, (pEq (.int .i64 (x33.length : Int))))] (pEq (.bool ((x33.length : Int) != (3 : Int)))) true), some (Ent.mk [(52, (pEq (.bool ((x33.length : Int) != (3 : Int)))))] (pEq (.bool ((x33.length : Int) != (3 : Int)))) true), some (Ent.mk [(10, (pSl 1 (cK .i64) x33))] (pEq undef) false), some (Ent.mk [(54, (pEq undef))] (pEq undef) false), some (Ent.mk [(55, (pEq undef))] (pEq undef) false), some (Ent.mk [(6, (pEq (.int .i64 (a_0.length : Int))))] (pEq undef) false), some (Ent.mk [(57, (pEq undef))] (pEq undef) false), some (Ent.mk [(56, (pEq undef)), (58, (pEq undef))] (pEq undef) false), some (Ent.mk [(59, (pEq undef))] (pEq undef) false), some (Ent.mk [(53, (pEq (.bool ((x33.length : Int) != (3 : Int))))), (60, (pEq undef))] (pEq (.bool true)) true), some (Ent.mk [(61, (pEq (.bool true)))] (pEq (.bool true)) true), some (Ent.mk [(10, (pSl 1 (cK .i64) x33))] (pEq undef) false), some (Ent.mk [(63, (pEq undef))] (pEq undef) false), some (Ent.mk [(64, (pEq undef))] (pEq undef) false), some (Ent.mk [(6, (pEq (.int .i64 (a_0.length : Int))))] (pEq undef) false), some (Ent.mk [(66, (pEq undef))] (pEq undef) false), some (Ent.mk [(65, (pEq undef)), (67, (pEq undef))] (pEq undef) false), some (Ent.mk [(68, (pEq undef))] (pEq undef) false), some (Ent.mk [(62, (pEq (.bool true))), (69, (pEq undef))] (pEq (.bool true)) true), some (Ent.mk [(70, (pEq (.bool true)))] (pEq (.bool true)) true), some (Ent.mk [(10, (pSl 1 (cK .i64) x33))] (pEq undef) false), some (Ent.mk [(72, (pEq undef))] (pEq undef) false), some (Ent.mk [(73, (pEq undef))] (pEq undef) false), some (Ent.mk [(10, (pSl 1 (cK .i64) x33))] (pEq undef) false), some (Ent.mk [(75, (pEq undef))] (pEq undef) false), some (Ent.mk [(76, (pEq undef))] (pEq undef) false), some (Ent.mk [(74, (pEq undef)), (77, (pEq undef))] (pEq undef) false), some (Ent.mk [(71, (pEq (.bool true))), (78, (pEq undef))] (pEq (.bool true)) true), some (Ent.mk [(79, (pEq (.bool true)))] (pEq (.bool true)) true), some (Ent.mk [(10, (pSl 1 (cK .i64) x33))] (pEq undef) false), some (Ent.mk [(81, (pEq undef))] (pEq undef) false), some (Ent.mk [(82, (pEq undef))] (pEq undef) false), some (Ent.mk [(83, (pEq undef))] (pEq undef) false), some (Ent.mk [(84, (pEq undef))] (pEq undef) false), some (Ent.mk [(80, (pEq (.bool true))), (85, (pEq undef))] (pEq (.bool true)) true)]) (rd := [[10], [50], [51], [52], [10], [54], [55], [6], [57], [56, 58], [59], [53, 60], [61], [10], [63], [64], [6], [66], [65, 67], [68], [62, 69], [70], [10], [72], [73], [10], [75], [76], [74, 77], [71, 78], [79], [10], [81], [82], [83], [84], [80, 85]]) rfl hmix (by kernel_rfl) fun hD => ?_
            refine RD.fin (es := [Ent.mk [(10, (pSl 1 (cK .i64) x33))] (pSl 1 (cK .i64) x33) true, Ent.mk [(50, (pSl 1 (cK .i64) x33))] (pEq (.int .i64 (x33.length : Int))) true, Ent.mk [(51, (pEq (.int .i64 (x33.length : Int))))] (pEq (.bool ((x33.length : Int) != (3 : Int)))) true, Ent.mk [(52, (pEq (.bool ((x33.length : Int) != (3 : Int)))))] (pEq (.bool ((x33.length : Int) != (3 : Int)))) true, Ent.mk [(10, (pSl 1 (cK .i64) x33))] (pEq undef) false, Ent.mk [(54, (pEq undef))] (pEq undef) false, Ent.mk [(55, (pEq undef))] (pEq undef) false, Ent.mk [(6, (pEq (.int .i64 (a_0.length : Int))))] (pEq undef) false, Ent.mk [(57, (pEq undef))] (pEq undef) false, Ent.mk [(56, (pEq undef)), (58, (pEq undef))] (pEq undef) false, Ent.mk [(59, (pEq undef))] (pEq undef) false, Ent.mk [(53, (pEq (.bool ((x33.length : Int) != (3 : Int))))), (60, (pEq undef))] (pEq (.bool true)) true, Ent.mk [(61, (pEq (.bool true)))] (pEq (.bool true)) true, Ent.mk [(10, (pSl 1 (cK .i64) x33))] (pEq undef) false, Ent.mk [(63, (pEq undef))] (pEq undef) false, Ent.mk [(64, (pEq undef))] (pEq undef) false, Ent.mk [(6, (pEq (.int .i64 (a_0.length : Int))))] (pEq undef) false, Ent.mk [(66, (pEq undef))] (pEq undef) false, Ent.mk [(65, (pEq undef)), (67, (pEq undef))] (pEq undef) false, Ent.mk [(68, (pEq undef))] (pEq undef) false, Ent.mk [(62, (pEq (.bool true))), (69, (pEq undef))] (pEq (.bool true)) true, Ent.mk [(70, (pEq (.bool true)))] (pEq (.bool true)) true, Ent.mk [(10, (pSl 1 (cK .i64) x33))] (pEq undef) false, Ent.mk [(72, (pEq undef))] (pEq undef) false, Ent.mk [(73, (pEq undef))] (pEq undef) false, Ent.mk [(10, (pSl 1 (cK .i64) x33))] (pEq undef) false, Ent.mk [(75, (pEq undef))] (pEq undef) false, Ent.mk [(76, (pEq undef))] (pEq undef) false, Ent.mk [(74, (pEq undef)), (77, (pEq undef))] (pEq undef) false, Ent.mk [(71, (pEq (.bool true))), (78, (pEq undef))] (pEq (.bool true)) true, Ent.mk [(79, (pEq (.bool true)))] (pEq (.bool true)) true, Ent.mk [(10, (pSl 1 (cK .i64) x33))] (pEq undef) false, Ent.mk [(81, (pEq undef))] (pEq undef) false, Ent.mk [(82, (pEq undef))] (pEq undef) false, Ent.mk [(83, (pEq undef))] (pEq undef) false, Ent.mk [(84, (pEq undef))] (pEq undef) false, Ent.mk [(80, (pEq (.bool true))), (85, (pEq undef))] (pEq (.bool true)) true]) (done := []) hD ⟨.inr ⟨(OpJ.w (J_move rfl (Opd.tmp rfl))), ⟨rfl, trivial⟩, rfl, rfl⟩, ⟨.inr ⟨(OpJ.w (J_len rfl Try.underlying22 (Opd.tmp rfl) rfl)), ⟨rfl, trivial⟩, rfl, rfl⟩, ⟨.inr ⟨(OpJ.w (J_bin rfl (Opd.tmp rfl) Opd.con B_neq)), ⟨rfl, trivial⟩, rfl, rfl⟩, ⟨.inr ⟨(OpJ.w (J_move rfl (Opd.tmp rfl))), ⟨rfl, trivial⟩, rfl, rfl⟩, ⟨.inr ⟨rfl, ⟨rfl, trivial⟩, (.inl ⟨_, rfl, by simp [hc35]⟩), rfl⟩, ⟨.inr ⟨rfl, ⟨rfl, trivial⟩, (.inl ⟨_, rfl, by simp [hc35]⟩), rfl⟩, ⟨.inr ⟨rfl, ⟨rfl, trivial⟩, (.inl ⟨_, rfl, by simp [hc35]⟩), rfl⟩, ⟨.inr ⟨rfl, ⟨rfl, trivial⟩, (.inl ⟨_, rfl, by simp [hc35]⟩), rfl⟩, ⟨.inr ⟨rfl, ⟨rfl, trivial⟩, (.inl ⟨_, rfl, by simp [hc35]⟩), rfl⟩, ⟨.inr ⟨rfl, ⟨rfl, rfl, trivial⟩, (.inl ⟨_, rfl, by simp [hc35]⟩), rfl⟩, ⟨.inr ⟨rfl, ⟨rfl, trivial⟩, (.inl ⟨_, rfl, by simp [hc35]⟩), rfl⟩, ⟨.inr ⟨(OpJ.w (J_pick rfl (Opd.tmp rfl) (fun _ => Opd.con) (fun hf => absurd (hc35.symm.trans hf) (by decide)))), ⟨rfl, rfl, trivial⟩, rfl, rfl⟩, ⟨.inr ⟨(OpJ.w (J_move rfl (Opd.tmp rfl))), ⟨rfl, trivial⟩, rfl, rfl⟩, ⟨.inr ⟨rfl, ⟨rfl, trivial⟩, (.inl ⟨_, rfl, rfl⟩), rfl⟩, ⟨.inr ⟨rfl, ⟨rfl, trivial⟩, (.inl ⟨_, rfl, rfl⟩), rfl⟩, ⟨.inr ⟨rfl, ⟨rfl, trivial⟩, (.inl ⟨_, rfl, rfl⟩), rfl⟩, ⟨.inr ⟨rfl, ⟨rfl, trivial⟩, (.inl ⟨_, rfl, rfl⟩), rfl⟩, ⟨.inr ⟨rfl, ⟨rfl, trivial⟩, (.inl ⟨_, rfl, rfl⟩), rfl⟩, ⟨.inr ⟨rfl, ⟨rfl, rfl, trivial⟩, (.inl ⟨_, rfl, rfl⟩), rfl⟩, ⟨.inr ⟨rfl, ⟨rfl, trivial⟩, (.inl ⟨_, rfl, rfl⟩), rfl⟩, ⟨.inr ⟨(OpJ.w (J_pick rfl (Opd.tmp rfl) (fun _ => Opd.con) (fun hf => absurd hf (by decide)))), ⟨rfl, rfl, trivial⟩, rfl, rfl⟩, ⟨.inr ⟨(OpJ.w (J_move rfl (Opd.tmp rfl))), ⟨rfl, trivial⟩, rfl, rfl⟩, ⟨.inr ⟨rfl, ⟨rfl, trivial⟩, (.inl ⟨_, rfl, rfl⟩), rfl⟩, ⟨.inr ⟨rfl, ⟨rfl, trivial⟩, (.inl ⟨_, rfl, rfl⟩), rfl⟩, ⟨.inr ⟨rfl, ⟨rfl, trivial⟩, (.inl ⟨_, rfl, rfl⟩), rfl⟩, ⟨.inr ⟨rfl, ⟨rfl, trivial⟩, (.inl ⟨_, rfl, rfl⟩), rfl⟩, ⟨.inr ⟨rfl, ⟨rfl, trivial⟩, (.inl ⟨_, rfl, rfl⟩), rfl⟩, ⟨.inr ⟨rfl, ⟨rfl, trivial⟩, (.inl ⟨_, rfl, rfl⟩), rfl⟩, ⟨.inr ⟨rfl, ⟨rfl, rfl, trivial⟩, (.inl ⟨_, rfl, rfl⟩), rfl⟩, ⟨.inr ⟨(OpJ.w (J_pick rfl (Opd.tmp rfl) (fun _ => Opd.con) (fun hf => absurd hf (by decide)))), ⟨rfl, rfl, trivial⟩, rfl, rfl⟩, ⟨.inr ⟨(OpJ.w (J_move rfl (Opd.tmp rfl))), ⟨rfl, trivial⟩, rfl, rfl⟩, ⟨.inr ⟨rfl, ⟨rfl, trivial⟩, (.inl ⟨_, rfl, rfl⟩), rfl⟩, ⟨.inr ⟨rfl, ⟨rfl, trivial⟩, (.inl ⟨_, rfl, rfl⟩), rfl⟩, ⟨.inr ⟨rfl, ⟨rfl, trivial⟩, (.inl ⟨_, rfl, rfl⟩), rfl⟩, ⟨.inr ⟨rfl, ⟨rfl, trivial⟩, (.inl ⟨_, rfl, rfl⟩), rfl⟩, ⟨.inr ⟨rfl, ⟨rfl, trivial⟩, (.inl ⟨_, rfl, rfl⟩), rfl⟩, ⟨.inr ⟨(OpJ.w (J_pick rfl (Opd.tmp rfl) (fun _ => Opd.con) (fun hf => absurd hf (by decide)))), ⟨rfl, rfl, trivial⟩, rfl, rfl⟩, trivial⟩⟩⟩⟩⟩⟩⟩⟩⟩⟩⟩⟩⟩⟩⟩⟩⟩⟩⟩⟩⟩⟩⟩⟩⟩⟩⟩⟩⟩⟩⟩⟩⟩⟩⟩⟩⟩ ?_
            refine RegL.nil ?_
            replace h := Option.some.inj h; subst h
            exact Ct.mid () rfl ⟨rfl, rfl, rfl, rfl, rfl, rfl, rfl, trivial⟩
          · replace h := bif_f hc35 h
            replace h := bind_some h; obtain ⟨x36, hx36, h⟩ := h
            replace h := bind_some h; obtain ⟨x37, hx37, h⟩ := h
            rcases Bool.eq_false_or_eq_true (!x37) with hc38 | hc38
            · replace h := bif_t hc38 h
              refine Tr.drawD (n := 129) (m := 37) (es := [some (Ent.mk [(10, (pSl 1 (cK .i64) x33))] (pSl 1 (cK .i64) x33) true), some (Ent.mk [(50, (pSl 1 (cK .i64) x33))] (pEq (.int .i64 (x33.length : Int))) true), some (Ent.mk [(51, (pEq (.int .i64 (x33.length : Int))))] (pEq (.bool ((x33.length : Int) != (3 : Int)))) true), some (Ent.mk [(52, (pEq (.bool ((x33.length : Int) != (3 : Int)))))] (pEq (.bool ((x33.length : Int) != (3 : Int)))) true), some (Ent.mk [(10, (pSl 1 (cK .i64) x33))] (pSl 1 (cK .i64) x33) true), some (Ent.mk [(54, (pSl 1 (cK .i64) x33))] (pPtr ((cK .i64) x36)) true), some (Ent.mk [(55, (pPtr ((cK .i64) x36)))] (pEq (.int .i64 x36)) true), some (Ent.mk [(6, (pEq (.int .i64 (a_0.length : Int))))] (pEq (.int .i64 (a_0.length : Int))) true), some (Ent.mk [(57, (pEq (.int .i64 (a_0.length : Int))))] (pEq (.int .i64 (w64 ((a_0.length : Int) - (1 : Int))))) true), some (Ent.mk [(56, (pEq (.int .i64 x36))), (58, (pEq (.int .i64 (w64 ((a_0.length : Int) - (1 : Int))))))] (pEq (.bool x37)) true), some (Ent.mk [(59, (pEq (.bool x37)))] (pEq (.bool (!x37))) true), some (Ent.mk [(53, (pEq (.bool ((x33.length : Int) != (3 : Int))))), (60, (pEq (.bool (!x37))))] (pEq (.bool (!x37))) true), some (Ent.mk [(61, (pEq (.bool (!x37))))] (pEq (.bool (!x37))) true), some (Ent.mk [(10, (pSl 1 (cK .i64) x33))] (pEq undef) false), some (Ent.mk [(63, (pEq undef))] (pEq undef) false), some (Ent.mk [(64, (pEq undef))] (pEq undef) false), some (Ent.mk [(6, (pEq (.int .i64 (a_0.length : Int))))] (pEq undef) false), some (Ent.mk [(66, (pEq undef))] (pEq undef) false), some (Ent.mk [(65, (pEq undef)), (67, (pEq undef))] (pEq undef) false), some (Ent.mk [(68, (pEq undef))] (pEq undef) false), some (Ent.mk [(62, (pEq (.bool (!x37)))), (69, (pEq undef))] (pEq (.bool true)) true), some (Ent.mk [(70, (pEq (.bool true)))] (pEq (.bool true)) true), some (Ent.mk [(10, (pSl 1 (cK .i64) x33))] (pEq undef) false), some (Ent.mk [(72, (pEq undef))] (pEq undef) false), some (Ent.mk [(73, (pEq undef))] (pEq undef) false), some (Ent.mk [(10, (pSl 1 (cK .i64) x33))] (pEq undef) false), some (Ent.mk [(75, (pEq undef))] (pEq undef) false), some (Ent.mk [(76, (pEq undef))] (pEq undef) false), some (Ent.mk [(74, (pEq undef)), (77, (pEq undef))] (pEq undef) false), some (Ent.mk [(71, (pEq (.bool true))), (78, (pEq undef))] (pEq (.bool true)) true), some (Ent.mk [(79, (pEq (.bool true)))] (pEq (.bool true)) true), some (Ent.mk [(10, (pSl 1 (cK .i64) x33))] (pEq undef) false), some (Ent.mk [(81, (pEq undef))] (pEq undef) false), some (Ent.mk [(82, (pEq undef))] (pEq undef) false), some (Ent.mk [(83, (pEq undef))] (pEq undef) false), some (Ent.mk [(84, (pEq undef))] (pEq undef) false), some (Ent.mk [(80, (pEq (.bool true))), (85, (pEq undef))] (pEq (.bool true)) true)]) (rd := [[10], [50], [51], [52], [10], [54], [55], [6], [57], [56, 58], [59], [53, 60], [61], [10], [63], [64], [6], [66], [65, 67], [68], [62, 69], [70], [10], [72], [73], [10], [75], [76], [74, 77], [71, 78], [79], [10], [81], [82], [83], [84], [80, 85]]) rfl hmix (by kernel_rfl) fun hD => ?_
              refine RD.fin (es := [Ent.mk [(10, (pSl 1 (cK .i64) x33))] (pSl 1 (cK .i64) x33) true, Ent.mk [(50, (pSl 1 (cK .i64) x33))] (pEq (.int .i64 (x33.length : Int))) true, Ent.mk [(51, (pEq (.int .i64 (x33.length : Int))))] (pEq (.bool ((x33.length : Int) != (3 : Int)))) true, Ent.mk [(52, (pEq (.bool ((x33.length : Int) != (3 : Int)))))] (pEq (.bool ((x33.length : Int) != (3 : Int)))) true, Ent.mk [(10, (pSl 1 (cK .i64) x33))] (pSl 1 (cK .i64) x33) true, Ent.mk [(54, (pSl 1 (cK .i64) x33))] (pPtr ((cK .i64) x36)) true, Ent.mk [(55, (pPtr ((cK .i64) x36)))] (pEq (.int .i64 x36)) true, Ent.mk [(6, (pEq (.int .i64 (a_0.length : Int))))] (pEq (.int .i64 (a_0.length : Int))) true, Ent.mk [(57, (pEq (.int .i64 (a_0.length : Int))))] (pEq (.int .i64 (w64 ((a_0.length : Int) - (1 : Int))))) true, Ent.mk [(56, (pEq (.int .i64 x36))), (58, (pEq (.int .i64 (w64 ((a_0.length : Int) - (1 : Int))))))] (pEq (.bool x37)) true, Ent.mk [(59, (pEq (.bool x37)))] (pEq (.bool (!x37))) true, Ent.mk [(53, (pEq (.bool ((x33.length : Int) != (3 : Int))))), (60, (pEq (.bool (!x37))))] (pEq (.bool (!x37))) true, Ent.mk [(61, (pEq (.bool (!x37))))] (pEq (.bool (!x37))) true, Ent.mk [(10, (pSl 1 (cK .i64) x33))] (pEq undef) false, Ent.mk [(63, (pEq undef))] (pEq undef) false, Ent.mk [(64, (pEq undef))] (pEq undef) false, Ent.mk [(6, (pEq (.int .i64 (a_0.length : Int))))] (pEq undef) false, Ent.mk [(66, (pEq undef))] (pEq undef) false, Ent.mk [(65, (pEq undef)), (67, (pEq undef))] (pEq undef) false, Ent.mk [(68, (pEq undef))] (pEq undef) false, Ent.mk [(62, (pEq (.bool (!x37)))), (69, (pEq undef))] (pEq (.bool true)) true, Ent.mk [(70, (pEq (.bool true)))] (pEq (.bool true)) true, Ent.mk [(10, (pSl 1 (cK .i64) x33))] (pEq undef) false, Ent.mk [(72, (pEq undef))] (pEq undef) false, Ent.mk [(73, (pEq undef))] (pEq undef) false, Ent.mk [(10, (pSl 1 (cK .i64) x33))] (pEq undef) false, Ent.mk [(75, (pEq undef))] (pEq undef) false, Ent.mk [(76, (pEq undef))] (pEq undef) false, Ent.mk [(74, (pEq undef)), (77, (pEq undef))] (pEq undef) false, Ent.mk [(71, (pEq (.bool true))), (78, (pEq undef))] (pEq (.bool true)) true, Ent.mk [(79, (pEq (.bool true)))] (pEq (.bool true)) true, Ent.mk [(10, (pSl 1 (cK .i64) x33))] (pEq undef) false, Ent.mk [(81, (pEq undef))] (pEq undef) false, Ent.mk [(82, (pEq undef))] (pEq undef) false, Ent.mk [(83, (pEq undef))] (pEq undef) false, Ent.mk [(84, (pEq undef))] (pEq undef) false, Ent.mk [(80, (pEq (.bool true))), (85, (pEq undef))] (pEq (.bool true)) true]) (done := []) hD ⟨.inr ⟨(OpJ.w (J_move rfl (Opd.tmp rfl))), ⟨rfl, trivial⟩, rfl, rfl⟩, ⟨.inr ⟨(OpJ.w (J_len rfl Try.underlying22 (Opd.tmp rfl) rfl)), ⟨rfl, trivial⟩, rfl, rfl⟩, ⟨.inr ⟨(OpJ.w (J_bin rfl (Opd.tmp rfl) Opd.con B_neq)), ⟨rfl, trivial⟩, rfl, rfl⟩, ⟨.inr ⟨(OpJ.w (J_move rfl (Opd.tmp rfl))), ⟨rfl, trivial⟩, rfl, rfl⟩, ⟨.inr ⟨(OpJ.w (J_move rfl (Opd.tmp rfl))), ⟨rfl, trivial⟩, (.inl ⟨_, rfl, by simp [hc35]⟩), rfl⟩, ⟨.inr ⟨(OpJ.w (J_idx rfl Try.underlying22 sz2 (Opd.tmp rfl) Opd.con hx36)), ⟨rfl, trivial⟩, (.inl ⟨_, rfl, by simp [hc35]⟩), rfl⟩, ⟨.inr ⟨(OpJ.w (J_load rfl Try.isAgg2 (Opd.tmp rfl))), ⟨rfl, trivial⟩, (.inl ⟨_, rfl, by simp [hc35]⟩), rfl⟩, ⟨.inr ⟨(OpJ.w (J_move rfl (Opd.tmp rfl))), ⟨rfl, trivial⟩, (.inl ⟨_, rfl, by simp [hc35]⟩), rfl⟩, ⟨.inr ⟨(OpJ.w (J_bin rfl (Opd.tmp rfl) Opd.con B_sub)), ⟨rfl, trivial⟩, (.inl ⟨_, rfl, by simp [hc35]⟩), rfl⟩, ⟨.inr ⟨(OpJ.w (J_call rfl Try.call53 (c_spec_l00In hx37) (Opds.cons (Opd.tmp rfl) (Opds.cons Opd.con (Opds.cons (Opd.tmp rfl) Opds.nil))))), ⟨rfl, rfl, trivial⟩, (.inl ⟨_, rfl, by simp [hc35]⟩), rfl⟩, ⟨.inr ⟨(OpJ.w (J_not rfl (Opd.tmp rfl))), ⟨rfl, trivial⟩, (.inl ⟨_, rfl, by simp [hc35]⟩), rfl⟩, ⟨.inr ⟨(OpJ.w (J_pick rfl (Opd.tmp rfl) (fun hf => absurd (hc35.symm.trans hf) (by decide)) (fun _ => (Opd.tmp rfl)))), ⟨rfl, rfl, trivial⟩, rfl, rfl⟩, ⟨.inr ⟨(OpJ.w (J_move rfl (Opd.tmp rfl))), ⟨rfl, trivial⟩, rfl, rfl⟩, ⟨.inr ⟨rfl, ⟨rfl, trivial⟩, (.inl ⟨_, rfl, by simp [hc38]⟩), rfl⟩, ⟨.inr ⟨rfl, ⟨rfl, trivial⟩, (.inl ⟨_, rfl, by simp [hc38]⟩), rfl⟩, ⟨.inr ⟨rfl, ⟨rfl, trivial⟩, (.inl ⟨_, rfl, by simp [hc38]⟩), rfl⟩, ⟨.inr ⟨rfl, ⟨rfl, trivial⟩, (.inl ⟨_, rfl, by simp [hc38]⟩), rfl⟩, ⟨.inr ⟨rfl, ⟨rfl, trivial⟩, (.inl ⟨_, rfl, by simp [hc38]⟩), rfl⟩, ⟨.inr ⟨rfl, ⟨rfl, rfl, trivial⟩, (.inl ⟨_, rfl, by simp [hc38]⟩), rfl⟩, ⟨.inr ⟨rfl, ⟨rfl, trivial⟩, (.inl ⟨_, rfl, by simp [hc38]⟩), rfl⟩, ⟨.inr ⟨(OpJ.w (J_pick rfl (Opd.tmp rfl) (fun _ => Opd.con) (fun hf => absurd (hc38.symm.trans hf) (by decide)))), ⟨rfl, rfl, trivial⟩, rfl, rfl⟩, ⟨.inr ⟨(OpJ.w (J_move rfl (Opd.tmp rfl))), ⟨rfl, trivial⟩, rfl, rfl⟩, ⟨.inr ⟨rfl, ⟨rfl, trivial⟩, (.inl ⟨_, rfl, rfl⟩), rfl⟩, ⟨.inr ⟨rfl, ⟨rfl, trivial⟩, (.inl ⟨_, rfl, rfl⟩), rfl⟩, ⟨.inr ⟨rfl, ⟨rfl, trivial⟩, (.inl ⟨_, rfl, rfl⟩), rfl⟩, ⟨.inr ⟨rfl, ⟨rfl, trivial⟩, (.inl ⟨_, rfl, rfl⟩), rfl⟩, ⟨.inr ⟨rfl, ⟨rfl, trivial⟩, (.inl ⟨_, rfl, rfl⟩), rfl⟩, ⟨.inr ⟨rfl, ⟨rfl, trivial⟩, (.inl ⟨_, rfl, rfl⟩), rfl⟩, ⟨.inr ⟨rfl, ⟨rfl, rfl, trivial⟩, (.inl ⟨_, rfl, rfl⟩), rfl⟩, ⟨.inr ⟨(OpJ.w (J_pick rfl (Opd.tmp rfl) (fun _ => Opd.con) (fun hf => absurd hf (by decide)))), ⟨rfl, rfl, trivial⟩, rfl, rfl⟩, ⟨.inr ⟨(OpJ.w (J_move rfl (Opd.tmp rfl))), ⟨rfl, trivial⟩, rfl, rfl⟩, ⟨.inr ⟨rfl, ⟨rfl, trivial⟩, (.inl ⟨_, rfl, rfl⟩), rfl⟩, ⟨.inr ⟨rfl, ⟨rfl, trivial⟩, (.inl ⟨_, rfl, rfl⟩), rfl⟩, ⟨.inr ⟨rfl, ⟨rfl, trivial⟩, (.inl ⟨_, rfl, rfl⟩), rfl⟩, ⟨.inr ⟨rfl, ⟨rfl, trivial⟩, (.inl ⟨_, rfl, rfl⟩), rfl⟩, ⟨.inr ⟨rfl, ⟨rfl, trivial⟩, (.inl ⟨_, rfl, rfl⟩), rfl⟩, ⟨.inr ⟨(OpJ.w (J_pick rfl (Opd.tmp rfl) (fun _ => Opd.con) (fun hf => absurd hf (by decide)))), ⟨rfl, rfl, trivial⟩, rfl, rfl⟩, trivial⟩⟩⟩⟩⟩⟩⟩⟩⟩⟩⟩⟩⟩⟩⟩⟩⟩⟩⟩⟩⟩⟩⟩⟩⟩⟩⟩⟩⟩⟩⟩⟩⟩⟩⟩⟩⟩ ?_
              refine RegL.nil ?_
              replace h := Option.some.inj h; subst h
              exact Ct.mid () rfl ⟨rfl, rfl, rfl, rfl, rfl, rfl, rfl, trivial⟩
            · replace h := bif_f hc38 h
              replace h := bind_some h; obtain ⟨x39, hx39, h⟩ := h
              replace h := bind_some h; obtain ⟨x40, hx40, h⟩ := h
              rcases Bool.eq_false_or_eq_true (!x40) with hc41 | hc41
              · replace h := bif_t hc41 h
                refine Tr.drawD (n := 129) (m := 37) (es := [some (Ent.mk [(10, (pSl 1 (cK .i64) x33))] (pSl 1 (cK .i64) x33) true), some (Ent.mk [(50, (pSl 1 (cK .i64) x33))] (pEq (.int .i64 (x33.length : Int))) true), some (Ent.mk [(51, (pEq (.int .i64 (x33.length : Int))))] (pEq (.bool ((x33.length : Int) != (3 : Int)))) true), some (Ent.mk [(52, (pEq (.bool ((x33.length : Int) != (3 : Int)))))] (pEq (.bool ((x33.length : Int) != (3 : Int)))) true), some (Ent.mk [(10, (pSl 1 (cK .i64) x33))] (pSl 1 (cK .i64) x33) true), some (Ent.mk [(54, (pSl 1 (cK .i64) x33))] (pPtr ((cK .i64) x36)) true), some (Ent.mk [(55, (pPtr ((cK .i64) x36)))] (pEq (.int .i64 x36)) true), some (Ent.mk [(6, (pEq (.int .i64 (a_0.length : Int))))] (pEq (.int .i64 (a_0.length : Int))) true), some (Ent.mk [(57, (pEq (.int .i64 (a_0.length : Int))))] (pEq (.int .i64 (w64 ((a_0.length : Int) - (1 : Int))))) true), some (Ent.mk [(56, (pEq (.int .i64 x36))), (58, (pEq (.int .i64 (w64 ((a_0.length : Int) - (1 : Int))))))] (pEq (.bool x37)) true), some (Ent.mk [(59, (pEq (.bool x37)))] (pEq (.bool (!x37))) true), some (Ent.mk [(53, (pEq (.bool ((x33.length : Int) != (3 : Int))))), (60, (pEq (.bool (!x37))))] (pEq (.bool (!x37))) true), some (Ent.mk [(61, (pEq (.bool (!x37))))] (pEq (.bool (!x37))) true), some (Ent.mk [(10, (pSl 1 (cK .i64) x33))] (pSl 1 (cK .i64) x33) true), some (Ent.mk [(63, (pSl 1 (cK .i64) x33))] (pPtr ((cK .i64) x39)) true), some (Ent.mk [(64, (pPtr ((cK .i64) x39)))] (pEq (.int .i64 x39)) true), some (Ent.mk [(6, (pEq (.int .i64 (a_0.length : Int))))] (pEq (.int .i64 (a_0.length : Int))) true), some (Ent.mk [(66, (pEq (.int .i64 (a_0.length : Int))))] (pEq (.int .i64 (w64 ((a_0.length : Int) - (1 : Int))))) true), some (Ent.mk [(65, (pEq (.int .i64 x39))), (67, (pEq (.int .i64 (w64 ((a_0.length : Int) - (1 : Int))))))] (pEq (.bool x40)) true), some (Ent.mk [(68, (pEq (.bool x40)))] (pEq (.bool (!x40))) true), some (Ent.mk [(62, (pEq (.bool (!x37)))), (69, (pEq (.bool (!x40))))] (pEq (.bool (!x40))) true), some (Ent.mk [(70, (pEq (.bool (!x40))))] (pEq (.bool (!x40))) true), some (Ent.mk [(10, (pSl 1 (cK .i64) x33))] (pEq undef) false), some (Ent.mk [(72, (pEq undef))] (pEq undef) false), some (Ent.mk [(73, (pEq undef))] (pEq undef) false), some (Ent.mk [(10, (pSl 1 (cK .i64) x33))] (pEq undef) false), some (Ent.mk [(75, (pEq undef))] (pEq undef) false), some (Ent.mk [(76, (pEq undef))] (pEq undef) false), some (Ent.mk [(74, (pEq undef)), (77, (pEq undef))] (pEq undef) false), some (Ent.mk [(71, (pEq (.bool (!x40)))), (78, (pEq undef))] (pEq (.bool true)) true), some (Ent.mk [(79, (pEq (.bool true)))] (pEq (.bool true)) true), some (Ent.mk [(10, (pSl 1 (cK .i64) x33))] (pEq undef) false), some (Ent.mk [(81, (pEq undef))] (pEq undef) false), some (Ent.mk [(82, (pEq undef))] (pEq undef) false), some (Ent.mk [(83, (pEq undef))] (pEq undef) false), some (Ent.mk [(84, (pEq undef))] (pEq undef) false), some (Ent.mk [(80, (pEq (.bool true))), (85, (pEq undef))] (pEq (.bool true)) true)]) (rd := [[10], [50], [51], [52], [10], [54], [55], [6], [57], [56, 58], [59], [53, 60], [61], [10], [63], [64], [6], [66], [65, 67], [68], [62, 69], [70], [10], [72], [73], [10], [75], [76], [74, 77], [71, 78], [79], [10], [81], [82], [83], [84], [80, 85]]) rfl hmix (by kernel_rfl) fun hD => ?_
                refine RD.fin (es := [Ent.mk [(10, (pSl 1 (cK .i64) x33))] (pSl 1 (cK .i64) x33) true, Ent.mk [(50, (pSl 1 (cK .i64) x33))] (pEq (.int .i64 (x33.length : Int))) true, Ent.mk [(51, (pEq (.int .i64 (x33.length : Int))))] (pEq (.bool ((x33.length : Int) != (3 : Int)))) true, Ent.mk [(52, (pEq (.bool ((x33.length : Int) != (3 : Int)))))] (pEq (.bool ((x33.length : Int) != (3 : Int)))) true, Ent.mk [(10, (pSl 1 (cK .i64) x33))] (pSl 1 (cK .i64) x33) true, Ent.mk [(54, (pSl 1 (cK .i64) x33))] (pPtr ((cK .i64) x36)) true, Ent.mk [(55, (pPtr ((cK .i64) x36)))] (pEq (.int .i64 x36)) true, Ent.mk [(6, (pEq (.int .i64 (a_0.length : Int))))] (pEq (.int .i64 (a_0.length : Int))) true, Ent.mk [(57, (pEq (.int .i64 (a_0.length : Int))))] (pEq (.int .i64 (w64 ((a_0.length : Int) - (1 : Int))))) true, Ent.mk [(56, (pEq (.int .i64 x36))), (58, (pEq (.int .i64 (w64 ((a_0.length : Int) - (1 : Int))))))] (pEq (.bool x37)) true, Ent.mk [(59, (pEq (.bool x37)))] (pEq (.bool (!x37))) true, Ent.mk [(53, (pEq (.bool ((x33.length : Int) != (3 : Int))))), (60, (pEq (.bool (!x37))))] (pEq (.bool (!x37))) true, Ent.mk [(61, (pEq (.bool (!x37))))] (pEq (.bool (!x37))) true, Ent.mk [(10, (pSl 1 (cK .i64) x33))] (pSl 1 (cK .i64) x33) true, Ent.mk [(63, (pSl 1 (cK .i64) x33))] (pPtr ((cK .i64) x39)) true, Ent.mk [(64, (pPtr ((cK .i64) x39)))] (pEq (.int .i64 x39)) true, Ent.mk [(6, (pEq (.int .i64 (a_0.length : Int))))] (pEq (.int .i64 (a_0.length : Int))) true, Ent.mk [(66, (pEq (.int .i64 (a_0.length : Int))))] (pEq (.int .i64 (w64 ((a_0.length : Int) - (1 : Int))))) true, Ent.mk [(65, (pEq (.int .i64 x39))), (67, (pEq (.int .i64 (w64 ((a_0.length : Int) - (1 : Int))))))] (pEq (.bool x40)) true, Ent.mk [(68, (pEq (.bool x40)))] (pEq (.bool (!x40))) true, Ent.mk [(62, (pEq (.bool (!x37)))), (69, (pEq (.bool (!x40))))] (pEq (.bool (!x40))) true, Ent.mk [(70, (pEq (.bool (!x40))))] (pEq (.bool (!x40))) true, Ent.mk [(10, (pSl 1 (cK .i64) x33))] (pEq undef) false, Ent.mk [(72, (pEq undef))] (pEq undef) false, Ent.mk [(73, (pEq undef))] (pEq undef) false, Ent.mk [(10, (pSl 1 (cK .i64) x33))] (pEq undef) false, Ent.mk [(75, (pEq undef))] (pEq undef) false, Ent.mk [(76, (pEq undef))] (pEq undef) false, Ent.mk [(74, (pEq undef)), (77, (pEq undef))] (pEq undef) false, Ent.mk [(71, (pEq (.bool (!x40)))), (78, (pEq undef))] (pEq (.bool true)) true, Ent.mk [(79, (pEq (.bool true)))] (pEq (.bool true)) true, Ent.mk [(10, (pSl 1 (cK .i64) x33))] (pEq undef) false, Ent.mk [(81, (pEq undef))] (pEq undef) false, Ent.mk [(82, (pEq undef))] (pEq undef) false, Ent.mk [(83, (pEq undef))] (pEq undef) false, Ent.mk [(84, (pEq undef))] (pEq undef) false, Ent.mk [(80, (pEq (.bool true))), (85, (pEq undef))] (pEq (.bool true)) true]) (done := []) hD ⟨.inr ⟨(OpJ.w (J_move rfl (Opd.tmp rfl))), ⟨rfl, trivial⟩, rfl, rfl⟩, ⟨.inr ⟨(OpJ.w (J_len rfl Try.underlying22 (Opd.tmp rfl) rfl)), ⟨rfl, trivial⟩, rfl, rfl⟩, ⟨.inr ⟨(OpJ.w (J_bin rfl (Opd.tmp rfl) Opd.con B_neq)), ⟨rfl, trivial⟩, rfl, rfl⟩, ⟨.inr ⟨(OpJ.w (J_move rfl (Opd.tmp rfl))), ⟨rfl, trivial⟩, rfl, rfl⟩, ⟨.inr ⟨(OpJ.w (J_move rfl (Opd.tmp rfl))), ⟨rfl, trivial⟩, (.inl ⟨_, rfl, by simp [hc35]⟩), rfl⟩, ⟨.inr ⟨(OpJ.w (J_idx rfl Try.underlying22 sz2 (Opd.tmp rfl) Opd.con hx36)), ⟨rfl, trivial⟩, (.inl ⟨_, rfl, by simp [hc35]⟩), rfl⟩, ⟨.inr ⟨(OpJ.w (J_load rfl Try.isAgg2 (Opd.tmp rfl))), ⟨rfl, trivial⟩, (.inl ⟨_, rfl, by simp [hc35]⟩), rfl⟩, ⟨.inr ⟨(OpJ.w (J_move rfl (Opd.tmp rfl))), ⟨rfl, trivial⟩, (.inl ⟨_, rfl, by simp [hc35]⟩), rfl⟩, ⟨.inr ⟨(OpJ.w (J_bin rfl (Opd.tmp rfl) Opd.con B_sub)), ⟨rfl, trivial⟩, (.inl ⟨_, rfl, by simp [hc35]⟩), rfl⟩, ⟨.inr ⟨(OpJ.w (J_call rfl Try.call53 (c_spec_l00In hx37) (Opds.cons (Opd.tmp rfl) (Opds.cons Opd.con (Opds.cons (Opd.tmp rfl) Opds.nil))))), ⟨rfl, rfl, trivial⟩, (.inl ⟨_, rfl, by simp [hc35]⟩), rfl⟩, ⟨.inr ⟨(OpJ.w (J_not rfl (Opd.tmp rfl))), ⟨rfl, trivial⟩, (.inl ⟨_, rfl, by simp [hc35]⟩), rfl⟩, ⟨.inr ⟨(OpJ.w (J_pick rfl (Opd.tmp rfl) (fun hf => absurd (hc35.symm.trans hf) (by decide)) (fun _ => (Opd.tmp rfl)))), ⟨rfl, rfl, trivial⟩, rfl, rfl⟩, ⟨.inr ⟨(OpJ.w (J_move rfl (Opd.tmp rfl))), ⟨rfl, trivial⟩, rfl, rfl⟩, ⟨.inr ⟨(OpJ.w (J_move rfl (Opd.tmp rfl))), ⟨rfl, trivial⟩, (.inl ⟨_, rfl, by simp [hc38]⟩), rfl⟩, ⟨.inr ⟨(OpJ.w (J_idx rfl Try.underlying22 sz2 (Opd.tmp rfl) Opd.con hx39)), ⟨rfl, trivial⟩, (.inl ⟨_, rfl, by simp [hc38]⟩), rfl⟩, ⟨.inr ⟨(OpJ.w (J_load rfl Try.isAgg2 (Opd.tmp rfl))), ⟨rfl, trivial⟩, (.inl ⟨_, rfl, by simp [hc38]⟩), rfl⟩, ⟨.inr ⟨(OpJ.w (J_move rfl (Opd.tmp rfl))), ⟨rfl, trivial⟩, (.inl ⟨_, rfl, by simp [hc38]⟩), rfl⟩, ⟨.inr ⟨(OpJ.w (J_bin rfl (Opd.tmp rfl) Opd.con B_sub)), ⟨rfl, trivial⟩, (.inl ⟨_, rfl, by simp [hc38]⟩), rfl⟩, ⟨.inr ⟨(OpJ.w (J_call rfl Try.call53 (c_spec_l00In hx40) (Opds.cons (Opd.tmp rfl) (Opds.cons Opd.con (Opds.cons (Opd.tmp rfl) Opds.nil))))), ⟨rfl, rfl, trivial⟩, (.inl ⟨_, rfl, by simp [hc38]⟩), rfl⟩, ⟨.inr ⟨(OpJ.w (J_not rfl (Opd.tmp rfl))), ⟨rfl, trivial⟩, (.inl ⟨_, rfl, by simp [hc38]⟩), rfl⟩, ⟨.inr ⟨(OpJ.w (J_pick rfl (Opd.tmp rfl) (fun hf => absurd (hc38.symm.trans hf) (by decide)) (fun _ => (Opd.tmp rfl)))), ⟨rfl, rfl, trivial⟩, rfl, rfl⟩, ⟨.inr ⟨(OpJ.w (J_move rfl (Opd.tmp rfl))), ⟨rfl, trivial⟩, rfl, rfl⟩, ⟨.inr ⟨rfl, ⟨rfl, trivial⟩, (.inl ⟨_, rfl, by simp [hc41]⟩), rfl⟩, ⟨.inr ⟨rfl, ⟨rfl, trivial⟩, (.inl ⟨_, rfl, by simp [hc41]⟩), rfl⟩, ⟨.inr ⟨rfl, ⟨rfl, trivial⟩, (.inl ⟨_, rfl, by simp [hc41]⟩), rfl⟩, ⟨.inr ⟨rfl, ⟨rfl, trivial⟩, (.inl ⟨_, rfl, by simp [hc41]⟩), rfl⟩, ⟨.inr ⟨rfl, ⟨rfl, trivial⟩, (.inl ⟨_, rfl, by simp [hc41]⟩), rfl⟩, ⟨.inr ⟨rfl, ⟨rfl, trivial⟩, (.inl ⟨_, rfl, by simp [hc41]⟩), rfl⟩, ⟨.inr ⟨rfl, ⟨rfl, rfl, trivial⟩, (.inl ⟨_, rfl, by simp [hc41]⟩), rfl⟩, ⟨.inr ⟨(OpJ.w (J_pick rfl (Opd.tmp rfl) (fun _ => Opd.con) (fun hf => absurd (hc41.symm.trans hf) (by decide)))), ⟨rfl, rfl, trivial⟩, rfl, rfl⟩, ⟨.inr ⟨(OpJ.w (J_move rfl (Opd.tmp rfl))), ⟨rfl, trivial⟩, rfl, rfl⟩, ⟨.inr ⟨rfl, ⟨rfl, trivial⟩, (.inl ⟨_, rfl, rfl⟩), rfl⟩, ⟨.inr ⟨rfl, ⟨rfl, trivial⟩, (.inl ⟨_, rfl, rfl⟩), rfl⟩, ⟨.inr ⟨rfl, ⟨rfl, trivial⟩, (.inl ⟨_, rfl, rfl⟩), rfl⟩, ⟨.inr ⟨rfl, ⟨rfl, trivial⟩, (.inl ⟨_, rfl, rfl⟩), rfl⟩, ⟨.inr ⟨rfl, ⟨rfl, trivial⟩, (.inl ⟨_, rfl, rfl⟩), rfl⟩, ⟨.inr ⟨(OpJ.w (J_pick rfl (Opd.tmp rfl) (fun _ => Opd.con) (fun hf => absurd hf (by decide)))), ⟨rfl, rfl, trivial⟩, rfl, rfl⟩, trivial⟩⟩⟩⟩⟩⟩⟩⟩⟩⟩⟩⟩⟩⟩⟩⟩⟩⟩⟩⟩⟩⟩⟩⟩⟩⟩⟩⟩⟩⟩⟩⟩⟩⟩⟩⟩⟩ ?_
                refine RegL.nil ?_
                replace h := Option.some.inj h; subst h
                exact Ct.mid () rfl ⟨rfl, rfl, rfl, rfl, rfl, rfl, rfl, trivial⟩
              · replace h := bif_f hc41 h
                replace h := bind_some h; obtain ⟨x42, hx42, h⟩ := h
                replace h := bind_some h; obtain ⟨x43, hx43, h⟩ := h
                rcases Bool.eq_false_or_eq_true (x42 == x43) with hc44 | hc44
                · replace h := bif_t hc44 h
                  refine Tr.drawD (n := 129) (m := 37) (es := [some (Ent.mk [(10, (pSl 1 (cK .i64) x33))] (pSl 1 (cK .i64) x33) true), some (Ent.mk [(50, (pSl 1 (cK .i64) x33))] (pEq (.int .i64 (x33.length : Int))) true), some (Ent.mk [(51, (pEq (.int .i64 (x33.length : Int))))] (pEq (.bool ((x33.length : Int) != (3 : Int)))) true), some (Ent.mk [(52, (pEq (.bool ((x33.length : Int) != (3 : Int)))))] (pEq (.bool ((x33.length : Int) != (3 : Int)))) true), some (Ent.mk [(10, (pSl 1 (cK .i64) x33))] (pSl 1 (cK .i64) x33) true), some (Ent.mk [(54, (pSl 1 (cK .i64) x33))] (pPtr ((cK .i64) x36)) true), some (Ent.mk [(55, (pPtr ((cK .i64) x36)))] (pEq (.int .i64 x36)) true), some (Ent.mk [(6, (pEq (.int .i64 (a_0.length : Int))))] (pEq (.int .i64 (a_0.length : Int))) true), some (Ent.mk [(57, (pEq (.int .i64 (a_0.length : Int))))] (pEq (.int .i64 (w64 ((a_0.length : Int) - (1 : Int))))) true), some (Ent.mk [(56, (pEq (.int .i64 x36))), (58, (pEq (.int .i64 (w64 ((a_0.length : Int) - (1 : Int))))))] (pEq (.bool x37)) true), some (Ent.mk [(59, (pEq (.bool x37)))] (pEq (.bool (!x37))) true), some (Ent.mk [(53, (pEq (.bool ((x33.length : Int) != (3 : Int))))), (60, (pEq (.bool (!x37))))] (pEq (.bool (!x37))) true), some (Ent.mk [(61, (pEq (.bool (!x37))))] (pEq (.bool (!x37))) true), some (Ent.mk [(10, (pSl 1 (cK .i64) x33))] (pSl 1 (cK .i64) x33) true), some (Ent.mk [(63, (pSl 1 (cK .i64) x33))] (pPtr ((cK .i64) x39)) true), some (Ent.mk [(64, (pPtr ((cK .i64) x39)))] (pEq (.int .i64 x39)) true), some (Ent.mk [(6, (pEq (.int .i64 (a_0.length : Int))))] (pEq (.int .i64 (a_0.length : Int))) true), some (Ent.mk [(66, (pEq (.int .i64 (a_0.length : Int))))] (pEq (.int .i64 (w64 ((a_0.length : Int) - (1 : Int))))) true), some (Ent.mk [(65, (pEq (.int .i64 x39))), (67, (pEq (.int .i64 (w64 ((a_0.length : Int) - (1 : Int))))))] (pEq (.bool x40)) true), some (Ent.mk [(68, (pEq (.bool x40)))] (pEq (.bool (!x40))) true), some (Ent.mk [(62, (pEq (.bool (!x37)))), (69, (pEq (.bool (!x40))))] (pEq (.bool (!x40))) true), some (Ent.mk [(70, (pEq (.bool (!x40))))] (pEq (.bool (!x40))) true), some (Ent.mk [(10, (pSl 1 (cK .i64) x33))] (pSl 1 (cK .i64) x33) true), some (Ent.mk [(72, (pSl 1 (cK .i64) x33))] (pPtr ((cK .i64) x42)) true), some (Ent.mk [(73, (pPtr ((cK .i64) x42)))] (pEq (.int .i64 x42)) true), some (Ent.mk [(10, (pSl 1 (cK .i64) x33))] (pSl 1 (cK .i64) x33) true), some (Ent.mk [(75, (pSl 1 (cK .i64) x33))] (pPtr ((cK .i64) x43)) true), some (Ent.mk [(76, (pPtr ((cK .i64) x43)))] (pEq (.int .i64 x43)) true), some (Ent.mk [(74, (pEq (.int .i64 x42))), (77, (pEq (.int .i64 x43)))] (pEq (.bool (x42 == x43))) true), some (Ent.mk [(71, (pEq (.bool (!x40)))), (78, (pEq (.bool (x42 == x43))))] (pEq (.bool (x42 == x43))) true), some (Ent.mk [(79, (pEq (.bool (x42 == x43))))] (pEq (.bool (x42 == x43))) true), some (Ent.mk [(10, (pSl 1 (cK .i64) x33))] (pEq undef) false), some (Ent.mk [(81, (pEq undef))] (pEq undef) false), some (Ent.mk [(82, (pEq undef))] (pEq undef) false), some (Ent.mk [(83, (pEq undef))] (pEq undef) false), some (Ent.mk [(84, (pEq undef))] (pEq undef) false), some (Ent.mk [(80, (pEq (.bool (x42 == x43)))), (85, (pEq undef))] (pEq (.bool true)) true)]) (rd := [[10], [50], [51], [52], [10], [54], [55], [6], [57], [56, 58], [59], [53, 60], [61], [10], [63], [64], [6], [66], [65, 67], [68], [62, 69], [70], [10], [72], [73], [10], [75], [76], [74, 77], [71, 78], [79], [10], [81], [82], [83], [84], [80, 85]]) rfl hmix (by kernel_rfl) fun hD => ?_
                  refine RD.fin (es := [Ent.mk [(10, (pSl 1 (cK .i64) x33))] (pSl 1 (cK .i64) x33) true, Ent.mk [(50, (pSl 1 (cK .i64) x33))] (pEq (.int .i64 (x33.length : Int))) true, Ent.mk [(51, (pEq (.int .i64 (x33.length : Int))))] (pEq (.bool ((x33.length : Int) != (3 : Int)))) true, Ent.mk [(52, (pEq (.bool ((x33.length : Int) != (3 : Int)))))] (pEq (.bool ((x33.length : Int) != (3 : Int)))) true, Ent.mk [(10, (pSl 1 (cK .i64) x33))] (pSl 1 (cK .i64) x33) true, Ent.mk [(54, (pSl 1 (cK .i64) x33))] (pPtr ((cK .i64) x36)) true, Ent.mk [(55, (pPtr ((cK .i64) x36)))] (pEq (.int .i64 x36)) true, Ent.mk [(6, (pEq (.int .i64 (a_0.length : Int))))] (pEq (.int .i64 (a_0.length : Int))) true, Ent.mk [(57, (pEq (.int .i64 (a_0.length : Int))))] (pEq (.int .i64 (w64 ((a_0.length : Int) - (1 : Int))))) true, Ent.mk [(56, (pEq (.int .i64 x36))), (58, (pEq (.int .i64 (w64 ((a_0.length : Int) - (1 : Int))))))] (pEq (.bool x37)) true, Ent.mk [(59, (pEq (.bool x37)))] (pEq (.bool (!x37))) true, Ent.mk [(53, (pEq (.bool ((x33.length : Int) != (3 : Int))))), (60, (pEq (.bool (!x37))))] (pEq (.bool (!x37))) true, Ent.mk [(61, (pEq (.bool (!x37))))] (pEq (.bool (!x37))) true, Ent.mk [(10, (pSl 1 (cK .i64) x33))] (pSl 1 (cK .i64) x33) true, Ent.mk [(63, (pSl 1 (cK .i64) x33))] (pPtr ((cK .i64) x39)) true, Ent.mk [(64, (pPtr ((cK .i64) x39)))] (pEq (.int .i64 x39)) true, Ent.mk [(6, (pEq (.int .i64 (a_0.length : Int))))] (pEq (.int .i64 (a_0.length : Int))) true, Ent.mk [(66, (pEq (.int .i64 (a_0.length : Int))))] (pEq (.int .i64 (w64 ((a_0.length : Int) - (1 : Int))))) true, Ent.mk [(65, (pEq (.int .i64 x39))), (67, (pEq (.int .i64 (w64 ((a_0.length : Int) - (1 : Int))))))] (pEq (.bool x40)) true, Ent.mk [(68, (pEq (.bool x40)))] (pEq (.bool (!x40))) true, Ent.mk [(62, (pEq (.bool (!x37)))), (69, (pEq (.bool (!x40))))] (pEq (.bool (!x40))) true, Ent.mk [(70, (pEq (.bool (!x40))))] (pEq (.bool (!x40))) true, Ent.mk [(10, (pSl 1 (cK .i64) x33))] (pSl 1 (cK .i64) x33) true, Ent.mk [(72, (pSl 1 (cK .i64) x33))] (pPtr ((cK .i64) x42)) true, Ent.mk [(73, (pPtr ((cK .i64) x42)))] (pEq (.int .i64 x42)) true, Ent.mk [(10, (pSl 1 (cK .i64) x33))] (pSl 1 (cK .i64) x33) true, Ent.mk [(75, (pSl 1 (cK .i64) x33))] (pPtr ((cK .i64) x43)) true, Ent.mk [(76, (pPtr ((cK .i64) x43)))] (pEq (.int .i64 x43)) true, Ent.mk [(74, (pEq (.int .i64 x42))), (77, (pEq (.int .i64 x43)))] (pEq (.bool (x42 == x43))) true, Ent.mk [(71, (pEq (.bool (!x40)))), (78, (pEq (.bool (x42 == x43))))] (pEq (.bool (x42 == x43))) true, Ent.mk [(79, (pEq (.bool (x42 == x43))))] (pEq (.bool (x42 == x43))) true, Ent.mk [(10, (pSl 1 (cK .i64) x33))] (pEq undef) false, Ent.mk [(81, (pEq undef))] (pEq undef) false, Ent.mk [(82, (pEq undef))] (pEq undef) false, Ent.mk [(83, (pEq undef))] (pEq undef) false, Ent.mk [(84, (pEq undef))] (pEq undef) false, Ent.mk [(80, (pEq (.bool (x42 == x43)))), (85, (pEq undef))] (pEq (.bool true)) true]) (done := []) hD ⟨.inr ⟨(OpJ.w (J_move rfl (Opd.tmp rfl))), ⟨rfl, trivial⟩, rfl, rfl⟩, ⟨.inr ⟨(OpJ.w (J_len rfl Try.underlying22 (Opd.tmp rfl) rfl)), ⟨rfl, trivial⟩, rfl, rfl⟩, ⟨.inr ⟨(OpJ.w (J_bin rfl (Opd.tmp rfl) Opd.con B_neq)), ⟨rfl, trivial⟩, rfl, rfl⟩, ⟨.inr ⟨(OpJ.w (J_move rfl (Opd.tmp rfl))), ⟨rfl, trivial⟩, rfl, rfl⟩, ⟨.inr ⟨(OpJ.w (J_move rfl (Opd.tmp rfl))), ⟨rfl, trivial⟩, (.inl ⟨_, rfl, by simp [hc35]⟩), rfl⟩, ⟨.inr ⟨(OpJ.w (J_idx rfl Try.underlying22 sz2 (Opd.tmp rfl) Opd.con hx36)), ⟨rfl, trivial⟩, (.inl ⟨_, rfl, by simp [hc35]⟩), rfl⟩, ⟨.inr ⟨(OpJ.w (J_load rfl Try.isAgg2 (Opd.tmp rfl))), ⟨rfl, trivial⟩, (.inl ⟨_, rfl, by simp [hc35]⟩), rfl⟩, ⟨.inr ⟨(OpJ.w (J_move rfl (Opd.tmp rfl))), ⟨rfl, trivial⟩, (.inl ⟨_, rfl, by simp [hc35]⟩), rfl⟩, ⟨.inr ⟨(OpJ.w (J_bin rfl (Opd.tmp rfl) Opd.con B_sub)), ⟨rfl, trivial⟩, (.inl ⟨_, rfl, by simp [hc35]⟩), rfl⟩, ⟨.inr ⟨(OpJ.w (J_call rfl Try.call53 (c_spec_l00In hx37) (Opds.cons (Opd.tmp rfl) (Opds.cons Opd.con (Opds.cons (Opd.tmp rfl) Opds.nil))))), ⟨rfl, rfl, trivial⟩, (.inl ⟨_, rfl, by simp [hc35]⟩), rfl⟩, ⟨.inr ⟨(OpJ.w (J_not rfl (Opd.tmp rfl))), ⟨rfl, trivial⟩, (.inl ⟨_, rfl, by simp [hc35]⟩), rfl⟩, ⟨.inr ⟨(OpJ.w (J_pick rfl (Opd.tmp rfl) (fun hf => absurd (hc35.symm.trans hf) (by decide)) (fun _ => (Opd.tmp rfl)))), ⟨rfl, rfl, trivial⟩, rfl, rfl⟩, ⟨.inr ⟨(OpJ.w (J_move rfl (Opd.tmp rfl))), ⟨rfl, trivial⟩, rfl, rfl⟩, ⟨.inr ⟨(OpJ.w (J_move rfl (Opd.tmp rfl))), ⟨rfl, trivial⟩, (.inl ⟨_, rfl, by simp [hc38]⟩), rfl⟩, ⟨.inr ⟨(OpJ.w (J_idx rfl Try.underlying22 sz2 (Opd.tmp rfl) Opd.con hx39)), ⟨rfl, trivial⟩, (.inl ⟨_, rfl, by simp [hc38]⟩), rfl⟩, ⟨.inr ⟨(OpJ.w (J_load rfl Try.isAgg2 (Opd.tmp rfl))), ⟨rfl, trivial⟩, (.inl ⟨_, rfl, by simp [hc38]⟩), rfl⟩, ⟨.inr ⟨(OpJ.w (J_move rfl (Opd.tmp rfl))), ⟨rfl, trivial⟩, (.inl ⟨_, rfl, by simp [hc38]⟩), rfl⟩, ⟨.inr ⟨(OpJ.w (J_bin rfl (Opd.tmp rfl) Opd.con B_sub)), ⟨rfl, trivial⟩, (.inl ⟨_, rfl, by simp [hc38]⟩), rfl⟩, ⟨.inr ⟨(OpJ.w (J_call rfl Try.call53 (c_spec_l00In hx40) (Opds.cons (Opd.tmp rfl) (Opds.cons Opd.con (Opds.cons (Opd.tmp rfl) Opds.nil))))), ⟨rfl, rfl, trivial⟩, (.inl ⟨_, rfl, by simp [hc38]⟩), rfl⟩, ⟨.inr ⟨(OpJ.w (J_not rfl (Opd.tmp rfl))), ⟨rfl, trivial⟩, (.inl ⟨_, rfl, by simp [hc38]⟩), rfl⟩, ⟨.inr ⟨(OpJ.w (J_pick rfl (Opd.tmp rfl) (fun hf => absurd (hc38.symm.trans hf) (by decide)) (fun _ => (Opd.tmp rfl)))), ⟨rfl, rfl, trivial⟩, rfl, rfl⟩, ⟨.inr ⟨(OpJ.w (J_move rfl (Opd.tmp rfl))), ⟨rfl, trivial⟩, rfl, rfl⟩, ⟨.inr ⟨(OpJ.w (J_move rfl (Opd.tmp rfl))), ⟨rfl, trivial⟩, (.inl ⟨_, rfl, by simp [hc41]⟩), rfl⟩, ⟨.inr ⟨(OpJ.w (J_idx rfl Try.underlying22 sz2 (Opd.tmp rfl) Opd.con hx42)), ⟨rfl, trivial⟩, (.inl ⟨_, rfl, by simp [hc41]⟩), rfl⟩, ⟨.inr ⟨(OpJ.w (J_load rfl Try.isAgg2 (Opd.tmp rfl))), ⟨rfl, trivial⟩, (.inl ⟨_, rfl, by simp [hc41]⟩), rfl⟩, ⟨.inr ⟨(OpJ.w (J_move rfl (Opd.tmp rfl))), ⟨rfl, trivial⟩, (.inl ⟨_, rfl, by simp [hc41]⟩), rfl⟩, ⟨.inr ⟨(OpJ.w (J_idx rfl Try.underlying22 sz2 (Opd.tmp rfl) Opd.con hx43)), ⟨rfl, trivial⟩, (.inl ⟨_, rfl, by simp [hc41]⟩), rfl⟩, ⟨.inr ⟨(OpJ.w (J_load rfl Try.isAgg2 (Opd.tmp rfl))), ⟨rfl, trivial⟩, (.inl ⟨_, rfl, by simp [hc41]⟩), rfl⟩, ⟨.inr ⟨(OpJ.w (J_bin rfl (Opd.tmp rfl) (Opd.tmp rfl) B_eql)), ⟨rfl, rfl, trivial⟩, (.inl ⟨_, rfl, by simp [hc41]⟩), rfl⟩, ⟨.inr ⟨(OpJ.w (J_pick rfl (Opd.tmp rfl) (fun hf => absurd (hc41.symm.trans hf) (by decide)) (fun _ => (Opd.tmp rfl)))), ⟨rfl, rfl, trivial⟩, rfl, rfl⟩, ⟨.inr ⟨(OpJ.w (J_move rfl (Opd.tmp rfl))), ⟨rfl, trivial⟩, rfl, rfl⟩, ⟨.inr ⟨rfl, ⟨rfl, trivial⟩, (.inl ⟨_, rfl, by simp [hc44]⟩), rfl⟩, ⟨.inr ⟨rfl, ⟨rfl, trivial⟩, (.inl ⟨_, rfl, by simp [hc44]⟩), rfl⟩, ⟨.inr ⟨rfl, ⟨rfl, trivial⟩, (.inl ⟨_, rfl, by simp [hc44]⟩), rfl⟩, ⟨.inr ⟨rfl, ⟨rfl, trivial⟩, (.inl ⟨_, rfl, by simp [hc44]⟩), rfl⟩, ⟨.inr ⟨rfl, ⟨rfl, trivial⟩, (.inl ⟨_, rfl, by simp [hc44]⟩), rfl⟩, ⟨.inr ⟨(OpJ.w (J_pick rfl (Opd.tmp rfl) (fun _ => Opd.con) (fun hf => absurd (hc44.symm.trans hf) (by decide)))), ⟨rfl, rfl, trivial⟩, rfl, rfl⟩, trivial⟩⟩⟩⟩⟩⟩⟩⟩⟩⟩⟩⟩⟩⟩⟩⟩⟩⟩⟩⟩⟩⟩⟩⟩⟩⟩⟩⟩⟩⟩⟩⟩⟩⟩⟩⟩⟩ ?_
                  refine RegL.nil ?_
                  replace h := Option.some.inj h; subst h
                  exact Ct.mid () rfl ⟨rfl, rfl, rfl, rfl, rfl, rfl, rfl, trivial⟩
                · replace h := bif_f hc44 h
                  replace h := bind_some h; obtain ⟨x45, hx45, h⟩ := h
                  replace h := bind_some h; obtain ⟨x46, hx46, h⟩ := h
                  refine Tr.drawD (n := 129) (m := 37) (es := [some (Ent.mk [(10, (pSl 1 (cK .i64) x33))] (pSl 1 (cK .i64) x33) true), some (Ent.mk [(50, (pSl 1 (cK .i64) x33))] (pEq (.int .i64 (x33.length : Int))) true), some (Ent.mk [(51, (pEq (.int .i64 (x33.length : Int))))] (pEq (.bool ((x33.length : Int) != (3 : Int)))) true), some (Ent.mk [(52, (pEq (.bool ((x33.length : Int) != (3 : Int)))))] (pEq (.bool ((x33.length : Int) != (3 : Int)))) true), some (Ent.mk [(10, (pSl 1 (cK .i64) x33))] (pSl 1 (cK .i64) x33) true), some (Ent.mk [(54, (pSl 1 (cK .i64) x33))] (pPtr ((cK .i64) x36)) true), some (Ent.mk [(55, (pPtr ((cK .i64) x36)))] (pEq (.int .i64 x36)) true), some (Ent.mk [(6, (pEq (.int .i64 (a_0.length : Int))))] (pEq (.int .i64 (a_0.length : Int))) true), some (Ent.mk [(57, (pEq (.int .i64 (a_0.length : Int))))] (pEq (.int .i64 (w64 ((a_0.length : Int) - (1 : Int))))) true), some (Ent.mk [(56, (pEq (.int .i64 x36))), (58, (pEq (.int .i64 (w64 ((a_0.length : Int) - (1 : Int))))))] (pEq (.bool x37)) true), some (Ent.mk [(59, (pEq (.bool x37)))] (pEq (.bool (!x37))) true), some (Ent.mk [(53, (pEq (.bool ((x33.length : Int) != (3 : Int))))), (60, (pEq (.bool (!x37))))] (pEq (.bool (!x37))) true), some (Ent.mk [(61, (pEq (.bool (!x37))))] (pEq (.bool (!x37))) true), some (Ent.mk [(10, (pSl 1 (cK .i64) x33))] (pSl 1 (cK .i64) x33) true), some (Ent.mk [(63, (pSl 1 (cK .i64) x33))] (pPtr ((cK .i64) x39)) true), some (Ent.mk [(64, (pPtr ((cK .i64) x39)))] (pEq (.int .i64 x39)) true), some (Ent.mk [(6, (pEq (.int .i64 (a_0.length : Int))))] (pEq (.int .i64 (a_0.length : Int))) true), some (Ent.mk [(66, (pEq (.int .i64 (a_0.length : Int))))] (pEq (.int .i64 (w64 ((a_0.length : Int) - (1 : Int))))) true), some (Ent.mk [(65, (pEq (.int .i64 x39))), (67, (pEq (.int .i64 (w64 ((a_0.length : Int) - (1 : Int))))))] (pEq (.bool x40)) true), some (Ent.mk [(68, (pEq (.bool x40)))] (pEq (.bool (!x40))) true), some (Ent.mk [(62, (pEq (.bool (!x37)))), (69, (pEq (.bool (!x40))))] (pEq (.bool (!x40))) true), some (Ent.mk [(70, (pEq (.bool (!x40))))] (pEq (.bool (!x40))) true), some (Ent.mk [(10, (pSl 1 (cK .i64) x33))] (pSl 1 (cK .i64) x33) true), some (Ent.mk [(72, (pSl 1 (cK .i64) x33))] (pPtr ((cK .i64) x42)) true), some (Ent.mk [(73, (pPtr ((cK .i64) x42)))] (pEq (.int .i64 x42)) true), some (Ent.mk [(10, (pSl 1 (cK .i64) x33))] (pSl 1 (cK .i64) x33) true), some (Ent.mk [(75, (pSl 1 (cK .i64) x33))] (pPtr ((cK .i64) x43)) true), some (Ent.mk [(76, (pPtr ((cK .i64) x43)))] (pEq (.int .i64 x43)) true), some (Ent.mk [(74, (pEq (.int .i64 x42))), (77, (pEq (.int .i64 x43)))] (pEq (.bool (x42 == x43))) true), some (Ent.mk [(71, (pEq (.bool (!x40)))), (78, (pEq (.bool (x42 == x43))))] (pEq (.bool (x42 == x43))) true), some (Ent.mk [(79, (pEq (.bool (x42 == x43))))] (pEq (.bool (x42 == x43))) true), some (Ent.mk [(10, (pSl 1 (cK .i64) x33))] (pSl 1 (cK .i64) x33) true), some (Ent.mk [(81, (pSl 1 (cK .i64) x33))] (pPtr ((cK .i64) x45)) true), some (Ent.mk [(82, (pPtr ((cK .i64) x45)))] (pEq (.int .i64 x45)) true), some (Ent.mk [(83, (pEq (.int .i64 x45)))] (pEq (.bool x46)) true), some (Ent.mk [(84, (pEq (.bool x46)))] (pEq (.bool (!x46))) true), some (Ent.mk [(80, (pEq (.bool (x42 == x43)))), (85, (pEq (.bool (!x46))))] (pEq (.bool (!x46))) true)]) (rd := [[10], [50], [51], [52], [10], [54], [55], [6], [57], [56, 58], [59], [53, 60], [61], [10], [63], [64], [6], [66], [65, 67], [68], [62, 69], [70], [10], [72], [73], [10], [75], [76], [74, 77], [71, 78], [79], [10], [81], [82], [83], [84], [80, 85]]) rfl hmix (by kernel_rfl) fun hD => ?_
                  refine RD.fin (es := [Ent.mk [(10, (pSl 1 (cK .i64) x33))] (pSl 1 (cK .i64) x33) true, Ent.mk [(50, (pSl 1 (cK .i64) x33))] (pEq (.int .i64 (x33.length : Int))) true, Ent.mk [(51, (pEq (.int .i64 (x33.length : Int))))] (pEq (.bool ((x33.length : Int) != (3 : Int)))) true, Ent.mk [(52, (pEq (.bool ((x33.length : Int) != (3 : Int)))))] (pEq (.bool ((x33.length : Int) != (3 : Int)))) true, Ent.mk [(10, (pSl 1 (cK .i64) x33))] (pSl 1 (cK .i64) x33) true, Ent.mk [(54, (pSl 1 (cK .i64) x33))] (pPtr ((cK .i64) x36)) true, Ent.mk [(55, (pPtr ((cK .i64) x36)))] (pEq (.int .i64 x36)) true, Ent.mk [(6, (pEq (.int .i64 (a_0.length : Int))))] (pEq (.int .i64 (a_0.length : Int))) true, Ent.mk [(57, (pEq (.int .i64 (a_0.length : Int))))] (pEq (.int .i64 (w64 ((a_0.length : Int) - (1 : Int))))) true, Ent.mk [(56, (pEq (.int .i64 x36))), (58, (pEq (.int .i64 (w64 ((a_0.length : Int) - (1 : Int))))))] (pEq (.bool x37)) true, Ent.mk [(59, (pEq (.bool x37)))] (pEq (.bool (!x37))) true, Ent.mk [(53, (pEq (.bool ((x33.length : Int) != (3 : Int))))), (60, (pEq (.bool (!x37))))] (pEq (.bool (!x37))) true, Ent.mk [(61, (pEq (.bool (!x37))))] (pEq (.bool (!x37))) true, Ent.mk [(10, (pSl 1 (cK .i64) x33))] (pSl 1 (cK .i64) x33) true, Ent.mk [(63, (pSl 1 (cK .i64) x33))] (pPtr ((cK .i64) x39)) true, Ent.mk [(64, (pPtr ((cK .i64) x39)))] (pEq (.int .i64 x39)) true, Ent.mk [(6, (pEq (.int .i64 (a_0.length : Int))))] (pEq (.int .i64 (a_0.length : Int))) true, Ent.mk [(66, (pEq (.int .i64 (a_0.length : Int))))] (pEq (.int .i64 (w64 ((a_0.length : Int) - (1 : Int))))) true, Ent.mk [(65, (pEq (.int .i64 x39))), (67, (pEq (.int .i64 (w64 ((a_0.length : Int) - (1 : Int))))))] (pEq (.bool x40)) true, Ent.mk [(68, (pEq (.bool x40)))] (pEq (.bool (!x40))) true, Ent.mk [(62, (pEq (.bool (!x37)))), (69, (pEq (.bool (!x40))))] (pEq (.bool (!x40))) true, Ent.mk [(70, (pEq (.bool (!x40))))] (pEq (.bool (!x40))) true, Ent.mk [(10, (pSl 1 (cK .i64) x33))] (pSl 1 (cK .i64) x33) true, Ent.mk [(72, (pSl 1 (cK .i64) x33))] (pPtr ((cK .i64) x42)) true, Ent.mk [(73, (pPtr ((cK .i64) x42)))] (pEq (.int .i64 x42)) true, Ent.mk [(10, (pSl 1 (cK .i64) x33))] (pSl 1 (cK .i64) x33) true, Ent.mk [(75, (pSl 1 (cK .i64) x33))] (pPtr ((cK .i64) x43)) true, Ent.mk [(76, (pPtr ((cK .i64) x43)))] (pEq (.int .i64 x43)) true, Ent.mk [(74, (pEq (.int .i64 x42))), (77, (pEq (.int .i64 x43)))] (pEq (.bool (x42 == x43))) true, Ent.mk [(71, (pEq (.bool (!x40)))), (78, (pEq (.bool (x42 == x43))))] (pEq (.bool (x42 == x43))) true, Ent.mk [(79, (pEq (.bool (x42 == x43))))] (pEq (.bool (x42 == x43))) true, Ent.mk [(10, (pSl 1 (cK .i64) x33))] (pSl 1 (cK .i64) x33) true, Ent.mk [(81, (pSl 1 (cK .i64) x33))] (pPtr ((cK .i64) x45)) true, Ent.mk [(82, (pPtr ((cK .i64) x45)))] (pEq (.int .i64 x45)) true, Ent.mk [(83, (pEq (.int .i64 x45)))] (pEq (.bool x46)) true, Ent.mk [(84, (pEq (.bool x46)))] (pEq (.bool (!x46))) true, Ent.mk [(80, (pEq (.bool (x42 == x43)))), (85, (pEq (.bool (!x46))))] (pEq (.bool (!x46))) true]) (done := []) hD ⟨.inr ⟨(OpJ.w (J_move rfl (Opd.tmp rfl))), ⟨rfl, trivial⟩, rfl, rfl⟩, ⟨.inr ⟨(OpJ.w (J_len rfl Try.underlying22 (Opd.tmp rfl) rfl)), ⟨rfl, trivial⟩, rfl, rfl⟩, ⟨.inr ⟨(OpJ.w (J_bin rfl (Opd.tmp rfl) Opd.con B_neq)), ⟨rfl, trivial⟩, rfl, rfl⟩, ⟨.inr ⟨(OpJ.w (J_move rfl (Opd.tmp rfl))), ⟨rfl, trivial⟩, rfl, rfl⟩, ⟨.inr ⟨(OpJ.w (J_move rfl (Opd.tmp rfl))), ⟨rfl, trivial⟩, (.inl ⟨_, rfl, by simp [hc35]⟩), rfl⟩, ⟨.inr ⟨(OpJ.w (J_idx rfl Try.underlying22 sz2 (Opd.tmp rfl) Opd.con hx36)), ⟨rfl, trivial⟩, (.inl ⟨_, rfl, by simp [hc35]⟩), rfl⟩, ⟨.inr ⟨(OpJ.w (J_load rfl Try.isAgg2 (Opd.tmp rfl))), ⟨rfl, trivial⟩, (.inl ⟨_, rfl, by simp [hc35]⟩), rfl⟩, ⟨.inr ⟨(OpJ.w (J_move rfl (Opd.tmp rfl))), ⟨rfl, trivial⟩, (.inl ⟨_, rfl, by simp [hc35]⟩), rfl⟩, ⟨.inr ⟨(OpJ.w (J_bin rfl (Opd.tmp rfl) Opd.con B_sub)), ⟨rfl, trivial⟩, (.inl ⟨_, rfl, by simp [hc35]⟩), rfl⟩, ⟨.inr ⟨(OpJ.w (J_call rfl Try.call53 (c_spec_l00In hx37) (Opds.cons (Opd.tmp rfl) (Opds.cons Opd.con (Opds.cons (Opd.tmp rfl) Opds.nil))))), ⟨rfl, rfl, trivial⟩, (.inl ⟨_, rfl, by simp [hc35]⟩), rfl⟩, ⟨.inr ⟨(OpJ.w (J_not rfl (Opd.tmp rfl))), ⟨rfl, trivial⟩, (.inl ⟨_, rfl, by simp [hc35]⟩), rfl⟩, ⟨.inr ⟨(OpJ.w (J_pick rfl (Opd.tmp rfl) (fun hf => absurd (hc35.symm.trans hf) (by decide)) (fun _ => (Opd.tmp rfl)))), ⟨rfl, rfl, trivial⟩, rfl, rfl⟩, ⟨.inr ⟨(OpJ.w (J_move rfl (Opd.tmp rfl))), ⟨rfl, trivial⟩, rfl, rfl⟩, ⟨.inr ⟨(OpJ.w (J_move rfl (Opd.tmp rfl))), ⟨rfl, trivial⟩, (.inl ⟨_, rfl, by simp [hc38]⟩), rfl⟩, ⟨.inr ⟨(OpJ.w (J_idx rfl Try.underlying22 sz2 (Opd.tmp rfl) Opd.con hx39)), ⟨rfl, trivial⟩, (.inl ⟨_, rfl, by simp [hc38]⟩), rfl⟩, ⟨.inr ⟨(OpJ.w (J_load rfl Try.isAgg2 (Opd.tmp rfl))), ⟨rfl, trivial⟩, (.inl ⟨_, rfl, by simp [hc38]⟩), rfl⟩, ⟨.inr ⟨(OpJ.w (J_move rfl (Opd.tmp rfl))), ⟨rfl, trivial⟩, (.inl ⟨_, rfl, by simp [hc38]⟩), rfl⟩, ⟨.inr ⟨(OpJ.w (J_bin rfl (Opd.tmp rfl) Opd.con B_sub)), ⟨rfl, trivial⟩, (.inl ⟨_, rfl, by simp [hc38]⟩), rfl⟩, ⟨.inr ⟨(OpJ.w (J_call rfl Try.call53 (c_spec_l00In hx40) (Opds.cons (Opd.tmp rfl) (Opds.cons Opd.con (Opds.cons (Opd.tmp rfl) Opds.nil))))), ⟨rfl, rfl, trivial⟩, (.inl ⟨_, rfl, by simp [hc38]⟩), rfl⟩, ⟨.inr ⟨(OpJ.w (J_not rfl (Opd.tmp rfl))), ⟨rfl, trivial⟩, (.inl ⟨_, rfl, by simp [hc38]⟩), rfl⟩, ⟨.inr ⟨(OpJ.w (J_pick rfl (Opd.tmp rfl) (fun hf => absurd (hc38.symm.trans hf) (by decide)) (fun _ => (Opd.tmp rfl)))), ⟨rfl, rfl, trivial⟩, rfl, rfl⟩, ⟨.inr ⟨(OpJ.w (J_move rfl (Opd.tmp rfl))), ⟨rfl, trivial⟩, rfl, rfl⟩, ⟨.inr ⟨(OpJ.w (J_move rfl (Opd.tmp rfl))), ⟨rfl, trivial⟩, (.inl ⟨_, rfl, by simp [hc41]⟩), rfl⟩, ⟨.inr ⟨(OpJ.w (J_idx rfl Try.underlying22 sz2 (Opd.tmp rfl) Opd.con hx42)), ⟨rfl, trivial⟩, (.inl ⟨_, rfl, by simp [hc41]⟩), rfl⟩, ⟨.inr ⟨(OpJ.w (J_load rfl Try.isAgg2 (Opd.tmp rfl))), ⟨rfl, trivial⟩, (.inl ⟨_, rfl, by simp [hc41]⟩), rfl⟩, ⟨.inr ⟨(OpJ.w (J_move rfl (Opd.tmp rfl))), ⟨rfl, trivial⟩, (.inl ⟨_, rfl, by simp [hc41]⟩), rfl⟩, ⟨.inr ⟨(OpJ.w (J_idx rfl Try.underlying22 sz2 (Opd.tmp rfl) Opd.con hx43)), ⟨rfl, trivial⟩, (.inl ⟨_, rfl, by simp [hc41]⟩), rfl⟩, ⟨.inr ⟨(OpJ.w (J_load rfl Try.isAgg2 (Opd.tmp rfl))), ⟨rfl, trivial⟩, (.inl ⟨_, rfl, by simp [hc41]⟩), rfl⟩, ⟨.inr ⟨(OpJ.w (J_bin rfl (Opd.tmp rfl) (Opd.tmp rfl) B_eql)), ⟨rfl, rfl, trivial⟩, (.inl ⟨_, rfl, by simp [hc41]⟩), rfl⟩, ⟨.inr ⟨(OpJ.w (J_pick rfl (Opd.tmp rfl) (fun hf => absurd (hc41.symm.trans hf) (by decide)) (fun _ => (Opd.tmp rfl)))), ⟨rfl, rfl, trivial⟩, rfl, rfl⟩, ⟨.inr ⟨(OpJ.w (J_move rfl (Opd.tmp rfl))), ⟨rfl, trivial⟩, rfl, rfl⟩, ⟨.inr ⟨(OpJ.w (J_move rfl (Opd.tmp rfl))), ⟨rfl, trivial⟩, (.inl ⟨_, rfl, by simp [hc44]⟩), rfl⟩, ⟨.inr ⟨(OpJ.w (J_idx rfl Try.underlying22 sz2 (Opd.tmp rfl) Opd.con hx45)), ⟨rfl, trivial⟩, (.inl ⟨_, rfl, by simp [hc44]⟩), rfl⟩, ⟨.inr ⟨(OpJ.w (J_load rfl Try.isAgg2 (Opd.tmp rfl))), ⟨rfl, trivial⟩, (.inl ⟨_, rfl, by simp [hc44]⟩), rfl⟩, ⟨.inr ⟨(OpJ.w (J_call rfl Try.call53 (c_spec_l00In hx46) (Opds.cons (Opd.tmp rfl) (Opds.cons Opd.con (Opds.cons Opd.con Opds.nil))))), ⟨rfl, trivial⟩, (.inl ⟨_, rfl, by simp [hc44]⟩), rfl⟩, ⟨.inr ⟨(OpJ.w (J_not rfl (Opd.tmp rfl))), ⟨rfl, trivial⟩, (.inl ⟨_, rfl, by simp [hc44]⟩), rfl⟩, ⟨.inr ⟨(OpJ.w (J_pick rfl (Opd.tmp rfl) (fun hf => absurd (hc44.symm.trans hf) (by decide)) (fun _ => (Opd.tmp rfl)))), ⟨rfl, rfl, trivial⟩, rfl, rfl⟩, trivial⟩⟩⟩⟩⟩⟩⟩⟩⟩⟩⟩⟩⟩⟩⟩⟩⟩⟩⟩⟩⟩⟩⟩⟩⟩⟩⟩⟩⟩⟩⟩⟩⟩⟩⟩⟩⟩ ?_
                  refine RegL.nil ?_
                  replace h := Option.some.inj h; subst h
                  exact Ct.mid () rfl ⟨rfl, rfl, rfl, rfl, rfl, rfl, rfl, trivial⟩
        · clear hx34
          refine Ct.then_tr ?_
          refine Tr.weak (Γ' := [(1, (pSl 1 (cSl 1 (cK .i64)) a_1)), (4, (pEq (.pointer (some ⟨b1, 0, none⟩)))), (6, (pEq (.int .i64 (a_0.length : Int)))), (7, (pEq (.pointer (some ⟨b9, 0, none⟩)))), (9, (pEq (.int .i64 v30))), (10, (pSl 1 (cK .i64) x33)), (86, (pEq (.bool x34)))]) ⟨rfl, rfl, rfl, rfl, rfl, rfl, rfl, trivial⟩ ?_
          refine Tr.cond (Opd.tmp rfl) (fun hc => ?_) (fun hc => ?_)
          · replace h := bif_t hc h
            refine Tr.seq ?_
            refine Tr.region ?_
            refine RegL.pure (p := (pAgg [(pEq (.slice none 0 0)), (pEq (.slice none 0 0))])) rfl rfl rfl (J_build (qss := []) rfl bl32 bz32o Parts.nil rfl) ?_
            refine RegL.re (Ω2 := [oBlk b1 [(pEq (.slice none 0 0)), (pEq (.slice none 0 0))], oSS 22 2 1 (cK .i64) g32.1.1 g32.1.2.1 g32.1.2.2 g32.2 v31, oBlk b9 [(pEq (.slice g7.1.1 g7.1.2.1 g7.1.2.2)), (pEq (.slice g32.1.1 g32.1.2.1 g32.1.2.2))], oSS 22 2 1 (cK .i64) g7.1.1 g7.1.2.1 g7.1.2.2 g7.2 x6]) (fun h => SatO.pick 3 h) ?_
            refine RegL.stepN (γ := Unit) (p := fun _ => pAny) (Ω' := fun _ => [oBlk b1 [(pEq (.slice none 0 0)), (pEq (.slice none 0 0))], oSS 22 2 1 (cK .i64) g32.1.1 g32.1.2.1 g32.1.2.2 g32.2 v31, oBlk b9 [(pEq (.slice g7.1.1 g7.1.2.1 g7.1.2.2)), (pEq (.slice g32.1.1 g32.1.2.1 g32.1.2.2))], oSS 22 2 1 (cK .i64) g7.1.1 g7.1.2.1 g7.1.2.2 g7.2 x6]) rfl rfl (M_storeA rfl sz32 (Opd.tmp rfl) (Opd.tmp rfl) (fun _ _ _ h => ones_of ((OneCs.cons OneC.slice (OneCs.cons OneC.slice OneCs.nil))) h) rfl rfl) fun g48 => ?_
            refine RegL.pure (p := (pEq (.int .i64 (2 : Int)))) rfl rfl rfl (J_assign rfl Opd.con) ?_
            refine RegL.nil ?_
            refine Ct.then_tr ?_
            refine Tr.weak (Γ' := [(4, (pEq (.pointer (some ⟨b1, 0, none⟩)))), (5, (pEq (.int .i64 (2 : Int))))]) ⟨rfl, rfl, trivial⟩ ?_
            refine Tr.ret ?_
            refine Ct.then_ret ?_
            refine Ct.blk_ret ?_
            refine Ct.then_ret ?_
            replace h := map_some h; obtain ⟨r1, h, rfl⟩ := h
            refine Ct.out_ret fun e => ?_
            subst e
            refine Ct.blk_ret ?_
            refine Ct.then_ret ?_
            refine Ct.re (Ω2 := [oSS 22 2 1 (cK .i64) none 0 0 [] ([] : (List (List Int))), oBlk b1 [(pEq (.slice none 0 0)), (pEq (.slice none 0 0))], oSS 22 2 1 (cK .i64) g32.1.1 g32.1.2.1 g32.1.2.2 g32.2 v31, oBlk b9 [(pEq (.slice g7.1.1 g7.1.2.1 g7.1.2.2)), (pEq (.slice g32.1.1 g32.1.2.1 g32.1.2.2))], oSS 22 2 1 (cK .i64) g7.1.1 g7.1.2.1 g7.1.2.2 g7.2 x6]) (fun h => nest_nil h) ?_
            refine Ct.re (Ω2 := [oSS 22 2 1 (cK .i64) none 0 0 [] ([] : (List (List Int))), oSS 22 2 1 (cK .i64) none 0 0 [] ([] : (List (List Int))), oBlk b1 [(pEq (.slice none 0 0)), (pEq (.slice none 0 0))], oSS 22 2 1 (cK .i64) g32.1.1 g32.1.2.1 g32.1.2.2 g32.2 v31, oBlk b9 [(pEq (.slice g7.1.1 g7.1.2.1 g7.1.2.2)), (pEq (.slice g32.1.1 g32.1.2.1 g32.1.2.2))], oSS 22 2 1 (cK .i64) g7.1.1 g7.1.2.1 g7.1.2.2 g7.2 x6]) (fun h => nest_nil h) ?_
            refine Ct.re (Ω2 := [oSS 22 2 1 (cK .i64) none 0 0 [] ([] : (List (List Int))), oSS 22 2 1 (cK .i64) none 0 0 [] ([] : (List (List Int))), oBlk b1 [(pEq (.slice none 0 0)), (pEq (.slice none 0 0))], oSS 22 2 1 (cK .i64) g32.1.1 g32.1.2.1 g32.1.2.2 g32.2 v31, oBlk b9 [(pEq (.slice g7.1.1 g7.1.2.1 g7.1.2.2)), (pEq (.slice g32.1.1 g32.1.2.1 g32.1.2.2))], oSS 22 2 1 (cK .i64) g7.1.1 g7.1.2.1 g7.1.2.2 g7.2 x6]) (fun h => SatO.pick 1 h) ?_
            refine Ct.re (Ω2 := [oSS 22 2 1 (cK .i64) g7.1.1 g7.1.2.1 g7.1.2.2 g7.2 x6, oSS 22 2 1 (cK .i64) none 0 0 [] ([] : (List (List Int))), oSS 22 2 1 (cK .i64) none 0 0 [] ([] : (List (List Int))), oBlk b1 [(pEq (.slice none 0 0)), (pEq (.slice none 0 0))], oSS 22 2 1 (cK .i64) g32.1.1 g32.1.2.1 g32.1.2.2 g32.2 v31, oBlk b9 [(pEq (.slice g7.1.1 g7.1.2.1 g7.1.2.2)), (pEq (.slice g32.1.1 g32.1.2.1 g32.1.2.2))]]) (fun h => SatO.pick 5 h) ?_
            refine Ct.re (Ω2 := [oBlk b9 [(pEq (.slice g7.1.1 g7.1.2.1 g7.1.2.2)), (pEq (.slice g32.1.1 g32.1.2.1 g32.1.2.2))], oSS 22 2 1 (cK .i64) g7.1.1 g7.1.2.1 g7.1.2.2 g7.2 x6, oSS 22 2 1 (cK .i64) none 0 0 [] ([] : (List (List Int))), oSS 22 2 1 (cK .i64) none 0 0 [] ([] : (List (List Int))), oBlk b1 [(pEq (.slice none 0 0)), (pEq (.slice none 0 0))], oSS 22 2 1 (cK .i64) g32.1.1 g32.1.2.1 g32.1.2.2 g32.2 v31]) (fun h => SatO.pick 5 h) ?_
            refine Ct.re (Ω2 := [oSS 22 2 1 (cK .i64) g32.1.1 g32.1.2.1 g32.1.2.2 g32.2 v31, oBlk b9 [(pEq (.slice g7.1.1 g7.1.2.1 g7.1.2.2)), (pEq (.slice g32.1.1 g32.1.2.1 g32.1.2.2))], oSS 22 2 1 (cK .i64) g7.1.1 g7.1.2.1 g7.1.2.2 g7.2 x6, oSS 22 2 1 (cK .i64) none 0 0 [] ([] : (List (List Int))), oSS 22 2 1 (cK .i64) none 0 0 [] ([] : (List (List Int))), oBlk b1 [(pEq (.slice none 0 0)), (pEq (.slice none 0 0))]]) (fun h => SatO.pick 5 h) ?_
            refine Ct.re (Ω2 := [oBlk b1 [(pEq (.slice none 0 0)), (pEq (.slice none 0 0))], oSS 22 2 1 (cK .i64) g32.1.1 g32.1.2.1 g32.1.2.2 g32.2 v31, oBlk b9 [(pEq (.slice g7.1.1 g7.1.2.1 g7.1.2.2)), (pEq (.slice g32.1.1 g32.1.2.1 g32.1.2.2))], oSS 22 2 1 (cK .i64) g7.1.1 g7.1.2.1 g7.1.2.2 g7.2 x6, oSS 22 2 1 (cK .i64) none 0 0 [] ([] : (List (List Int))), oSS 22 2 1 (cK .i64) none 0 0 [] ([] : (List (List Int)))]) (fun h => SatO.pick 5 h) ?_
            replace h := Option.some.inj h; subst h
            exact Ct.retH2 (Ωx := [oBlk b1 [(pEq (.slice none 0 0)), (pEq (.slice none 0 0))], oSS 22 2 1 (cK .i64) g32.1.1 g32.1.2.1 g32.1.2.2 g32.2 v31, oBlk b9 [(pEq (.slice g7.1.1 g7.1.2.1 g7.1.2.2)), (pEq (.slice g32.1.1 g32.1.2.1 g32.1.2.2))], oSS 22 2 1 (cK .i64) g7.1.1 g7.1.2.1 g7.1.2.2 g7.2 x6]) (((none, 0, 0), []), ((none, 0, 0), [])) rfl (RvOk.cellA (i := 0) Try.isAgg32 sz32 rfl rfl rfl) (RvOk.tmp rfl) rfl rfl
          · replace h := bif_f hc h
            refine Tr.skip ?_
            refine Ct.then_tr ?_
            refine Tr.weak (Γ' := [(1, (pSl 1 (cSl 1 (cK .i64)) a_1)), (4, (pEq (.pointer (some ⟨b1, 0, none⟩)))), (6, (pEq (.int .i64 (a_0.length : Int)))), (7, (pEq (.pointer (some ⟨b9, 0, none⟩)))), (9, (pEq (.int .i64 v30))), (10, (pSl 1 (cK .i64) x33))]) ⟨rfl, rfl, rfl, rfl, rfl, rfl, trivial⟩ ?_
            refine Tr.seq ?_
            replace h := bind_some h; obtain ⟨x51, hx51, h⟩ := h
            replace h := bind_some h; obtain ⟨x52, hx52, h⟩ := h
            replace h := bind_some h; obtain ⟨x53, hx53, h⟩ := h
            replace h := bind_some h; obtain ⟨x54, hx54, h⟩ := h
            replace h := bind_some h; obtain ⟨x55, hx55, h⟩ := h
            replace h := bind_some h; obtain ⟨x56, hx56, h⟩ := h
            refine Tr.drawD (n := 129) (m := 16) (es := [some (Ent.mk [(10, (pSl 1 (cK .i64) x33))] (pSl 1 (cK .i64) x33) true), some (Ent.mk [(88, (pSl 1 (cK .i64) x33))] (pPtr ((cK .i64) x51)) true), some (Ent.mk [(89, (pPtr ((cK .i64) x51)))] (pEq (.int .i64 x51)) true), some (Ent.mk [(7, (pEq (.pointer (some ⟨b9, 0, none⟩))))] (pEq (.pointer (some ⟨b9, 1, none⟩))) true), some (Ent.mk [(91, (pEq (.pointer (some ⟨b9, 1, none⟩))))] (pEq (.slice g32.1.1 g32.1.2.1 g32.1.2.2)) true), some (Ent.mk [(10, (pSl 1 (cK .i64) x33))] (pSl 1 (cK .i64) x33) true), some (Ent.mk [(93, (pSl 1 (cK .i64) x33))] (pPtr ((cK .i64) x52)) true), some (Ent.mk [(94, (pPtr ((cK .i64) x52)))] (pEq (.int .i64 x52)) true), some (Ent.mk [(92, (pEq (.slice g32.1.1 g32.1.2.1 g32.1.2.2))), (95, (pEq (.int .i64 x52)))] (pEq (.pointer (some ⟨blk g32.1.1, (x52).toNat * 1, none⟩))) true), some (Ent.mk [(96, (pEq (.pointer (some ⟨blk g32.1.1, (x52).toNat * 1, none⟩))))] (pEq (hdrV (gd g32.2 x52))) true), some (Ent.mk [(10, (pSl 1 (cK .i64) x33))] (pSl 1 (cK .i64) x33) true), some (Ent.mk [(98, (pSl 1 (cK .i64) x33))] (pPtr ((cK .i64) x54)) true), some (Ent.mk [(99, (pPtr ((cK .i64) x54)))] (pEq (.int .i64 x54)) true), some (Ent.mk [(97, (pEq (hdrV (gd g32.2 x52)))), (100, (pEq (.int .i64 x54)))] (pEq (.pointer (some ⟨blk (gd g32.2 x52).1, (x54).toNat * 1, none⟩))) true), some (Ent.mk [(101, (pEq (.pointer (some ⟨blk (gd g32.2 x52).1, (x54).toNat * 1, none⟩))))] (pEq (.int .i64 x55)) true), some (Ent.mk [(90, (pEq (.int .i64 x51))), (102, (pEq (.int .i64 x55)))] (pEq (.int .i64 x56)) true)]) (rd := [[10], [88], [89], [7], [91], [10], [93], [94], [92, 95], [96], [10], [98], [99], [97, 100], [101], [90, 102]]) rfl hmix (by kernel_rfl) fun hD => ?_
            refine RD.fin (es := [Ent.mk [(10, (pSl 1 (cK .i64) x33))] (pSl 1 (cK .i64) x33) true, Ent.mk [(88, (pSl 1 (cK .i64) x33))] (pPtr ((cK .i64) x51)) true, Ent.mk [(89, (pPtr ((cK .i64) x51)))] (pEq (.int .i64 x51)) true, Ent.mk [(7, (pEq (.pointer (some ⟨b9, 0, none⟩))))] (pEq (.pointer (some ⟨b9, 1, none⟩))) true, Ent.mk [(91, (pEq (.pointer (some ⟨b9, 1, none⟩))))] (pEq (.slice g32.1.1 g32.1.2.1 g32.1.2.2)) true, Ent.mk [(10, (pSl 1 (cK .i64) x33))] (pSl 1 (cK .i64) x33) true, Ent.mk [(93, (pSl 1 (cK .i64) x33))] (pPtr ((cK .i64) x52)) true, Ent.mk [(94, (pPtr ((cK .i64) x52)))] (pEq (.int .i64 x52)) true, Ent.mk [(92, (pEq (.slice g32.1.1 g32.1.2.1 g32.1.2.2))), (95, (pEq (.int .i64 x52)))] (pEq (.pointer (some ⟨blk g32.1.1, (x52).toNat * 1, none⟩))) true, Ent.mk [(96, (pEq (.pointer (some ⟨blk g32.1.1, (x52).toNat * 1, none⟩))))] (pEq (hdrV (gd g32.2 x52))) true, Ent.mk [(10, (pSl 1 (cK .i64) x33))] (pSl 1 (cK .i64) x33) true, Ent.mk [(98, (pSl 1 (cK .i64) x33))] (pPtr ((cK .i64) x54)) true, Ent.mk [(99, (pPtr ((cK .i64) x54)))] (pEq (.int .i64 x54)) true, Ent.mk [(97, (pEq (hdrV (gd g32.2 x52)))), (100, (pEq (.int .i64 x54)))] (pEq (.pointer (some ⟨blk (gd g32.2 x52).1, (x54).toNat * 1, none⟩))) true, Ent.mk [(101, (pEq (.pointer (some ⟨blk (gd g32.2 x52).1, (x54).toNat * 1, none⟩))))] (pEq (.int .i64 x55)) true, Ent.mk [(90, (pEq (.int .i64 x51))), (102, (pEq (.int .i64 x55)))] (pEq (.int .i64 x56)) true]) (done := []) hD ⟨.inr ⟨(OpJ.w (J_move rfl (Opd.tmp rfl))), ⟨rfl, trivial⟩, rfl, rfl⟩, ⟨.inr ⟨(OpJ.w (J_idx rfl Try.underlying22 sz2 (Opd.tmp rfl) Opd.con hx51)), ⟨rfl, trivial⟩, rfl, rfl⟩, ⟨.inr ⟨(OpJ.w (J_load rfl Try.isAgg2 (Opd.tmp rfl))), ⟨rfl, trivial⟩, rfl, rfl⟩, ⟨.inr ⟨(OpJ.w (J_fieldAddrE rfl Try.underlying32 rfl sz27 (by decide) (Opd.tmp rfl) rfl)), ⟨rfl, trivial⟩, rfl, rfl⟩, ⟨.inr ⟨(W_load (i := 1) rfl Try.isAgg27 (Opd.tmp rfl) rfl rfl), ⟨rfl, trivial⟩, rfl, rfl⟩, ⟨.inr ⟨(OpJ.w (J_move rfl (Opd.tmp rfl))), ⟨rfl, trivial⟩, rfl, rfl⟩, ⟨.inr ⟨(OpJ.w (J_idx rfl Try.underlying22 sz2 (Opd.tmp rfl) Opd.con hx52)), ⟨rfl, trivial⟩, rfl, rfl⟩, ⟨.inr ⟨(OpJ.w (J_load rfl Try.isAgg2 (Opd.tmp rfl))), ⟨rfl, trivial⟩, rfl, rfl⟩, ⟨.inr ⟨(W_nestIdx (j := 0) rfl Try.underlying27 sz22 (Opd.tmp rfl) (Opd.tmp rfl) rfl (idx_lt hx53)), ⟨rfl, rfl, trivial⟩, rfl, rfl⟩, ⟨.inr ⟨(W_nestLoad (j := 0) rfl Try.isAgg22 (Opd.tmp rfl) rfl hx53), ⟨rfl, trivial⟩, rfl, rfl⟩, ⟨.inr ⟨(OpJ.w (J_move rfl (Opd.tmp rfl))), ⟨rfl, trivial⟩, rfl, rfl⟩, ⟨.inr ⟨(OpJ.w (J_idx rfl Try.underlying22 sz2 (Opd.tmp rfl) Opd.con hx54)), ⟨rfl, trivial⟩, rfl, rfl⟩, ⟨.inr ⟨(OpJ.w (J_load rfl Try.isAgg2 (Opd.tmp rfl))), ⟨rfl, trivial⟩, rfl, rfl⟩, ⟨.inr ⟨(W_bagIdx (j := 0) rfl Try.underlying22 sz2 (Opd.tmp rfl) (Opd.tmp rfl) rfl hx53 (idx_lt hx55)), ⟨rfl, rfl, trivial⟩, rfl, rfl⟩, ⟨.inr ⟨(W_bagLoad (f := (cK .i64)) (j := 0) rfl Try.isAgg2 (fun _ => rfl) (Opd.tmp rfl) rfl hx53 hx55 rfl), ⟨rfl, trivial⟩, rfl, rfl⟩, ⟨.inr ⟨(OpJ.w (J_call rfl Try.call55 (c_spec_l00Max hx56) (Opds.cons (Opd.tmp rfl) (Opds.cons (Opd.tmp rfl) Opds.nil)))), ⟨rfl, rfl, trivial⟩, rfl, rfl⟩, trivial⟩⟩⟩⟩⟩⟩⟩⟩⟩⟩⟩⟩⟩⟩⟩⟩ ?_
            refine RegL.pure (p := (pEq (.int .i64 x56))) rfl rfl rfl (J_assign rfl (Opd.tmp rfl)) ?_
            refine RegL.nil ?_
            refine Ct.then_tr ?_
            refine Tr.weak (Γ' := [(1, (pSl 1 (cSl 1 (cK .i64)) a_1)), (4, (pEq (.pointer (some ⟨b1, 0, none⟩)))), (6, (pEq (.int .i64 (a_0.length : Int)))), (7, (pEq (.pointer (some ⟨b9, 0, none⟩)))), (9, (pEq (.int .i64 v30))), (10, (pSl 1 (cK .i64) x33)), (11, (pEq (.int .i64 x56)))]) ⟨rfl, rfl, rfl, rfl, rfl, rfl, rfl, trivial⟩ ?_
            refine Tr.seq ?_
            replace h := bind_some h; obtain ⟨x57, hx57, h⟩ := h
            replace h := bind_some h; obtain ⟨x58, hx58, h⟩ := h
            replace h := bind_some h; obtain ⟨x59, hx59, h⟩ := h
            refine Tr.drawD (n := 129) (m := 11) (es := [some (Ent.mk [(7, (pEq (.pointer (some ⟨b9, 0, none⟩))))] (pEq (.pointer (some ⟨b9, 1, none⟩))) true), some (Ent.mk [(104, (pEq (.pointer (some ⟨b9, 1, none⟩))))] (pEq (.slice g32.1.1 g32.1.2.1 g32.1.2.2)) true), some (Ent.mk [(10, (pSl 1 (cK .i64) x33))] (pSl 1 (cK .i64) x33) true), some (Ent.mk [(106, (pSl 1 (cK .i64) x33))] (pPtr ((cK .i64) x57)) true), some (Ent.mk [(107, (pPtr ((cK .i64) x57)))] (pEq (.int .i64 x57)) true), some (Ent.mk [(105, (pEq (.slice g32.1.1 g32.1.2.1 g32.1.2.2))), (108, (pEq (.int .i64 x57)))] (pEq (.pointer (some ⟨blk g32.1.1, (x57).toNat * 1, none⟩))) true), some (Ent.mk [(109, (pEq (.pointer (some ⟨blk g32.1.1, (x57).toNat * 1, none⟩))))] (pEq (hdrV (gd g32.2 x57))) true), some (Ent.mk [(10, (pSl 1 (cK .i64) x33))] (pSl 1 (cK .i64) x33) true), some (Ent.mk [(111, (pSl 1 (cK .i64) x33))] (pPtr ((cK .i64) x59)) true), some (Ent.mk [(112, (pPtr ((cK .i64) x59)))] (pEq (.int .i64 x59)) true), some (Ent.mk [(11, (pEq (.int .i64 x56)))] (pEq (.int .i64 x56)) true)]) (rd := [[7], [104], [10], [106], [107], [105, 108], [109], [10], [111], [112], [11]]) rfl hmix (by kernel_rfl) fun hD => ?_
            refine RD.fin (es := [Ent.mk [(7, (pEq (.pointer (some ⟨b9, 0, none⟩))))] (pEq (.pointer (some ⟨b9, 1, none⟩))) true, Ent.mk [(104, (pEq (.pointer (some ⟨b9, 1, none⟩))))] (pEq (.slice g32.1.1 g32.1.2.1 g32.1.2.2)) true, Ent.mk [(10, (pSl 1 (cK .i64) x33))] (pSl 1 (cK .i64) x33) true, Ent.mk [(106, (pSl 1 (cK .i64) x33))] (pPtr ((cK .i64) x57)) true, Ent.mk [(107, (pPtr ((cK .i64) x57)))] (pEq (.int .i64 x57)) true, Ent.mk [(105, (pEq (.slice g32.1.1 g32.1.2.1 g32.1.2.2))), (108, (pEq (.int .i64 x57)))] (pEq (.pointer (some ⟨blk g32.1.1, (x57).toNat * 1, none⟩))) true, Ent.mk [(109, (pEq (.pointer (some ⟨blk g32.1.1, (x57).toNat * 1, none⟩))))] (pEq (hdrV (gd g32.2 x57))) true, Ent.mk [(10, (pSl 1 (cK .i64) x33))] (pSl 1 (cK .i64) x33) true, Ent.mk [(111, (pSl 1 (cK .i64) x33))] (pPtr ((cK .i64) x59)) true, Ent.mk [(112, (pPtr ((cK .i64) x59)))] (pEq (.int .i64 x59)) true, Ent.mk [(11, (pEq (.int .i64 x56)))] (pEq (.int .i64 x56)) true]) (done := []) hD ⟨.inr ⟨(OpJ.w (J_fieldAddrE rfl Try.underlying32 rfl sz27 (by decide) (Opd.tmp rfl) rfl)), ⟨rfl, trivial⟩, rfl, rfl⟩, ⟨.inr ⟨(W_load (i := 1) rfl Try.isAgg27 (Opd.tmp rfl) rfl rfl), ⟨rfl, trivial⟩, rfl, rfl⟩, ⟨.inr ⟨(OpJ.w (J_move rfl (Opd.tmp rfl))), ⟨rfl, trivial⟩, rfl, rfl⟩, ⟨.inr ⟨(OpJ.w (J_idx rfl Try.underlying22 sz2 (Opd.tmp rfl) Opd.con hx57)), ⟨rfl, trivial⟩, rfl, rfl⟩, ⟨.inr ⟨(OpJ.w (J_load rfl Try.isAgg2 (Opd.tmp rfl))), ⟨rfl, trivial⟩, rfl, rfl⟩, ⟨.inr ⟨(W_nestIdx (j := 0) rfl Try.underlying27 sz22 (Opd.tmp rfl) (Opd.tmp rfl) rfl (idx_lt hx58)), ⟨rfl, rfl, trivial⟩, rfl, rfl⟩, ⟨.inr ⟨(W_nestLoad (j := 0) rfl Try.isAgg22 (Opd.tmp rfl) rfl hx58), ⟨rfl, trivial⟩, rfl, rfl⟩, ⟨.inr ⟨(OpJ.w (J_move rfl (Opd.tmp rfl))), ⟨rfl, trivial⟩, rfl, rfl⟩, ⟨.inr ⟨(OpJ.w (J_idx rfl Try.underlying22 sz2 (Opd.tmp rfl) Opd.con hx59)), ⟨rfl, trivial⟩, rfl, rfl⟩, ⟨.inr ⟨(OpJ.w (J_load rfl Try.isAgg2 (Opd.tmp rfl))), ⟨rfl, trivial⟩, rfl, rfl⟩, ⟨.inr ⟨(OpJ.w (J_move rfl (Opd.tmp rfl))), ⟨rfl, trivial⟩, rfl, rfl⟩, trivial⟩⟩⟩⟩⟩⟩⟩⟩⟩⟩⟩ ?_
            replace h := bind_some h; obtain ⟨u60, hu60, h⟩ := h
            refine RegL.pureW (p := (pEq (.pointer (some ⟨blk (gd g32.2 x57).1, (x59).toNat * 1, none⟩)))) rfl rfl rfl (W_bagIdx (j := 0) rfl Try.underlying22 sz2 (Opd.tmp rfl) (Opd.tmp rfl) rfl hx58 (inB_some hu60)) ?_
            refine RegL.stepN (γ := Unit) (p := fun _ => pAny) (Ω' := fun _ => [oSS 22 2 1 (cK .i64) g32.1.1 g32.1.2.1 g32.1.2.2 g32.2 (v31.set (x57).toNat (x58.set (x59).toNat x56)), oBlk b9 [(pEq (.slice g7.1.1 g7.1.2.1 g7.1.2.2)), (pEq (.slice g32.1.1 g32.1.2.1 g32.1.2.2))], oSS 22 2 1 (cK .i64) g7.1.1 g7.1.2.1 g7.1.2.2 g7.2 x6, oBlk b1 [(pEq (.slice none 0 0)), (pEq (.slice none 0 0))]]) rfl rfl (M_bagStore rfl sz2 (fun _ => rfl) (Opd.tmp rfl) (Opd.tmp rfl) rfl OneC.int hx58 (inB_some hu60)) fun g61 => ?_
            refine RegL.nil ?_
            refine Ct.then_tr ?_
            refine Tr.weak (Γ' := [(1, (pSl 1 (cSl 1 (cK .i64)) a_1)), (4, (pEq (.pointer (some ⟨b1, 0, none⟩)))), (6, (pEq (.int .i64 (a_0.length : Int)))), (7, (pEq (.pointer (some ⟨b9, 0, none⟩)))), (9, (pEq (.int .i64 v30))), (10, (pSl 1 (cK .i64) x33)), (11, (pEq (.int .i64 x56)))]) ⟨rfl, rfl, rfl, rfl, rfl, rfl, rfl, trivial⟩ ?_
            replace h := bind_some h; obtain ⟨x62, hx62, h⟩ := h
            replace h := bind_some h; obtain ⟨x63, hx63, h⟩ := h
            replace h := bind_some h; obtain ⟨x64, hx64, h⟩ := h
            refine Tr.drawD (n := 129) (m := 11) (es := [some (Ent.mk [(7, (pEq (.pointer (some ⟨b9, 0, none⟩))))] (pEq (.pointer (some ⟨b9, 1, none⟩))) true), some (Ent.mk [(116, (pEq (.pointer (some ⟨b9, 1, none⟩))))] (pEq (.slice g32.1.1 g32.1.2.1 g32.1.2.2)) true), some (Ent.mk [(10, (pSl 1 (cK .i64) x33))] (pSl 1 (cK .i64) x33) true), some (Ent.mk [(118, (pSl 1 (cK .i64) x33))] (pPtr ((cK .i64) x62)) true), some (Ent.mk [(119, (pPtr ((cK .i64) x62)))] (pEq (.int .i64 x62)) true), some (Ent.mk [(117, (pEq (.slice g32.1.1 g32.1.2.1 g32.1.2.2))), (120, (pEq (.int .i64 x62)))] (pEq (.pointer (some ⟨blk g32.1.1, (x62).toNat * 1, none⟩))) true), some (Ent.mk [(121, (pEq (.pointer (some ⟨blk g32.1.1, (x62).toNat * 1, none⟩))))] (pEq (hdrV (gd g32.2 x62))) true), some (Ent.mk [(10, (pSl 1 (cK .i64) x33))] (pSl 1 (cK .i64) x33) true), some (Ent.mk [(123, (pSl 1 (cK .i64) x33))] (pPtr ((cK .i64) x64)) true), some (Ent.mk [(124, (pPtr ((cK .i64) x64)))] (pEq (.int .i64 x64)) true), some (Ent.mk [(11, (pEq (.int .i64 x56)))] (pEq (.int .i64 x56)) true)]) (rd := [[7], [116], [10], [118], [119], [117, 120], [121], [10], [123], [124], [11]]) rfl hmix (by kernel_rfl) fun hD => ?_
            refine RD.fin (es := [Ent.mk [(7, (pEq (.pointer (some ⟨b9, 0, none⟩))))] (pEq (.pointer (some ⟨b9, 1, none⟩))) true, Ent.mk [(116, (pEq (.pointer (some ⟨b9, 1, none⟩))))] (pEq (.slice g32.1.1 g32.1.2.1 g32.1.2.2)) true, Ent.mk [(10, (pSl 1 (cK .i64) x33))] (pSl 1 (cK .i64) x33) true, Ent.mk [(118, (pSl 1 (cK .i64) x33))] (pPtr ((cK .i64) x62)) true, Ent.mk [(119, (pPtr ((cK .i64) x62)))] (pEq (.int .i64 x62)) true, Ent.mk [(117, (pEq (.slice g32.1.1 g32.1.2.1 g32.1.2.2))), (120, (pEq (.int .i64 x62)))] (pEq (.pointer (some ⟨blk g32.1.1, (x62).toNat * 1, none⟩))) true, Ent.mk [(121, (pEq (.pointer (some ⟨blk g32.1.1, (x62).toNat * 1, none⟩))))] (pEq (hdrV (gd g32.2 x62))) true, Ent.mk [(10, (pSl 1 (cK .i64) x33))] (pSl 1 (cK .i64) x33) true, Ent.mk [(123, (pSl 1 (cK .i64) x33))] (pPtr ((cK .i64) x64)) true, Ent.mk [(124, (pPtr ((cK .i64) x64)))] (pEq (.int .i64 x64)) true, Ent.mk [(11, (pEq (.int .i64 x56)))] (pEq (.int .i64 x56)) true]) (done := []) hD ⟨.inr ⟨(OpJ.w (J_fieldAddrE rfl Try.underlying32 rfl sz27 (by decide) (Opd.tmp rfl) rfl)), ⟨rfl, trivial⟩, rfl, rfl⟩, ⟨.inr ⟨(W_load (i := 1) rfl Try.isAgg27 (Opd.tmp rfl) rfl rfl), ⟨rfl, trivial⟩, rfl, rfl⟩, ⟨.inr ⟨(OpJ.w (J_move rfl (Opd.tmp rfl))), ⟨rfl, trivial⟩, rfl, rfl⟩, ⟨.inr ⟨(OpJ.w (J_idx rfl Try.underlying22 sz2 (Opd.tmp rfl) Opd.con hx62)), ⟨rfl, trivial⟩, rfl, rfl⟩, ⟨.inr ⟨(OpJ.w (J_load rfl Try.isAgg2 (Opd.tmp rfl))), ⟨rfl, trivial⟩, rfl, rfl⟩, ⟨.inr ⟨(W_nestIdx (j := 0) rfl Try.underlying27 sz22 (Opd.tmp rfl) (Opd.tmp rfl) rfl (idx_lt hx63)), ⟨rfl, rfl, trivial⟩, rfl, rfl⟩, ⟨.inr ⟨(W_nestLoad (j := 0) rfl Try.isAgg22 (Opd.tmp rfl) rfl hx63), ⟨rfl, trivial⟩, rfl, rfl⟩, ⟨.inr ⟨(OpJ.w (J_move rfl (Opd.tmp rfl))), ⟨rfl, trivial⟩, rfl, rfl⟩, ⟨.inr ⟨(OpJ.w (J_idx rfl Try.underlying22 sz2 (Opd.tmp rfl) Opd.con hx64)), ⟨rfl, trivial⟩, rfl, rfl⟩, ⟨.inr ⟨(OpJ.w (J_load rfl Try.isAgg2 (Opd.tmp rfl))), ⟨rfl, trivial⟩, rfl, rfl⟩, ⟨.inr ⟨(OpJ.w (J_move rfl (Opd.tmp rfl))), ⟨rfl, trivial⟩, rfl, rfl⟩, trivial⟩⟩⟩⟩⟩⟩⟩⟩⟩⟩⟩ ?_
            replace h := bind_some h; obtain ⟨u65, hu65, h⟩ := h
            refine RegL.pureW (p := (pEq (.pointer (some ⟨blk (gd g32.2 x62).1, (x64).toNat * 1, none⟩)))) rfl rfl rfl (W_bagIdx (j := 0) rfl Try.underlying22 sz2 (Opd.tmp rfl) (Opd.tmp rfl) rfl hx63 (inB_some hu65)) ?_
            refine RegL.stepN (γ := Unit) (p := fun _ => pAny) (Ω' := fun _ => [oSS 22 2 1 (cK .i64) g32.1.1 g32.1.2.1 g32.1.2.2 g32.2 ((v31.set (x57).toNat (x58.set (x59).toNat x56)).set (x62).toNat (x63.set (x64).toNat x56)), oBlk b9 [(pEq (.slice g7.1.1 g7.1.2.1 g7.1.2.2)), (pEq (.slice g32.1.1 g32.1.2.1 g32.1.2.2))], oSS 22 2 1 (cK .i64) g7.1.1 g7.1.2.1 g7.1.2.2 g7.2 x6, oBlk b1 [(pEq (.slice none 0 0)), (pEq (.slice none 0 0))]]) rfl rfl (M_bagStore rfl sz2 (fun _ => rfl) (Opd.tmp rfl) (Opd.tmp rfl) rfl OneC.int hx63 (inB_some hu65)) fun g66 => ?_
            refine RegL.nil ?_
            refine Ct.blk_normal ?_
            refine Ct.then_tr ?_
            refine Tr.weak (Γ' := [(1, (pSl 1 (cSl 1 (cK .i64)) a_1)), (4, (pEq (.pointer (some ⟨b1, 0, none⟩)))), (6, (pEq (.int .i64 (a_0.length : Int)))), (7, (pEq (.pointer (some ⟨b9, 0, none⟩)))), (9, (pEq (.int .i64 v30)))]) ⟨rfl, rfl, rfl, rfl, rfl, trivial⟩ ?_
            refine Tr.region ?_
            refine RegL.pure (p := (pEq (.int .i64 v30))) rfl rfl rfl (J_move rfl (Opd.tmp rfl)) ?_
            refine RegL.pure (p := (pEq (.int .i64 (w64 (v30 + (1 : Int)))))) rfl rfl rfl (J_bin rfl (Opd.tmp rfl) Opd.con B_add) ?_
            refine RegL.pure (p := (pEq (.int .i64 (w64 (v30 + (1 : Int)))))) rfl rfl rfl (J_assign rfl (Opd.tmp rfl)) ?_
            refine RegL.nil ?_
            replace h := Option.some.inj h; subst h
            exact Ct.again ((g32.1.1, g32.1.2.1, g32.1.2.2), g32.2) rfl ⟨rfl, rfl, rfl, rfl, rfl, trivial⟩
      · replace h := bif_f hc h
        refine Tr.exit ?_
        refine Ct.then_exit ?_
        replace h := map_some h; obtain ⟨r1, h, rfl⟩ := h
        refine Ct.out_exit fun e => ?_
        subst e
        refine Ct.blk_exit ?_
        refine Ct.then_tr ?_
        refine Tr.weak (Γ' := [(4, (pEq (.pointer (some ⟨b1, 0, none⟩)))), (7, (pEq (.pointer (some ⟨b9, 0, none⟩))))]) ⟨rfl, rfl, trivial⟩ ?_
        refine Tr.seq ?_
        refine Tr.region ?_
        refine RegL.pureW (p := (pAgg [(pEq (.slice g7.1.1 g7.1.2.1 g7.1.2.2)), (pEq (.slice g32.1.1 g32.1.2.1 g32.1.2.2))])) rfl rfl rfl (W_loadA (i := 1) rfl Try.isAgg32 sz32 (Opd.tmp rfl) rfl rfl) ?_
        refine RegL.re (Ω2 := [oBlk b1 [(pEq (.slice none 0 0)), (pEq (.slice none 0 0))], oSS 22 2 1 (cK .i64) g32.1.1 g32.1.2.1 g32.1.2.2 g32.2 v31, oBlk b9 [(pEq (.slice g7.1.1 g7.1.2.1 g7.1.2.2)), (pEq (.slice g32.1.1 g32.1.2.1 g32.1.2.2))], oSS 22 2 1 (cK .i64) g7.1.1 g7.1.2.1 g7.1.2.2 g7.2 x6]) (fun h => SatO.pick 3 h) ?_
        refine RegL.stepN (γ := Unit) (p := fun _ => pAny) (Ω' := fun _ => [oBlk b1 [(pEq (.slice g7.1.1 g7.1.2.1 g7.1.2.2)), (pEq (.slice g32.1.1 g32.1.2.1 g32.1.2.2))], oSS 22 2 1 (cK .i64) g32.1.1 g32.1.2.1 g32.1.2.2 g32.2 v31, oBlk b9 [(pEq (.slice g7.1.1 g7.1.2.1 g7.1.2.2)), (pEq (.slice g32.1.1 g32.1.2.1 g32.1.2.2))], oSS 22 2 1 (cK .i64) g7.1.1 g7.1.2.1 g7.1.2.2 g7.2 x6]) rfl rfl (M_storeA rfl sz32 (Opd.tmp rfl) (Opd.tmp rfl) (fun _ _ _ h => ones_of ((OneCs.cons OneC.slice (OneCs.cons OneC.slice OneCs.nil))) h) rfl rfl) fun g67 => ?_
        refine RegL.pure (p := (pEq (.int .i64 (0 : Int)))) rfl rfl rfl (J_assign rfl Opd.con) ?_
        refine RegL.nil ?_
        refine Ct.then_tr ?_
        refine Tr.weak (Γ' := [(4, (pEq (.pointer (some ⟨b1, 0, none⟩)))), (5, (pEq (.int .i64 (0 : Int))))]) ⟨rfl, rfl, trivial⟩ ?_
        refine Tr.ret ?_
        refine Ct.re (Ω2 := [oSS 22 2 1 (cK .i64) g32.1.1 g32.1.2.1 g32.1.2.2 g32.2 v31, oBlk b1 [(pEq (.slice g7.1.1 g7.1.2.1 g7.1.2.2)), (pEq (.slice g32.1.1 g32.1.2.1 g32.1.2.2))], oBlk b9 [(pEq (.slice g7.1.1 g7.1.2.1 g7.1.2.2)), (pEq (.slice g32.1.1 g32.1.2.1 g32.1.2.2))], oSS 22 2 1 (cK .i64) g7.1.1 g7.1.2.1 g7.1.2.2 g7.2 x6]) (fun h => SatO.pick 1 h) ?_
        refine Ct.re (Ω2 := [oSS 22 2 1 (cK .i64) g7.1.1 g7.1.2.1 g7.1.2.2 g7.2 x6, oSS 22 2 1 (cK .i64) g32.1.1 g32.1.2.1 g32.1.2.2 g32.2 v31, oBlk b1 [(pEq (.slice g7.1.1 g7.1.2.1 g7.1.2.2)), (pEq (.slice g32.1.1 g32.1.2.1 g32.1.2.2))], oBlk b9 [(pEq (.slice g7.1.1 g7.1.2.1 g7.1.2.2)), (pEq (.slice g32.1.1 g32.1.2.1 g32.1.2.2))]]) (fun h => SatO.pick 3 h) ?_
        refine Ct.re (Ω2 := [oBlk b9 [(pEq (.slice g7.1.1 g7.1.2.1 g7.1.2.2)), (pEq (.slice g32.1.1 g32.1.2.1 g32.1.2.2))], oSS 22 2 1 (cK .i64) g7.1.1 g7.1.2.1 g7.1.2.2 g7.2 x6, oSS 22 2 1 (cK .i64) g32.1.1 g32.1.2.1 g32.1.2.2 g32.2 v31, oBlk b1 [(pEq (.slice g7.1.1 g7.1.2.1 g7.1.2.2)), (pEq (.slice g32.1.1 g32.1.2.1 g32.1.2.2))]]) (fun h => SatO.pick 3 h) ?_
        refine Ct.re (Ω2 := [oBlk b1 [(pEq (.slice g7.1.1 g7.1.2.1 g7.1.2.2)), (pEq (.slice g32.1.1 g32.1.2.1 g32.1.2.2))], oBlk b9 [(pEq (.slice g7.1.1 g7.1.2.1 g7.1.2.2)), (pEq (.slice g32.1.1 g32.1.2.1 g32.1.2.2))], oSS 22 2 1 (cK .i64) g7.1.1 g7.1.2.1 g7.1.2.2 g7.2 x6, oSS 22 2 1 (cK .i64) g32.1.1 g32.1.2.1 g32.1.2.2 g32.2 v31]) (fun h => SatO.pick 3 h) ?_
        replace h := Option.some.inj h; subst h
        exact Ct.retH2 (Ωx := [oBlk b1 [(pEq (.slice g7.1.1 g7.1.2.1 g7.1.2.2)), (pEq (.slice g32.1.1 g32.1.2.1 g32.1.2.2))], oBlk b9 [(pEq (.slice g7.1.1 g7.1.2.1 g7.1.2.2)), (pEq (.slice g32.1.1 g32.1.2.1 g32.1.2.2))]]) (((g7.1.1, g7.1.2.1, g7.1.2.2), g7.2), ((g32.1.1, g32.1.2.1, g32.1.2.2), g32.2)) rfl (RvOk.cellA (i := 0) Try.isAgg32 sz32 rfl rfl rfl) (RvOk.tmp rfl) rfl rfl

theorem c_spec_MakeProblem {a_0 : (List (List Int))} {a_1 : (List (List Int))} {r : (GProblem × Int)} (h : m_spec_MakeProblem a_0 a_1 = some r) : CallJ Try.prog 29 [(pSl 1 (cSl 1 (cK .i64)) a_0), (pSl 1 (cSl 1 (cK .i64)) a_1)] (pTup [(pAgg (cGProblem r.1)), (pEq (.int .i64 r.2))]) :=
  CallH.frozen (o_spec_MakeProblem h) (fun g => (Conv.tup (Convs.cons (Conv.agg (Convs.cons (Conv.nest 0 (fun _ => rfl) rfl) (Convs.cons (Conv.nest 1 (fun _ => rfl) rfl) Convs.nil))) (Convs.cons Conv.refl Convs.nil))))

theorem c_slices_IndexFunc_SSint64_int64 {s_0 : (List (List Int))} {f_1 : ((List Int) → Option Bool)} {r : Int} (h : m_slices_IndexFunc_SSint64_int64 s_0 f_1 = some r) : CallJ Try.prog 106 [(pSl 1 (cSl 1 (cK .i64)) s_0), (pFn Try.prog (fun x => [(pSl 1 (cK .i64) x)]) f_1 (fun y => (pEq (.bool y))))] (pEq (.int .i64 r)) := by
  unfold m_slices_IndexFunc_SSint64_int64 at h
  refine CallJ.enterH Try.func106 rfl Try.ntmps106 rfl fun W I0 H => ?_
  refine Tr.weak (Γ' := [(0, (pSl 1 (cSl 1 (cK .i64)) s_0)), (1, (pFn Try.prog (fun x => [(pSl 1 (cK .i64) x)]) f_1 (fun y => (pEq (.bool y)))))]) ⟨rfl, rfl, trivial⟩ ?_
  refine Tr.seq ?_
  refine Tr.region ?_
  refine RegL.pure (p := (pEq (.int .i64 (0 : Int)))) rfl rfl rfl (J_assign rfl Opd.con) ?_
  refine RegL.nil ?_
  refine Ct.then_tr ?_
  refine Tr.weak (Γ' := [(0, (pSl 1 (cSl 1 (cK .i64)) s_0)), (1, (pFn Try.prog (fun x => [(pSl 1 (cK .i64) x)]) f_1 (fun y => (pEq (.bool y)))))]) ⟨rfl, rfl, trivial⟩ ?_
  refine Tr.seq ?_
  refine Tr.seq ?_
  refine Tr.region ?_
  refine RegL.pure (p := (pSl 1 (cSl 1 (cK .i64)) s_0)) rfl rfl rfl (J_move rfl (Opd.tmp rfl)) ?_
  refine RegL.pure (p := (pEq (.int .i64 (s_0.length : Int)))) rfl rfl rfl (J_len rfl Try.underlying27 (Opd.tmp rfl) rfl) ?_
  refine RegL.pure (p := (pEq (.int .i64 (0 : Int)))) rfl rfl rfl (J_move rfl Opd.con) ?_
  refine RegL.nil ?_
  refine Ct.then_tr ?_
  refine Tr.weak (Γ' := [(0, (pSl 1 (cSl 1 (cK .i64)) s_0)), (1, (pFn Try.prog (fun x => [(pSl 1 (cK .i64) x)]) f_1 (fun y => (pEq (.bool y))))), (7, (pEq (.int .i64 (s_0.length : Int)))), (8, (pEq (.int .i64 (0 : Int))))]) ⟨rfl, rfl, rfl, rfl, trivial⟩ ?_
  refine Tr.block ?_
  refine Tr.weak (Γ' := [(0, (pSl 1 (cSl 1 (cK .i64)) s_0)), (1, (pFn Try.prog (fun x => [(pSl 1 (cK .i64) x)]) f_1 (fun y => (pEq (.bool y))))), (7, (pEq (.int .i64 (s_0.length : Int)))), (8, (pEq (.int .i64 (0 : Int))))]) ⟨rfl, rfl, rfl, rfl, trivial⟩ ?_
  refine Tr.loop (γ := Unit) (σ := Int) (Γσ := fun s g => [(0, (pSl 1 (cSl 1 (cK .i64)) s_0)), (1, (pFn Try.prog (fun x => [(pSl 1 (cK .i64) x)]) f_1 (fun y => (pEq (.bool y))))), (7, (pEq (.int .i64 (s_0.length : Int)))), (8, (pEq (.int .i64 s)))]) (Ωσ := fun s g => []) (g := ()) h ?_
  clear h
  rintro v2 g3 t h
  replace h : m_slices_IndexFunc_SSint64_int64_B1 s_0 f_1 v2 = some t := h
  unfold m_slices_IndexFunc_SSint64_int64_B1 at h
  refine Tr.weakO (Γ' := [(0, (pSl 1 (cSl 1 (cK .i64)) s_0)), (1, (pFn Try.prog (fun x => [(pSl 1 (cK .i64) x)]) f_1 (fun y => (pEq (.bool y))))), (7, (pEq (.int .i64 (s_0.length : Int)))), (8, (pEq (.int .i64 v2)))]) (Ω' := []) rfl ⟨rfl, rfl, rfl, rfl, trivial⟩ ?_
  refine Tr.seq ?_
  refine Tr.region ?_
  refine RegL.pure (p := (pEq (.bool (decide (v2 < (s_0.length : Int)))))) rfl rfl rfl (J_bin rfl (Opd.tmp rfl) (Opd.tmp rfl) B_lss) ?_
  refine RegL.nil ?_
  refine Ct.then_tr ?_
  refine Tr.weak (Γ' := [(0, (pSl 1 (cSl 1 (cK .i64)) s_0)), (1, (pFn Try.prog (fun x => [(pSl 1 (cK .i64) x)]) f_1 (fun y => (pEq (.bool y))))), (7, (pEq (.int .i64 (s_0.length : Int)))), (8, (pEq (.int .i64 v2))), (9, (pEq (.bool (decide (v2 < (s_0.length : Int))))))]) ⟨rfl, rfl, rfl, rfl, rfl, trivial⟩ ?_
  refine Tr.seq ?_
  refine Tr.cond (Opd.tmp rfl) (fun hc => ?_) (fun hc => ?_)
  · replace h := bif_t hc h
    refine Tr.skip ?_
    refine Ct.then_tr ?_
    refine Tr.weak (Γ' := [(0, (pSl 1 (cSl 1 (cK .i64)) s_0)), (1, (pFn Try.prog (fun x => [(pSl 1 (cK .i64) x)]) f_1 (fun y => (pEq (.bool y))))), (7, (pEq (.int .i64 (s_0.length : Int)))), (8, (pEq (.int .i64 v2)))]) ⟨rfl, rfl, rfl, rfl, trivial⟩ ?_
    refine Tr.seq ?_
    refine Tr.block ?_
    refine Tr.seq ?_
    refine Tr.region ?_
    refine RegL.pure (p := (pEq (.int .i64 v2))) rfl rfl rfl (J_move rfl (Opd.tmp rfl)) ?_
    refine RegL.pure (p := (pEq (.int .i64 v2))) rfl rfl rfl (J_assign rfl (Opd.tmp rfl)) ?_
    refine RegL.nil ?_
    refine Ct.then_tr ?_
    refine Tr.weak (Γ' := [(0, (pSl 1 (cSl 1 (cK .i64)) s_0)), (1, (pFn Try.prog (fun x => [(pSl 1 (cK .i64) x)]) f_1 (fun y => (pEq (.bool y))))), (5, (pEq (.int .i64 v2))), (7, (pEq (.int .i64 (s_0.length : Int)))), (8, (pEq (.int .i64 v2)))]) ⟨rfl, rfl, rfl, rfl, rfl, trivial⟩ ?_
    refine Tr.seq ?_
    refine Tr.region ?_
    refine RegL.pure (p := (pFn Try.prog (fun x => [(pSl 1 (cK .i64) x)]) f_1 (fun y => (pEq (.bool y))))) rfl rfl rfl (J_move rfl (Opd.tmp rfl)) ?_
    refine RegL.pure (p := (pSl 1 (cSl 1 (cK .i64)) s_0)) rfl rfl rfl (J_move rfl (Opd.tmp rfl)) ?_
    refine RegL.pure (p := (pEq (.int .i64 v2))) rfl rfl rfl (J_move rfl (Opd.tmp rfl)) ?_
    replace h := bind_some h; obtain ⟨x4, hx4, h⟩ := h
    refine RegL.pure (p := (pPtr ((cSl 1 (cK .i64)) x4))) rfl rfl rfl (J_idx rfl Try.underlying27 sz22 (Opd.tmp rfl) (Opd.tmp rfl) hx4) ?_
    refine RegL.pure (p := (pSl 1 (cK .i64) x4)) rfl rfl rfl (J_load rfl Try.isAgg22 (Opd.tmp rfl)) ?_
    replace h := bind_some h; obtain ⟨x5, hx5, h⟩ := h
    refine RegL.pure (p := (pEq (.bool x5))) rfl rfl rfl (J_callv (x := x4) rfl (Opd.tmp rfl) rfl (Opds.cons (Opd.tmp rfl) Opds.nil) hx5 rfl) ?_
    refine RegL.nil ?_
    refine Ct.then_tr ?_
    refine Tr.weak (Γ' := [(0, (pSl 1 (cSl 1 (cK .i64)) s_0)), (1, (pFn Try.prog (fun x => [(pSl 1 (cK .i64) x)]) f_1 (fun y => (pEq (.bool y))))), (5, (pEq (.int .i64 v2))), (7, (pEq (.int .i64 (s_0.length : Int)))), (8, (pEq (.int .i64 v2))), (16, (pEq (.bool x5)))]) ⟨rfl, rfl, rfl, rfl, rfl, rfl, trivial⟩ ?_
    refine Tr.cond (Opd.tmp rfl) (fun hc => ?_) (fun hc => ?_)
    · replace h := bif_t hc h
      refine Tr.seq ?_
      refine Tr.region ?_
      refine RegL.pure (p := (pEq (.int .i64 v2))) rfl rfl rfl (J_move rfl (Opd.tmp rfl)) ?_
      refine RegL.pure (p := (pEq (.int .i64 v2))) rfl rfl rfl (J_assign rfl (Opd.tmp rfl)) ?_
      refine RegL.nil ?_
      refine Ct.then_tr ?_
      refine Tr.weak (Γ' := [(4, (pEq (.int .i64 v2)))]) ⟨rfl, trivial⟩ ?_
      refine Tr.ret ?_
      refine Ct.blk_ret ?_
      refine Ct.then_ret ?_
      replace h := map_some h; obtain ⟨r1, h, rfl⟩ := h
      refine Ct.out_ret fun e => ?_
      subst e
      refine Ct.blk_ret ?_
      refine Ct.then_ret ?_
      replace h := Option.some.inj h; subst h
      exact Ct.retH1 (Ωx := []) () rfl (RvOk.tmp rfl) rfl
    · replace h := bif_f hc h
      refine Tr.skip ?_
      refine Ct.blk_normal ?_
      refine Ct.then_tr ?_
      refine Tr.weak (Γ' := [(0, (pSl 1 (cSl 1 (cK .i64)) s_0)), (1, (pFn Try.prog (fun x => [(pSl 1 (cK .i64) x)]) f_1 (fun y => (pEq (.bool y))))), (7, (pEq (.int .i64 (s_0.length : Int)))), (8, (pEq (.int .i64 v2)))]) ⟨rfl, rfl, rfl, rfl, trivial⟩ ?_
      refine Tr.region ?_
      refine RegL.pure (p := (pEq (.int .i64 (w64 (v2 + (1 : Int)))))) rfl rfl rfl (J_bin rfl (Opd.tmp rfl) Opd.con B_add) ?_
      refine RegL.pure (p := (pEq (.int .i64 (w64 (v2 + (1 : Int)))))) rfl rfl rfl (J_move rfl (Opd.tmp rfl)) ?_
      refine RegL.nil ?_
      replace h := Option.some.inj h; subst h
      exact Ct.again () rfl ⟨rfl, rfl, rfl, rfl, trivial⟩
  · replace h := bif_f hc h
    refine Tr.exit ?_
    refine Ct.then_exit ?_
    replace h := map_some h; obtain ⟨r1, h, rfl⟩ := h
    refine Ct.out_exit fun e => ?_
    subst e
    refine Ct.blk_exit ?_
    refine Ct.then_tr ?_
    refine Tr.weak (Γ' := []) trivial ?_
    refine Tr.seq ?_
    refine Tr.region ?_
    refine RegL.pure (p := (pEq (.int .i64 (-1 : Int)))) rfl rfl rfl (J_assign rfl Opd.con) ?_
    refine RegL.nil ?_
    refine Ct.then_tr ?_
    refine Tr.weak (Γ' := [(4, (pEq (.int .i64 (-1 : Int))))]) ⟨rfl, trivial⟩ ?_
    refine Tr.ret ?_
    replace h := Option.some.inj h; subst h
    exact Ct.retH1 (Ωx := []) () rfl (RvOk.tmp rfl) rfl

theorem c_slices_ContainsFunc_SSint64_int64 {s_0 : (List (List Int))} {f_1 : ((List Int) → Option Bool)} {r : Bool} (h : m_slices_ContainsFunc_SSint64_int64 s_0 f_1 = some r) : CallJ Try.prog 94 [(pSl 1 (cSl 1 (cK .i64)) s_0), (pFn Try.prog (fun x => [(pSl 1 (cK .i64) x)]) f_1 (fun y => (pEq (.bool y))))] (pEq (.bool r)) := by
  unfold m_slices_ContainsFunc_SSint64_int64 at h
  refine CallJ.enterH Try.func94 rfl Try.ntmps94 rfl fun W I0 H => ?_
  refine Tr.weak (Γ' := [(0, (pSl 1 (cSl 1 (cK .i64)) s_0)), (1, (pFn Try.prog (fun x => [(pSl 1 (cK .i64) x)]) f_1 (fun y => (pEq (.bool y)))))]) ⟨rfl, rfl, trivial⟩ ?_
  refine Tr.seq ?_
  refine Tr.region ?_
  refine RegL.pure (p := (pEq (.bool false))) rfl rfl rfl (J_assign rfl Opd.con) ?_
  refine RegL.nil ?_
  refine Ct.then_tr ?_
  refine Tr.weak (Γ' := [(0, (pSl 1 (cSl 1 (cK .i64)) s_0)), (1, (pFn Try.prog (fun x => [(pSl 1 (cK .i64) x)]) f_1 (fun y => (pEq (.bool y)))))]) ⟨rfl, rfl, trivial⟩ ?_
  refine Tr.seq ?_
  refine Tr.region ?_
  refine RegL.pure (p := (pSl 1 (cSl 1 (cK .i64)) s_0)) rfl rfl rfl (J_move rfl (Opd.tmp rfl)) ?_
  refine RegL.pure (p := (pFn Try.prog (fun x => [(pSl 1 (cK .i64) x)]) f_1 (fun y => (pEq (.bool y))))) rfl rfl rfl (J_move rfl (Opd.tmp rfl)) ?_
  replace h := bind_some h; obtain ⟨x1, hx1, h⟩ := h
  refine RegL.pure (p := (pEq (.int .i64 x1))) rfl rfl rfl (J_call rfl Try.call106 (c_slices_IndexFunc_SSint64_int64 hx1) (Opds.cons (Opd.tmp rfl) (Opds.cons (Opd.tmp rfl) Opds.nil))) ?_
  refine RegL.pure (p := (pEq (.bool (decide ((0 : Int) ≤ x1))))) rfl rfl rfl (J_bin rfl (Opd.tmp rfl) Opd.con B_geq) ?_
  refine RegL.pure (p := (pEq (.bool (decide ((0 : Int) ≤ x1))))) rfl rfl rfl (J_assign rfl (Opd.tmp rfl)) ?_
  refine RegL.nil ?_
  refine Ct.then_tr ?_
  refine Tr.weak (Γ' := [(4, (pEq (.bool (decide ((0 : Int) ≤ x1)))))]) ⟨rfl, trivial⟩ ?_
  refine Tr.ret ?_
  replace h := Option.some.inj h; subst h
  exact Ct.retH1 (Ωx := []) () rfl (RvOk.tmp rfl) rfl

theorem c_impl_increasing {list_0 : (List Int)} {r : Bool} (h : m_impl_increasing list_0 = some r) : CallJ Try.prog 76 [(pSl 1 (cK .i64) list_0)] (pEq (.bool r)) := by
  unfold m_impl_increasing at h
  refine CallJ.enterH Try.func76 rfl Try.ntmps76 rfl fun W I0 H => ?_
  refine Tr.weak (Γ' := [(0, (pSl 1 (cK .i64) list_0))]) ⟨rfl, trivial⟩ ?_
  refine Tr.seq ?_
  refine Tr.region ?_
  refine RegL.pure (p := (pEq (.bool false))) rfl rfl rfl (J_assign rfl Opd.con) ?_
  refine RegL.nil ?_
  refine Ct.then_tr ?_
  refine Tr.weak (Γ' := [(0, (pSl 1 (cK .i64) list_0))]) ⟨rfl, trivial⟩ ?_
  refine Tr.seq ?_
  refine Tr.seq ?_
  refine Tr.region ?_
  refine RegL.pure (p := (pEq (.int .i64 (1 : Int)))) rfl rfl rfl (J_assign rfl Opd.con) ?_
  refine RegL.nil ?_
  refine Ct.then_tr ?_
  refine Tr.weak (Γ' := [(0, (pSl 1 (cK .i64) list_0)), (3, (pEq (.int .i64 (1 : Int))))]) ⟨rfl, rfl, trivial⟩ ?_
  refine Tr.block ?_
  refine Tr.weak (Γ' := [(0, (pSl 1 (cK .i64) list_0)), (3, (pEq (.int .i64 (1 : Int))))]) ⟨rfl, rfl, trivial⟩ ?_
  refine Tr.loop (γ := Unit) (σ := Int) (Γσ := fun s g => [(0, (pSl 1 (cK .i64) list_0)), (3, (pEq (.int .i64 s)))]) (Ωσ := fun s g => []) (g := ()) h ?_
  clear h
  rintro v2 g3 t h
  replace h : m_impl_increasing_B1 list_0 v2 = some t := h
  unfold m_impl_increasing_B1 at h
  refine Tr.weakO (Γ' := [(0, (pSl 1 (cK .i64) list_0)), (3, (pEq (.int .i64 v2)))]) (Ω' := []) rfl ⟨rfl, rfl, trivial⟩ ?_
  refine Tr.seq ?_
  refine Tr.seq ?_
  refine Tr.region ?_
  refine RegL.pure (p := (pEq (.int .i64 v2))) rfl rfl rfl (J_move rfl (Opd.tmp rfl)) ?_
  refine RegL.pure (p := (pSl 1 (cK .i64) list_0)) rfl rfl rfl (J_move rfl (Opd.tmp rfl)) ?_
  refine RegL.pure (p := (pEq (.int .i64 (list_0.length : Int)))) rfl rfl rfl (J_len rfl Try.underlying22 (Opd.tmp rfl) rfl) ?_
  refine RegL.pure (p := (pEq (.bool (decide (v2 < (list_0.length : Int)))))) rfl rfl rfl (J_bin rfl (Opd.tmp rfl) (Opd.tmp rfl) B_lss) ?_
  refine RegL.nil ?_
  refine Ct.then_tr ?_
  refine Tr.weak (Γ' := [(0, (pSl 1 (cK .i64) list_0)), (3, (pEq (.int .i64 v2))), (7, (pEq (.bool (decide (v2 < (list_0.length : Int))))))]) ⟨rfl, rfl, rfl, trivial⟩ ?_
  refine Tr.cond (Opd.tmp rfl) (fun hc => ?_) (fun hc => ?_)
  · replace h := bif_t hc h
    refine Tr.skip ?_
    refine Ct.then_tr ?_
    refine Tr.weak (Γ' := [(0, (pSl 1 (cK .i64) list_0)), (3, (pEq (.int .i64 v2)))]) ⟨rfl, rfl, trivial⟩ ?_
    refine Tr.seq ?_
    refine Tr.block ?_
    refine Tr.seq ?_
    replace h := bind_some h; obtain ⟨x4, hx4, h⟩ := h
    replace h := bind_some h; obtain ⟨x5, hx5, h⟩ := h
    refine Tr.drawD (n := 20) (m := 10) (es := [some (Ent.mk [(0, (pSl 1 (cK .i64) list_0))] (pSl 1 (cK .i64) list_0) true), some (Ent.mk [(3, (pEq (.int .i64 v2)))] (pEq (.int .i64 v2)) true), some (Ent.mk [(10, (pSl 1 (cK .i64) list_0)), (11, (pEq (.int .i64 v2)))] (pPtr ((cK .i64) x4)) true), some (Ent.mk [(12, (pPtr ((cK .i64) x4)))] (pEq (.int .i64 x4)) true), some (Ent.mk [(0, (pSl 1 (cK .i64) list_0))] (pSl 1 (cK .i64) list_0) true), some (Ent.mk [(3, (pEq (.int .i64 v2)))] (pEq (.int .i64 v2)) true), some (Ent.mk [(15, (pEq (.int .i64 v2)))] (pEq (.int .i64 (w64 (v2 - (1 : Int))))) true), some (Ent.mk [(14, (pSl 1 (cK .i64) list_0)), (16, (pEq (.int .i64 (w64 (v2 - (1 : Int))))))] (pPtr ((cK .i64) x5)) true), some (Ent.mk [(17, (pPtr ((cK .i64) x5)))] (pEq (.int .i64 x5)) true), some (Ent.mk [(13, (pEq (.int .i64 x4))), (18, (pEq (.int .i64 x5)))] (pEq (.bool (decide (x4 ≤ x5)))) true)]) (rd := [[0], [3], [10, 11], [12], [0], [3], [15], [14, 16], [17], [13, 18]]) rfl hmix (by kernel_rfl) fun hD => ?_
    refine RD.fin (es := [Ent.mk [(0, (pSl 1 (cK .i64) list_0))] (pSl 1 (cK .i64) list_0) true, Ent.mk [(3, (pEq (.int .i64 v2)))] (pEq (.int .i64 v2)) true, Ent.mk [(10, (pSl 1 (cK .i64) list_0)), (11, (pEq (.int .i64 v2)))] (pPtr ((cK .i64) x4)) true, Ent.mk [(12, (pPtr ((cK .i64) x4)))] (pEq (.int .i64 x4)) true, Ent.mk [(0, (pSl 1 (cK .i64) list_0))] (pSl 1 (cK .i64) list_0) true, Ent.mk [(3, (pEq (.int .i64 v2)))] (pEq (.int .i64 v2)) true, Ent.mk [(15, (pEq (.int .i64 v2)))] (pEq (.int .i64 (w64 (v2 - (1 : Int))))) true, Ent.mk [(14, (pSl 1 (cK .i64) list_0)), (16, (pEq (.int .i64 (w64 (v2 - (1 : Int))))))] (pPtr ((cK .i64) x5)) true, Ent.mk [(17, (pPtr ((cK .i64) x5)))] (pEq (.int .i64 x5)) true, Ent.mk [(13, (pEq (.int .i64 x4))), (18, (pEq (.int .i64 x5)))] (pEq (.bool (decide (x4 ≤ x5)))) true]) (done := []) hD ⟨.inr ⟨(OpJ.w (J_move rfl (Opd.tmp rfl))), ⟨rfl, trivial⟩, rfl, rfl⟩, ⟨.inr ⟨(OpJ.w (J_move rfl (Opd.tmp rfl))), ⟨rfl, trivial⟩, rfl, rfl⟩, ⟨.inr ⟨(OpJ.w (J_idx rfl Try.underlying22 sz2 (Opd.tmp rfl) (Opd.tmp rfl) hx4)), ⟨rfl, rfl, trivial⟩, rfl, rfl⟩, ⟨.inr ⟨(OpJ.w (J_load rfl Try.isAgg2 (Opd.tmp rfl))), ⟨rfl, trivial⟩, rfl, rfl⟩, ⟨.inr ⟨(OpJ.w (J_move rfl (Opd.tmp rfl))), ⟨rfl, trivial⟩, rfl, rfl⟩, ⟨.inr ⟨(OpJ.w (J_move rfl (Opd.tmp rfl))), ⟨rfl, trivial⟩, rfl, rfl⟩, ⟨.inr ⟨(OpJ.w (J_bin rfl (Opd.tmp rfl) Opd.con B_sub)), ⟨rfl, trivial⟩, rfl, rfl⟩, ⟨.inr ⟨(OpJ.w (J_idx rfl Try.underlying22 sz2 (Opd.tmp rfl) (Opd.tmp rfl) hx5)), ⟨rfl, rfl, trivial⟩, rfl, rfl⟩, ⟨.inr ⟨(OpJ.w (J_load rfl Try.isAgg2 (Opd.tmp rfl))), ⟨rfl, trivial⟩, rfl, rfl⟩, ⟨.inr ⟨(OpJ.w (J_bin rfl (Opd.tmp rfl) (Opd.tmp rfl) B_leq)), ⟨rfl, rfl, trivial⟩, rfl, rfl⟩, trivial⟩⟩⟩⟩⟩⟩⟩⟩⟩⟩ ?_
    refine RegL.nil ?_
    refine Ct.then_tr ?_
    refine Tr.weak (Γ' := [(0, (pSl 1 (cK .i64) list_0)), (3, (pEq (.int .i64 v2))), (19, (pEq (.bool (decide (x4 ≤ x5)))))]) ⟨rfl, rfl, rfl, trivial⟩ ?_
    refine Tr.cond (Opd.tmp rfl) (fun hc => ?_) (fun hc => ?_)
    · replace h := bif_t hc h
      refine Tr.seq ?_
      refine Tr.region ?_
      refine RegL.pure (p := (pEq (.bool false))) rfl rfl rfl (J_assign rfl Opd.con) ?_
      refine RegL.nil ?_
      refine Ct.then_tr ?_
      refine Tr.weak (Γ' := [(2, (pEq (.bool false)))]) ⟨rfl, trivial⟩ ?_
      refine Tr.ret ?_
      refine Ct.blk_ret ?_
      refine Ct.then_ret ?_
      replace h := map_some h; obtain ⟨r1, h, rfl⟩ := h
      refine Ct.out_ret fun e => ?_
      subst e
      refine Ct.blk_ret ?_
      refine Ct.then_ret ?_
      replace h := Option.some.inj h; subst h
      exact Ct.retH1 (Ωx := []) () rfl (RvOk.tmp rfl) rfl
    · replace h := bif_f hc h
      refine Tr.skip ?_
      refine Ct.blk_normal ?_
      refine Ct.then_tr ?_
      refine Tr.weak (Γ' := [(0, (pSl 1 (cK .i64) list_0)), (3, (pEq (.int .i64 v2)))]) ⟨rfl, rfl, trivial⟩ ?_
      refine Tr.region ?_
      refine RegL.pure (p := (pEq (.int .i64 v2))) rfl rfl rfl (J_move rfl (Opd.tmp rfl)) ?_
      refine RegL.pure (p := (pEq (.int .i64 (w64 (v2 + (1 : Int)))))) rfl rfl rfl (J_bin rfl (Opd.tmp rfl) Opd.con B_add) ?_
      refine RegL.pure (p := (pEq (.int .i64 (w64 (v2 + (1 : Int)))))) rfl rfl rfl (J_assign rfl (Opd.tmp rfl)) ?_
      refine RegL.nil ?_
      replace h := Option.some.inj h; subst h
      exact Ct.again () rfl ⟨rfl, rfl, trivial⟩
  · replace h := bif_f hc h
    refine Tr.exit ?_
    refine Ct.then_exit ?_
    replace h := map_some h; obtain ⟨r1, h, rfl⟩ := h
    refine Ct.out_exit fun e => ?_
    subst e
    refine Ct.blk_exit ?_
    refine Ct.then_tr ?_
    refine Tr.weak (Γ' := []) trivial ?_
    refine Tr.seq ?_
    refine Tr.region ?_
    refine RegL.pure (p := (pEq (.bool true))) rfl rfl rfl (J_assign rfl Opd.con) ?_
    refine RegL.nil ?_
    refine Ct.then_tr ?_
    refine Tr.weak (Γ' := [(2, (pEq (.bool true)))]) ⟨rfl, trivial⟩ ?_
    refine Tr.ret ?_
    replace h := Option.some.inj h; subst h
    exact Ct.retH1 (Ωx := []) () rfl (RvOk.tmp rfl) rfl

theorem c_impl_within {n_0 : Int} {low_1 : Int} {high_2 : Int} {r : Bool} (h : m_impl_within n_0 low_1 high_2 = some r) : CallJ Try.prog 72 [(pEq (.int .i64 n_0)), (pEq (.int .i64 low_1)), (pEq (.int .i64 high_2))] (pEq (.bool r)) := by
  unfold m_impl_within at h
  refine CallJ.enterH Try.func72 rfl Try.ntmps72 rfl fun W I0 H => ?_
  refine Tr.weak (Γ' := [(0, (pEq (.int .i64 n_0))), (1, (pEq (.int .i64 low_1))), (2, (pEq (.int .i64 high_2)))]) ⟨rfl, rfl, rfl, trivial⟩ ?_
  refine Tr.seq ?_
  refine Tr.region ?_
  refine RegL.pure (p := (pEq (.bool false))) rfl rfl rfl (J_assign rfl Opd.con) ?_
  refine RegL.nil ?_
  refine Ct.then_tr ?_
  refine Tr.weak (Γ' := [(0, (pEq (.int .i64 n_0))), (1, (pEq (.int .i64 low_1))), (2, (pEq (.int .i64 high_2)))]) ⟨rfl, rfl, rfl, trivial⟩ ?_
  refine Tr.seq ?_
  replace h := bind_some h; obtain ⟨x1, hx1, h⟩ := h
  refine Tr.cut (γ := Unit) (Γm := fun g => [(6, (pEq (.bool x1)))]) (Ωm := fun g => []) ?_ (fun g3 => ?_)
  · clear h
    have h := hx1
    clear hx1
    refine Tr.region ?_
    refine RegL.pure (p := (pEq (.int .i64 n_0))) rfl rfl rfl (J_move rfl (Opd.tmp rfl)) ?_
    refine RegL.pure (p := (pEq (.int .i64 low_1))) rfl rfl rfl (J_move rfl (Opd.tmp rfl)) ?_
    refine RegL.pure (p := (pEq (.bool (decide (low_1 ≤ n_0))))) rfl rfl rfl (J_bin rfl (Opd.tmp rfl) (Opd.tmp rfl) B_geq) ?_
    refine RegL.pure (p := (pEq (.bool (decide (low_1 ≤ n_0))))) rfl rfl rfl (J_move rfl (Opd.tmp rfl)) ?_
    rcases Bool.eq_false_or_eq_true (decide (low_1 ≤ n_0)) with hc2 | hc2
    · replace h := bif_t hc2 h
      refine RegL.pureG (p := (pEq (.int .i64 n_0))) rfl rfl rfl hc2 rfl rfl (J_move rfl (Opd.tmp rfl)) ?_
      refine RegL.pureG (p := (pEq (.int .i64 high_2))) rfl rfl rfl hc2 rfl rfl (J_move rfl (Opd.tmp rfl)) ?_
      refine RegL.pureG (p := (pEq (.bool (decide (n_0 ≤ high_2))))) rfl rfl rfl hc2 rfl rfl (J_bin rfl (Opd.tmp rfl) (Opd.tmp rfl) B_leq) ?_
      refine RegL.pure (p := (pEq (.bool (decide (n_0 ≤ high_2))))) rfl rfl rfl (J_pick rfl (Opd.tmp rfl) (fun _ => (Opd.tmp rfl)) (fun hf => absurd (hc2.symm.trans hf) (by decide))) ?_
      refine RegL.pure (p := (pEq (.bool (decide (n_0 ≤ high_2))))) rfl rfl rfl (J_assign rfl (Opd.tmp rfl)) ?_
      refine RegL.nil ?_
      replace h := Option.some.inj h; subst h
      exact Ct.mid () rfl ⟨rfl, trivial⟩
    · replace h := bif_f hc2 h
      refine RegL.skipG rfl rfl rfl hc2 rfl rfl ?_
      refine RegL.skipG rfl rfl rfl hc2 rfl rfl ?_
      refine RegL.skipG rfl rfl rfl hc2 rfl rfl ?_
      refine RegL.pure (p := (pEq (.bool false))) rfl rfl rfl (J_pick rfl (Opd.tmp rfl) (fun hf => absurd (hc2.symm.trans hf) (by decide)) (fun _ => Opd.con)) ?_
      refine RegL.pure (p := (pEq (.bool false))) rfl rfl rfl (J_assign rfl (Opd.tmp rfl)) ?_
      refine RegL.nil ?_
      replace h := Option.some.inj h; subst h
      exact Ct.mid () rfl ⟨rfl, trivial⟩
  · clear hx1
    refine Ct.then_tr ?_
    refine Tr.weak (Γ' := [(6, (pEq (.bool x1)))]) ⟨rfl, trivial⟩ ?_
    refine Tr.ret ?_
    replace h := Option.some.inj h; subst h
    exact Ct.retH1 (Ωx := []) () rfl (RvOk.tmp rfl) rfl

theorem c_impl_allWithin_1 {n_0 : Int} {a_1 : Int} {a_2 : Int} {r : Bool} (h : m_impl_allWithin_1 n_0 a_1 a_2 = some r) : CallJ Try.prog 92 [(pEq (.int .i64 n_0)), (pPtr ((cK .i64) a_1)), (pPtr ((cK .i64) a_2))] (pEq (.bool r)) := by
  unfold m_impl_allWithin_1 at h
  refine CallJ.enterH Try.func92 rfl Try.ntmps92 rfl fun W I0 H => ?_
  refine Tr.weak (Γ' := [(0, (pEq (.int .i64 n_0))), (1, (pPtr ((cK .i64) a_1))), (2, (pPtr ((cK .i64) a_2)))]) ⟨rfl, rfl, rfl, trivial⟩ ?_
  refine Tr.seq ?_
  refine Tr.region ?_
  refine RegL.pure (p := (pEq (.bool false))) rfl rfl rfl (J_assign rfl Opd.con) ?_
  refine RegL.nil ?_
  refine Ct.then_tr ?_
  refine Tr.weak (Γ' := [(0, (pEq (.int .i64 n_0))), (1, (pPtr ((cK .i64) a_1))), (2, (pPtr ((cK .i64) a_2)))]) ⟨rfl, rfl, rfl, trivial⟩ ?_
  refine Tr.seq ?_
  refine Tr.region ?_
  refine RegL.pure (p := (pEq (.int .i64 n_0))) rfl rfl rfl (J_move rfl (Opd.tmp rfl)) ?_
  refine RegL.pure (p := (pEq (.int .i64 a_1))) rfl rfl rfl (J_load rfl Try.isAgg2 (Opd.tmp rfl)) ?_
  refine RegL.pure (p := (pEq (.int .i64 a_2))) rfl rfl rfl (J_load rfl Try.isAgg2 (Opd.tmp rfl)) ?_
  replace h := bind_some h; obtain ⟨x1, hx1, h⟩ := h
  refine RegL.pure (p := (pEq (.bool x1))) rfl rfl rfl (J_call rfl Try.call72 (c_impl_within hx1) (Opds.cons (Opd.tmp rfl) (Opds.cons (Opd.tmp rfl) (Opds.cons (Opd.tmp rfl) Opds.nil)))) ?_
  refine RegL.pure (p := (pEq (.bool (!x1)))) rfl rfl rfl (J_not rfl (Opd.tmp rfl)) ?_
  refine RegL.pure (p := (pEq (.bool (!x1)))) rfl rfl rfl (J_assign rfl (Opd.tmp rfl)) ?_
  refine RegL.nil ?_
  refine Ct.then_tr ?_
  refine Tr.weak (Γ' := [(4, (pEq (.bool (!x1))))]) ⟨rfl, trivial⟩ ?_
  refine Tr.ret ?_
  replace h := Option.some.inj h; subst h
  exact Ct.retH1 (Ωx := []) () rfl (RvOk.tmp rfl) rfl

theorem c_slices_IndexFunc_int64_int64 {s_0 : (List Int)} {f_1 : (Int → Option Bool)} {r : Int} (h : m_slices_IndexFunc_int64_int64 s_0 f_1 = some r) : CallJ Try.prog 105 [(pSl 1 (cK .i64) s_0), (pFn Try.prog (fun x => [(pEq (.int .i64 x))]) f_1 (fun y => (pEq (.bool y))))] (pEq (.int .i64 r)) := by
  unfold m_slices_IndexFunc_int64_int64 at h
  refine CallJ.enterH Try.func105 rfl Try.ntmps105 rfl fun W I0 H => ?_
  refine Tr.weak (Γ' := [(0, (pSl 1 (cK .i64) s_0)), (1, (pFn Try.prog (fun x => [(pEq (.int .i64 x))]) f_1 (fun y => (pEq (.bool y)))))]) ⟨rfl, rfl, trivial⟩ ?_
  refine Tr.seq ?_
  refine Tr.region ?_
  refine RegL.pure (p := (pEq (.int .i64 (0 : Int)))) rfl rfl rfl (J_assign rfl Opd.con) ?_
  refine RegL.nil ?_
  refine Ct.then_tr ?_
  refine Tr.weak (Γ' := [(0, (pSl 1 (cK .i64) s_0)), (1, (pFn Try.prog (fun x => [(pEq (.int .i64 x))]) f_1 (fun y => (pEq (.bool y)))))]) ⟨rfl, rfl, trivial⟩ ?_
  refine Tr.seq ?_
  refine Tr.seq ?_
  refine Tr.region ?_
  refine RegL.pure (p := (pSl 1 (cK .i64) s_0)) rfl rfl rfl (J_move rfl (Opd.tmp rfl)) ?_
  refine RegL.pure (p := (pEq (.int .i64 (s_0.length : Int)))) rfl rfl rfl (J_len rfl Try.underlying22 (Opd.tmp rfl) rfl) ?_
  refine RegL.pure (p := (pEq (.int .i64 (0 : Int)))) rfl rfl rfl (J_move rfl Opd.con) ?_
  refine RegL.nil ?_
  refine Ct.then_tr ?_
  refine Tr.weak (Γ' := [(0, (pSl 1 (cK .i64) s_0)), (1, (pFn Try.prog (fun x => [(pEq (.int .i64 x))]) f_1 (fun y => (pEq (.bool y))))), (7, (pEq (.int .i64 (s_0.length : Int)))), (8, (pEq (.int .i64 (0 : Int))))]) ⟨rfl, rfl, rfl, rfl, trivial⟩ ?_
  refine Tr.block ?_
  refine Tr.weak (Γ' := [(0, (pSl 1 (cK .i64) s_0)), (1, (pFn Try.prog (fun x => [(pEq (.int .i64 x))]) f_1 (fun y => (pEq (.bool y))))), (7, (pEq (.int .i64 (s_0.length : Int)))), (8, (pEq (.int .i64 (0 : Int))))]) ⟨rfl, rfl, rfl, rfl, trivial⟩ ?_
  refine Tr.loop (γ := Unit) (σ := Int) (Γσ := fun s g => [(0, (pSl 1 (cK .i64) s_0)), (1, (pFn Try.prog (fun x => [(pEq (.int .i64 x))]) f_1 (fun y => (pEq (.bool y))))), (7, (pEq (.int .i64 (s_0.length : Int)))), (8, (pEq (.int .i64 s)))]) (Ωσ := fun s g => []) (g := ()) h ?_
  clear h
  rintro v2 g3 t h
  replace h : m_slices_IndexFunc_int64_int64_B1 s_0 f_1 v2 = some t := h
  unfold m_slices_IndexFunc_int64_int64_B1 at h
  refine Tr.weakO (Γ' := [(0, (pSl 1 (cK .i64) s_0)), (1, (pFn Try.prog (fun x => [(pEq (.int .i64 x))]) f_1 (fun y => (pEq (.bool y))))), (7, (pEq (.int .i64 (s_0.length : Int)))), (8, (pEq (.int .i64 v2)))]) (Ω' := []) rfl ⟨rfl, rfl, rfl, rfl, trivial⟩ ?_
  refine Tr.seq ?_
  refine Tr.region ?_
  refine RegL.pure (p := (pEq (.bool (decide (v2 < (s_0.length : Int)))))) rfl rfl rfl (J_bin rfl (Opd.tmp rfl) (Opd.tmp rfl) B_lss) ?_
  refine RegL.nil ?_
  refine Ct.then_tr ?_
  refine Tr.weak (Γ' := [(0, (pSl 1 (cK .i64) s_0)), (1, (pFn Try.prog (fun x => [(pEq (.int .i64 x))]) f_1 (fun y => (pEq (.bool y))))), (7, (pEq (.int .i64 (s_0.length : Int)))), (8, (pEq (.int .i64 v2))), (9, (pEq (.bool (decide (v2 < (s_0.length : Int))))))]) ⟨rfl, rfl, rfl, rfl, rfl, trivial⟩ ?_
  refine Tr.seq ?_
  refine Tr.cond (Opd.tmp rfl) (fun hc => ?_) (fun hc => ?_)
  · replace h := bif_t hc h
    refine Tr.skip ?_
    refine Ct.then_tr ?_
    refine Tr.weak (Γ' := [(0, (pSl 1 (cK .i64) s_0)), (1, (pFn Try.prog (fun x => [(pEq (.int .i64 x))]) f_1 (fun y => (pEq (.bool y))))), (7, (pEq (.int .i64 (s_0.length : Int)))), (8, (pEq (.int .i64 v2)))]) ⟨rfl, rfl, rfl, rfl, trivial⟩ ?_
    refine Tr.seq ?_
    refine Tr.block ?_
    refine Tr.seq ?_
    refine Tr.region ?_
    refine RegL.pure (p := (pEq (.int .i64 v2))) rfl rfl rfl (J_move rfl (Opd.tmp rfl)) ?_
    refine RegL.pure (p := (pEq (.int .i64 v2))) rfl rfl rfl (J_assign rfl (Opd.tmp rfl)) ?_
    refine RegL.nil ?_
    refine Ct.then_tr ?_
    refine Tr.weak (Γ' := [(0, (pSl 1 (cK .i64) s_0)), (1, (pFn Try.prog (fun x => [(pEq (.int .i64 x))]) f_1 (fun y => (pEq (.bool y))))), (5, (pEq (.int .i64 v2))), (7, (pEq (.int .i64 (s_0.length : Int)))), (8, (pEq (.int .i64 v2)))]) ⟨rfl, rfl, rfl, rfl, rfl, trivial⟩ ?_
    refine Tr.seq ?_
    refine Tr.region ?_
    refine RegL.pure (p := (pFn Try.prog (fun x => [(pEq (.int .i64 x))]) f_1 (fun y => (pEq (.bool y))))) rfl rfl rfl (J_move rfl (Opd.tmp rfl)) ?_
    refine RegL.pure (p := (pSl 1 (cK .i64) s_0)) rfl rfl rfl (J_move rfl (Opd.tmp rfl)) ?_
    refine RegL.pure (p := (pEq (.int .i64 v2))) rfl rfl rfl (J_move rfl (Opd.tmp rfl)) ?_
    replace h := bind_some h; obtain ⟨x4, hx4, h⟩ := h
    refine RegL.pure (p := (pPtr ((cK .i64) x4))) rfl rfl rfl (J_idx rfl Try.underlying22 sz2 (Opd.tmp rfl) (Opd.tmp rfl) hx4) ?_
    refine RegL.pure (p := (pEq (.int .i64 x4))) rfl rfl rfl (J_load rfl Try.isAgg2 (Opd.tmp rfl)) ?_
    replace h := bind_some h; obtain ⟨x5, hx5, h⟩ := h
    refine RegL.pure (p := (pEq (.bool x5))) rfl rfl rfl (J_callv (x := x4) rfl (Opd.tmp rfl) rfl (Opds.cons (Opd.tmp rfl) Opds.nil) hx5 rfl) ?_
    refine RegL.nil ?_
    refine Ct.then_tr ?_
    refine Tr.weak (Γ' := [(0, (pSl 1 (cK .i64) s_0)), (1, (pFn Try.prog (fun x => [(pEq (.int .i64 x))]) f_1 (fun y => (pEq (.bool y))))), (5, (pEq (.int .i64 v2))), (7, (pEq (.int .i64 (s_0.length : Int)))), (8, (pEq (.int .i64 v2))), (16, (pEq (.bool x5)))]) ⟨rfl, rfl, rfl, rfl, rfl, rfl, trivial⟩ ?_
    refine Tr.cond (Opd.tmp rfl) (fun hc => ?_) (fun hc => ?_)
    · replace h := bif_t hc h
      refine Tr.seq ?_
      refine Tr.region ?_
      refine RegL.pure (p := (pEq (.int .i64 v2))) rfl rfl rfl (J_move rfl (Opd.tmp rfl)) ?_
      refine RegL.pure (p := (pEq (.int .i64 v2))) rfl rfl rfl (J_assign rfl (Opd.tmp rfl)) ?_
      refine RegL.nil ?_
      refine Ct.then_tr ?_
      refine Tr.weak (Γ' := [(4, (pEq (.int .i64 v2)))]) ⟨rfl, trivial⟩ ?_
      refine Tr.ret ?_
      refine Ct.blk_ret ?_
      refine Ct.then_ret ?_
      replace h := map_some h; obtain ⟨r1, h, rfl⟩ := h
      refine Ct.out_ret fun e => ?_
      subst e
      refine Ct.blk_ret ?_
      refine Ct.then_ret ?_
      replace h := Option.some.inj h; subst h
      exact Ct.retH1 (Ωx := []) () rfl (RvOk.tmp rfl) rfl
    · replace h := bif_f hc h
      refine Tr.skip ?_
      refine Ct.blk_normal ?_
      refine Ct.then_tr ?_
      refine Tr.weak (Γ' := [(0, (pSl 1 (cK .i64) s_0)), (1, (pFn Try.prog (fun x => [(pEq (.int .i64 x))]) f_1 (fun y => (pEq (.bool y))))), (7, (pEq (.int .i64 (s_0.length : Int)))), (8, (pEq (.int .i64 v2)))]) ⟨rfl, rfl, rfl, rfl, trivial⟩ ?_
      refine Tr.region ?_
      refine RegL.pure (p := (pEq (.int .i64 (w64 (v2 + (1 : Int)))))) rfl rfl rfl (J_bin rfl (Opd.tmp rfl) Opd.con B_add) ?_
      refine RegL.pure (p := (pEq (.int .i64 (w64 (v2 + (1 : Int)))))) rfl rfl rfl (J_move rfl (Opd.tmp rfl)) ?_
      refine RegL.nil ?_
      replace h := Option.some.inj h; subst h
      exact Ct.again () rfl ⟨rfl, rfl, rfl, rfl, trivial⟩
  · replace h := bif_f hc h
    refine Tr.exit ?_
    refine Ct.then_exit ?_
    replace h := map_some h; obtain ⟨r1, h, rfl⟩ := h
    refine Ct.out_exit fun e => ?_
    subst e
    refine Ct.blk_exit ?_
    refine Ct.then_tr ?_
    refine Tr.weak (Γ' := []) trivial ?_
    refine Tr.seq ?_
    refine Tr.region ?_
    refine RegL.pure (p := (pEq (.int .i64 (-1 : Int)))) rfl rfl rfl (J_assign rfl Opd.con) ?_
    refine RegL.nil ?_
    refine Ct.then_tr ?_
    refine Tr.weak (Γ' := [(4, (pEq (.int .i64 (-1 : Int))))]) ⟨rfl, trivial⟩ ?_
    refine Tr.ret ?_
    replace h := Option.some.inj h; subst h
    exact Ct.retH1 (Ωx := []) () rfl (RvOk.tmp rfl) rfl

theorem c_slices_ContainsFunc_int64_int64 {s_0 : (List Int)} {f_1 : (Int → Option Bool)} {r : Bool} (h : m_slices_ContainsFunc_int64_int64 s_0 f_1 = some r) : CallJ Try.prog 91 [(pSl 1 (cK .i64) s_0), (pFn Try.prog (fun x => [(pEq (.int .i64 x))]) f_1 (fun y => (pEq (.bool y))))] (pEq (.bool r)) := by
  unfold m_slices_ContainsFunc_int64_int64 at h
  refine CallJ.enterH Try.func91 rfl Try.ntmps91 rfl fun W I0 H => ?_
  refine Tr.weak (Γ' := [(0, (pSl 1 (cK .i64) s_0)), (1, (pFn Try.prog (fun x => [(pEq (.int .i64 x))]) f_1 (fun y => (pEq (.bool y)))))]) ⟨rfl, rfl, trivial⟩ ?_
  refine Tr.seq ?_
  refine Tr.region ?_
  refine RegL.pure (p := (pEq (.bool false))) rfl rfl rfl (J_assign rfl Opd.con) ?_
  refine RegL.nil ?_
  refine Ct.then_tr ?_
  refine Tr.weak (Γ' := [(0, (pSl 1 (cK .i64) s_0)), (1, (pFn Try.prog (fun x => [(pEq (.int .i64 x))]) f_1 (fun y => (pEq (.bool y)))))]) ⟨rfl, rfl, trivial⟩ ?_
  refine Tr.seq ?_
  refine Tr.region ?_
  refine RegL.pure (p := (pSl 1 (cK .i64) s_0)) rfl rfl rfl (J_move rfl (Opd.tmp rfl)) ?_
  refine RegL.pure (p := (pFn Try.prog (fun x => [(pEq (.int .i64 x))]) f_1 (fun y => (pEq (.bool y))))) rfl rfl rfl (J_move rfl (Opd.tmp rfl)) ?_
  replace h := bind_some h; obtain ⟨x1, hx1, h⟩ := h
  refine RegL.pure (p := (pEq (.int .i64 x1))) rfl rfl rfl (J_call rfl Try.call105 (c_slices_IndexFunc_int64_int64 hx1) (Opds.cons (Opd.tmp rfl) (Opds.cons (Opd.tmp rfl) Opds.nil))) ?_
  refine RegL.pure (p := (pEq (.bool (decide ((0 : Int) ≤ x1))))) rfl rfl rfl (J_bin rfl (Opd.tmp rfl) Opd.con B_geq) ?_
  refine RegL.pure (p := (pEq (.bool (decide ((0 : Int) ≤ x1))))) rfl rfl rfl (J_assign rfl (Opd.tmp rfl)) ?_
  refine RegL.nil ?_
  refine Ct.then_tr ?_
  refine Tr.weak (Γ' := [(4, (pEq (.bool (decide ((0 : Int) ≤ x1)))))]) ⟨rfl, trivial⟩ ?_
  refine Tr.ret ?_
  replace h := Option.some.inj h; subst h
  exact Ct.retH1 (Ωx := []) () rfl (RvOk.tmp rfl) rfl

theorem c_impl_allWithin {list_0 : (List Int)} {low_1 : Int} {high_2 : Int} {r : Bool} (h : m_impl_allWithin list_0 low_1 high_2 = some r) : CallJ Try.prog 56 [(pSl 1 (cK .i64) list_0), (pEq (.int .i64 low_1)), (pEq (.int .i64 high_2))] (pEq (.bool r)) := by
  unfold m_impl_allWithin at h
  refine CallJ.enterH Try.func56 rfl Try.ntmps56 rfl fun W I0 H => ?_
  refine Tr.weak (Γ' := [(0, (pSl 1 (cK .i64) list_0)), (1, (pEq (.int .i64 low_1))), (2, (pEq (.int .i64 high_2)))]) ⟨rfl, rfl, rfl, trivial⟩ ?_
  refine Tr.seq ?_
  refine Tr.region ?_
  refine RegL.pure (p := (pPtr ((cK .i64) low_1))) rfl rfl rfl (J_box rfl (Opd.tmp rfl) OneC.int) ?_
  refine RegL.pure (p := (pPtr ((cK .i64) high_2))) rfl rfl rfl (J_box rfl (Opd.tmp rfl) OneC.int) ?_
  refine RegL.pure (p := (pEq (.bool false))) rfl rfl rfl (J_assign rfl Opd.con) ?_
  refine RegL.nil ?_
  refine Ct.then_tr ?_
  refine Tr.weak (Γ' := [(0, (pSl 1 (cK .i64) list_0)), (4, (pPtr ((cK .i64) low_1))), (5, (pPtr ((cK .i64) high_2)))]) ⟨rfl, rfl, rfl, trivial⟩ ?_
  refine Tr.seq ?_
  refine Tr.region ?_
  refine RegL.pure (p := (pSl 1 (cK .i64) list_0)) rfl rfl rfl (J_move rfl (Opd.tmp rfl)) ?_
  refine RegL.pure (p := (pFn Try.prog (fun x => [(pEq (.int .i64 x))]) (fun x => m_impl_allWithin_1 x low_1 high_2) (fun y => (pEq (.bool y))))) rfl rfl rfl (J_makeFn rfl Try.call92 (Opds.cons (Opd.tmp rfl) (Opds.cons (Opd.tmp rfl) Opds.nil)) (fun _ _ h => c_impl_allWithin_1 h)) ?_
  replace h := bind_some h; obtain ⟨x1, hx1, h⟩ := h
  refine RegL.pure (p := (pEq (.bool x1))) rfl rfl rfl (J_call rfl Try.call91 (c_slices_ContainsFunc_int64_int64 hx1) (Opds.cons (Opd.tmp rfl) (Opds.cons (Opd.tmp rfl) Opds.nil))) ?_
  refine RegL.pure (p := (pEq (.bool (!x1)))) rfl rfl rfl (J_not rfl (Opd.tmp rfl)) ?_
  refine RegL.pure (p := (pEq (.bool (!x1)))) rfl rfl rfl (J_assign rfl (Opd.tmp rfl)) ?_
  refine RegL.nil ?_
  refine Ct.then_tr ?_
  refine Tr.weak (Γ' := [(6, (pEq (.bool (!x1))))]) ⟨rfl, trivial⟩ ?_
  refine Tr.ret ?_
  replace h := Option.some.inj h; subst h
  exact Ct.retH1 (Ωx := []) () rfl (RvOk.tmp rfl) rfl

theorem c_impl_domainOk {domain_0 : (List Int)} {r : Bool} (h : m_impl_domainOk domain_0 = some r) : CallJ Try.prog 96 [(pSl 1 (cK .i64) domain_0)] (pEq (.bool r)) := by
  unfold m_impl_domainOk at h
  refine CallJ.enterH Try.func96 rfl Try.ntmps96 rfl fun W I0 H => ?_
  refine Tr.weak (Γ' := [(0, (pSl 1 (cK .i64) domain_0))]) ⟨rfl, trivial⟩ ?_
  refine Tr.seq ?_
  refine Tr.region ?_
  refine RegL.pure (p := (pEq (.bool false))) rfl rfl rfl (J_assign rfl Opd.con) ?_
  refine RegL.nil ?_
  refine Ct.then_tr ?_
  refine Tr.weak (Γ' := [(0, (pSl 1 (cK .i64) domain_0))]) ⟨rfl, trivial⟩ ?_
  refine Tr.seq ?_
  replace h := bind_some h; obtain ⟨x1, hx1, h⟩ := h
  refine Tr.cut (γ := Unit) (Γm := fun g => [(2, (pEq (.bool x1)))]) (Ωm := fun g => []) ?_ (fun g7 => ?_)
  · clear h
    have h := hx1
    clear hx1
    refine Tr.region ?_
    refine RegL.pure (p := (pSl 1 (cK .i64) domain_0)) rfl rfl rfl (J_move rfl (Opd.tmp rfl)) ?_
    refine RegL.pure (p := (pEq (.int .i64 (domain_0.length : Int)))) rfl rfl rfl (J_len rfl Try.underlying22 (Opd.tmp rfl) rfl) ?_
    refine RegL.pure (p := (pEq (.bool (decide ((1 : Int) ≤ (domain_0.length : Int)))))) rfl rfl rfl (J_bin rfl (Opd.tmp rfl) Opd.con B_geq) ?_
    refine RegL.pure (p := (pEq (.bool (decide ((1 : Int) ≤ (domain_0.length : Int)))))) rfl rfl rfl (J_move rfl (Opd.tmp rfl)) ?_
    rcases Bool.eq_false_or_eq_true (decide ((1 : Int) ≤ (domain_0.length : Int))) with hc2 | hc2
    · replace h := bif_t hc2 h
      refine RegL.pureG (p := (pSl 1 (cK .i64) domain_0)) rfl rfl rfl hc2 rfl rfl (J_move rfl (Opd.tmp rfl)) ?_
      refine RegL.pureG (p := (pEq (.int .i64 (domain_0.length : Int)))) rfl rfl rfl hc2 rfl rfl (J_len rfl Try.underlying22 (Opd.tmp rfl) rfl) ?_
      refine RegL.pureG (p := (pEq (.bool (decide ((domain_0.length : Int) ≤ (32 : Int)))))) rfl rfl rfl hc2 rfl rfl (J_bin rfl (Opd.tmp rfl) Opd.con B_leq) ?_
      refine RegL.pure (p := (pEq (.bool (decide ((domain_0.length : Int) ≤ (32 : Int)))))) rfl rfl rfl (J_pick rfl (Opd.tmp rfl) (fun _ => (Opd.tmp rfl)) (fun hf => absurd (hc2.symm.trans hf) (by decide))) ?_
      refine RegL.pure (p := (pEq (.bool (decide ((domain_0.length : Int) ≤ (32 : Int)))))) rfl rfl rfl (J_move rfl (Opd.tmp rfl)) ?_
      rcases Bool.eq_false_or_eq_true (decide ((domain_0.length : Int) ≤ (32 : Int))) with hc3 | hc3
      · replace h := bif_t hc3 h
        refine RegL.pureG (p := (pSl 1 (cK .i64) domain_0)) rfl rfl rfl hc3 rfl rfl (J_move rfl (Opd.tmp rfl)) ?_
        replace h := bind_some h; obtain ⟨x4, hx4, h⟩ := h
        refine RegL.pureG (p := (pEq (.bool x4))) rfl rfl rfl hc3 rfl rfl (J_call rfl Try.call76 (c_impl_increasing hx4) (Opds.cons (Opd.tmp rfl) Opds.nil)) ?_
        refine RegL.pure (p := (pEq (.bool x4))) rfl rfl rfl (J_pick rfl (Opd.tmp rfl) (fun _ => (Opd.tmp rfl)) (fun hf => absurd (hc3.symm.trans hf) (by decide))) ?_
        refine RegL.pure (p := (pEq (.bool x4))) rfl rfl rfl (J_move rfl (Opd.tmp rfl)) ?_
        rcases Bool.eq_false_or_eq_true x4 with hc5 | hc5
        · replace h := bif_t hc5 h
          refine RegL.pureG (p := (pSl 1 (cK .i64) domain_0)) rfl rfl rfl hc5 rfl rfl (J_move rfl (Opd.tmp rfl)) ?_
          replace h := bind_some h; obtain ⟨x6, hx6, h⟩ := h
          refine RegL.pureG (p := (pEq (.bool x6))) rfl rfl rfl hc5 rfl rfl (J_call rfl Try.call56 (c_impl_allWithin hx6) (Opds.cons (Opd.tmp rfl) (Opds.cons Opd.con (Opds.cons Opd.con Opds.nil)))) ?_
          refine RegL.pure (p := (pEq (.bool x6))) rfl rfl rfl (J_pick rfl (Opd.tmp rfl) (fun _ => (Opd.tmp rfl)) (fun hf => absurd (hc5.symm.trans hf) (by decide))) ?_
          refine RegL.pure (p := (pEq (.bool x6))) rfl rfl rfl (J_assign rfl (Opd.tmp rfl)) ?_
          refine RegL.nil ?_
          replace h := Option.some.inj h; subst h
          exact Ct.mid () rfl ⟨rfl, trivial⟩
        · replace h := bif_f hc5 h
          refine RegL.skipG rfl rfl rfl hc5 rfl rfl ?_
          refine RegL.skipG rfl rfl rfl hc5 rfl rfl ?_
          refine RegL.pure (p := (pEq (.bool false))) rfl rfl rfl (J_pick rfl (Opd.tmp rfl) (fun hf => absurd (hc5.symm.trans hf) (by decide)) (fun _ => Opd.con)) ?_
          refine RegL.pure (p := (pEq (.bool false))) rfl rfl rfl (J_assign rfl (Opd.tmp rfl)) ?_
          refine RegL.nil ?_
          replace h := Option.some.inj h; subst h
          exact Ct.mid () rfl ⟨rfl, trivial⟩
      · replace h := bif_f hc3 h
        refine RegL.skipG rfl rfl rfl hc3 rfl rfl ?_
        refine RegL.skipG rfl rfl rfl hc3 rfl rfl ?_
        refine RegL.pure (p := (pEq (.bool false))) rfl rfl rfl (J_pick rfl (Opd.tmp rfl) (fun hf => absurd (hc3.symm.trans hf) (by decide)) (fun _ => Opd.con)) ?_
        refine RegL.pure (p := (pEq (.bool false))) rfl rfl rfl (J_move rfl (Opd.tmp rfl)) ?_
        refine RegL.skipG rfl rfl rfl rfl rfl rfl ?_
        refine RegL.skipG rfl rfl rfl rfl rfl rfl ?_
        refine RegL.pure (p := (pEq (.bool false))) rfl rfl rfl (J_pick rfl (Opd.tmp rfl) (fun hf => absurd hf (by decide)) (fun _ => Opd.con)) ?_
        refine RegL.pure (p := (pEq (.bool false))) rfl rfl rfl (J_assign rfl (Opd.tmp rfl)) ?_
        refine RegL.nil ?_
        replace h := Option.some.inj h; subst h
        exact Ct.mid () rfl ⟨rfl, trivial⟩
    · replace h := bif_f hc2 h
      refine RegL.skipG rfl rfl rfl hc2 rfl rfl ?_
      refine RegL.skipG rfl rfl rfl hc2 rfl rfl ?_
      refine RegL.skipG rfl rfl rfl hc2 rfl rfl ?_
      refine RegL.pure (p := (pEq (.bool false))) rfl rfl rfl (J_pick rfl (Opd.tmp rfl) (fun hf => absurd (hc2.symm.trans hf) (by decide)) (fun _ => Opd.con)) ?_
      refine RegL.pure (p := (pEq (.bool false))) rfl rfl rfl (J_move rfl (Opd.tmp rfl)) ?_
      refine RegL.skipG rfl rfl rfl rfl rfl rfl ?_
      refine RegL.skipG rfl rfl rfl rfl rfl rfl ?_
      refine RegL.pure (p := (pEq (.bool false))) rfl rfl rfl (J_pick rfl (Opd.tmp rfl) (fun hf => absurd hf (by decide)) (fun _ => Opd.con)) ?_
      refine RegL.pure (p := (pEq (.bool false))) rfl rfl rfl (J_move rfl (Opd.tmp rfl)) ?_
      refine RegL.skipG rfl rfl rfl rfl rfl rfl ?_
      refine RegL.skipG rfl rfl rfl rfl rfl rfl ?_
      refine RegL.pure (p := (pEq (.bool false))) rfl rfl rfl (J_pick rfl (Opd.tmp rfl) (fun hf => absurd hf (by decide)) (fun _ => Opd.con)) ?_
      refine RegL.pure (p := (pEq (.bool false))) rfl rfl rfl (J_assign rfl (Opd.tmp rfl)) ?_
      refine RegL.nil ?_
      replace h := Option.some.inj h; subst h
      exact Ct.mid () rfl ⟨rfl, trivial⟩
  · clear hx1
    refine Ct.then_tr ?_
    refine Tr.weak (Γ' := [(2, (pEq (.bool x1)))]) ⟨rfl, trivial⟩ ?_
    refine Tr.ret ?_
    replace h := Option.some.inj h; subst h
    exact Ct.retH1 (Ωx := []) () rfl (RvOk.tmp rfl) rfl

theorem c_impl_domainsOk_1 {d_0 : (List Int)} {r : Bool} (h : m_impl_domainsOk_1 d_0 = some r) : CallJ Try.prog 95 [(pSl 1 (cK .i64) d_0)] (pEq (.bool r)) := by
  unfold m_impl_domainsOk_1 at h
  refine CallJ.enterH Try.func95 rfl Try.ntmps95 rfl fun W I0 H => ?_
  refine Tr.weak (Γ' := [(0, (pSl 1 (cK .i64) d_0))]) ⟨rfl, trivial⟩ ?_
  refine Tr.seq ?_
  refine Tr.region ?_
  refine RegL.pure (p := (pEq (.bool false))) rfl rfl rfl (J_assign rfl Opd.con) ?_
  refine RegL.nil ?_
  refine Ct.then_tr ?_
  refine Tr.weak (Γ' := [(0, (pSl 1 (cK .i64) d_0))]) ⟨rfl, trivial⟩ ?_
  refine Tr.seq ?_
  refine Tr.region ?_
  refine RegL.pure (p := (pSl 1 (cK .i64) d_0)) rfl rfl rfl (J_move rfl (Opd.tmp rfl)) ?_
  replace h := bind_some h; obtain ⟨x1, hx1, h⟩ := h
  refine RegL.pure (p := (pEq (.bool x1))) rfl rfl rfl (J_call rfl Try.call96 (c_impl_domainOk hx1) (Opds.cons (Opd.tmp rfl) Opds.nil)) ?_
  refine RegL.pure (p := (pEq (.bool (!x1)))) rfl rfl rfl (J_not rfl (Opd.tmp rfl)) ?_
  refine RegL.pure (p := (pEq (.bool (!x1)))) rfl rfl rfl (J_assign rfl (Opd.tmp rfl)) ?_
  refine RegL.nil ?_
  refine Ct.then_tr ?_
  refine Tr.weak (Γ' := [(2, (pEq (.bool (!x1))))]) ⟨rfl, trivial⟩ ?_
  refine Tr.ret ?_
  replace h := Option.some.inj h; subst h
  exact Ct.retH1 (Ωx := []) () rfl (RvOk.tmp rfl) rfl

theorem c_impl_domainsOk {domains_0 : (List (List Int))} {r : Bool} (h : m_impl_domainsOk domains_0 = some r) : CallJ Try.prog 63 [(pSl 1 (cSl 1 (cK .i64)) domains_0)] (pEq (.bool r)) := by
  unfold m_impl_domainsOk at h
  refine CallJ.enterH Try.func63 rfl Try.ntmps63 rfl fun W I0 H => ?_
  refine Tr.weak (Γ' := [(0, (pSl 1 (cSl 1 (cK .i64)) domains_0))]) ⟨rfl, trivial⟩ ?_
  refine Tr.seq ?_
  refine Tr.region ?_
  refine RegL.pure (p := (pEq (.bool false))) rfl rfl rfl (J_assign rfl Opd.con) ?_
  refine RegL.nil ?_
  refine Ct.then_tr ?_
  refine Tr.weak (Γ' := [(0, (pSl 1 (cSl 1 (cK .i64)) domains_0))]) ⟨rfl, trivial⟩ ?_
  refine Tr.seq ?_
  replace h := bind_some h; obtain ⟨x1, hx1, h⟩ := h
  refine Tr.cut (γ := Unit) (Γm := fun g => [(2, (pEq (.bool x1)))]) (Ωm := fun g => []) ?_ (fun g5 => ?_)
  · clear h
    have h := hx1
    clear hx1
    refine Tr.region ?_
    refine RegL.pure (p := (pSl 1 (cSl 1 (cK .i64)) domains_0)) rfl rfl rfl (J_move rfl (Opd.tmp rfl)) ?_
    refine RegL.pure (p := (pEq (.int .i64 (domains_0.length : Int)))) rfl rfl rfl (J_len rfl Try.underlying27 (Opd.tmp rfl) rfl) ?_
    refine RegL.pure (p := (pEq (.bool (decide ((1 : Int) ≤ (domains_0.length : Int)))))) rfl rfl rfl (J_bin rfl (Opd.tmp rfl) Opd.con B_geq) ?_
    refine RegL.pure (p := (pEq (.bool (decide ((1 : Int) ≤ (domains_0.length : Int)))))) rfl rfl rfl (J_move rfl (Opd.tmp rfl)) ?_
    rcases Bool.eq_false_or_eq_true (decide ((1 : Int) ≤ (domains_0.length : Int))) with hc2 | hc2
    · replace h := bif_t hc2 h
      refine RegL.pureG (p := (pSl 1 (cSl 1 (cK .i64)) domains_0)) rfl rfl rfl hc2 rfl rfl (J_move rfl (Opd.tmp rfl)) ?_
      refine RegL.pureG (p := (pEq (.int .i64 (domains_0.length : Int)))) rfl rfl rfl hc2 rfl rfl (J_len rfl Try.underlying27 (Opd.tmp rfl) rfl) ?_
      refine RegL.pureG (p := (pEq (.bool (decide ((domains_0.length : Int) ≤ (24 : Int)))))) rfl rfl rfl hc2 rfl rfl (J_bin rfl (Opd.tmp rfl) Opd.con B_leq) ?_
      refine RegL.pure (p := (pEq (.bool (decide ((domains_0.length : Int) ≤ (24 : Int)))))) rfl rfl rfl (J_pick rfl (Opd.tmp rfl) (fun _ => (Opd.tmp rfl)) (fun hf => absurd (hc2.symm.trans hf) (by decide))) ?_
      refine RegL.pure (p := (pEq (.bool (decide ((domains_0.length : Int) ≤ (24 : Int)))))) rfl rfl rfl (J_move rfl (Opd.tmp rfl)) ?_
      rcases Bool.eq_false_or_eq_true (decide ((domains_0.length : Int) ≤ (24 : Int))) with hc3 | hc3
      · replace h := bif_t hc3 h
        refine RegL.pureG (p := (pSl 1 (cSl 1 (cK .i64)) domains_0)) rfl rfl rfl hc3 rfl rfl (J_move rfl (Opd.tmp rfl)) ?_
        replace h := bind_some h; obtain ⟨x4, hx4, h⟩ := h
        refine RegL.pureG (p := (pEq (.bool x4))) rfl rfl rfl hc3 rfl rfl (J_call rfl Try.call94 (c_slices_ContainsFunc_SSint64_int64 hx4) (Opds.cons (Opd.tmp rfl) (Opds.cons (Opd.fnv Try.call95 (fun _ _ h => c_impl_domainsOk_1 h)) Opds.nil))) ?_
        refine RegL.pureG (p := (pEq (.bool (!x4)))) rfl rfl rfl hc3 rfl rfl (J_not rfl (Opd.tmp rfl)) ?_
        refine RegL.pure (p := (pEq (.bool (!x4)))) rfl rfl rfl (J_pick rfl (Opd.tmp rfl) (fun _ => (Opd.tmp rfl)) (fun hf => absurd (hc3.symm.trans hf) (by decide))) ?_
        refine RegL.pure (p := (pEq (.bool (!x4)))) rfl rfl rfl (J_assign rfl (Opd.tmp rfl)) ?_
        refine RegL.nil ?_
        replace h := Option.some.inj h; subst h
        exact Ct.mid () rfl ⟨rfl, trivial⟩
      · replace h := bif_f hc3 h
        refine RegL.skipG rfl rfl rfl hc3 rfl rfl ?_
        refine RegL.skipG rfl rfl rfl hc3 rfl rfl ?_
        refine RegL.skipG rfl rfl rfl hc3 rfl rfl ?_
        refine RegL.pure (p := (pEq (.bool false))) rfl rfl rfl (J_pick rfl (Opd.tmp rfl) (fun hf => absurd (hc3.symm.trans hf) (by decide)) (fun _ => Opd.con)) ?_
        refine RegL.pure (p := (pEq (.bool false))) rfl rfl rfl (J_assign rfl (Opd.tmp rfl)) ?_
        refine RegL.nil ?_
        replace h := Option.some.inj h; subst h
        exact Ct.mid () rfl ⟨rfl, trivial⟩
    · replace h := bif_f hc2 h
      refine RegL.skipG rfl rfl rfl hc2 rfl rfl ?_
      refine RegL.skipG rfl rfl rfl hc2 rfl rfl ?_
      refine RegL.skipG rfl rfl rfl hc2 rfl rfl ?_
      refine RegL.pure (p := (pEq (.bool false))) rfl rfl rfl (J_pick rfl (Opd.tmp rfl) (fun hf => absurd (hc2.symm.trans hf) (by decide)) (fun _ => Opd.con)) ?_
      refine RegL.pure (p := (pEq (.bool false))) rfl rfl rfl (J_move rfl (Opd.tmp rfl)) ?_
      refine RegL.skipG rfl rfl rfl rfl rfl rfl ?_
      refine RegL.skipG rfl rfl rfl rfl rfl rfl ?_
      refine RegL.skipG rfl rfl rfl rfl rfl rfl ?_
      refine RegL.pure (p := (pEq (.bool false))) rfl rfl rfl (J_pick rfl (Opd.tmp rfl) (fun hf => absurd hf (by decide)) (fun _ => Opd.con)) ?_
      refine RegL.pure (p := (pEq (.bool false))) rfl rfl rfl (J_assign rfl (Opd.tmp rfl)) ?_
      refine RegL.nil ?_
      replace h := Option.some.inj h; subst h
      exact Ct.mid () rfl ⟨rfl, trivial⟩
  · clear hx1
    refine Ct.then_tr ?_
    refine Tr.weak (Γ' := [(2, (pEq (.bool x1)))]) ⟨rfl, trivial⟩ ?_
    refine Tr.ret ?_
    replace h := Option.some.inj h; subst h
    exact Ct.retH1 (Ωx := []) () rfl (RvOk.tmp rfl) rfl

theorem o_slices_Clone_int64_int64 {s_0 : (List Int)}  {r : (List Int)} (h : m_slices_Clone_int64_int64 s_0 = some r) : CallH Try.prog 77 [(pSl 1 (cK .i64) s_0)] [] (fun g : G3 => (pEq (.slice g.1 g.2.1 g.2.2))) (fun g : G3 => [oSl 2 1 (cK .i64) g.1 g.2.1 g.2.2 r]) := by
  unfold m_slices_Clone_int64_int64 at h
  refine CallH.enter Try.func77 rfl Try.ntmps77 rfl fun W I0 H => ?_
  refine Tr.weak (Γ' := [(0, (pSl 1 (cK .i64) s_0))]) ⟨rfl, trivial⟩ ?_
  refine Tr.seq ?_
  refine Tr.region ?_
  refine RegL.pure (p := (pEq (.slice none 0 0))) rfl rfl rfl (J_assign rfl Opd.con) ?_
  refine RegL.nil ?_
  refine Ct.then_tr ?_
  refine Tr.weak (Γ' := [(0, (pSl 1 (cK .i64) s_0))]) ⟨rfl, trivial⟩ ?_
  refine Tr.seq ?_
  refine Tr.seq ?_
  refine Tr.region ?_
  refine RegL.pure (p := (pSl 1 (cK .i64) s_0)) rfl rfl rfl (J_move rfl (Opd.tmp rfl)) ?_
  refine RegL.pure (p := (pNil s_0)) rfl rfl rfl (J_nilEq rfl Try.underlying22 (Opd.tmp rfl)) ?_
  refine RegL.nil ?_
  refine Ct.then_tr ?_
  refine Tr.weak (Γ' := [(0, (pSl 1 (cK .i64) s_0)), (4, (pNil s_0))]) ⟨rfl, rfl, trivial⟩ ?_
  refine Tr.condNil rfl (fun hl => ?_) ?_
  · replace h : some ([] : (List Int)) = some r := by subst hl; simpa [appL] using h
    refine Tr.seq ?_
    refine Tr.region ?_
    refine RegL.pure (p := (pEq (.slice none 0 0))) rfl rfl rfl (J_assign rfl Opd.con) ?_
    refine RegL.nil ?_
    refine Ct.then_tr ?_
    refine Tr.weak (Γ' := [(2, (pEq (.slice none 0 0)))]) ⟨rfl, trivial⟩ ?_
    refine Tr.ret ?_
    refine Ct.then_ret ?_
    refine Ct.re (Ω2 := [oSl 2 1 (cK .i64) none 0 0 ([] : (List Int))]) (fun h => SatO.nilRow h) ?_
    replace h := Option.some.inj h; subst h
    exact Ct.retH1 (Ωx := []) (none, 0, 0) rfl (RvOk.tmp rfl) rfl
  · refine Tr.skip ?_
    refine Ct.then_tr ?_
    refine Tr.weak (Γ' := [(0, (pSl 1 (cK .i64) s_0))]) ⟨rfl, trivial⟩ ?_
    refine Tr.seq ?_
    refine Tr.region ?_
    refine RegL.step (γ := Option Addr) (p := fun a => pEq (.slice a 0 0)) (Ω' := fun a => [oSl 2 1 (cK .i64) a 0 0 ([] : (List Int))]) rfl rfl rfl (M_buildSlice (qss := []) rfl Try.underlying22 el2 rfl Parts.nil rfl rfl) fun o3 => ?_
    refine RegL.pure (p := (pSl 1 (cK .i64) s_0)) rfl rfl rfl (J_move rfl (Opd.tmp rfl)) ?_
    replace h := bind_some h; obtain ⟨x4, hx4, h⟩ := h
    refine RegL.step (γ := Option Addr × Nat) (p := fun g => pEq (.slice g.1 x4.length g.2)) (Ω' := fun g => [oSl 2 1 (cK .i64) g.1 x4.length g.2 x4]) rfl rfl rfl (M_appendI rfl Try.underlying22 el2 (Opd.tmp rfl) (Opd.tmp rfl) hx4) fun g5 => ?_
    refine RegL.pure (p := (pEq (.slice g5.1 x4.length g5.2))) rfl rfl rfl (J_assign rfl (Opd.tmp rfl)) ?_
    refine RegL.nil ?_
    refine Ct.then_tr ?_
    refine Tr.weak (Γ' := [(2, (pEq (.slice g5.1 x4.length g5.2)))]) ⟨rfl, trivial⟩ ?_
    refine Tr.ret ?_
    replace h := Option.some.inj h; subst h
    exact Ct.retH1 (Ωx := []) (g5.1, x4.length, g5.2) rfl (RvOk.tmp rfl) rfl

theorem c_slices_Clone_int64_int64 {s_0 : (List Int)} {r : (List Int)} (h : m_slices_Clone_int64_int64 s_0 = some r) : CallJ Try.prog 77 [(pSl 1 (cK .i64) s_0)] (pSl 1 (cK .i64) r) :=
  CallH.frozen (o_slices_Clone_int64_int64 h) (fun g => (Conv.row 0 (fun _ => rfl) rfl))

theorem o_impl_cloneLists {lists_0 : (List (List Int))}  {r : (List (List Int))} (h : m_impl_cloneLists lists_0 = some r) : CallH Try.prog 71 [(pSl 1 (cSl 1 (cK .i64)) lists_0)] [] (fun g : (G3 × List G3) => (pEq (.slice g.1.1 g.1.2.1 g.1.2.2))) (fun g : (G3 × List G3) => [oSS 22 2 1 (cK .i64) g.1.1 g.1.2.1 g.1.2.2 g.2 r]) := by
  unfold m_impl_cloneLists at h
  refine CallH.enter Try.func71 rfl Try.ntmps71 rfl fun W I0 H => ?_
  refine Tr.weak (Γ' := [(0, (pSl 1 (cSl 1 (cK .i64)) lists_0))]) ⟨rfl, trivial⟩ ?_
  refine Tr.seq ?_
  refine Tr.region ?_
  refine RegL.pure (p := (pEq (.slice none 0 0))) rfl rfl rfl (J_assign rfl Opd.con) ?_
  refine RegL.nil ?_
  refine Ct.then_tr ?_
  refine Tr.weak (Γ' := [(0, (pSl 1 (cSl 1 (cK .i64)) lists_0))]) ⟨rfl, trivial⟩ ?_
  refine Tr.seq ?_
  refine Tr.region ?_
  refine RegL.pure (p := (pEq (.slice none 0 0))) rfl rfl rfl (J_assign rfl Opd.con) ?_
  refine RegL.nil ?_
  refine Ct.then_tr ?_
  refine Tr.weak (Γ' := [(0, (pSl 1 (cSl 1 (cK .i64)) lists_0)), (3, (pEq (.slice none 0 0)))]) ⟨rfl, rfl, trivial⟩ ?_
  refine Tr.seq ?_
  refine Tr.seq ?_
  refine Tr.region ?_
  refine RegL.pure (p := (pSl 1 (cSl 1 (cK .i64)) lists_0)) rfl rfl rfl (J_move rfl (Opd.tmp rfl)) ?_
  refine RegL.pure (p := (pEq (.int .i64 (lists_0.length : Int)))) rfl rfl rfl (J_len rfl Try.underlying27 (Opd.tmp rfl) rfl) ?_
  refine RegL.pure (p := (pEq (.int .i64 (0 : Int)))) rfl rfl rfl (J_move rfl Opd.con) ?_
  refine RegL.nil ?_
  refine Ct.then_tr ?_
  refine Tr.weak (Γ' := [(3, (pEq (.slice none 0 0))), (6, (pSl 1 (cSl 1 (cK .i64)) lists_0)), (7, (pEq (.int .i64 (lists_0.length : Int)))), (8, (pEq (.int .i64 (0 : Int))))]) ⟨rfl, rfl, rfl, rfl, trivial⟩ ?_
  refine Tr.re (Ω2 := [oSS 22 2 1 (cK .i64) none 0 0 [] ([] : (List (List Int)))]) (fun h => nest_nil h) ?_
  replace h := bind_some h; obtain ⟨x2, hx2, h⟩ := h
  refine Tr.cut (γ := (G3 × List G3)) (Γm := fun g => [(3, (pEq (.slice g.1.1 g.1.2.1 g.1.2.2)))]) (Ωm := fun g => [oSS 22 2 1 (cK .i64) g.1.1 g.1.2.1 g.1.2.2 g.2 x2]) ?_ (fun g15 => ?_)
  · clear h
    have h := hx2
    clear hx2
    refine Tr.block ?_
    refine Tr.weak (Γ' := [(3, (pEq (.slice none 0 0))), (6, (pSl 1 (cSl 1 (cK .i64)) lists_0)), (7, (pEq (.int .i64 (lists_0.length : Int)))), (8, (pEq (.int .i64 (0 : Int))))]) ⟨rfl, rfl, rfl, rfl, trivial⟩ ?_
    refine Tr.loop (γ := (G3 × List G3)) (σ := (Int × (List (List Int)))) (Γσ := fun s g => [(3, (pEq (.slice g.1.1 g.1.2.1 g.1.2.2))), (6, (pSl 1 (cSl 1 (cK .i64)) lists_0)), (7, (pEq (.int .i64 (lists_0.length : Int)))), (8, (pEq (.int .i64 s.1)))]) (Ωσ := fun s g => [oSS 22 2 1 (cK .i64) g.1.1 g.1.2.1 g.1.2.2 g.2 s.2]) (g := ((none, 0, 0), [])) h ?_
    clear h
    rintro ⟨v4, v5⟩ g6 t h
    replace h : m_impl_cloneLists_B3 lists_0 v4 v5 = some t := h
    unfold m_impl_cloneLists_B3 at h
    refine Tr.weakO (Γ' := [(3, (pEq (.slice g6.1.1 g6.1.2.1 g6.1.2.2))), (6, (pSl 1 (cSl 1 (cK .i64)) lists_0)), (7, (pEq (.int .i64 (lists_0.length : Int)))), (8, (pEq (.int .i64 v4)))]) (Ω' := [oSS 22 2 1 (cK .i64) g6.1.1 g6.1.2.1 g6.1.2.2 g6.2 v5]) rfl ⟨rfl, rfl, rfl, rfl, trivial⟩ ?_
    refine Tr.seq ?_
    refine Tr.region ?_
    refine RegL.pure (p := (pEq (.bool (decide (v4 < (lists_0.length : Int)))))) rfl rfl rfl (J_bin rfl (Opd.tmp rfl) (Opd.tmp rfl) B_lss) ?_
    refine RegL.nil ?_
    refine Ct.then_tr ?_
    refine Tr.weak (Γ' := [(3, (pEq (.slice g6.1.1 g6.1.2.1 g6.1.2.2))), (6, (pSl 1 (cSl 1 (cK .i64)) lists_0)), (7, (pEq (.int .i64 (lists_0.length : Int)))), (8, (pEq (.int .i64 v4))), (9, (pEq (.bool (decide (v4 < (lists_0.length : Int))))))]) ⟨rfl, rfl, rfl, rfl, rfl, trivial⟩ ?_
    refine Tr.seq ?_
    refine Tr.cond (Opd.tmp rfl) (fun hc => ?_) (fun hc => ?_)
    · replace h := bif_t hc h
      refine Tr.skip ?_
      refine Ct.then_tr ?_
      refine Tr.weak (Γ' := [(3, (pEq (.slice g6.1.1 g6.1.2.1 g6.1.2.2))), (6, (pSl 1 (cSl 1 (cK .i64)) lists_0)), (7, (pEq (.int .i64 (lists_0.length : Int)))), (8, (pEq (.int .i64 v4)))]) ⟨rfl, rfl, rfl, rfl, trivial⟩ ?_
      refine Tr.seq ?_
      refine Tr.block ?_
      refine Tr.seq ?_
      refine Tr.region ?_
      replace h := bind_some h; obtain ⟨x7, hx7, h⟩ := h
      refine RegL.pure (p := (pPtr ((cSl 1 (cK .i64)) x7))) rfl rfl rfl (J_idx rfl Try.underlying27 sz22 (Opd.tmp rfl) (Opd.tmp rfl) hx7) ?_
      refine RegL.pure (p := (pSl 1 (cK .i64) x7)) rfl rfl rfl (J_load rfl Try.isAgg22 (Opd.tmp rfl)) ?_
      refine RegL.pure (p := (pSl 1 (cK .i64) x7)) rfl rfl rfl (J_assign rfl (Opd.tmp rfl)) ?_
      refine RegL.nil ?_
      refine Ct.then_tr ?_
      refine Tr.weak (Γ' := [(3, (pEq (.slice g6.1.1 g6.1.2.1 g6.1.2.2))), (5, (pSl 1 (cK .i64) x7)), (6, (pSl 1 (cSl 1 (cK .i64)) lists_0)), (7, (pEq (.int .i64 (lists_0.length : Int)))), (8, (pEq (.int .i64 v4)))]) ⟨rfl, rfl, rfl, rfl, rfl, trivial⟩ ?_
      refine Tr.region ?_
      refine RegL.pure (p := (pEq (.slice g6.1.1 g6.1.2.1 g6.1.2.2))) rfl rfl rfl (J_move rfl (Opd.tmp rfl)) ?_
      refine RegL.pure (p := (pSl 1 (cK .i64) x7)) rfl rfl rfl (J_move rfl (Opd.tmp rfl)) ?_
      replace h := bind_some h; obtain ⟨x8, hx8, h⟩ := h
      refine RegL.step (γ := G3) (p := fun g => (pEq (.slice g.1 g.2.1 g.2.2))) (Ω' := fun g => [oSl 2 1 (cK .i64) g.1 g.2.1 g.2.2 x8, oSS 22 2 1 (cK .i64) g6.1.1 g6.1.2.1 g6.1.2.2 g6.2 v5]) rfl rfl rfl (M_callH (Ωi := []) rfl Try.call77 (o_slices_Clone_int64_int64 hx8) (Opds.cons (Opd.tmp rfl) Opds.nil)) fun g9 => ?_
      refine RegL.step (γ := Option Addr) (p := fun a => pEq (.slice a 1 1)) (Ω' := fun a => [oSl 22 1 cHdr a 1 1 [(g9.1, g9.2.1, g9.2.2)], oSl 2 1 (cK .i64) g9.1 g9.2.1 g9.2.2 x8, oSS 22 2 1 (cK .i64) g6.1.1 g6.1.2.1 g6.1.2.2 g6.2 v5]) rfl rfl rfl (M_buildSlice (qss := [(0, cHdr (g9.1, g9.2.1, g9.2.2))]) rfl Try.underlying27 elh22 rfl (Parts.cons (Part.one (Opd.tmp rfl) OneC.slice) Parts.nil) rfl rfl) fun o11 => ?_
      refine RegL.re (Ω2 := [oSS 22 2 1 (cK .i64) o11 1 1 [(g9.1, g9.2.1, g9.2.2)] [x8], oSS 22 2 1 (cK .i64) g6.1.1 g6.1.2.1 g6.1.2.2 g6.2 v5]) (fun h => nest_one h) ?_
      replace h := bind_some h; obtain ⟨x13, hx13, h⟩ := h
      refine RegL.re (Ω2 := [oSS 22 2 1 (cK .i64) g6.1.1 g6.1.2.1 g6.1.2.2 g6.2 v5, oSS 22 2 1 (cK .i64) o11 1 1 [(g9.1, g9.2.1, g9.2.2)] [x8]]) (fun h => SatO.pick 1 h) ?_
      refine RegL.step (γ := (Option Addr × Nat) × List G3) (p := fun g => pEq (.slice g.1.1 x13.length g.1.2)) (Ω' := fun g => [oSS 22 2 1 (cK .i64) g.1.1 x13.length g.1.2 g.2 x13]) rfl rfl rfl (M_nestAppend rfl Try.underlying27 elh22 (Opd.tmp rfl) (Opd.tmp rfl) hx13) fun g14 => ?_
      refine RegL.pure (p := (pEq (.slice g14.1.1 x13.length g14.1.2))) rfl rfl rfl (J_assign rfl (Opd.tmp rfl)) ?_
      refine RegL.nil ?_
      refine Ct.blk_normal ?_
      refine Ct.then_tr ?_
      refine Tr.weak (Γ' := [(3, (pEq (.slice g14.1.1 x13.length g14.1.2))), (6, (pSl 1 (cSl 1 (cK .i64)) lists_0)), (7, (pEq (.int .i64 (lists_0.length : Int)))), (8, (pEq (.int .i64 v4)))]) ⟨rfl, rfl, rfl, rfl, trivial⟩ ?_
      refine Tr.region ?_
      refine RegL.pure (p := (pEq (.int .i64 (w64 (v4 + (1 : Int)))))) rfl rfl rfl (J_bin rfl (Opd.tmp rfl) Opd.con B_add) ?_
      refine RegL.pure (p := (pEq (.int .i64 (w64 (v4 + (1 : Int)))))) rfl rfl rfl (J_move rfl (Opd.tmp rfl)) ?_
      refine RegL.nil ?_
      replace h := Option.some.inj h; subst h
      exact Ct.again ((g14.1.1, x13.length, g14.1.2), g14.2) rfl ⟨rfl, rfl, rfl, rfl, trivial⟩
    · replace h := bif_f hc h
      refine Tr.exit ?_
      refine Ct.then_exit ?_
      replace h := map_some h; obtain ⟨r1, h, rfl⟩ := h
      refine Ct.out_exit fun e => ?_
      subst e
      refine Ct.blk_exit ?_
      replace h := Option.some.inj h; subst h
      exact Ct.mid ((g6.1.1, g6.1.2.1, g6.1.2.2), g6.2) rfl ⟨rfl, trivial⟩
  · clear hx2
    refine Ct.then_tr ?_
    refine Tr.weak (Γ' := [(3, (pEq (.slice g15.1.1 g15.1.2.1 g15.1.2.2)))]) ⟨rfl, trivial⟩ ?_
    refine Tr.seq ?_
    refine Tr.region ?_
    refine RegL.pure (p := (pEq (.slice g15.1.1 g15.1.2.1 g15.1.2.2))) rfl rfl rfl (J_move rfl (Opd.tmp rfl)) ?_
    refine RegL.pure (p := (pEq (.slice g15.1.1 g15.1.2.1 g15.1.2.2))) rfl rfl rfl (J_assign rfl (Opd.tmp rfl)) ?_
    refine RegL.nil ?_
    refine Ct.then_tr ?_
    refine Tr.weak (Γ' := [(2, (pEq (.slice g15.1.1 g15.1.2.1 g15.1.2.2)))]) ⟨rfl, trivial⟩ ?_
    refine Tr.ret ?_
    replace h := Option.some.inj h; subst h
    exact Ct.retH1 (Ωx := []) ((g15.1.1, g15.1.2.1, g15.1.2.2), g15.2) rfl (RvOk.tmp rfl) rfl

theorem c_impl_cloneLists {lists_0 : (List (List Int))} {r : (List (List Int))} (h : m_impl_cloneLists lists_0 = some r) : CallJ Try.prog 71 [(pSl 1 (cSl 1 (cK .i64)) lists_0)] (pSl 1 (cSl 1 (cK .i64)) r) :=
  CallH.frozen (o_impl_cloneLists h) (fun g => (Conv.nest 0 (fun _ => rfl) rfl))

theorem c_impl_indexValid_int64 {list_0 : (List (List Int))} {k_1 : Int} {r : Bool} (h : m_impl_indexValid_int64 list_0 k_1 = some r) : CallJ Try.prog 97 [(pSl 1 (cSl 1 (cK .i64)) list_0), (pEq (.int .i64 k_1))] (pEq (.bool r)) := by
  unfold m_impl_indexValid_int64 at h
  refine CallJ.enterH Try.func97 rfl Try.ntmps97 rfl fun W I0 H => ?_
  refine Tr.weak (Γ' := [(0, (pSl 1 (cSl 1 (cK .i64)) list_0)), (1, (pEq (.int .i64 k_1)))]) ⟨rfl, rfl, trivial⟩ ?_
  refine Tr.seq ?_
  refine Tr.region ?_
  refine RegL.pure (p := (pEq (.bool false))) rfl rfl rfl (J_assign rfl Opd.con) ?_
  refine RegL.nil ?_
  refine Ct.then_tr ?_
  refine Tr.weak (Γ' := [(0, (pSl 1 (cSl 1 (cK .i64)) list_0)), (1, (pEq (.int .i64 k_1)))]) ⟨rfl, rfl, trivial⟩ ?_
  refine Tr.seq ?_
  refine Tr.region ?_
  refine RegL.pure (p := (pEq (.int .i64 k_1))) rfl rfl rfl (J_move rfl (Opd.tmp rfl)) ?_
  refine RegL.pure (p := (pSl 1 (cSl 1 (cK .i64)) list_0)) rfl rfl rfl (J_move rfl (Opd.tmp rfl)) ?_
  refine RegL.pure (p := (pEq (.int .i64 (list_0.length : Int)))) rfl rfl rfl (J_len rfl Try.underlying27 (Opd.tmp rfl) rfl) ?_
  refine RegL.pure (p := (pEq (.int .i64 (w64 ((list_0.length : Int) - (1 : Int)))))) rfl rfl rfl (J_bin rfl (Opd.tmp rfl) Opd.con B_sub) ?_
  replace h := bind_some h; obtain ⟨x1, hx1, h⟩ := h
  refine RegL.pure (p := (pEq (.bool x1))) rfl rfl rfl (J_call rfl Try.call72 (c_impl_within hx1) (Opds.cons (Opd.tmp rfl) (Opds.cons Opd.con (Opds.cons (Opd.tmp rfl) Opds.nil)))) ?_
  refine RegL.pure (p := (pEq (.bool x1))) rfl rfl rfl (J_assign rfl (Opd.tmp rfl)) ?_
  refine RegL.nil ?_
  refine Ct.then_tr ?_
  refine Tr.weak (Γ' := [(4, (pEq (.bool x1)))]) ⟨rfl, trivial⟩ ?_
  refine Tr.ret ?_
  replace h := Option.some.inj h; subst h
  exact Ct.retH1 (Ωx := []) () rfl (RvOk.tmp rfl) rfl

theorem c_impl_Problem_hasItem {p_0 : GProblem} {i_1 : Int} {r : Bool} (h : m_impl_Problem_hasItem p_0 i_1 = some r) : CallJ Try.prog 66 [(pAgg (cGProblem p_0)), (pEq (.int .i64 i_1))] (pEq (.bool r)) := by
  unfold m_impl_Problem_hasItem at h
  refine CallJ.enterH Try.func66 rfl Try.ntmps66 rfl fun W I0 H => ?_
  refine Tr.weak (Γ' := [(0, (pAgg (cGProblem p_0))), (1, (pEq (.int .i64 i_1)))]) ⟨rfl, rfl, trivial⟩ ?_
  refine Tr.seq ?_
  refine Tr.region ?_
  refine RegL.pure (p := (pPtr (cGProblem p_0))) rfl rfl rfl (J_boxA rfl (Opd.tmp rfl)) ?_
  refine RegL.pure (p := (pEq (.bool false))) rfl rfl rfl (J_assign rfl Opd.con) ?_
  refine RegL.nil ?_
  refine Ct.then_tr ?_
  refine Tr.weak (Γ' := [(1, (pEq (.int .i64 i_1))), (2, (pPtr (cGProblem p_0)))]) ⟨rfl, rfl, trivial⟩ ?_
  refine Tr.seq ?_
  refine Tr.region ?_
  refine RegL.pure (p := (pPtr ((cSl 1 (cSl 1 (cK .i64))) p_0.Domains))) rfl rfl rfl (J_fieldAddr rfl Try.underlying32 rfl sz27 (by decide) (Opd.tmp rfl) rfl) ?_
  refine RegL.pure (p := (pSl 1 (cSl 1 (cK .i64)) p_0.Domains)) rfl rfl rfl (J_load rfl Try.isAgg27 (Opd.tmp rfl)) ?_
  refine RegL.pure (p := (pEq (.int .i64 i_1))) rfl rfl rfl (J_move rfl (Opd.tmp rfl)) ?_
  replace h := bind_some h; obtain ⟨x1, hx1, h⟩ := h
  refine RegL.pure (p := (pEq (.bool x1))) rfl rfl rfl (J_call rfl Try.call97 (c_impl_indexValid_int64 hx1) (Opds.cons (Opd.tmp rfl) (Opds.cons (Opd.tmp rfl) Opds.nil))) ?_
  refine RegL.pure (p := (pEq (.bool x1))) rfl rfl rfl (J_assign rfl (Opd.tmp rfl)) ?_
  refine RegL.nil ?_
  refine Ct.then_tr ?_
  refine Tr.weak (Γ' := [(4, (pEq (.bool x1)))]) ⟨rfl, trivial⟩ ?_
  refine Tr.ret ?_
  replace h := Option.some.inj h; subst h
  exact Ct.retH1 (Ωx := []) () rfl (RvOk.tmp rfl) rfl


end Go.Proofs.Ytmaahfokhfmmnaa.fnExactMakeProblemW
