/-
  The walks that the law FnExactProblemOf reaches: each function computes its model. Printed by our own program.
-/
import Derived.Test.YtipkpdobbeggnaaProg
import Derived.Test.YtipkpdobbeggnaaMod
import Derived.Test.YtipkpdobbeggnaaCopy
import Derived.KernelRfl
namespace Go.Proofs.Ytipkpdobbeggnaa.fnExactProblemOfW
open Go Go.RowKit Go.Wk
set_option linter.unusedVariables false
set_option maxRecDepth 100000
theorem hmix : Try.prog.follows .mixedOrders = true := by kernel_rfl
theorem sz2 : ∀ w, (Go.sizeOf 2).run Try.prog w = .ok 1 w := fun _ => by kernel_rfl
theorem sz22 : ∀ w, (Go.sizeOf 22).run Try.prog w = .ok 1 w := fun _ => by kernel_rfl
theorem sz23 : ∀ w, (Go.sizeOf 23).run Try.prog w = .ok 1 w := fun _ => by kernel_rfl
theorem sz34 : ∀ w, (Go.sizeOf 34).run Try.prog w = .ok 2 w := fun _ => by kernel_rfl
theorem zero2 : Zero Try.prog 2 [(pEq (.int .i64 (0 : Int)))] := ⟨(.int .i64 0), [.int .i64 0], fun _ => by kernel_rfl, rfl, fun _ _ => ⟨rfl, trivial⟩⟩
theorem zero34 : Zero Try.prog 34 [(pEq (.slice none 0 0)), (pEq (.slice none 0 0))] := ⟨(.agg #[.slice none 0 0, .slice none 0 0]), [.slice none 0 0, .slice none 0 0], fun _ => by kernel_rfl, rfl, fun _ _ => ⟨rfl, ⟨rfl, trivial⟩⟩⟩
theorem bl34 : ∀ ps, Try.prog.built 34 ps = Instr.fill (fun x => (#[(0, 1), (1, 1)] : Array (Nat × Nat))[x]?) (List.toArray [.slice none 0 0, .slice none 0 0]) ps := fun _ => by kernel_rfl
theorem bz34 : ∀ I w, Vals I w [(pSl 1 (cSl 1 (cK .i64)) ([] : (List (List Int)))), (pSl 1 (cSl 1 (cK .i64)) ([] : (List (List Int))))] [.slice none 0 0, .slice none 0 0] := fun _ _ => ⟨Pd.nilsl, ⟨Pd.nilsl, trivial⟩⟩
theorem bz34o : ∀ I w, Vals I w [(pEq (.slice none 0 0)), (pEq (.slice none 0 0))] [.slice none 0 0, .slice none 0 0] := fun _ _ => ⟨rfl, ⟨rfl, trivial⟩⟩
theorem el2i : (Try.prog.info? 2).map (fun i => (i.zero, i.size, i.bytes)) = some (some (.int .i64 0), 1, 8) := by kernel_rfl
theorem el2 : Elem Try.prog 2 1 8 (cK .i64) (0 : Int) := by
  obtain ⟨i, h1, h2, h3, h4⟩ := info_parts el2i
  exact ⟨i, (.int .i64 0), [.int .i64 0], h1, h2, h3, h4, rfl, rfl, by decide, fun _ _ => ⟨rfl, trivial⟩, fun _ => rfl, fun _ _ _ _ h => ones_of ((OneCs.cons OneC.int OneCs.nil)) h⟩
theorem elh23i : (Try.prog.info? 23).map (fun i => (i.zero, i.size, i.bytes)) = some (some (.slice none 0 0), 1, 24) := by kernel_rfl
theorem elh23 : Elem Try.prog 23 1 24 cHdr ((none, 0, 0) : G3) := by
  obtain ⟨i, h1, h2, h3, h4⟩ := info_parts elh23i
  exact ⟨i, .slice none 0 0, [.slice none 0 0], h1, h2, h3, h4, rfl, rfl, by decide, fun _ _ => ⟨rfl, trivial⟩, fun _ => rfl, fun _ _ _ _ h => ones_of (OneCs.cons OneC.slice OneCs.nil) h⟩

theorem c_laws_szInt64S {a_0 : (List Int)} {left_1 : Int} {r : Int} (h : m_laws_szInt64S a_0 left_1 = some r) : CallJ Try.prog 32 [(pSl 1 (cK .i64) a_0), (pEq (.int .i64 left_1))] (pEq (.int .i64 r)) := by
  unfold m_laws_szInt64S at h
  refine CallJ.enterH Try.func32 rfl Try.ntmps32 rfl fun W I0 H => ?_
  refine Tr.weak (Γ' := [(0, (pSl 1 (cK .i64) a_0)), (1, (pEq (.int .i64 left_1)))]) ⟨rfl, rfl, trivial⟩ ?_
  refine Tr.seq ?_
  refine Tr.region ?_
  refine RegL.pure (p := (pEq (.int .i64 (0 : Int)))) rfl rfl rfl (J_assign rfl Opd.con) ?_
  refine RegL.nil ?_
  refine Ct.then_tr ?_
  refine Tr.weak (Γ' := [(0, (pSl 1 (cK .i64) a_0)), (1, (pEq (.int .i64 left_1)))]) ⟨rfl, rfl, trivial⟩ ?_
  refine Tr.seq ?_
  refine Tr.region ?_
  refine RegL.pure (p := (pEq (.int .i64 left_1))) rfl rfl rfl (J_move rfl (Opd.tmp rfl)) ?_
  refine RegL.pure (p := (pSl 1 (cK .i64) a_0)) rfl rfl rfl (J_move rfl (Opd.tmp rfl)) ?_
  refine RegL.pure (p := (pEq (.int .i64 (a_0.length : Int)))) rfl rfl rfl (J_len rfl Try.underlying23 (Opd.tmp rfl) rfl) ?_
  refine RegL.pure (p := (pEq (.int .i64 (w64 (left_1 - (a_0.length : Int)))))) rfl rfl rfl (J_bin rfl (Opd.tmp rfl) (Opd.tmp rfl) B_sub) ?_
  refine RegL.pure (p := (pEq (.int .i64 (w64 (left_1 - (a_0.length : Int)))))) rfl rfl rfl (J_assign rfl (Opd.tmp rfl)) ?_
  refine RegL.nil ?_
  refine Ct.then_tr ?_
  refine Tr.weak (Γ' := [(1, (pEq (.int .i64 (w64 (left_1 - (a_0.length : Int))))))]) ⟨rfl, trivial⟩ ?_
  refine Tr.seq ?_
  refine Tr.seq ?_
  refine Tr.region ?_
  refine RegL.pure (p := (pEq (.int .i64 (w64 (left_1 - (a_0.length : Int)))))) rfl rfl rfl (J_move rfl (Opd.tmp rfl)) ?_
  refine RegL.pure (p := (pEq (.bool (decide ((w64 (left_1 - (a_0.length : Int))) < (0 : Int)))))) rfl rfl rfl (J_bin rfl (Opd.tmp rfl) Opd.con B_lss) ?_
  refine RegL.nil ?_
  refine Ct.then_tr ?_
  refine Tr.weak (Γ' := [(1, (pEq (.int .i64 (w64 (left_1 - (a_0.length : Int)))))), (10, (pEq (.bool (decide ((w64 (left_1 - (a_0.length : Int))) < (0 : Int))))))]) ⟨rfl, rfl, trivial⟩ ?_
  refine Tr.cond (Opd.tmp rfl) (fun hc => ?_) (fun hc => ?_)
  · replace h := bif_t hc h
    refine Tr.seq ?_
    refine Tr.region ?_
    refine RegL.pure (p := (pEq (.int .i64 (-1 : Int)))) rfl rfl rfl (J_assign rfl Opd.con) ?_
    refine RegL.nil ?_
    refine Ct.then_tr ?_
    refine Tr.weak (Γ' := [(4, (pEq (.int .i64 (-1 : Int))))]) ⟨rfl, trivial⟩ ?_
    refine Tr.ret ?_
    refine Ct.then_ret ?_
    replace h := Option.some.inj h; subst h
    exact Ct.retH1 (Ωx := []) () rfl (RvOk.tmp rfl) rfl
  · replace h := bif_f hc h
    refine Tr.skip ?_
    refine Ct.then_tr ?_
    refine Tr.weak (Γ' := [(1, (pEq (.int .i64 (w64 (left_1 - (a_0.length : Int))))))]) ⟨rfl, trivial⟩ ?_
    refine Tr.seq ?_
    refine Tr.region ?_
    refine RegL.pure (p := (pEq (.int .i64 (w64 (left_1 - (a_0.length : Int)))))) rfl rfl rfl (J_move rfl (Opd.tmp rfl)) ?_
    refine RegL.pure (p := (pEq (.int .i64 (w64 (left_1 - (a_0.length : Int)))))) rfl rfl rfl (J_assign rfl (Opd.tmp rfl)) ?_
    refine RegL.nil ?_
    refine Ct.then_tr ?_
    refine Tr.weak (Γ' := [(4, (pEq (.int .i64 (w64 (left_1 - (a_0.length : Int))))))]) ⟨rfl, trivial⟩ ?_
    refine Tr.ret ?_
    replace h := Option.some.inj h; subst h
    exact Ct.retH1 (Ωx := []) () rfl (RvOk.tmp rfl) rfl

theorem c_laws_szInt64SS {a_0 : (List (List Int))} {left_1 : Int} {r : Int} (h : m_laws_szInt64SS a_0 left_1 = some r) : CallJ Try.prog 7 [(pSl 1 (cSl 1 (cK .i64)) a_0), (pEq (.int .i64 left_1))] (pEq (.int .i64 r)) := by
  unfold m_laws_szInt64SS at h
  refine CallJ.enterH Try.func7 rfl Try.ntmps7 rfl fun W I0 H => ?_
  refine Tr.weak (Γ' := [(0, (pSl 1 (cSl 1 (cK .i64)) a_0)), (1, (pEq (.int .i64 left_1)))]) ⟨rfl, rfl, trivial⟩ ?_
  refine Tr.seq ?_
  refine Tr.region ?_
  refine RegL.pure (p := (pEq (.int .i64 (0 : Int)))) rfl rfl rfl (J_assign rfl Opd.con) ?_
  refine RegL.nil ?_
  refine Ct.then_tr ?_
  refine Tr.weak (Γ' := [(0, (pSl 1 (cSl 1 (cK .i64)) a_0)), (1, (pEq (.int .i64 left_1)))]) ⟨rfl, rfl, trivial⟩ ?_
  refine Tr.seq ?_
  refine Tr.region ?_
  refine RegL.pure (p := (pEq (.int .i64 left_1))) rfl rfl rfl (J_move rfl (Opd.tmp rfl)) ?_
  refine RegL.pure (p := (pSl 1 (cSl 1 (cK .i64)) a_0)) rfl rfl rfl (J_move rfl (Opd.tmp rfl)) ?_
  refine RegL.pure (p := (pEq (.int .i64 (a_0.length : Int)))) rfl rfl rfl (J_len rfl Try.underlying22 (Opd.tmp rfl) rfl) ?_
  refine RegL.pure (p := (pEq (.int .i64 (w64 (left_1 - (a_0.length : Int)))))) rfl rfl rfl (J_bin rfl (Opd.tmp rfl) (Opd.tmp rfl) B_sub) ?_
  refine RegL.pure (p := (pEq (.int .i64 (w64 (left_1 - (a_0.length : Int)))))) rfl rfl rfl (J_assign rfl (Opd.tmp rfl)) ?_
  refine RegL.nil ?_
  refine Ct.then_tr ?_
  refine Tr.weak (Γ' := [(0, (pSl 1 (cSl 1 (cK .i64)) a_0)), (1, (pEq (.int .i64 (w64 (left_1 - (a_0.length : Int))))))]) ⟨rfl, rfl, trivial⟩ ?_
  refine Tr.seq ?_
  refine Tr.seq ?_
  refine Tr.region ?_
  refine RegL.pure (p := (pEq (.int .i64 (w64 (left_1 - (a_0.length : Int)))))) rfl rfl rfl (J_move rfl (Opd.tmp rfl)) ?_
  refine RegL.pure (p := (pEq (.bool (decide ((w64 (left_1 - (a_0.length : Int))) < (0 : Int)))))) rfl rfl rfl (J_bin rfl (Opd.tmp rfl) Opd.con B_lss) ?_
  refine RegL.nil ?_
  refine Ct.then_tr ?_
  refine Tr.weak (Γ' := [(0, (pSl 1 (cSl 1 (cK .i64)) a_0)), (1, (pEq (.int .i64 (w64 (left_1 - (a_0.length : Int)))))), (11, (pEq (.bool (decide ((w64 (left_1 - (a_0.length : Int))) < (0 : Int))))))]) ⟨rfl, rfl, rfl, trivial⟩ ?_
  refine Tr.cond (Opd.tmp rfl) (fun hc => ?_) (fun hc => ?_)
  · replace h := bif_t hc h
    refine Tr.seq ?_
    refine Tr.region ?_
    refine RegL.pure (p := (pEq (.int .i64 (-1 : Int)))) rfl rfl rfl (J_assign rfl Opd.con) ?_
    refine RegL.nil ?_
    refine Ct.then_tr ?_
    refine Tr.weak (Γ' := [(4, (pEq (.int .i64 (-1 : Int))))]) ⟨rfl, trivial⟩ ?_
    refine Tr.ret ?_
    refine Ct.then_ret ?_
    replace h := Option.some.inj h; subst h
    exact Ct.retH1 (Ωx := []) () rfl (RvOk.tmp rfl) rfl
  · replace h := bif_f hc h
    refine Tr.skip ?_
    refine Ct.then_tr ?_
    refine Tr.weak (Γ' := [(0, (pSl 1 (cSl 1 (cK .i64)) a_0)), (1, (pEq (.int .i64 (w64 (left_1 - (a_0.length : Int))))))]) ⟨rfl, rfl, trivial⟩ ?_
    refine Tr.seq ?_
    refine Tr.seq ?_
    refine Tr.region ?_
    refine RegL.pure (p := (pEq (.int .i64 (0 : Int)))) rfl rfl rfl (J_assign rfl Opd.con) ?_
    refine RegL.nil ?_
    refine Ct.then_tr ?_
    refine Tr.weak (Γ' := [(0, (pSl 1 (cSl 1 (cK .i64)) a_0)), (1, (pEq (.int .i64 (w64 (left_1 - (a_0.length : Int)))))), (5, (pEq (.int .i64 (0 : Int))))]) ⟨rfl, rfl, rfl, trivial⟩ ?_
    refine Tr.block ?_
    refine Tr.weak (Γ' := [(0, (pSl 1 (cSl 1 (cK .i64)) a_0)), (1, (pEq (.int .i64 (w64 (left_1 - (a_0.length : Int)))))), (5, (pEq (.int .i64 (0 : Int))))]) ⟨rfl, rfl, rfl, trivial⟩ ?_
    refine Tr.loop (γ := Unit) (σ := (Int × Int)) (Γσ := fun s g => [(0, (pSl 1 (cSl 1 (cK .i64)) a_0)), (1, (pEq (.int .i64 s.1))), (5, (pEq (.int .i64 s.2)))]) (Ωσ := fun s g => []) (g := ()) h ?_
    clear h
    rintro ⟨v2, v3⟩ g4 t h
    replace h : m_laws_szInt64SS_B1 a_0 v2 v3 = some t := h
    unfold m_laws_szInt64SS_B1 at h
    refine Tr.weakO (Γ' := [(0, (pSl 1 (cSl 1 (cK .i64)) a_0)), (1, (pEq (.int .i64 v2))), (5, (pEq (.int .i64 v3)))]) (Ω' := []) rfl ⟨rfl, rfl, rfl, trivial⟩ ?_
    refine Tr.seq ?_
    refine Tr.seq ?_
    refine Tr.region ?_
    refine RegL.pure (p := (pEq (.int .i64 v3))) rfl rfl rfl (J_move rfl (Opd.tmp rfl)) ?_
    refine RegL.pure (p := (pSl 1 (cSl 1 (cK .i64)) a_0)) rfl rfl rfl (J_move rfl (Opd.tmp rfl)) ?_
    refine RegL.pure (p := (pEq (.int .i64 (a_0.length : Int)))) rfl rfl rfl (J_len rfl Try.underlying22 (Opd.tmp rfl) rfl) ?_
    refine RegL.pure (p := (pEq (.bool (decide (v3 < (a_0.length : Int)))))) rfl rfl rfl (J_bin rfl (Opd.tmp rfl) (Opd.tmp rfl) B_lss) ?_
    refine RegL.nil ?_
    refine Ct.then_tr ?_
    refine Tr.weak (Γ' := [(0, (pSl 1 (cSl 1 (cK .i64)) a_0)), (1, (pEq (.int .i64 v2))), (5, (pEq (.int .i64 v3))), (15, (pEq (.bool (decide (v3 < (a_0.length : Int))))))]) ⟨rfl, rfl, rfl, rfl, trivial⟩ ?_
    refine Tr.cond (Opd.tmp rfl) (fun hc => ?_) (fun hc => ?_)
    · replace h := bif_t hc h
      refine Tr.skip ?_
      refine Ct.then_tr ?_
      refine Tr.weak (Γ' := [(0, (pSl 1 (cSl 1 (cK .i64)) a_0)), (1, (pEq (.int .i64 v2))), (5, (pEq (.int .i64 v3)))]) ⟨rfl, rfl, rfl, trivial⟩ ?_
      refine Tr.seq ?_
      refine Tr.block ?_
      refine Tr.seq ?_
      refine Tr.region ?_
      refine RegL.pure (p := (pSl 1 (cSl 1 (cK .i64)) a_0)) rfl rfl rfl (J_move rfl (Opd.tmp rfl)) ?_
      refine RegL.pure (p := (pEq (.int .i64 v3))) rfl rfl rfl (J_move rfl (Opd.tmp rfl)) ?_
      replace h := bind_some h; obtain ⟨x5, hx5, h⟩ := h
      refine RegL.pure (p := (pPtr ((cSl 1 (cK .i64)) x5))) rfl rfl rfl (J_idx rfl Try.underlying22 sz23 (Opd.tmp rfl) (Opd.tmp rfl) hx5) ?_
      refine RegL.pure (p := (pSl 1 (cK .i64) x5)) rfl rfl rfl (J_load rfl Try.isAgg23 (Opd.tmp rfl)) ?_
      refine RegL.pure (p := (pEq (.int .i64 v2))) rfl rfl rfl (J_move rfl (Opd.tmp rfl)) ?_
      replace h := bind_some h; obtain ⟨x6, hx6, h⟩ := h
      refine RegL.pure (p := (pEq (.int .i64 x6))) rfl rfl rfl (J_call rfl Try.call32 (c_laws_szInt64S hx6) (Opds.cons (Opd.tmp rfl) (Opds.cons (Opd.tmp rfl) Opds.nil))) ?_
      refine RegL.pure (p := (pEq (.int .i64 x6))) rfl rfl rfl (J_assign rfl (Opd.tmp rfl)) ?_
      refine RegL.nil ?_
      refine Ct.then_tr ?_
      refine Tr.weak (Γ' := [(0, (pSl 1 (cSl 1 (cK .i64)) a_0)), (1, (pEq (.int .i64 x6))), (5, (pEq (.int .i64 v3)))]) ⟨rfl, rfl, rfl, trivial⟩ ?_
      refine Tr.seq ?_
      refine Tr.region ?_
      refine RegL.pure (p := (pEq (.int .i64 x6))) rfl rfl rfl (J_move rfl (Opd.tmp rfl)) ?_
      refine RegL.pure (p := (pEq (.bool (decide (x6 < (0 : Int)))))) rfl rfl rfl (J_bin rfl (Opd.tmp rfl) Opd.con B_lss) ?_
      refine RegL.nil ?_
      refine Ct.then_tr ?_
      refine Tr.weak (Γ' := [(0, (pSl 1 (cSl 1 (cK .i64)) a_0)), (1, (pEq (.int .i64 x6))), (5, (pEq (.int .i64 v3))), (25, (pEq (.bool (decide (x6 < (0 : Int))))))]) ⟨rfl, rfl, rfl, rfl, trivial⟩ ?_
      refine Tr.cond (Opd.tmp rfl) (fun hc => ?_) (fun hc => ?_)
      · replace h := bif_t hc h
        refine Tr.seq ?_
        refine Tr.region ?_
        refine RegL.pure (p := (pEq (.int .i64 (-1 : Int)))) rfl rfl rfl (J_assign rfl Opd.con) ?_
        refine RegL.nil ?_
        refine Ct.then_tr ?_
        refine Tr.weak (Γ' := [(4, (pEq (.int .i64 (-1 : Int))))]) ⟨rfl, trivial⟩ ?_
        refine Tr.ret ?_
        refine Ct.blk_ret ?_
        refine Ct.then_ret ?_
        replace h := map_some h; obtain ⟨r1, h, rfl⟩ := h
        refine Ct.out_ret fun e => ?_
        subst e
        refine Ct.blk_ret ?_
        refine Ct.then_ret ?_
        replace h := Option.some.inj h; subst h
        exact Ct.retH1 (Ωx := []) () rfl (RvOk.tmp rfl) rfl
      · replace h := bif_f hc h
        refine Tr.skip ?_
        refine Ct.blk_normal ?_
        refine Ct.then_tr ?_
        refine Tr.weak (Γ' := [(0, (pSl 1 (cSl 1 (cK .i64)) a_0)), (1, (pEq (.int .i64 x6))), (5, (pEq (.int .i64 v3)))]) ⟨rfl, rfl, rfl, trivial⟩ ?_
        refine Tr.region ?_
        refine RegL.pure (p := (pEq (.int .i64 v3))) rfl rfl rfl (J_move rfl (Opd.tmp rfl)) ?_
        refine RegL.pure (p := (pEq (.int .i64 (w64 (v3 + (1 : Int)))))) rfl rfl rfl (J_bin rfl (Opd.tmp rfl) Opd.con B_add) ?_
        refine RegL.pure (p := (pEq (.int .i64 (w64 (v3 + (1 : Int)))))) rfl rfl rfl (J_assign rfl (Opd.tmp rfl)) ?_
        refine RegL.nil ?_
        replace h := Option.some.inj h; subst h
        exact Ct.again () rfl ⟨rfl, rfl, rfl, trivial⟩
    · replace h := bif_f hc h
      refine Tr.exit ?_
      refine Ct.then_exit ?_
      replace h := map_some h; obtain ⟨r1, h, rfl⟩ := h
      refine Ct.out_exit fun e => ?_
      subst e
      refine Ct.blk_exit ?_
      refine Ct.then_tr ?_
      refine Tr.weak (Γ' := [(1, (pEq (.int .i64 v2)))]) ⟨rfl, trivial⟩ ?_
      refine Tr.seq ?_
      refine Tr.region ?_
      refine RegL.pure (p := (pEq (.int .i64 v2))) rfl rfl rfl (J_move rfl (Opd.tmp rfl)) ?_
      refine RegL.pure (p := (pEq (.int .i64 v2))) rfl rfl rfl (J_assign rfl (Opd.tmp rfl)) ?_
      refine RegL.nil ?_
      refine Ct.then_tr ?_
      refine Tr.weak (Γ' := [(4, (pEq (.int .i64 v2)))]) ⟨rfl, trivial⟩ ?_
      refine Tr.ret ?_
      replace h := Option.some.inj h; subst h
      exact Ct.retH1 (Ωx := []) () rfl (RvOk.tmp rfl) rfl

theorem o_laws_toInt64S {a_0 : (List Int)}  {r : (List Int)} (h : m_laws_toInt64S a_0 = some r) : CallH Try.prog 10 [(pSl 1 (cK .i64) a_0)] [] (fun g : G3 => (pEq (.slice g.1 g.2.1 g.2.2))) (fun g : G3 => [oSl 2 1 (cK .i64) g.1 g.2.1 g.2.2 r]) := by
  unfold m_laws_toInt64S at h
  refine CallH.enter Try.func10 rfl Try.ntmps10 rfl fun W I0 H => ?_
  refine Tr.weak (Γ' := [(0, (pSl 1 (cK .i64) a_0))]) ⟨rfl, trivial⟩ ?_
  refine Tr.seq ?_
  refine Tr.region ?_
  refine RegL.pure (p := (pEq (.slice none 0 0))) rfl rfl rfl (J_assign rfl Opd.con) ?_
  refine RegL.nil ?_
  refine Ct.then_tr ?_
  refine Tr.weak (Γ' := [(0, (pSl 1 (cK .i64) a_0))]) ⟨rfl, trivial⟩ ?_
  refine Tr.seq ?_
  refine Tr.region ?_
  refine RegL.pure (p := (pSl 1 (cK .i64) a_0)) rfl rfl rfl (J_move rfl (Opd.tmp rfl)) ?_
  refine RegL.pure (p := (pEq (.int .i64 (a_0.length : Int)))) rfl rfl rfl (J_len rfl Try.underlying23 (Opd.tmp rfl) rfl) ?_
  replace h := bind_some h; obtain ⟨x1, hx1, h⟩ := h
  refine RegL.step (γ := Option Addr) (p := fun a => pEq (.slice a ((a_0.length : Int)).toNat ((a_0.length : Int)).toNat)) (Ω' := fun a => [oSl 2 1 (cK .i64) a ((a_0.length : Int)).toNat ((a_0.length : Int)).toNat x1]) rfl rfl rfl (M_make rfl Try.underlying23 el2 (by decide) (Opd.tmp rfl) hx1) fun o2 => ?_
  refine RegL.pure (p := (pEq (.slice o2 ((a_0.length : Int)).toNat ((a_0.length : Int)).toNat))) rfl rfl rfl (J_assign rfl (Opd.tmp rfl)) ?_
  refine RegL.nil ?_
  refine Ct.then_tr ?_
  refine Tr.weak (Γ' := [(0, (pSl 1 (cK .i64) a_0)), (3, (pEq (.slice o2 ((a_0.length : Int)).toNat ((a_0.length : Int)).toNat)))]) ⟨rfl, rfl, trivial⟩ ?_
  refine Tr.seq ?_
  refine Tr.seq ?_
  refine Tr.region ?_
  refine RegL.pure (p := (pEq (.int .i64 (0 : Int)))) rfl rfl rfl (J_assign rfl Opd.con) ?_
  refine RegL.nil ?_
  refine Ct.then_tr ?_
  refine Tr.weak (Γ' := [(0, (pSl 1 (cK .i64) a_0)), (3, (pEq (.slice o2 ((a_0.length : Int)).toNat ((a_0.length : Int)).toNat))), (4, (pEq (.int .i64 (0 : Int))))]) ⟨rfl, rfl, rfl, trivial⟩ ?_
  replace h := bind_some h; obtain ⟨x4, hx4, h⟩ := h
  refine Tr.cut (γ := G3) (Γm := fun g => [(3, (pEq (.slice g.1 g.2.1 g.2.2)))]) (Ωm := fun g => [oSl 2 1 (cK .i64) g.1 g.2.1 g.2.2 x4]) ?_ (fun g12 => ?_)
  · clear h
    have h := hx4
    clear hx4
    refine Tr.block ?_
    refine Tr.weak (Γ' := [(0, (pSl 1 (cK .i64) a_0)), (3, (pEq (.slice o2 ((a_0.length : Int)).toNat ((a_0.length : Int)).toNat))), (4, (pEq (.int .i64 (0 : Int))))]) ⟨rfl, rfl, rfl, trivial⟩ ?_
    refine Tr.loop (γ := G3) (σ := (Int × (List Int))) (Γσ := fun s g => [(0, (pSl 1 (cK .i64) a_0)), (3, (pEq (.slice g.1 g.2.1 g.2.2))), (4, (pEq (.int .i64 s.1)))]) (Ωσ := fun s g => [oSl 2 1 (cK .i64) g.1 g.2.1 g.2.2 s.2]) (g := (o2, ((a_0.length : Int)).toNat, ((a_0.length : Int)).toNat)) h ?_
    clear h
    rintro ⟨v6, v7⟩ g8 t h
    replace h : m_laws_toInt64S_B5 a_0 v6 v7 = some t := h
    unfold m_laws_toInt64S_B5 at h
    refine Tr.weakO (Γ' := [(0, (pSl 1 (cK .i64) a_0)), (3, (pEq (.slice g8.1 g8.2.1 g8.2.2))), (4, (pEq (.int .i64 v6)))]) (Ω' := [oSl 2 1 (cK .i64) g8.1 g8.2.1 g8.2.2 v7]) rfl ⟨rfl, rfl, rfl, trivial⟩ ?_
    refine Tr.seq ?_
    refine Tr.seq ?_
    refine Tr.region ?_
    refine RegL.pure (p := (pEq (.int .i64 v6))) rfl rfl rfl (J_move rfl (Opd.tmp rfl)) ?_
    refine RegL.pure (p := (pSl 1 (cK .i64) a_0)) rfl rfl rfl (J_move rfl (Opd.tmp rfl)) ?_
    refine RegL.pure (p := (pEq (.int .i64 (a_0.length : Int)))) rfl rfl rfl (J_len rfl Try.underlying23 (Opd.tmp rfl) rfl) ?_
    refine RegL.pure (p := (pEq (.bool (decide (v6 < (a_0.length : Int)))))) rfl rfl rfl (J_bin rfl (Opd.tmp rfl) (Opd.tmp rfl) B_lss) ?_
    refine RegL.nil ?_
    refine Ct.then_tr ?_
    refine Tr.weak (Γ' := [(0, (pSl 1 (cK .i64) a_0)), (3, (pEq (.slice g8.1 g8.2.1 g8.2.2))), (4, (pEq (.int .i64 v6))), (11, (pEq (.bool (decide (v6 < (a_0.length : Int))))))]) ⟨rfl, rfl, rfl, rfl, trivial⟩ ?_
    refine Tr.cond (Opd.tmp rfl) (fun hc => ?_) (fun hc => ?_)
    · replace h := bif_t hc h
      refine Tr.skip ?_
      refine Ct.then_tr ?_
      refine Tr.weak (Γ' := [(0, (pSl 1 (cK .i64) a_0)), (3, (pEq (.slice g8.1 g8.2.1 g8.2.2))), (4, (pEq (.int .i64 v6)))]) ⟨rfl, rfl, rfl, trivial⟩ ?_
      refine Tr.seq ?_
      refine Tr.block ?_
      refine Tr.region ?_
      refine RegL.pure (p := (pEq (.slice g8.1 g8.2.1 g8.2.2))) rfl rfl rfl (J_move rfl (Opd.tmp rfl)) ?_
      refine RegL.pure (p := (pEq (.int .i64 v6))) rfl rfl rfl (J_move rfl (Opd.tmp rfl)) ?_
      refine RegL.pure (p := (pSl 1 (cK .i64) a_0)) rfl rfl rfl (J_move rfl (Opd.tmp rfl)) ?_
      refine RegL.pure (p := (pEq (.int .i64 v6))) rfl rfl rfl (J_move rfl (Opd.tmp rfl)) ?_
      replace h := bind_some h; obtain ⟨x9, hx9, h⟩ := h
      refine RegL.pure (p := (pPtr ((cK .i64) x9))) rfl rfl rfl (J_idx rfl Try.underlying23 sz2 (Opd.tmp rfl) (Opd.tmp rfl) hx9) ?_
      refine RegL.pure (p := (pEq (.int .i64 x9))) rfl rfl rfl (J_load rfl Try.isAgg2 (Opd.tmp rfl)) ?_
      replace h := bind_some h; obtain ⟨u10, hu10, h⟩ := h
      refine RegL.pureW (p := (pEq (.pointer (some ⟨blk g8.1, (v6).toNat * 1, none⟩)))) rfl rfl rfl (W_rowIdx (j := 0) rfl Try.underlying23 sz2 (Opd.tmp rfl) (Opd.tmp rfl) rfl (inB_some hu10)) ?_
      refine RegL.stepN (γ := Unit) (p := fun _ => pAny) (Ω' := fun _ => [oSl 2 1 (cK .i64) g8.1 g8.2.1 g8.2.2 (v7.set (v6).toNat x9)]) rfl rfl (M_rowStore rfl sz2 (fun _ => rfl) (Opd.tmp rfl) (Opd.tmp rfl) rfl OneC.int (setL_of (inB_some hu10))) fun g11 => ?_
      refine RegL.nil ?_
      refine Ct.blk_normal ?_
      refine Ct.then_tr ?_
      refine Tr.weak (Γ' := [(0, (pSl 1 (cK .i64) a_0)), (3, (pEq (.slice g8.1 g8.2.1 g8.2.2))), (4, (pEq (.int .i64 v6)))]) ⟨rfl, rfl, rfl, trivial⟩ ?_
      refine Tr.region ?_
      refine RegL.pure (p := (pEq (.int .i64 v6))) rfl rfl rfl (J_move rfl (Opd.tmp rfl)) ?_
      refine RegL.pure (p := (pEq (.int .i64 (w64 (v6 + (1 : Int)))))) rfl rfl rfl (J_bin rfl (Opd.tmp rfl) Opd.con B_add) ?_
      refine RegL.pure (p := (pEq (.int .i64 (w64 (v6 + (1 : Int)))))) rfl rfl rfl (J_assign rfl (Opd.tmp rfl)) ?_
      refine RegL.nil ?_
      replace h := Option.some.inj h; subst h
      exact Ct.again (g8.1, g8.2.1, g8.2.2) rfl ⟨rfl, rfl, rfl, trivial⟩
    · replace h := bif_f hc h
      refine Tr.exit ?_
      refine Ct.then_exit ?_
      replace h := map_some h; obtain ⟨r1, h, rfl⟩ := h
      refine Ct.out_exit fun e => ?_
      subst e
      refine Ct.blk_exit ?_
      replace h := Option.some.inj h; subst h
      exact Ct.mid (g8.1, g8.2.1, g8.2.2) rfl ⟨rfl, trivial⟩
  · clear hx4
    refine Ct.then_tr ?_
    refine Tr.weak (Γ' := [(3, (pEq (.slice g12.1 g12.2.1 g12.2.2)))]) ⟨rfl, trivial⟩ ?_
    refine Tr.seq ?_
    refine Tr.region ?_
    refine RegL.pure (p := (pEq (.slice g12.1 g12.2.1 g12.2.2))) rfl rfl rfl (J_move rfl (Opd.tmp rfl)) ?_
    refine RegL.pure (p := (pEq (.slice g12.1 g12.2.1 g12.2.2))) rfl rfl rfl (J_assign rfl (Opd.tmp rfl)) ?_
    refine RegL.nil ?_
    refine Ct.then_tr ?_
    refine Tr.weak (Γ' := [(2, (pEq (.slice g12.1 g12.2.1 g12.2.2)))]) ⟨rfl, trivial⟩ ?_
    refine Tr.ret ?_
    replace h := Option.some.inj h; subst h
    exact Ct.retH1 (Ωx := []) (g12.1, g12.2.1, g12.2.2) rfl (RvOk.tmp rfl) rfl

theorem c_laws_toInt64S {a_0 : (List Int)} {r : (List Int)} (h : m_laws_toInt64S a_0 = some r) : CallJ Try.prog 10 [(pSl 1 (cK .i64) a_0)] (pSl 1 (cK .i64) r) :=
  CallH.frozen (o_laws_toInt64S h) (fun g => (Conv.row 0 (fun _ => rfl) rfl))

theorem o_laws_toInt64SS {a_0 : (List (List Int))}  {r : (List (List Int))} (h : m_laws_toInt64SS a_0 = some r) : CallH Try.prog 9 [(pSl 1 (cSl 1 (cK .i64)) a_0)] [] (fun g : (G3 × List G3) => (pEq (.slice g.1.1 g.1.2.1 g.1.2.2))) (fun g : (G3 × List G3) => [oSS 23 2 1 (cK .i64) g.1.1 g.1.2.1 g.1.2.2 g.2 r]) := by
  unfold m_laws_toInt64SS at h
  refine CallH.enter Try.func9 rfl Try.ntmps9 rfl fun W I0 H => ?_
  refine Tr.weak (Γ' := [(0, (pSl 1 (cSl 1 (cK .i64)) a_0))]) ⟨rfl, trivial⟩ ?_
  refine Tr.seq ?_
  refine Tr.region ?_
  refine RegL.pure (p := (pEq (.slice none 0 0))) rfl rfl rfl (J_assign rfl Opd.con) ?_
  refine RegL.nil ?_
  refine Ct.then_tr ?_
  refine Tr.weak (Γ' := [(0, (pSl 1 (cSl 1 (cK .i64)) a_0))]) ⟨rfl, trivial⟩ ?_
  refine Tr.seq ?_
  refine Tr.region ?_
  refine RegL.pure (p := (pSl 1 (cSl 1 (cK .i64)) a_0)) rfl rfl rfl (J_move rfl (Opd.tmp rfl)) ?_
  refine RegL.pure (p := (pEq (.int .i64 (a_0.length : Int)))) rfl rfl rfl (J_len rfl Try.underlying22 (Opd.tmp rfl) rfl) ?_
  replace h := bind_some h; obtain ⟨x1, hx1, h⟩ := h
  refine RegL.step (γ := Option Addr) (p := fun a => pEq (.slice a ((a_0.length : Int)).toNat ((a_0.length : Int)).toNat)) (Ω' := fun a => [oSl 23 1 cHdr a ((a_0.length : Int)).toNat ((a_0.length : Int)).toNat (List.replicate ((a_0.length : Int)).toNat ((none, 0, 0) : G3))]) rfl rfl rfl (M_make rfl Try.underlying22 elh23 (by decide) (Opd.tmp rfl) (mkL_hdr hx1)) fun o2 => ?_
  refine RegL.re (Ω2 := [oSS 23 2 1 (cK .i64) o2 ((a_0.length : Int)).toNat ((a_0.length : Int)).toNat (List.replicate ((a_0.length : Int)).toNat ((none, 0, 0) : G3)) x1]) (fun h => (by rw [(mkL_some hx1).2]; exact nest_rep h)) ?_
  refine RegL.pure (p := (pEq (.slice o2 ((a_0.length : Int)).toNat ((a_0.length : Int)).toNat))) rfl rfl rfl (J_assign rfl (Opd.tmp rfl)) ?_
  refine RegL.nil ?_
  refine Ct.then_tr ?_
  refine Tr.weak (Γ' := [(0, (pSl 1 (cSl 1 (cK .i64)) a_0)), (3, (pEq (.slice o2 ((a_0.length : Int)).toNat ((a_0.length : Int)).toNat)))]) ⟨rfl, rfl, trivial⟩ ?_
  refine Tr.seq ?_
  refine Tr.seq ?_
  refine Tr.region ?_
  refine RegL.pure (p := (pEq (.int .i64 (0 : Int)))) rfl rfl rfl (J_assign rfl Opd.con) ?_
  refine RegL.nil ?_
  refine Ct.then_tr ?_
  refine Tr.weak (Γ' := [(0, (pSl 1 (cSl 1 (cK .i64)) a_0)), (3, (pEq (.slice o2 ((a_0.length : Int)).toNat ((a_0.length : Int)).toNat))), (4, (pEq (.int .i64 (0 : Int))))]) ⟨rfl, rfl, rfl, trivial⟩ ?_
  replace h := bind_some h; obtain ⟨x4, hx4, h⟩ := h
  refine Tr.cut (γ := (G3 × List G3)) (Γm := fun g => [(3, (pEq (.slice g.1.1 g.1.2.1 g.1.2.2)))]) (Ωm := fun g => [oSS 23 2 1 (cK .i64) g.1.1 g.1.2.1 g.1.2.2 g.2 x4]) ?_ (fun g15 => ?_)
  · clear h
    have h := hx4
    clear hx4
    refine Tr.block ?_
    refine Tr.weak (Γ' := [(0, (pSl 1 (cSl 1 (cK .i64)) a_0)), (3, (pEq (.slice o2 ((a_0.length : Int)).toNat ((a_0.length : Int)).toNat))), (4, (pEq (.int .i64 (0 : Int))))]) ⟨rfl, rfl, rfl, trivial⟩ ?_
    refine Tr.loop (γ := (G3 × List G3)) (σ := (Int × (List (List Int)))) (Γσ := fun s g => [(0, (pSl 1 (cSl 1 (cK .i64)) a_0)), (3, (pEq (.slice g.1.1 g.1.2.1 g.1.2.2))), (4, (pEq (.int .i64 s.1)))]) (Ωσ := fun s g => [oSS 23 2 1 (cK .i64) g.1.1 g.1.2.1 g.1.2.2 g.2 s.2]) (g := ((o2, ((a_0.length : Int)).toNat, ((a_0.length : Int)).toNat), (List.replicate ((a_0.length : Int)).toNat ((none, 0, 0) : G3)))) h ?_
    clear h
    rintro ⟨v6, v7⟩ g8 t h
    replace h : m_laws_toInt64SS_B5 a_0 v6 v7 = some t := h
    unfold m_laws_toInt64SS_B5 at h
    refine Tr.weakO (Γ' := [(0, (pSl 1 (cSl 1 (cK .i64)) a_0)), (3, (pEq (.slice g8.1.1 g8.1.2.1 g8.1.2.2))), (4, (pEq (.int .i64 v6)))]) (Ω' := [oSS 23 2 1 (cK .i64) g8.1.1 g8.1.2.1 g8.1.2.2 g8.2 v7]) rfl ⟨rfl, rfl, rfl, trivial⟩ ?_
    refine Tr.seq ?_
    refine Tr.seq ?_
    refine Tr.region ?_
    refine RegL.pure (p := (pEq (.int .i64 v6))) rfl rfl rfl (J_move rfl (Opd.tmp rfl)) ?_
    refine RegL.pure (p := (pSl 1 (cSl 1 (cK .i64)) a_0)) rfl rfl rfl (J_move rfl (Opd.tmp rfl)) ?_
    refine RegL.pure (p := (pEq (.int .i64 (a_0.length : Int)))) rfl rfl rfl (J_len rfl Try.underlying22 (Opd.tmp rfl) rfl) ?_
    refine RegL.pure (p := (pEq (.bool (decide (v6 < (a_0.length : Int)))))) rfl rfl rfl (J_bin rfl (Opd.tmp rfl) (Opd.tmp rfl) B_lss) ?_
    refine RegL.nil ?_
    refine Ct.then_tr ?_
    refine Tr.weak (Γ' := [(0, (pSl 1 (cSl 1 (cK .i64)) a_0)), (3, (pEq (.slice g8.1.1 g8.1.2.1 g8.1.2.2))), (4, (pEq (.int .i64 v6))), (11, (pEq (.bool (decide (v6 < (a_0.length : Int))))))]) ⟨rfl, rfl, rfl, rfl, trivial⟩ ?_
    refine Tr.cond (Opd.tmp rfl) (fun hc => ?_) (fun hc => ?_)
    · replace h := bif_t hc h
      refine Tr.skip ?_
      refine Ct.then_tr ?_
      refine Tr.weak (Γ' := [(0, (pSl 1 (cSl 1 (cK .i64)) a_0)), (3, (pEq (.slice g8.1.1 g8.1.2.1 g8.1.2.2))), (4, (pEq (.int .i64 v6)))]) ⟨rfl, rfl, rfl, trivial⟩ ?_
      refine Tr.seq ?_
      refine Tr.block ?_
      refine Tr.region ?_
      refine RegL.pure (p := (pEq (.slice g8.1.1 g8.1.2.1 g8.1.2.2))) rfl rfl rfl (J_move rfl (Opd.tmp rfl)) ?_
      refine RegL.pure (p := (pEq (.int .i64 v6))) rfl rfl rfl (J_move rfl (Opd.tmp rfl)) ?_
      refine RegL.pure (p := (pSl 1 (cSl 1 (cK .i64)) a_0)) rfl rfl rfl (J_move rfl (Opd.tmp rfl)) ?_
      refine RegL.pure (p := (pEq (.int .i64 v6))) rfl rfl rfl (J_move rfl (Opd.tmp rfl)) ?_
      replace h := bind_some h; obtain ⟨x9, hx9, h⟩ := h
      refine RegL.pure (p := (pPtr ((cSl 1 (cK .i64)) x9))) rfl rfl rfl (J_idx rfl Try.underlying22 sz23 (Opd.tmp rfl) (Opd.tmp rfl) hx9) ?_
      refine RegL.pure (p := (pSl 1 (cK .i64) x9)) rfl rfl rfl (J_load rfl Try.isAgg23 (Opd.tmp rfl)) ?_
      replace h := bind_some h; obtain ⟨x10, hx10, h⟩ := h
      refine RegL.step (γ := G3) (p := fun g => (pEq (.slice g.1 g.2.1 g.2.2))) (Ω' := fun g => [oSl 2 1 (cK .i64) g.1 g.2.1 g.2.2 x10, oSS 23 2 1 (cK .i64) g8.1.1 g8.1.2.1 g8.1.2.2 g8.2 v7]) rfl rfl rfl (M_callH (Ωi := []) rfl Try.call10 (o_laws_toInt64S hx10) (Opds.cons (Opd.tmp rfl) Opds.nil)) fun g11 => ?_
      replace h := bind_some h; obtain ⟨u13, hu13, h⟩ := h
      refine RegL.pureW (p := (pEq (.pointer (some ⟨blk g8.1.1, (v6).toNat * 1, none⟩)))) rfl rfl rfl (W_nestIdx (j := 1) rfl Try.underlying22 sz23 (Opd.tmp rfl) (Opd.tmp rfl) rfl (inB_some hu13)) ?_
      refine RegL.re (Ω2 := [oSS 23 2 1 (cK .i64) g8.1.1 g8.1.2.1 g8.1.2.2 g8.2 v7, oSl 2 1 (cK .i64) g11.1 g11.2.1 g11.2.2 x10]) (fun h => SatO.pick 1 h) ?_
      refine RegL.stepN (γ := Unit) (p := fun _ => pAny) (Ω' := fun _ => [oSS 23 2 1 (cK .i64) g8.1.1 g8.1.2.1 g8.1.2.2 (g8.2.set (v6).toNat (g11.1, g11.2.1, g11.2.2)) (v7.set (v6).toNat x10)]) rfl rfl (M_nestStore rfl sz23 (Opd.tmp rfl) (Opd.tmp rfl) (inB_some hu13)) fun g14 => ?_
      refine RegL.nil ?_
      refine Ct.blk_normal ?_
      refine Ct.then_tr ?_
      refine Tr.weak (Γ' := [(0, (pSl 1 (cSl 1 (cK .i64)) a_0)), (3, (pEq (.slice g8.1.1 g8.1.2.1 g8.1.2.2))), (4, (pEq (.int .i64 v6)))]) ⟨rfl, rfl, rfl, trivial⟩ ?_
      refine Tr.region ?_
      refine RegL.pure (p := (pEq (.int .i64 v6))) rfl rfl rfl (J_move rfl (Opd.tmp rfl)) ?_
      refine RegL.pure (p := (pEq (.int .i64 (w64 (v6 + (1 : Int)))))) rfl rfl rfl (J_bin rfl (Opd.tmp rfl) Opd.con B_add) ?_
      refine RegL.pure (p := (pEq (.int .i64 (w64 (v6 + (1 : Int)))))) rfl rfl rfl (J_assign rfl (Opd.tmp rfl)) ?_
      refine RegL.nil ?_
      replace h := Option.some.inj h; subst h
      exact Ct.again ((g8.1.1, g8.1.2.1, g8.1.2.2), (g8.2.set (v6).toNat (g11.1, g11.2.1, g11.2.2))) rfl ⟨rfl, rfl, rfl, trivial⟩
    · replace h := bif_f hc h
      refine Tr.exit ?_
      refine Ct.then_exit ?_
      replace h := map_some h; obtain ⟨r1, h, rfl⟩ := h
      refine Ct.out_exit fun e => ?_
      subst e
      refine Ct.blk_exit ?_
      replace h := Option.some.inj h; subst h
      exact Ct.mid ((g8.1.1, g8.1.2.1, g8.1.2.2), g8.2) rfl ⟨rfl, trivial⟩
  · clear hx4
    refine Ct.then_tr ?_
    refine Tr.weak (Γ' := [(3, (pEq (.slice g15.1.1 g15.1.2.1 g15.1.2.2)))]) ⟨rfl, trivial⟩ ?_
    refine Tr.seq ?_
    refine Tr.region ?_
    refine RegL.pure (p := (pEq (.slice g15.1.1 g15.1.2.1 g15.1.2.2))) rfl rfl rfl (J_move rfl (Opd.tmp rfl)) ?_
    refine RegL.pure (p := (pEq (.slice g15.1.1 g15.1.2.1 g15.1.2.2))) rfl rfl rfl (J_assign rfl (Opd.tmp rfl)) ?_
    refine RegL.nil ?_
    refine Ct.then_tr ?_
    refine Tr.weak (Γ' := [(2, (pEq (.slice g15.1.1 g15.1.2.1 g15.1.2.2)))]) ⟨rfl, trivial⟩ ?_
    refine Tr.ret ?_
    replace h := Option.some.inj h; subst h
    exact Ct.retH1 (Ωx := []) ((g15.1.1, g15.1.2.1, g15.1.2.2), g15.2) rfl (RvOk.tmp rfl) rfl

theorem c_laws_toInt64SS {a_0 : (List (List Int))} {r : (List (List Int))} (h : m_laws_toInt64SS a_0 = some r) : CallJ Try.prog 9 [(pSl 1 (cSl 1 (cK .i64)) a_0)] (pSl 1 (cSl 1 (cK .i64)) r) :=
  CallH.frozen (o_laws_toInt64SS h) (fun g => (Conv.nest 0 (fun _ => rfl) rfl))

theorem c_spec_l00In {n_0 : Int} {low_1 : Int} {high_2 : Int} {r : Bool} (h : m_spec_l00In n_0 low_1 high_2 = some r) : CallJ Try.prog 35 [(pEq (.int .i64 n_0)), (pEq (.int .i64 low_1)), (pEq (.int .i64 high_2))] (pEq (.bool r)) := by
  unfold m_spec_l00In at h
  refine CallJ.enterH Try.func35 rfl Try.ntmps35 rfl fun W I0 H => ?_
  refine Tr.weak (Γ' := [(0, (pEq (.int .i64 n_0))), (1, (pEq (.int .i64 low_1))), (2, (pEq (.int .i64 high_2)))]) ⟨rfl, rfl, rfl, trivial⟩ ?_
  refine Tr.seq ?_
  refine Tr.region ?_
  refine RegL.pure (p := (pEq (.bool false))) rfl rfl rfl (J_assign rfl Opd.con) ?_
  refine RegL.nil ?_
  refine Ct.then_tr ?_
  refine Tr.weak (Γ' := [(0, (pEq (.int .i64 n_0))), (1, (pEq (.int .i64 low_1))), (2, (pEq (.int .i64 high_2)))]) ⟨rfl, rfl, rfl, trivial⟩ ?_
  refine Tr.seq ?_
  replace h := bind_some h; obtain ⟨x1, hx1, h⟩ := h
  refine Tr.cut (γ := Unit) (Γm := fun g => [(6, (pEq (.bool x1)))]) (Ωm := fun g => []) ?_ (fun g3 => ?_)
  · clear h
    have h := hx1
    clear hx1
    refine Tr.region ?_
    refine RegL.pure (p := (pEq (.int .i64 n_0))) rfl rfl rfl (J_move rfl (Opd.tmp rfl)) ?_
    refine RegL.pure (p := (pEq (.int .i64 low_1))) rfl rfl rfl (J_move rfl (Opd.tmp rfl)) ?_
    refine RegL.pure (p := (pEq (.bool (decide (low_1 ≤ n_0))))) rfl rfl rfl (J_bin rfl (Opd.tmp rfl) (Opd.tmp rfl) B_geq) ?_
    refine RegL.pure (p := (pEq (.bool (decide (low_1 ≤ n_0))))) rfl rfl rfl (J_move rfl (Opd.tmp rfl)) ?_
    rcases Bool.eq_false_or_eq_true (decide (low_1 ≤ n_0)) with hc2 | hc2
    · replace h := bif_t hc2 h
      refine RegL.pureG (p := (pEq (.int .i64 n_0))) rfl rfl rfl hc2 rfl rfl (J_move rfl (Opd.tmp rfl)) ?_
      refine RegL.pureG (p := (pEq (.int .i64 high_2))) rfl rfl rfl hc2 rfl rfl (J_move rfl (Opd.tmp rfl)) ?_
      refine RegL.pureG (p := (pEq (.bool (decide (n_0 ≤ high_2))))) rfl rfl rfl hc2 rfl rfl (J_bin rfl (Opd.tmp rfl) (Opd.tmp rfl) B_leq) ?_
      refine RegL.pure (p := (pEq (.bool (decide (n_0 ≤ high_2))))) rfl rfl rfl (J_pick rfl (Opd.tmp rfl) (fun _ => (Opd.tmp rfl)) (fun hf => absurd (hc2.symm.trans hf) (by decide))) ?_
      refine RegL.pure (p := (pEq (.bool (decide (n_0 ≤ high_2))))) rfl rfl rfl (J_assign rfl (Opd.tmp rfl)) ?_
      refine RegL.nil ?_
      replace h := Option.some.inj h; subst h
      exact Ct.mid () rfl ⟨rfl, trivial⟩
    · replace h := bif_f hc2 h
      refine RegL.skipG rfl rfl rfl hc2 rfl rfl ?_
      refine RegL.skipG rfl rfl rfl hc2 rfl rfl ?_
      refine RegL.skipG rfl rfl rfl hc2 rfl rfl ?_
      refine RegL.pure (p := (pEq (.bool false))) rfl rfl rfl (J_pick rfl (Opd.tmp rfl) (fun hf => absurd (hc2.symm.trans hf) (by decide)) (fun _ => Opd.con)) ?_
      refine RegL.pure (p := (pEq (.bool false))) rfl rfl rfl (J_assign rfl (Opd.tmp rfl)) ?_
      refine RegL.nil ?_
      replace h := Option.some.inj h; subst h
      exact Ct.mid () rfl ⟨rfl, trivial⟩
  · clear hx1
    refine Ct.then_tr ?_
    refine Tr.weak (Γ' := [(6, (pEq (.bool x1)))]) ⟨rfl, trivial⟩ ?_
    refine Tr.ret ?_
    replace h := Option.some.inj h; subst h
    exact Ct.retH1 (Ωx := []) () rfl (RvOk.tmp rfl) rfl

theorem c_spec_l02Level {v_0 : Int} {r : Bool} (h : m_spec_l02Level v_0 = some r) : CallJ Try.prog 122 [(pEq (.int .i64 v_0))] (pEq (.bool r)) := by
  unfold m_spec_l02Level at h
  refine CallJ.enterH Try.func122 rfl Try.ntmps122 rfl fun W I0 H => ?_
  refine Tr.weak (Γ' := [(0, (pEq (.int .i64 v_0)))]) ⟨rfl, trivial⟩ ?_
  refine Tr.seq ?_
  refine Tr.region ?_
  refine RegL.pure (p := (pEq (.bool false))) rfl rfl rfl (J_assign rfl Opd.con) ?_
  refine RegL.nil ?_
  refine Ct.then_tr ?_
  refine Tr.weak (Γ' := [(0, (pEq (.int .i64 v_0)))]) ⟨rfl, trivial⟩ ?_
  refine Tr.seq ?_
  refine Tr.region ?_
  refine RegL.pure (p := (pEq (.int .i64 v_0))) rfl rfl rfl (J_move rfl (Opd.tmp rfl)) ?_
  replace h := bind_some h; obtain ⟨x1, hx1, h⟩ := h
  refine RegL.pure (p := (pEq (.bool x1))) rfl rfl rfl (J_call rfl Try.call35 (c_spec_l00In hx1) (Opds.cons (Opd.tmp rfl) (Opds.cons Opd.con (Opds.cons Opd.con Opds.nil)))) ?_
  refine RegL.pure (p := (pEq (.bool x1))) rfl rfl rfl (J_assign rfl (Opd.tmp rfl)) ?_
  refine RegL.nil ?_
  refine Ct.then_tr ?_
  refine Tr.weak (Γ' := [(2, (pEq (.bool x1)))]) ⟨rfl, trivial⟩ ?_
  refine Tr.ret ?_
  replace h := Option.some.inj h; subst h
  exact Ct.retH1 (Ωx := []) () rfl (RvOk.tmp rfl) rfl

theorem c_spec_l16Row {row_0 : (List Int)} {r : Bool} (h : m_spec_l16Row row_0 = some r) : CallJ Try.prog 88 [(pSl 1 (cK .i64) row_0)] (pEq (.bool r)) := by
  unfold m_spec_l16Row at h
  refine CallJ.enterH Try.func88 rfl Try.ntmps88 rfl fun W I0 H => ?_
  refine Tr.weak (Γ' := [(0, (pSl 1 (cK .i64) row_0))]) ⟨rfl, trivial⟩ ?_
  refine Tr.seq ?_
  refine Tr.region ?_
  refine RegL.pure (p := (pEq (.bool false))) rfl rfl rfl (J_assign rfl Opd.con) ?_
  refine RegL.nil ?_
  refine Ct.then_tr ?_
  refine Tr.weak (Γ' := [(0, (pSl 1 (cK .i64) row_0))]) ⟨rfl, trivial⟩ ?_
  refine Tr.seq ?_
  refine Tr.seq ?_
  refine Tr.region ?_
  refine RegL.pure (p := (pEq (.int .i64 (0 : Int)))) rfl rfl rfl (J_assign rfl Opd.con) ?_
  refine RegL.nil ?_
  refine Ct.then_tr ?_
  refine Tr.weak (Γ' := [(0, (pSl 1 (cK .i64) row_0)), (3, (pEq (.int .i64 (0 : Int))))]) ⟨rfl, rfl, trivial⟩ ?_
  refine Tr.block ?_
  refine Tr.weak (Γ' := [(0, (pSl 1 (cK .i64) row_0)), (3, (pEq (.int .i64 (0 : Int))))]) ⟨rfl, rfl, trivial⟩ ?_
  refine Tr.loop (γ := Unit) (σ := Int) (Γσ := fun s g => [(0, (pSl 1 (cK .i64) row_0)), (3, (pEq (.int .i64 s)))]) (Ωσ := fun s g => []) (g := ()) h ?_
  clear h
  rintro v2 g3 t h
  replace h : m_spec_l16Row_B1 row_0 v2 = some t := h
  unfold m_spec_l16Row_B1 at h
  refine Tr.weakO (Γ' := [(0, (pSl 1 (cK .i64) row_0)), (3, (pEq (.int .i64 v2)))]) (Ω' := []) rfl ⟨rfl, rfl, trivial⟩ ?_
  refine Tr.seq ?_
  refine Tr.seq ?_
  refine Tr.region ?_
  refine RegL.pure (p := (pEq (.int .i64 v2))) rfl rfl rfl (J_move rfl (Opd.tmp rfl)) ?_
  refine RegL.pure (p := (pSl 1 (cK .i64) row_0)) rfl rfl rfl (J_move rfl (Opd.tmp rfl)) ?_
  refine RegL.pure (p := (pEq (.int .i64 (row_0.length : Int)))) rfl rfl rfl (J_len rfl Try.underlying23 (Opd.tmp rfl) rfl) ?_
  refine RegL.pure (p := (pEq (.bool (decide (v2 < (row_0.length : Int)))))) rfl rfl rfl (J_bin rfl (Opd.tmp rfl) (Opd.tmp rfl) B_lss) ?_
  refine RegL.nil ?_
  refine Ct.then_tr ?_
  refine Tr.weak (Γ' := [(0, (pSl 1 (cK .i64) row_0)), (3, (pEq (.int .i64 v2))), (7, (pEq (.bool (decide (v2 < (row_0.length : Int))))))]) ⟨rfl, rfl, rfl, trivial⟩ ?_
  refine Tr.cond (Opd.tmp rfl) (fun hc => ?_) (fun hc => ?_)
  · replace h := bif_t hc h
    refine Tr.skip ?_
    refine Ct.then_tr ?_
    refine Tr.weak (Γ' := [(0, (pSl 1 (cK .i64) row_0)), (3, (pEq (.int .i64 v2)))]) ⟨rfl, rfl, trivial⟩ ?_
    refine Tr.seq ?_
    refine Tr.block ?_
    refine Tr.seq ?_
    refine Tr.region ?_
    refine RegL.pure (p := (pSl 1 (cK .i64) row_0)) rfl rfl rfl (J_move rfl (Opd.tmp rfl)) ?_
    refine RegL.pure (p := (pEq (.int .i64 v2))) rfl rfl rfl (J_move rfl (Opd.tmp rfl)) ?_
    replace h := bind_some h; obtain ⟨x4, hx4, h⟩ := h
    refine RegL.pure (p := (pPtr ((cK .i64) x4))) rfl rfl rfl (J_idx rfl Try.underlying23 sz2 (Opd.tmp rfl) (Opd.tmp rfl) hx4) ?_
    refine RegL.pure (p := (pEq (.int .i64 x4))) rfl rfl rfl (J_load rfl Try.isAgg2 (Opd.tmp rfl)) ?_
    replace h := bind_some h; obtain ⟨x5, hx5, h⟩ := h
    refine RegL.pure (p := (pEq (.bool x5))) rfl rfl rfl (J_call rfl Try.call122 (c_spec_l02Level hx5) (Opds.cons (Opd.tmp rfl) Opds.nil)) ?_
    refine RegL.pure (p := (pEq (.bool (!x5)))) rfl rfl rfl (J_not rfl (Opd.tmp rfl)) ?_
    refine RegL.nil ?_
    refine Ct.then_tr ?_
    refine Tr.weak (Γ' := [(0, (pSl 1 (cK .i64) row_0)), (3, (pEq (.int .i64 v2))), (15, (pEq (.bool (!x5))))]) ⟨rfl, rfl, rfl, trivial⟩ ?_
    refine Tr.cond (Opd.tmp rfl) (fun hc => ?_) (fun hc => ?_)
    · replace h := bif_t hc h
      refine Tr.seq ?_
      refine Tr.region ?_
      refine RegL.pure (p := (pEq (.bool false))) rfl rfl rfl (J_assign rfl Opd.con) ?_
      refine RegL.nil ?_
      refine Ct.then_tr ?_
      refine Tr.weak (Γ' := [(2, (pEq (.bool false)))]) ⟨rfl, trivial⟩ ?_
      refine Tr.ret ?_
      refine Ct.blk_ret ?_
      refine Ct.then_ret ?_
      replace h := map_some h; obtain ⟨r1, h, rfl⟩ := h
      refine Ct.out_ret fun e => ?_
      subst e
      refine Ct.blk_ret ?_
      refine Ct.then_ret ?_
      replace h := Option.some.inj h; subst h
      exact Ct.retH1 (Ωx := []) () rfl (RvOk.tmp rfl) rfl
    · replace h := bif_f hc h
      refine Tr.skip ?_
      refine Ct.blk_normal ?_
      refine Ct.then_tr ?_
      refine Tr.weak (Γ' := [(0, (pSl 1 (cK .i64) row_0)), (3, (pEq (.int .i64 v2)))]) ⟨rfl, rfl, trivial⟩ ?_
      refine Tr.region ?_
      refine RegL.pure (p := (pEq (.int .i64 v2))) rfl rfl rfl (J_move rfl (Opd.tmp rfl)) ?_
      refine RegL.pure (p := (pEq (.int .i64 (w64 (v2 + (1 : Int)))))) rfl rfl rfl (J_bin rfl (Opd.tmp rfl) Opd.con B_add) ?_
      refine RegL.pure (p := (pEq (.int .i64 (w64 (v2 + (1 : Int)))))) rfl rfl rfl (J_assign rfl (Opd.tmp rfl)) ?_
      refine RegL.nil ?_
      replace h := Option.some.inj h; subst h
      exact Ct.again () rfl ⟨rfl, rfl, trivial⟩
  · replace h := bif_f hc h
    refine Tr.exit ?_
    refine Ct.then_exit ?_
    replace h := map_some h; obtain ⟨r1, h, rfl⟩ := h
    refine Ct.out_exit fun e => ?_
    subst e
    refine Ct.blk_exit ?_
    refine Ct.then_tr ?_
    refine Tr.weak (Γ' := [(0, (pSl 1 (cK .i64) row_0))]) ⟨rfl, trivial⟩ ?_
    refine Tr.seq ?_
    replace h := bind_some h; obtain ⟨x6, hx6, h⟩ := h
    refine Tr.cut (γ := Unit) (Γm := fun g => [(2, (pEq (.bool x6)))]) (Ωm := fun g => []) ?_ (fun g8 => ?_)
    · clear h
      have h := hx6
      clear hx6
      refine Tr.region ?_
      refine RegL.pure (p := (pSl 1 (cK .i64) row_0)) rfl rfl rfl (J_move rfl (Opd.tmp rfl)) ?_
      refine RegL.pure (p := (pEq (.int .i64 (row_0.length : Int)))) rfl rfl rfl (J_len rfl Try.underlying23 (Opd.tmp rfl) rfl) ?_
      refine RegL.pure (p := (pEq (.bool (decide ((0 : Int) < (row_0.length : Int)))))) rfl rfl rfl (J_bin rfl (Opd.tmp rfl) Opd.con B_gtr) ?_
      refine RegL.pure (p := (pEq (.bool (decide ((0 : Int) < (row_0.length : Int)))))) rfl rfl rfl (J_move rfl (Opd.tmp rfl)) ?_
      rcases Bool.eq_false_or_eq_true (decide ((0 : Int) < (row_0.length : Int))) with hc7 | hc7
      · replace h := bif_t hc7 h
        refine RegL.pureG (p := (pSl 1 (cK .i64) row_0)) rfl rfl rfl hc7 rfl rfl (J_move rfl (Opd.tmp rfl)) ?_
        refine RegL.pureG (p := (pEq (.int .i64 (row_0.length : Int)))) rfl rfl rfl hc7 rfl rfl (J_len rfl Try.underlying23 (Opd.tmp rfl) rfl) ?_
        refine RegL.pureG (p := (pEq (.bool (decide ((row_0.length : Int) ≤ (24 : Int)))))) rfl rfl rfl hc7 rfl rfl (J_bin rfl (Opd.tmp rfl) Opd.con B_leq) ?_
        refine RegL.pure (p := (pEq (.bool (decide ((row_0.length : Int) ≤ (24 : Int)))))) rfl rfl rfl (J_pick rfl (Opd.tmp rfl) (fun _ => (Opd.tmp rfl)) (fun hf => absurd (hc7.symm.trans hf) (by decide))) ?_
        refine RegL.pure (p := (pEq (.bool (decide ((row_0.length : Int) ≤ (24 : Int)))))) rfl rfl rfl (J_assign rfl (Opd.tmp rfl)) ?_
        refine RegL.nil ?_
        replace h := Option.some.inj h; subst h
        exact Ct.mid () rfl ⟨rfl, trivial⟩
      · replace h := bif_f hc7 h
        refine RegL.skipG rfl rfl rfl hc7 rfl rfl ?_
        refine RegL.skipG rfl rfl rfl hc7 rfl rfl ?_
        refine RegL.skipG rfl rfl rfl hc7 rfl rfl ?_
        refine RegL.pure (p := (pEq (.bool false))) rfl rfl rfl (J_pick rfl (Opd.tmp rfl) (fun hf => absurd (hc7.symm.trans hf) (by decide)) (fun _ => Opd.con)) ?_
        refine RegL.pure (p := (pEq (.bool false))) rfl rfl rfl (J_assign rfl (Opd.tmp rfl)) ?_
        refine RegL.nil ?_
        replace h := Option.some.inj h; subst h
        exact Ct.mid () rfl ⟨rfl, trivial⟩
    · clear hx6
      refine Ct.then_tr ?_
      refine Tr.weak (Γ' := [(2, (pEq (.bool x6)))]) ⟨rfl, trivial⟩ ?_
      refine Tr.ret ?_
      replace h := Option.some.inj h; subst h
      exact Ct.retH1 (Ωx := []) () rfl (RvOk.tmp rfl) rfl

theorem c_spec_l16Rows {rows_0 : (List (List Int))} {r : Bool} (h : m_spec_l16Rows rows_0 = some r) : CallJ Try.prog 42 [(pSl 1 (cSl 1 (cK .i64)) rows_0)] (pEq (.bool r)) := by
  unfold m_spec_l16Rows at h
  refine CallJ.enterH Try.func42 rfl Try.ntmps42 rfl fun W I0 H => ?_
  refine Tr.weak (Γ' := [(0, (pSl 1 (cSl 1 (cK .i64)) rows_0))]) ⟨rfl, trivial⟩ ?_
  refine Tr.seq ?_
  refine Tr.region ?_
  refine RegL.pure (p := (pEq (.bool false))) rfl rfl rfl (J_assign rfl Opd.con) ?_
  refine RegL.nil ?_
  refine Ct.then_tr ?_
  refine Tr.weak (Γ' := [(0, (pSl 1 (cSl 1 (cK .i64)) rows_0))]) ⟨rfl, trivial⟩ ?_
  refine Tr.seq ?_
  refine Tr.seq ?_
  refine Tr.region ?_
  refine RegL.pure (p := (pEq (.int .i64 (0 : Int)))) rfl rfl rfl (J_assign rfl Opd.con) ?_
  refine RegL.nil ?_
  refine Ct.then_tr ?_
  refine Tr.weak (Γ' := [(0, (pSl 1 (cSl 1 (cK .i64)) rows_0)), (3, (pEq (.int .i64 (0 : Int))))]) ⟨rfl, rfl, trivial⟩ ?_
  refine Tr.block ?_
  refine Tr.weak (Γ' := [(0, (pSl 1 (cSl 1 (cK .i64)) rows_0)), (3, (pEq (.int .i64 (0 : Int))))]) ⟨rfl, rfl, trivial⟩ ?_
  refine Tr.loop (γ := Unit) (σ := Int) (Γσ := fun s g => [(0, (pSl 1 (cSl 1 (cK .i64)) rows_0)), (3, (pEq (.int .i64 s)))]) (Ωσ := fun s g => []) (g := ()) h ?_
  clear h
  rintro v2 g3 t h
  replace h : m_spec_l16Rows_B1 rows_0 v2 = some t := h
  unfold m_spec_l16Rows_B1 at h
  refine Tr.weakO (Γ' := [(0, (pSl 1 (cSl 1 (cK .i64)) rows_0)), (3, (pEq (.int .i64 v2)))]) (Ω' := []) rfl ⟨rfl, rfl, trivial⟩ ?_
  refine Tr.seq ?_
  refine Tr.seq ?_
  refine Tr.region ?_
  refine RegL.pure (p := (pEq (.int .i64 v2))) rfl rfl rfl (J_move rfl (Opd.tmp rfl)) ?_
  refine RegL.pure (p := (pSl 1 (cSl 1 (cK .i64)) rows_0)) rfl rfl rfl (J_move rfl (Opd.tmp rfl)) ?_
  refine RegL.pure (p := (pEq (.int .i64 (rows_0.length : Int)))) rfl rfl rfl (J_len rfl Try.underlying22 (Opd.tmp rfl) rfl) ?_
  refine RegL.pure (p := (pEq (.bool (decide (v2 < (rows_0.length : Int)))))) rfl rfl rfl (J_bin rfl (Opd.tmp rfl) (Opd.tmp rfl) B_lss) ?_
  refine RegL.nil ?_
  refine Ct.then_tr ?_
  refine Tr.weak (Γ' := [(0, (pSl 1 (cSl 1 (cK .i64)) rows_0)), (3, (pEq (.int .i64 v2))), (7, (pEq (.bool (decide (v2 < (rows_0.length : Int))))))]) ⟨rfl, rfl, rfl, trivial⟩ ?_
  refine Tr.cond (Opd.tmp rfl) (fun hc => ?_) (fun hc => ?_)
  · replace h := bif_t hc h
    refine Tr.skip ?_
    refine Ct.then_tr ?_
    refine Tr.weak (Γ' := [(0, (pSl 1 (cSl 1 (cK .i64)) rows_0)), (3, (pEq (.int .i64 v2)))]) ⟨rfl, rfl, trivial⟩ ?_
    refine Tr.seq ?_
    refine Tr.block ?_
    refine Tr.seq ?_
    replace h := bind_some h; obtain ⟨x4, hx4, h⟩ := h
    refine Tr.cut (γ := Unit) (Γm := fun g => [(0, (pSl 1 (cSl 1 (cK .i64)) rows_0)), (3, (pEq (.int .i64 v2))), (27, (pEq (.bool x4)))]) (Ωm := fun g => []) ?_ (fun g10 => ?_)
    · clear h
      have h := hx4
      clear hx4
      replace h := bind_some h; obtain ⟨x5, hx5, h⟩ := h
      replace h := bind_some h; obtain ⟨x6, hx6, h⟩ := h
      rcases Bool.eq_false_or_eq_true (!x6) with hc7 | hc7
      · replace h := bif_t hc7 h
        refine Tr.drawD (n := 36) (m := 18) (es := [some (Ent.mk [(0, (pSl 1 (cSl 1 (cK .i64)) rows_0))] (pSl 1 (cSl 1 (cK .i64)) rows_0) true), some (Ent.mk [(3, (pEq (.int .i64 v2)))] (pEq (.int .i64 v2)) true), some (Ent.mk [(10, (pSl 1 (cSl 1 (cK .i64)) rows_0)), (11, (pEq (.int .i64 v2)))] (pPtr ((cSl 1 (cK .i64)) x5)) true), some (Ent.mk [(12, (pPtr ((cSl 1 (cK .i64)) x5)))] (pSl 1 (cK .i64) x5) true), some (Ent.mk [(13, (pSl 1 (cK .i64) x5))] (pEq (.bool x6)) true), some (Ent.mk [(14, (pEq (.bool x6)))] (pEq (.bool (!x6))) true), some (Ent.mk [(15, (pEq (.bool (!x6))))] (pEq (.bool (!x6))) true), some (Ent.mk [(0, (pSl 1 (cSl 1 (cK .i64)) rows_0))] (pEq undef) false), some (Ent.mk [(3, (pEq (.int .i64 v2)))] (pEq undef) false), some (Ent.mk [(17, (pEq undef)), (18, (pEq undef))] (pEq undef) false), some (Ent.mk [(19, (pEq undef))] (pEq undef) false), some (Ent.mk [(20, (pEq undef))] (pEq undef) false), some (Ent.mk [(0, (pSl 1 (cSl 1 (cK .i64)) rows_0))] (pEq undef) false), some (Ent.mk [(22, (pEq undef))] (pEq undef) false), some (Ent.mk [(23, (pEq undef))] (pEq undef) false), some (Ent.mk [(24, (pEq undef))] (pEq undef) false), some (Ent.mk [(21, (pEq undef)), (25, (pEq undef))] (pEq undef) false), some (Ent.mk [(16, (pEq (.bool (!x6)))), (26, (pEq undef))] (pEq (.bool true)) true)]) (rd := [[0], [3], [10, 11], [12], [13], [14], [15], [0], [3], [17, 18], [19], [20], [0], [22], [23], [24], [21, 25], [16, 26]]) rfl hmix (by kernel_rfl) fun hD => ?_
        refine RD.fin (es := [Ent.mk [(0, (pSl 1 (cSl 1 (cK .i64)) rows_0))] (pSl 1 (cSl 1 (cK .i64)) rows_0) true, Ent.mk [(3, (pEq (.int .i64 v2)))] (pEq (.int .i64 v2)) true, Ent.mk [(10, (pSl 1 (cSl 1 (cK .i64)) rows_0)), (11, (pEq (.int .i64 v2)))] (pPtr ((cSl 1 (cK .i64)) x5)) true, Ent.mk [(12, (pPtr ((cSl 1 (cK .i64)) x5)))] (pSl 1 (cK .i64) x5) true, Ent.mk [(13, (pSl 1 (cK .i64) x5))] (pEq (.bool x6)) true, Ent.mk [(14, (pEq (.bool x6)))] (pEq (.bool (!x6))) true, Ent.mk [(15, (pEq (.bool (!x6))))] (pEq (.bool (!x6))) true, Ent.mk [(0, (pSl 1 (cSl 1 (cK .i64)) rows_0))] (pEq undef) false, Ent.mk [(3, (pEq (.int .i64 v2)))] (pEq undef) false, Ent.mk [(17, (pEq undef)), (18, (pEq undef))] (pEq undef) false, Ent.mk [(19, (pEq undef))] (pEq undef) false, Ent.mk [(20, (pEq undef))] (pEq undef) false, Ent.mk [(0, (pSl 1 (cSl 1 (cK .i64)) rows_0))] (pEq undef) false, Ent.mk [(22, (pEq undef))] (pEq undef) false, Ent.mk [(23, (pEq undef))] (pEq undef) false, Ent.mk [(24, (pEq undef))] (pEq undef) false, Ent.mk [(21, (pEq undef)), (25, (pEq undef))] (pEq undef) false, Ent.mk [(16, (pEq (.bool (!x6)))), (26, (pEq undef))] (pEq (.bool true)) true]) (done := []) hD ⟨.inr ⟨(OpJ.w (J_move rfl (Opd.tmp rfl))), ⟨rfl, trivial⟩, rfl, rfl⟩, ⟨.inr ⟨(OpJ.w (J_move rfl (Opd.tmp rfl))), ⟨rfl, trivial⟩, rfl, rfl⟩, ⟨.inr ⟨(OpJ.w (J_idx rfl Try.underlying22 sz23 (Opd.tmp rfl) (Opd.tmp rfl) hx5)), ⟨rfl, rfl, trivial⟩, rfl, rfl⟩, ⟨.inr ⟨(OpJ.w (J_load rfl Try.isAgg23 (Opd.tmp rfl))), ⟨rfl, trivial⟩, rfl, rfl⟩, ⟨.inr ⟨(OpJ.w (J_call rfl Try.call88 (c_spec_l16Row hx6) (Opds.cons (Opd.tmp rfl) Opds.nil))), ⟨rfl, trivial⟩, rfl, rfl⟩, ⟨.inr ⟨(OpJ.w (J_not rfl (Opd.tmp rfl))), ⟨rfl, trivial⟩, rfl, rfl⟩, ⟨.inr ⟨(OpJ.w (J_move rfl (Opd.tmp rfl))), ⟨rfl, trivial⟩, rfl, rfl⟩, ⟨.inr ⟨rfl, ⟨rfl, trivial⟩, (.inl ⟨_, rfl, by simp [hc7]⟩), rfl⟩, ⟨.inr ⟨rfl, ⟨rfl, trivial⟩, (.inl ⟨_, rfl, by simp [hc7]⟩), rfl⟩, ⟨.inr ⟨rfl, ⟨rfl, rfl, trivial⟩, (.inl ⟨_, rfl, by simp [hc7]⟩), rfl⟩, ⟨.inr ⟨rfl, ⟨rfl, trivial⟩, (.inl ⟨_, rfl, by simp [hc7]⟩), rfl⟩, ⟨.inr ⟨rfl, ⟨rfl, trivial⟩, (.inl ⟨_, rfl, by simp [hc7]⟩), rfl⟩, ⟨.inr ⟨rfl, ⟨rfl, trivial⟩, (.inl ⟨_, rfl, by simp [hc7]⟩), rfl⟩, ⟨.inr ⟨rfl, ⟨rfl, trivial⟩, (.inl ⟨_, rfl, by simp [hc7]⟩), rfl⟩, ⟨.inr ⟨rfl, ⟨rfl, trivial⟩, (.inl ⟨_, rfl, by simp [hc7]⟩), rfl⟩, ⟨.inr ⟨rfl, ⟨rfl, trivial⟩, (.inl ⟨_, rfl, by simp [hc7]⟩), rfl⟩, ⟨.inr ⟨rfl, ⟨rfl, rfl, trivial⟩, (.inl ⟨_, rfl, by simp [hc7]⟩), rfl⟩, ⟨.inr ⟨(OpJ.w (J_pick rfl (Opd.tmp rfl) (fun _ => Opd.con) (fun hf => absurd (hc7.symm.trans hf) (by decide)))), ⟨rfl, rfl, trivial⟩, rfl, rfl⟩, trivial⟩⟩⟩⟩⟩⟩⟩⟩⟩⟩⟩⟩⟩⟩⟩⟩⟩⟩ ?_
        refine RegL.nil ?_
        replace h := Option.some.inj h; subst h
        exact Ct.mid () rfl ⟨rfl, rfl, rfl, trivial⟩
      · replace h := bif_f hc7 h
        replace h := bind_some h; obtain ⟨x8, hx8, h⟩ := h
        replace h := bind_some h; obtain ⟨x9, hx9, h⟩ := h
        refine Tr.drawD (n := 36) (m := 18) (es := [some (Ent.mk [(0, (pSl 1 (cSl 1 (cK .i64)) rows_0))] (pSl 1 (cSl 1 (cK .i64)) rows_0) true), some (Ent.mk [(3, (pEq (.int .i64 v2)))] (pEq (.int .i64 v2)) true), some (Ent.mk [(10, (pSl 1 (cSl 1 (cK .i64)) rows_0)), (11, (pEq (.int .i64 v2)))] (pPtr ((cSl 1 (cK .i64)) x5)) true), some (Ent.mk [(12, (pPtr ((cSl 1 (cK .i64)) x5)))] (pSl 1 (cK .i64) x5) true), some (Ent.mk [(13, (pSl 1 (cK .i64) x5))] (pEq (.bool x6)) true), some (Ent.mk [(14, (pEq (.bool x6)))] (pEq (.bool (!x6))) true), some (Ent.mk [(15, (pEq (.bool (!x6))))] (pEq (.bool (!x6))) true), some (Ent.mk [(0, (pSl 1 (cSl 1 (cK .i64)) rows_0))] (pSl 1 (cSl 1 (cK .i64)) rows_0) true), some (Ent.mk [(3, (pEq (.int .i64 v2)))] (pEq (.int .i64 v2)) true), some (Ent.mk [(17, (pSl 1 (cSl 1 (cK .i64)) rows_0)), (18, (pEq (.int .i64 v2)))] (pPtr ((cSl 1 (cK .i64)) x8)) true), some (Ent.mk [(19, (pPtr ((cSl 1 (cK .i64)) x8)))] (pSl 1 (cK .i64) x8) true), some (Ent.mk [(20, (pSl 1 (cK .i64) x8))] (pEq (.int .i64 (x8.length : Int))) true), some (Ent.mk [(0, (pSl 1 (cSl 1 (cK .i64)) rows_0))] (pSl 1 (cSl 1 (cK .i64)) rows_0) true), some (Ent.mk [(22, (pSl 1 (cSl 1 (cK .i64)) rows_0))] (pPtr ((cSl 1 (cK .i64)) x9)) true), some (Ent.mk [(23, (pPtr ((cSl 1 (cK .i64)) x9)))] (pSl 1 (cK .i64) x9) true), some (Ent.mk [(24, (pSl 1 (cK .i64) x9))] (pEq (.int .i64 (x9.length : Int))) true), some (Ent.mk [(21, (pEq (.int .i64 (x8.length : Int)))), (25, (pEq (.int .i64 (x9.length : Int))))] (pEq (.bool ((x8.length : Int) != (x9.length : Int)))) true), some (Ent.mk [(16, (pEq (.bool (!x6)))), (26, (pEq (.bool ((x8.length : Int) != (x9.length : Int)))))] (pEq (.bool ((x8.length : Int) != (x9.length : Int)))) true)]) (rd := [[0], [3], [10, 11], [12], [13], [14], [15], [0], [3], [17, 18], [19], [20], [0], [22], [23], [24], [21, 25], [16, 26]]) rfl hmix (by kernel_rfl) fun hD => ?_
        refine RD.fin (es := [Ent.mk [(0, (pSl 1 (cSl 1 (cK .i64)) rows_0))] (pSl 1 (cSl 1 (cK .i64)) rows_0) true, Ent.mk [(3, (pEq (.int .i64 v2)))] (pEq (.int .i64 v2)) true, Ent.mk [(10, (pSl 1 (cSl 1 (cK .i64)) rows_0)), (11, (pEq (.int .i64 v2)))] (pPtr ((cSl 1 (cK .i64)) x5)) true, Ent.mk [(12, (pPtr ((cSl 1 (cK .i64)) x5)))] (pSl 1 (cK .i64) x5) true, Ent.mk [(13, (pSl 1 (cK .i64) x5))] (pEq (.bool x6)) true, Ent.mk [(14, (pEq (.bool x6)))] (pEq (.bool (!x6))) true, Ent.mk [(15, (pEq (.bool (!x6))))] (pEq (.bool (!x6))) true, Ent.mk [(0, (pSl 1 (cSl 1 (cK .i64)) rows_0))] (pSl 1 (cSl 1 (cK .i64)) rows_0) true, Ent.mk [(3, (pEq (.int .i64 v2)))] (pEq (.int .i64 v2)) true, Ent.mk [(17, (pSl 1 (cSl 1 (cK .i64)) rows_0)), (18, (pEq (.int .i64 v2)))] (pPtr ((cSl 1 (cK .i64)) x8)) true, Ent.mk [(19, (pPtr ((cSl 1 (cK .i64)) x8)))] (pSl 1 (cK .i64) x8) true, Ent.mk [(20, (pSl 1 (cK .i64) x8))] (pEq (.int .i64 (x8.length : Int))) true, Ent.mk [(0, (pSl 1 (cSl 1 (cK .i64)) rows_0))] (pSl 1 (cSl 1 (cK .i64)) rows_0) true, Ent.mk [(22, (pSl 1 (cSl 1 (cK .i64)) rows_0))] (pPtr ((cSl 1 (cK .i64)) x9)) true, Ent.mk [(23, (pPtr ((cSl 1 (cK .i64)) x9)))] (pSl 1 (cK .i64) x9) true, Ent.mk [(24, (pSl 1 (cK .i64) x9))] (pEq (.int .i64 (x9.length : Int))) true, Ent.mk [(21, (pEq (.int .i64 (x8.length : Int)))), (25, (pEq (.int .i64 (x9.length : Int))))] (pEq (.bool ((x8.length : Int) != (x9.length : Int)))) true, Ent.mk [(16, (pEq (.bool (!x6)))), (26, (pEq (.bool ((x8.length : Int) != (x9.length : Int)))))] (pEq (.bool ((x8.length : Int) != (x9.length : Int)))) true]) (done := []) hD ⟨.inr ⟨(OpJ.w (J_move rfl (Opd.tmp rfl))), ⟨rfl, trivial⟩, rfl, rfl⟩, ⟨.inr ⟨(OpJ.w (J_move rfl (Opd.tmp rfl))), ⟨rfl, trivial⟩, rfl, rfl⟩, ⟨.inr ⟨(OpJ.w (J_idx rfl Try.underlying22 sz23 (Opd.tmp rfl) (Opd.tmp rfl) hx5)), ⟨rfl, rfl, trivial⟩, rfl, rfl⟩, ⟨.inr ⟨(OpJ.w (J_load rfl Try.isAgg23 (Opd.tmp rfl))), ⟨rfl, trivial⟩, rfl, rfl⟩, ⟨.inr ⟨(OpJ.w (J_call rfl Try.call88 (c_spec_l16Row hx6) (Opds.cons (Opd.tmp rfl) Opds.nil))), ⟨rfl, trivial⟩, rfl, rfl⟩, ⟨.inr ⟨(OpJ.w (J_not rfl (Opd.tmp rfl))), ⟨rfl, trivial⟩, rfl, rfl⟩, ⟨.inr ⟨(OpJ.w (J_move rfl (Opd.tmp rfl))), ⟨rfl, trivial⟩, rfl, rfl⟩, ⟨.inr ⟨(OpJ.w (J_move rfl (Opd.tmp rfl))), ⟨rfl, trivial⟩, (.inl ⟨_, rfl, by simp [hc7]⟩), rfl⟩, ⟨.inr ⟨(OpJ.w (J_move rfl (Opd.tmp rfl))), ⟨rfl, trivial⟩, (.inl ⟨_, rfl, by simp [hc7]⟩), rfl⟩, ⟨.inr ⟨(OpJ.w (J_idx rfl Try.underlying22 sz23 (Opd.tmp rfl) (Opd.tmp rfl) hx8)), ⟨rfl, rfl, trivial⟩, (.inl ⟨_, rfl, by simp [hc7]⟩), rfl⟩, ⟨.inr ⟨(OpJ.w (J_load rfl Try.isAgg23 (Opd.tmp rfl))), ⟨rfl, trivial⟩, (.inl ⟨_, rfl, by simp [hc7]⟩), rfl⟩, ⟨.inr ⟨(OpJ.w (J_len rfl Try.underlying23 (Opd.tmp rfl) rfl)), ⟨rfl, trivial⟩, (.inl ⟨_, rfl, by simp [hc7]⟩), rfl⟩, ⟨.inr ⟨(OpJ.w (J_move rfl (Opd.tmp rfl))), ⟨rfl, trivial⟩, (.inl ⟨_, rfl, by simp [hc7]⟩), rfl⟩, ⟨.inr ⟨(OpJ.w (J_idx rfl Try.underlying22 sz23 (Opd.tmp rfl) Opd.con hx9)), ⟨rfl, trivial⟩, (.inl ⟨_, rfl, by simp [hc7]⟩), rfl⟩, ⟨.inr ⟨(OpJ.w (J_load rfl Try.isAgg23 (Opd.tmp rfl))), ⟨rfl, trivial⟩, (.inl ⟨_, rfl, by simp [hc7]⟩), rfl⟩, ⟨.inr ⟨(OpJ.w (J_len rfl Try.underlying23 (Opd.tmp rfl) rfl)), ⟨rfl, trivial⟩, (.inl ⟨_, rfl, by simp [hc7]⟩), rfl⟩, ⟨.inr ⟨(OpJ.w (J_bin rfl (Opd.tmp rfl) (Opd.tmp rfl) B_neq)), ⟨rfl, rfl, trivial⟩, (.inl ⟨_, rfl, by simp [hc7]⟩), rfl⟩, ⟨.inr ⟨(OpJ.w (J_pick rfl (Opd.tmp rfl) (fun hf => absurd (hc7.symm.trans hf) (by decide)) (fun _ => (Opd.tmp rfl)))), ⟨rfl, rfl, trivial⟩, rfl, rfl⟩, trivial⟩⟩⟩⟩⟩⟩⟩⟩⟩⟩⟩⟩⟩⟩⟩⟩⟩⟩ ?_
        refine RegL.nil ?_
        replace h := Option.some.inj h; subst h
        exact Ct.mid () rfl ⟨rfl, rfl, rfl, trivial⟩
    · clear hx4
      refine Ct.then_tr ?_
      refine Tr.weak (Γ' := [(0, (pSl 1 (cSl 1 (cK .i64)) rows_0)), (3, (pEq (.int .i64 v2))), (27, (pEq (.bool x4)))]) ⟨rfl, rfl, rfl, trivial⟩ ?_
      refine Tr.cond (Opd.tmp rfl) (fun hc => ?_) (fun hc => ?_)
      · replace h := bif_t hc h
        refine Tr.seq ?_
        refine Tr.region ?_
        refine RegL.pure (p := (pEq (.bool false))) rfl rfl rfl (J_assign rfl Opd.con) ?_
        refine RegL.nil ?_
        refine Ct.then_tr ?_
        refine Tr.weak (Γ' := [(2, (pEq (.bool false)))]) ⟨rfl, trivial⟩ ?_
        refine Tr.ret ?_
        refine Ct.blk_ret ?_
        refine Ct.then_ret ?_
        replace h := map_some h; obtain ⟨r1, h, rfl⟩ := h
        refine Ct.out_ret fun e => ?_
        subst e
        refine Ct.blk_ret ?_
        refine Ct.then_ret ?_
        replace h := Option.some.inj h; subst h
        exact Ct.retH1 (Ωx := []) () rfl (RvOk.tmp rfl) rfl
      · replace h := bif_f hc h
        refine Tr.skip ?_
        refine Ct.blk_normal ?_
        refine Ct.then_tr ?_
        refine Tr.weak (Γ' := [(0, (pSl 1 (cSl 1 (cK .i64)) rows_0)), (3, (pEq (.int .i64 v2)))]) ⟨rfl, rfl, trivial⟩ ?_
        refine Tr.region ?_
        refine RegL.pure (p := (pEq (.int .i64 v2))) rfl rfl rfl (J_move rfl (Opd.tmp rfl)) ?_
        refine RegL.pure (p := (pEq (.int .i64 (w64 (v2 + (1 : Int)))))) rfl rfl rfl (J_bin rfl (Opd.tmp rfl) Opd.con B_add) ?_
        refine RegL.pure (p := (pEq (.int .i64 (w64 (v2 + (1 : Int)))))) rfl rfl rfl (J_assign rfl (Opd.tmp rfl)) ?_
        refine RegL.nil ?_
        replace h := Option.some.inj h; subst h
        exact Ct.again () rfl ⟨rfl, rfl, trivial⟩
  · replace h := bif_f hc h
    refine Tr.exit ?_
    refine Ct.then_exit ?_
    replace h := map_some h; obtain ⟨r1, h, rfl⟩ := h
    refine Ct.out_exit fun e => ?_
    subst e
    refine Ct.blk_exit ?_
    refine Ct.then_tr ?_
    refine Tr.weak (Γ' := [(0, (pSl 1 (cSl 1 (cK .i64)) rows_0))]) ⟨rfl, trivial⟩ ?_
    refine Tr.seq ?_
    replace h := bind_some h; obtain ⟨x11, hx11, h⟩ := h
    refine Tr.cut (γ := Unit) (Γm := fun g => [(2, (pEq (.bool x11)))]) (Ωm := fun g => []) ?_ (fun g13 => ?_)
    · clear h
      have h := hx11
      clear hx11
      refine Tr.region ?_
      refine RegL.pure (p := (pSl 1 (cSl 1 (cK .i64)) rows_0)) rfl rfl rfl (J_move rfl (Opd.tmp rfl)) ?_
      refine RegL.pure (p := (pEq (.int .i64 (rows_0.length : Int)))) rfl rfl rfl (J_len rfl Try.underlying22 (Opd.tmp rfl) rfl) ?_
      refine RegL.pure (p := (pEq (.bool (decide ((0 : Int) < (rows_0.length : Int)))))) rfl rfl rfl (J_bin rfl (Opd.tmp rfl) Opd.con B_gtr) ?_
      refine RegL.pure (p := (pEq (.bool (decide ((0 : Int) < (rows_0.length : Int)))))) rfl rfl rfl (J_move rfl (Opd.tmp rfl)) ?_
      rcases Bool.eq_false_or_eq_true (decide ((0 : Int) < (rows_0.length : Int))) with hc12 | hc12
      · replace h := bif_t hc12 h
        refine RegL.pureG (p := (pSl 1 (cSl 1 (cK .i64)) rows_0)) rfl rfl rfl hc12 rfl rfl (J_move rfl (Opd.tmp rfl)) ?_
        refine RegL.pureG (p := (pEq (.int .i64 (rows_0.length : Int)))) rfl rfl rfl hc12 rfl rfl (J_len rfl Try.underlying22 (Opd.tmp rfl) rfl) ?_
        refine RegL.pureG (p := (pEq (.bool (decide ((rows_0.length : Int) ≤ (32 : Int)))))) rfl rfl rfl hc12 rfl rfl (J_bin rfl (Opd.tmp rfl) Opd.con B_leq) ?_
        refine RegL.pure (p := (pEq (.bool (decide ((rows_0.length : Int) ≤ (32 : Int)))))) rfl rfl rfl (J_pick rfl (Opd.tmp rfl) (fun _ => (Opd.tmp rfl)) (fun hf => absurd (hc12.symm.trans hf) (by decide))) ?_
        refine RegL.pure (p := (pEq (.bool (decide ((rows_0.length : Int) ≤ (32 : Int)))))) rfl rfl rfl (J_assign rfl (Opd.tmp rfl)) ?_
        refine RegL.nil ?_
        replace h := Option.some.inj h; subst h
        exact Ct.mid () rfl ⟨rfl, trivial⟩
      · replace h := bif_f hc12 h
        refine RegL.skipG rfl rfl rfl hc12 rfl rfl ?_
        refine RegL.skipG rfl rfl rfl hc12 rfl rfl ?_
        refine RegL.skipG rfl rfl rfl hc12 rfl rfl ?_
        refine RegL.pure (p := (pEq (.bool false))) rfl rfl rfl (J_pick rfl (Opd.tmp rfl) (fun hf => absurd (hc12.symm.trans hf) (by decide)) (fun _ => Opd.con)) ?_
        refine RegL.pure (p := (pEq (.bool false))) rfl rfl rfl (J_assign rfl (Opd.tmp rfl)) ?_
        refine RegL.nil ?_
        replace h := Option.some.inj h; subst h
        exact Ct.mid () rfl ⟨rfl, trivial⟩
    · clear hx11
      refine Ct.then_tr ?_
      refine Tr.weak (Γ' := [(2, (pEq (.bool x11)))]) ⟨rfl, trivial⟩ ?_
      refine Tr.ret ?_
      replace h := Option.some.inj h; subst h
      exact Ct.retH1 (Ωx := []) () rfl (RvOk.tmp rfl) rfl

theorem c_spec_l08Table {table_0 : (List Int)} {r : Bool} (h : m_spec_l08Table table_0 = some r) : CallJ Try.prog 34 [(pSl 1 (cK .i64) table_0)] (pEq (.bool r)) := by
  unfold m_spec_l08Table at h
  refine CallJ.enterH Try.func34 rfl Try.ntmps34 rfl fun W I0 H => ?_
  refine Tr.weak (Γ' := [(0, (pSl 1 (cK .i64) table_0))]) ⟨rfl, trivial⟩ ?_
  refine Tr.seq ?_
  refine Tr.region ?_
  refine RegL.pure (p := (pEq (.bool false))) rfl rfl rfl (J_assign rfl Opd.con) ?_
  refine RegL.nil ?_
  refine Ct.then_tr ?_
  refine Tr.weak (Γ' := [(0, (pSl 1 (cK .i64) table_0))]) ⟨rfl, trivial⟩ ?_
  refine Tr.seq ?_
  refine Tr.seq ?_
  refine Tr.region ?_
  refine RegL.pure (p := (pEq (.int .i64 (0 : Int)))) rfl rfl rfl (J_assign rfl Opd.con) ?_
  refine RegL.nil ?_
  refine Ct.then_tr ?_
  refine Tr.weak (Γ' := [(0, (pSl 1 (cK .i64) table_0)), (3, (pEq (.int .i64 (0 : Int))))]) ⟨rfl, rfl, trivial⟩ ?_
  refine Tr.block ?_
  refine Tr.weak (Γ' := [(0, (pSl 1 (cK .i64) table_0)), (3, (pEq (.int .i64 (0 : Int))))]) ⟨rfl, rfl, trivial⟩ ?_
  refine Tr.loop (γ := Unit) (σ := Int) (Γσ := fun s g => [(0, (pSl 1 (cK .i64) table_0)), (3, (pEq (.int .i64 s)))]) (Ωσ := fun s g => []) (g := ()) h ?_
  clear h
  rintro v2 g3 t h
  replace h : m_spec_l08Table_B1 table_0 v2 = some t := h
  unfold m_spec_l08Table_B1 at h
  refine Tr.weakO (Γ' := [(0, (pSl 1 (cK .i64) table_0)), (3, (pEq (.int .i64 v2)))]) (Ω' := []) rfl ⟨rfl, rfl, trivial⟩ ?_
  refine Tr.seq ?_
  refine Tr.seq ?_
  refine Tr.region ?_
  refine RegL.pure (p := (pEq (.int .i64 v2))) rfl rfl rfl (J_move rfl (Opd.tmp rfl)) ?_
  refine RegL.pure (p := (pSl 1 (cK .i64) table_0)) rfl rfl rfl (J_move rfl (Opd.tmp rfl)) ?_
  refine RegL.pure (p := (pEq (.int .i64 (table_0.length : Int)))) rfl rfl rfl (J_len rfl Try.underlying23 (Opd.tmp rfl) rfl) ?_
  refine RegL.pure (p := (pEq (.bool (decide (v2 < (table_0.length : Int)))))) rfl rfl rfl (J_bin rfl (Opd.tmp rfl) (Opd.tmp rfl) B_lss) ?_
  refine RegL.nil ?_
  refine Ct.then_tr ?_
  refine Tr.weak (Γ' := [(0, (pSl 1 (cK .i64) table_0)), (3, (pEq (.int .i64 v2))), (7, (pEq (.bool (decide (v2 < (table_0.length : Int))))))]) ⟨rfl, rfl, rfl, trivial⟩ ?_
  refine Tr.cond (Opd.tmp rfl) (fun hc => ?_) (fun hc => ?_)
  · replace h := bif_t hc h
    refine Tr.skip ?_
    refine Ct.then_tr ?_
    refine Tr.weak (Γ' := [(0, (pSl 1 (cK .i64) table_0)), (3, (pEq (.int .i64 v2)))]) ⟨rfl, rfl, trivial⟩ ?_
    refine Tr.seq ?_
    refine Tr.block ?_
    refine Tr.seq ?_
    replace h := bind_some h; obtain ⟨x4, hx4, h⟩ := h
    refine Tr.cut (γ := Unit) (Γm := fun g => [(0, (pSl 1 (cK .i64) table_0)), (3, (pEq (.int .i64 v2))), (31, (pEq (.bool x4)))]) (Ωm := fun g => []) ?_ (fun g11 => ?_)
    · clear h
      have h := hx4
      clear hx4
      replace h := bind_some h; obtain ⟨x5, hx5, h⟩ := h
      replace h := bind_some h; obtain ⟨x6, hx6, h⟩ := h
      rcases Bool.eq_false_or_eq_true (!x6) with hc7 | hc7
      · replace h := bif_t hc7 h
        refine Tr.drawD (n := 46) (m := 22) (es := [some (Ent.mk [(0, (pSl 1 (cK .i64) table_0))] (pSl 1 (cK .i64) table_0) true), some (Ent.mk [(3, (pEq (.int .i64 v2)))] (pEq (.int .i64 v2)) true), some (Ent.mk [(10, (pSl 1 (cK .i64) table_0)), (11, (pEq (.int .i64 v2)))] (pPtr ((cK .i64) x5)) true), some (Ent.mk [(12, (pPtr ((cK .i64) x5)))] (pEq (.int .i64 x5)) true), some (Ent.mk [(13, (pEq (.int .i64 x5)))] (pEq (.bool x6)) true), some (Ent.mk [(14, (pEq (.bool x6)))] (pEq (.bool (!x6))) true), some (Ent.mk [(15, (pEq (.bool (!x6))))] (pEq (.bool (!x6))) true), some (Ent.mk [(3, (pEq (.int .i64 v2)))] (pEq undef) false), some (Ent.mk [(17, (pEq undef))] (pEq undef) false), some (Ent.mk [(18, (pEq undef))] (pEq undef) false), some (Ent.mk [(0, (pSl 1 (cK .i64) table_0))] (pEq undef) false), some (Ent.mk [(3, (pEq (.int .i64 v2)))] (pEq undef) false), some (Ent.mk [(21, (pEq undef))] (pEq undef) false), some (Ent.mk [(20, (pEq undef)), (22, (pEq undef))] (pEq undef) false), some (Ent.mk [(23, (pEq undef))] (pEq undef) false), some (Ent.mk [(0, (pSl 1 (cK .i64) table_0))] (pEq undef) false), some (Ent.mk [(3, (pEq (.int .i64 v2)))] (pEq undef) false), some (Ent.mk [(25, (pEq undef)), (26, (pEq undef))] (pEq undef) false), some (Ent.mk [(27, (pEq undef))] (pEq undef) false), some (Ent.mk [(24, (pEq undef)), (28, (pEq undef))] (pEq undef) false), some (Ent.mk [(19, (pEq undef)), (29, (pEq undef))] (pEq undef) false), some (Ent.mk [(16, (pEq (.bool (!x6)))), (30, (pEq undef))] (pEq (.bool true)) true)]) (rd := [[0], [3], [10, 11], [12], [13], [14], [15], [3], [17], [18], [0], [3], [21], [20, 22], [23], [0], [3], [25, 26], [27], [24, 28], [19, 29], [16, 30]]) rfl hmix (by kernel_rfl) fun hD => ?_
        refine RD.fin (es := [Ent.mk [(0, (pSl 1 (cK .i64) table_0))] (pSl 1 (cK .i64) table_0) true, Ent.mk [(3, (pEq (.int .i64 v2)))] (pEq (.int .i64 v2)) true, Ent.mk [(10, (pSl 1 (cK .i64) table_0)), (11, (pEq (.int .i64 v2)))] (pPtr ((cK .i64) x5)) true, Ent.mk [(12, (pPtr ((cK .i64) x5)))] (pEq (.int .i64 x5)) true, Ent.mk [(13, (pEq (.int .i64 x5)))] (pEq (.bool x6)) true, Ent.mk [(14, (pEq (.bool x6)))] (pEq (.bool (!x6))) true, Ent.mk [(15, (pEq (.bool (!x6))))] (pEq (.bool (!x6))) true, Ent.mk [(3, (pEq (.int .i64 v2)))] (pEq undef) false, Ent.mk [(17, (pEq undef))] (pEq undef) false, Ent.mk [(18, (pEq undef))] (pEq undef) false, Ent.mk [(0, (pSl 1 (cK .i64) table_0))] (pEq undef) false, Ent.mk [(3, (pEq (.int .i64 v2)))] (pEq undef) false, Ent.mk [(21, (pEq undef))] (pEq undef) false, Ent.mk [(20, (pEq undef)), (22, (pEq undef))] (pEq undef) false, Ent.mk [(23, (pEq undef))] (pEq undef) false, Ent.mk [(0, (pSl 1 (cK .i64) table_0))] (pEq undef) false, Ent.mk [(3, (pEq (.int .i64 v2)))] (pEq undef) false, Ent.mk [(25, (pEq undef)), (26, (pEq undef))] (pEq undef) false, Ent.mk [(27, (pEq undef))] (pEq undef) false, Ent.mk [(24, (pEq undef)), (28, (pEq undef))] (pEq undef) false, Ent.mk [(19, (pEq undef)), (29, (pEq undef))] (pEq undef) false, Ent.mk [(16, (pEq (.bool (!x6)))), (30, (pEq undef))] (pEq (.bool true)) true]) (done := []) hD ⟨.inr ⟨(OpJ.w (J_move rfl (Opd.tmp rfl))), ⟨rfl, trivial⟩, rfl, rfl⟩, ⟨.inr ⟨(OpJ.w (J_move rfl (Opd.tmp rfl))), ⟨rfl, trivial⟩, rfl, rfl⟩, ⟨.inr ⟨(OpJ.w (J_idx rfl Try.underlying23 sz2 (Opd.tmp rfl) (Opd.tmp rfl) hx5)), ⟨rfl, rfl, trivial⟩, rfl, rfl⟩, ⟨.inr ⟨(OpJ.w (J_load rfl Try.isAgg2 (Opd.tmp rfl))), ⟨rfl, trivial⟩, rfl, rfl⟩, ⟨.inr ⟨(OpJ.w (J_call rfl Try.call35 (c_spec_l00In hx6) (Opds.cons (Opd.tmp rfl) (Opds.cons Opd.con (Opds.cons Opd.con Opds.nil))))), ⟨rfl, trivial⟩, rfl, rfl⟩, ⟨.inr ⟨(OpJ.w (J_not rfl (Opd.tmp rfl))), ⟨rfl, trivial⟩, rfl, rfl⟩, ⟨.inr ⟨(OpJ.w (J_move rfl (Opd.tmp rfl))), ⟨rfl, trivial⟩, rfl, rfl⟩, ⟨.inr ⟨rfl, ⟨rfl, trivial⟩, (.inl ⟨_, rfl, by simp [hc7]⟩), rfl⟩, ⟨.inr ⟨rfl, ⟨rfl, trivial⟩, (.inl ⟨_, rfl, by simp [hc7]⟩), rfl⟩, ⟨.inr ⟨rfl, ⟨rfl, trivial⟩, (.inl ⟨_, rfl, by simp [hc7]⟩), rfl⟩, ⟨.inr ⟨rfl, ⟨rfl, trivial⟩, (.inr ⟨rfl, rfl⟩), rfl⟩, ⟨.inr ⟨rfl, ⟨rfl, trivial⟩, (.inr ⟨rfl, rfl⟩), rfl⟩, ⟨.inr ⟨rfl, ⟨rfl, trivial⟩, (.inr ⟨rfl, rfl⟩), rfl⟩, ⟨.inr ⟨rfl, ⟨rfl, rfl, trivial⟩, (.inr ⟨rfl, rfl⟩), rfl⟩, ⟨.inr ⟨rfl, ⟨rfl, trivial⟩, (.inr ⟨rfl, rfl⟩), rfl⟩, ⟨.inr ⟨rfl, ⟨rfl, trivial⟩, (.inr ⟨rfl, rfl⟩), rfl⟩, ⟨.inr ⟨rfl, ⟨rfl, trivial⟩, (.inr ⟨rfl, rfl⟩), rfl⟩, ⟨.inr ⟨rfl, ⟨rfl, rfl, trivial⟩, (.inr ⟨rfl, rfl⟩), rfl⟩, ⟨.inr ⟨rfl, ⟨rfl, trivial⟩, (.inr ⟨rfl, rfl⟩), rfl⟩, ⟨.inr ⟨rfl, ⟨rfl, rfl, trivial⟩, (.inr ⟨rfl, rfl⟩), rfl⟩, ⟨.inr ⟨rfl, ⟨rfl, rfl, trivial⟩, (.inl ⟨_, rfl, by simp [hc7]⟩), rfl⟩, ⟨.inr ⟨(OpJ.w (J_pick rfl (Opd.tmp rfl) (fun _ => Opd.con) (fun hf => absurd (hc7.symm.trans hf) (by decide)))), ⟨rfl, rfl, trivial⟩, rfl, rfl⟩, trivial⟩⟩⟩⟩⟩⟩⟩⟩⟩⟩⟩⟩⟩⟩⟩⟩⟩⟩⟩⟩⟩⟩ ?_
        refine RegL.nil ?_
        replace h := Option.some.inj h; subst h
        exact Ct.mid () rfl ⟨rfl, rfl, rfl, trivial⟩
      · replace h := bif_f hc7 h
        rcases Bool.eq_false_or_eq_true (decide ((0 : Int) < v2)) with hc8 | hc8
        · replace h := bif_t hc8 h
          replace h := bind_some h; obtain ⟨x9, hx9, h⟩ := h
          replace h := bind_some h; obtain ⟨x10, hx10, h⟩ := h
          refine Tr.drawD (n := 46) (m := 22) (es := [some (Ent.mk [(0, (pSl 1 (cK .i64) table_0))] (pSl 1 (cK .i64) table_0) true), some (Ent.mk [(3, (pEq (.int .i64 v2)))] (pEq (.int .i64 v2)) true), some (Ent.mk [(10, (pSl 1 (cK .i64) table_0)), (11, (pEq (.int .i64 v2)))] (pPtr ((cK .i64) x5)) true), some (Ent.mk [(12, (pPtr ((cK .i64) x5)))] (pEq (.int .i64 x5)) true), some (Ent.mk [(13, (pEq (.int .i64 x5)))] (pEq (.bool x6)) true), some (Ent.mk [(14, (pEq (.bool x6)))] (pEq (.bool (!x6))) true), some (Ent.mk [(15, (pEq (.bool (!x6))))] (pEq (.bool (!x6))) true), some (Ent.mk [(3, (pEq (.int .i64 v2)))] (pEq (.int .i64 v2)) true), some (Ent.mk [(17, (pEq (.int .i64 v2)))] (pEq (.bool (decide ((0 : Int) < v2)))) true), some (Ent.mk [(18, (pEq (.bool (decide ((0 : Int) < v2)))))] (pEq (.bool (decide ((0 : Int) < v2)))) true), some (Ent.mk [(0, (pSl 1 (cK .i64) table_0))] (pSl 1 (cK .i64) table_0) true), some (Ent.mk [(3, (pEq (.int .i64 v2)))] (pEq (.int .i64 v2)) true), some (Ent.mk [(21, (pEq (.int .i64 v2)))] (pEq (.int .i64 (w64 (v2 - (1 : Int))))) true), some (Ent.mk [(20, (pSl 1 (cK .i64) table_0)), (22, (pEq (.int .i64 (w64 (v2 - (1 : Int))))))] (pPtr ((cK .i64) x9)) true), some (Ent.mk [(23, (pPtr ((cK .i64) x9)))] (pEq (.int .i64 x9)) true), some (Ent.mk [(0, (pSl 1 (cK .i64) table_0))] (pSl 1 (cK .i64) table_0) true), some (Ent.mk [(3, (pEq (.int .i64 v2)))] (pEq (.int .i64 v2)) true), some (Ent.mk [(25, (pSl 1 (cK .i64) table_0)), (26, (pEq (.int .i64 v2)))] (pPtr ((cK .i64) x10)) true), some (Ent.mk [(27, (pPtr ((cK .i64) x10)))] (pEq (.int .i64 x10)) true), some (Ent.mk [(24, (pEq (.int .i64 x9))), (28, (pEq (.int .i64 x10)))] (pEq (.bool (decide (x10 < x9)))) true), some (Ent.mk [(19, (pEq (.bool (decide ((0 : Int) < v2))))), (29, (pEq (.bool (decide (x10 < x9)))))] (pEq (.bool (decide (x10 < x9)))) true), some (Ent.mk [(16, (pEq (.bool (!x6)))), (30, (pEq (.bool (decide (x10 < x9)))))] (pEq (.bool (decide (x10 < x9)))) true)]) (rd := [[0], [3], [10, 11], [12], [13], [14], [15], [3], [17], [18], [0], [3], [21], [20, 22], [23], [0], [3], [25, 26], [27], [24, 28], [19, 29], [16, 30]]) rfl hmix (by kernel_rfl) fun hD => ?_
          refine RD.fin (es := [Ent.mk [(0, (pSl 1 (cK .i64) table_0))] (pSl 1 (cK .i64) table_0) true, Ent.mk [(3, (pEq (.int .i64 v2)))] (pEq (.int .i64 v2)) true, Ent.mk [(10, (pSl 1 (cK .i64) table_0)), (11, (pEq (.int .i64 v2)))] (pPtr ((cK .i64) x5)) true, Ent.mk [(12, (pPtr ((cK .i64) x5)))] (pEq (.int .i64 x5)) true, Ent.mk [(13, (pEq (.int .i64 x5)))] (pEq (.bool x6)) true, Ent.mk [(14, (pEq (.bool x6)))] (pEq (.bool (!x6))) true, Ent.mk [(15, (pEq (.bool (!x6))))] (pEq (.bool (!x6))) true, Ent.mk [(3, (pEq (.int .i64 v2)))] (pEq (.int .i64 v2)) true, Ent.mk [(17, (pEq (.int .i64 v2)))] (pEq (.bool (decide ((0 : Int) < v2)))) true, Ent.mk [(18, (pEq (.bool (decide ((0 : Int) < v2)))))] (pEq (.bool (decide ((0 : Int) < v2)))) true, Ent.mk [(0, (pSl 1 (cK .i64) table_0))] (pSl 1 (cK .i64) table_0) true, Ent.mk [(3, (pEq (.int .i64 v2)))] (pEq (.int .i64 v2)) true, Ent.mk [(21, (pEq (.int .i64 v2)))] (pEq (.int .i64 (w64 (v2 - (1 : Int))))) true, Ent.mk [(20, (pSl 1 (cK .i64) table_0)), (22, (pEq (.int .i64 (w64 (v2 - (1 : Int))))))] (pPtr ((cK .i64) x9)) true, Ent.mk [(23, (pPtr ((cK .i64) x9)))] (pEq (.int .i64 x9)) true, Ent.mk [(0, (pSl 1 (cK .i64) table_0))] (pSl 1 (cK .i64) table_0) true, Ent.mk [(3, (pEq (.int .i64 v2)))] (pEq (.int .i64 v2)) true, Ent.mk [(25, (pSl 1 (cK .i64) table_0)), (26, (pEq (.int .i64 v2)))] (pPtr ((cK .i64) x10)) true, Ent.mk [(27, (pPtr ((cK .i64) x10)))] (pEq (.int .i64 x10)) true, Ent.mk [(24, (pEq (.int .i64 x9))), (28, (pEq (.int .i64 x10)))] (pEq (.bool (decide (x10 < x9)))) true, Ent.mk [(19, (pEq (.bool (decide ((0 : Int) < v2))))), (29, (pEq (.bool (decide (x10 < x9)))))] (pEq (.bool (decide (x10 < x9)))) true, Ent.mk [(16, (pEq (.bool (!x6)))), (30, (pEq (.bool (decide (x10 < x9)))))] (pEq (.bool (decide (x10 < x9)))) true]) (done := []) hD ⟨.inr ⟨(OpJ.w (J_move rfl (Opd.tmp rfl))), ⟨rfl, trivial⟩, rfl, rfl⟩, ⟨.inr ⟨(OpJ.w (J_move rfl (Opd.tmp rfl))), ⟨rfl, trivial⟩, rfl, rfl⟩, ⟨.inr ⟨(OpJ.w (J_idx rfl Try.underlying23 sz2 (Opd.tmp rfl) (Opd.tmp rfl) hx5)), ⟨rfl, rfl, trivial⟩, rfl, rfl⟩, ⟨.inr ⟨(OpJ.w (J_load rfl Try.isAgg2 (Opd.tmp rfl))), ⟨rfl, trivial⟩, rfl, rfl⟩, ⟨.inr ⟨(OpJ.w (J_call rfl Try.call35 (c_spec_l00In hx6) (Opds.cons (Opd.tmp rfl) (Opds.cons Opd.con (Opds.cons Opd.con Opds.nil))))), ⟨rfl, trivial⟩, rfl, rfl⟩, ⟨.inr ⟨(OpJ.w (J_not rfl (Opd.tmp rfl))), ⟨rfl, trivial⟩, rfl, rfl⟩, ⟨.inr ⟨(OpJ.w (J_move rfl (Opd.tmp rfl))), ⟨rfl, trivial⟩, rfl, rfl⟩, ⟨.inr ⟨(OpJ.w (J_move rfl (Opd.tmp rfl))), ⟨rfl, trivial⟩, (.inl ⟨_, rfl, by simp [hc7]⟩), rfl⟩, ⟨.inr ⟨(OpJ.w (J_bin rfl (Opd.tmp rfl) Opd.con B_gtr)), ⟨rfl, trivial⟩, (.inl ⟨_, rfl, by simp [hc7]⟩), rfl⟩, ⟨.inr ⟨(OpJ.w (J_move rfl (Opd.tmp rfl))), ⟨rfl, trivial⟩, (.inl ⟨_, rfl, by simp [hc7]⟩), rfl⟩, ⟨.inr ⟨(OpJ.w (J_move rfl (Opd.tmp rfl))), ⟨rfl, trivial⟩, (.inl ⟨_, rfl, by simp [hc8]⟩), rfl⟩, ⟨.inr ⟨(OpJ.w (J_move rfl (Opd.tmp rfl))), ⟨rfl, trivial⟩, (.inl ⟨_, rfl, by simp [hc8]⟩), rfl⟩, ⟨.inr ⟨(OpJ.w (J_bin rfl (Opd.tmp rfl) Opd.con B_sub)), ⟨rfl, trivial⟩, (.inl ⟨_, rfl, by simp [hc8]⟩), rfl⟩, ⟨.inr ⟨(OpJ.w (J_idx rfl Try.underlying23 sz2 (Opd.tmp rfl) (Opd.tmp rfl) hx9)), ⟨rfl, rfl, trivial⟩, (.inl ⟨_, rfl, by simp [hc8]⟩), rfl⟩, ⟨.inr ⟨(OpJ.w (J_load rfl Try.isAgg2 (Opd.tmp rfl))), ⟨rfl, trivial⟩, (.inl ⟨_, rfl, by simp [hc8]⟩), rfl⟩, ⟨.inr ⟨(OpJ.w (J_move rfl (Opd.tmp rfl))), ⟨rfl, trivial⟩, (.inl ⟨_, rfl, by simp [hc8]⟩), rfl⟩, ⟨.inr ⟨(OpJ.w (J_move rfl (Opd.tmp rfl))), ⟨rfl, trivial⟩, (.inl ⟨_, rfl, by simp [hc8]⟩), rfl⟩, ⟨.inr ⟨(OpJ.w (J_idx rfl Try.underlying23 sz2 (Opd.tmp rfl) (Opd.tmp rfl) hx10)), ⟨rfl, rfl, trivial⟩, (.inl ⟨_, rfl, by simp [hc8]⟩), rfl⟩, ⟨.inr ⟨(OpJ.w (J_load rfl Try.isAgg2 (Opd.tmp rfl))), ⟨rfl, trivial⟩, (.inl ⟨_, rfl, by simp [hc8]⟩), rfl⟩, ⟨.inr ⟨(OpJ.w (J_bin rfl (Opd.tmp rfl) (Opd.tmp rfl) B_gtr)), ⟨rfl, rfl, trivial⟩, (.inl ⟨_, rfl, by simp [hc8]⟩), rfl⟩, ⟨.inr ⟨(OpJ.w (J_pick rfl (Opd.tmp rfl) (fun _ => (Opd.tmp rfl)) (fun hf => absurd (hc8.symm.trans hf) (by decide)))), ⟨rfl, rfl, trivial⟩, (.inl ⟨_, rfl, by simp [hc7]⟩), rfl⟩, ⟨.inr ⟨(OpJ.w (J_pick rfl (Opd.tmp rfl) (fun hf => absurd (hc7.symm.trans hf) (by decide)) (fun _ => (Opd.tmp rfl)))), ⟨rfl, rfl, trivial⟩, rfl, rfl⟩, trivial⟩⟩⟩⟩⟩⟩⟩⟩⟩⟩⟩⟩⟩⟩⟩⟩⟩⟩⟩⟩⟩⟩ ?_
          refine RegL.nil ?_
          replace h := Option.some.inj h; subst h
          exact Ct.mid () rfl ⟨rfl, rfl, rfl, trivial⟩
        · replace h := bif_f hc8 h
          refine Tr.drawD (n := 46) (m := 22) (es := [some (Ent.mk [(0, (pSl 1 (cK .i64) table_0))] (pSl 1 (cK .i64) table_0) true), some (Ent.mk [(3, (pEq (.int .i64 v2)))] (pEq (.int .i64 v2)) true), some (Ent.mk [(10, (pSl 1 (cK .i64) table_0)), (11, (pEq (.int .i64 v2)))] (pPtr ((cK .i64) x5)) true), some (Ent.mk [(12, (pPtr ((cK .i64) x5)))] (pEq (.int .i64 x5)) true), some (Ent.mk [(13, (pEq (.int .i64 x5)))] (pEq (.bool x6)) true), some (Ent.mk [(14, (pEq (.bool x6)))] (pEq (.bool (!x6))) true), some (Ent.mk [(15, (pEq (.bool (!x6))))] (pEq (.bool (!x6))) true), some (Ent.mk [(3, (pEq (.int .i64 v2)))] (pEq (.int .i64 v2)) true), some (Ent.mk [(17, (pEq (.int .i64 v2)))] (pEq (.bool (decide ((0 : Int) < v2)))) true), some (Ent.mk [(18, (pEq (.bool (decide ((0 : Int) < v2)))))] (pEq (.bool (decide ((0 : Int) < v2)))) true), some (Ent.mk [(0, (pSl 1 (cK .i64) table_0))] (pEq undef) false), some (Ent.mk [(3, (pEq (.int .i64 v2)))] (pEq undef) false), some (Ent.mk [(21, (pEq undef))] (pEq undef) false), some (Ent.mk [(20, (pEq undef)), (22, (pEq undef))] (pEq undef) false), some (Ent.mk [(23, (pEq undef))] (pEq undef) false), some (Ent.mk [(0, (pSl 1 (cK .i64) table_0))] (pEq undef) false), some (Ent.mk [(3, (pEq (.int .i64 v2)))] (pEq undef) false), some (Ent.mk [(25, (pEq undef)), (26, (pEq undef))] (pEq undef) false), some (Ent.mk [(27, (pEq undef))] (pEq undef) false), some (Ent.mk [(24, (pEq undef)), (28, (pEq undef))] (pEq undef) false), some (Ent.mk [(19, (pEq (.bool (decide ((0 : Int) < v2))))), (29, (pEq undef))] (pEq (.bool false)) true), some (Ent.mk [(16, (pEq (.bool (!x6)))), (30, (pEq (.bool false)))] (pEq (.bool false)) true)]) (rd := [[0], [3], [10, 11], [12], [13], [14], [15], [3], [17], [18], [0], [3], [21], [20, 22], [23], [0], [3], [25, 26], [27], [24, 28], [19, 29], [16, 30]]) rfl hmix (by kernel_rfl) fun hD => ?_
          refine RD.fin (es := [Ent.mk [(0, (pSl 1 (cK .i64) table_0))] (pSl 1 (cK .i64) table_0) true, Ent.mk [(3, (pEq (.int .i64 v2)))] (pEq (.int .i64 v2)) true, Ent.mk [(10, (pSl 1 (cK .i64) table_0)), (11, (pEq (.int .i64 v2)))] (pPtr ((cK .i64) x5)) true, Ent.mk [(12, (pPtr ((cK .i64) x5)))] (pEq (.int .i64 x5)) true, Ent.mk [(13, (pEq (.int .i64 x5)))] (pEq (.bool x6)) true, Ent.mk [(14, (pEq (.bool x6)))] (pEq (.bool (!x6))) true, Ent.mk [(15, (pEq (.bool (!x6))))] (pEq (.bool (!x6))) true, Ent.mk [(3, (pEq (.int .i64 v2)))] (pEq (.int .i64 v2)) true, Ent.mk [(17, (pEq (.int .i64 v2)))] (pEq (.bool (decide ((0 : Int) < v2)))) true, Ent.mk [(18, (pEq (.bool (decide ((0 : Int) < v2)))))] (pEq (.bool (decide ((0 : Int) < v2)))) true, Ent.mk [(0, (pSl 1 (cK .i64) table_0))] (pEq undef) false, Ent.mk [(3, (pEq (.int .i64 v2)))] (pEq undef) false, Ent.mk [(21, (pEq undef))] (pEq undef) false, Ent.mk [(20, (pEq undef)), (22, (pEq undef))] (pEq undef) false, Ent.mk [(23, (pEq undef))] (pEq undef) false, Ent.mk [(0, (pSl 1 (cK .i64) table_0))] (pEq undef) false, Ent.mk [(3, (pEq (.int .i64 v2)))] (pEq undef) false, Ent.mk [(25, (pEq undef)), (26, (pEq undef))] (pEq undef) false, Ent.mk [(27, (pEq undef))] (pEq undef) false, Ent.mk [(24, (pEq undef)), (28, (pEq undef))] (pEq undef) false, Ent.mk [(19, (pEq (.bool (decide ((0 : Int) < v2))))), (29, (pEq undef))] (pEq (.bool false)) true, Ent.mk [(16, (pEq (.bool (!x6)))), (30, (pEq (.bool false)))] (pEq (.bool false)) true]) (done := []) hD ⟨.inr ⟨(OpJ.w (J_move rfl (Opd.tmp rfl))), ⟨rfl, trivial⟩, rfl, rfl⟩, ⟨.inr ⟨(OpJ.w (J_move rfl (Opd.tmp rfl))), ⟨rfl, trivial⟩, rfl, rfl⟩, ⟨.inr ⟨(OpJ.w (J_idx rfl Try.underlying23 sz2 (Opd.tmp rfl) (Opd.tmp rfl) hx5)), ⟨rfl, rfl, trivial⟩, rfl, rfl⟩, ⟨.inr ⟨(OpJ.w (J_load rfl Try.isAgg2 (Opd.tmp rfl))), ⟨rfl, trivial⟩, rfl, rfl⟩, ⟨.inr ⟨(OpJ.w (J_call rfl Try.call35 (c_spec_l00In hx6) (Opds.cons (Opd.tmp rfl) (Opds.cons Opd.con (Opds.cons Opd.con Opds.nil))))), ⟨rfl, trivial⟩, rfl, rfl⟩, ⟨.inr ⟨(OpJ.w (J_not rfl (Opd.tmp rfl))), ⟨rfl, trivial⟩, rfl, rfl⟩, ⟨.inr ⟨(OpJ.w (J_move rfl (Opd.tmp rfl))), ⟨rfl, trivial⟩, rfl, rfl⟩, ⟨.inr ⟨(OpJ.w (J_move rfl (Opd.tmp rfl))), ⟨rfl, trivial⟩, (.inl ⟨_, rfl, by simp [hc7]⟩), rfl⟩, ⟨.inr ⟨(OpJ.w (J_bin rfl (Opd.tmp rfl) Opd.con B_gtr)), ⟨rfl, trivial⟩, (.inl ⟨_, rfl, by simp [hc7]⟩), rfl⟩, ⟨.inr ⟨(OpJ.w (J_move rfl (Opd.tmp rfl))), ⟨rfl, trivial⟩, (.inl ⟨_, rfl, by simp [hc7]⟩), rfl⟩, ⟨.inr ⟨rfl, ⟨rfl, trivial⟩, (.inl ⟨_, rfl, by simp [hc8]⟩), rfl⟩, ⟨.inr ⟨rfl, ⟨rfl, trivial⟩, (.inl ⟨_, rfl, by simp [hc8]⟩), rfl⟩, ⟨.inr ⟨rfl, ⟨rfl, trivial⟩, (.inl ⟨_, rfl, by simp [hc8]⟩), rfl⟩, ⟨.inr ⟨rfl, ⟨rfl, rfl, trivial⟩, (.inl ⟨_, rfl, by simp [hc8]⟩), rfl⟩, ⟨.inr ⟨rfl, ⟨rfl, trivial⟩, (.inl ⟨_, rfl, by simp [hc8]⟩), rfl⟩, ⟨.inr ⟨rfl, ⟨rfl, trivial⟩, (.inl ⟨_, rfl, by simp [hc8]⟩), rfl⟩, ⟨.inr ⟨rfl, ⟨rfl, trivial⟩, (.inl ⟨_, rfl, by simp [hc8]⟩), rfl⟩, ⟨.inr ⟨rfl, ⟨rfl, rfl, trivial⟩, (.inl ⟨_, rfl, by simp [hc8]⟩), rfl⟩, ⟨.inr ⟨rfl, ⟨rfl, trivial⟩, (.inl ⟨_, rfl, by simp [hc8]⟩), rfl⟩, ⟨.inr ⟨rfl, ⟨rfl, rfl, trivial⟩, (.inl ⟨_, rfl, by simp [hc8]⟩), rfl⟩, ⟨.inr ⟨(OpJ.w (J_pick rfl (Opd.tmp rfl) (fun hf => absurd (hc8.symm.trans hf) (by decide)) (fun _ => Opd.con))), ⟨rfl, rfl, trivial⟩, (.inl ⟨_, rfl, by simp [hc7]⟩), rfl⟩, ⟨.inr ⟨(OpJ.w (J_pick rfl (Opd.tmp rfl) (fun hf => absurd (hc7.symm.trans hf) (by decide)) (fun _ => (Opd.tmp rfl)))), ⟨rfl, rfl, trivial⟩, rfl, rfl⟩, trivial⟩⟩⟩⟩⟩⟩⟩⟩⟩⟩⟩⟩⟩⟩⟩⟩⟩⟩⟩⟩⟩⟩ ?_
          refine RegL.nil ?_
          replace h := Option.some.inj h; subst h
          exact Ct.mid () rfl ⟨rfl, rfl, rfl, trivial⟩
    · clear hx4
      refine Ct.then_tr ?_
      refine Tr.weak (Γ' := [(0, (pSl 1 (cK .i64) table_0)), (3, (pEq (.int .i64 v2))), (31, (pEq (.bool x4)))]) ⟨rfl, rfl, rfl, trivial⟩ ?_
      refine Tr.cond (Opd.tmp rfl) (fun hc => ?_) (fun hc => ?_)
      · replace h := bif_t hc h
        refine Tr.seq ?_
        refine Tr.region ?_
        refine RegL.pure (p := (pEq (.bool false))) rfl rfl rfl (J_assign rfl Opd.con) ?_
        refine RegL.nil ?_
        refine Ct.then_tr ?_
        refine Tr.weak (Γ' := [(2, (pEq (.bool false)))]) ⟨rfl, trivial⟩ ?_
        refine Tr.ret ?_
        refine Ct.blk_ret ?_
        refine Ct.then_ret ?_
        replace h := map_some h; obtain ⟨r1, h, rfl⟩ := h
        refine Ct.out_ret fun e => ?_
        subst e
        refine Ct.blk_ret ?_
        refine Ct.then_ret ?_
        replace h := Option.some.inj h; subst h
        exact Ct.retH1 (Ωx := []) () rfl (RvOk.tmp rfl) rfl
      · replace h := bif_f hc h
        refine Tr.skip ?_
        refine Ct.blk_normal ?_
        refine Ct.then_tr ?_
        refine Tr.weak (Γ' := [(0, (pSl 1 (cK .i64) table_0)), (3, (pEq (.int .i64 v2)))]) ⟨rfl, rfl, trivial⟩ ?_
        refine Tr.region ?_
        refine RegL.pure (p := (pEq (.int .i64 v2))) rfl rfl rfl (J_move rfl (Opd.tmp rfl)) ?_
        refine RegL.pure (p := (pEq (.int .i64 (w64 (v2 + (1 : Int)))))) rfl rfl rfl (J_bin rfl (Opd.tmp rfl) Opd.con B_add) ?_
        refine RegL.pure (p := (pEq (.int .i64 (w64 (v2 + (1 : Int)))))) rfl rfl rfl (J_assign rfl (Opd.tmp rfl)) ?_
        refine RegL.nil ?_
        replace h := Option.some.inj h; subst h
        exact Ct.again () rfl ⟨rfl, rfl, trivial⟩
  · replace h := bif_f hc h
    refine Tr.exit ?_
    refine Ct.then_exit ?_
    replace h := map_some h; obtain ⟨r1, h, rfl⟩ := h
    refine Ct.out_exit fun e => ?_
    subst e
    refine Ct.blk_exit ?_
    refine Ct.then_tr ?_
    refine Tr.weak (Γ' := [(0, (pSl 1 (cK .i64) table_0))]) ⟨rfl, trivial⟩ ?_
    refine Tr.seq ?_
    replace h := bind_some h; obtain ⟨x12, hx12, h⟩ := h
    refine Tr.cut (γ := Unit) (Γm := fun g => [(2, (pEq (.bool x12)))]) (Ωm := fun g => []) ?_ (fun g16 => ?_)
    · clear h
      have h := hx12
      clear hx12
      refine Tr.region ?_
      refine RegL.pure (p := (pSl 1 (cK .i64) table_0)) rfl rfl rfl (J_move rfl (Opd.tmp rfl)) ?_
      refine RegL.pure (p := (pEq (.int .i64 (table_0.length : Int)))) rfl rfl rfl (J_len rfl Try.underlying23 (Opd.tmp rfl) rfl) ?_
      refine RegL.pure (p := (pEq (.bool (decide ((0 : Int) < (table_0.length : Int)))))) rfl rfl rfl (J_bin rfl (Opd.tmp rfl) Opd.con B_gtr) ?_
      refine RegL.pure (p := (pEq (.bool (decide ((0 : Int) < (table_0.length : Int)))))) rfl rfl rfl (J_move rfl (Opd.tmp rfl)) ?_
      rcases Bool.eq_false_or_eq_true (decide ((0 : Int) < (table_0.length : Int))) with hc13 | hc13
      · replace h := bif_t hc13 h
        refine RegL.pureG (p := (pSl 1 (cK .i64) table_0)) rfl rfl rfl hc13 rfl rfl (J_move rfl (Opd.tmp rfl)) ?_
        refine RegL.pureG (p := (pEq (.int .i64 (table_0.length : Int)))) rfl rfl rfl hc13 rfl rfl (J_len rfl Try.underlying23 (Opd.tmp rfl) rfl) ?_
        refine RegL.pureG (p := (pEq (.bool (decide ((table_0.length : Int) ≤ (64 : Int)))))) rfl rfl rfl hc13 rfl rfl (J_bin rfl (Opd.tmp rfl) Opd.con B_leq) ?_
        refine RegL.pure (p := (pEq (.bool (decide ((table_0.length : Int) ≤ (64 : Int)))))) rfl rfl rfl (J_pick rfl (Opd.tmp rfl) (fun _ => (Opd.tmp rfl)) (fun hf => absurd (hc13.symm.trans hf) (by decide))) ?_
        refine RegL.pure (p := (pEq (.bool (decide ((table_0.length : Int) ≤ (64 : Int)))))) rfl rfl rfl (J_move rfl (Opd.tmp rfl)) ?_
        rcases Bool.eq_false_or_eq_true (decide ((table_0.length : Int) ≤ (64 : Int))) with hc14 | hc14
        · replace h := bif_t hc14 h
          refine RegL.pureG (p := (pSl 1 (cK .i64) table_0)) rfl rfl rfl hc14 rfl rfl (J_move rfl (Opd.tmp rfl)) ?_
          replace h := bind_some h; obtain ⟨x15, hx15, h⟩ := h
          refine RegL.pureG (p := (pPtr ((cK .i64) x15))) rfl rfl rfl hc14 rfl rfl (J_idx rfl Try.underlying23 sz2 (Opd.tmp rfl) Opd.con hx15) ?_
          refine RegL.pureG (p := (pEq (.int .i64 x15))) rfl rfl rfl hc14 rfl rfl (J_load rfl Try.isAgg2 (Opd.tmp rfl)) ?_
          refine RegL.pureG (p := (pEq (.bool (x15 == (0 : Int))))) rfl rfl rfl hc14 rfl rfl (J_bin rfl (Opd.tmp rfl) Opd.con B_eql) ?_
          refine RegL.pure (p := (pEq (.bool (x15 == (0 : Int))))) rfl rfl rfl (J_pick rfl (Opd.tmp rfl) (fun _ => (Opd.tmp rfl)) (fun hf => absurd (hc14.symm.trans hf) (by decide))) ?_
          refine RegL.pure (p := (pEq (.bool (x15 == (0 : Int))))) rfl rfl rfl (J_assign rfl (Opd.tmp rfl)) ?_
          refine RegL.nil ?_
          replace h := Option.some.inj h; subst h
          exact Ct.mid () rfl ⟨rfl, trivial⟩
        · replace h := bif_f hc14 h
          refine RegL.skipG rfl rfl rfl hc14 rfl rfl ?_
          refine RegL.skipG rfl rfl rfl hc14 rfl rfl ?_
          refine RegL.skipG rfl rfl rfl hc14 rfl rfl ?_
          refine RegL.skipG rfl rfl rfl hc14 rfl rfl ?_
          refine RegL.pure (p := (pEq (.bool false))) rfl rfl rfl (J_pick rfl (Opd.tmp rfl) (fun hf => absurd (hc14.symm.trans hf) (by decide)) (fun _ => Opd.con)) ?_
          refine RegL.pure (p := (pEq (.bool false))) rfl rfl rfl (J_assign rfl (Opd.tmp rfl)) ?_
          refine RegL.nil ?_
          replace h := Option.some.inj h; subst h
          exact Ct.mid () rfl ⟨rfl, trivial⟩
      · replace h := bif_f hc13 h
        refine RegL.skipG rfl rfl rfl hc13 rfl rfl ?_
        refine RegL.skipG rfl rfl rfl hc13 rfl rfl ?_
        refine RegL.skipG rfl rfl rfl hc13 rfl rfl ?_
        refine RegL.pure (p := (pEq (.bool false))) rfl rfl rfl (J_pick rfl (Opd.tmp rfl) (fun hf => absurd (hc13.symm.trans hf) (by decide)) (fun _ => Opd.con)) ?_
        refine RegL.pure (p := (pEq (.bool false))) rfl rfl rfl (J_move rfl (Opd.tmp rfl)) ?_
        refine RegL.skipG rfl rfl rfl rfl rfl rfl ?_
        refine RegL.skipG rfl rfl rfl rfl rfl rfl ?_
        refine RegL.skipG rfl rfl rfl rfl rfl rfl ?_
        refine RegL.skipG rfl rfl rfl rfl rfl rfl ?_
        refine RegL.pure (p := (pEq (.bool false))) rfl rfl rfl (J_pick rfl (Opd.tmp rfl) (fun hf => absurd hf (by decide)) (fun _ => Opd.con)) ?_
        refine RegL.pure (p := (pEq (.bool false))) rfl rfl rfl (J_assign rfl (Opd.tmp rfl)) ?_
        refine RegL.nil ?_
        replace h := Option.some.inj h; subst h
        exact Ct.mid () rfl ⟨rfl, trivial⟩
    · clear hx12
      refine Ct.then_tr ?_
      refine Tr.weak (Γ' := [(2, (pEq (.bool x12)))]) ⟨rfl, trivial⟩ ?_
      refine Tr.ret ?_
      replace h := Option.some.inj h; subst h
      exact Ct.retH1 (Ωx := []) () rfl (RvOk.tmp rfl) rfl

theorem c_spec_l00Rises {list_0 : (List Int)} {low_1 : Int} {high_2 : Int} {r : Bool} (h : m_spec_l00Rises list_0 low_1 high_2 = some r) : CallJ Try.prog 89 [(pSl 1 (cK .i64) list_0), (pEq (.int .i64 low_1)), (pEq (.int .i64 high_2))] (pEq (.bool r)) := by
  unfold m_spec_l00Rises at h
  refine CallJ.enterH Try.func89 rfl Try.ntmps89 rfl fun W I0 H => ?_
  refine Tr.weak (Γ' := [(0, (pSl 1 (cK .i64) list_0)), (1, (pEq (.int .i64 low_1))), (2, (pEq (.int .i64 high_2)))]) ⟨rfl, rfl, rfl, trivial⟩ ?_
  refine Tr.seq ?_
  refine Tr.region ?_
  refine RegL.pure (p := (pEq (.bool false))) rfl rfl rfl (J_assign rfl Opd.con) ?_
  refine RegL.nil ?_
  refine Ct.then_tr ?_
  refine Tr.weak (Γ' := [(0, (pSl 1 (cK .i64) list_0)), (1, (pEq (.int .i64 low_1))), (2, (pEq (.int .i64 high_2)))]) ⟨rfl, rfl, rfl, trivial⟩ ?_
  refine Tr.seq ?_
  refine Tr.seq ?_
  refine Tr.region ?_
  refine RegL.pure (p := (pEq (.int .i64 (0 : Int)))) rfl rfl rfl (J_assign rfl Opd.con) ?_
  refine RegL.nil ?_
  refine Ct.then_tr ?_
  refine Tr.weak (Γ' := [(0, (pSl 1 (cK .i64) list_0)), (1, (pEq (.int .i64 low_1))), (2, (pEq (.int .i64 high_2))), (7, (pEq (.int .i64 (0 : Int))))]) ⟨rfl, rfl, rfl, rfl, trivial⟩ ?_
  refine Tr.block ?_
  refine Tr.weak (Γ' := [(0, (pSl 1 (cK .i64) list_0)), (1, (pEq (.int .i64 low_1))), (2, (pEq (.int .i64 high_2))), (7, (pEq (.int .i64 (0 : Int))))]) ⟨rfl, rfl, rfl, rfl, trivial⟩ ?_
  refine Tr.loop (γ := Unit) (σ := Int) (Γσ := fun s g => [(0, (pSl 1 (cK .i64) list_0)), (1, (pEq (.int .i64 low_1))), (2, (pEq (.int .i64 high_2))), (7, (pEq (.int .i64 s)))]) (Ωσ := fun s g => []) (g := ()) h ?_
  clear h
  rintro v2 g3 t h
  replace h : m_spec_l00Rises_B1 list_0 low_1 high_2 v2 = some t := h
  unfold m_spec_l00Rises_B1 at h
  refine Tr.weakO (Γ' := [(0, (pSl 1 (cK .i64) list_0)), (1, (pEq (.int .i64 low_1))), (2, (pEq (.int .i64 high_2))), (7, (pEq (.int .i64 v2)))]) (Ω' := []) rfl ⟨rfl, rfl, rfl, rfl, trivial⟩ ?_
  refine Tr.seq ?_
  refine Tr.seq ?_
  refine Tr.region ?_
  refine RegL.pure (p := (pEq (.int .i64 v2))) rfl rfl rfl (J_move rfl (Opd.tmp rfl)) ?_
  refine RegL.pure (p := (pSl 1 (cK .i64) list_0)) rfl rfl rfl (J_move rfl (Opd.tmp rfl)) ?_
  refine RegL.pure (p := (pEq (.int .i64 (list_0.length : Int)))) rfl rfl rfl (J_len rfl Try.underlying23 (Opd.tmp rfl) rfl) ?_
  refine RegL.pure (p := (pEq (.bool (decide (v2 < (list_0.length : Int)))))) rfl rfl rfl (J_bin rfl (Opd.tmp rfl) (Opd.tmp rfl) B_lss) ?_
  refine RegL.nil ?_
  refine Ct.then_tr ?_
  refine Tr.weak (Γ' := [(0, (pSl 1 (cK .i64) list_0)), (1, (pEq (.int .i64 low_1))), (2, (pEq (.int .i64 high_2))), (7, (pEq (.int .i64 v2))), (11, (pEq (.bool (decide (v2 < (list_0.length : Int))))))]) ⟨rfl, rfl, rfl, rfl, rfl, trivial⟩ ?_
  refine Tr.cond (Opd.tmp rfl) (fun hc => ?_) (fun hc => ?_)
  · replace h := bif_t hc h
    refine Tr.skip ?_
    refine Ct.then_tr ?_
    refine Tr.weak (Γ' := [(0, (pSl 1 (cK .i64) list_0)), (1, (pEq (.int .i64 low_1))), (2, (pEq (.int .i64 high_2))), (7, (pEq (.int .i64 v2)))]) ⟨rfl, rfl, rfl, rfl, trivial⟩ ?_
    refine Tr.seq ?_
    refine Tr.block ?_
    refine Tr.seq ?_
    replace h := bind_some h; obtain ⟨x4, hx4, h⟩ := h
    refine Tr.cut (γ := Unit) (Γm := fun g => [(0, (pSl 1 (cK .i64) list_0)), (1, (pEq (.int .i64 low_1))), (2, (pEq (.int .i64 high_2))), (7, (pEq (.int .i64 v2))), (37, (pEq (.bool x4)))]) (Ωm := fun g => []) ?_ (fun g11 => ?_)
    · clear h
      have h := hx4
      clear hx4
      replace h := bind_some h; obtain ⟨x5, hx5, h⟩ := h
      replace h := bind_some h; obtain ⟨x6, hx6, h⟩ := h
      rcases Bool.eq_false_or_eq_true (!x6) with hc7 | hc7
      · replace h := bif_t hc7 h
        refine Tr.drawD (n := 38) (m := 24) (es := [some (Ent.mk [(0, (pSl 1 (cK .i64) list_0))] (pSl 1 (cK .i64) list_0) true), some (Ent.mk [(7, (pEq (.int .i64 v2)))] (pEq (.int .i64 v2)) true), some (Ent.mk [(14, (pSl 1 (cK .i64) list_0)), (15, (pEq (.int .i64 v2)))] (pPtr ((cK .i64) x5)) true), some (Ent.mk [(16, (pPtr ((cK .i64) x5)))] (pEq (.int .i64 x5)) true), some (Ent.mk [(1, (pEq (.int .i64 low_1)))] (pEq (.int .i64 low_1)) true), some (Ent.mk [(2, (pEq (.int .i64 high_2)))] (pEq (.int .i64 high_2)) true), some (Ent.mk [(17, (pEq (.int .i64 x5))), (18, (pEq (.int .i64 low_1))), (19, (pEq (.int .i64 high_2)))] (pEq (.bool x6)) true), some (Ent.mk [(20, (pEq (.bool x6)))] (pEq (.bool (!x6))) true), some (Ent.mk [(21, (pEq (.bool (!x6))))] (pEq (.bool (!x6))) true), some (Ent.mk [(7, (pEq (.int .i64 v2)))] (pEq undef) false), some (Ent.mk [(23, (pEq undef))] (pEq undef) false), some (Ent.mk [(24, (pEq undef))] (pEq undef) false), some (Ent.mk [(0, (pSl 1 (cK .i64) list_0))] (pEq undef) false), some (Ent.mk [(7, (pEq (.int .i64 v2)))] (pEq undef) false), some (Ent.mk [(27, (pEq undef))] (pEq undef) false), some (Ent.mk [(26, (pEq undef)), (28, (pEq undef))] (pEq undef) false), some (Ent.mk [(29, (pEq undef))] (pEq undef) false), some (Ent.mk [(0, (pSl 1 (cK .i64) list_0))] (pEq undef) false), some (Ent.mk [(7, (pEq (.int .i64 v2)))] (pEq undef) false), some (Ent.mk [(31, (pEq undef)), (32, (pEq undef))] (pEq undef) false), some (Ent.mk [(33, (pEq undef))] (pEq undef) false), some (Ent.mk [(30, (pEq undef)), (34, (pEq undef))] (pEq undef) false), some (Ent.mk [(25, (pEq undef)), (35, (pEq undef))] (pEq undef) false), some (Ent.mk [(22, (pEq (.bool (!x6)))), (36, (pEq undef))] (pEq (.bool true)) true)]) (rd := [[0], [7], [14, 15], [16], [1], [2], [17, 18, 19], [20], [21], [7], [23], [24], [0], [7], [27], [26, 28], [29], [0], [7], [31, 32], [33], [30, 34], [25, 35], [22, 36]]) rfl hmix (by kernel_rfl) fun hD => ?_
        refine RD.fin (es := [Ent.mk [(0, (pSl 1 (cK .i64) list_0))] (pSl 1 (cK .i64) list_0) true, Ent.mk [(7, (pEq (.int .i64 v2)))] (pEq (.int .i64 v2)) true, Ent.mk [(14, (pSl 1 (cK .i64) list_0)), (15, (pEq (.int .i64 v2)))] (pPtr ((cK .i64) x5)) true, Ent.mk [(16, (pPtr ((cK .i64) x5)))] (pEq (.int .i64 x5)) true, Ent.mk [(1, (pEq (.int .i64 low_1)))] (pEq (.int .i64 low_1)) true, Ent.mk [(2, (pEq (.int .i64 high_2)))] (pEq (.int .i64 high_2)) true, Ent.mk [(17, (pEq (.int .i64 x5))), (18, (pEq (.int .i64 low_1))), (19, (pEq (.int .i64 high_2)))] (pEq (.bool x6)) true, Ent.mk [(20, (pEq (.bool x6)))] (pEq (.bool (!x6))) true, Ent.mk [(21, (pEq (.bool (!x6))))] (pEq (.bool (!x6))) true, Ent.mk [(7, (pEq (.int .i64 v2)))] (pEq undef) false, Ent.mk [(23, (pEq undef))] (pEq undef) false, Ent.mk [(24, (pEq undef))] (pEq undef) false, Ent.mk [(0, (pSl 1 (cK .i64) list_0))] (pEq undef) false, Ent.mk [(7, (pEq (.int .i64 v2)))] (pEq undef) false, Ent.mk [(27, (pEq undef))] (pEq undef) false, Ent.mk [(26, (pEq undef)), (28, (pEq undef))] (pEq undef) false, Ent.mk [(29, (pEq undef))] (pEq undef) false, Ent.mk [(0, (pSl 1 (cK .i64) list_0))] (pEq undef) false, Ent.mk [(7, (pEq (.int .i64 v2)))] (pEq undef) false, Ent.mk [(31, (pEq undef)), (32, (pEq undef))] (pEq undef) false, Ent.mk [(33, (pEq undef))] (pEq undef) false, Ent.mk [(30, (pEq undef)), (34, (pEq undef))] (pEq undef) false, Ent.mk [(25, (pEq undef)), (35, (pEq undef))] (pEq undef) false, Ent.mk [(22, (pEq (.bool (!x6)))), (36, (pEq undef))] (pEq (.bool true)) true]) (done := []) hD ⟨.inr ⟨(OpJ.w (J_move rfl (Opd.tmp rfl))), ⟨rfl, trivial⟩, rfl, rfl⟩, ⟨.inr ⟨(OpJ.w (J_move rfl (Opd.tmp rfl))), ⟨rfl, trivial⟩, rfl, rfl⟩, ⟨.inr ⟨(OpJ.w (J_idx rfl Try.underlying23 sz2 (Opd.tmp rfl) (Opd.tmp rfl) hx5)), ⟨rfl, rfl, trivial⟩, rfl, rfl⟩, ⟨.inr ⟨(OpJ.w (J_load rfl Try.isAgg2 (Opd.tmp rfl))), ⟨rfl, trivial⟩, rfl, rfl⟩, ⟨.inr ⟨(OpJ.w (J_move rfl (Opd.tmp rfl))), ⟨rfl, trivial⟩, rfl, rfl⟩, ⟨.inr ⟨(OpJ.w (J_move rfl (Opd.tmp rfl))), ⟨rfl, trivial⟩, rfl, rfl⟩, ⟨.inr ⟨(OpJ.w (J_call rfl Try.call35 (c_spec_l00In hx6) (Opds.cons (Opd.tmp rfl) (Opds.cons (Opd.tmp rfl) (Opds.cons (Opd.tmp rfl) Opds.nil))))), ⟨rfl, rfl, rfl, trivial⟩, rfl, rfl⟩, ⟨.inr ⟨(OpJ.w (J_not rfl (Opd.tmp rfl))), ⟨rfl, trivial⟩, rfl, rfl⟩, ⟨.inr ⟨(OpJ.w (J_move rfl (Opd.tmp rfl))), ⟨rfl, trivial⟩, rfl, rfl⟩, ⟨.inr ⟨rfl, ⟨rfl, trivial⟩, (.inl ⟨_, rfl, by simp [hc7]⟩), rfl⟩, ⟨.inr ⟨rfl, ⟨rfl, trivial⟩, (.inl ⟨_, rfl, by simp [hc7]⟩), rfl⟩, ⟨.inr ⟨rfl, ⟨rfl, trivial⟩, (.inl ⟨_, rfl, by simp [hc7]⟩), rfl⟩, ⟨.inr ⟨rfl, ⟨rfl, trivial⟩, (.inr ⟨rfl, rfl⟩), rfl⟩, ⟨.inr ⟨rfl, ⟨rfl, trivial⟩, (.inr ⟨rfl, rfl⟩), rfl⟩, ⟨.inr ⟨rfl, ⟨rfl, trivial⟩, (.inr ⟨rfl, rfl⟩), rfl⟩, ⟨.inr ⟨rfl, ⟨rfl, rfl, trivial⟩, (.inr ⟨rfl, rfl⟩), rfl⟩, ⟨.inr ⟨rfl, ⟨rfl, trivial⟩, (.inr ⟨rfl, rfl⟩), rfl⟩, ⟨.inr ⟨rfl, ⟨rfl, trivial⟩, (.inr ⟨rfl, rfl⟩), rfl⟩, ⟨.inr ⟨rfl, ⟨rfl, trivial⟩, (.inr ⟨rfl, rfl⟩), rfl⟩, ⟨.inr ⟨rfl, ⟨rfl, rfl, trivial⟩, (.inr ⟨rfl, rfl⟩), rfl⟩, ⟨.inr ⟨rfl, ⟨rfl, trivial⟩, (.inr ⟨rfl, rfl⟩), rfl⟩, ⟨.inr ⟨rfl, ⟨rfl, rfl, trivial⟩, (.inr ⟨rfl, rfl⟩), rfl⟩, ⟨.inr ⟨rfl, ⟨rfl, rfl, trivial⟩, (.inl ⟨_, rfl, by simp [hc7]⟩), rfl⟩, ⟨.inr ⟨(OpJ.w (J_pick rfl (Opd.tmp rfl) (fun _ => Opd.con) (fun hf => absurd (hc7.symm.trans hf) (by decide)))), ⟨rfl, rfl, trivial⟩, rfl, rfl⟩, trivial⟩⟩⟩⟩⟩⟩⟩⟩⟩⟩⟩⟩⟩⟩⟩⟩⟩⟩⟩⟩⟩⟩⟩⟩ ?_
        refine RegL.nil ?_
        replace h := Option.some.inj h; subst h
        exact Ct.mid () rfl ⟨rfl, rfl, rfl, rfl, rfl, trivial⟩
      · replace h := bif_f hc7 h
        rcases Bool.eq_false_or_eq_true (decide ((0 : Int) < v2)) with hc8 | hc8
        · replace h := bif_t hc8 h
          replace h := bind_some h; obtain ⟨x9, hx9, h⟩ := h
          replace h := bind_some h; obtain ⟨x10, hx10, h⟩ := h
          refine Tr.drawD (n := 38) (m := 24) (es := [some (Ent.mk [(0, (pSl 1 (cK .i64) list_0))] (pSl 1 (cK .i64) list_0) true), some (Ent.mk [(7, (pEq (.int .i64 v2)))] (pEq (.int .i64 v2)) true), some (Ent.mk [(14, (pSl 1 (cK .i64) list_0)), (15, (pEq (.int .i64 v2)))] (pPtr ((cK .i64) x5)) true), some (Ent.mk [(16, (pPtr ((cK .i64) x5)))] (pEq (.int .i64 x5)) true), some (Ent.mk [(1, (pEq (.int .i64 low_1)))] (pEq (.int .i64 low_1)) true), some (Ent.mk [(2, (pEq (.int .i64 high_2)))] (pEq (.int .i64 high_2)) true), some (Ent.mk [(17, (pEq (.int .i64 x5))), (18, (pEq (.int .i64 low_1))), (19, (pEq (.int .i64 high_2)))] (pEq (.bool x6)) true), some (Ent.mk [(20, (pEq (.bool x6)))] (pEq (.bool (!x6))) true), some (Ent.mk [(21, (pEq (.bool (!x6))))] (pEq (.bool (!x6))) true), some (Ent.mk [(7, (pEq (.int .i64 v2)))] (pEq (.int .i64 v2)) true), some (Ent.mk [(23, (pEq (.int .i64 v2)))] (pEq (.bool (decide ((0 : Int) < v2)))) true), some (Ent.mk [(24, (pEq (.bool (decide ((0 : Int) < v2)))))] (pEq (.bool (decide ((0 : Int) < v2)))) true), some (Ent.mk [(0, (pSl 1 (cK .i64) list_0))] (pSl 1 (cK .i64) list_0) true), some (Ent.mk [(7, (pEq (.int .i64 v2)))] (pEq (.int .i64 v2)) true), some (Ent.mk [(27, (pEq (.int .i64 v2)))] (pEq (.int .i64 (w64 (v2 - (1 : Int))))) true), some (Ent.mk [(26, (pSl 1 (cK .i64) list_0)), (28, (pEq (.int .i64 (w64 (v2 - (1 : Int))))))] (pPtr ((cK .i64) x9)) true), some (Ent.mk [(29, (pPtr ((cK .i64) x9)))] (pEq (.int .i64 x9)) true), some (Ent.mk [(0, (pSl 1 (cK .i64) list_0))] (pSl 1 (cK .i64) list_0) true), some (Ent.mk [(7, (pEq (.int .i64 v2)))] (pEq (.int .i64 v2)) true), some (Ent.mk [(31, (pSl 1 (cK .i64) list_0)), (32, (pEq (.int .i64 v2)))] (pPtr ((cK .i64) x10)) true), some (Ent.mk [(33, (pPtr ((cK .i64) x10)))] (pEq (.int .i64 x10)) true), some (Ent.mk [(30, (pEq (.int .i64 x9))), (34, (pEq (.int .i64 x10)))] (pEq (.bool (decide (x10 ≤ x9)))) true), some (Ent.mk [(25, (pEq (.bool (decide ((0 : Int) < v2))))), (35, (pEq (.bool (decide (x10 ≤ x9)))))] (pEq (.bool (decide (x10 ≤ x9)))) true), some (Ent.mk [(22, (pEq (.bool (!x6)))), (36, (pEq (.bool (decide (x10 ≤ x9)))))] (pEq (.bool (decide (x10 ≤ x9)))) true)]) (rd := [[0], [7], [14, 15], [16], [1], [2], [17, 18, 19], [20], [21], [7], [23], [24], [0], [7], [27], [26, 28], [29], [0], [7], [31, 32], [33], [30, 34], [25, 35], [22, 36]]) rfl hmix (by kernel_rfl) fun hD => ?_
          refine RD.fin (es := [Ent.mk [(0, (pSl 1 (cK .i64) list_0))] (pSl 1 (cK .i64) list_0) true, Ent.mk [(7, (pEq (.int .i64 v2)))] (pEq (.int .i64 v2)) true, Ent.mk [(14, (pSl 1 (cK .i64) list_0)), (15, (pEq (.int .i64 v2)))] (pPtr ((cK .i64) x5)) true, Ent.mk [(16, (pPtr ((cK .i64) x5)))] (pEq (.int .i64 x5)) true, Ent.mk [(1, (pEq (.int .i64 low_1)))] (pEq (.int .i64 low_1)) true, Ent.mk [(2, (pEq (.int .i64 high_2)))] (pEq (.int .i64 high_2)) true, Ent.mk [(17, (pEq (.int .i64 x5))), (18, (pEq (.int .i64 low_1))), (19, (pEq (.int .i64 high_2)))] (pEq (.bool x6)) true, Ent.mk [(20, (pEq (.bool x6)))] (pEq (.bool (!x6))) true, Ent.mk [(21, (pEq (.bool (!x6))))] (pEq (.bool (!x6))) true, Ent.mk [(7, (pEq (.int .i64 v2)))] (pEq (.int .i64 v2)) true, Ent.mk [(23, (pEq (.int .i64 v2)))] (pEq (.bool (decide ((0 : Int) < v2)))) true, Ent.mk [(24, (pEq (.bool (decide ((0 : Int) < v2)))))] (pEq (.bool (decide ((0 : Int) < v2)))) true, Ent.mk [(0, (pSl 1 (cK .i64) list_0))] (pSl 1 (cK .i64) list_0) true, Ent.mk [(7, (pEq (.int .i64 v2)))] (pEq (.int .i64 v2)) true, Ent.mk [(27, (pEq (.int .i64 v2)))] (pEq (.int .i64 (w64 (v2 - (1 : Int))))) true, Ent.mk [(26, (pSl 1 (cK .i64) list_0)), (28, (pEq (.int .i64 (w64 (v2 - (1 : Int))))))] (pPtr ((cK .i64) x9)) true, Ent.mk [(29, (pPtr ((cK .i64) x9)))] (pEq (.int .i64 x9)) true, Ent.mk [(0, (pSl 1 (cK .i64) list_0))] (pSl 1 (cK .i64) list_0) true, Ent.mk [(7, (pEq (.int .i64 v2)))] (pEq (.int .i64 v2)) true, Ent.mk [(31, (pSl 1 (cK .i64) list_0)), (32, (pEq (.int .i64 v2)))] (pPtr ((cK .i64) x10)) true, Ent.mk [(33, (pPtr ((cK .i64) x10)))] (pEq (.int .i64 x10)) true, Ent.mk [(30, (pEq (.int .i64 x9))), (34, (pEq (.int .i64 x10)))] (pEq (.bool (decide (x10 ≤ x9)))) true, Ent.mk [(25, (pEq (.bool (decide ((0 : Int) < v2))))), (35, (pEq (.bool (decide (x10 ≤ x9)))))] (pEq (.bool (decide (x10 ≤ x9)))) true, Ent.mk [(22, (pEq (.bool (!x6)))), (36, (pEq (.bool (decide (x10 ≤ x9)))))] (pEq (.bool (decide (x10 ≤ x9)))) true]) (done := []) hD ⟨.inr ⟨(OpJ.w (J_move rfl (Opd.tmp rfl))), ⟨rfl, trivial⟩, rfl, rfl⟩, ⟨.inr ⟨(OpJ.w (J_move rfl (Opd.tmp rfl))), ⟨rfl, trivial⟩, rfl, rfl⟩, ⟨.inr ⟨(OpJ.w (J_idx rfl Try.underlying23 sz2 (Opd.tmp rfl) (Opd.tmp rfl) hx5)), ⟨rfl, rfl, trivial⟩, rfl, rfl⟩, ⟨.inr ⟨(OpJ.w (J_load rfl Try.isAgg2 (Opd.tmp rfl))), ⟨rfl, trivial⟩, rfl, rfl⟩, ⟨.inr ⟨(OpJ.w (J_move rfl (Opd.tmp rfl))), ⟨rfl, trivial⟩, rfl, rfl⟩, ⟨.inr ⟨(OpJ.w (J_move rfl (Opd.tmp rfl))), ⟨rfl, trivial⟩, rfl, rfl⟩, ⟨.inr ⟨(OpJ.w (J_call rfl Try.call35 (c_spec_l00In hx6) (Opds.cons (Opd.tmp rfl) (Opds.cons (Opd.tmp rfl) (Opds.cons (Opd.tmp rfl) Opds.nil))))), ⟨rfl, rfl, rfl, trivial⟩, rfl, rfl⟩, ⟨.inr ⟨(OpJ.w (J_not rfl (Opd.tmp rfl))), ⟨rfl, trivial⟩, rfl, rfl⟩, ⟨.inr ⟨(OpJ.w (J_move rfl (Opd.tmp rfl))), ⟨rfl, trivial⟩, rfl, rfl⟩, ⟨.inr ⟨(OpJ.w (J_move rfl (Opd.tmp rfl))), ⟨rfl, trivial⟩, (.inl ⟨_, rfl, by simp [hc7]⟩), rfl⟩, ⟨.inr ⟨(OpJ.w (J_bin rfl (Opd.tmp rfl) Opd.con B_gtr)), ⟨rfl, trivial⟩, (.inl ⟨_, rfl, by simp [hc7]⟩), rfl⟩, ⟨.inr ⟨(OpJ.w (J_move rfl (Opd.tmp rfl))), ⟨rfl, trivial⟩, (.inl ⟨_, rfl, by simp [hc7]⟩), rfl⟩, ⟨.inr ⟨(OpJ.w (J_move rfl (Opd.tmp rfl))), ⟨rfl, trivial⟩, (.inl ⟨_, rfl, by simp [hc8]⟩), rfl⟩, ⟨.inr ⟨(OpJ.w (J_move rfl (Opd.tmp rfl))), ⟨rfl, trivial⟩, (.inl ⟨_, rfl, by simp [hc8]⟩), rfl⟩, ⟨.inr ⟨(OpJ.w (J_bin rfl (Opd.tmp rfl) Opd.con B_sub)), ⟨rfl, trivial⟩, (.inl ⟨_, rfl, by simp [hc8]⟩), rfl⟩, ⟨.inr ⟨(OpJ.w (J_idx rfl Try.underlying23 sz2 (Opd.tmp rfl) (Opd.tmp rfl) hx9)), ⟨rfl, rfl, trivial⟩, (.inl ⟨_, rfl, by simp [hc8]⟩), rfl⟩, ⟨.inr ⟨(OpJ.w (J_load rfl Try.isAgg2 (Opd.tmp rfl))), ⟨rfl, trivial⟩, (.inl ⟨_, rfl, by simp [hc8]⟩), rfl⟩, ⟨.inr ⟨(OpJ.w (J_move rfl (Opd.tmp rfl))), ⟨rfl, trivial⟩, (.inl ⟨_, rfl, by simp [hc8]⟩), rfl⟩, ⟨.inr ⟨(OpJ.w (J_move rfl (Opd.tmp rfl))), ⟨rfl, trivial⟩, (.inl ⟨_, rfl, by simp [hc8]⟩), rfl⟩, ⟨.inr ⟨(OpJ.w (J_idx rfl Try.underlying23 sz2 (Opd.tmp rfl) (Opd.tmp rfl) hx10)), ⟨rfl, rfl, trivial⟩, (.inl ⟨_, rfl, by simp [hc8]⟩), rfl⟩, ⟨.inr ⟨(OpJ.w (J_load rfl Try.isAgg2 (Opd.tmp rfl))), ⟨rfl, trivial⟩, (.inl ⟨_, rfl, by simp [hc8]⟩), rfl⟩, ⟨.inr ⟨(OpJ.w (J_bin rfl (Opd.tmp rfl) (Opd.tmp rfl) B_geq)), ⟨rfl, rfl, trivial⟩, (.inl ⟨_, rfl, by simp [hc8]⟩), rfl⟩, ⟨.inr ⟨(OpJ.w (J_pick rfl (Opd.tmp rfl) (fun _ => (Opd.tmp rfl)) (fun hf => absurd (hc8.symm.trans hf) (by decide)))), ⟨rfl, rfl, trivial⟩, (.inl ⟨_, rfl, by simp [hc7]⟩), rfl⟩, ⟨.inr ⟨(OpJ.w (J_pick rfl (Opd.tmp rfl) (fun hf => absurd (hc7.symm.trans hf) (by decide)) (fun _ => (Opd.tmp rfl)))), ⟨rfl, rfl, trivial⟩, rfl, rfl⟩, trivial⟩⟩⟩⟩⟩⟩⟩⟩⟩⟩⟩⟩⟩⟩⟩⟩⟩⟩⟩⟩⟩⟩⟩⟩ ?_
          refine RegL.nil ?_
          replace h := Option.some.inj h; subst h
          exact Ct.mid () rfl ⟨rfl, rfl, rfl, rfl, rfl, trivial⟩
        · replace h := bif_f hc8 h
          refine Tr.drawD (n := 38) (m := 24) (es := [some (Ent.mk [(0, (pSl 1 (cK .i64) list_0))] (pSl 1 (cK .i64) list_0) true), some (Ent.mk [(7, (pEq (.int .i64 v2)))] (pEq (.int .i64 v2)) true), some (Ent.mk [(14, (pSl 1 (cK .i64) list_0)), (15, (pEq (.int .i64 v2)))] (pPtr ((cK .i64) x5)) true), some (Ent.mk [(16, (pPtr ((cK .i64) x5)))] (pEq (.int .i64 x5)) true), some (Ent.mk [(1, (pEq (.int .i64 low_1)))] (pEq (.int .i64 low_1)) true), some (Ent.mk [(2, (pEq (.int .i64 high_2)))] (pEq (.int .i64 high_2)) true), some (Ent.mk [(17, (pEq (.int .i64 x5))), (18, (pEq (.int .i64 low_1))), (19, (pEq (.int .i64 high_2)))] (pEq (.bool x6)) true), some (Ent.mk [(20, (pEq (.bool x6)))] (pEq (.bool (!x6))) true), some (Ent.mk [(21, (pEq (.bool (!x6))))] (pEq (.bool (!x6))) true), some (Ent.mk [(7, (pEq (.int .i64 v2)))] (pEq (.int .i64 v2)) true), some (Ent.mk [(23, (pEq (.int .i64 v2)))] (pEq (.bool (decide ((0 : Int) < v2)))) true), some (Ent.mk [(24, (pEq (.bool (decide ((0 : Int) < v2)))))] (pEq (.bool (decide ((0 : Int) < v2)))) true), some (Ent.mk [(0, (pSl 1 (cK .i64) list_0))] (pEq undef) false), some (Ent.mk [(7, (pEq (.int .i64 v2)))] (pEq undef) false), some (Ent.mk [(27, (pEq undef))] (pEq undef) false), some (Ent.mk [(26, (pEq undef)), (28, (pEq undef))] (pEq undef) false), some (Ent.mk [(29, (pEq undef))] (pEq undef) false), some (Ent.mk [(0, (pSl 1 (cK .i64) list_0))] (pEq undef) false), some (Ent.mk [(7, (pEq (.int .i64 v2)))] (pEq undef) false), some (Ent.mk [(31, (pEq undef)), (32, (pEq undef))] (pEq undef) false), some (Ent.mk [(33, (pEq undef))] (pEq undef) false), some (Ent.mk [(30, (pEq undef)), (34, (pEq undef))] (pEq undef) false), some (Ent.mk [(25, (pEq (.bool (decide ((0 : Int) < v2))))), (35, (pEq undef))] (pEq (.bool false)) true), some (Ent.mk [(22, (pEq (.bool (!x6)))), (36, (pEq (.bool false)))] (pEq (.bool false)) true)]) (rd := [[0], [7], [14, 15], [16], [1], [2], [17, 18, 19], [20], [21], [7], [23], [24], [0], [7], [27], [26, 28], [29], [0], [7], [31, 32], [33], [30, 34], [25, 35], [22, 36]]) rfl hmix (by kernel_rfl) fun hD => ?_
          refine RD.fin (es := [Ent.mk [(0, (pSl 1 (cK .i64) list_0))] (pSl 1 (cK .i64) list_0) true, Ent.mk [(7, (pEq (.int .i64 v2)))] (pEq (.int .i64 v2)) true, Ent.mk [(14, (pSl 1 (cK .i64) list_0)), (15, (pEq (.int .i64 v2)))] (pPtr ((cK .i64) x5)) true, Ent.mk [(16, (pPtr ((cK .i64) x5)))] (pEq (.int .i64 x5)) true, Ent.mk [(1, (pEq (.int .i64 low_1)))] (pEq (.int .i64 low_1)) true, Ent.mk [(2, (pEq (.int .i64 high_2)))] (pEq (.int .i64 high_2)) true, Ent.mk [(17, (pEq (.int .i64 x5))), (18, (pEq (.int .i64 low_1))), (19, (pEq (.int .i64 high_2)))] (pEq (.bool x6)) true, Ent.mk [(20, (pEq (.bool x6)))] (pEq (.bool (!x6))) true, Ent.mk [(21, (pEq (.bool (!x6))))] (pEq (.bool (!x6))) true, Ent.mk [(7, (pEq (.int .i64 v2)))] (pEq (.int .i64 v2)) true, Ent.mk [(23, (pEq (.int .i64 v2)))] (pEq (.bool (decide ((0 : Int) < v2)))) true, Ent.mk [(24, (pEq (.bool (decide ((0 : Int) < v2)))))] (pEq (.bool (decide ((0 : Int) < v2)))) true, Ent.mk [(0, (pSl 1 (cK .i64) list_0))] (pEq undef) false, Ent.mk [(7, (pEq (.int .i64 v2)))] (pEq undef) false, Ent.mk [(27, (pEq undef))] (pEq undef) false, Ent.mk [(26, (pEq undef)), (28, (pEq undef))] (pEq undef) false, Ent.mk [(29, (pEq undef))] (pEq undef) false, Ent.mk [(0, (pSl 1 (cK .i64) list_0))] (pEq undef) false, Ent.mk [(7, (pEq (.int .i64 v2)))] (pEq undef) false, Ent.mk [(31, (pEq undef)), (32, (pEq undef))] (pEq undef) false, Ent.mk [(33, (pEq undef))] (pEq undef) false, Ent.mk [(30, (pEq undef)), (34, (pEq undef))] (pEq undef) false, Ent.mk [(25, (pEq (.bool (decide ((0 : Int) < v2))))), (35, (pEq undef))] (pEq (.bool false)) true, Ent.mk [(22, (pEq (.bool (!x6)))), (36, (pEq (.bool false)))] (pEq (.bool false)) true]) (done := []) hD ⟨.inr ⟨(OpJ.w (J_move rfl (Opd.tmp rfl))), ⟨rfl, trivial⟩, rfl, rfl⟩, ⟨.inr ⟨(OpJ.w (J_move rfl (Opd.tmp rfl))), ⟨rfl, trivial⟩, rfl, rfl⟩, ⟨.inr ⟨(OpJ.w (J_idx rfl Try.underlying23 sz2 (Opd.tmp rfl) (Opd.tmp rfl) hx5)), ⟨rfl, rfl, trivial⟩, rfl, rfl⟩, ⟨.inr ⟨(OpJ.w (J_load rfl Try.isAgg2 (Opd.tmp rfl))), ⟨rfl, trivial⟩, rfl, rfl⟩, ⟨.inr ⟨(OpJ.w (J_move rfl (Opd.tmp rfl))), ⟨rfl, trivial⟩, rfl, rfl⟩, ⟨.inr ⟨(OpJ.w (J_move rfl (Opd.tmp rfl))), ⟨rfl, trivial⟩, rfl, rfl⟩, ⟨.inr ⟨(OpJ.w (J_call rfl Try.call35 (c_spec_l00In hx6) (Opds.cons (Opd.tmp rfl) (Opds.cons (Opd.tmp rfl) (Opds.cons (Opd.tmp rfl) Opds.nil))))), ⟨rfl, rfl, rfl, trivial⟩, rfl, rfl⟩, ⟨.inr ⟨(OpJ.w (J_not rfl (Opd.tmp rfl))), ⟨rfl, trivial⟩, rfl, rfl⟩, ⟨.inr ⟨(OpJ.w (J_move rfl (Opd.tmp rfl))), ⟨rfl, trivial⟩, rfl, rfl⟩, ⟨.inr ⟨(OpJ.w (J_move rfl (Opd.tmp rfl))), ⟨rfl, trivial⟩, (.inl ⟨_, rfl, by simp [hc7]⟩), rfl⟩, ⟨.inr ⟨(OpJ.w (J_bin rfl (Opd.tmp rfl) Opd.con B_gtr)), ⟨rfl, trivial⟩, (.inl ⟨_, rfl, by simp [hc7]⟩), rfl⟩, ⟨.inr ⟨(OpJ.w (J_move rfl (Opd.tmp rfl))), ⟨rfl, trivial⟩, (.inl ⟨_, rfl, by simp [hc7]⟩), rfl⟩, ⟨.inr ⟨rfl, ⟨rfl, trivial⟩, (.inl ⟨_, rfl, by simp [hc8]⟩), rfl⟩, ⟨.inr ⟨rfl, ⟨rfl, trivial⟩, (.inl ⟨_, rfl, by simp [hc8]⟩), rfl⟩, ⟨.inr ⟨rfl, ⟨rfl, trivial⟩, (.inl ⟨_, rfl, by simp [hc8]⟩), rfl⟩, ⟨.inr ⟨rfl, ⟨rfl, rfl, trivial⟩, (.inl ⟨_, rfl, by simp [hc8]⟩), rfl⟩, ⟨.inr ⟨rfl, ⟨rfl, trivial⟩, (.inl ⟨_, rfl, by simp [hc8]⟩), rfl⟩, ⟨.inr ⟨rfl, ⟨rfl, trivial⟩, (.inl ⟨_, rfl, by simp [hc8]⟩), rfl⟩, ⟨.inr ⟨rfl, ⟨rfl, trivial⟩, (.inl ⟨_, rfl, by simp [hc8]⟩), rfl⟩, ⟨.inr ⟨rfl, ⟨rfl, rfl, trivial⟩, (.inl ⟨_, rfl, by simp [hc8]⟩), rfl⟩, ⟨.inr ⟨rfl, ⟨rfl, trivial⟩, (.inl ⟨_, rfl, by simp [hc8]⟩), rfl⟩, ⟨.inr ⟨rfl, ⟨rfl, rfl, trivial⟩, (.inl ⟨_, rfl, by simp [hc8]⟩), rfl⟩, ⟨.inr ⟨(OpJ.w (J_pick rfl (Opd.tmp rfl) (fun hf => absurd (hc8.symm.trans hf) (by decide)) (fun _ => Opd.con))), ⟨rfl, rfl, trivial⟩, (.inl ⟨_, rfl, by simp [hc7]⟩), rfl⟩, ⟨.inr ⟨(OpJ.w (J_pick rfl (Opd.tmp rfl) (fun hf => absurd (hc7.symm.trans hf) (by decide)) (fun _ => (Opd.tmp rfl)))), ⟨rfl, rfl, trivial⟩, rfl, rfl⟩, trivial⟩⟩⟩⟩⟩⟩⟩⟩⟩⟩⟩⟩⟩⟩⟩⟩⟩⟩⟩⟩⟩⟩⟩⟩ ?_
          refine RegL.nil ?_
          replace h := Option.some.inj h; subst h
          exact Ct.mid () rfl ⟨rfl, rfl, rfl, rfl, rfl, trivial⟩
    · clear hx4
      refine Ct.then_tr ?_
      refine Tr.weak (Γ' := [(0, (pSl 1 (cK .i64) list_0)), (1, (pEq (.int .i64 low_1))), (2, (pEq (.int .i64 high_2))), (7, (pEq (.int .i64 v2))), (37, (pEq (.bool x4)))]) ⟨rfl, rfl, rfl, rfl, rfl, trivial⟩ ?_
      refine Tr.cond (Opd.tmp rfl) (fun hc => ?_) (fun hc => ?_)
      · replace h := bif_t hc h
        refine Tr.seq ?_
        refine Tr.region ?_
        refine RegL.pure (p := (pEq (.bool false))) rfl rfl rfl (J_assign rfl Opd.con) ?_
        refine RegL.nil ?_
        refine Ct.then_tr ?_
        refine Tr.weak (Γ' := [(6, (pEq (.bool false)))]) ⟨rfl, trivial⟩ ?_
        refine Tr.ret ?_
        refine Ct.blk_ret ?_
        refine Ct.then_ret ?_
        replace h := map_some h; obtain ⟨r1, h, rfl⟩ := h
        refine Ct.out_ret fun e => ?_
        subst e
        refine Ct.blk_ret ?_
        refine Ct.then_ret ?_
        replace h := Option.some.inj h; subst h
        exact Ct.retH1 (Ωx := []) () rfl (RvOk.tmp rfl) rfl
      · replace h := bif_f hc h
        refine Tr.skip ?_
        refine Ct.blk_normal ?_
        refine Ct.then_tr ?_
        refine Tr.weak (Γ' := [(0, (pSl 1 (cK .i64) list_0)), (1, (pEq (.int .i64 low_1))), (2, (pEq (.int .i64 high_2))), (7, (pEq (.int .i64 v2)))]) ⟨rfl, rfl, rfl, rfl, trivial⟩ ?_
        refine Tr.region ?_
        refine RegL.pure (p := (pEq (.int .i64 v2))) rfl rfl rfl (J_move rfl (Opd.tmp rfl)) ?_
        refine RegL.pure (p := (pEq (.int .i64 (w64 (v2 + (1 : Int)))))) rfl rfl rfl (J_bin rfl (Opd.tmp rfl) Opd.con B_add) ?_
        refine RegL.pure (p := (pEq (.int .i64 (w64 (v2 + (1 : Int)))))) rfl rfl rfl (J_assign rfl (Opd.tmp rfl)) ?_
        refine RegL.nil ?_
        replace h := Option.some.inj h; subst h
        exact Ct.again () rfl ⟨rfl, rfl, rfl, rfl, trivial⟩
  · replace h := bif_f hc h
    refine Tr.exit ?_
    refine Ct.then_exit ?_
    replace h := map_some h; obtain ⟨r1, h, rfl⟩ := h
    refine Ct.out_exit fun e => ?_
    subst e
    refine Ct.blk_exit ?_
    refine Ct.then_tr ?_
    refine Tr.weak (Γ' := []) trivial ?_
    refine Tr.seq ?_
    refine Tr.region ?_
    refine RegL.pure (p := (pEq (.bool true))) rfl rfl rfl (J_assign rfl Opd.con) ?_
    refine RegL.nil ?_
    refine Ct.then_tr ?_
    refine Tr.weak (Γ' := [(6, (pEq (.bool true)))]) ⟨rfl, trivial⟩ ?_
    refine Tr.ret ?_
    replace h := Option.some.inj h; subst h
    exact Ct.retH1 (Ωx := []) () rfl (RvOk.tmp rfl) rfl

theorem c_spec_l17Domain {list_0 : (List Int)} {r : Bool} (h : m_spec_l17Domain list_0 = some r) : CallJ Try.prog 43 [(pSl 1 (cK .i64) list_0)] (pEq (.bool r)) := by
  unfold m_spec_l17Domain at h
  refine CallJ.enterH Try.func43 rfl Try.ntmps43 rfl fun W I0 H => ?_
  refine Tr.weak (Γ' := [(0, (pSl 1 (cK .i64) list_0))]) ⟨rfl, trivial⟩ ?_
  refine Tr.seq ?_
  refine Tr.region ?_
  refine RegL.pure (p := (pEq (.bool false))) rfl rfl rfl (J_assign rfl Opd.con) ?_
  refine RegL.nil ?_
  refine Ct.then_tr ?_
  refine Tr.weak (Γ' := [(0, (pSl 1 (cK .i64) list_0))]) ⟨rfl, trivial⟩ ?_
  refine Tr.seq ?_
  replace h := bind_some h; obtain ⟨x1, hx1, h⟩ := h
  refine Tr.cut (γ := Unit) (Γm := fun g => [(2, (pEq (.bool x1)))]) (Ωm := fun g => []) ?_ (fun g5 => ?_)
  · clear h
    have h := hx1
    clear hx1
    refine Tr.region ?_
    refine RegL.pure (p := (pSl 1 (cK .i64) list_0)) rfl rfl rfl (J_move rfl (Opd.tmp rfl)) ?_
    refine RegL.pure (p := (pEq (.int .i64 (list_0.length : Int)))) rfl rfl rfl (J_len rfl Try.underlying23 (Opd.tmp rfl) rfl) ?_
    refine RegL.pure (p := (pEq (.bool (decide ((0 : Int) < (list_0.length : Int)))))) rfl rfl rfl (J_bin rfl (Opd.tmp rfl) Opd.con B_gtr) ?_
    refine RegL.pure (p := (pEq (.bool (decide ((0 : Int) < (list_0.length : Int)))))) rfl rfl rfl (J_move rfl (Opd.tmp rfl)) ?_
    rcases Bool.eq_false_or_eq_true (decide ((0 : Int) < (list_0.length : Int))) with hc2 | hc2
    · replace h := bif_t hc2 h
      refine RegL.pureG (p := (pSl 1 (cK .i64) list_0)) rfl rfl rfl hc2 rfl rfl (J_move rfl (Opd.tmp rfl)) ?_
      refine RegL.pureG (p := (pEq (.int .i64 (list_0.length : Int)))) rfl rfl rfl hc2 rfl rfl (J_len rfl Try.underlying23 (Opd.tmp rfl) rfl) ?_
      refine RegL.pureG (p := (pEq (.bool (decide ((list_0.length : Int) ≤ (32 : Int)))))) rfl rfl rfl hc2 rfl rfl (J_bin rfl (Opd.tmp rfl) Opd.con B_leq) ?_
      refine RegL.pure (p := (pEq (.bool (decide ((list_0.length : Int) ≤ (32 : Int)))))) rfl rfl rfl (J_pick rfl (Opd.tmp rfl) (fun _ => (Opd.tmp rfl)) (fun hf => absurd (hc2.symm.trans hf) (by decide))) ?_
      refine RegL.pure (p := (pEq (.bool (decide ((list_0.length : Int) ≤ (32 : Int)))))) rfl rfl rfl (J_move rfl (Opd.tmp rfl)) ?_
      rcases Bool.eq_false_or_eq_true (decide ((list_0.length : Int) ≤ (32 : Int))) with hc3 | hc3
      · replace h := bif_t hc3 h
        refine RegL.pureG (p := (pSl 1 (cK .i64) list_0)) rfl rfl rfl hc3 rfl rfl (J_move rfl (Opd.tmp rfl)) ?_
        replace h := bind_some h; obtain ⟨x4, hx4, h⟩ := h
        refine RegL.pureG (p := (pEq (.bool x4))) rfl rfl rfl hc3 rfl rfl (J_call rfl Try.call89 (c_spec_l00Rises hx4) (Opds.cons (Opd.tmp rfl) (Opds.cons Opd.con (Opds.cons Opd.con Opds.nil)))) ?_
        refine RegL.pure (p := (pEq (.bool x4))) rfl rfl rfl (J_pick rfl (Opd.tmp rfl) (fun _ => (Opd.tmp rfl)) (fun hf => absurd (hc3.symm.trans hf) (by decide))) ?_
        refine RegL.pure (p := (pEq (.bool x4))) rfl rfl rfl (J_assign rfl (Opd.tmp rfl)) ?_
        refine RegL.nil ?_
        replace h := Option.some.inj h; subst h
        exact Ct.mid () rfl ⟨rfl, trivial⟩
      · replace h := bif_f hc3 h
        refine RegL.skipG rfl rfl rfl hc3 rfl rfl ?_
        refine RegL.skipG rfl rfl rfl hc3 rfl rfl ?_
        refine RegL.pure (p := (pEq (.bool false))) rfl rfl rfl (J_pick rfl (Opd.tmp rfl) (fun hf => absurd (hc3.symm.trans hf) (by decide)) (fun _ => Opd.con)) ?_
        refine RegL.pure (p := (pEq (.bool false))) rfl rfl rfl (J_assign rfl (Opd.tmp rfl)) ?_
        refine RegL.nil ?_
        replace h := Option.some.inj h; subst h
        exact Ct.mid () rfl ⟨rfl, trivial⟩
    · replace h := bif_f hc2 h
      refine RegL.skipG rfl rfl rfl hc2 rfl rfl ?_
      refine RegL.skipG rfl rfl rfl hc2 rfl rfl ?_
      refine RegL.skipG rfl rfl rfl hc2 rfl rfl ?_
      refine RegL.pure (p := (pEq (.bool false))) rfl rfl rfl (J_pick rfl (Opd.tmp rfl) (fun hf => absurd (hc2.symm.trans hf) (by decide)) (fun _ => Opd.con)) ?_
      refine RegL.pure (p := (pEq (.bool false))) rfl rfl rfl (J_move rfl (Opd.tmp rfl)) ?_
      refine RegL.skipG rfl rfl rfl rfl rfl rfl ?_
      refine RegL.skipG rfl rfl rfl rfl rfl rfl ?_
      refine RegL.pure (p := (pEq (.bool false))) rfl rfl rfl (J_pick rfl (Opd.tmp rfl) (fun hf => absurd hf (by decide)) (fun _ => Opd.con)) ?_
      refine RegL.pure (p := (pEq (.bool false))) rfl rfl rfl (J_assign rfl (Opd.tmp rfl)) ?_
      refine RegL.nil ?_
      replace h := Option.some.inj h; subst h
      exact Ct.mid () rfl ⟨rfl, trivial⟩
  · clear hx1
    refine Ct.then_tr ?_
    refine Tr.weak (Γ' := [(2, (pEq (.bool x1)))]) ⟨rfl, trivial⟩ ?_
    refine Tr.ret ?_
    replace h := Option.some.inj h; subst h
    exact Ct.retH1 (Ωx := []) () rfl (RvOk.tmp rfl) rfl

theorem o_spec_l00Own {list_0 : (List Int)}  {r : (List Int)} (h : m_spec_l00Own list_0 = some r) : CallH Try.prog 90 [(pSl 1 (cK .i64) list_0)] [] (fun g : G3 => (pEq (.slice g.1 g.2.1 g.2.2))) (fun g : G3 => [oSl 2 1 (cK .i64) g.1 g.2.1 g.2.2 r]) := by
  unfold m_spec_l00Own at h
  refine CallH.enter Try.func90 rfl Try.ntmps90 rfl fun W I0 H => ?_
  refine Tr.weak (Γ' := [(0, (pSl 1 (cK .i64) list_0))]) ⟨rfl, trivial⟩ ?_
  refine Tr.seq ?_
  refine Tr.region ?_
  refine RegL.pure (p := (pEq (.slice none 0 0))) rfl rfl rfl (J_assign rfl Opd.con) ?_
  refine RegL.nil ?_
  refine Ct.then_tr ?_
  refine Tr.weak (Γ' := [(0, (pSl 1 (cK .i64) list_0))]) ⟨rfl, trivial⟩ ?_
  refine Tr.seq ?_
  refine Tr.region ?_
  refine RegL.step (γ := Option Addr) (p := fun a => pEq (.slice a 0 0)) (Ω' := fun a => [oSl 2 1 (cK .i64) a 0 0 ([] : (List Int))]) rfl rfl rfl (M_buildSlice (qss := []) rfl Try.underlying23 el2 rfl Parts.nil rfl rfl) fun o2 => ?_
  refine RegL.pure (p := (pSl 1 (cK .i64) list_0)) rfl rfl rfl (J_move rfl (Opd.tmp rfl)) ?_
  replace h := bind_some h; obtain ⟨x3, hx3, h⟩ := h
  refine RegL.step (γ := Option Addr × Nat) (p := fun g => pEq (.slice g.1 x3.length g.2)) (Ω' := fun g => [oSl 2 1 (cK .i64) g.1 x3.length g.2 x3]) rfl rfl rfl (M_appendI rfl Try.underlying23 el2 (Opd.tmp rfl) (Opd.tmp rfl) hx3) fun g4 => ?_
  refine RegL.pure (p := (pEq (.slice g4.1 x3.length g4.2))) rfl rfl rfl (J_assign rfl (Opd.tmp rfl)) ?_
  refine RegL.nil ?_
  refine Ct.then_tr ?_
  refine Tr.weak (Γ' := [(2, (pEq (.slice g4.1 x3.length g4.2)))]) ⟨rfl, trivial⟩ ?_
  refine Tr.ret ?_
  replace h := Option.some.inj h; subst h
  exact Ct.retH1 (Ωx := []) (g4.1, x3.length, g4.2) rfl (RvOk.tmp rfl) rfl

theorem c_spec_l00Own {list_0 : (List Int)} {r : (List Int)} (h : m_spec_l00Own list_0 = some r) : CallJ Try.prog 90 [(pSl 1 (cK .i64) list_0)] (pSl 1 (cK .i64) r) :=
  CallH.frozen (o_spec_l00Own h) (fun g => (Conv.row 0 (fun _ => rfl) rfl))

theorem o_spec_l17OwnLists {a_0 : (List (List Int))}  {r : (List (List Int))} (h : m_spec_l17OwnLists a_0 = some r) : CallH Try.prog 44 [(pSl 1 (cSl 1 (cK .i64)) a_0)] [] (fun g : (G3 × List G3) => (pEq (.slice g.1.1 g.1.2.1 g.1.2.2))) (fun g : (G3 × List G3) => [oSS 23 2 1 (cK .i64) g.1.1 g.1.2.1 g.1.2.2 g.2 r]) := by
  unfold m_spec_l17OwnLists at h
  refine CallH.enter Try.func44 rfl Try.ntmps44 rfl fun W I0 H => ?_
  refine Tr.weak (Γ' := [(0, (pSl 1 (cSl 1 (cK .i64)) a_0))]) ⟨rfl, trivial⟩ ?_
  refine Tr.seq ?_
  refine Tr.region ?_
  refine RegL.pure (p := (pEq (.slice none 0 0))) rfl rfl rfl (J_assign rfl Opd.con) ?_
  refine RegL.nil ?_
  refine Ct.then_tr ?_
  refine Tr.weak (Γ' := [(0, (pSl 1 (cSl 1 (cK .i64)) a_0))]) ⟨rfl, trivial⟩ ?_
  refine Tr.seq ?_
  refine Tr.region ?_
  refine RegL.step (γ := Option Addr) (p := fun a => pEq (.slice a 0 0)) (Ω' := fun a => [oSl 23 1 cHdr a 0 0 []]) rfl rfl rfl (M_buildSlice (qss := []) rfl Try.underlying22 elh23 rfl Parts.nil rfl rfl) fun o1 => ?_
  refine RegL.re (Ω2 := [oSS 23 2 1 (cK .i64) o1 0 0 [] ([] : (List (List Int)))]) (fun h => nest_zero h) ?_
  refine RegL.pure (p := (pEq (.slice o1 0 0))) rfl rfl rfl (J_assign rfl (Opd.tmp rfl)) ?_
  refine RegL.nil ?_
  refine Ct.then_tr ?_
  refine Tr.weak (Γ' := [(0, (pSl 1 (cSl 1 (cK .i64)) a_0)), (3, (pEq (.slice o1 0 0)))]) ⟨rfl, rfl, trivial⟩ ?_
  refine Tr.seq ?_
  refine Tr.seq ?_
  refine Tr.region ?_
  refine RegL.pure (p := (pEq (.int .i64 (0 : Int)))) rfl rfl rfl (J_assign rfl Opd.con) ?_
  refine RegL.nil ?_
  refine Ct.then_tr ?_
  refine Tr.weak (Γ' := [(0, (pSl 1 (cSl 1 (cK .i64)) a_0)), (3, (pEq (.slice o1 0 0))), (4, (pEq (.int .i64 (0 : Int))))]) ⟨rfl, rfl, rfl, trivial⟩ ?_
  replace h := bind_some h; obtain ⟨x3, hx3, h⟩ := h
  refine Tr.cut (γ := (G3 × List G3)) (Γm := fun g => [(3, (pEq (.slice g.1.1 g.1.2.1 g.1.2.2)))]) (Ωm := fun g => [oSS 23 2 1 (cK .i64) g.1.1 g.1.2.1 g.1.2.2 g.2 x3]) ?_ (fun g16 => ?_)
  · clear h
    have h := hx3
    clear hx3
    refine Tr.block ?_
    refine Tr.weak (Γ' := [(0, (pSl 1 (cSl 1 (cK .i64)) a_0)), (3, (pEq (.slice o1 0 0))), (4, (pEq (.int .i64 (0 : Int))))]) ⟨rfl, rfl, rfl, trivial⟩ ?_
    refine Tr.loop (γ := (G3 × List G3)) (σ := (Int × (List (List Int)))) (Γσ := fun s g => [(0, (pSl 1 (cSl 1 (cK .i64)) a_0)), (3, (pEq (.slice g.1.1 g.1.2.1 g.1.2.2))), (4, (pEq (.int .i64 s.1)))]) (Ωσ := fun s g => [oSS 23 2 1 (cK .i64) g.1.1 g.1.2.1 g.1.2.2 g.2 s.2]) (g := ((o1, 0, 0), [])) h ?_
    clear h
    rintro ⟨v5, v6⟩ g7 t h
    replace h : m_spec_l17OwnLists_B4 a_0 v5 v6 = some t := h
    unfold m_spec_l17OwnLists_B4 at h
    refine Tr.weakO (Γ' := [(0, (pSl 1 (cSl 1 (cK .i64)) a_0)), (3, (pEq (.slice g7.1.1 g7.1.2.1 g7.1.2.2))), (4, (pEq (.int .i64 v5)))]) (Ω' := [oSS 23 2 1 (cK .i64) g7.1.1 g7.1.2.1 g7.1.2.2 g7.2 v6]) rfl ⟨rfl, rfl, rfl, trivial⟩ ?_
    refine Tr.seq ?_
    refine Tr.seq ?_
    refine Tr.region ?_
    refine RegL.pure (p := (pEq (.int .i64 v5))) rfl rfl rfl (J_move rfl (Opd.tmp rfl)) ?_
    refine RegL.pure (p := (pSl 1 (cSl 1 (cK .i64)) a_0)) rfl rfl rfl (J_move rfl (Opd.tmp rfl)) ?_
    refine RegL.pure (p := (pEq (.int .i64 (a_0.length : Int)))) rfl rfl rfl (J_len rfl Try.underlying22 (Opd.tmp rfl) rfl) ?_
    refine RegL.pure (p := (pEq (.bool (decide (v5 < (a_0.length : Int)))))) rfl rfl rfl (J_bin rfl (Opd.tmp rfl) (Opd.tmp rfl) B_lss) ?_
    refine RegL.nil ?_
    refine Ct.then_tr ?_
    refine Tr.weak (Γ' := [(0, (pSl 1 (cSl 1 (cK .i64)) a_0)), (3, (pEq (.slice g7.1.1 g7.1.2.1 g7.1.2.2))), (4, (pEq (.int .i64 v5))), (9, (pEq (.bool (decide (v5 < (a_0.length : Int))))))]) ⟨rfl, rfl, rfl, rfl, trivial⟩ ?_
    refine Tr.cond (Opd.tmp rfl) (fun hc => ?_) (fun hc => ?_)
    · replace h := bif_t hc h
      refine Tr.skip ?_
      refine Ct.then_tr ?_
      refine Tr.weak (Γ' := [(0, (pSl 1 (cSl 1 (cK .i64)) a_0)), (3, (pEq (.slice g7.1.1 g7.1.2.1 g7.1.2.2))), (4, (pEq (.int .i64 v5)))]) ⟨rfl, rfl, rfl, trivial⟩ ?_
      refine Tr.seq ?_
      refine Tr.block ?_
      refine Tr.region ?_
      refine RegL.pure (p := (pEq (.slice g7.1.1 g7.1.2.1 g7.1.2.2))) rfl rfl rfl (J_move rfl (Opd.tmp rfl)) ?_
      refine RegL.pure (p := (pSl 1 (cSl 1 (cK .i64)) a_0)) rfl rfl rfl (J_move rfl (Opd.tmp rfl)) ?_
      refine RegL.pure (p := (pEq (.int .i64 v5))) rfl rfl rfl (J_move rfl (Opd.tmp rfl)) ?_
      replace h := bind_some h; obtain ⟨x8, hx8, h⟩ := h
      refine RegL.pure (p := (pPtr ((cSl 1 (cK .i64)) x8))) rfl rfl rfl (J_idx rfl Try.underlying22 sz23 (Opd.tmp rfl) (Opd.tmp rfl) hx8) ?_
      refine RegL.pure (p := (pSl 1 (cK .i64) x8)) rfl rfl rfl (J_load rfl Try.isAgg23 (Opd.tmp rfl)) ?_
      replace h := bind_some h; obtain ⟨x9, hx9, h⟩ := h
      refine RegL.step (γ := G3) (p := fun g => (pEq (.slice g.1 g.2.1 g.2.2))) (Ω' := fun g => [oSl 2 1 (cK .i64) g.1 g.2.1 g.2.2 x9, oSS 23 2 1 (cK .i64) g7.1.1 g7.1.2.1 g7.1.2.2 g7.2 v6]) rfl rfl rfl (M_callH (Ωi := []) rfl Try.call90 (o_spec_l00Own hx9) (Opds.cons (Opd.tmp rfl) Opds.nil)) fun g10 => ?_
      refine RegL.step (γ := Option Addr) (p := fun a => pEq (.slice a 1 1)) (Ω' := fun a => [oSl 23 1 cHdr a 1 1 [(g10.1, g10.2.1, g10.2.2)], oSl 2 1 (cK .i64) g10.1 g10.2.1 g10.2.2 x9, oSS 23 2 1 (cK .i64) g7.1.1 g7.1.2.1 g7.1.2.2 g7.2 v6]) rfl rfl rfl (M_buildSlice (qss := [(0, cHdr (g10.1, g10.2.1, g10.2.2))]) rfl Try.underlying22 elh23 rfl (Parts.cons (Part.one (Opd.tmp rfl) OneC.slice) Parts.nil) rfl rfl) fun o12 => ?_
      refine RegL.re (Ω2 := [oSS 23 2 1 (cK .i64) o12 1 1 [(g10.1, g10.2.1, g10.2.2)] [x9], oSS 23 2 1 (cK .i64) g7.1.1 g7.1.2.1 g7.1.2.2 g7.2 v6]) (fun h => nest_one h) ?_
      replace h := bind_some h; obtain ⟨x14, hx14, h⟩ := h
      refine RegL.re (Ω2 := [oSS 23 2 1 (cK .i64) g7.1.1 g7.1.2.1 g7.1.2.2 g7.2 v6, oSS 23 2 1 (cK .i64) o12 1 1 [(g10.1, g10.2.1, g10.2.2)] [x9]]) (fun h => SatO.pick 1 h) ?_
      refine RegL.step (γ := (Option Addr × Nat) × List G3) (p := fun g => pEq (.slice g.1.1 x14.length g.1.2)) (Ω' := fun g => [oSS 23 2 1 (cK .i64) g.1.1 x14.length g.1.2 g.2 x14]) rfl rfl rfl (M_nestAppend rfl Try.underlying22 elh23 (Opd.tmp rfl) (Opd.tmp rfl) hx14) fun g15 => ?_
      refine RegL.pure (p := (pEq (.slice g15.1.1 x14.length g15.1.2))) rfl rfl rfl (J_assign rfl (Opd.tmp rfl)) ?_
      refine RegL.nil ?_
      refine Ct.blk_normal ?_
      refine Ct.then_tr ?_
      refine Tr.weak (Γ' := [(0, (pSl 1 (cSl 1 (cK .i64)) a_0)), (3, (pEq (.slice g15.1.1 x14.length g15.1.2))), (4, (pEq (.int .i64 v5)))]) ⟨rfl, rfl, rfl, trivial⟩ ?_
      refine Tr.region ?_
      refine RegL.pure (p := (pEq (.int .i64 v5))) rfl rfl rfl (J_move rfl (Opd.tmp rfl)) ?_
      refine RegL.pure (p := (pEq (.int .i64 (w64 (v5 + (1 : Int)))))) rfl rfl rfl (J_bin rfl (Opd.tmp rfl) Opd.con B_add) ?_
      refine RegL.pure (p := (pEq (.int .i64 (w64 (v5 + (1 : Int)))))) rfl rfl rfl (J_assign rfl (Opd.tmp rfl)) ?_
      refine RegL.nil ?_
      replace h := Option.some.inj h; subst h
      exact Ct.again ((g15.1.1, x14.length, g15.1.2), g15.2) rfl ⟨rfl, rfl, rfl, trivial⟩
    · replace h := bif_f hc h
      refine Tr.exit ?_
      refine Ct.then_exit ?_
      replace h := map_some h; obtain ⟨r1, h, rfl⟩ := h
      refine Ct.out_exit fun e => ?_
      subst e
      refine Ct.blk_exit ?_
      replace h := Option.some.inj h; subst h
      exact Ct.mid ((g7.1.1, g7.1.2.1, g7.1.2.2), g7.2) rfl ⟨rfl, trivial⟩
  · clear hx3
    refine Ct.then_tr ?_
    refine Tr.weak (Γ' := [(3, (pEq (.slice g16.1.1 g16.1.2.1 g16.1.2.2)))]) ⟨rfl, trivial⟩ ?_
    refine Tr.seq ?_
    refine Tr.region ?_
    refine RegL.pure (p := (pEq (.slice g16.1.1 g16.1.2.1 g16.1.2.2))) rfl rfl rfl (J_move rfl (Opd.tmp rfl)) ?_
    refine RegL.pure (p := (pEq (.slice g16.1.1 g16.1.2.1 g16.1.2.2))) rfl rfl rfl (J_assign rfl (Opd.tmp rfl)) ?_
    refine RegL.nil ?_
    refine Ct.then_tr ?_
    refine Tr.weak (Γ' := [(2, (pEq (.slice g16.1.1 g16.1.2.1 g16.1.2.2)))]) ⟨rfl, trivial⟩ ?_
    refine Tr.ret ?_
    replace h := Option.some.inj h; subst h
    exact Ct.retH1 (Ωx := []) ((g16.1.1, g16.1.2.1, g16.1.2.2), g16.2) rfl (RvOk.tmp rfl) rfl

theorem c_spec_l17OwnLists {a_0 : (List (List Int))} {r : (List (List Int))} (h : m_spec_l17OwnLists a_0 = some r) : CallJ Try.prog 44 [(pSl 1 (cSl 1 (cK .i64)) a_0)] (pSl 1 (cSl 1 (cK .i64)) r) :=
  CallH.frozen (o_spec_l17OwnLists h) (fun g => (Conv.nest 0 (fun _ => rfl) rfl))

theorem c_spec_l16Server {row_0 : (List Int)} {r : Int} (h : m_spec_l16Server row_0 = some r) : CallJ Try.prog 91 [(pSl 1 (cK .i64) row_0)] (pEq (.int .i64 r)) := by
  unfold m_spec_l16Server at h
  refine CallJ.enterH Try.func91 rfl Try.ntmps91 rfl fun W I0 H => ?_
  refine Tr.weak (Γ' := [(0, (pSl 1 (cK .i64) row_0))]) ⟨rfl, trivial⟩ ?_
  refine Tr.seq ?_
  refine Tr.region ?_
  refine RegL.pure (p := (pEq (.int .i64 (0 : Int)))) rfl rfl rfl (J_assign rfl Opd.con) ?_
  refine RegL.nil ?_
  refine Ct.then_tr ?_
  refine Tr.weak (Γ' := [(0, (pSl 1 (cK .i64) row_0))]) ⟨rfl, trivial⟩ ?_
  refine Tr.seq ?_
  refine Tr.region ?_
  refine RegL.pure (p := (pEq (.int .i64 (0 : Int)))) rfl rfl rfl (J_assign rfl Opd.con) ?_
  refine RegL.nil ?_
  refine Ct.then_tr ?_
  refine Tr.weak (Γ' := [(0, (pSl 1 (cK .i64) row_0)), (3, (pEq (.int .i64 (0 : Int))))]) ⟨rfl, rfl, trivial⟩ ?_
  refine Tr.seq ?_
  refine Tr.seq ?_
  refine Tr.region ?_
  refine RegL.pure (p := (pEq (.int .i64 (1 : Int)))) rfl rfl rfl (J_assign rfl Opd.con) ?_
  refine RegL.nil ?_
  refine Ct.then_tr ?_
  refine Tr.weak (Γ' := [(0, (pSl 1 (cK .i64) row_0)), (3, (pEq (.int .i64 (0 : Int)))), (4, (pEq (.int .i64 (1 : Int))))]) ⟨rfl, rfl, rfl, trivial⟩ ?_
  replace h := bind_some h; obtain ⟨x1, hx1, h⟩ := h
  refine Tr.cut (γ := Unit) (Γm := fun g => [(3, (pEq (.int .i64 x1)))]) (Ωm := fun g => []) ?_ (fun g10 => ?_)
  · clear h
    have h := hx1
    clear hx1
    refine Tr.block ?_
    refine Tr.weak (Γ' := [(0, (pSl 1 (cK .i64) row_0)), (3, (pEq (.int .i64 (0 : Int)))), (4, (pEq (.int .i64 (1 : Int))))]) ⟨rfl, rfl, rfl, trivial⟩ ?_
    refine Tr.loop (γ := Unit) (σ := (Int × Int)) (Γσ := fun s g => [(0, (pSl 1 (cK .i64) row_0)), (3, (pEq (.int .i64 s.1))), (4, (pEq (.int .i64 s.2)))]) (Ωσ := fun s g => []) (g := ()) h ?_
    clear h
    rintro ⟨v3, v4⟩ g5 t h
    replace h : m_spec_l16Server_B2 row_0 v3 v4 = some t := h
    unfold m_spec_l16Server_B2 at h
    refine Tr.weakO (Γ' := [(0, (pSl 1 (cK .i64) row_0)), (3, (pEq (.int .i64 v3))), (4, (pEq (.int .i64 v4)))]) (Ω' := []) rfl ⟨rfl, rfl, rfl, trivial⟩ ?_
    refine Tr.seq ?_
    refine Tr.seq ?_
    refine Tr.region ?_
    refine RegL.pure (p := (pEq (.int .i64 v4))) rfl rfl rfl (J_move rfl (Opd.tmp rfl)) ?_
    refine RegL.pure (p := (pSl 1 (cK .i64) row_0)) rfl rfl rfl (J_move rfl (Opd.tmp rfl)) ?_
    refine RegL.pure (p := (pEq (.int .i64 (row_0.length : Int)))) rfl rfl rfl (J_len rfl Try.underlying23 (Opd.tmp rfl) rfl) ?_
    refine RegL.pure (p := (pEq (.bool (decide (v4 < (row_0.length : Int)))))) rfl rfl rfl (J_bin rfl (Opd.tmp rfl) (Opd.tmp rfl) B_lss) ?_
    refine RegL.nil ?_
    refine Ct.then_tr ?_
    refine Tr.weak (Γ' := [(0, (pSl 1 (cK .i64) row_0)), (3, (pEq (.int .i64 v3))), (4, (pEq (.int .i64 v4))), (8, (pEq (.bool (decide (v4 < (row_0.length : Int))))))]) ⟨rfl, rfl, rfl, rfl, trivial⟩ ?_
    refine Tr.cond (Opd.tmp rfl) (fun hc => ?_) (fun hc => ?_)
    · replace h := bif_t hc h
      refine Tr.skip ?_
      refine Ct.then_tr ?_
      refine Tr.weak (Γ' := [(0, (pSl 1 (cK .i64) row_0)), (3, (pEq (.int .i64 v3))), (4, (pEq (.int .i64 v4)))]) ⟨rfl, rfl, rfl, trivial⟩ ?_
      refine Tr.seq ?_
      refine Tr.block ?_
      refine Tr.seq ?_
      replace h := bind_some h; obtain ⟨x6, hx6, h⟩ := h
      replace h := bind_some h; obtain ⟨x7, hx7, h⟩ := h
      refine Tr.drawD (n := 22) (m := 9) (es := [some (Ent.mk [(0, (pSl 1 (cK .i64) row_0))] (pSl 1 (cK .i64) row_0) true), some (Ent.mk [(4, (pEq (.int .i64 v4)))] (pEq (.int .i64 v4)) true), some (Ent.mk [(11, (pSl 1 (cK .i64) row_0)), (12, (pEq (.int .i64 v4)))] (pPtr ((cK .i64) x6)) true), some (Ent.mk [(13, (pPtr ((cK .i64) x6)))] (pEq (.int .i64 x6)) true), some (Ent.mk [(0, (pSl 1 (cK .i64) row_0))] (pSl 1 (cK .i64) row_0) true), some (Ent.mk [(3, (pEq (.int .i64 v3)))] (pEq (.int .i64 v3)) true), some (Ent.mk [(15, (pSl 1 (cK .i64) row_0)), (16, (pEq (.int .i64 v3)))] (pPtr ((cK .i64) x7)) true), some (Ent.mk [(17, (pPtr ((cK .i64) x7)))] (pEq (.int .i64 x7)) true), some (Ent.mk [(14, (pEq (.int .i64 x6))), (18, (pEq (.int .i64 x7)))] (pEq (.bool (decide (x7 < x6)))) true)]) (rd := [[0], [4], [11, 12], [13], [0], [3], [15, 16], [17], [14, 18]]) rfl hmix (by kernel_rfl) fun hD => ?_
      refine RD.fin (es := [Ent.mk [(0, (pSl 1 (cK .i64) row_0))] (pSl 1 (cK .i64) row_0) true, Ent.mk [(4, (pEq (.int .i64 v4)))] (pEq (.int .i64 v4)) true, Ent.mk [(11, (pSl 1 (cK .i64) row_0)), (12, (pEq (.int .i64 v4)))] (pPtr ((cK .i64) x6)) true, Ent.mk [(13, (pPtr ((cK .i64) x6)))] (pEq (.int .i64 x6)) true, Ent.mk [(0, (pSl 1 (cK .i64) row_0))] (pSl 1 (cK .i64) row_0) true, Ent.mk [(3, (pEq (.int .i64 v3)))] (pEq (.int .i64 v3)) true, Ent.mk [(15, (pSl 1 (cK .i64) row_0)), (16, (pEq (.int .i64 v3)))] (pPtr ((cK .i64) x7)) true, Ent.mk [(17, (pPtr ((cK .i64) x7)))] (pEq (.int .i64 x7)) true, Ent.mk [(14, (pEq (.int .i64 x6))), (18, (pEq (.int .i64 x7)))] (pEq (.bool (decide (x7 < x6)))) true]) (done := []) hD ⟨.inr ⟨(OpJ.w (J_move rfl (Opd.tmp rfl))), ⟨rfl, trivial⟩, rfl, rfl⟩, ⟨.inr ⟨(OpJ.w (J_move rfl (Opd.tmp rfl))), ⟨rfl, trivial⟩, rfl, rfl⟩, ⟨.inr ⟨(OpJ.w (J_idx rfl Try.underlying23 sz2 (Opd.tmp rfl) (Opd.tmp rfl) hx6)), ⟨rfl, rfl, trivial⟩, rfl, rfl⟩, ⟨.inr ⟨(OpJ.w (J_load rfl Try.isAgg2 (Opd.tmp rfl))), ⟨rfl, trivial⟩, rfl, rfl⟩, ⟨.inr ⟨(OpJ.w (J_move rfl (Opd.tmp rfl))), ⟨rfl, trivial⟩, rfl, rfl⟩, ⟨.inr ⟨(OpJ.w (J_move rfl (Opd.tmp rfl))), ⟨rfl, trivial⟩, rfl, rfl⟩, ⟨.inr ⟨(OpJ.w (J_idx rfl Try.underlying23 sz2 (Opd.tmp rfl) (Opd.tmp rfl) hx7)), ⟨rfl, rfl, trivial⟩, rfl, rfl⟩, ⟨.inr ⟨(OpJ.w (J_load rfl Try.isAgg2 (Opd.tmp rfl))), ⟨rfl, trivial⟩, rfl, rfl⟩, ⟨.inr ⟨(OpJ.w (J_bin rfl (Opd.tmp rfl) (Opd.tmp rfl) B_gtr)), ⟨rfl, rfl, trivial⟩, rfl, rfl⟩, trivial⟩⟩⟩⟩⟩⟩⟩⟩⟩ ?_
      refine RegL.nil ?_
      refine Ct.then_tr ?_
      refine Tr.weak (Γ' := [(0, (pSl 1 (cK .i64) row_0)), (3, (pEq (.int .i64 v3))), (4, (pEq (.int .i64 v4))), (19, (pEq (.bool (decide (x7 < x6)))))]) ⟨rfl, rfl, rfl, rfl, trivial⟩ ?_
      replace h := bind_some h; obtain ⟨x8, hx8, h⟩ := h
      refine Tr.cut (γ := Unit) (Γm := fun g => [(0, (pSl 1 (cK .i64) row_0)), (3, (pEq (.int .i64 x8))), (4, (pEq (.int .i64 v4)))]) (Ωm := fun g => []) ?_ (fun g9 => ?_)
      · clear h
        have h := hx8
        clear hx8
        refine Tr.cond (Opd.tmp rfl) (fun hc => ?_) (fun hc => ?_)
        · replace h := bif_t hc h
          refine Tr.region ?_
          refine RegL.pure (p := (pEq (.int .i64 v4))) rfl rfl rfl (J_move rfl (Opd.tmp rfl)) ?_
          refine RegL.pure (p := (pEq (.int .i64 v4))) rfl rfl rfl (J_assign rfl (Opd.tmp rfl)) ?_
          refine RegL.nil ?_
          replace h := Option.some.inj h; subst h
          exact Ct.mid () rfl ⟨rfl, rfl, rfl, trivial⟩
        · replace h := bif_f hc h
          refine Tr.skip ?_
          replace h := Option.some.inj h; subst h
          exact Ct.mid () rfl ⟨rfl, rfl, rfl, trivial⟩
      · clear hx8
        refine Ct.blk_normal ?_
        refine Ct.then_tr ?_
        refine Tr.weak (Γ' := [(0, (pSl 1 (cK .i64) row_0)), (3, (pEq (.int .i64 x8))), (4, (pEq (.int .i64 v4)))]) ⟨rfl, rfl, rfl, trivial⟩ ?_
        refine Tr.region ?_
        refine RegL.pure (p := (pEq (.int .i64 v4))) rfl rfl rfl (J_move rfl (Opd.tmp rfl)) ?_
        refine RegL.pure (p := (pEq (.int .i64 (w64 (v4 + (1 : Int)))))) rfl rfl rfl (J_bin rfl (Opd.tmp rfl) Opd.con B_add) ?_
        refine RegL.pure (p := (pEq (.int .i64 (w64 (v4 + (1 : Int)))))) rfl rfl rfl (J_assign rfl (Opd.tmp rfl)) ?_
        refine RegL.nil ?_
        replace h := Option.some.inj h; subst h
        exact Ct.again () rfl ⟨rfl, rfl, rfl, trivial⟩
    · replace h := bif_f hc h
      refine Tr.exit ?_
      refine Ct.then_exit ?_
      replace h := map_some h; obtain ⟨r1, h, rfl⟩ := h
      refine Ct.out_exit fun e => ?_
      subst e
      refine Ct.blk_exit ?_
      replace h := Option.some.inj h; subst h
      exact Ct.mid () rfl ⟨rfl, trivial⟩
  · clear hx1
    refine Ct.then_tr ?_
    refine Tr.weak (Γ' := [(3, (pEq (.int .i64 x1)))]) ⟨rfl, trivial⟩ ?_
    refine Tr.seq ?_
    refine Tr.region ?_
    refine RegL.pure (p := (pEq (.int .i64 x1))) rfl rfl rfl (J_move rfl (Opd.tmp rfl)) ?_
    refine RegL.pure (p := (pEq (.int .i64 x1))) rfl rfl rfl (J_assign rfl (Opd.tmp rfl)) ?_
    refine RegL.nil ?_
    refine Ct.then_tr ?_
    refine Tr.weak (Γ' := [(2, (pEq (.int .i64 x1)))]) ⟨rfl, trivial⟩ ?_
    refine Tr.ret ?_
    replace h := Option.some.inj h; subst h
    exact Ct.retH1 (Ωx := []) () rfl (RvOk.tmp rfl) rfl

theorem c_spec_l00Min {a_0 : Int} {b_1 : Int} {r : Int} (h : m_spec_l00Min a_0 b_1 = some r) : CallJ Try.prog 82 [(pEq (.int .i64 a_0)), (pEq (.int .i64 b_1))] (pEq (.int .i64 r)) := by
  unfold m_spec_l00Min at h
  refine CallJ.enterH Try.func82 rfl Try.ntmps82 rfl fun W I0 H => ?_
  refine Tr.weak (Γ' := [(0, (pEq (.int .i64 a_0))), (1, (pEq (.int .i64 b_1)))]) ⟨rfl, rfl, trivial⟩ ?_
  refine Tr.seq ?_
  refine Tr.region ?_
  refine RegL.pure (p := (pEq (.int .i64 (0 : Int)))) rfl rfl rfl (J_assign rfl Opd.con) ?_
  refine RegL.nil ?_
  refine Ct.then_tr ?_
  refine Tr.weak (Γ' := [(0, (pEq (.int .i64 a_0))), (1, (pEq (.int .i64 b_1)))]) ⟨rfl, rfl, trivial⟩ ?_
  refine Tr.seq ?_
  refine Tr.seq ?_
  refine Tr.region ?_
  refine RegL.pure (p := (pEq (.int .i64 a_0))) rfl rfl rfl (J_move rfl (Opd.tmp rfl)) ?_
  refine RegL.pure (p := (pEq (.int .i64 b_1))) rfl rfl rfl (J_move rfl (Opd.tmp rfl)) ?_
  refine RegL.pure (p := (pEq (.bool (decide (a_0 < b_1))))) rfl rfl rfl (J_bin rfl (Opd.tmp rfl) (Opd.tmp rfl) B_lss) ?_
  refine RegL.nil ?_
  refine Ct.then_tr ?_
  refine Tr.weak (Γ' := [(0, (pEq (.int .i64 a_0))), (1, (pEq (.int .i64 b_1))), (7, (pEq (.bool (decide (a_0 < b_1)))))]) ⟨rfl, rfl, rfl, trivial⟩ ?_
  refine Tr.cond (Opd.tmp rfl) (fun hc => ?_) (fun hc => ?_)
  · replace h := bif_t hc h
    refine Tr.seq ?_
    refine Tr.region ?_
    refine RegL.pure (p := (pEq (.int .i64 a_0))) rfl rfl rfl (J_move rfl (Opd.tmp rfl)) ?_
    refine RegL.pure (p := (pEq (.int .i64 a_0))) rfl rfl rfl (J_assign rfl (Opd.tmp rfl)) ?_
    refine RegL.nil ?_
    refine Ct.then_tr ?_
    refine Tr.weak (Γ' := [(4, (pEq (.int .i64 a_0)))]) ⟨rfl, trivial⟩ ?_
    refine Tr.ret ?_
    refine Ct.then_ret ?_
    replace h := Option.some.inj h; subst h
    exact Ct.retH1 (Ωx := []) () rfl (RvOk.tmp rfl) rfl
  · replace h := bif_f hc h
    refine Tr.skip ?_
    refine Ct.then_tr ?_
    refine Tr.weak (Γ' := [(1, (pEq (.int .i64 b_1)))]) ⟨rfl, trivial⟩ ?_
    refine Tr.seq ?_
    refine Tr.region ?_
    refine RegL.pure (p := (pEq (.int .i64 b_1))) rfl rfl rfl (J_move rfl (Opd.tmp rfl)) ?_
    refine RegL.pure (p := (pEq (.int .i64 b_1))) rfl rfl rfl (J_assign rfl (Opd.tmp rfl)) ?_
    refine RegL.nil ?_
    refine Ct.then_tr ?_
    refine Tr.weak (Γ' := [(4, (pEq (.int .i64 b_1)))]) ⟨rfl, trivial⟩ ?_
    refine Tr.ret ?_
    replace h := Option.some.inj h; subst h
    exact Ct.retH1 (Ωx := []) () rfl (RvOk.tmp rfl) rfl

theorem o_spec_l16Pairs {a_0 : (List (List Int))}  {r : (List (List Int))} (h : m_spec_l16Pairs a_0 = some r) : CallH Try.prog 45 [(pSl 1 (cSl 1 (cK .i64)) a_0)] [] (fun g : (G3 × List G3) => (pEq (.slice g.1.1 g.1.2.1 g.1.2.2))) (fun g : (G3 × List G3) => [oSS 23 2 1 (cK .i64) g.1.1 g.1.2.1 g.1.2.2 g.2 r]) := by
  unfold m_spec_l16Pairs at h
  refine CallH.enter Try.func45 rfl Try.ntmps45 rfl fun W I0 H => ?_
  refine Tr.weak (Γ' := [(0, (pSl 1 (cSl 1 (cK .i64)) a_0))]) ⟨rfl, trivial⟩ ?_
  refine Tr.seq ?_
  refine Tr.region ?_
  refine RegL.pure (p := (pEq (.slice none 0 0))) rfl rfl rfl (J_assign rfl Opd.con) ?_
  refine RegL.nil ?_
  refine Ct.then_tr ?_
  refine Tr.weak (Γ' := [(0, (pSl 1 (cSl 1 (cK .i64)) a_0))]) ⟨rfl, trivial⟩ ?_
  refine Tr.seq ?_
  refine Tr.region ?_
  refine RegL.pure (p := (pSl 1 (cSl 1 (cK .i64)) a_0)) rfl rfl rfl (J_move rfl (Opd.tmp rfl)) ?_
  replace h := bind_some h; obtain ⟨x1, hx1, h⟩ := h
  refine RegL.pure (p := (pPtr ((cSl 1 (cK .i64)) x1))) rfl rfl rfl (J_idx rfl Try.underlying22 sz23 (Opd.tmp rfl) Opd.con hx1) ?_
  refine RegL.pure (p := (pSl 1 (cK .i64) x1)) rfl rfl rfl (J_load rfl Try.isAgg23 (Opd.tmp rfl)) ?_
  refine RegL.pure (p := (pEq (.int .i64 (x1.length : Int)))) rfl rfl rfl (J_len rfl Try.underlying23 (Opd.tmp rfl) rfl) ?_
  refine RegL.pure (p := (pEq (.int .i64 (x1.length : Int)))) rfl rfl rfl (J_assign rfl (Opd.tmp rfl)) ?_
  refine RegL.nil ?_
  refine Ct.then_tr ?_
  refine Tr.weak (Γ' := [(0, (pSl 1 (cSl 1 (cK .i64)) a_0)), (3, (pEq (.int .i64 (x1.length : Int))))]) ⟨rfl, rfl, trivial⟩ ?_
  refine Tr.seq ?_
  refine Tr.region ?_
  refine RegL.step (γ := Option Addr) (p := fun a => pEq (.slice a 0 0)) (Ω' := fun a => [oSl 23 1 cHdr a 0 0 []]) rfl rfl rfl (M_buildSlice (qss := []) rfl Try.underlying22 elh23 rfl Parts.nil rfl rfl) fun o2 => ?_
  refine RegL.re (Ω2 := [oSS 23 2 1 (cK .i64) o2 0 0 [] ([] : (List (List Int)))]) (fun h => nest_zero h) ?_
  refine RegL.pure (p := (pEq (.slice o2 0 0))) rfl rfl rfl (J_assign rfl (Opd.tmp rfl)) ?_
  refine RegL.nil ?_
  refine Ct.then_tr ?_
  refine Tr.weak (Γ' := [(0, (pSl 1 (cSl 1 (cK .i64)) a_0)), (3, (pEq (.int .i64 (x1.length : Int)))), (4, (pEq (.slice o2 0 0)))]) ⟨rfl, rfl, rfl, trivial⟩ ?_
  refine Tr.seq ?_
  refine Tr.seq ?_
  refine Tr.region ?_
  refine RegL.pure (p := (pEq (.int .i64 (0 : Int)))) rfl rfl rfl (J_assign rfl Opd.con) ?_
  refine RegL.nil ?_
  refine Ct.then_tr ?_
  refine Tr.weak (Γ' := [(0, (pSl 1 (cSl 1 (cK .i64)) a_0)), (3, (pEq (.int .i64 (x1.length : Int)))), (4, (pEq (.slice o2 0 0))), (5, (pEq (.int .i64 (0 : Int))))]) ⟨rfl, rfl, rfl, rfl, trivial⟩ ?_
  replace h := bind_some h; obtain ⟨x4, hx4, h⟩ := h
  refine Tr.cut (γ := (G3 × List G3)) (Γm := fun g => [(4, (pEq (.slice g.1.1 g.1.2.1 g.1.2.2)))]) (Ωm := fun g => [oSS 23 2 1 (cK .i64) g.1.1 g.1.2.1 g.1.2.2 g.2 x4]) ?_ (fun g41 => ?_)
  · clear h
    have h := hx4
    clear hx4
    refine Tr.block ?_
    refine Tr.weak (Γ' := [(0, (pSl 1 (cSl 1 (cK .i64)) a_0)), (3, (pEq (.int .i64 (x1.length : Int)))), (4, (pEq (.slice o2 0 0))), (5, (pEq (.int .i64 (0 : Int))))]) ⟨rfl, rfl, rfl, rfl, trivial⟩ ?_
    refine Tr.loop (γ := (G3 × List G3)) (σ := (Int × (List (List Int)))) (Γσ := fun s g => [(0, (pSl 1 (cSl 1 (cK .i64)) a_0)), (3, (pEq (.int .i64 (x1.length : Int)))), (4, (pEq (.slice g.1.1 g.1.2.1 g.1.2.2))), (5, (pEq (.int .i64 s.1)))]) (Ωσ := fun s g => [oSS 23 2 1 (cK .i64) g.1.1 g.1.2.1 g.1.2.2 g.2 s.2]) (g := ((o2, 0, 0), [])) h ?_
    clear h
    rintro ⟨v6, v7⟩ g8 t h
    replace h : m_spec_l16Pairs_B5 a_0 x1 v6 v7 = some t := h
    unfold m_spec_l16Pairs_B5 at h
    refine Tr.weakO (Γ' := [(0, (pSl 1 (cSl 1 (cK .i64)) a_0)), (3, (pEq (.int .i64 (x1.length : Int)))), (4, (pEq (.slice g8.1.1 g8.1.2.1 g8.1.2.2))), (5, (pEq (.int .i64 v6)))]) (Ω' := [oSS 23 2 1 (cK .i64) g8.1.1 g8.1.2.1 g8.1.2.2 g8.2 v7]) rfl ⟨rfl, rfl, rfl, rfl, trivial⟩ ?_
    refine Tr.seq ?_
    refine Tr.seq ?_
    refine Tr.region ?_
    refine RegL.pure (p := (pEq (.int .i64 v6))) rfl rfl rfl (J_move rfl (Opd.tmp rfl)) ?_
    refine RegL.pure (p := (pEq (.int .i64 (x1.length : Int)))) rfl rfl rfl (J_move rfl (Opd.tmp rfl)) ?_
    refine RegL.pure (p := (pEq (.bool (decide (v6 < (x1.length : Int)))))) rfl rfl rfl (J_bin rfl (Opd.tmp rfl) (Opd.tmp rfl) B_lss) ?_
    refine RegL.nil ?_
    refine Ct.then_tr ?_
    refine Tr.weak (Γ' := [(0, (pSl 1 (cSl 1 (cK .i64)) a_0)), (3, (pEq (.int .i64 (x1.length : Int)))), (4, (pEq (.slice g8.1.1 g8.1.2.1 g8.1.2.2))), (5, (pEq (.int .i64 v6))), (17, (pEq (.bool (decide (v6 < (x1.length : Int))))))]) ⟨rfl, rfl, rfl, rfl, rfl, trivial⟩ ?_
    refine Tr.cond (Opd.tmp rfl) (fun hc => ?_) (fun hc => ?_)
    · replace h := bif_t hc h
      refine Tr.skip ?_
      refine Ct.then_tr ?_
      refine Tr.weak (Γ' := [(0, (pSl 1 (cSl 1 (cK .i64)) a_0)), (3, (pEq (.int .i64 (x1.length : Int)))), (4, (pEq (.slice g8.1.1 g8.1.2.1 g8.1.2.2))), (5, (pEq (.int .i64 v6)))]) ⟨rfl, rfl, rfl, rfl, trivial⟩ ?_
      refine Tr.seq ?_
      refine Tr.block ?_
      refine Tr.seq ?_
      refine Tr.region ?_
      refine RegL.step (γ := Option Addr) (p := fun a => pEq (.slice a 0 0)) (Ω' := fun a => [oSl 2 1 (cK .i64) a 0 0 ([] : (List Int)), oSS 23 2 1 (cK .i64) g8.1.1 g8.1.2.1 g8.1.2.2 g8.2 v7]) rfl rfl rfl (M_buildSlice (qss := []) rfl Try.underlying23 el2 rfl Parts.nil rfl rfl) fun o10 => ?_
      refine RegL.pure (p := (pEq (.slice o10 0 0))) rfl rfl rfl (J_assign rfl (Opd.tmp rfl)) ?_
      refine RegL.nil ?_
      refine Ct.then_tr ?_
      refine Tr.weak (Γ' := [(0, (pSl 1 (cSl 1 (cK .i64)) a_0)), (3, (pEq (.int .i64 (x1.length : Int)))), (4, (pEq (.slice g8.1.1 g8.1.2.1 g8.1.2.2))), (5, (pEq (.int .i64 v6))), (6, (pEq (.slice o10 0 0)))]) ⟨rfl, rfl, rfl, rfl, rfl, trivial⟩ ?_
      refine Tr.seq ?_
      refine Tr.seq ?_
      refine Tr.region ?_
      refine RegL.pure (p := (pEq (.int .i64 (0 : Int)))) rfl rfl rfl (J_assign rfl Opd.con) ?_
      refine RegL.nil ?_
      refine Ct.then_tr ?_
      refine Tr.weak (Γ' := [(0, (pSl 1 (cSl 1 (cK .i64)) a_0)), (3, (pEq (.int .i64 (x1.length : Int)))), (4, (pEq (.slice g8.1.1 g8.1.2.1 g8.1.2.2))), (5, (pEq (.int .i64 v6))), (6, (pEq (.slice o10 0 0))), (7, (pEq (.int .i64 (0 : Int))))]) ⟨rfl, rfl, rfl, rfl, rfl, rfl, trivial⟩ ?_
      replace h := bind_some h; obtain ⟨x11, hx11, h⟩ := h
      refine Tr.cut (γ := G3) (Γm := fun g => [(0, (pSl 1 (cSl 1 (cK .i64)) a_0)), (3, (pEq (.int .i64 (x1.length : Int)))), (4, (pEq (.slice g8.1.1 g8.1.2.1 g8.1.2.2))), (5, (pEq (.int .i64 v6))), (6, (pEq (.slice g.1 g.2.1 g.2.2)))]) (Ωm := fun g => [oSl 2 1 (cK .i64) g.1 g.2.1 g.2.2 x11, oSS 23 2 1 (cK .i64) g8.1.1 g8.1.2.1 g8.1.2.2 g8.2 v7]) ?_ (fun g36 => ?_)
      · clear h
        have h := hx11
        clear hx11
        refine Tr.block ?_
        refine Tr.weak (Γ' := [(0, (pSl 1 (cSl 1 (cK .i64)) a_0)), (3, (pEq (.int .i64 (x1.length : Int)))), (4, (pEq (.slice g8.1.1 g8.1.2.1 g8.1.2.2))), (5, (pEq (.int .i64 v6))), (6, (pEq (.slice o10 0 0))), (7, (pEq (.int .i64 (0 : Int))))]) ⟨rfl, rfl, rfl, rfl, rfl, rfl, trivial⟩ ?_
        refine Tr.loop (γ := G3) (σ := (Int × (List Int))) (Γσ := fun s g => [(0, (pSl 1 (cSl 1 (cK .i64)) a_0)), (3, (pEq (.int .i64 (x1.length : Int)))), (4, (pEq (.slice g8.1.1 g8.1.2.1 g8.1.2.2))), (5, (pEq (.int .i64 v6))), (6, (pEq (.slice g.1 g.2.1 g.2.2))), (7, (pEq (.int .i64 s.1)))]) (Ωσ := fun s g => [oSl 2 1 (cK .i64) g.1 g.2.1 g.2.2 s.2, oSS 23 2 1 (cK .i64) g8.1.1 g8.1.2.1 g8.1.2.2 g8.2 v7]) (g := (o10, 0, 0)) h ?_
        clear h
        rintro ⟨v13, v14⟩ g15 t h
        replace h : m_spec_l16Pairs_B12 a_0 x1 v6 v13 v14 = some t := h
        unfold m_spec_l16Pairs_B12 at h
        refine Tr.weakO (Γ' := [(0, (pSl 1 (cSl 1 (cK .i64)) a_0)), (3, (pEq (.int .i64 (x1.length : Int)))), (4, (pEq (.slice g8.1.1 g8.1.2.1 g8.1.2.2))), (5, (pEq (.int .i64 v6))), (6, (pEq (.slice g15.1 g15.2.1 g15.2.2))), (7, (pEq (.int .i64 v13)))]) (Ω' := [oSl 2 1 (cK .i64) g15.1 g15.2.1 g15.2.2 v14, oSS 23 2 1 (cK .i64) g8.1.1 g8.1.2.1 g8.1.2.2 g8.2 v7]) rfl ⟨rfl, rfl, rfl, rfl, rfl, rfl, trivial⟩ ?_
        refine Tr.seq ?_
        refine Tr.seq ?_
        refine Tr.region ?_
        refine RegL.pure (p := (pEq (.int .i64 v13))) rfl rfl rfl (J_move rfl (Opd.tmp rfl)) ?_
        refine RegL.pure (p := (pEq (.int .i64 (x1.length : Int)))) rfl rfl rfl (J_move rfl (Opd.tmp rfl)) ?_
        refine RegL.pure (p := (pEq (.bool (decide (v13 < (x1.length : Int)))))) rfl rfl rfl (J_bin rfl (Opd.tmp rfl) (Opd.tmp rfl) B_lss) ?_
        refine RegL.nil ?_
        refine Ct.then_tr ?_
        refine Tr.weak (Γ' := [(0, (pSl 1 (cSl 1 (cK .i64)) a_0)), (3, (pEq (.int .i64 (x1.length : Int)))), (4, (pEq (.slice g8.1.1 g8.1.2.1 g8.1.2.2))), (5, (pEq (.int .i64 v6))), (6, (pEq (.slice g15.1 g15.2.1 g15.2.2))), (7, (pEq (.int .i64 v13))), (23, (pEq (.bool (decide (v13 < (x1.length : Int))))))]) ⟨rfl, rfl, rfl, rfl, rfl, rfl, rfl, trivial⟩ ?_
        refine Tr.cond (Opd.tmp rfl) (fun hc => ?_) (fun hc => ?_)
        · replace h := bif_t hc h
          refine Tr.skip ?_
          refine Ct.then_tr ?_
          refine Tr.weak (Γ' := [(0, (pSl 1 (cSl 1 (cK .i64)) a_0)), (3, (pEq (.int .i64 (x1.length : Int)))), (4, (pEq (.slice g8.1.1 g8.1.2.1 g8.1.2.2))), (5, (pEq (.int .i64 v6))), (6, (pEq (.slice g15.1 g15.2.1 g15.2.2))), (7, (pEq (.int .i64 v13)))]) ⟨rfl, rfl, rfl, rfl, rfl, rfl, trivial⟩ ?_
          refine Tr.seq ?_
          refine Tr.block ?_
          refine Tr.seq ?_
          refine Tr.region ?_
          refine RegL.pure (p := (pEq (.int .i64 (200000 : Int)))) rfl rfl rfl (J_assign rfl Opd.con) ?_
          refine RegL.nil ?_
          refine Ct.then_tr ?_
          refine Tr.weak (Γ' := [(0, (pSl 1 (cSl 1 (cK .i64)) a_0)), (3, (pEq (.int .i64 (x1.length : Int)))), (4, (pEq (.slice g8.1.1 g8.1.2.1 g8.1.2.2))), (5, (pEq (.int .i64 v6))), (6, (pEq (.slice g15.1 g15.2.1 g15.2.2))), (7, (pEq (.int .i64 v13))), (8, (pEq (.int .i64 (200000 : Int))))]) ⟨rfl, rfl, rfl, rfl, rfl, rfl, rfl, trivial⟩ ?_
          refine Tr.seq ?_
          refine Tr.seq ?_
          refine Tr.region ?_
          refine RegL.pure (p := (pEq (.int .i64 (0 : Int)))) rfl rfl rfl (J_assign rfl Opd.con) ?_
          refine RegL.nil ?_
          refine Ct.then_tr ?_
          refine Tr.weak (Γ' := [(0, (pSl 1 (cSl 1 (cK .i64)) a_0)), (3, (pEq (.int .i64 (x1.length : Int)))), (4, (pEq (.slice g8.1.1 g8.1.2.1 g8.1.2.2))), (5, (pEq (.int .i64 v6))), (6, (pEq (.slice g15.1 g15.2.1 g15.2.2))), (7, (pEq (.int .i64 v13))), (8, (pEq (.int .i64 (200000 : Int)))), (9, (pEq (.int .i64 (0 : Int))))]) ⟨rfl, rfl, rfl, rfl, rfl, rfl, rfl, rfl, trivial⟩ ?_
          replace h := bind_some h; obtain ⟨x16, hx16, h⟩ := h
          refine Tr.cut (γ := Unit) (Γm := fun g => [(0, (pSl 1 (cSl 1 (cK .i64)) a_0)), (3, (pEq (.int .i64 (x1.length : Int)))), (4, (pEq (.slice g8.1.1 g8.1.2.1 g8.1.2.2))), (5, (pEq (.int .i64 v6))), (6, (pEq (.slice g15.1 g15.2.1 g15.2.2))), (7, (pEq (.int .i64 v13))), (8, (pEq (.int .i64 x16)))]) (Ωm := fun g => [oSl 2 1 (cK .i64) g15.1 g15.2.1 g15.2.2 v14, oSS 23 2 1 (cK .i64) g8.1.1 g8.1.2.1 g8.1.2.2 g8.2 v7]) ?_ (fun g33 => ?_)
          · clear h
            have h := hx16
            clear hx16
            refine Tr.block ?_
            refine Tr.weak (Γ' := [(0, (pSl 1 (cSl 1 (cK .i64)) a_0)), (3, (pEq (.int .i64 (x1.length : Int)))), (4, (pEq (.slice g8.1.1 g8.1.2.1 g8.1.2.2))), (5, (pEq (.int .i64 v6))), (6, (pEq (.slice g15.1 g15.2.1 g15.2.2))), (7, (pEq (.int .i64 v13))), (8, (pEq (.int .i64 (200000 : Int)))), (9, (pEq (.int .i64 (0 : Int))))]) ⟨rfl, rfl, rfl, rfl, rfl, rfl, rfl, rfl, trivial⟩ ?_
            refine Tr.loop (γ := Unit) (σ := (Int × Int)) (Γσ := fun s g => [(0, (pSl 1 (cSl 1 (cK .i64)) a_0)), (3, (pEq (.int .i64 (x1.length : Int)))), (4, (pEq (.slice g8.1.1 g8.1.2.1 g8.1.2.2))), (5, (pEq (.int .i64 v6))), (6, (pEq (.slice g15.1 g15.2.1 g15.2.2))), (7, (pEq (.int .i64 v13))), (8, (pEq (.int .i64 s.1))), (9, (pEq (.int .i64 s.2)))]) (Ωσ := fun s g => [oSl 2 1 (cK .i64) g15.1 g15.2.1 g15.2.2 v14, oSS 23 2 1 (cK .i64) g8.1.1 g8.1.2.1 g8.1.2.2 g8.2 v7]) (g := ()) h ?_
            clear h
            rintro ⟨v18, v19⟩ g20 t h
            replace h : m_spec_l16Pairs_B17 a_0 v6 v13 v18 v19 = some t := h
            unfold m_spec_l16Pairs_B17 at h
            refine Tr.weakO (Γ' := [(0, (pSl 1 (cSl 1 (cK .i64)) a_0)), (3, (pEq (.int .i64 (x1.length : Int)))), (4, (pEq (.slice g8.1.1 g8.1.2.1 g8.1.2.2))), (5, (pEq (.int .i64 v6))), (6, (pEq (.slice g15.1 g15.2.1 g15.2.2))), (7, (pEq (.int .i64 v13))), (8, (pEq (.int .i64 v18))), (9, (pEq (.int .i64 v19)))]) (Ω' := [oSl 2 1 (cK .i64) g15.1 g15.2.1 g15.2.2 v14, oSS 23 2 1 (cK .i64) g8.1.1 g8.1.2.1 g8.1.2.2 g8.2 v7]) rfl ⟨rfl, rfl, rfl, rfl, rfl, rfl, rfl, rfl, trivial⟩ ?_
            refine Tr.seq ?_
            refine Tr.seq ?_
            replace h := bind_some h; obtain ⟨x21, hx21, h⟩ := h
            refine Tr.cut (γ := Unit) (Γm := fun g => [(0, (pSl 1 (cSl 1 (cK .i64)) a_0)), (3, (pEq (.int .i64 (x1.length : Int)))), (4, (pEq (.slice g8.1.1 g8.1.2.1 g8.1.2.2))), (5, (pEq (.int .i64 v6))), (6, (pEq (.slice g15.1 g15.2.1 g15.2.2))), (7, (pEq (.int .i64 v13))), (8, (pEq (.int .i64 v18))), (9, (pEq (.int .i64 v19))), (34, (pEq (.bool x21)))]) (Ωm := fun g => [oSl 2 1 (cK .i64) g15.1 g15.2.1 g15.2.2 v14, oSS 23 2 1 (cK .i64) g8.1.1 g8.1.2.1 g8.1.2.2 g8.2 v7]) ?_ (fun g23 => ?_)
            · clear h
              have h := hx21
              clear hx21
              refine Tr.region ?_
              refine RegL.pure (p := (pEq (.int .i64 v19))) rfl rfl rfl (J_move rfl (Opd.tmp rfl)) ?_
              refine RegL.pure (p := (pSl 1 (cSl 1 (cK .i64)) a_0)) rfl rfl rfl (J_move rfl (Opd.tmp rfl)) ?_
              refine RegL.pure (p := (pEq (.int .i64 (a_0.length : Int)))) rfl rfl rfl (J_len rfl Try.underlying22 (Opd.tmp rfl) rfl) ?_
              refine RegL.pure (p := (pEq (.bool (decide (v19 < (a_0.length : Int)))))) rfl rfl rfl (J_bin rfl (Opd.tmp rfl) (Opd.tmp rfl) B_lss) ?_
              refine RegL.pure (p := (pEq (.bool (decide (v19 < (a_0.length : Int)))))) rfl rfl rfl (J_move rfl (Opd.tmp rfl)) ?_
              rcases Bool.eq_false_or_eq_true (decide (v19 < (a_0.length : Int))) with hc22 | hc22
              · replace h := bif_t hc22 h
                refine RegL.pureG (p := (pEq (.int .i64 v6))) rfl rfl rfl hc22 rfl rfl (J_move rfl (Opd.tmp rfl)) ?_
                refine RegL.pureG (p := (pEq (.int .i64 v13))) rfl rfl rfl hc22 rfl rfl (J_move rfl (Opd.tmp rfl)) ?_
                refine RegL.pureG (p := (pEq (.bool (v6 != v13)))) rfl rfl rfl hc22 rfl rfl (J_bin rfl (Opd.tmp rfl) (Opd.tmp rfl) B_neq) ?_
                refine RegL.pure (p := (pEq (.bool (v6 != v13)))) rfl rfl rfl (J_pick rfl (Opd.tmp rfl) (fun _ => (Opd.tmp rfl)) (fun hf => absurd (hc22.symm.trans hf) (by decide))) ?_
                refine RegL.nil ?_
                replace h := Option.some.inj h; subst h
                exact Ct.mid () rfl ⟨rfl, rfl, rfl, rfl, rfl, rfl, rfl, rfl, rfl, trivial⟩
              · replace h := bif_f hc22 h
                refine RegL.skipG rfl rfl rfl hc22 rfl rfl ?_
                refine RegL.skipG rfl rfl rfl hc22 rfl rfl ?_
                refine RegL.skipG rfl rfl rfl hc22 rfl rfl ?_
                refine RegL.pure (p := (pEq (.bool false))) rfl rfl rfl (J_pick rfl (Opd.tmp rfl) (fun hf => absurd (hc22.symm.trans hf) (by decide)) (fun _ => Opd.con)) ?_
                refine RegL.nil ?_
                replace h := Option.some.inj h; subst h
                exact Ct.mid () rfl ⟨rfl, rfl, rfl, rfl, rfl, rfl, rfl, rfl, rfl, trivial⟩
            · clear hx21
              refine Ct.then_tr ?_
              refine Tr.weak (Γ' := [(0, (pSl 1 (cSl 1 (cK .i64)) a_0)), (3, (pEq (.int .i64 (x1.length : Int)))), (4, (pEq (.slice g8.1.1 g8.1.2.1 g8.1.2.2))), (5, (pEq (.int .i64 v6))), (6, (pEq (.slice g15.1 g15.2.1 g15.2.2))), (7, (pEq (.int .i64 v13))), (8, (pEq (.int .i64 v18))), (9, (pEq (.int .i64 v19))), (34, (pEq (.bool x21)))]) ⟨rfl, rfl, rfl, rfl, rfl, rfl, rfl, rfl, rfl, trivial⟩ ?_
              refine Tr.cond (Opd.tmp rfl) (fun hc => ?_) (fun hc => ?_)
              · replace h := bif_t hc h
                refine Tr.skip ?_
                refine Ct.then_tr ?_
                refine Tr.weak (Γ' := [(0, (pSl 1 (cSl 1 (cK .i64)) a_0)), (3, (pEq (.int .i64 (x1.length : Int)))), (4, (pEq (.slice g8.1.1 g8.1.2.1 g8.1.2.2))), (5, (pEq (.int .i64 v6))), (6, (pEq (.slice g15.1 g15.2.1 g15.2.2))), (7, (pEq (.int .i64 v13))), (8, (pEq (.int .i64 v18))), (9, (pEq (.int .i64 v19)))]) ⟨rfl, rfl, rfl, rfl, rfl, rfl, rfl, rfl, trivial⟩ ?_
                refine Tr.seq ?_
                refine Tr.block ?_
                refine Tr.seq ?_
                refine Tr.region ?_
                refine RegL.pure (p := (pSl 1 (cSl 1 (cK .i64)) a_0)) rfl rfl rfl (J_move rfl (Opd.tmp rfl)) ?_
                refine RegL.pure (p := (pEq (.int .i64 v19))) rfl rfl rfl (J_move rfl (Opd.tmp rfl)) ?_
                replace h := bind_some h; obtain ⟨x24, hx24, h⟩ := h
                refine RegL.pure (p := (pPtr ((cSl 1 (cK .i64)) x24))) rfl rfl rfl (J_idx rfl Try.underlying22 sz23 (Opd.tmp rfl) (Opd.tmp rfl) hx24) ?_
                refine RegL.pure (p := (pSl 1 (cK .i64) x24)) rfl rfl rfl (J_load rfl Try.isAgg23 (Opd.tmp rfl)) ?_
                replace h := bind_some h; obtain ⟨x25, hx25, h⟩ := h
                refine RegL.pure (p := (pEq (.int .i64 x25))) rfl rfl rfl (J_call rfl Try.call91 (c_spec_l16Server hx25) (Opds.cons (Opd.tmp rfl) Opds.nil)) ?_
                refine RegL.pure (p := (pEq (.int .i64 v6))) rfl rfl rfl (J_move rfl (Opd.tmp rfl)) ?_
                refine RegL.pure (p := (pEq (.bool (x25 == v6)))) rfl rfl rfl (J_bin rfl (Opd.tmp rfl) (Opd.tmp rfl) B_eql) ?_
                refine RegL.nil ?_
                refine Ct.then_tr ?_
                refine Tr.weak (Γ' := [(0, (pSl 1 (cSl 1 (cK .i64)) a_0)), (3, (pEq (.int .i64 (x1.length : Int)))), (4, (pEq (.slice g8.1.1 g8.1.2.1 g8.1.2.2))), (5, (pEq (.int .i64 v6))), (6, (pEq (.slice g15.1 g15.2.1 g15.2.2))), (7, (pEq (.int .i64 v13))), (8, (pEq (.int .i64 v18))), (9, (pEq (.int .i64 v19))), (43, (pEq (.bool (x25 == v6))))]) ⟨rfl, rfl, rfl, rfl, rfl, rfl, rfl, rfl, rfl, trivial⟩ ?_
                replace h := bind_some h; obtain ⟨x26, hx26, h⟩ := h
                refine Tr.cut (γ := Unit) (Γm := fun g => [(0, (pSl 1 (cSl 1 (cK .i64)) a_0)), (3, (pEq (.int .i64 (x1.length : Int)))), (4, (pEq (.slice g8.1.1 g8.1.2.1 g8.1.2.2))), (5, (pEq (.int .i64 v6))), (6, (pEq (.slice g15.1 g15.2.1 g15.2.2))), (7, (pEq (.int .i64 v13))), (8, (pEq (.int .i64 x26))), (9, (pEq (.int .i64 v19)))]) (Ωm := fun g => [oSl 2 1 (cK .i64) g15.1 g15.2.1 g15.2.2 v14, oSS 23 2 1 (cK .i64) g8.1.1 g8.1.2.1 g8.1.2.2 g8.2 v7]) ?_ (fun g32 => ?_)
                · clear h
                  have h := hx26
                  clear hx26
                  refine Tr.cond (Opd.tmp rfl) (fun hc => ?_) (fun hc => ?_)
                  · replace h := bif_t hc h
                    replace h := bind_some h; obtain ⟨x27, hx27, h⟩ := h
                    replace h := bind_some h; obtain ⟨x28, hx28, h⟩ := h
                    replace h := bind_some h; obtain ⟨x29, hx29, h⟩ := h
                    replace h := bind_some h; obtain ⟨x30, hx30, h⟩ := h
                    replace h := bind_some h; obtain ⟨x31, hx31, h⟩ := h
                    refine Tr.drawD (n := 70) (m := 17) (es := [some (Ent.mk [(8, (pEq (.int .i64 v18)))] (pEq (.int .i64 v18)) true), some (Ent.mk [(0, (pSl 1 (cSl 1 (cK .i64)) a_0))] (pSl 1 (cSl 1 (cK .i64)) a_0) true), some (Ent.mk [(9, (pEq (.int .i64 v19)))] (pEq (.int .i64 v19)) true), some (Ent.mk [(45, (pSl 1 (cSl 1 (cK .i64)) a_0)), (46, (pEq (.int .i64 v19)))] (pPtr ((cSl 1 (cK .i64)) x27)) true), some (Ent.mk [(47, (pPtr ((cSl 1 (cK .i64)) x27)))] (pSl 1 (cK .i64) x27) true), some (Ent.mk [(5, (pEq (.int .i64 v6)))] (pEq (.int .i64 v6)) true), some (Ent.mk [(48, (pSl 1 (cK .i64) x27)), (49, (pEq (.int .i64 v6)))] (pPtr ((cK .i64) x28)) true), some (Ent.mk [(50, (pPtr ((cK .i64) x28)))] (pEq (.int .i64 x28)) true), some (Ent.mk [(0, (pSl 1 (cSl 1 (cK .i64)) a_0))] (pSl 1 (cSl 1 (cK .i64)) a_0) true), some (Ent.mk [(9, (pEq (.int .i64 v19)))] (pEq (.int .i64 v19)) true), some (Ent.mk [(52, (pSl 1 (cSl 1 (cK .i64)) a_0)), (53, (pEq (.int .i64 v19)))] (pPtr ((cSl 1 (cK .i64)) x29)) true), some (Ent.mk [(54, (pPtr ((cSl 1 (cK .i64)) x29)))] (pSl 1 (cK .i64) x29) true), some (Ent.mk [(7, (pEq (.int .i64 v13)))] (pEq (.int .i64 v13)) true), some (Ent.mk [(55, (pSl 1 (cK .i64) x29)), (56, (pEq (.int .i64 v13)))] (pPtr ((cK .i64) x30)) true), some (Ent.mk [(57, (pPtr ((cK .i64) x30)))] (pEq (.int .i64 x30)) true), some (Ent.mk [(51, (pEq (.int .i64 x28))), (58, (pEq (.int .i64 x30)))] (pEq (.int .i64 (w64 (x28 - x30)))) true), some (Ent.mk [(44, (pEq (.int .i64 v18))), (59, (pEq (.int .i64 (w64 (x28 - x30)))))] (pEq (.int .i64 x31)) true)]) (rd := [[8], [0], [9], [45, 46], [47], [5], [48, 49], [50], [0], [9], [52, 53], [54], [7], [55, 56], [57], [51, 58], [44, 59]]) rfl hmix (by kernel_rfl) fun hD => ?_
                    refine RD.fin (es := [Ent.mk [(8, (pEq (.int .i64 v18)))] (pEq (.int .i64 v18)) true, Ent.mk [(0, (pSl 1 (cSl 1 (cK .i64)) a_0))] (pSl 1 (cSl 1 (cK .i64)) a_0) true, Ent.mk [(9, (pEq (.int .i64 v19)))] (pEq (.int .i64 v19)) true, Ent.mk [(45, (pSl 1 (cSl 1 (cK .i64)) a_0)), (46, (pEq (.int .i64 v19)))] (pPtr ((cSl 1 (cK .i64)) x27)) true, Ent.mk [(47, (pPtr ((cSl 1 (cK .i64)) x27)))] (pSl 1 (cK .i64) x27) true, Ent.mk [(5, (pEq (.int .i64 v6)))] (pEq (.int .i64 v6)) true, Ent.mk [(48, (pSl 1 (cK .i64) x27)), (49, (pEq (.int .i64 v6)))] (pPtr ((cK .i64) x28)) true, Ent.mk [(50, (pPtr ((cK .i64) x28)))] (pEq (.int .i64 x28)) true, Ent.mk [(0, (pSl 1 (cSl 1 (cK .i64)) a_0))] (pSl 1 (cSl 1 (cK .i64)) a_0) true, Ent.mk [(9, (pEq (.int .i64 v19)))] (pEq (.int .i64 v19)) true, Ent.mk [(52, (pSl 1 (cSl 1 (cK .i64)) a_0)), (53, (pEq (.int .i64 v19)))] (pPtr ((cSl 1 (cK .i64)) x29)) true, Ent.mk [(54, (pPtr ((cSl 1 (cK .i64)) x29)))] (pSl 1 (cK .i64) x29) true, Ent.mk [(7, (pEq (.int .i64 v13)))] (pEq (.int .i64 v13)) true, Ent.mk [(55, (pSl 1 (cK .i64) x29)), (56, (pEq (.int .i64 v13)))] (pPtr ((cK .i64) x30)) true, Ent.mk [(57, (pPtr ((cK .i64) x30)))] (pEq (.int .i64 x30)) true, Ent.mk [(51, (pEq (.int .i64 x28))), (58, (pEq (.int .i64 x30)))] (pEq (.int .i64 (w64 (x28 - x30)))) true, Ent.mk [(44, (pEq (.int .i64 v18))), (59, (pEq (.int .i64 (w64 (x28 - x30)))))] (pEq (.int .i64 x31)) true]) (done := []) hD ⟨.inr ⟨(OpJ.w (J_move rfl (Opd.tmp rfl))), ⟨rfl, trivial⟩, rfl, rfl⟩, ⟨.inr ⟨(OpJ.w (J_move rfl (Opd.tmp rfl))), ⟨rfl, trivial⟩, rfl, rfl⟩, ⟨.inr ⟨(OpJ.w (J_move rfl (Opd.tmp rfl))), ⟨rfl, trivial⟩, rfl, rfl⟩, ⟨.inr ⟨(OpJ.w (J_idx rfl Try.underlying22 sz23 (Opd.tmp rfl) (Opd.tmp rfl) hx27)), ⟨rfl, rfl, trivial⟩, rfl, rfl⟩, ⟨.inr ⟨(OpJ.w (J_load rfl Try.isAgg23 (Opd.tmp rfl))), ⟨rfl, trivial⟩, rfl, rfl⟩, ⟨.inr ⟨(OpJ.w (J_move rfl (Opd.tmp rfl))), ⟨rfl, trivial⟩, rfl, rfl⟩, ⟨.inr ⟨(OpJ.w (J_idx rfl Try.underlying23 sz2 (Opd.tmp rfl) (Opd.tmp rfl) hx28)), ⟨rfl, rfl, trivial⟩, rfl, rfl⟩, ⟨.inr ⟨(OpJ.w (J_load rfl Try.isAgg2 (Opd.tmp rfl))), ⟨rfl, trivial⟩, rfl, rfl⟩, ⟨.inr ⟨(OpJ.w (J_move rfl (Opd.tmp rfl))), ⟨rfl, trivial⟩, rfl, rfl⟩, ⟨.inr ⟨(OpJ.w (J_move rfl (Opd.tmp rfl))), ⟨rfl, trivial⟩, rfl, rfl⟩, ⟨.inr ⟨(OpJ.w (J_idx rfl Try.underlying22 sz23 (Opd.tmp rfl) (Opd.tmp rfl) hx29)), ⟨rfl, rfl, trivial⟩, rfl, rfl⟩, ⟨.inr ⟨(OpJ.w (J_load rfl Try.isAgg23 (Opd.tmp rfl))), ⟨rfl, trivial⟩, rfl, rfl⟩, ⟨.inr ⟨(OpJ.w (J_move rfl (Opd.tmp rfl))), ⟨rfl, trivial⟩, rfl, rfl⟩, ⟨.inr ⟨(OpJ.w (J_idx rfl Try.underlying23 sz2 (Opd.tmp rfl) (Opd.tmp rfl) hx30)), ⟨rfl, rfl, trivial⟩, rfl, rfl⟩, ⟨.inr ⟨(OpJ.w (J_load rfl Try.isAgg2 (Opd.tmp rfl))), ⟨rfl, trivial⟩, rfl, rfl⟩, ⟨.inr ⟨(OpJ.w (J_bin rfl (Opd.tmp rfl) (Opd.tmp rfl) B_sub)), ⟨rfl, rfl, trivial⟩, rfl, rfl⟩, ⟨.inr ⟨(OpJ.w (J_call rfl Try.call82 (c_spec_l00Min hx31) (Opds.cons (Opd.tmp rfl) (Opds.cons (Opd.tmp rfl) Opds.nil)))), ⟨rfl, rfl, trivial⟩, rfl, rfl⟩, trivial⟩⟩⟩⟩⟩⟩⟩⟩⟩⟩⟩⟩⟩⟩⟩⟩⟩ ?_
                    refine RegL.pure (p := (pEq (.int .i64 x31))) rfl rfl rfl (J_assign rfl (Opd.tmp rfl)) ?_
                    refine RegL.nil ?_
                    replace h := Option.some.inj h; subst h
                    exact Ct.mid () rfl ⟨rfl, rfl, rfl, rfl, rfl, rfl, rfl, rfl, trivial⟩
                  · replace h := bif_f hc h
                    refine Tr.skip ?_
                    replace h := Option.some.inj h; subst h
                    exact Ct.mid () rfl ⟨rfl, rfl, rfl, rfl, rfl, rfl, rfl, rfl, trivial⟩
                · clear hx26
                  refine Ct.blk_normal ?_
                  refine Ct.then_tr ?_
                  refine Tr.weak (Γ' := [(0, (pSl 1 (cSl 1 (cK .i64)) a_0)), (3, (pEq (.int .i64 (x1.length : Int)))), (4, (pEq (.slice g8.1.1 g8.1.2.1 g8.1.2.2))), (5, (pEq (.int .i64 v6))), (6, (pEq (.slice g15.1 g15.2.1 g15.2.2))), (7, (pEq (.int .i64 v13))), (8, (pEq (.int .i64 x26))), (9, (pEq (.int .i64 v19)))]) ⟨rfl, rfl, rfl, rfl, rfl, rfl, rfl, rfl, trivial⟩ ?_
                  refine Tr.region ?_
                  refine RegL.pure (p := (pEq (.int .i64 v19))) rfl rfl rfl (J_move rfl (Opd.tmp rfl)) ?_
                  refine RegL.pure (p := (pEq (.int .i64 (w64 (v19 + (1 : Int)))))) rfl rfl rfl (J_bin rfl (Opd.tmp rfl) Opd.con B_add) ?_
                  refine RegL.pure (p := (pEq (.int .i64 (w64 (v19 + (1 : Int)))))) rfl rfl rfl (J_assign rfl (Opd.tmp rfl)) ?_
                  refine RegL.nil ?_
                  replace h := Option.some.inj h; subst h
                  exact Ct.again () rfl ⟨rfl, rfl, rfl, rfl, rfl, rfl, rfl, rfl, trivial⟩
              · replace h := bif_f hc h
                refine Tr.exit ?_
                refine Ct.then_exit ?_
                replace h := map_some h; obtain ⟨r1, h, rfl⟩ := h
                refine Ct.out_exit fun e => ?_
                subst e
                refine Ct.blk_exit ?_
                replace h := Option.some.inj h; subst h
                exact Ct.mid () rfl ⟨rfl, rfl, rfl, rfl, rfl, rfl, rfl, trivial⟩
          · clear hx16
            refine Ct.then_tr ?_
            refine Tr.weak (Γ' := [(0, (pSl 1 (cSl 1 (cK .i64)) a_0)), (3, (pEq (.int .i64 (x1.length : Int)))), (4, (pEq (.slice g8.1.1 g8.1.2.1 g8.1.2.2))), (5, (pEq (.int .i64 v6))), (6, (pEq (.slice g15.1 g15.2.1 g15.2.2))), (7, (pEq (.int .i64 v13))), (8, (pEq (.int .i64 x16)))]) ⟨rfl, rfl, rfl, rfl, rfl, rfl, rfl, trivial⟩ ?_
            refine Tr.region ?_
            refine RegL.pure (p := (pEq (.slice g15.1 g15.2.1 g15.2.2))) rfl rfl rfl (J_move rfl (Opd.tmp rfl)) ?_
            refine RegL.pure (p := (pEq (.int .i64 x16))) rfl rfl rfl (J_move rfl (Opd.tmp rfl)) ?_
            refine RegL.pure (p := (pSl 1 (cK .i64) ([x16] : (List Int)))) rfl rfl rfl (J_buildSlice (l := ([x16] : (List Int))) (qss := [(0, (cK .i64) x16)]) rfl Try.underlying23 el2 rfl (Parts.cons (Part.one (Opd.tmp rfl) OneC.int) Parts.nil) rfl rfl) ?_
            replace h := bind_some h; obtain ⟨x34, hx34, h⟩ := h
            refine RegL.step (γ := Option Addr × Nat) (p := fun g => pEq (.slice g.1 x34.length g.2)) (Ω' := fun g => [oSl 2 1 (cK .i64) g.1 x34.length g.2 x34, oSS 23 2 1 (cK .i64) g8.1.1 g8.1.2.1 g8.1.2.2 g8.2 v7]) rfl rfl rfl (M_appendI rfl Try.underlying23 el2 (Opd.tmp rfl) (Opd.tmp rfl) hx34) fun g35 => ?_
            refine RegL.pure (p := (pEq (.slice g35.1 x34.length g35.2))) rfl rfl rfl (J_assign rfl (Opd.tmp rfl)) ?_
            refine RegL.nil ?_
            refine Ct.blk_normal ?_
            refine Ct.then_tr ?_
            refine Tr.weak (Γ' := [(0, (pSl 1 (cSl 1 (cK .i64)) a_0)), (3, (pEq (.int .i64 (x1.length : Int)))), (4, (pEq (.slice g8.1.1 g8.1.2.1 g8.1.2.2))), (5, (pEq (.int .i64 v6))), (6, (pEq (.slice g35.1 x34.length g35.2))), (7, (pEq (.int .i64 v13)))]) ⟨rfl, rfl, rfl, rfl, rfl, rfl, trivial⟩ ?_
            refine Tr.region ?_
            refine RegL.pure (p := (pEq (.int .i64 v13))) rfl rfl rfl (J_move rfl (Opd.tmp rfl)) ?_
            refine RegL.pure (p := (pEq (.int .i64 (w64 (v13 + (1 : Int)))))) rfl rfl rfl (J_bin rfl (Opd.tmp rfl) Opd.con B_add) ?_
            refine RegL.pure (p := (pEq (.int .i64 (w64 (v13 + (1 : Int)))))) rfl rfl rfl (J_assign rfl (Opd.tmp rfl)) ?_
            refine RegL.nil ?_
            replace h := Option.some.inj h; subst h
            exact Ct.again (g35.1, x34.length, g35.2) rfl ⟨rfl, rfl, rfl, rfl, rfl, rfl, trivial⟩
        · replace h := bif_f hc h
          refine Tr.exit ?_
          refine Ct.then_exit ?_
          replace h := map_some h; obtain ⟨r1, h, rfl⟩ := h
          refine Ct.out_exit fun e => ?_
          subst e
          refine Ct.blk_exit ?_
          replace h := Option.some.inj h; subst h
          exact Ct.mid (g15.1, g15.2.1, g15.2.2) rfl ⟨rfl, rfl, rfl, rfl, rfl, trivial⟩
      · clear hx11
        refine Ct.then_tr ?_
        refine Tr.weak (Γ' := [(0, (pSl 1 (cSl 1 (cK .i64)) a_0)), (3, (pEq (.int .i64 (x1.length : Int)))), (4, (pEq (.slice g8.1.1 g8.1.2.1 g8.1.2.2))), (5, (pEq (.int .i64 v6))), (6, (pEq (.slice g36.1 g36.2.1 g36.2.2)))]) ⟨rfl, rfl, rfl, rfl, rfl, trivial⟩ ?_
        refine Tr.region ?_
        refine RegL.pure (p := (pEq (.slice g8.1.1 g8.1.2.1 g8.1.2.2))) rfl rfl rfl (J_move rfl (Opd.tmp rfl)) ?_
        refine RegL.pure (p := (pEq (.slice g36.1 g36.2.1 g36.2.2))) rfl rfl rfl (J_move rfl (Opd.tmp rfl)) ?_
        refine RegL.step (γ := Option Addr) (p := fun a => pEq (.slice a 1 1)) (Ω' := fun a => [oSl 23 1 cHdr a 1 1 [(g36.1, g36.2.1, g36.2.2)], oSl 2 1 (cK .i64) g36.1 g36.2.1 g36.2.2 x11, oSS 23 2 1 (cK .i64) g8.1.1 g8.1.2.1 g8.1.2.2 g8.2 v7]) rfl rfl rfl (M_buildSlice (qss := [(0, cHdr (g36.1, g36.2.1, g36.2.2))]) rfl Try.underlying22 elh23 rfl (Parts.cons (Part.one (Opd.tmp rfl) OneC.slice) Parts.nil) rfl rfl) fun o37 => ?_
        refine RegL.re (Ω2 := [oSS 23 2 1 (cK .i64) o37 1 1 [(g36.1, g36.2.1, g36.2.2)] [x11], oSS 23 2 1 (cK .i64) g8.1.1 g8.1.2.1 g8.1.2.2 g8.2 v7]) (fun h => nest_one h) ?_
        replace h := bind_some h; obtain ⟨x39, hx39, h⟩ := h
        refine RegL.re (Ω2 := [oSS 23 2 1 (cK .i64) g8.1.1 g8.1.2.1 g8.1.2.2 g8.2 v7, oSS 23 2 1 (cK .i64) o37 1 1 [(g36.1, g36.2.1, g36.2.2)] [x11]]) (fun h => SatO.pick 1 h) ?_
        refine RegL.step (γ := (Option Addr × Nat) × List G3) (p := fun g => pEq (.slice g.1.1 x39.length g.1.2)) (Ω' := fun g => [oSS 23 2 1 (cK .i64) g.1.1 x39.length g.1.2 g.2 x39]) rfl rfl rfl (M_nestAppend rfl Try.underlying22 elh23 (Opd.tmp rfl) (Opd.tmp rfl) hx39) fun g40 => ?_
        refine RegL.pure (p := (pEq (.slice g40.1.1 x39.length g40.1.2))) rfl rfl rfl (J_assign rfl (Opd.tmp rfl)) ?_
        refine RegL.nil ?_
        refine Ct.blk_normal ?_
        refine Ct.then_tr ?_
        refine Tr.weak (Γ' := [(0, (pSl 1 (cSl 1 (cK .i64)) a_0)), (3, (pEq (.int .i64 (x1.length : Int)))), (4, (pEq (.slice g40.1.1 x39.length g40.1.2))), (5, (pEq (.int .i64 v6)))]) ⟨rfl, rfl, rfl, rfl, trivial⟩ ?_
        refine Tr.region ?_
        refine RegL.pure (p := (pEq (.int .i64 v6))) rfl rfl rfl (J_move rfl (Opd.tmp rfl)) ?_
        refine RegL.pure (p := (pEq (.int .i64 (w64 (v6 + (1 : Int)))))) rfl rfl rfl (J_bin rfl (Opd.tmp rfl) Opd.con B_add) ?_
        refine RegL.pure (p := (pEq (.int .i64 (w64 (v6 + (1 : Int)))))) rfl rfl rfl (J_assign rfl (Opd.tmp rfl)) ?_
        refine RegL.nil ?_
        replace h := Option.some.inj h; subst h
        exact Ct.again ((g40.1.1, x39.length, g40.1.2), g40.2) rfl ⟨rfl, rfl, rfl, rfl, trivial⟩
    · replace h := bif_f hc h
      refine Tr.exit ?_
      refine Ct.then_exit ?_
      replace h := map_some h; obtain ⟨r1, h, rfl⟩ := h
      refine Ct.out_exit fun e => ?_
      subst e
      refine Ct.blk_exit ?_
      replace h := Option.some.inj h; subst h
      exact Ct.mid ((g8.1.1, g8.1.2.1, g8.1.2.2), g8.2) rfl ⟨rfl, trivial⟩
  · clear hx4
    refine Ct.then_tr ?_
    refine Tr.weak (Γ' := [(4, (pEq (.slice g41.1.1 g41.1.2.1 g41.1.2.2)))]) ⟨rfl, trivial⟩ ?_
    refine Tr.seq ?_
    refine Tr.region ?_
    refine RegL.pure (p := (pEq (.slice g41.1.1 g41.1.2.1 g41.1.2.2))) rfl rfl rfl (J_move rfl (Opd.tmp rfl)) ?_
    refine RegL.pure (p := (pEq (.slice g41.1.1 g41.1.2.1 g41.1.2.2))) rfl rfl rfl (J_assign rfl (Opd.tmp rfl)) ?_
    refine RegL.nil ?_
    refine Ct.then_tr ?_
    refine Tr.weak (Γ' := [(2, (pEq (.slice g41.1.1 g41.1.2.1 g41.1.2.2)))]) ⟨rfl, trivial⟩ ?_
    refine Tr.ret ?_
    replace h := Option.some.inj h; subst h
    exact Ct.retH1 (Ωx := []) ((g41.1.1, g41.1.2.1, g41.1.2.2), g41.2) rfl (RvOk.tmp rfl) rfl

theorem c_spec_l16Pairs {a_0 : (List (List Int))} {r : (List (List Int))} (h : m_spec_l16Pairs a_0 = some r) : CallJ Try.prog 45 [(pSl 1 (cSl 1 (cK .i64)) a_0)] (pSl 1 (cSl 1 (cK .i64)) r) :=
  CallH.frozen (o_spec_l16Pairs h) (fun g => (Conv.nest 0 (fun _ => rfl) rfl))

theorem c_spec_l08Steps {table_0 : (List Int)} {need_1 : Int} {r : Int} (h : m_spec_l08Steps table_0 need_1 = some r) : CallJ Try.prog 81 [(pSl 1 (cK .i64) table_0), (pEq (.int .i64 need_1))] (pEq (.int .i64 r)) := by
  unfold m_spec_l08Steps at h
  refine CallJ.enterH Try.func81 rfl Try.ntmps81 rfl fun W I0 H => ?_
  refine Tr.weak (Γ' := [(0, (pSl 1 (cK .i64) table_0)), (1, (pEq (.int .i64 need_1)))]) ⟨rfl, rfl, trivial⟩ ?_
  refine Tr.seq ?_
  refine Tr.region ?_
  refine RegL.pure (p := (pEq (.int .i64 (0 : Int)))) rfl rfl rfl (J_assign rfl Opd.con) ?_
  refine RegL.nil ?_
  refine Ct.then_tr ?_
  refine Tr.weak (Γ' := [(0, (pSl 1 (cK .i64) table_0)), (1, (pEq (.int .i64 need_1)))]) ⟨rfl, rfl, trivial⟩ ?_
  refine Tr.seq ?_
  refine Tr.region ?_
  refine RegL.pure (p := (pEq (.int .i64 (0 : Int)))) rfl rfl rfl (J_assign rfl Opd.con) ?_
  refine RegL.nil ?_
  refine Ct.then_tr ?_
  refine Tr.weak (Γ' := [(0, (pSl 1 (cK .i64) table_0)), (1, (pEq (.int .i64 need_1))), (5, (pEq (.int .i64 (0 : Int))))]) ⟨rfl, rfl, rfl, trivial⟩ ?_
  refine Tr.seq ?_
  replace h := bind_some h; obtain ⟨x1, hx1, h⟩ := h
  refine Tr.cut (γ := Unit) (Γm := fun g => [(5, (pEq (.int .i64 x1)))]) (Ωm := fun g => []) ?_ (fun g9 => ?_)
  · clear h
    have h := hx1
    clear hx1
    refine Tr.block ?_
    refine Tr.weak (Γ' := [(0, (pSl 1 (cK .i64) table_0)), (1, (pEq (.int .i64 need_1))), (5, (pEq (.int .i64 (0 : Int))))]) ⟨rfl, rfl, rfl, trivial⟩ ?_
    refine Tr.loop (γ := Unit) (σ := Int) (Γσ := fun s g => [(0, (pSl 1 (cK .i64) table_0)), (1, (pEq (.int .i64 need_1))), (5, (pEq (.int .i64 s)))]) (Ωσ := fun s g => []) (g := ()) h ?_
    clear h
    rintro v3 g4 t h
    replace h : m_spec_l08Steps_B2 table_0 need_1 v3 = some t := h
    unfold m_spec_l08Steps_B2 at h
    refine Tr.weakO (Γ' := [(0, (pSl 1 (cK .i64) table_0)), (1, (pEq (.int .i64 need_1))), (5, (pEq (.int .i64 v3)))]) (Ω' := []) rfl ⟨rfl, rfl, rfl, trivial⟩ ?_
    refine Tr.seq ?_
    refine Tr.seq ?_
    replace h := bind_some h; obtain ⟨x5, hx5, h⟩ := h
    refine Tr.cut (γ := Unit) (Γm := fun g => [(0, (pSl 1 (cK .i64) table_0)), (1, (pEq (.int .i64 need_1))), (5, (pEq (.int .i64 v3))), (17, (pEq (.bool x5)))]) (Ωm := fun g => []) ?_ (fun g8 => ?_)
    · clear h
      have h := hx5
      clear hx5
      refine Tr.region ?_
      refine RegL.pure (p := (pEq (.int .i64 v3))) rfl rfl rfl (J_move rfl (Opd.tmp rfl)) ?_
      refine RegL.pure (p := (pSl 1 (cK .i64) table_0)) rfl rfl rfl (J_move rfl (Opd.tmp rfl)) ?_
      refine RegL.pure (p := (pEq (.int .i64 (table_0.length : Int)))) rfl rfl rfl (J_len rfl Try.underlying23 (Opd.tmp rfl) rfl) ?_
      refine RegL.pure (p := (pEq (.bool (decide (v3 < (table_0.length : Int)))))) rfl rfl rfl (J_bin rfl (Opd.tmp rfl) (Opd.tmp rfl) B_lss) ?_
      refine RegL.pure (p := (pEq (.bool (decide (v3 < (table_0.length : Int)))))) rfl rfl rfl (J_move rfl (Opd.tmp rfl)) ?_
      rcases Bool.eq_false_or_eq_true (decide (v3 < (table_0.length : Int))) with hc6 | hc6
      · replace h := bif_t hc6 h
        refine RegL.pureG (p := (pSl 1 (cK .i64) table_0)) rfl rfl rfl hc6 rfl rfl (J_move rfl (Opd.tmp rfl)) ?_
        refine RegL.pureG (p := (pEq (.int .i64 v3))) rfl rfl rfl hc6 rfl rfl (J_move rfl (Opd.tmp rfl)) ?_
        replace h := bind_some h; obtain ⟨x7, hx7, h⟩ := h
        refine RegL.pureG (p := (pPtr ((cK .i64) x7))) rfl rfl rfl hc6 rfl rfl (J_idx rfl Try.underlying23 sz2 (Opd.tmp rfl) (Opd.tmp rfl) hx7) ?_
        refine RegL.pureG (p := (pEq (.int .i64 x7))) rfl rfl rfl hc6 rfl rfl (J_load rfl Try.isAgg2 (Opd.tmp rfl)) ?_
        refine RegL.pureG (p := (pEq (.int .i64 need_1))) rfl rfl rfl hc6 rfl rfl (J_move rfl (Opd.tmp rfl)) ?_
        refine RegL.pureG (p := (pEq (.bool (decide (x7 < need_1))))) rfl rfl rfl hc6 rfl rfl (J_bin rfl (Opd.tmp rfl) (Opd.tmp rfl) B_lss) ?_
        refine RegL.pure (p := (pEq (.bool (decide (x7 < need_1))))) rfl rfl rfl (J_pick rfl (Opd.tmp rfl) (fun _ => (Opd.tmp rfl)) (fun hf => absurd (hc6.symm.trans hf) (by decide))) ?_
        refine RegL.nil ?_
        replace h := Option.some.inj h; subst h
        exact Ct.mid () rfl ⟨rfl, rfl, rfl, rfl, trivial⟩
      · replace h := bif_f hc6 h
        refine RegL.skipG rfl rfl rfl hc6 rfl rfl ?_
        refine RegL.skipG rfl rfl rfl hc6 rfl rfl ?_
        refine RegL.skipG rfl rfl rfl hc6 rfl rfl ?_
        refine RegL.skipG rfl rfl rfl hc6 rfl rfl ?_
        refine RegL.skipG rfl rfl rfl hc6 rfl rfl ?_
        refine RegL.skipG rfl rfl rfl hc6 rfl rfl ?_
        refine RegL.pure (p := (pEq (.bool false))) rfl rfl rfl (J_pick rfl (Opd.tmp rfl) (fun hf => absurd (hc6.symm.trans hf) (by decide)) (fun _ => Opd.con)) ?_
        refine RegL.nil ?_
        replace h := Option.some.inj h; subst h
        exact Ct.mid () rfl ⟨rfl, rfl, rfl, rfl, trivial⟩
    · clear hx5
      refine Ct.then_tr ?_
      refine Tr.weak (Γ' := [(0, (pSl 1 (cK .i64) table_0)), (1, (pEq (.int .i64 need_1))), (5, (pEq (.int .i64 v3))), (17, (pEq (.bool x5)))]) ⟨rfl, rfl, rfl, rfl, trivial⟩ ?_
      refine Tr.cond (Opd.tmp rfl) (fun hc => ?_) (fun hc => ?_)
      · replace h := bif_t hc h
        refine Tr.skip ?_
        refine Ct.then_tr ?_
        refine Tr.weak (Γ' := [(0, (pSl 1 (cK .i64) table_0)), (1, (pEq (.int .i64 need_1))), (5, (pEq (.int .i64 v3)))]) ⟨rfl, rfl, rfl, trivial⟩ ?_
        refine Tr.block ?_
        refine Tr.region ?_
        refine RegL.pure (p := (pEq (.int .i64 v3))) rfl rfl rfl (J_move rfl (Opd.tmp rfl)) ?_
        refine RegL.pure (p := (pEq (.int .i64 (w64 (v3 + (1 : Int)))))) rfl rfl rfl (J_bin rfl (Opd.tmp rfl) Opd.con B_add) ?_
        refine RegL.pure (p := (pEq (.int .i64 (w64 (v3 + (1 : Int)))))) rfl rfl rfl (J_assign rfl (Opd.tmp rfl)) ?_
        refine RegL.nil ?_
        refine Ct.blk_normal ?_
        replace h := Option.some.inj h; subst h
        exact Ct.again () rfl ⟨rfl, rfl, rfl, trivial⟩
      · replace h := bif_f hc h
        refine Tr.exit ?_
        refine Ct.then_exit ?_
        replace h := map_some h; obtain ⟨r1, h, rfl⟩ := h
        refine Ct.out_exit fun e => ?_
        subst e
        refine Ct.blk_exit ?_
        replace h := Option.some.inj h; subst h
        exact Ct.mid () rfl ⟨rfl, trivial⟩
  · clear hx1
    refine Ct.then_tr ?_
    refine Tr.weak (Γ' := [(5, (pEq (.int .i64 x1)))]) ⟨rfl, trivial⟩ ?_
    refine Tr.seq ?_
    refine Tr.region ?_
    refine RegL.pure (p := (pEq (.int .i64 x1))) rfl rfl rfl (J_move rfl (Opd.tmp rfl)) ?_
    refine RegL.pure (p := (pEq (.int .i64 x1))) rfl rfl rfl (J_assign rfl (Opd.tmp rfl)) ?_
    refine RegL.nil ?_
    refine Ct.then_tr ?_
    refine Tr.weak (Γ' := [(4, (pEq (.int .i64 x1)))]) ⟨rfl, trivial⟩ ?_
    refine Tr.ret ?_
    replace h := Option.some.inj h; subst h
    exact Ct.retH1 (Ωx := []) () rfl (RvOk.tmp rfl) rfl

theorem o_spec_l16Need {ratios_0 : (List (List Int))} {target_1 : Int} {table_2 : (List Int)}  {r : (List (List Int))} (h : m_spec_l16Need ratios_0 target_1 table_2 = some r) : CallH Try.prog 36 [(pSl 1 (cSl 1 (cK .i64)) ratios_0), (pEq (.int .i64 target_1)), (pSl 1 (cK .i64) table_2)] [] (fun g : (G3 × List G3) => (pEq (.slice g.1.1 g.1.2.1 g.1.2.2))) (fun g : (G3 × List G3) => [oSS 23 2 1 (cK .i64) g.1.1 g.1.2.1 g.1.2.2 g.2 r]) := by
  unfold m_spec_l16Need at h
  refine CallH.enter Try.func36 rfl Try.ntmps36 rfl fun W I0 H => ?_
  refine Tr.weak (Γ' := [(0, (pSl 1 (cSl 1 (cK .i64)) ratios_0)), (1, (pEq (.int .i64 target_1))), (2, (pSl 1 (cK .i64) table_2))]) ⟨rfl, rfl, rfl, trivial⟩ ?_
  refine Tr.seq ?_
  refine Tr.region ?_
  refine RegL.pure (p := (pEq (.slice none 0 0))) rfl rfl rfl (J_assign rfl Opd.con) ?_
  refine RegL.nil ?_
  refine Ct.then_tr ?_
  refine Tr.weak (Γ' := [(0, (pSl 1 (cSl 1 (cK .i64)) ratios_0)), (1, (pEq (.int .i64 target_1))), (2, (pSl 1 (cK .i64) table_2))]) ⟨rfl, rfl, rfl, trivial⟩ ?_
  refine Tr.seq ?_
  refine Tr.region ?_
  refine RegL.step (γ := Option Addr) (p := fun a => pEq (.slice a 0 0)) (Ω' := fun a => [oSl 23 1 cHdr a 0 0 []]) rfl rfl rfl (M_buildSlice (qss := []) rfl Try.underlying22 elh23 rfl Parts.nil rfl rfl) fun o1 => ?_
  refine RegL.re (Ω2 := [oSS 23 2 1 (cK .i64) o1 0 0 [] ([] : (List (List Int)))]) (fun h => nest_zero h) ?_
  refine RegL.pure (p := (pEq (.slice o1 0 0))) rfl rfl rfl (J_assign rfl (Opd.tmp rfl)) ?_
  refine RegL.nil ?_
  refine Ct.then_tr ?_
  refine Tr.weak (Γ' := [(0, (pSl 1 (cSl 1 (cK .i64)) ratios_0)), (1, (pEq (.int .i64 target_1))), (2, (pSl 1 (cK .i64) table_2)), (7, (pEq (.slice o1 0 0)))]) ⟨rfl, rfl, rfl, rfl, trivial⟩ ?_
  refine Tr.seq ?_
  refine Tr.seq ?_
  refine Tr.region ?_
  refine RegL.pure (p := (pEq (.int .i64 (0 : Int)))) rfl rfl rfl (J_assign rfl Opd.con) ?_
  refine RegL.nil ?_
  refine Ct.then_tr ?_
  refine Tr.weak (Γ' := [(0, (pSl 1 (cSl 1 (cK .i64)) ratios_0)), (1, (pEq (.int .i64 target_1))), (2, (pSl 1 (cK .i64) table_2)), (7, (pEq (.slice o1 0 0))), (8, (pEq (.int .i64 (0 : Int))))]) ⟨rfl, rfl, rfl, rfl, rfl, trivial⟩ ?_
  replace h := bind_some h; obtain ⟨x3, hx3, h⟩ := h
  refine Tr.cut (γ := (G3 × List G3)) (Γm := fun g => [(7, (pEq (.slice g.1.1 g.1.2.1 g.1.2.2)))]) (Ωm := fun g => [oSS 23 2 1 (cK .i64) g.1.1 g.1.2.1 g.1.2.2 g.2 x3]) ?_ (fun g30 => ?_)
  · clear h
    have h := hx3
    clear hx3
    refine Tr.block ?_
    refine Tr.weak (Γ' := [(0, (pSl 1 (cSl 1 (cK .i64)) ratios_0)), (1, (pEq (.int .i64 target_1))), (2, (pSl 1 (cK .i64) table_2)), (7, (pEq (.slice o1 0 0))), (8, (pEq (.int .i64 (0 : Int))))]) ⟨rfl, rfl, rfl, rfl, rfl, trivial⟩ ?_
    refine Tr.loop (γ := (G3 × List G3)) (σ := (Int × (List (List Int)))) (Γσ := fun s g => [(0, (pSl 1 (cSl 1 (cK .i64)) ratios_0)), (1, (pEq (.int .i64 target_1))), (2, (pSl 1 (cK .i64) table_2)), (7, (pEq (.slice g.1.1 g.1.2.1 g.1.2.2))), (8, (pEq (.int .i64 s.1)))]) (Ωσ := fun s g => [oSS 23 2 1 (cK .i64) g.1.1 g.1.2.1 g.1.2.2 g.2 s.2]) (g := ((o1, 0, 0), [])) h ?_
    clear h
    rintro ⟨v5, v6⟩ g7 t h
    replace h : m_spec_l16Need_B4 ratios_0 target_1 table_2 v5 v6 = some t := h
    unfold m_spec_l16Need_B4 at h
    refine Tr.weakO (Γ' := [(0, (pSl 1 (cSl 1 (cK .i64)) ratios_0)), (1, (pEq (.int .i64 target_1))), (2, (pSl 1 (cK .i64) table_2)), (7, (pEq (.slice g7.1.1 g7.1.2.1 g7.1.2.2))), (8, (pEq (.int .i64 v5)))]) (Ω' := [oSS 23 2 1 (cK .i64) g7.1.1 g7.1.2.1 g7.1.2.2 g7.2 v6]) rfl ⟨rfl, rfl, rfl, rfl, rfl, trivial⟩ ?_
    refine Tr.seq ?_
    refine Tr.seq ?_
    refine Tr.region ?_
    refine RegL.pure (p := (pEq (.int .i64 v5))) rfl rfl rfl (J_move rfl (Opd.tmp rfl)) ?_
    refine RegL.pure (p := (pSl 1 (cSl 1 (cK .i64)) ratios_0)) rfl rfl rfl (J_move rfl (Opd.tmp rfl)) ?_
    refine RegL.pure (p := (pEq (.int .i64 (ratios_0.length : Int)))) rfl rfl rfl (J_len rfl Try.underlying22 (Opd.tmp rfl) rfl) ?_
    refine RegL.pure (p := (pEq (.bool (decide (v5 < (ratios_0.length : Int)))))) rfl rfl rfl (J_bin rfl (Opd.tmp rfl) (Opd.tmp rfl) B_lss) ?_
    refine RegL.nil ?_
    refine Ct.then_tr ?_
    refine Tr.weak (Γ' := [(0, (pSl 1 (cSl 1 (cK .i64)) ratios_0)), (1, (pEq (.int .i64 target_1))), (2, (pSl 1 (cK .i64) table_2)), (7, (pEq (.slice g7.1.1 g7.1.2.1 g7.1.2.2))), (8, (pEq (.int .i64 v5))), (16, (pEq (.bool (decide (v5 < (ratios_0.length : Int))))))]) ⟨rfl, rfl, rfl, rfl, rfl, rfl, trivial⟩ ?_
    refine Tr.cond (Opd.tmp rfl) (fun hc => ?_) (fun hc => ?_)
    · replace h := bif_t hc h
      refine Tr.skip ?_
      refine Ct.then_tr ?_
      refine Tr.weak (Γ' := [(0, (pSl 1 (cSl 1 (cK .i64)) ratios_0)), (1, (pEq (.int .i64 target_1))), (2, (pSl 1 (cK .i64) table_2)), (7, (pEq (.slice g7.1.1 g7.1.2.1 g7.1.2.2))), (8, (pEq (.int .i64 v5)))]) ⟨rfl, rfl, rfl, rfl, rfl, trivial⟩ ?_
      refine Tr.seq ?_
      refine Tr.block ?_
      refine Tr.seq ?_
      refine Tr.region ?_
      refine RegL.step (γ := Option Addr) (p := fun a => pEq (.slice a 0 0)) (Ω' := fun a => [oSl 2 1 (cK .i64) a 0 0 ([] : (List Int)), oSS 23 2 1 (cK .i64) g7.1.1 g7.1.2.1 g7.1.2.2 g7.2 v6]) rfl rfl rfl (M_buildSlice (qss := []) rfl Try.underlying23 el2 rfl Parts.nil rfl rfl) fun o9 => ?_
      refine RegL.pure (p := (pEq (.slice o9 0 0))) rfl rfl rfl (J_assign rfl (Opd.tmp rfl)) ?_
      refine RegL.nil ?_
      refine Ct.then_tr ?_
      refine Tr.weak (Γ' := [(0, (pSl 1 (cSl 1 (cK .i64)) ratios_0)), (1, (pEq (.int .i64 target_1))), (2, (pSl 1 (cK .i64) table_2)), (7, (pEq (.slice g7.1.1 g7.1.2.1 g7.1.2.2))), (8, (pEq (.int .i64 v5))), (9, (pEq (.slice o9 0 0)))]) ⟨rfl, rfl, rfl, rfl, rfl, rfl, trivial⟩ ?_
      refine Tr.seq ?_
      refine Tr.seq ?_
      refine Tr.region ?_
      refine RegL.pure (p := (pEq (.int .i64 (0 : Int)))) rfl rfl rfl (J_assign rfl Opd.con) ?_
      refine RegL.nil ?_
      refine Ct.then_tr ?_
      refine Tr.weak (Γ' := [(0, (pSl 1 (cSl 1 (cK .i64)) ratios_0)), (1, (pEq (.int .i64 target_1))), (2, (pSl 1 (cK .i64) table_2)), (7, (pEq (.slice g7.1.1 g7.1.2.1 g7.1.2.2))), (8, (pEq (.int .i64 v5))), (9, (pEq (.slice o9 0 0))), (10, (pEq (.int .i64 (0 : Int))))]) ⟨rfl, rfl, rfl, rfl, rfl, rfl, rfl, trivial⟩ ?_
      replace h := bind_some h; obtain ⟨x10, hx10, h⟩ := h
      refine Tr.cut (γ := G3) (Γm := fun g => [(0, (pSl 1 (cSl 1 (cK .i64)) ratios_0)), (1, (pEq (.int .i64 target_1))), (2, (pSl 1 (cK .i64) table_2)), (7, (pEq (.slice g7.1.1 g7.1.2.1 g7.1.2.2))), (8, (pEq (.int .i64 v5))), (9, (pEq (.slice g.1 g.2.1 g.2.2)))]) (Ωm := fun g => [oSl 2 1 (cK .i64) g.1 g.2.1 g.2.2 x10, oSS 23 2 1 (cK .i64) g7.1.1 g7.1.2.1 g7.1.2.2 g7.2 v6]) ?_ (fun g25 => ?_)
      · clear h
        have h := hx10
        clear hx10
        refine Tr.block ?_
        refine Tr.weak (Γ' := [(0, (pSl 1 (cSl 1 (cK .i64)) ratios_0)), (1, (pEq (.int .i64 target_1))), (2, (pSl 1 (cK .i64) table_2)), (7, (pEq (.slice g7.1.1 g7.1.2.1 g7.1.2.2))), (8, (pEq (.int .i64 v5))), (9, (pEq (.slice o9 0 0))), (10, (pEq (.int .i64 (0 : Int))))]) ⟨rfl, rfl, rfl, rfl, rfl, rfl, rfl, trivial⟩ ?_
        refine Tr.loop (γ := G3) (σ := (Int × (List Int))) (Γσ := fun s g => [(0, (pSl 1 (cSl 1 (cK .i64)) ratios_0)), (1, (pEq (.int .i64 target_1))), (2, (pSl 1 (cK .i64) table_2)), (7, (pEq (.slice g7.1.1 g7.1.2.1 g7.1.2.2))), (8, (pEq (.int .i64 v5))), (9, (pEq (.slice g.1 g.2.1 g.2.2))), (10, (pEq (.int .i64 s.1)))]) (Ωσ := fun s g => [oSl 2 1 (cK .i64) g.1 g.2.1 g.2.2 s.2, oSS 23 2 1 (cK .i64) g7.1.1 g7.1.2.1 g7.1.2.2 g7.2 v6]) (g := (o9, 0, 0)) h ?_
        clear h
        rintro ⟨v12, v13⟩ g14 t h
        replace h : m_spec_l16Need_B11 ratios_0 target_1 table_2 v5 v12 v13 = some t := h
        unfold m_spec_l16Need_B11 at h
        refine Tr.weakO (Γ' := [(0, (pSl 1 (cSl 1 (cK .i64)) ratios_0)), (1, (pEq (.int .i64 target_1))), (2, (pSl 1 (cK .i64) table_2)), (7, (pEq (.slice g7.1.1 g7.1.2.1 g7.1.2.2))), (8, (pEq (.int .i64 v5))), (9, (pEq (.slice g14.1 g14.2.1 g14.2.2))), (10, (pEq (.int .i64 v12)))]) (Ω' := [oSl 2 1 (cK .i64) g14.1 g14.2.1 g14.2.2 v13, oSS 23 2 1 (cK .i64) g7.1.1 g7.1.2.1 g7.1.2.2 g7.2 v6]) rfl ⟨rfl, rfl, rfl, rfl, rfl, rfl, rfl, trivial⟩ ?_
        refine Tr.seq ?_
        refine Tr.seq ?_
        refine Tr.region ?_
        refine RegL.pure (p := (pEq (.int .i64 v12))) rfl rfl rfl (J_move rfl (Opd.tmp rfl)) ?_
        refine RegL.pure (p := (pSl 1 (cSl 1 (cK .i64)) ratios_0)) rfl rfl rfl (J_move rfl (Opd.tmp rfl)) ?_
        refine RegL.pure (p := (pEq (.int .i64 (ratios_0.length : Int)))) rfl rfl rfl (J_len rfl Try.underlying22 (Opd.tmp rfl) rfl) ?_
        refine RegL.pure (p := (pEq (.bool (decide (v12 < (ratios_0.length : Int)))))) rfl rfl rfl (J_bin rfl (Opd.tmp rfl) (Opd.tmp rfl) B_lss) ?_
        refine RegL.nil ?_
        refine Ct.then_tr ?_
        refine Tr.weak (Γ' := [(0, (pSl 1 (cSl 1 (cK .i64)) ratios_0)), (1, (pEq (.int .i64 target_1))), (2, (pSl 1 (cK .i64) table_2)), (7, (pEq (.slice g7.1.1 g7.1.2.1 g7.1.2.2))), (8, (pEq (.int .i64 v5))), (9, (pEq (.slice g14.1 g14.2.1 g14.2.2))), (10, (pEq (.int .i64 v12))), (23, (pEq (.bool (decide (v12 < (ratios_0.length : Int))))))]) ⟨rfl, rfl, rfl, rfl, rfl, rfl, rfl, rfl, trivial⟩ ?_
        refine Tr.cond (Opd.tmp rfl) (fun hc => ?_) (fun hc => ?_)
        · replace h := bif_t hc h
          refine Tr.skip ?_
          refine Ct.then_tr ?_
          refine Tr.weak (Γ' := [(0, (pSl 1 (cSl 1 (cK .i64)) ratios_0)), (1, (pEq (.int .i64 target_1))), (2, (pSl 1 (cK .i64) table_2)), (7, (pEq (.slice g7.1.1 g7.1.2.1 g7.1.2.2))), (8, (pEq (.int .i64 v5))), (9, (pEq (.slice g14.1 g14.2.1 g14.2.2))), (10, (pEq (.int .i64 v12)))]) ⟨rfl, rfl, rfl, rfl, rfl, rfl, rfl, trivial⟩ ?_
          refine Tr.seq ?_
          refine Tr.block ?_
          refine Tr.seq ?_
          refine Tr.region ?_
          refine RegL.pure (p := (pEq (.int .i64 (0 : Int)))) rfl rfl rfl (J_assign rfl Opd.con) ?_
          refine RegL.nil ?_
          refine Ct.then_tr ?_
          refine Tr.weak (Γ' := [(0, (pSl 1 (cSl 1 (cK .i64)) ratios_0)), (1, (pEq (.int .i64 target_1))), (2, (pSl 1 (cK .i64) table_2)), (7, (pEq (.slice g7.1.1 g7.1.2.1 g7.1.2.2))), (8, (pEq (.int .i64 v5))), (9, (pEq (.slice g14.1 g14.2.1 g14.2.2))), (10, (pEq (.int .i64 v12))), (11, (pEq (.int .i64 (0 : Int))))]) ⟨rfl, rfl, rfl, rfl, rfl, rfl, rfl, rfl, trivial⟩ ?_
          refine Tr.seq ?_
          refine Tr.seq ?_
          refine Tr.region ?_
          refine RegL.pure (p := (pEq (.int .i64 v5))) rfl rfl rfl (J_move rfl (Opd.tmp rfl)) ?_
          refine RegL.pure (p := (pEq (.int .i64 v12))) rfl rfl rfl (J_move rfl (Opd.tmp rfl)) ?_
          refine RegL.pure (p := (pEq (.bool (v5 != v12)))) rfl rfl rfl (J_bin rfl (Opd.tmp rfl) (Opd.tmp rfl) B_neq) ?_
          refine RegL.nil ?_
          refine Ct.then_tr ?_
          refine Tr.weak (Γ' := [(0, (pSl 1 (cSl 1 (cK .i64)) ratios_0)), (1, (pEq (.int .i64 target_1))), (2, (pSl 1 (cK .i64) table_2)), (7, (pEq (.slice g7.1.1 g7.1.2.1 g7.1.2.2))), (8, (pEq (.int .i64 v5))), (9, (pEq (.slice g14.1 g14.2.1 g14.2.2))), (10, (pEq (.int .i64 v12))), (11, (pEq (.int .i64 (0 : Int)))), (28, (pEq (.bool (v5 != v12))))]) ⟨rfl, rfl, rfl, rfl, rfl, rfl, rfl, rfl, rfl, trivial⟩ ?_
          replace h := bind_some h; obtain ⟨x15, hx15, h⟩ := h
          refine Tr.cut (γ := Unit) (Γm := fun g => [(0, (pSl 1 (cSl 1 (cK .i64)) ratios_0)), (1, (pEq (.int .i64 target_1))), (2, (pSl 1 (cK .i64) table_2)), (7, (pEq (.slice g7.1.1 g7.1.2.1 g7.1.2.2))), (8, (pEq (.int .i64 v5))), (9, (pEq (.slice g14.1 g14.2.1 g14.2.2))), (10, (pEq (.int .i64 v12))), (11, (pEq (.int .i64 x15)))]) (Ωm := fun g => [oSl 2 1 (cK .i64) g14.1 g14.2.1 g14.2.2 v13, oSS 23 2 1 (cK .i64) g7.1.1 g7.1.2.1 g7.1.2.2 g7.2 v6]) ?_ (fun g22 => ?_)
          · clear h
            have h := hx15
            clear hx15
            refine Tr.cond (Opd.tmp rfl) (fun hc => ?_) (fun hc => ?_)
            · replace h := bif_t hc h
              replace h := bind_some h; obtain ⟨x16, hx16, h⟩ := h
              replace h := bind_some h; obtain ⟨x17, hx17, h⟩ := h
              replace h := bind_some h; obtain ⟨x18, hx18, h⟩ := h
              replace h := bind_some h; obtain ⟨x19, hx19, h⟩ := h
              replace h := bind_some h; obtain ⟨x20, hx20, h⟩ := h
              replace h := bind_some h; obtain ⟨x21, hx21, h⟩ := h
              refine Tr.drawD (n := 57) (m := 19) (es := [some (Ent.mk [(2, (pSl 1 (cK .i64) table_2))] (pSl 1 (cK .i64) table_2) true), some (Ent.mk [(1, (pEq (.int .i64 target_1)))] (pEq (.int .i64 target_1)) true), some (Ent.mk [(0, (pSl 1 (cSl 1 (cK .i64)) ratios_0))] (pSl 1 (cSl 1 (cK .i64)) ratios_0) true), some (Ent.mk [(8, (pEq (.int .i64 v5)))] (pEq (.int .i64 v5)) true), some (Ent.mk [(31, (pSl 1 (cSl 1 (cK .i64)) ratios_0)), (32, (pEq (.int .i64 v5)))] (pPtr ((cSl 1 (cK .i64)) x16)) true), some (Ent.mk [(33, (pPtr ((cSl 1 (cK .i64)) x16)))] (pSl 1 (cK .i64) x16) true), some (Ent.mk [(10, (pEq (.int .i64 v12)))] (pEq (.int .i64 v12)) true), some (Ent.mk [(34, (pSl 1 (cK .i64) x16)), (35, (pEq (.int .i64 v12)))] (pPtr ((cK .i64) x17)) true), some (Ent.mk [(36, (pPtr ((cK .i64) x17)))] (pEq (.int .i64 x17)) true), some (Ent.mk [(0, (pSl 1 (cSl 1 (cK .i64)) ratios_0))] (pSl 1 (cSl 1 (cK .i64)) ratios_0) true), some (Ent.mk [(10, (pEq (.int .i64 v12)))] (pEq (.int .i64 v12)) true), some (Ent.mk [(38, (pSl 1 (cSl 1 (cK .i64)) ratios_0)), (39, (pEq (.int .i64 v12)))] (pPtr ((cSl 1 (cK .i64)) x18)) true), some (Ent.mk [(40, (pPtr ((cSl 1 (cK .i64)) x18)))] (pSl 1 (cK .i64) x18) true), some (Ent.mk [(8, (pEq (.int .i64 v5)))] (pEq (.int .i64 v5)) true), some (Ent.mk [(41, (pSl 1 (cK .i64) x18)), (42, (pEq (.int .i64 v5)))] (pPtr ((cK .i64) x19)) true), some (Ent.mk [(43, (pPtr ((cK .i64) x19)))] (pEq (.int .i64 x19)) true), some (Ent.mk [(37, (pEq (.int .i64 x17))), (44, (pEq (.int .i64 x19)))] (pEq (.int .i64 x20)) true), some (Ent.mk [(30, (pEq (.int .i64 target_1))), (45, (pEq (.int .i64 x20)))] (pEq (.int .i64 (w64 (target_1 - x20)))) true), some (Ent.mk [(29, (pSl 1 (cK .i64) table_2)), (46, (pEq (.int .i64 (w64 (target_1 - x20)))))] (pEq (.int .i64 x21)) true)]) (rd := [[2], [1], [0], [8], [31, 32], [33], [10], [34, 35], [36], [0], [10], [38, 39], [40], [8], [41, 42], [43], [37, 44], [30, 45], [29, 46]]) rfl hmix (by kernel_rfl) fun hD => ?_
              refine RD.fin (es := [Ent.mk [(2, (pSl 1 (cK .i64) table_2))] (pSl 1 (cK .i64) table_2) true, Ent.mk [(1, (pEq (.int .i64 target_1)))] (pEq (.int .i64 target_1)) true, Ent.mk [(0, (pSl 1 (cSl 1 (cK .i64)) ratios_0))] (pSl 1 (cSl 1 (cK .i64)) ratios_0) true, Ent.mk [(8, (pEq (.int .i64 v5)))] (pEq (.int .i64 v5)) true, Ent.mk [(31, (pSl 1 (cSl 1 (cK .i64)) ratios_0)), (32, (pEq (.int .i64 v5)))] (pPtr ((cSl 1 (cK .i64)) x16)) true, Ent.mk [(33, (pPtr ((cSl 1 (cK .i64)) x16)))] (pSl 1 (cK .i64) x16) true, Ent.mk [(10, (pEq (.int .i64 v12)))] (pEq (.int .i64 v12)) true, Ent.mk [(34, (pSl 1 (cK .i64) x16)), (35, (pEq (.int .i64 v12)))] (pPtr ((cK .i64) x17)) true, Ent.mk [(36, (pPtr ((cK .i64) x17)))] (pEq (.int .i64 x17)) true, Ent.mk [(0, (pSl 1 (cSl 1 (cK .i64)) ratios_0))] (pSl 1 (cSl 1 (cK .i64)) ratios_0) true, Ent.mk [(10, (pEq (.int .i64 v12)))] (pEq (.int .i64 v12)) true, Ent.mk [(38, (pSl 1 (cSl 1 (cK .i64)) ratios_0)), (39, (pEq (.int .i64 v12)))] (pPtr ((cSl 1 (cK .i64)) x18)) true, Ent.mk [(40, (pPtr ((cSl 1 (cK .i64)) x18)))] (pSl 1 (cK .i64) x18) true, Ent.mk [(8, (pEq (.int .i64 v5)))] (pEq (.int .i64 v5)) true, Ent.mk [(41, (pSl 1 (cK .i64) x18)), (42, (pEq (.int .i64 v5)))] (pPtr ((cK .i64) x19)) true, Ent.mk [(43, (pPtr ((cK .i64) x19)))] (pEq (.int .i64 x19)) true, Ent.mk [(37, (pEq (.int .i64 x17))), (44, (pEq (.int .i64 x19)))] (pEq (.int .i64 x20)) true, Ent.mk [(30, (pEq (.int .i64 target_1))), (45, (pEq (.int .i64 x20)))] (pEq (.int .i64 (w64 (target_1 - x20)))) true, Ent.mk [(29, (pSl 1 (cK .i64) table_2)), (46, (pEq (.int .i64 (w64 (target_1 - x20)))))] (pEq (.int .i64 x21)) true]) (done := []) hD ⟨.inr ⟨(OpJ.w (J_move rfl (Opd.tmp rfl))), ⟨rfl, trivial⟩, rfl, rfl⟩, ⟨.inr ⟨(OpJ.w (J_move rfl (Opd.tmp rfl))), ⟨rfl, trivial⟩, rfl, rfl⟩, ⟨.inr ⟨(OpJ.w (J_move rfl (Opd.tmp rfl))), ⟨rfl, trivial⟩, rfl, rfl⟩, ⟨.inr ⟨(OpJ.w (J_move rfl (Opd.tmp rfl))), ⟨rfl, trivial⟩, rfl, rfl⟩, ⟨.inr ⟨(OpJ.w (J_idx rfl Try.underlying22 sz23 (Opd.tmp rfl) (Opd.tmp rfl) hx16)), ⟨rfl, rfl, trivial⟩, rfl, rfl⟩, ⟨.inr ⟨(OpJ.w (J_load rfl Try.isAgg23 (Opd.tmp rfl))), ⟨rfl, trivial⟩, rfl, rfl⟩, ⟨.inr ⟨(OpJ.w (J_move rfl (Opd.tmp rfl))), ⟨rfl, trivial⟩, rfl, rfl⟩, ⟨.inr ⟨(OpJ.w (J_idx rfl Try.underlying23 sz2 (Opd.tmp rfl) (Opd.tmp rfl) hx17)), ⟨rfl, rfl, trivial⟩, rfl, rfl⟩, ⟨.inr ⟨(OpJ.w (J_load rfl Try.isAgg2 (Opd.tmp rfl))), ⟨rfl, trivial⟩, rfl, rfl⟩, ⟨.inr ⟨(OpJ.w (J_move rfl (Opd.tmp rfl))), ⟨rfl, trivial⟩, rfl, rfl⟩, ⟨.inr ⟨(OpJ.w (J_move rfl (Opd.tmp rfl))), ⟨rfl, trivial⟩, rfl, rfl⟩, ⟨.inr ⟨(OpJ.w (J_idx rfl Try.underlying22 sz23 (Opd.tmp rfl) (Opd.tmp rfl) hx18)), ⟨rfl, rfl, trivial⟩, rfl, rfl⟩, ⟨.inr ⟨(OpJ.w (J_load rfl Try.isAgg23 (Opd.tmp rfl))), ⟨rfl, trivial⟩, rfl, rfl⟩, ⟨.inr ⟨(OpJ.w (J_move rfl (Opd.tmp rfl))), ⟨rfl, trivial⟩, rfl, rfl⟩, ⟨.inr ⟨(OpJ.w (J_idx rfl Try.underlying23 sz2 (Opd.tmp rfl) (Opd.tmp rfl) hx19)), ⟨rfl, rfl, trivial⟩, rfl, rfl⟩, ⟨.inr ⟨(OpJ.w (J_load rfl Try.isAgg2 (Opd.tmp rfl))), ⟨rfl, trivial⟩, rfl, rfl⟩, ⟨.inr ⟨(OpJ.w (J_call rfl Try.call82 (c_spec_l00Min hx20) (Opds.cons (Opd.tmp rfl) (Opds.cons (Opd.tmp rfl) Opds.nil)))), ⟨rfl, rfl, trivial⟩, rfl, rfl⟩, ⟨.inr ⟨(OpJ.w (J_bin rfl (Opd.tmp rfl) (Opd.tmp rfl) B_sub)), ⟨rfl, rfl, trivial⟩, rfl, rfl⟩, ⟨.inr ⟨(OpJ.w (J_call rfl Try.call81 (c_spec_l08Steps hx21) (Opds.cons (Opd.tmp rfl) (Opds.cons (Opd.tmp rfl) Opds.nil)))), ⟨rfl, rfl, trivial⟩, rfl, rfl⟩, trivial⟩⟩⟩⟩⟩⟩⟩⟩⟩⟩⟩⟩⟩⟩⟩⟩⟩⟩⟩ ?_
              refine RegL.pure (p := (pEq (.int .i64 x21))) rfl rfl rfl (J_assign rfl (Opd.tmp rfl)) ?_
              refine RegL.nil ?_
              replace h := Option.some.inj h; subst h
              exact Ct.mid () rfl ⟨rfl, rfl, rfl, rfl, rfl, rfl, rfl, rfl, trivial⟩
            · replace h := bif_f hc h
              refine Tr.skip ?_
              replace h := Option.some.inj h; subst h
              exact Ct.mid () rfl ⟨rfl, rfl, rfl, rfl, rfl, rfl, rfl, rfl, trivial⟩
          · clear hx15
            refine Ct.then_tr ?_
            refine Tr.weak (Γ' := [(0, (pSl 1 (cSl 1 (cK .i64)) ratios_0)), (1, (pEq (.int .i64 target_1))), (2, (pSl 1 (cK .i64) table_2)), (7, (pEq (.slice g7.1.1 g7.1.2.1 g7.1.2.2))), (8, (pEq (.int .i64 v5))), (9, (pEq (.slice g14.1 g14.2.1 g14.2.2))), (10, (pEq (.int .i64 v12))), (11, (pEq (.int .i64 x15)))]) ⟨rfl, rfl, rfl, rfl, rfl, rfl, rfl, rfl, trivial⟩ ?_
            refine Tr.region ?_
            refine RegL.pure (p := (pEq (.slice g14.1 g14.2.1 g14.2.2))) rfl rfl rfl (J_move rfl (Opd.tmp rfl)) ?_
            refine RegL.pure (p := (pEq (.int .i64 x15))) rfl rfl rfl (J_move rfl (Opd.tmp rfl)) ?_
            refine RegL.pure (p := (pSl 1 (cK .i64) ([x15] : (List Int)))) rfl rfl rfl (J_buildSlice (l := ([x15] : (List Int))) (qss := [(0, (cK .i64) x15)]) rfl Try.underlying23 el2 rfl (Parts.cons (Part.one (Opd.tmp rfl) OneC.int) Parts.nil) rfl rfl) ?_
            replace h := bind_some h; obtain ⟨x23, hx23, h⟩ := h
            refine RegL.step (γ := Option Addr × Nat) (p := fun g => pEq (.slice g.1 x23.length g.2)) (Ω' := fun g => [oSl 2 1 (cK .i64) g.1 x23.length g.2 x23, oSS 23 2 1 (cK .i64) g7.1.1 g7.1.2.1 g7.1.2.2 g7.2 v6]) rfl rfl rfl (M_appendI rfl Try.underlying23 el2 (Opd.tmp rfl) (Opd.tmp rfl) hx23) fun g24 => ?_
            refine RegL.pure (p := (pEq (.slice g24.1 x23.length g24.2))) rfl rfl rfl (J_assign rfl (Opd.tmp rfl)) ?_
            refine RegL.nil ?_
            refine Ct.blk_normal ?_
            refine Ct.then_tr ?_
            refine Tr.weak (Γ' := [(0, (pSl 1 (cSl 1 (cK .i64)) ratios_0)), (1, (pEq (.int .i64 target_1))), (2, (pSl 1 (cK .i64) table_2)), (7, (pEq (.slice g7.1.1 g7.1.2.1 g7.1.2.2))), (8, (pEq (.int .i64 v5))), (9, (pEq (.slice g24.1 x23.length g24.2))), (10, (pEq (.int .i64 v12)))]) ⟨rfl, rfl, rfl, rfl, rfl, rfl, rfl, trivial⟩ ?_
            refine Tr.region ?_
            refine RegL.pure (p := (pEq (.int .i64 v12))) rfl rfl rfl (J_move rfl (Opd.tmp rfl)) ?_
            refine RegL.pure (p := (pEq (.int .i64 (w64 (v12 + (1 : Int)))))) rfl rfl rfl (J_bin rfl (Opd.tmp rfl) Opd.con B_add) ?_
            refine RegL.pure (p := (pEq (.int .i64 (w64 (v12 + (1 : Int)))))) rfl rfl rfl (J_assign rfl (Opd.tmp rfl)) ?_
            refine RegL.nil ?_
            replace h := Option.some.inj h; subst h
            exact Ct.again (g24.1, x23.length, g24.2) rfl ⟨rfl, rfl, rfl, rfl, rfl, rfl, rfl, trivial⟩
        · replace h := bif_f hc h
          refine Tr.exit ?_
          refine Ct.then_exit ?_
          replace h := map_some h; obtain ⟨r1, h, rfl⟩ := h
          refine Ct.out_exit fun e => ?_
          subst e
          refine Ct.blk_exit ?_
          replace h := Option.some.inj h; subst h
          exact Ct.mid (g14.1, g14.2.1, g14.2.2) rfl ⟨rfl, rfl, rfl, rfl, rfl, rfl, trivial⟩
      · clear hx10
        refine Ct.then_tr ?_
        refine Tr.weak (Γ' := [(0, (pSl 1 (cSl 1 (cK .i64)) ratios_0)), (1, (pEq (.int .i64 target_1))), (2, (pSl 1 (cK .i64) table_2)), (7, (pEq (.slice g7.1.1 g7.1.2.1 g7.1.2.2))), (8, (pEq (.int .i64 v5))), (9, (pEq (.slice g25.1 g25.2.1 g25.2.2)))]) ⟨rfl, rfl, rfl, rfl, rfl, rfl, trivial⟩ ?_
        refine Tr.region ?_
        refine RegL.pure (p := (pEq (.slice g7.1.1 g7.1.2.1 g7.1.2.2))) rfl rfl rfl (J_move rfl (Opd.tmp rfl)) ?_
        refine RegL.pure (p := (pEq (.slice g25.1 g25.2.1 g25.2.2))) rfl rfl rfl (J_move rfl (Opd.tmp rfl)) ?_
        refine RegL.step (γ := Option Addr) (p := fun a => pEq (.slice a 1 1)) (Ω' := fun a => [oSl 23 1 cHdr a 1 1 [(g25.1, g25.2.1, g25.2.2)], oSl 2 1 (cK .i64) g25.1 g25.2.1 g25.2.2 x10, oSS 23 2 1 (cK .i64) g7.1.1 g7.1.2.1 g7.1.2.2 g7.2 v6]) rfl rfl rfl (M_buildSlice (qss := [(0, cHdr (g25.1, g25.2.1, g25.2.2))]) rfl Try.underlying22 elh23 rfl (Parts.cons (Part.one (Opd.tmp rfl) OneC.slice) Parts.nil) rfl rfl) fun o26 => ?_
        refine RegL.re (Ω2 := [oSS 23 2 1 (cK .i64) o26 1 1 [(g25.1, g25.2.1, g25.2.2)] [x10], oSS 23 2 1 (cK .i64) g7.1.1 g7.1.2.1 g7.1.2.2 g7.2 v6]) (fun h => nest_one h) ?_
        replace h := bind_some h; obtain ⟨x28, hx28, h⟩ := h
        refine RegL.re (Ω2 := [oSS 23 2 1 (cK .i64) g7.1.1 g7.1.2.1 g7.1.2.2 g7.2 v6, oSS 23 2 1 (cK .i64) o26 1 1 [(g25.1, g25.2.1, g25.2.2)] [x10]]) (fun h => SatO.pick 1 h) ?_
        refine RegL.step (γ := (Option Addr × Nat) × List G3) (p := fun g => pEq (.slice g.1.1 x28.length g.1.2)) (Ω' := fun g => [oSS 23 2 1 (cK .i64) g.1.1 x28.length g.1.2 g.2 x28]) rfl rfl rfl (M_nestAppend rfl Try.underlying22 elh23 (Opd.tmp rfl) (Opd.tmp rfl) hx28) fun g29 => ?_
        refine RegL.pure (p := (pEq (.slice g29.1.1 x28.length g29.1.2))) rfl rfl rfl (J_assign rfl (Opd.tmp rfl)) ?_
        refine RegL.nil ?_
        refine Ct.blk_normal ?_
        refine Ct.then_tr ?_
        refine Tr.weak (Γ' := [(0, (pSl 1 (cSl 1 (cK .i64)) ratios_0)), (1, (pEq (.int .i64 target_1))), (2, (pSl 1 (cK .i64) table_2)), (7, (pEq (.slice g29.1.1 x28.length g29.1.2))), (8, (pEq (.int .i64 v5)))]) ⟨rfl, rfl, rfl, rfl, rfl, trivial⟩ ?_
        refine Tr.region ?_
        refine RegL.pure (p := (pEq (.int .i64 v5))) rfl rfl rfl (J_move rfl (Opd.tmp rfl)) ?_
        refine RegL.pure (p := (pEq (.int .i64 (w64 (v5 + (1 : Int)))))) rfl rfl rfl (J_bin rfl (Opd.tmp rfl) Opd.con B_add) ?_
        refine RegL.pure (p := (pEq (.int .i64 (w64 (v5 + (1 : Int)))))) rfl rfl rfl (J_assign rfl (Opd.tmp rfl)) ?_
        refine RegL.nil ?_
        replace h := Option.some.inj h; subst h
        exact Ct.again ((g29.1.1, x28.length, g29.1.2), g29.2) rfl ⟨rfl, rfl, rfl, rfl, rfl, trivial⟩
    · replace h := bif_f hc h
      refine Tr.exit ?_
      refine Ct.then_exit ?_
      replace h := map_some h; obtain ⟨r1, h, rfl⟩ := h
      refine Ct.out_exit fun e => ?_
      subst e
      refine Ct.blk_exit ?_
      replace h := Option.some.inj h; subst h
      exact Ct.mid ((g7.1.1, g7.1.2.1, g7.1.2.2), g7.2) rfl ⟨rfl, trivial⟩
  · clear hx3
    refine Ct.then_tr ?_
    refine Tr.weak (Γ' := [(7, (pEq (.slice g30.1.1 g30.1.2.1 g30.1.2.2)))]) ⟨rfl, trivial⟩ ?_
    refine Tr.seq ?_
    refine Tr.region ?_
    refine RegL.pure (p := (pEq (.slice g30.1.1 g30.1.2.1 g30.1.2.2))) rfl rfl rfl (J_move rfl (Opd.tmp rfl)) ?_
    refine RegL.pure (p := (pEq (.slice g30.1.1 g30.1.2.1 g30.1.2.2))) rfl rfl rfl (J_assign rfl (Opd.tmp rfl)) ?_
    refine RegL.nil ?_
    refine Ct.then_tr ?_
    refine Tr.weak (Γ' := [(6, (pEq (.slice g30.1.1 g30.1.2.1 g30.1.2.2)))]) ⟨rfl, trivial⟩ ?_
    refine Tr.ret ?_
    replace h := Option.some.inj h; subst h
    exact Ct.retH1 (Ωx := []) ((g30.1.1, g30.1.2.1, g30.1.2.2), g30.2) rfl (RvOk.tmp rfl) rfl

theorem c_spec_l16Need {ratios_0 : (List (List Int))} {target_1 : Int} {table_2 : (List Int)} {r : (List (List Int))} (h : m_spec_l16Need ratios_0 target_1 table_2 = some r) : CallJ Try.prog 36 [(pSl 1 (cSl 1 (cK .i64)) ratios_0), (pEq (.int .i64 target_1)), (pSl 1 (cK .i64) table_2)] (pSl 1 (cSl 1 (cK .i64)) r) :=
  CallH.frozen (o_spec_l16Need h) (fun g => (Conv.nest 0 (fun _ => rfl) rfl))

theorem o_spec_ProblemOf {rows_0 : (List (List Int))} {target_1 : Int} {table_2 : (List Int)} {domains_3 : (List (List Int))}  {r : (GProblem × Int)} (h : m_spec_ProblemOf rows_0 target_1 table_2 domains_3 = some r) : CallH Try.prog 17 [(pSl 1 (cSl 1 (cK .i64)) rows_0), (pEq (.int .i64 target_1)), (pSl 1 (cK .i64) table_2), (pSl 1 (cSl 1 (cK .i64)) domains_3)] [] (fun g : ((G3 × List G3) × (G3 × List G3)) => (pTup [(pAgg [(pEq (.slice g.1.1.1 g.1.1.2.1 g.1.1.2.2)), (pEq (.slice g.2.1.1 g.2.1.2.1 g.2.1.2.2))]), (pEq (.int .i64 r.2))])) (fun g : ((G3 × List G3) × (G3 × List G3)) => [oSS 23 2 1 (cK .i64) g.1.1.1 g.1.1.2.1 g.1.1.2.2 g.1.2 r.1.Domains, oSS 23 2 1 (cK .i64) g.2.1.1 g.2.1.2.1 g.2.1.2.2 g.2.2 r.1.Apart]) := by
  unfold m_spec_ProblemOf at h
  refine CallH.enter Try.func17 rfl Try.ntmps17 rfl fun W I0 H => ?_
  refine Tr.weak (Γ' := [(0, (pSl 1 (cSl 1 (cK .i64)) rows_0)), (1, (pEq (.int .i64 target_1))), (2, (pSl 1 (cK .i64) table_2)), (3, (pSl 1 (cSl 1 (cK .i64)) domains_3))]) ⟨rfl, rfl, rfl, rfl, trivial⟩ ?_
  refine Tr.seq ?_
  refine Tr.region ?_
  refine RegL.step (γ := Nat) (p := fun b => pEq (.pointer (some ⟨b, 0, none⟩))) (Ω' := fun b => [oBlk b [(pEq (.slice none 0 0)), (pEq (.slice none 0 0))]]) rfl rfl rfl (M_alloc rfl zero34) fun b1 => ?_
  refine RegL.pure (p := (pEq (.int .i64 (0 : Int)))) rfl rfl rfl (J_assign rfl Opd.con) ?_
  refine RegL.nil ?_
  refine Ct.then_tr ?_
  refine Tr.weak (Γ' := [(0, (pSl 1 (cSl 1 (cK .i64)) rows_0)), (1, (pEq (.int .i64 target_1))), (2, (pSl 1 (cK .i64) table_2)), (3, (pSl 1 (cSl 1 (cK .i64)) domains_3)), (8, (pEq (.pointer (some ⟨b1, 0, none⟩))))]) ⟨rfl, rfl, rfl, rfl, rfl, trivial⟩ ?_
  refine Tr.seq ?_
  refine Tr.seq ?_
  replace h := bind_some h; obtain ⟨x2, hx2, h⟩ := h
  refine Tr.cut (γ := Unit) (Γm := fun g => [(0, (pSl 1 (cSl 1 (cK .i64)) rows_0)), (1, (pEq (.int .i64 target_1))), (2, (pSl 1 (cK .i64) table_2)), (3, (pSl 1 (cSl 1 (cK .i64)) domains_3)), (8, (pEq (.pointer (some ⟨b1, 0, none⟩)))), (18, (pEq (.bool x2)))]) (Ωm := fun g => [oBlk b1 [(pEq (.slice none 0 0)), (pEq (.slice none 0 0))]]) ?_ (fun g6 => ?_)
  · clear h
    have h := hx2
    clear hx2
    refine Tr.region ?_
    refine RegL.pure (p := (pSl 1 (cSl 1 (cK .i64)) rows_0)) rfl rfl rfl (J_move rfl (Opd.tmp rfl)) ?_
    replace h := bind_some h; obtain ⟨x3, hx3, h⟩ := h
    refine RegL.pure (p := (pEq (.bool x3))) rfl rfl rfl (J_call rfl Try.call42 (c_spec_l16Rows hx3) (Opds.cons (Opd.tmp rfl) Opds.nil)) ?_
    refine RegL.pure (p := (pEq (.bool (!x3)))) rfl rfl rfl (J_not rfl (Opd.tmp rfl)) ?_
    refine RegL.pure (p := (pEq (.bool (!x3)))) rfl rfl rfl (J_move rfl (Opd.tmp rfl)) ?_
    rcases Bool.eq_false_or_eq_true (!x3) with hc4 | hc4
    · replace h := bif_t hc4 h
      refine RegL.skipG rfl rfl rfl hc4 rfl rfl ?_
      refine RegL.skipG rfl rfl rfl hc4 rfl rfl ?_
      refine RegL.skipG rfl rfl rfl hc4 rfl rfl ?_
      refine RegL.pure (p := (pEq (.bool true))) rfl rfl rfl (J_pick rfl (Opd.tmp rfl) (fun _ => Opd.con) (fun hf => absurd (hc4.symm.trans hf) (by decide))) ?_
      refine RegL.nil ?_
      replace h := Option.some.inj h; subst h
      exact Ct.mid () rfl ⟨rfl, rfl, rfl, rfl, rfl, rfl, trivial⟩
    · replace h := bif_f hc4 h
      refine RegL.pureG (p := (pSl 1 (cK .i64) table_2)) rfl rfl rfl hc4 rfl rfl (J_move rfl (Opd.tmp rfl)) ?_
      replace h := bind_some h; obtain ⟨x5, hx5, h⟩ := h
      refine RegL.pureG (p := (pEq (.bool x5))) rfl rfl rfl hc4 rfl rfl (J_call rfl Try.call34 (c_spec_l08Table hx5) (Opds.cons (Opd.tmp rfl) Opds.nil)) ?_
      refine RegL.pureG (p := (pEq (.bool (!x5)))) rfl rfl rfl hc4 rfl rfl (J_not rfl (Opd.tmp rfl)) ?_
      refine RegL.pure (p := (pEq (.bool (!x5)))) rfl rfl rfl (J_pick rfl (Opd.tmp rfl) (fun hf => absurd (hc4.symm.trans hf) (by decide)) (fun _ => (Opd.tmp rfl))) ?_
      refine RegL.nil ?_
      replace h := Option.some.inj h; subst h
      exact Ct.mid () rfl ⟨rfl, rfl, rfl, rfl, rfl, rfl, trivial⟩
  · clear hx2
    refine Ct.then_tr ?_
    refine Tr.weak (Γ' := [(0, (pSl 1 (cSl 1 (cK .i64)) rows_0)), (1, (pEq (.int .i64 target_1))), (2, (pSl 1 (cK .i64) table_2)), (3, (pSl 1 (cSl 1 (cK .i64)) domains_3)), (8, (pEq (.pointer (some ⟨b1, 0, none⟩)))), (18, (pEq (.bool x2)))]) ⟨rfl, rfl, rfl, rfl, rfl, rfl, trivial⟩ ?_
    refine Tr.cond (Opd.tmp rfl) (fun hc => ?_) (fun hc => ?_)
    · replace h := bif_t hc h
      refine Tr.seq ?_
      refine Tr.region ?_
      refine RegL.pure (p := (pAgg [(pEq (.slice none 0 0)), (pEq (.slice none 0 0))])) rfl rfl rfl (J_build (qss := []) rfl bl34 bz34o Parts.nil rfl) ?_
      refine RegL.stepN (γ := Unit) (p := fun _ => pAny) (Ω' := fun _ => [oBlk b1 [(pEq (.slice none 0 0)), (pEq (.slice none 0 0))]]) rfl rfl (M_storeA rfl sz34 (Opd.tmp rfl) (Opd.tmp rfl) (fun _ _ _ h => ones_of ((OneCs.cons OneC.slice (OneCs.cons OneC.slice OneCs.nil))) h) rfl rfl) fun g7 => ?_
      refine RegL.pure (p := (pEq (.int .i64 (1 : Int)))) rfl rfl rfl (J_assign rfl Opd.con) ?_
      refine RegL.nil ?_
      refine Ct.then_tr ?_
      refine Tr.weak (Γ' := [(8, (pEq (.pointer (some ⟨b1, 0, none⟩)))), (9, (pEq (.int .i64 (1 : Int))))]) ⟨rfl, rfl, trivial⟩ ?_
      refine Tr.ret ?_
      refine Ct.then_ret ?_
      refine Ct.re (Ω2 := [oSS 23 2 1 (cK .i64) none 0 0 [] ([] : (List (List Int))), oBlk b1 [(pEq (.slice none 0 0)), (pEq (.slice none 0 0))]]) (fun h => nest_nil h) ?_
      refine Ct.re (Ω2 := [oSS 23 2 1 (cK .i64) none 0 0 [] ([] : (List (List Int))), oSS 23 2 1 (cK .i64) none 0 0 [] ([] : (List (List Int))), oBlk b1 [(pEq (.slice none 0 0)), (pEq (.slice none 0 0))]]) (fun h => nest_nil h) ?_
      refine Ct.re (Ω2 := [oSS 23 2 1 (cK .i64) none 0 0 [] ([] : (List (List Int))), oSS 23 2 1 (cK .i64) none 0 0 [] ([] : (List (List Int))), oBlk b1 [(pEq (.slice none 0 0)), (pEq (.slice none 0 0))]]) (fun h => SatO.pick 1 h) ?_
      refine Ct.re (Ω2 := [oBlk b1 [(pEq (.slice none 0 0)), (pEq (.slice none 0 0))], oSS 23 2 1 (cK .i64) none 0 0 [] ([] : (List (List Int))), oSS 23 2 1 (cK .i64) none 0 0 [] ([] : (List (List Int)))]) (fun h => SatO.pick 2 h) ?_
      replace h := Option.some.inj h; subst h
      exact Ct.retH2 (Ωx := [oBlk b1 [(pEq (.slice none 0 0)), (pEq (.slice none 0 0))]]) (((none, 0, 0), []), ((none, 0, 0), [])) rfl (RvOk.cellA (i := 0) Try.isAgg34 sz34 rfl rfl rfl) (RvOk.tmp rfl) rfl rfl
    · replace h := bif_f hc h
      refine Tr.skip ?_
      refine Ct.then_tr ?_
      refine Tr.weak (Γ' := [(0, (pSl 1 (cSl 1 (cK .i64)) rows_0)), (1, (pEq (.int .i64 target_1))), (2, (pSl 1 (cK .i64) table_2)), (3, (pSl 1 (cSl 1 (cK .i64)) domains_3)), (8, (pEq (.pointer (some ⟨b1, 0, none⟩))))]) ⟨rfl, rfl, rfl, rfl, rfl, trivial⟩ ?_
      refine Tr.seq ?_
      refine Tr.seq ?_
      refine Tr.region ?_
      refine RegL.pure (p := (pEq (.int .i64 (0 : Int)))) rfl rfl rfl (J_assign rfl Opd.con) ?_
      refine RegL.nil ?_
      refine Ct.then_tr ?_
      refine Tr.weak (Γ' := [(0, (pSl 1 (cSl 1 (cK .i64)) rows_0)), (1, (pEq (.int .i64 target_1))), (2, (pSl 1 (cK .i64) table_2)), (3, (pSl 1 (cSl 1 (cK .i64)) domains_3)), (8, (pEq (.pointer (some ⟨b1, 0, none⟩)))), (10, (pEq (.int .i64 (0 : Int))))]) ⟨rfl, rfl, rfl, rfl, rfl, rfl, trivial⟩ ?_
      refine Tr.block ?_
      refine Tr.weak (Γ' := [(0, (pSl 1 (cSl 1 (cK .i64)) rows_0)), (1, (pEq (.int .i64 target_1))), (2, (pSl 1 (cK .i64) table_2)), (3, (pSl 1 (cSl 1 (cK .i64)) domains_3)), (8, (pEq (.pointer (some ⟨b1, 0, none⟩)))), (10, (pEq (.int .i64 (0 : Int))))]) ⟨rfl, rfl, rfl, rfl, rfl, rfl, trivial⟩ ?_
      refine Tr.loop (γ := Unit) (σ := Int) (Γσ := fun s g => [(0, (pSl 1 (cSl 1 (cK .i64)) rows_0)), (1, (pEq (.int .i64 target_1))), (2, (pSl 1 (cK .i64) table_2)), (3, (pSl 1 (cSl 1 (cK .i64)) domains_3)), (8, (pEq (.pointer (some ⟨b1, 0, none⟩)))), (10, (pEq (.int .i64 s)))]) (Ωσ := fun s g => [oBlk b1 [(pEq (.slice none 0 0)), (pEq (.slice none 0 0))]]) (g := ()) h ?_
      clear h
      rintro v11 g12 t h
      replace h : m_spec_ProblemOf_B10 rows_0 target_1 table_2 domains_3 v11 = some t := h
      unfold m_spec_ProblemOf_B10 at h
      refine Tr.weakO (Γ' := [(0, (pSl 1 (cSl 1 (cK .i64)) rows_0)), (1, (pEq (.int .i64 target_1))), (2, (pSl 1 (cK .i64) table_2)), (3, (pSl 1 (cSl 1 (cK .i64)) domains_3)), (8, (pEq (.pointer (some ⟨b1, 0, none⟩)))), (10, (pEq (.int .i64 v11)))]) (Ω' := [oBlk b1 [(pEq (.slice none 0 0)), (pEq (.slice none 0 0))]]) rfl ⟨rfl, rfl, rfl, rfl, rfl, rfl, trivial⟩ ?_
      refine Tr.seq ?_
      refine Tr.seq ?_
      refine Tr.region ?_
      refine RegL.pure (p := (pEq (.int .i64 v11))) rfl rfl rfl (J_move rfl (Opd.tmp rfl)) ?_
      refine RegL.pure (p := (pSl 1 (cSl 1 (cK .i64)) domains_3)) rfl rfl rfl (J_move rfl (Opd.tmp rfl)) ?_
      refine RegL.pure (p := (pEq (.int .i64 (domains_3.length : Int)))) rfl rfl rfl (J_len rfl Try.underlying22 (Opd.tmp rfl) rfl) ?_
      refine RegL.pure (p := (pEq (.bool (decide (v11 < (domains_3.length : Int)))))) rfl rfl rfl (J_bin rfl (Opd.tmp rfl) (Opd.tmp rfl) B_lss) ?_
      refine RegL.nil ?_
      refine Ct.then_tr ?_
      refine Tr.weak (Γ' := [(0, (pSl 1 (cSl 1 (cK .i64)) rows_0)), (1, (pEq (.int .i64 target_1))), (2, (pSl 1 (cK .i64) table_2)), (3, (pSl 1 (cSl 1 (cK .i64)) domains_3)), (8, (pEq (.pointer (some ⟨b1, 0, none⟩)))), (10, (pEq (.int .i64 v11))), (23, (pEq (.bool (decide (v11 < (domains_3.length : Int))))))]) ⟨rfl, rfl, rfl, rfl, rfl, rfl, rfl, trivial⟩ ?_
      refine Tr.cond (Opd.tmp rfl) (fun hc => ?_) (fun hc => ?_)
      · replace h := bif_t hc h
        refine Tr.skip ?_
        refine Ct.then_tr ?_
        refine Tr.weak (Γ' := [(0, (pSl 1 (cSl 1 (cK .i64)) rows_0)), (1, (pEq (.int .i64 target_1))), (2, (pSl 1 (cK .i64) table_2)), (3, (pSl 1 (cSl 1 (cK .i64)) domains_3)), (8, (pEq (.pointer (some ⟨b1, 0, none⟩)))), (10, (pEq (.int .i64 v11)))]) ⟨rfl, rfl, rfl, rfl, rfl, rfl, trivial⟩ ?_
        refine Tr.seq ?_
        refine Tr.block ?_
        refine Tr.seq ?_
        refine Tr.region ?_
        refine RegL.pure (p := (pSl 1 (cSl 1 (cK .i64)) domains_3)) rfl rfl rfl (J_move rfl (Opd.tmp rfl)) ?_
        refine RegL.pure (p := (pEq (.int .i64 v11))) rfl rfl rfl (J_move rfl (Opd.tmp rfl)) ?_
        replace h := bind_some h; obtain ⟨x13, hx13, h⟩ := h
        refine RegL.pure (p := (pPtr ((cSl 1 (cK .i64)) x13))) rfl rfl rfl (J_idx rfl Try.underlying22 sz23 (Opd.tmp rfl) (Opd.tmp rfl) hx13) ?_
        refine RegL.pure (p := (pSl 1 (cK .i64) x13)) rfl rfl rfl (J_load rfl Try.isAgg23 (Opd.tmp rfl)) ?_
        replace h := bind_some h; obtain ⟨x14, hx14, h⟩ := h
        refine RegL.pure (p := (pEq (.bool x14))) rfl rfl rfl (J_call rfl Try.call43 (c_spec_l17Domain hx14) (Opds.cons (Opd.tmp rfl) Opds.nil)) ?_
        refine RegL.pure (p := (pEq (.bool (!x14)))) rfl rfl rfl (J_not rfl (Opd.tmp rfl)) ?_
        refine RegL.nil ?_
        refine Ct.then_tr ?_
        refine Tr.weak (Γ' := [(0, (pSl 1 (cSl 1 (cK .i64)) rows_0)), (1, (pEq (.int .i64 target_1))), (2, (pSl 1 (cK .i64) table_2)), (3, (pSl 1 (cSl 1 (cK .i64)) domains_3)), (8, (pEq (.pointer (some ⟨b1, 0, none⟩)))), (10, (pEq (.int .i64 v11))), (31, (pEq (.bool (!x14))))]) ⟨rfl, rfl, rfl, rfl, rfl, rfl, rfl, trivial⟩ ?_
        refine Tr.cond (Opd.tmp rfl) (fun hc => ?_) (fun hc => ?_)
        · replace h := bif_t hc h
          refine Tr.seq ?_
          refine Tr.region ?_
          refine RegL.pure (p := (pAgg [(pEq (.slice none 0 0)), (pEq (.slice none 0 0))])) rfl rfl rfl (J_build (qss := []) rfl bl34 bz34o Parts.nil rfl) ?_
          refine RegL.stepN (γ := Unit) (p := fun _ => pAny) (Ω' := fun _ => [oBlk b1 [(pEq (.slice none 0 0)), (pEq (.slice none 0 0))]]) rfl rfl (M_storeA rfl sz34 (Opd.tmp rfl) (Opd.tmp rfl) (fun _ _ _ h => ones_of ((OneCs.cons OneC.slice (OneCs.cons OneC.slice OneCs.nil))) h) rfl rfl) fun g15 => ?_
          refine RegL.pure (p := (pEq (.int .i64 (1 : Int)))) rfl rfl rfl (J_assign rfl Opd.con) ?_
          refine RegL.nil ?_
          refine Ct.then_tr ?_
          refine Tr.weak (Γ' := [(8, (pEq (.pointer (some ⟨b1, 0, none⟩)))), (9, (pEq (.int .i64 (1 : Int))))]) ⟨rfl, rfl, trivial⟩ ?_
          refine Tr.ret ?_
          refine Ct.blk_ret ?_
          refine Ct.then_ret ?_
          replace h := map_some h; obtain ⟨r1, h, rfl⟩ := h
          refine Ct.out_ret fun e => ?_
          subst e
          refine Ct.blk_ret ?_
          refine Ct.then_ret ?_
          refine Ct.re (Ω2 := [oSS 23 2 1 (cK .i64) none 0 0 [] ([] : (List (List Int))), oBlk b1 [(pEq (.slice none 0 0)), (pEq (.slice none 0 0))]]) (fun h => nest_nil h) ?_
          refine Ct.re (Ω2 := [oSS 23 2 1 (cK .i64) none 0 0 [] ([] : (List (List Int))), oSS 23 2 1 (cK .i64) none 0 0 [] ([] : (List (List Int))), oBlk b1 [(pEq (.slice none 0 0)), (pEq (.slice none 0 0))]]) (fun h => nest_nil h) ?_
          refine Ct.re (Ω2 := [oSS 23 2 1 (cK .i64) none 0 0 [] ([] : (List (List Int))), oSS 23 2 1 (cK .i64) none 0 0 [] ([] : (List (List Int))), oBlk b1 [(pEq (.slice none 0 0)), (pEq (.slice none 0 0))]]) (fun h => SatO.pick 1 h) ?_
          refine Ct.re (Ω2 := [oBlk b1 [(pEq (.slice none 0 0)), (pEq (.slice none 0 0))], oSS 23 2 1 (cK .i64) none 0 0 [] ([] : (List (List Int))), oSS 23 2 1 (cK .i64) none 0 0 [] ([] : (List (List Int)))]) (fun h => SatO.pick 2 h) ?_
          replace h := Option.some.inj h; subst h
          exact Ct.retH2 (Ωx := [oBlk b1 [(pEq (.slice none 0 0)), (pEq (.slice none 0 0))]]) (((none, 0, 0), []), ((none, 0, 0), [])) rfl (RvOk.cellA (i := 0) Try.isAgg34 sz34 rfl rfl rfl) (RvOk.tmp rfl) rfl rfl
        · replace h := bif_f hc h
          refine Tr.skip ?_
          refine Ct.blk_normal ?_
          refine Ct.then_tr ?_
          refine Tr.weak (Γ' := [(0, (pSl 1 (cSl 1 (cK .i64)) rows_0)), (1, (pEq (.int .i64 target_1))), (2, (pSl 1 (cK .i64) table_2)), (3, (pSl 1 (cSl 1 (cK .i64)) domains_3)), (8, (pEq (.pointer (some ⟨b1, 0, none⟩)))), (10, (pEq (.int .i64 v11)))]) ⟨rfl, rfl, rfl, rfl, rfl, rfl, trivial⟩ ?_
          refine Tr.region ?_
          refine RegL.pure (p := (pEq (.int .i64 v11))) rfl rfl rfl (J_move rfl (Opd.tmp rfl)) ?_
          refine RegL.pure (p := (pEq (.int .i64 (w64 (v11 + (1 : Int)))))) rfl rfl rfl (J_bin rfl (Opd.tmp rfl) Opd.con B_add) ?_
          refine RegL.pure (p := (pEq (.int .i64 (w64 (v11 + (1 : Int)))))) rfl rfl rfl (J_assign rfl (Opd.tmp rfl)) ?_
          refine RegL.nil ?_
          replace h := Option.some.inj h; subst h
          exact Ct.again () rfl ⟨rfl, rfl, rfl, rfl, rfl, rfl, trivial⟩
      · replace h := bif_f hc h
        refine Tr.exit ?_
        refine Ct.then_exit ?_
        replace h := map_some h; obtain ⟨r1, h, rfl⟩ := h
        refine Ct.out_exit fun e => ?_
        subst e
        refine Ct.blk_exit ?_
        refine Ct.then_tr ?_
        refine Tr.weak (Γ' := [(0, (pSl 1 (cSl 1 (cK .i64)) rows_0)), (1, (pEq (.int .i64 target_1))), (2, (pSl 1 (cK .i64) table_2)), (3, (pSl 1 (cSl 1 (cK .i64)) domains_3)), (8, (pEq (.pointer (some ⟨b1, 0, none⟩))))]) ⟨rfl, rfl, rfl, rfl, rfl, trivial⟩ ?_
        refine Tr.seq ?_
        refine Tr.seq ?_
        refine Tr.region ?_
        refine RegL.pure (p := (pEq (.int .i64 target_1))) rfl rfl rfl (J_move rfl (Opd.tmp rfl)) ?_
        replace h := bind_some h; obtain ⟨x18, hx18, h⟩ := h
        refine RegL.pure (p := (pEq (.bool x18))) rfl rfl rfl (J_call rfl Try.call35 (c_spec_l00In hx18) (Opds.cons (Opd.tmp rfl) (Opds.cons Opd.con (Opds.cons Opd.con Opds.nil)))) ?_
        refine RegL.pure (p := (pEq (.bool (!x18)))) rfl rfl rfl (J_not rfl (Opd.tmp rfl)) ?_
        refine RegL.nil ?_
        refine Ct.then_tr ?_
        refine Tr.weak (Γ' := [(0, (pSl 1 (cSl 1 (cK .i64)) rows_0)), (1, (pEq (.int .i64 target_1))), (2, (pSl 1 (cK .i64) table_2)), (3, (pSl 1 (cSl 1 (cK .i64)) domains_3)), (8, (pEq (.pointer (some ⟨b1, 0, none⟩)))), (35, (pEq (.bool (!x18))))]) ⟨rfl, rfl, rfl, rfl, rfl, rfl, trivial⟩ ?_
        refine Tr.cond (Opd.tmp rfl) (fun hc => ?_) (fun hc => ?_)
        · replace h := bif_t hc h
          refine Tr.seq ?_
          refine Tr.region ?_
          refine RegL.pure (p := (pAgg [(pEq (.slice none 0 0)), (pEq (.slice none 0 0))])) rfl rfl rfl (J_build (qss := []) rfl bl34 bz34o Parts.nil rfl) ?_
          refine RegL.stepN (γ := Unit) (p := fun _ => pAny) (Ω' := fun _ => [oBlk b1 [(pEq (.slice none 0 0)), (pEq (.slice none 0 0))]]) rfl rfl (M_storeA rfl sz34 (Opd.tmp rfl) (Opd.tmp rfl) (fun _ _ _ h => ones_of ((OneCs.cons OneC.slice (OneCs.cons OneC.slice OneCs.nil))) h) rfl rfl) fun g19 => ?_
          refine RegL.pure (p := (pEq (.int .i64 (2 : Int)))) rfl rfl rfl (J_assign rfl Opd.con) ?_
          refine RegL.nil ?_
          refine Ct.then_tr ?_
          refine Tr.weak (Γ' := [(8, (pEq (.pointer (some ⟨b1, 0, none⟩)))), (9, (pEq (.int .i64 (2 : Int))))]) ⟨rfl, rfl, trivial⟩ ?_
          refine Tr.ret ?_
          refine Ct.then_ret ?_
          refine Ct.re (Ω2 := [oSS 23 2 1 (cK .i64) none 0 0 [] ([] : (List (List Int))), oBlk b1 [(pEq (.slice none 0 0)), (pEq (.slice none 0 0))]]) (fun h => nest_nil h) ?_
          refine Ct.re (Ω2 := [oSS 23 2 1 (cK .i64) none 0 0 [] ([] : (List (List Int))), oSS 23 2 1 (cK .i64) none 0 0 [] ([] : (List (List Int))), oBlk b1 [(pEq (.slice none 0 0)), (pEq (.slice none 0 0))]]) (fun h => nest_nil h) ?_
          refine Ct.re (Ω2 := [oSS 23 2 1 (cK .i64) none 0 0 [] ([] : (List (List Int))), oSS 23 2 1 (cK .i64) none 0 0 [] ([] : (List (List Int))), oBlk b1 [(pEq (.slice none 0 0)), (pEq (.slice none 0 0))]]) (fun h => SatO.pick 1 h) ?_
          refine Ct.re (Ω2 := [oBlk b1 [(pEq (.slice none 0 0)), (pEq (.slice none 0 0))], oSS 23 2 1 (cK .i64) none 0 0 [] ([] : (List (List Int))), oSS 23 2 1 (cK .i64) none 0 0 [] ([] : (List (List Int)))]) (fun h => SatO.pick 2 h) ?_
          replace h := Option.some.inj h; subst h
          exact Ct.retH2 (Ωx := [oBlk b1 [(pEq (.slice none 0 0)), (pEq (.slice none 0 0))]]) (((none, 0, 0), []), ((none, 0, 0), [])) rfl (RvOk.cellA (i := 0) Try.isAgg34 sz34 rfl rfl rfl) (RvOk.tmp rfl) rfl rfl
        · replace h := bif_f hc h
          refine Tr.skip ?_
          refine Ct.then_tr ?_
          refine Tr.weak (Γ' := [(0, (pSl 1 (cSl 1 (cK .i64)) rows_0)), (1, (pEq (.int .i64 target_1))), (2, (pSl 1 (cK .i64) table_2)), (3, (pSl 1 (cSl 1 (cK .i64)) domains_3)), (8, (pEq (.pointer (some ⟨b1, 0, none⟩))))]) ⟨rfl, rfl, rfl, rfl, rfl, trivial⟩ ?_
          refine Tr.seq ?_
          refine Tr.seq ?_
          refine Tr.region ?_
          refine RegL.pure (p := (pSl 1 (cSl 1 (cK .i64)) domains_3)) rfl rfl rfl (J_move rfl (Opd.tmp rfl)) ?_
          refine RegL.pure (p := (pEq (.int .i64 (domains_3.length : Int)))) rfl rfl rfl (J_len rfl Try.underlying22 (Opd.tmp rfl) rfl) ?_
          refine RegL.pure (p := (pSl 1 (cSl 1 (cK .i64)) rows_0)) rfl rfl rfl (J_move rfl (Opd.tmp rfl)) ?_
          replace h := bind_some h; obtain ⟨x22, hx22, h⟩ := h
          refine RegL.pure (p := (pPtr ((cSl 1 (cK .i64)) x22))) rfl rfl rfl (J_idx rfl Try.underlying22 sz23 (Opd.tmp rfl) Opd.con hx22) ?_
          refine RegL.pure (p := (pSl 1 (cK .i64) x22)) rfl rfl rfl (J_load rfl Try.isAgg23 (Opd.tmp rfl)) ?_
          refine RegL.pure (p := (pEq (.int .i64 (x22.length : Int)))) rfl rfl rfl (J_len rfl Try.underlying23 (Opd.tmp rfl) rfl) ?_
          refine RegL.pure (p := (pEq (.bool ((domains_3.length : Int) != (x22.length : Int))))) rfl rfl rfl (J_bin rfl (Opd.tmp rfl) (Opd.tmp rfl) B_neq) ?_
          refine RegL.nil ?_
          refine Ct.then_tr ?_
          refine Tr.weak (Γ' := [(0, (pSl 1 (cSl 1 (cK .i64)) rows_0)), (1, (pEq (.int .i64 target_1))), (2, (pSl 1 (cK .i64) table_2)), (3, (pSl 1 (cSl 1 (cK .i64)) domains_3)), (8, (pEq (.pointer (some ⟨b1, 0, none⟩)))), (43, (pEq (.bool ((domains_3.length : Int) != (x22.length : Int)))))]) ⟨rfl, rfl, rfl, rfl, rfl, rfl, trivial⟩ ?_
          refine Tr.cond (Opd.tmp rfl) (fun hc => ?_) (fun hc => ?_)
          · replace h := bif_t hc h
            refine Tr.seq ?_
            refine Tr.region ?_
            refine RegL.pure (p := (pAgg [(pEq (.slice none 0 0)), (pEq (.slice none 0 0))])) rfl rfl rfl (J_build (qss := []) rfl bl34 bz34o Parts.nil rfl) ?_
            refine RegL.stepN (γ := Unit) (p := fun _ => pAny) (Ω' := fun _ => [oBlk b1 [(pEq (.slice none 0 0)), (pEq (.slice none 0 0))]]) rfl rfl (M_storeA rfl sz34 (Opd.tmp rfl) (Opd.tmp rfl) (fun _ _ _ h => ones_of ((OneCs.cons OneC.slice (OneCs.cons OneC.slice OneCs.nil))) h) rfl rfl) fun g23 => ?_
            refine RegL.pure (p := (pEq (.int .i64 (6 : Int)))) rfl rfl rfl (J_assign rfl Opd.con) ?_
            refine RegL.nil ?_
            refine Ct.then_tr ?_
            refine Tr.weak (Γ' := [(8, (pEq (.pointer (some ⟨b1, 0, none⟩)))), (9, (pEq (.int .i64 (6 : Int))))]) ⟨rfl, rfl, trivial⟩ ?_
            refine Tr.ret ?_
            refine Ct.then_ret ?_
            refine Ct.re (Ω2 := [oSS 23 2 1 (cK .i64) none 0 0 [] ([] : (List (List Int))), oBlk b1 [(pEq (.slice none 0 0)), (pEq (.slice none 0 0))]]) (fun h => nest_nil h) ?_
            refine Ct.re (Ω2 := [oSS 23 2 1 (cK .i64) none 0 0 [] ([] : (List (List Int))), oSS 23 2 1 (cK .i64) none 0 0 [] ([] : (List (List Int))), oBlk b1 [(pEq (.slice none 0 0)), (pEq (.slice none 0 0))]]) (fun h => nest_nil h) ?_
            refine Ct.re (Ω2 := [oSS 23 2 1 (cK .i64) none 0 0 [] ([] : (List (List Int))), oSS 23 2 1 (cK .i64) none 0 0 [] ([] : (List (List Int))), oBlk b1 [(pEq (.slice none 0 0)), (pEq (.slice none 0 0))]]) (fun h => SatO.pick 1 h) ?_
            refine Ct.re (Ω2 := [oBlk b1 [(pEq (.slice none 0 0)), (pEq (.slice none 0 0))], oSS 23 2 1 (cK .i64) none 0 0 [] ([] : (List (List Int))), oSS 23 2 1 (cK .i64) none 0 0 [] ([] : (List (List Int)))]) (fun h => SatO.pick 2 h) ?_
            replace h := Option.some.inj h; subst h
            exact Ct.retH2 (Ωx := [oBlk b1 [(pEq (.slice none 0 0)), (pEq (.slice none 0 0))]]) (((none, 0, 0), []), ((none, 0, 0), [])) rfl (RvOk.cellA (i := 0) Try.isAgg34 sz34 rfl rfl rfl) (RvOk.tmp rfl) rfl rfl
          · replace h := bif_f hc h
            refine Tr.skip ?_
            refine Ct.then_tr ?_
            refine Tr.weak (Γ' := [(0, (pSl 1 (cSl 1 (cK .i64)) rows_0)), (1, (pEq (.int .i64 target_1))), (2, (pSl 1 (cK .i64) table_2)), (3, (pSl 1 (cSl 1 (cK .i64)) domains_3)), (8, (pEq (.pointer (some ⟨b1, 0, none⟩))))]) ⟨rfl, rfl, rfl, rfl, rfl, trivial⟩ ?_
            refine Tr.seq ?_
            refine Tr.region ?_
            refine RegL.pure (p := (pSl 1 (cSl 1 (cK .i64)) domains_3)) rfl rfl rfl (J_move rfl (Opd.tmp rfl)) ?_
            replace h := bind_some h; obtain ⟨x26, hx26, h⟩ := h
            refine RegL.step (γ := (G3 × List G3)) (p := fun g => (pEq (.slice g.1.1 g.1.2.1 g.1.2.2))) (Ω' := fun g => [oSS 23 2 1 (cK .i64) g.1.1 g.1.2.1 g.1.2.2 g.2 x26, oBlk b1 [(pEq (.slice none 0 0)), (pEq (.slice none 0 0))]]) rfl rfl rfl (M_callH (Ωi := []) rfl Try.call44 (o_spec_l17OwnLists hx26) (Opds.cons (Opd.tmp rfl) Opds.nil)) fun g27 => ?_
            refine RegL.pure (p := (pSl 1 (cSl 1 (cK .i64)) rows_0)) rfl rfl rfl (J_move rfl (Opd.tmp rfl)) ?_
            replace h := bind_some h; obtain ⟨x29, hx29, h⟩ := h
            refine RegL.pure (p := (pSl 1 (cSl 1 (cK .i64)) x29)) rfl rfl rfl (J_call rfl Try.call45 (c_spec_l16Pairs hx29) (Opds.cons (Opd.tmp rfl) Opds.nil)) ?_
            refine RegL.pure (p := (pEq (.int .i64 target_1))) rfl rfl rfl (J_move rfl (Opd.tmp rfl)) ?_
            refine RegL.pure (p := (pSl 1 (cK .i64) table_2)) rfl rfl rfl (J_move rfl (Opd.tmp rfl)) ?_
            replace h := bind_some h; obtain ⟨x30, hx30, h⟩ := h
            refine RegL.step (γ := (G3 × List G3)) (p := fun g => (pEq (.slice g.1.1 g.1.2.1 g.1.2.2))) (Ω' := fun g => [oSS 23 2 1 (cK .i64) g.1.1 g.1.2.1 g.1.2.2 g.2 x30, oSS 23 2 1 (cK .i64) g27.1.1 g27.1.2.1 g27.1.2.2 g27.2 x26, oBlk b1 [(pEq (.slice none 0 0)), (pEq (.slice none 0 0))]]) rfl rfl rfl (M_callH (Ωi := []) rfl Try.call36 (o_spec_l16Need hx30) (Opds.cons (Opd.tmp rfl) (Opds.cons (Opd.tmp rfl) (Opds.cons (Opd.tmp rfl) Opds.nil)))) fun g31 => ?_
            refine RegL.pure (p := (pAgg [(pEq (.slice g27.1.1 g27.1.2.1 g27.1.2.2)), (pEq (.slice g31.1.1 g31.1.2.1 g31.1.2.2))])) rfl rfl rfl (J_build (qss := [(0, [(pEq (.slice g27.1.1 g27.1.2.1 g27.1.2.2))]), (1, [(pEq (.slice g31.1.1 g31.1.2.1 g31.1.2.2))])]) rfl bl34 bz34o (Parts.cons (Part.one (Opd.tmp rfl) OneC.slice) (Parts.cons (Part.one (Opd.tmp rfl) OneC.slice) Parts.nil)) rfl) ?_
            refine RegL.re (Ω2 := [oBlk b1 [(pEq (.slice none 0 0)), (pEq (.slice none 0 0))], oSS 23 2 1 (cK .i64) g31.1.1 g31.1.2.1 g31.1.2.2 g31.2 x30, oSS 23 2 1 (cK .i64) g27.1.1 g27.1.2.1 g27.1.2.2 g27.2 x26]) (fun h => SatO.pick 2 h) ?_
            refine RegL.stepN (γ := Unit) (p := fun _ => pAny) (Ω' := fun _ => [oBlk b1 [(pEq (.slice g27.1.1 g27.1.2.1 g27.1.2.2)), (pEq (.slice g31.1.1 g31.1.2.1 g31.1.2.2))], oSS 23 2 1 (cK .i64) g31.1.1 g31.1.2.1 g31.1.2.2 g31.2 x30, oSS 23 2 1 (cK .i64) g27.1.1 g27.1.2.1 g27.1.2.2 g27.2 x26]) rfl rfl (M_storeA rfl sz34 (Opd.tmp rfl) (Opd.tmp rfl) (fun _ _ _ h => ones_of ((OneCs.cons OneC.slice (OneCs.cons OneC.slice OneCs.nil))) h) rfl rfl) fun g33 => ?_
            refine RegL.pure (p := (pEq (.int .i64 (0 : Int)))) rfl rfl rfl (J_assign rfl Opd.con) ?_
            refine RegL.nil ?_
            refine Ct.then_tr ?_
            refine Tr.weak (Γ' := [(8, (pEq (.pointer (some ⟨b1, 0, none⟩)))), (9, (pEq (.int .i64 (0 : Int))))]) ⟨rfl, rfl, trivial⟩ ?_
            refine Tr.ret ?_
            refine Ct.re (Ω2 := [oSS 23 2 1 (cK .i64) g31.1.1 g31.1.2.1 g31.1.2.2 g31.2 x30, oBlk b1 [(pEq (.slice g27.1.1 g27.1.2.1 g27.1.2.2)), (pEq (.slice g31.1.1 g31.1.2.1 g31.1.2.2))], oSS 23 2 1 (cK .i64) g27.1.1 g27.1.2.1 g27.1.2.2 g27.2 x26]) (fun h => SatO.pick 1 h) ?_
            refine Ct.re (Ω2 := [oSS 23 2 1 (cK .i64) g27.1.1 g27.1.2.1 g27.1.2.2 g27.2 x26, oSS 23 2 1 (cK .i64) g31.1.1 g31.1.2.1 g31.1.2.2 g31.2 x30, oBlk b1 [(pEq (.slice g27.1.1 g27.1.2.1 g27.1.2.2)), (pEq (.slice g31.1.1 g31.1.2.1 g31.1.2.2))]]) (fun h => SatO.pick 2 h) ?_
            refine Ct.re (Ω2 := [oBlk b1 [(pEq (.slice g27.1.1 g27.1.2.1 g27.1.2.2)), (pEq (.slice g31.1.1 g31.1.2.1 g31.1.2.2))], oSS 23 2 1 (cK .i64) g27.1.1 g27.1.2.1 g27.1.2.2 g27.2 x26, oSS 23 2 1 (cK .i64) g31.1.1 g31.1.2.1 g31.1.2.2 g31.2 x30]) (fun h => SatO.pick 2 h) ?_
            replace h := Option.some.inj h; subst h
            exact Ct.retH2 (Ωx := [oBlk b1 [(pEq (.slice g27.1.1 g27.1.2.1 g27.1.2.2)), (pEq (.slice g31.1.1 g31.1.2.1 g31.1.2.2))]]) (((g27.1.1, g27.1.2.1, g27.1.2.2), g27.2), ((g31.1.1, g31.1.2.1, g31.1.2.2), g31.2)) rfl (RvOk.cellA (i := 0) Try.isAgg34 sz34 rfl rfl rfl) (RvOk.tmp rfl) rfl rfl

theorem c_spec_ProblemOf {rows_0 : (List (List Int))} {target_1 : Int} {table_2 : (List Int)} {domains_3 : (List (List Int))} {r : (GProblem × Int)} (h : m_spec_ProblemOf rows_0 target_1 table_2 domains_3 = some r) : CallJ Try.prog 17 [(pSl 1 (cSl 1 (cK .i64)) rows_0), (pEq (.int .i64 target_1)), (pSl 1 (cK .i64) table_2), (pSl 1 (cSl 1 (cK .i64)) domains_3)] (pTup [(pAgg (cGProblem r.1)), (pEq (.int .i64 r.2))]) :=
  CallH.frozen (o_spec_ProblemOf h) (fun g => (Conv.tup (Convs.cons (Conv.agg (Convs.cons (Conv.nest 0 (fun _ => rfl) rfl) (Convs.cons (Conv.nest 1 (fun _ => rfl) rfl) Convs.nil))) (Convs.cons Conv.refl Convs.nil))))

theorem c_impl_within {n_0 : Int} {low_1 : Int} {high_2 : Int} {r : Bool} (h : m_impl_within n_0 low_1 high_2 = some r) : CallJ Try.prog 55 [(pEq (.int .i64 n_0)), (pEq (.int .i64 low_1)), (pEq (.int .i64 high_2))] (pEq (.bool r)) := by
  unfold m_impl_within at h
  refine CallJ.enterH Try.func55 rfl Try.ntmps55 rfl fun W I0 H => ?_
  refine Tr.weak (Γ' := [(0, (pEq (.int .i64 n_0))), (1, (pEq (.int .i64 low_1))), (2, (pEq (.int .i64 high_2)))]) ⟨rfl, rfl, rfl, trivial⟩ ?_
  refine Tr.seq ?_
  refine Tr.region ?_
  refine RegL.pure (p := (pEq (.bool false))) rfl rfl rfl (J_assign rfl Opd.con) ?_
  refine RegL.nil ?_
  refine Ct.then_tr ?_
  refine Tr.weak (Γ' := [(0, (pEq (.int .i64 n_0))), (1, (pEq (.int .i64 low_1))), (2, (pEq (.int .i64 high_2)))]) ⟨rfl, rfl, rfl, trivial⟩ ?_
  refine Tr.seq ?_
  replace h := bind_some h; obtain ⟨x1, hx1, h⟩ := h
  refine Tr.cut (γ := Unit) (Γm := fun g => [(6, (pEq (.bool x1)))]) (Ωm := fun g => []) ?_ (fun g3 => ?_)
  · clear h
    have h := hx1
    clear hx1
    refine Tr.region ?_
    refine RegL.pure (p := (pEq (.int .i64 n_0))) rfl rfl rfl (J_move rfl (Opd.tmp rfl)) ?_
    refine RegL.pure (p := (pEq (.int .i64 low_1))) rfl rfl rfl (J_move rfl (Opd.tmp rfl)) ?_
    refine RegL.pure (p := (pEq (.bool (decide (low_1 ≤ n_0))))) rfl rfl rfl (J_bin rfl (Opd.tmp rfl) (Opd.tmp rfl) B_geq) ?_
    refine RegL.pure (p := (pEq (.bool (decide (low_1 ≤ n_0))))) rfl rfl rfl (J_move rfl (Opd.tmp rfl)) ?_
    rcases Bool.eq_false_or_eq_true (decide (low_1 ≤ n_0)) with hc2 | hc2
    · replace h := bif_t hc2 h
      refine RegL.pureG (p := (pEq (.int .i64 n_0))) rfl rfl rfl hc2 rfl rfl (J_move rfl (Opd.tmp rfl)) ?_
      refine RegL.pureG (p := (pEq (.int .i64 high_2))) rfl rfl rfl hc2 rfl rfl (J_move rfl (Opd.tmp rfl)) ?_
      refine RegL.pureG (p := (pEq (.bool (decide (n_0 ≤ high_2))))) rfl rfl rfl hc2 rfl rfl (J_bin rfl (Opd.tmp rfl) (Opd.tmp rfl) B_leq) ?_
      refine RegL.pure (p := (pEq (.bool (decide (n_0 ≤ high_2))))) rfl rfl rfl (J_pick rfl (Opd.tmp rfl) (fun _ => (Opd.tmp rfl)) (fun hf => absurd (hc2.symm.trans hf) (by decide))) ?_
      refine RegL.pure (p := (pEq (.bool (decide (n_0 ≤ high_2))))) rfl rfl rfl (J_assign rfl (Opd.tmp rfl)) ?_
      refine RegL.nil ?_
      replace h := Option.some.inj h; subst h
      exact Ct.mid () rfl ⟨rfl, trivial⟩
    · replace h := bif_f hc2 h
      refine RegL.skipG rfl rfl rfl hc2 rfl rfl ?_
      refine RegL.skipG rfl rfl rfl hc2 rfl rfl ?_
      refine RegL.skipG rfl rfl rfl hc2 rfl rfl ?_
      refine RegL.pure (p := (pEq (.bool false))) rfl rfl rfl (J_pick rfl (Opd.tmp rfl) (fun hf => absurd (hc2.symm.trans hf) (by decide)) (fun _ => Opd.con)) ?_
      refine RegL.pure (p := (pEq (.bool false))) rfl rfl rfl (J_assign rfl (Opd.tmp rfl)) ?_
      refine RegL.nil ?_
      replace h := Option.some.inj h; subst h
      exact Ct.mid () rfl ⟨rfl, trivial⟩
  · clear hx1
    refine Ct.then_tr ?_
    refine Tr.weak (Γ' := [(6, (pEq (.bool x1)))]) ⟨rfl, trivial⟩ ?_
    refine Tr.ret ?_
    replace h := Option.some.inj h; subst h
    exact Ct.retH1 (Ωx := []) () rfl (RvOk.tmp rfl) rfl

theorem c_impl_allWithin_1 {n_0 : Int} {a_1 : Int} {a_2 : Int} {r : Bool} (h : m_impl_allWithin_1 n_0 a_1 a_2 = some r) : CallJ Try.prog 121 [(pEq (.int .i64 n_0)), (pPtr ((cK .i64) a_1)), (pPtr ((cK .i64) a_2))] (pEq (.bool r)) := by
  unfold m_impl_allWithin_1 at h
  refine CallJ.enterH Try.func121 rfl Try.ntmps121 rfl fun W I0 H => ?_
  refine Tr.weak (Γ' := [(0, (pEq (.int .i64 n_0))), (1, (pPtr ((cK .i64) a_1))), (2, (pPtr ((cK .i64) a_2)))]) ⟨rfl, rfl, rfl, trivial⟩ ?_
  refine Tr.seq ?_
  refine Tr.region ?_
  refine RegL.pure (p := (pEq (.bool false))) rfl rfl rfl (J_assign rfl Opd.con) ?_
  refine RegL.nil ?_
  refine Ct.then_tr ?_
  refine Tr.weak (Γ' := [(0, (pEq (.int .i64 n_0))), (1, (pPtr ((cK .i64) a_1))), (2, (pPtr ((cK .i64) a_2)))]) ⟨rfl, rfl, rfl, trivial⟩ ?_
  refine Tr.seq ?_
  refine Tr.region ?_
  refine RegL.pure (p := (pEq (.int .i64 n_0))) rfl rfl rfl (J_move rfl (Opd.tmp rfl)) ?_
  refine RegL.pure (p := (pEq (.int .i64 a_1))) rfl rfl rfl (J_load rfl Try.isAgg2 (Opd.tmp rfl)) ?_
  refine RegL.pure (p := (pEq (.int .i64 a_2))) rfl rfl rfl (J_load rfl Try.isAgg2 (Opd.tmp rfl)) ?_
  replace h := bind_some h; obtain ⟨x1, hx1, h⟩ := h
  refine RegL.pure (p := (pEq (.bool x1))) rfl rfl rfl (J_call rfl Try.call55 (c_impl_within hx1) (Opds.cons (Opd.tmp rfl) (Opds.cons (Opd.tmp rfl) (Opds.cons (Opd.tmp rfl) Opds.nil)))) ?_
  refine RegL.pure (p := (pEq (.bool (!x1)))) rfl rfl rfl (J_not rfl (Opd.tmp rfl)) ?_
  refine RegL.pure (p := (pEq (.bool (!x1)))) rfl rfl rfl (J_assign rfl (Opd.tmp rfl)) ?_
  refine RegL.nil ?_
  refine Ct.then_tr ?_
  refine Tr.weak (Γ' := [(4, (pEq (.bool (!x1))))]) ⟨rfl, trivial⟩ ?_
  refine Tr.ret ?_
  replace h := Option.some.inj h; subst h
  exact Ct.retH1 (Ωx := []) () rfl (RvOk.tmp rfl) rfl

theorem c_slices_IndexFunc_int64_int64 {s_0 : (List Int)} {f_1 : (Int → Option Bool)} {r : Int} (h : m_slices_IndexFunc_int64_int64 s_0 f_1 = some r) : CallJ Try.prog 86 [(pSl 1 (cK .i64) s_0), (pFn Try.prog (fun x => [(pEq (.int .i64 x))]) f_1 (fun y => (pEq (.bool y))))] (pEq (.int .i64 r)) := by
  unfold m_slices_IndexFunc_int64_int64 at h
  refine CallJ.enterH Try.func86 rfl Try.ntmps86 rfl fun W I0 H => ?_
  refine Tr.weak (Γ' := [(0, (pSl 1 (cK .i64) s_0)), (1, (pFn Try.prog (fun x => [(pEq (.int .i64 x))]) f_1 (fun y => (pEq (.bool y)))))]) ⟨rfl, rfl, trivial⟩ ?_
  refine Tr.seq ?_
  refine Tr.region ?_
  refine RegL.pure (p := (pEq (.int .i64 (0 : Int)))) rfl rfl rfl (J_assign rfl Opd.con) ?_
  refine RegL.nil ?_
  refine Ct.then_tr ?_
  refine Tr.weak (Γ' := [(0, (pSl 1 (cK .i64) s_0)), (1, (pFn Try.prog (fun x => [(pEq (.int .i64 x))]) f_1 (fun y => (pEq (.bool y)))))]) ⟨rfl, rfl, trivial⟩ ?_
  refine Tr.seq ?_
  refine Tr.seq ?_
  refine Tr.region ?_
  refine RegL.pure (p := (pSl 1 (cK .i64) s_0)) rfl rfl rfl (J_move rfl (Opd.tmp rfl)) ?_
  refine RegL.pure (p := (pEq (.int .i64 (s_0.length : Int)))) rfl rfl rfl (J_len rfl Try.underlying23 (Opd.tmp rfl) rfl) ?_
  refine RegL.pure (p := (pEq (.int .i64 (0 : Int)))) rfl rfl rfl (J_move rfl Opd.con) ?_
  refine RegL.nil ?_
  refine Ct.then_tr ?_
  refine Tr.weak (Γ' := [(0, (pSl 1 (cK .i64) s_0)), (1, (pFn Try.prog (fun x => [(pEq (.int .i64 x))]) f_1 (fun y => (pEq (.bool y))))), (7, (pEq (.int .i64 (s_0.length : Int)))), (8, (pEq (.int .i64 (0 : Int))))]) ⟨rfl, rfl, rfl, rfl, trivial⟩ ?_
  refine Tr.block ?_
  refine Tr.weak (Γ' := [(0, (pSl 1 (cK .i64) s_0)), (1, (pFn Try.prog (fun x => [(pEq (.int .i64 x))]) f_1 (fun y => (pEq (.bool y))))), (7, (pEq (.int .i64 (s_0.length : Int)))), (8, (pEq (.int .i64 (0 : Int))))]) ⟨rfl, rfl, rfl, rfl, trivial⟩ ?_
  refine Tr.loop (γ := Unit) (σ := Int) (Γσ := fun s g => [(0, (pSl 1 (cK .i64) s_0)), (1, (pFn Try.prog (fun x => [(pEq (.int .i64 x))]) f_1 (fun y => (pEq (.bool y))))), (7, (pEq (.int .i64 (s_0.length : Int)))), (8, (pEq (.int .i64 s)))]) (Ωσ := fun s g => []) (g := ()) h ?_
  clear h
  rintro v2 g3 t h
  replace h : m_slices_IndexFunc_int64_int64_B1 s_0 f_1 v2 = some t := h
  unfold m_slices_IndexFunc_int64_int64_B1 at h
  refine Tr.weakO (Γ' := [(0, (pSl 1 (cK .i64) s_0)), (1, (pFn Try.prog (fun x => [(pEq (.int .i64 x))]) f_1 (fun y => (pEq (.bool y))))), (7, (pEq (.int .i64 (s_0.length : Int)))), (8, (pEq (.int .i64 v2)))]) (Ω' := []) rfl ⟨rfl, rfl, rfl, rfl, trivial⟩ ?_
  refine Tr.seq ?_
  refine Tr.region ?_
  refine RegL.pure (p := (pEq (.bool (decide (v2 < (s_0.length : Int)))))) rfl rfl rfl (J_bin rfl (Opd.tmp rfl) (Opd.tmp rfl) B_lss) ?_
  refine RegL.nil ?_
  refine Ct.then_tr ?_
  refine Tr.weak (Γ' := [(0, (pSl 1 (cK .i64) s_0)), (1, (pFn Try.prog (fun x => [(pEq (.int .i64 x))]) f_1 (fun y => (pEq (.bool y))))), (7, (pEq (.int .i64 (s_0.length : Int)))), (8, (pEq (.int .i64 v2))), (9, (pEq (.bool (decide (v2 < (s_0.length : Int))))))]) ⟨rfl, rfl, rfl, rfl, rfl, trivial⟩ ?_
  refine Tr.seq ?_
  refine Tr.cond (Opd.tmp rfl) (fun hc => ?_) (fun hc => ?_)
  · replace h := bif_t hc h
    refine Tr.skip ?_
    refine Ct.then_tr ?_
    refine Tr.weak (Γ' := [(0, (pSl 1 (cK .i64) s_0)), (1, (pFn Try.prog (fun x => [(pEq (.int .i64 x))]) f_1 (fun y => (pEq (.bool y))))), (7, (pEq (.int .i64 (s_0.length : Int)))), (8, (pEq (.int .i64 v2)))]) ⟨rfl, rfl, rfl, rfl, trivial⟩ ?_
    refine Tr.seq ?_
    refine Tr.block ?_
    refine Tr.seq ?_
    refine Tr.region ?_
    refine RegL.pure (p := (pEq (.int .i64 v2))) rfl rfl rfl (J_move rfl (Opd.tmp rfl)) ?_
    refine RegL.pure (p := (pEq (.int .i64 v2))) rfl rfl rfl (J_assign rfl (Opd.tmp rfl)) ?_
    refine RegL.nil ?_
    refine Ct.then_tr ?_
    refine Tr.weak (Γ' := [(0, (pSl 1 (cK .i64) s_0)), (1, (pFn Try.prog (fun x => [(pEq (.int .i64 x))]) f_1 (fun y => (pEq (.bool y))))), (5, (pEq (.int .i64 v2))), (7, (pEq (.int .i64 (s_0.length : Int)))), (8, (pEq (.int .i64 v2)))]) ⟨rfl, rfl, rfl, rfl, rfl, trivial⟩ ?_
    refine Tr.seq ?_
    refine Tr.region ?_
    refine RegL.pure (p := (pFn Try.prog (fun x => [(pEq (.int .i64 x))]) f_1 (fun y => (pEq (.bool y))))) rfl rfl rfl (J_move rfl (Opd.tmp rfl)) ?_
    refine RegL.pure (p := (pSl 1 (cK .i64) s_0)) rfl rfl rfl (J_move rfl (Opd.tmp rfl)) ?_
    refine RegL.pure (p := (pEq (.int .i64 v2))) rfl rfl rfl (J_move rfl (Opd.tmp rfl)) ?_
    replace h := bind_some h; obtain ⟨x4, hx4, h⟩ := h
    refine RegL.pure (p := (pPtr ((cK .i64) x4))) rfl rfl rfl (J_idx rfl Try.underlying23 sz2 (Opd.tmp rfl) (Opd.tmp rfl) hx4) ?_
    refine RegL.pure (p := (pEq (.int .i64 x4))) rfl rfl rfl (J_load rfl Try.isAgg2 (Opd.tmp rfl)) ?_
    replace h := bind_some h; obtain ⟨x5, hx5, h⟩ := h
    refine RegL.pure (p := (pEq (.bool x5))) rfl rfl rfl (J_callv (x := x4) rfl (Opd.tmp rfl) rfl (Opds.cons (Opd.tmp rfl) Opds.nil) hx5 rfl) ?_
    refine RegL.nil ?_
    refine Ct.then_tr ?_
    refine Tr.weak (Γ' := [(0, (pSl 1 (cK .i64) s_0)), (1, (pFn Try.prog (fun x => [(pEq (.int .i64 x))]) f_1 (fun y => (pEq (.bool y))))), (5, (pEq (.int .i64 v2))), (7, (pEq (.int .i64 (s_0.length : Int)))), (8, (pEq (.int .i64 v2))), (16, (pEq (.bool x5)))]) ⟨rfl, rfl, rfl, rfl, rfl, rfl, trivial⟩ ?_
    refine Tr.cond (Opd.tmp rfl) (fun hc => ?_) (fun hc => ?_)
    · replace h := bif_t hc h
      refine Tr.seq ?_
      refine Tr.region ?_
      refine RegL.pure (p := (pEq (.int .i64 v2))) rfl rfl rfl (J_move rfl (Opd.tmp rfl)) ?_
      refine RegL.pure (p := (pEq (.int .i64 v2))) rfl rfl rfl (J_assign rfl (Opd.tmp rfl)) ?_
      refine RegL.nil ?_
      refine Ct.then_tr ?_
      refine Tr.weak (Γ' := [(4, (pEq (.int .i64 v2)))]) ⟨rfl, trivial⟩ ?_
      refine Tr.ret ?_
      refine Ct.blk_ret ?_
      refine Ct.then_ret ?_
      replace h := map_some h; obtain ⟨r1, h, rfl⟩ := h
      refine Ct.out_ret fun e => ?_
      subst e
      refine Ct.blk_ret ?_
      refine Ct.then_ret ?_
      replace h := Option.some.inj h; subst h
      exact Ct.retH1 (Ωx := []) () rfl (RvOk.tmp rfl) rfl
    · replace h := bif_f hc h
      refine Tr.skip ?_
      refine Ct.blk_normal ?_
      refine Ct.then_tr ?_
      refine Tr.weak (Γ' := [(0, (pSl 1 (cK .i64) s_0)), (1, (pFn Try.prog (fun x => [(pEq (.int .i64 x))]) f_1 (fun y => (pEq (.bool y))))), (7, (pEq (.int .i64 (s_0.length : Int)))), (8, (pEq (.int .i64 v2)))]) ⟨rfl, rfl, rfl, rfl, trivial⟩ ?_
      refine Tr.region ?_
      refine RegL.pure (p := (pEq (.int .i64 (w64 (v2 + (1 : Int)))))) rfl rfl rfl (J_bin rfl (Opd.tmp rfl) Opd.con B_add) ?_
      refine RegL.pure (p := (pEq (.int .i64 (w64 (v2 + (1 : Int)))))) rfl rfl rfl (J_move rfl (Opd.tmp rfl)) ?_
      refine RegL.nil ?_
      replace h := Option.some.inj h; subst h
      exact Ct.again () rfl ⟨rfl, rfl, rfl, rfl, trivial⟩
  · replace h := bif_f hc h
    refine Tr.exit ?_
    refine Ct.then_exit ?_
    replace h := map_some h; obtain ⟨r1, h, rfl⟩ := h
    refine Ct.out_exit fun e => ?_
    subst e
    refine Ct.blk_exit ?_
    refine Ct.then_tr ?_
    refine Tr.weak (Γ' := []) trivial ?_
    refine Tr.seq ?_
    refine Tr.region ?_
    refine RegL.pure (p := (pEq (.int .i64 (-1 : Int)))) rfl rfl rfl (J_assign rfl Opd.con) ?_
    refine RegL.nil ?_
    refine Ct.then_tr ?_
    refine Tr.weak (Γ' := [(4, (pEq (.int .i64 (-1 : Int))))]) ⟨rfl, trivial⟩ ?_
    refine Tr.ret ?_
    replace h := Option.some.inj h; subst h
    exact Ct.retH1 (Ωx := []) () rfl (RvOk.tmp rfl) rfl

theorem c_slices_ContainsFunc_int64_int64 {s_0 : (List Int)} {f_1 : (Int → Option Bool)} {r : Bool} (h : m_slices_ContainsFunc_int64_int64 s_0 f_1 = some r) : CallJ Try.prog 120 [(pSl 1 (cK .i64) s_0), (pFn Try.prog (fun x => [(pEq (.int .i64 x))]) f_1 (fun y => (pEq (.bool y))))] (pEq (.bool r)) := by
  unfold m_slices_ContainsFunc_int64_int64 at h
  refine CallJ.enterH Try.func120 rfl Try.ntmps120 rfl fun W I0 H => ?_
  refine Tr.weak (Γ' := [(0, (pSl 1 (cK .i64) s_0)), (1, (pFn Try.prog (fun x => [(pEq (.int .i64 x))]) f_1 (fun y => (pEq (.bool y)))))]) ⟨rfl, rfl, trivial⟩ ?_
  refine Tr.seq ?_
  refine Tr.region ?_
  refine RegL.pure (p := (pEq (.bool false))) rfl rfl rfl (J_assign rfl Opd.con) ?_
  refine RegL.nil ?_
  refine Ct.then_tr ?_
  refine Tr.weak (Γ' := [(0, (pSl 1 (cK .i64) s_0)), (1, (pFn Try.prog (fun x => [(pEq (.int .i64 x))]) f_1 (fun y => (pEq (.bool y)))))]) ⟨rfl, rfl, trivial⟩ ?_
  refine Tr.seq ?_
  refine Tr.region ?_
  refine RegL.pure (p := (pSl 1 (cK .i64) s_0)) rfl rfl rfl (J_move rfl (Opd.tmp rfl)) ?_
  refine RegL.pure (p := (pFn Try.prog (fun x => [(pEq (.int .i64 x))]) f_1 (fun y => (pEq (.bool y))))) rfl rfl rfl (J_move rfl (Opd.tmp rfl)) ?_
  replace h := bind_some h; obtain ⟨x1, hx1, h⟩ := h
  refine RegL.pure (p := (pEq (.int .i64 x1))) rfl rfl rfl (J_call rfl Try.call86 (c_slices_IndexFunc_int64_int64 hx1) (Opds.cons (Opd.tmp rfl) (Opds.cons (Opd.tmp rfl) Opds.nil))) ?_
  refine RegL.pure (p := (pEq (.bool (decide ((0 : Int) ≤ x1))))) rfl rfl rfl (J_bin rfl (Opd.tmp rfl) Opd.con B_geq) ?_
  refine RegL.pure (p := (pEq (.bool (decide ((0 : Int) ≤ x1))))) rfl rfl rfl (J_assign rfl (Opd.tmp rfl)) ?_
  refine RegL.nil ?_
  refine Ct.then_tr ?_
  refine Tr.weak (Γ' := [(4, (pEq (.bool (decide ((0 : Int) ≤ x1)))))]) ⟨rfl, trivial⟩ ?_
  refine Tr.ret ?_
  replace h := Option.some.inj h; subst h
  exact Ct.retH1 (Ωx := []) () rfl (RvOk.tmp rfl) rfl

theorem c_impl_allWithin {list_0 : (List Int)} {low_1 : Int} {high_2 : Int} {r : Bool} (h : m_impl_allWithin list_0 low_1 high_2 = some r) : CallJ Try.prog 84 [(pSl 1 (cK .i64) list_0), (pEq (.int .i64 low_1)), (pEq (.int .i64 high_2))] (pEq (.bool r)) := by
  unfold m_impl_allWithin at h
  refine CallJ.enterH Try.func84 rfl Try.ntmps84 rfl fun W I0 H => ?_
  refine Tr.weak (Γ' := [(0, (pSl 1 (cK .i64) list_0)), (1, (pEq (.int .i64 low_1))), (2, (pEq (.int .i64 high_2)))]) ⟨rfl, rfl, rfl, trivial⟩ ?_
  refine Tr.seq ?_
  refine Tr.region ?_
  refine RegL.pure (p := (pPtr ((cK .i64) low_1))) rfl rfl rfl (J_box rfl (Opd.tmp rfl) OneC.int) ?_
  refine RegL.pure (p := (pPtr ((cK .i64) high_2))) rfl rfl rfl (J_box rfl (Opd.tmp rfl) OneC.int) ?_
  refine RegL.pure (p := (pEq (.bool false))) rfl rfl rfl (J_assign rfl Opd.con) ?_
  refine RegL.nil ?_
  refine Ct.then_tr ?_
  refine Tr.weak (Γ' := [(0, (pSl 1 (cK .i64) list_0)), (4, (pPtr ((cK .i64) low_1))), (5, (pPtr ((cK .i64) high_2)))]) ⟨rfl, rfl, rfl, trivial⟩ ?_
  refine Tr.seq ?_
  refine Tr.region ?_
  refine RegL.pure (p := (pSl 1 (cK .i64) list_0)) rfl rfl rfl (J_move rfl (Opd.tmp rfl)) ?_
  refine RegL.pure (p := (pFn Try.prog (fun x => [(pEq (.int .i64 x))]) (fun x => m_impl_allWithin_1 x low_1 high_2) (fun y => (pEq (.bool y))))) rfl rfl rfl (J_makeFn rfl Try.call121 (Opds.cons (Opd.tmp rfl) (Opds.cons (Opd.tmp rfl) Opds.nil)) (fun _ _ h => c_impl_allWithin_1 h)) ?_
  replace h := bind_some h; obtain ⟨x1, hx1, h⟩ := h
  refine RegL.pure (p := (pEq (.bool x1))) rfl rfl rfl (J_call rfl Try.call120 (c_slices_ContainsFunc_int64_int64 hx1) (Opds.cons (Opd.tmp rfl) (Opds.cons (Opd.tmp rfl) Opds.nil))) ?_
  refine RegL.pure (p := (pEq (.bool (!x1)))) rfl rfl rfl (J_not rfl (Opd.tmp rfl)) ?_
  refine RegL.pure (p := (pEq (.bool (!x1)))) rfl rfl rfl (J_assign rfl (Opd.tmp rfl)) ?_
  refine RegL.nil ?_
  refine Ct.then_tr ?_
  refine Tr.weak (Γ' := [(6, (pEq (.bool (!x1))))]) ⟨rfl, trivial⟩ ?_
  refine Tr.ret ?_
  replace h := Option.some.inj h; subst h
  exact Ct.retH1 (Ωx := []) () rfl (RvOk.tmp rfl) rfl

theorem c_impl_rowOk {row_0 : (List Int)} {r : Bool} (h : m_impl_rowOk row_0 = some r) : CallJ Try.prog 93 [(pSl 1 (cK .i64) row_0)] (pEq (.bool r)) := by
  unfold m_impl_rowOk at h
  refine CallJ.enterH Try.func93 rfl Try.ntmps93 rfl fun W I0 H => ?_
  refine Tr.weak (Γ' := [(0, (pSl 1 (cK .i64) row_0))]) ⟨rfl, trivial⟩ ?_
  refine Tr.seq ?_
  refine Tr.region ?_
  refine RegL.pure (p := (pEq (.bool false))) rfl rfl rfl (J_assign rfl Opd.con) ?_
  refine RegL.nil ?_
  refine Ct.then_tr ?_
  refine Tr.weak (Γ' := [(0, (pSl 1 (cK .i64) row_0))]) ⟨rfl, trivial⟩ ?_
  refine Tr.seq ?_
  replace h := bind_some h; obtain ⟨x1, hx1, h⟩ := h
  refine Tr.cut (γ := Unit) (Γm := fun g => [(2, (pEq (.bool x1)))]) (Ωm := fun g => []) ?_ (fun g5 => ?_)
  · clear h
    have h := hx1
    clear hx1
    refine Tr.region ?_
    refine RegL.pure (p := (pSl 1 (cK .i64) row_0)) rfl rfl rfl (J_move rfl (Opd.tmp rfl)) ?_
    refine RegL.pure (p := (pEq (.int .i64 (row_0.length : Int)))) rfl rfl rfl (J_len rfl Try.underlying23 (Opd.tmp rfl) rfl) ?_
    refine RegL.pure (p := (pEq (.bool (decide ((1 : Int) ≤ (row_0.length : Int)))))) rfl rfl rfl (J_bin rfl (Opd.tmp rfl) Opd.con B_geq) ?_
    refine RegL.pure (p := (pEq (.bool (decide ((1 : Int) ≤ (row_0.length : Int)))))) rfl rfl rfl (J_move rfl (Opd.tmp rfl)) ?_
    rcases Bool.eq_false_or_eq_true (decide ((1 : Int) ≤ (row_0.length : Int))) with hc2 | hc2
    · replace h := bif_t hc2 h
      refine RegL.pureG (p := (pSl 1 (cK .i64) row_0)) rfl rfl rfl hc2 rfl rfl (J_move rfl (Opd.tmp rfl)) ?_
      refine RegL.pureG (p := (pEq (.int .i64 (row_0.length : Int)))) rfl rfl rfl hc2 rfl rfl (J_len rfl Try.underlying23 (Opd.tmp rfl) rfl) ?_
      refine RegL.pureG (p := (pEq (.bool (decide ((row_0.length : Int) ≤ (24 : Int)))))) rfl rfl rfl hc2 rfl rfl (J_bin rfl (Opd.tmp rfl) Opd.con B_leq) ?_
      refine RegL.pure (p := (pEq (.bool (decide ((row_0.length : Int) ≤ (24 : Int)))))) rfl rfl rfl (J_pick rfl (Opd.tmp rfl) (fun _ => (Opd.tmp rfl)) (fun hf => absurd (hc2.symm.trans hf) (by decide))) ?_
      refine RegL.pure (p := (pEq (.bool (decide ((row_0.length : Int) ≤ (24 : Int)))))) rfl rfl rfl (J_move rfl (Opd.tmp rfl)) ?_
      rcases Bool.eq_false_or_eq_true (decide ((row_0.length : Int) ≤ (24 : Int))) with hc3 | hc3
      · replace h := bif_t hc3 h
        refine RegL.pureG (p := (pSl 1 (cK .i64) row_0)) rfl rfl rfl hc3 rfl rfl (J_move rfl (Opd.tmp rfl)) ?_
        replace h := bind_some h; obtain ⟨x4, hx4, h⟩ := h
        refine RegL.pureG (p := (pEq (.bool x4))) rfl rfl rfl hc3 rfl rfl (J_call rfl Try.call84 (c_impl_allWithin hx4) (Opds.cons (Opd.tmp rfl) (Opds.cons Opd.con (Opds.cons Opd.con Opds.nil)))) ?_
        refine RegL.pure (p := (pEq (.bool x4))) rfl rfl rfl (J_pick rfl (Opd.tmp rfl) (fun _ => (Opd.tmp rfl)) (fun hf => absurd (hc3.symm.trans hf) (by decide))) ?_
        refine RegL.pure (p := (pEq (.bool x4))) rfl rfl rfl (J_assign rfl (Opd.tmp rfl)) ?_
        refine RegL.nil ?_
        replace h := Option.some.inj h; subst h
        exact Ct.mid () rfl ⟨rfl, trivial⟩
      · replace h := bif_f hc3 h
        refine RegL.skipG rfl rfl rfl hc3 rfl rfl ?_
        refine RegL.skipG rfl rfl rfl hc3 rfl rfl ?_
        refine RegL.pure (p := (pEq (.bool false))) rfl rfl rfl (J_pick rfl (Opd.tmp rfl) (fun hf => absurd (hc3.symm.trans hf) (by decide)) (fun _ => Opd.con)) ?_
        refine RegL.pure (p := (pEq (.bool false))) rfl rfl rfl (J_assign rfl (Opd.tmp rfl)) ?_
        refine RegL.nil ?_
        replace h := Option.some.inj h; subst h
        exact Ct.mid () rfl ⟨rfl, trivial⟩
    · replace h := bif_f hc2 h
      refine RegL.skipG rfl rfl rfl hc2 rfl rfl ?_
      refine RegL.skipG rfl rfl rfl hc2 rfl rfl ?_
      refine RegL.skipG rfl rfl rfl hc2 rfl rfl ?_
      refine RegL.pure (p := (pEq (.bool false))) rfl rfl rfl (J_pick rfl (Opd.tmp rfl) (fun hf => absurd (hc2.symm.trans hf) (by decide)) (fun _ => Opd.con)) ?_
      refine RegL.pure (p := (pEq (.bool false))) rfl rfl rfl (J_move rfl (Opd.tmp rfl)) ?_
      refine RegL.skipG rfl rfl rfl rfl rfl rfl ?_
      refine RegL.skipG rfl rfl rfl rfl rfl rfl ?_
      refine RegL.pure (p := (pEq (.bool false))) rfl rfl rfl (J_pick rfl (Opd.tmp rfl) (fun hf => absurd hf (by decide)) (fun _ => Opd.con)) ?_
      refine RegL.pure (p := (pEq (.bool false))) rfl rfl rfl (J_assign rfl (Opd.tmp rfl)) ?_
      refine RegL.nil ?_
      replace h := Option.some.inj h; subst h
      exact Ct.mid () rfl ⟨rfl, trivial⟩
  · clear hx1
    refine Ct.then_tr ?_
    refine Tr.weak (Γ' := [(2, (pEq (.bool x1)))]) ⟨rfl, trivial⟩ ?_
    refine Tr.ret ?_
    replace h := Option.some.inj h; subst h
    exact Ct.retH1 (Ωx := []) () rfl (RvOk.tmp rfl) rfl

theorem c_impl_ValidRows_1 {row_0 : (List Int)} {a_1 : (List (List Int))} {r : Bool} (h : m_impl_ValidRows_1 row_0 a_1 = some r) : CallJ Try.prog 92 [(pSl 1 (cK .i64) row_0), (pPtr ((cSl 1 (cSl 1 (cK .i64))) a_1))] (pEq (.bool r)) := by
  unfold m_impl_ValidRows_1 at h
  refine CallJ.enterH Try.func92 rfl Try.ntmps92 rfl fun W I0 H => ?_
  refine Tr.weak (Γ' := [(0, (pSl 1 (cK .i64) row_0)), (1, (pPtr ((cSl 1 (cSl 1 (cK .i64))) a_1)))]) ⟨rfl, rfl, trivial⟩ ?_
  refine Tr.seq ?_
  refine Tr.region ?_
  refine RegL.pure (p := (pEq (.bool false))) rfl rfl rfl (J_assign rfl Opd.con) ?_
  refine RegL.nil ?_
  refine Ct.then_tr ?_
  refine Tr.weak (Γ' := [(0, (pSl 1 (cK .i64) row_0)), (1, (pPtr ((cSl 1 (cSl 1 (cK .i64))) a_1)))]) ⟨rfl, rfl, trivial⟩ ?_
  refine Tr.seq ?_
  replace h := bind_some h; obtain ⟨x1, hx1, h⟩ := h
  refine Tr.cut (γ := Unit) (Γm := fun g => [(3, (pEq (.bool x1)))]) (Ωm := fun g => []) ?_ (fun g5 => ?_)
  · clear h
    have h := hx1
    clear hx1
    refine Tr.region ?_
    refine RegL.pure (p := (pSl 1 (cK .i64) row_0)) rfl rfl rfl (J_move rfl (Opd.tmp rfl)) ?_
    replace h := bind_some h; obtain ⟨x2, hx2, h⟩ := h
    refine RegL.pure (p := (pEq (.bool x2))) rfl rfl rfl (J_call rfl Try.call93 (c_impl_rowOk hx2) (Opds.cons (Opd.tmp rfl) Opds.nil)) ?_
    refine RegL.pure (p := (pEq (.bool (!x2)))) rfl rfl rfl (J_not rfl (Opd.tmp rfl)) ?_
    refine RegL.pure (p := (pEq (.bool (!x2)))) rfl rfl rfl (J_move rfl (Opd.tmp rfl)) ?_
    rcases Bool.eq_false_or_eq_true (!x2) with hc3 | hc3
    · replace h := bif_t hc3 h
      refine RegL.skipG rfl rfl rfl hc3 rfl rfl ?_
      refine RegL.skipG rfl rfl rfl hc3 rfl rfl ?_
      refine RegL.skipG rfl rfl rfl hc3 rfl rfl ?_
      refine RegL.skipG rfl rfl rfl hc3 rfl rfl ?_
      refine RegL.skipG rfl rfl rfl hc3 rfl rfl ?_
      refine RegL.skipG rfl rfl rfl hc3 rfl rfl ?_
      refine RegL.skipG rfl rfl rfl hc3 rfl rfl ?_
      refine RegL.pure (p := (pEq (.bool true))) rfl rfl rfl (J_pick rfl (Opd.tmp rfl) (fun _ => Opd.con) (fun hf => absurd (hc3.symm.trans hf) (by decide))) ?_
      refine RegL.pure (p := (pEq (.bool true))) rfl rfl rfl (J_assign rfl (Opd.tmp rfl)) ?_
      refine RegL.nil ?_
      replace h := Option.some.inj h; subst h
      exact Ct.mid () rfl ⟨rfl, trivial⟩
    · replace h := bif_f hc3 h
      refine RegL.pureG (p := (pSl 1 (cK .i64) row_0)) rfl rfl rfl hc3 rfl rfl (J_move rfl (Opd.tmp rfl)) ?_
      refine RegL.pureG (p := (pEq (.int .i64 (row_0.length : Int)))) rfl rfl rfl hc3 rfl rfl (J_len rfl Try.underlying23 (Opd.tmp rfl) rfl) ?_
      refine RegL.pureG (p := (pSl 1 (cSl 1 (cK .i64)) a_1)) rfl rfl rfl hc3 rfl rfl (J_load rfl Try.isAgg22 (Opd.tmp rfl)) ?_
      replace h := bind_some h; obtain ⟨x4, hx4, h⟩ := h
      refine RegL.pureG (p := (pPtr ((cSl 1 (cK .i64)) x4))) rfl rfl rfl hc3 rfl rfl (J_idx rfl Try.underlying22 sz23 (Opd.tmp rfl) Opd.con hx4) ?_
      refine RegL.pureG (p := (pSl 1 (cK .i64) x4)) rfl rfl rfl hc3 rfl rfl (J_load rfl Try.isAgg23 (Opd.tmp rfl)) ?_
      refine RegL.pureG (p := (pEq (.int .i64 (x4.length : Int)))) rfl rfl rfl hc3 rfl rfl (J_len rfl Try.underlying23 (Opd.tmp rfl) rfl) ?_
      refine RegL.pureG (p := (pEq (.bool ((row_0.length : Int) != (x4.length : Int))))) rfl rfl rfl hc3 rfl rfl (J_bin rfl (Opd.tmp rfl) (Opd.tmp rfl) B_neq) ?_
      refine RegL.pure (p := (pEq (.bool ((row_0.length : Int) != (x4.length : Int))))) rfl rfl rfl (J_pick rfl (Opd.tmp rfl) (fun hf => absurd (hc3.symm.trans hf) (by decide)) (fun _ => (Opd.tmp rfl))) ?_
      refine RegL.pure (p := (pEq (.bool ((row_0.length : Int) != (x4.length : Int))))) rfl rfl rfl (J_assign rfl (Opd.tmp rfl)) ?_
      refine RegL.nil ?_
      replace h := Option.some.inj h; subst h
      exact Ct.mid () rfl ⟨rfl, trivial⟩
  · clear hx1
    refine Ct.then_tr ?_
    refine Tr.weak (Γ' := [(3, (pEq (.bool x1)))]) ⟨rfl, trivial⟩ ?_
    refine Tr.ret ?_
    replace h := Option.some.inj h; subst h
    exact Ct.retH1 (Ωx := []) () rfl (RvOk.tmp rfl) rfl


end Go.Proofs.Ytipkpdobbeggnaa.fnExactProblemOfW
