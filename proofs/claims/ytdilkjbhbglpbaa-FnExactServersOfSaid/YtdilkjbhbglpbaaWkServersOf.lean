/-
  The walks that the law FnExactServersOf reaches: each function computes its model. Printed by our own program.
-/
import Derived.Test.YtdilkjbhbglpbaaProg
import Derived.Test.YtdilkjbhbglpbaaMod
import Derived.Test.YtdilkjbhbglpbaaMore
import Derived.KernelRfl
namespace Go.Proofs.Ytdilkjbhbglpbaa.fnExactServersOfW
open Go Go.RowKit Go.Wk
set_option linter.unusedVariables false
set_option maxRecDepth 100000
theorem hmix : Try.prog.follows .mixedOrders = true := by kernel_rfl
theorem sz2 : ∀ w, (Go.sizeOf 2).run Try.prog w = .ok 1 w := fun _ => by kernel_rfl
theorem sz22 : ∀ w, (Go.sizeOf 22).run Try.prog w = .ok 1 w := fun _ => by kernel_rfl
theorem el2i : (Try.prog.info? 2).map (fun i => (i.zero, i.size, i.bytes)) = some (some (.int .i64 0), 1, 8) := by kernel_rfl
theorem el2 : Elem Try.prog 2 1 8 (cK .i64) (0 : Int) := by
  obtain ⟨i, h1, h2, h3, h4⟩ := info_parts el2i
  exact ⟨i, (.int .i64 0), [.int .i64 0], h1, h2, h3, h4, rfl, rfl, by decide, fun _ _ => ⟨rfl, trivial⟩, fun _ => rfl, fun _ _ _ _ h => ones_of ((OneCs.cons OneC.int OneCs.nil)) h⟩
theorem elh22i : (Try.prog.info? 22).map (fun i => (i.zero, i.size, i.bytes)) = some (some (.slice none 0 0), 1, 24) := by kernel_rfl
theorem elh22 : Elem Try.prog 22 1 24 cHdr ((none, 0, 0) : G3) := by
  obtain ⟨i, h1, h2, h3, h4⟩ := info_parts elh22i
  exact ⟨i, .slice none 0 0, [.slice none 0 0], h1, h2, h3, h4, rfl, rfl, by decide, fun _ _ => ⟨rfl, trivial⟩, fun _ => rfl, fun _ _ _ _ h => ones_of (OneCs.cons OneC.slice OneCs.nil) h⟩

theorem c_laws_szInt64S {a_0 : (List Int)} {left_1 : Int} {r : Int} (h : m_laws_szInt64S a_0 left_1 = some r) : CallJ Try.prog 74 [(pSl 1 (cK .i64) a_0), (pEq (.int .i64 left_1))] (pEq (.int .i64 r)) := by
  unfold m_laws_szInt64S at h
  refine CallJ.enterH Try.func74 rfl Try.ntmps74 rfl fun W I0 H => ?_
  refine Tr.weak (Γ' := [(0, (pSl 1 (cK .i64) a_0)), (1, (pEq (.int .i64 left_1)))]) ⟨rfl, rfl, trivial⟩ ?_
  refine Tr.seq ?_
  refine Tr.region ?_
  refine RegL.pure (p := (pEq (.int .i64 (0 : Int)))) rfl rfl rfl (J_assign rfl Opd.con) ?_
  refine RegL.nil ?_
  refine Ct.then_tr ?_
  refine Tr.weak (Γ' := [(0, (pSl 1 (cK .i64) a_0)), (1, (pEq (.int .i64 left_1)))]) ⟨rfl, rfl, trivial⟩ ?_
  refine Tr.seq ?_
  refine Tr.region ?_
  refine RegL.pure (p := (pEq (.int .i64 left_1))) rfl rfl rfl (J_move rfl (Opd.tmp rfl)) ?_
  refine RegL.pure (p := (pSl 1 (cK .i64) a_0)) rfl rfl rfl (J_move rfl (Opd.tmp rfl)) ?_
  refine RegL.pure (p := (pEq (.int .i64 (a_0.length : Int)))) rfl rfl rfl (J_len rfl Try.underlying22 (Opd.tmp rfl) rfl) ?_
  refine RegL.pure (p := (pEq (.int .i64 (w64 (left_1 - (a_0.length : Int)))))) rfl rfl rfl (J_bin rfl (Opd.tmp rfl) (Opd.tmp rfl) B_sub) ?_
  refine RegL.pure (p := (pEq (.int .i64 (w64 (left_1 - (a_0.length : Int)))))) rfl rfl rfl (J_assign rfl (Opd.tmp rfl)) ?_
  refine RegL.nil ?_
  refine Ct.then_tr ?_
  refine Tr.weak (Γ' := [(1, (pEq (.int .i64 (w64 (left_1 - (a_0.length : Int))))))]) ⟨rfl, trivial⟩ ?_
  refine Tr.seq ?_
  refine Tr.seq ?_
  refine Tr.region ?_
  refine RegL.pure (p := (pEq (.int .i64 (w64 (left_1 - (a_0.length : Int)))))) rfl rfl rfl (J_move rfl (Opd.tmp rfl)) ?_
  refine RegL.pure (p := (pEq (.bool (decide ((w64 (left_1 - (a_0.length : Int))) < (0 : Int)))))) rfl rfl rfl (J_bin rfl (Opd.tmp rfl) Opd.con B_lss) ?_
  refine RegL.nil ?_
  refine Ct.then_tr ?_
  refine Tr.weak (Γ' := [(1, (pEq (.int .i64 (w64 (left_1 - (a_0.length : Int)))))), (10, (pEq (.bool (decide ((w64 (left_1 - (a_0.length : Int))) < (0 : Int))))))]) ⟨rfl, rfl, trivial⟩ ?_
  refine Tr.cond (Opd.tmp rfl) (fun hc => ?_) (fun hc => ?_)
  · replace h := bif_t hc h
    refine Tr.seq ?_
    refine Tr.region ?_
    refine RegL.pure (p := (pEq (.int .i64 (-1 : Int)))) rfl rfl rfl (J_assign rfl Opd.con) ?_
    refine RegL.nil ?_
    refine Ct.then_tr ?_
    refine Tr.weak (Γ' := [(4, (pEq (.int .i64 (-1 : Int))))]) ⟨rfl, trivial⟩ ?_
    refine Tr.ret ?_
    refine Ct.then_ret ?_
    replace h := Option.some.inj h; subst h
    exact Ct.retH1 (Ωx := []) () rfl (RvOk.tmp rfl) rfl
  · replace h := bif_f hc h
    refine Tr.skip ?_
    refine Ct.then_tr ?_
    refine Tr.weak (Γ' := [(1, (pEq (.int .i64 (w64 (left_1 - (a_0.length : Int))))))]) ⟨rfl, trivial⟩ ?_
    refine Tr.seq ?_
    refine Tr.region ?_
    refine RegL.pure (p := (pEq (.int .i64 (w64 (left_1 - (a_0.length : Int)))))) rfl rfl rfl (J_move rfl (Opd.tmp rfl)) ?_
    refine RegL.pure (p := (pEq (.int .i64 (w64 (left_1 - (a_0.length : Int)))))) rfl rfl rfl (J_assign rfl (Opd.tmp rfl)) ?_
    refine RegL.nil ?_
    refine Ct.then_tr ?_
    refine Tr.weak (Γ' := [(4, (pEq (.int .i64 (w64 (left_1 - (a_0.length : Int))))))]) ⟨rfl, trivial⟩ ?_
    refine Tr.ret ?_
    replace h := Option.some.inj h; subst h
    exact Ct.retH1 (Ωx := []) () rfl (RvOk.tmp rfl) rfl

theorem c_laws_szInt64SS {a_0 : (List (List Int))} {left_1 : Int} {r : Int} (h : m_laws_szInt64SS a_0 left_1 = some r) : CallJ Try.prog 47 [(pSl 1 (cSl 1 (cK .i64)) a_0), (pEq (.int .i64 left_1))] (pEq (.int .i64 r)) := by
  unfold m_laws_szInt64SS at h
  refine CallJ.enterH Try.func47 rfl Try.ntmps47 rfl fun W I0 H => ?_
  refine Tr.weak (Γ' := [(0, (pSl 1 (cSl 1 (cK .i64)) a_0)), (1, (pEq (.int .i64 left_1)))]) ⟨rfl, rfl, trivial⟩ ?_
  refine Tr.seq ?_
  refine Tr.region ?_
  refine RegL.pure (p := (pEq (.int .i64 (0 : Int)))) rfl rfl rfl (J_assign rfl Opd.con) ?_
  refine RegL.nil ?_
  refine Ct.then_tr ?_
  refine Tr.weak (Γ' := [(0, (pSl 1 (cSl 1 (cK .i64)) a_0)), (1, (pEq (.int .i64 left_1)))]) ⟨rfl, rfl, trivial⟩ ?_
  refine Tr.seq ?_
  refine Tr.region ?_
  refine RegL.pure (p := (pEq (.int .i64 left_1))) rfl rfl rfl (J_move rfl (Opd.tmp rfl)) ?_
  refine RegL.pure (p := (pSl 1 (cSl 1 (cK .i64)) a_0)) rfl rfl rfl (J_move rfl (Opd.tmp rfl)) ?_
  refine RegL.pure (p := (pEq (.int .i64 (a_0.length : Int)))) rfl rfl rfl (J_len rfl Try.underlying68 (Opd.tmp rfl) rfl) ?_
  refine RegL.pure (p := (pEq (.int .i64 (w64 (left_1 - (a_0.length : Int)))))) rfl rfl rfl (J_bin rfl (Opd.tmp rfl) (Opd.tmp rfl) B_sub) ?_
  refine RegL.pure (p := (pEq (.int .i64 (w64 (left_1 - (a_0.length : Int)))))) rfl rfl rfl (J_assign rfl (Opd.tmp rfl)) ?_
  refine RegL.nil ?_
  refine Ct.then_tr ?_
  refine Tr.weak (Γ' := [(0, (pSl 1 (cSl 1 (cK .i64)) a_0)), (1, (pEq (.int .i64 (w64 (left_1 - (a_0.length : Int))))))]) ⟨rfl, rfl, trivial⟩ ?_
  refine Tr.seq ?_
  refine Tr.seq ?_
  refine Tr.region ?_
  refine RegL.pure (p := (pEq (.int .i64 (w64 (left_1 - (a_0.length : Int)))))) rfl rfl rfl (J_move rfl (Opd.tmp rfl)) ?_
  refine RegL.pure (p := (pEq (.bool (decide ((w64 (left_1 - (a_0.length : Int))) < (0 : Int)))))) rfl rfl rfl (J_bin rfl (Opd.tmp rfl) Opd.con B_lss) ?_
  refine RegL.nil ?_
  refine Ct.then_tr ?_
  refine Tr.weak (Γ' := [(0, (pSl 1 (cSl 1 (cK .i64)) a_0)), (1, (pEq (.int .i64 (w64 (left_1 - (a_0.length : Int)))))), (11, (pEq (.bool (decide ((w64 (left_1 - (a_0.length : Int))) < (0 : Int))))))]) ⟨rfl, rfl, rfl, trivial⟩ ?_
  refine Tr.cond (Opd.tmp rfl) (fun hc => ?_) (fun hc => ?_)
  · replace h := bif_t hc h
    refine Tr.seq ?_
    refine Tr.region ?_
    refine RegL.pure (p := (pEq (.int .i64 (-1 : Int)))) rfl rfl rfl (J_assign rfl Opd.con) ?_
    refine RegL.nil ?_
    refine Ct.then_tr ?_
    refine Tr.weak (Γ' := [(4, (pEq (.int .i64 (-1 : Int))))]) ⟨rfl, trivial⟩ ?_
    refine Tr.ret ?_
    refine Ct.then_ret ?_
    replace h := Option.some.inj h; subst h
    exact Ct.retH1 (Ωx := []) () rfl (RvOk.tmp rfl) rfl
  · replace h := bif_f hc h
    refine Tr.skip ?_
    refine Ct.then_tr ?_
    refine Tr.weak (Γ' := [(0, (pSl 1 (cSl 1 (cK .i64)) a_0)), (1, (pEq (.int .i64 (w64 (left_1 - (a_0.length : Int))))))]) ⟨rfl, rfl, trivial⟩ ?_
    refine Tr.seq ?_
    refine Tr.seq ?_
    refine Tr.region ?_
    refine RegL.pure (p := (pEq (.int .i64 (0 : Int)))) rfl rfl rfl (J_assign rfl Opd.con) ?_
    refine RegL.nil ?_
    refine Ct.then_tr ?_
    refine Tr.weak (Γ' := [(0, (pSl 1 (cSl 1 (cK .i64)) a_0)), (1, (pEq (.int .i64 (w64 (left_1 - (a_0.length : Int)))))), (5, (pEq (.int .i64 (0 : Int))))]) ⟨rfl, rfl, rfl, trivial⟩ ?_
    refine Tr.block ?_
    refine Tr.weak (Γ' := [(0, (pSl 1 (cSl 1 (cK .i64)) a_0)), (1, (pEq (.int .i64 (w64 (left_1 - (a_0.length : Int)))))), (5, (pEq (.int .i64 (0 : Int))))]) ⟨rfl, rfl, rfl, trivial⟩ ?_
    refine Tr.loop (γ := Unit) (σ := (Int × Int)) (Γσ := fun s g => [(0, (pSl 1 (cSl 1 (cK .i64)) a_0)), (1, (pEq (.int .i64 s.1))), (5, (pEq (.int .i64 s.2)))]) (Ωσ := fun s g => []) (g := ()) h ?_
    clear h
    rintro ⟨v2, v3⟩ g4 t h
    replace h : m_laws_szInt64SS_B1 a_0 v2 v3 = some t := h
    unfold m_laws_szInt64SS_B1 at h
    refine Tr.weakO (Γ' := [(0, (pSl 1 (cSl 1 (cK .i64)) a_0)), (1, (pEq (.int .i64 v2))), (5, (pEq (.int .i64 v3)))]) (Ω' := []) rfl ⟨rfl, rfl, rfl, trivial⟩ ?_
    refine Tr.seq ?_
    refine Tr.seq ?_
    refine Tr.region ?_
    refine RegL.pure (p := (pEq (.int .i64 v3))) rfl rfl rfl (J_move rfl (Opd.tmp rfl)) ?_
    refine RegL.pure (p := (pSl 1 (cSl 1 (cK .i64)) a_0)) rfl rfl rfl (J_move rfl (Opd.tmp rfl)) ?_
    refine RegL.pure (p := (pEq (.int .i64 (a_0.length : Int)))) rfl rfl rfl (J_len rfl Try.underlying68 (Opd.tmp rfl) rfl) ?_
    refine RegL.pure (p := (pEq (.bool (decide (v3 < (a_0.length : Int)))))) rfl rfl rfl (J_bin rfl (Opd.tmp rfl) (Opd.tmp rfl) B_lss) ?_
    refine RegL.nil ?_
    refine Ct.then_tr ?_
    refine Tr.weak (Γ' := [(0, (pSl 1 (cSl 1 (cK .i64)) a_0)), (1, (pEq (.int .i64 v2))), (5, (pEq (.int .i64 v3))), (15, (pEq (.bool (decide (v3 < (a_0.length : Int))))))]) ⟨rfl, rfl, rfl, rfl, trivial⟩ ?_
    refine Tr.cond (Opd.tmp rfl) (fun hc => ?_) (fun hc => ?_)
    · replace h := bif_t hc h
      refine Tr.skip ?_
      refine Ct.then_tr ?_
      refine Tr.weak (Γ' := [(0, (pSl 1 (cSl 1 (cK .i64)) a_0)), (1, (pEq (.int .i64 v2))), (5, (pEq (.int .i64 v3)))]) ⟨rfl, rfl, rfl, trivial⟩ ?_
      refine Tr.seq ?_
      refine Tr.block ?_
      refine Tr.seq ?_
      refine Tr.region ?_
      refine RegL.pure (p := (pSl 1 (cSl 1 (cK .i64)) a_0)) rfl rfl rfl (J_move rfl (Opd.tmp rfl)) ?_
      refine RegL.pure (p := (pEq (.int .i64 v3))) rfl rfl rfl (J_move rfl (Opd.tmp rfl)) ?_
      replace h := bind_some h; obtain ⟨x5, hx5, h⟩ := h
      refine RegL.pure (p := (pPtr ((cSl 1 (cK .i64)) x5))) rfl rfl rfl (J_idx rfl Try.underlying68 sz22 (Opd.tmp rfl) (Opd.tmp rfl) hx5) ?_
      refine RegL.pure (p := (pSl 1 (cK .i64) x5)) rfl rfl rfl (J_load rfl Try.isAgg22 (Opd.tmp rfl)) ?_
      refine RegL.pure (p := (pEq (.int .i64 v2))) rfl rfl rfl (J_move rfl (Opd.tmp rfl)) ?_
      replace h := bind_some h; obtain ⟨x6, hx6, h⟩ := h
      refine RegL.pure (p := (pEq (.int .i64 x6))) rfl rfl rfl (J_call rfl Try.call74 (c_laws_szInt64S hx6) (Opds.cons (Opd.tmp rfl) (Opds.cons (Opd.tmp rfl) Opds.nil))) ?_
      refine RegL.pure (p := (pEq (.int .i64 x6))) rfl rfl rfl (J_assign rfl (Opd.tmp rfl)) ?_
      refine RegL.nil ?_
      refine Ct.then_tr ?_
      refine Tr.weak (Γ' := [(0, (pSl 1 (cSl 1 (cK .i64)) a_0)), (1, (pEq (.int .i64 x6))), (5, (pEq (.int .i64 v3)))]) ⟨rfl, rfl, rfl, trivial⟩ ?_
      refine Tr.seq ?_
      refine Tr.region ?_
      refine RegL.pure (p := (pEq (.int .i64 x6))) rfl rfl rfl (J_move rfl (Opd.tmp rfl)) ?_
      refine RegL.pure (p := (pEq (.bool (decide (x6 < (0 : Int)))))) rfl rfl rfl (J_bin rfl (Opd.tmp rfl) Opd.con B_lss) ?_
      refine RegL.nil ?_
      refine Ct.then_tr ?_
      refine Tr.weak (Γ' := [(0, (pSl 1 (cSl 1 (cK .i64)) a_0)), (1, (pEq (.int .i64 x6))), (5, (pEq (.int .i64 v3))), (25, (pEq (.bool (decide (x6 < (0 : Int))))))]) ⟨rfl, rfl, rfl, rfl, trivial⟩ ?_
      refine Tr.cond (Opd.tmp rfl) (fun hc => ?_) (fun hc => ?_)
      · replace h := bif_t hc h
        refine Tr.seq ?_
        refine Tr.region ?_
        refine RegL.pure (p := (pEq (.int .i64 (-1 : Int)))) rfl rfl rfl (J_assign rfl Opd.con) ?_
        refine RegL.nil ?_
        refine Ct.then_tr ?_
        refine Tr.weak (Γ' := [(4, (pEq (.int .i64 (-1 : Int))))]) ⟨rfl, trivial⟩ ?_
        refine Tr.ret ?_
        refine Ct.blk_ret ?_
        refine Ct.then_ret ?_
        replace h := map_some h; obtain ⟨r1, h, rfl⟩ := h
        refine Ct.out_ret fun e => ?_
        subst e
        refine Ct.blk_ret ?_
        refine Ct.then_ret ?_
        replace h := Option.some.inj h; subst h
        exact Ct.retH1 (Ωx := []) () rfl (RvOk.tmp rfl) rfl
      · replace h := bif_f hc h
        refine Tr.skip ?_
        refine Ct.blk_normal ?_
        refine Ct.then_tr ?_
        refine Tr.weak (Γ' := [(0, (pSl 1 (cSl 1 (cK .i64)) a_0)), (1, (pEq (.int .i64 x6))), (5, (pEq (.int .i64 v3)))]) ⟨rfl, rfl, rfl, trivial⟩ ?_
        refine Tr.region ?_
        refine RegL.pure (p := (pEq (.int .i64 v3))) rfl rfl rfl (J_move rfl (Opd.tmp rfl)) ?_
        refine RegL.pure (p := (pEq (.int .i64 (w64 (v3 + (1 : Int)))))) rfl rfl rfl (J_bin rfl (Opd.tmp rfl) Opd.con B_add) ?_
        refine RegL.pure (p := (pEq (.int .i64 (w64 (v3 + (1 : Int)))))) rfl rfl rfl (J_assign rfl (Opd.tmp rfl)) ?_
        refine RegL.nil ?_
        replace h := Option.some.inj h; subst h
        exact Ct.again () rfl ⟨rfl, rfl, rfl, trivial⟩
    · replace h := bif_f hc h
      refine Tr.exit ?_
      refine Ct.then_exit ?_
      replace h := map_some h; obtain ⟨r1, h, rfl⟩ := h
      refine Ct.out_exit fun e => ?_
      subst e
      refine Ct.blk_exit ?_
      refine Ct.then_tr ?_
      refine Tr.weak (Γ' := [(1, (pEq (.int .i64 v2)))]) ⟨rfl, trivial⟩ ?_
      refine Tr.seq ?_
      refine Tr.region ?_
      refine RegL.pure (p := (pEq (.int .i64 v2))) rfl rfl rfl (J_move rfl (Opd.tmp rfl)) ?_
      refine RegL.pure (p := (pEq (.int .i64 v2))) rfl rfl rfl (J_assign rfl (Opd.tmp rfl)) ?_
      refine RegL.nil ?_
      refine Ct.then_tr ?_
      refine Tr.weak (Γ' := [(4, (pEq (.int .i64 v2)))]) ⟨rfl, trivial⟩ ?_
      refine Tr.ret ?_
      replace h := Option.some.inj h; subst h
      exact Ct.retH1 (Ωx := []) () rfl (RvOk.tmp rfl) rfl

theorem o_laws_toInt64S {a_0 : (List Int)}  {r : (List Int)} (h : m_laws_toInt64S a_0 = some r) : CallH Try.prog 16 [(pSl 1 (cK .i64) a_0)] [] (fun g : G3 => (pEq (.slice g.1 g.2.1 g.2.2))) (fun g : G3 => [oSl 2 1 (cK .i64) g.1 g.2.1 g.2.2 r]) := by
  unfold m_laws_toInt64S at h
  refine CallH.enter Try.func16 rfl Try.ntmps16 rfl fun W I0 H => ?_
  refine Tr.weak (Γ' := [(0, (pSl 1 (cK .i64) a_0))]) ⟨rfl, trivial⟩ ?_
  refine Tr.seq ?_
  refine Tr.region ?_
  refine RegL.pure (p := (pEq (.slice none 0 0))) rfl rfl rfl (J_assign rfl Opd.con) ?_
  refine RegL.nil ?_
  refine Ct.then_tr ?_
  refine Tr.weak (Γ' := [(0, (pSl 1 (cK .i64) a_0))]) ⟨rfl, trivial⟩ ?_
  refine Tr.seq ?_
  refine Tr.region ?_
  refine RegL.pure (p := (pSl 1 (cK .i64) a_0)) rfl rfl rfl (J_move rfl (Opd.tmp rfl)) ?_
  refine RegL.pure (p := (pEq (.int .i64 (a_0.length : Int)))) rfl rfl rfl (J_len rfl Try.underlying22 (Opd.tmp rfl) rfl) ?_
  replace h := bind_some h; obtain ⟨x1, hx1, h⟩ := h
  refine RegL.step (γ := Option Addr) (p := fun a => pEq (.slice a ((a_0.length : Int)).toNat ((a_0.length : Int)).toNat)) (Ω' := fun a => [oSl 2 1 (cK .i64) a ((a_0.length : Int)).toNat ((a_0.length : Int)).toNat x1]) rfl rfl rfl (M_make rfl Try.underlying22 el2 (by decide) (Opd.tmp rfl) hx1) fun o2 => ?_
  refine RegL.pure (p := (pEq (.slice o2 ((a_0.length : Int)).toNat ((a_0.length : Int)).toNat))) rfl rfl rfl (J_assign rfl (Opd.tmp rfl)) ?_
  refine RegL.nil ?_
  refine Ct.then_tr ?_
  refine Tr.weak (Γ' := [(0, (pSl 1 (cK .i64) a_0)), (3, (pEq (.slice o2 ((a_0.length : Int)).toNat ((a_0.length : Int)).toNat)))]) ⟨rfl, rfl, trivial⟩ ?_
  refine Tr.seq ?_
  refine Tr.seq ?_
  refine Tr.region ?_
  refine RegL.pure (p := (pEq (.int .i64 (0 : Int)))) rfl rfl rfl (J_assign rfl Opd.con) ?_
  refine RegL.nil ?_
  refine Ct.then_tr ?_
  refine Tr.weak (Γ' := [(0, (pSl 1 (cK .i64) a_0)), (3, (pEq (.slice o2 ((a_0.length : Int)).toNat ((a_0.length : Int)).toNat))), (4, (pEq (.int .i64 (0 : Int))))]) ⟨rfl, rfl, rfl, trivial⟩ ?_
  replace h := bind_some h; obtain ⟨x4, hx4, h⟩ := h
  refine Tr.cut (γ := G3) (Γm := fun g => [(3, (pEq (.slice g.1 g.2.1 g.2.2)))]) (Ωm := fun g => [oSl 2 1 (cK .i64) g.1 g.2.1 g.2.2 x4]) ?_ (fun g12 => ?_)
  · clear h
    have h := hx4
    clear hx4
    refine Tr.block ?_
    refine Tr.weak (Γ' := [(0, (pSl 1 (cK .i64) a_0)), (3, (pEq (.slice o2 ((a_0.length : Int)).toNat ((a_0.length : Int)).toNat))), (4, (pEq (.int .i64 (0 : Int))))]) ⟨rfl, rfl, rfl, trivial⟩ ?_
    refine Tr.loop (γ := G3) (σ := (Int × (List Int))) (Γσ := fun s g => [(0, (pSl 1 (cK .i64) a_0)), (3, (pEq (.slice g.1 g.2.1 g.2.2))), (4, (pEq (.int .i64 s.1)))]) (Ωσ := fun s g => [oSl 2 1 (cK .i64) g.1 g.2.1 g.2.2 s.2]) (g := (o2, ((a_0.length : Int)).toNat, ((a_0.length : Int)).toNat)) h ?_
    clear h
    rintro ⟨v6, v7⟩ g8 t h
    replace h : m_laws_toInt64S_B5 a_0 v6 v7 = some t := h
    unfold m_laws_toInt64S_B5 at h
    refine Tr.weakO (Γ' := [(0, (pSl 1 (cK .i64) a_0)), (3, (pEq (.slice g8.1 g8.2.1 g8.2.2))), (4, (pEq (.int .i64 v6)))]) (Ω' := [oSl 2 1 (cK .i64) g8.1 g8.2.1 g8.2.2 v7]) rfl ⟨rfl, rfl, rfl, trivial⟩ ?_
    refine Tr.seq ?_
    refine Tr.seq ?_
    refine Tr.region ?_
    refine RegL.pure (p := (pEq (.int .i64 v6))) rfl rfl rfl (J_move rfl (Opd.tmp rfl)) ?_
    refine RegL.pure (p := (pSl 1 (cK .i64) a_0)) rfl rfl rfl (J_move rfl (Opd.tmp rfl)) ?_
    refine RegL.pure (p := (pEq (.int .i64 (a_0.length : Int)))) rfl rfl rfl (J_len rfl Try.underlying22 (Opd.tmp rfl) rfl) ?_
    refine RegL.pure (p := (pEq (.bool (decide (v6 < (a_0.length : Int)))))) rfl rfl rfl (J_bin rfl (Opd.tmp rfl) (Opd.tmp rfl) B_lss) ?_
    refine RegL.nil ?_
    refine Ct.then_tr ?_
    refine Tr.weak (Γ' := [(0, (pSl 1 (cK .i64) a_0)), (3, (pEq (.slice g8.1 g8.2.1 g8.2.2))), (4, (pEq (.int .i64 v6))), (11, (pEq (.bool (decide (v6 < (a_0.length : Int))))))]) ⟨rfl, rfl, rfl, rfl, trivial⟩ ?_
    refine Tr.cond (Opd.tmp rfl) (fun hc => ?_) (fun hc => ?_)
    · replace h := bif_t hc h
      refine Tr.skip ?_
      refine Ct.then_tr ?_
      refine Tr.weak (Γ' := [(0, (pSl 1 (cK .i64) a_0)), (3, (pEq (.slice g8.1 g8.2.1 g8.2.2))), (4, (pEq (.int .i64 v6)))]) ⟨rfl, rfl, rfl, trivial⟩ ?_
      refine Tr.seq ?_
      refine Tr.block ?_
      refine Tr.region ?_
      refine RegL.pure (p := (pEq (.slice g8.1 g8.2.1 g8.2.2))) rfl rfl rfl (J_move rfl (Opd.tmp rfl)) ?_
      refine RegL.pure (p := (pEq (.int .i64 v6))) rfl rfl rfl (J_move rfl (Opd.tmp rfl)) ?_
      refine RegL.pure (p := (pSl 1 (cK .i64) a_0)) rfl rfl rfl (J_move rfl (Opd.tmp rfl)) ?_
      refine RegL.pure (p := (pEq (.int .i64 v6))) rfl rfl rfl (J_move rfl (Opd.tmp rfl)) ?_
      replace h := bind_some h; obtain ⟨x9, hx9, h⟩ := h
      refine RegL.pure (p := (pPtr ((cK .i64) x9))) rfl rfl rfl (J_idx rfl Try.underlying22 sz2 (Opd.tmp rfl) (Opd.tmp rfl) hx9) ?_
      refine RegL.pure (p := (pEq (.int .i64 x9))) rfl rfl rfl (J_load rfl Try.isAgg2 (Opd.tmp rfl)) ?_
      replace h := bind_some h; obtain ⟨u10, hu10, h⟩ := h
      refine RegL.pureW (p := (pEq (.pointer (some ⟨blk g8.1, (v6).toNat * 1, none⟩)))) rfl rfl rfl (W_rowIdx (j := 0) rfl Try.underlying22 sz2 (Opd.tmp rfl) (Opd.tmp rfl) rfl (inB_some hu10)) ?_
      refine RegL.stepN (γ := Unit) (p := fun _ => pAny) (Ω' := fun _ => [oSl 2 1 (cK .i64) g8.1 g8.2.1 g8.2.2 (v7.set (v6).toNat x9)]) rfl rfl (M_rowStore rfl sz2 (fun _ => rfl) (Opd.tmp rfl) (Opd.tmp rfl) rfl OneC.int (setL_of (inB_some hu10))) fun g11 => ?_
      refine RegL.nil ?_
      refine Ct.blk_normal ?_
      refine Ct.then_tr ?_
      refine Tr.weak (Γ' := [(0, (pSl 1 (cK .i64) a_0)), (3, (pEq (.slice g8.1 g8.2.1 g8.2.2))), (4, (pEq (.int .i64 v6)))]) ⟨rfl, rfl, rfl, trivial⟩ ?_
      refine Tr.region ?_
      refine RegL.pure (p := (pEq (.int .i64 v6))) rfl rfl rfl (J_move rfl (Opd.tmp rfl)) ?_
      refine RegL.pure (p := (pEq (.int .i64 (w64 (v6 + (1 : Int)))))) rfl rfl rfl (J_bin rfl (Opd.tmp rfl) Opd.con B_add) ?_
      refine RegL.pure (p := (pEq (.int .i64 (w64 (v6 + (1 : Int)))))) rfl rfl rfl (J_assign rfl (Opd.tmp rfl)) ?_
      refine RegL.nil ?_
      replace h := Option.some.inj h; subst h
      exact Ct.again (g8.1, g8.2.1, g8.2.2) rfl ⟨rfl, rfl, rfl, trivial⟩
    · replace h := bif_f hc h
      refine Tr.exit ?_
      refine Ct.then_exit ?_
      replace h := map_some h; obtain ⟨r1, h, rfl⟩ := h
      refine Ct.out_exit fun e => ?_
      subst e
      refine Ct.blk_exit ?_
      replace h := Option.some.inj h; subst h
      exact Ct.mid (g8.1, g8.2.1, g8.2.2) rfl ⟨rfl, trivial⟩
  · clear hx4
    refine Ct.then_tr ?_
    refine Tr.weak (Γ' := [(3, (pEq (.slice g12.1 g12.2.1 g12.2.2)))]) ⟨rfl, trivial⟩ ?_
    refine Tr.seq ?_
    refine Tr.region ?_
    refine RegL.pure (p := (pEq (.slice g12.1 g12.2.1 g12.2.2))) rfl rfl rfl (J_move rfl (Opd.tmp rfl)) ?_
    refine RegL.pure (p := (pEq (.slice g12.1 g12.2.1 g12.2.2))) rfl rfl rfl (J_assign rfl (Opd.tmp rfl)) ?_
    refine RegL.nil ?_
    refine Ct.then_tr ?_
    refine Tr.weak (Γ' := [(2, (pEq (.slice g12.1 g12.2.1 g12.2.2)))]) ⟨rfl, trivial⟩ ?_
    refine Tr.ret ?_
    replace h := Option.some.inj h; subst h
    exact Ct.retH1 (Ωx := []) (g12.1, g12.2.1, g12.2.2) rfl (RvOk.tmp rfl) rfl

theorem c_laws_toInt64S {a_0 : (List Int)} {r : (List Int)} (h : m_laws_toInt64S a_0 = some r) : CallJ Try.prog 16 [(pSl 1 (cK .i64) a_0)] (pSl 1 (cK .i64) r) :=
  CallH.frozen (o_laws_toInt64S h) (fun g => (Conv.row 0 (fun _ => rfl) rfl))

theorem o_laws_toInt64SS {a_0 : (List (List Int))}  {r : (List (List Int))} (h : m_laws_toInt64SS a_0 = some r) : CallH Try.prog 49 [(pSl 1 (cSl 1 (cK .i64)) a_0)] [] (fun g : (G3 × List G3) => (pEq (.slice g.1.1 g.1.2.1 g.1.2.2))) (fun g : (G3 × List G3) => [oSS 22 2 1 (cK .i64) g.1.1 g.1.2.1 g.1.2.2 g.2 r]) := by
  unfold m_laws_toInt64SS at h
  refine CallH.enter Try.func49 rfl Try.ntmps49 rfl fun W I0 H => ?_
  refine Tr.weak (Γ' := [(0, (pSl 1 (cSl 1 (cK .i64)) a_0))]) ⟨rfl, trivial⟩ ?_
  refine Tr.seq ?_
  refine Tr.region ?_
  refine RegL.pure (p := (pEq (.slice none 0 0))) rfl rfl rfl (J_assign rfl Opd.con) ?_
  refine RegL.nil ?_
  refine Ct.then_tr ?_
  refine Tr.weak (Γ' := [(0, (pSl 1 (cSl 1 (cK .i64)) a_0))]) ⟨rfl, trivial⟩ ?_
  refine Tr.seq ?_
  refine Tr.region ?_
  refine RegL.pure (p := (pSl 1 (cSl 1 (cK .i64)) a_0)) rfl rfl rfl (J_move rfl (Opd.tmp rfl)) ?_
  refine RegL.pure (p := (pEq (.int .i64 (a_0.length : Int)))) rfl rfl rfl (J_len rfl Try.underlying68 (Opd.tmp rfl) rfl) ?_
  replace h := bind_some h; obtain ⟨x1, hx1, h⟩ := h
  refine RegL.step (γ := Option Addr) (p := fun a => pEq (.slice a ((a_0.length : Int)).toNat ((a_0.length : Int)).toNat)) (Ω' := fun a => [oSl 22 1 cHdr a ((a_0.length : Int)).toNat ((a_0.length : Int)).toNat (List.replicate ((a_0.length : Int)).toNat ((none, 0, 0) : G3))]) rfl rfl rfl (M_make rfl Try.underlying68 elh22 (by decide) (Opd.tmp rfl) (mkL_hdr hx1)) fun o2 => ?_
  refine RegL.re (Ω2 := [oSS 22 2 1 (cK .i64) o2 ((a_0.length : Int)).toNat ((a_0.length : Int)).toNat (List.replicate ((a_0.length : Int)).toNat ((none, 0, 0) : G3)) x1]) (fun h => (by rw [(mkL_some hx1).2]; exact nest_rep h)) ?_
  refine RegL.pure (p := (pEq (.slice o2 ((a_0.length : Int)).toNat ((a_0.length : Int)).toNat))) rfl rfl rfl (J_assign rfl (Opd.tmp rfl)) ?_
  refine RegL.nil ?_
  refine Ct.then_tr ?_
  refine Tr.weak (Γ' := [(0, (pSl 1 (cSl 1 (cK .i64)) a_0)), (3, (pEq (.slice o2 ((a_0.length : Int)).toNat ((a_0.length : Int)).toNat)))]) ⟨rfl, rfl, trivial⟩ ?_
  refine Tr.seq ?_
  refine Tr.seq ?_
  refine Tr.region ?_
  refine RegL.pure (p := (pEq (.int .i64 (0 : Int)))) rfl rfl rfl (J_assign rfl Opd.con) ?_
  refine RegL.nil ?_
  refine Ct.then_tr ?_
  refine Tr.weak (Γ' := [(0, (pSl 1 (cSl 1 (cK .i64)) a_0)), (3, (pEq (.slice o2 ((a_0.length : Int)).toNat ((a_0.length : Int)).toNat))), (4, (pEq (.int .i64 (0 : Int))))]) ⟨rfl, rfl, rfl, trivial⟩ ?_
  replace h := bind_some h; obtain ⟨x4, hx4, h⟩ := h
  refine Tr.cut (γ := (G3 × List G3)) (Γm := fun g => [(3, (pEq (.slice g.1.1 g.1.2.1 g.1.2.2)))]) (Ωm := fun g => [oSS 22 2 1 (cK .i64) g.1.1 g.1.2.1 g.1.2.2 g.2 x4]) ?_ (fun g15 => ?_)
  · clear h
    have h := hx4
    clear hx4
    refine Tr.block ?_
    refine Tr.weak (Γ' := [(0, (pSl 1 (cSl 1 (cK .i64)) a_0)), (3, (pEq (.slice o2 ((a_0.length : Int)).toNat ((a_0.length : Int)).toNat))), (4, (pEq (.int .i64 (0 : Int))))]) ⟨rfl, rfl, rfl, trivial⟩ ?_
    refine Tr.loop (γ := (G3 × List G3)) (σ := (Int × (List (List Int)))) (Γσ := fun s g => [(0, (pSl 1 (cSl 1 (cK .i64)) a_0)), (3, (pEq (.slice g.1.1 g.1.2.1 g.1.2.2))), (4, (pEq (.int .i64 s.1)))]) (Ωσ := fun s g => [oSS 22 2 1 (cK .i64) g.1.1 g.1.2.1 g.1.2.2 g.2 s.2]) (g := ((o2, ((a_0.length : Int)).toNat, ((a_0.length : Int)).toNat), (List.replicate ((a_0.length : Int)).toNat ((none, 0, 0) : G3)))) h ?_
    clear h
    rintro ⟨v6, v7⟩ g8 t h
    replace h : m_laws_toInt64SS_B5 a_0 v6 v7 = some t := h
    unfold m_laws_toInt64SS_B5 at h
    refine Tr.weakO (Γ' := [(0, (pSl 1 (cSl 1 (cK .i64)) a_0)), (3, (pEq (.slice g8.1.1 g8.1.2.1 g8.1.2.2))), (4, (pEq (.int .i64 v6)))]) (Ω' := [oSS 22 2 1 (cK .i64) g8.1.1 g8.1.2.1 g8.1.2.2 g8.2 v7]) rfl ⟨rfl, rfl, rfl, trivial⟩ ?_
    refine Tr.seq ?_
    refine Tr.seq ?_
    refine Tr.region ?_
    refine RegL.pure (p := (pEq (.int .i64 v6))) rfl rfl rfl (J_move rfl (Opd.tmp rfl)) ?_
    refine RegL.pure (p := (pSl 1 (cSl 1 (cK .i64)) a_0)) rfl rfl rfl (J_move rfl (Opd.tmp rfl)) ?_
    refine RegL.pure (p := (pEq (.int .i64 (a_0.length : Int)))) rfl rfl rfl (J_len rfl Try.underlying68 (Opd.tmp rfl) rfl) ?_
    refine RegL.pure (p := (pEq (.bool (decide (v6 < (a_0.length : Int)))))) rfl rfl rfl (J_bin rfl (Opd.tmp rfl) (Opd.tmp rfl) B_lss) ?_
    refine RegL.nil ?_
    refine Ct.then_tr ?_
    refine Tr.weak (Γ' := [(0, (pSl 1 (cSl 1 (cK .i64)) a_0)), (3, (pEq (.slice g8.1.1 g8.1.2.1 g8.1.2.2))), (4, (pEq (.int .i64 v6))), (11, (pEq (.bool (decide (v6 < (a_0.length : Int))))))]) ⟨rfl, rfl, rfl, rfl, trivial⟩ ?_
    refine Tr.cond (Opd.tmp rfl) (fun hc => ?_) (fun hc => ?_)
    · replace h := bif_t hc h
      refine Tr.skip ?_
      refine Ct.then_tr ?_
      refine Tr.weak (Γ' := [(0, (pSl 1 (cSl 1 (cK .i64)) a_0)), (3, (pEq (.slice g8.1.1 g8.1.2.1 g8.1.2.2))), (4, (pEq (.int .i64 v6)))]) ⟨rfl, rfl, rfl, trivial⟩ ?_
      refine Tr.seq ?_
      refine Tr.block ?_
      refine Tr.region ?_
      refine RegL.pure (p := (pEq (.slice g8.1.1 g8.1.2.1 g8.1.2.2))) rfl rfl rfl (J_move rfl (Opd.tmp rfl)) ?_
      refine RegL.pure (p := (pEq (.int .i64 v6))) rfl rfl rfl (J_move rfl (Opd.tmp rfl)) ?_
      refine RegL.pure (p := (pSl 1 (cSl 1 (cK .i64)) a_0)) rfl rfl rfl (J_move rfl (Opd.tmp rfl)) ?_
      refine RegL.pure (p := (pEq (.int .i64 v6))) rfl rfl rfl (J_move rfl (Opd.tmp rfl)) ?_
      replace h := bind_some h; obtain ⟨x9, hx9, h⟩ := h
      refine RegL.pure (p := (pPtr ((cSl 1 (cK .i64)) x9))) rfl rfl rfl (J_idx rfl Try.underlying68 sz22 (Opd.tmp rfl) (Opd.tmp rfl) hx9) ?_
      refine RegL.pure (p := (pSl 1 (cK .i64) x9)) rfl rfl rfl (J_load rfl Try.isAgg22 (Opd.tmp rfl)) ?_
      replace h := bind_some h; obtain ⟨x10, hx10, h⟩ := h
      refine RegL.step (γ := G3) (p := fun g => (pEq (.slice g.1 g.2.1 g.2.2))) (Ω' := fun g => [oSl 2 1 (cK .i64) g.1 g.2.1 g.2.2 x10, oSS 22 2 1 (cK .i64) g8.1.1 g8.1.2.1 g8.1.2.2 g8.2 v7]) rfl rfl rfl (M_callH (Ωi := []) rfl Try.call16 (o_laws_toInt64S hx10) (Opds.cons (Opd.tmp rfl) Opds.nil)) fun g11 => ?_
      replace h := bind_some h; obtain ⟨u13, hu13, h⟩ := h
      refine RegL.pureW (p := (pEq (.pointer (some ⟨blk g8.1.1, (v6).toNat * 1, none⟩)))) rfl rfl rfl (W_nestIdx (j := 1) rfl Try.underlying68 sz22 (Opd.tmp rfl) (Opd.tmp rfl) rfl (inB_some hu13)) ?_
      refine RegL.re (Ω2 := [oSS 22 2 1 (cK .i64) g8.1.1 g8.1.2.1 g8.1.2.2 g8.2 v7, oSl 2 1 (cK .i64) g11.1 g11.2.1 g11.2.2 x10]) (fun h => SatO.pick 1 h) ?_
      refine RegL.stepN (γ := Unit) (p := fun _ => pAny) (Ω' := fun _ => [oSS 22 2 1 (cK .i64) g8.1.1 g8.1.2.1 g8.1.2.2 (g8.2.set (v6).toNat (g11.1, g11.2.1, g11.2.2)) (v7.set (v6).toNat x10)]) rfl rfl (M_nestStore rfl sz22 (Opd.tmp rfl) (Opd.tmp rfl) (inB_some hu13)) fun g14 => ?_
      refine RegL.nil ?_
      refine Ct.blk_normal ?_
      refine Ct.then_tr ?_
      refine Tr.weak (Γ' := [(0, (pSl 1 (cSl 1 (cK .i64)) a_0)), (3, (pEq (.slice g8.1.1 g8.1.2.1 g8.1.2.2))), (4, (pEq (.int .i64 v6)))]) ⟨rfl, rfl, rfl, trivial⟩ ?_
      refine Tr.region ?_
      refine RegL.pure (p := (pEq (.int .i64 v6))) rfl rfl rfl (J_move rfl (Opd.tmp rfl)) ?_
      refine RegL.pure (p := (pEq (.int .i64 (w64 (v6 + (1 : Int)))))) rfl rfl rfl (J_bin rfl (Opd.tmp rfl) Opd.con B_add) ?_
      refine RegL.pure (p := (pEq (.int .i64 (w64 (v6 + (1 : Int)))))) rfl rfl rfl (J_assign rfl (Opd.tmp rfl)) ?_
      refine RegL.nil ?_
      replace h := Option.some.inj h; subst h
      exact Ct.again ((g8.1.1, g8.1.2.1, g8.1.2.2), (g8.2.set (v6).toNat (g11.1, g11.2.1, g11.2.2))) rfl ⟨rfl, rfl, rfl, trivial⟩
    · replace h := bif_f hc h
      refine Tr.exit ?_
      refine Ct.then_exit ?_
      replace h := map_some h; obtain ⟨r1, h, rfl⟩ := h
      refine Ct.out_exit fun e => ?_
      subst e
      refine Ct.blk_exit ?_
      replace h := Option.some.inj h; subst h
      exact Ct.mid ((g8.1.1, g8.1.2.1, g8.1.2.2), g8.2) rfl ⟨rfl, trivial⟩
  · clear hx4
    refine Ct.then_tr ?_
    refine Tr.weak (Γ' := [(3, (pEq (.slice g15.1.1 g15.1.2.1 g15.1.2.2)))]) ⟨rfl, trivial⟩ ?_
    refine Tr.seq ?_
    refine Tr.region ?_
    refine RegL.pure (p := (pEq (.slice g15.1.1 g15.1.2.1 g15.1.2.2))) rfl rfl rfl (J_move rfl (Opd.tmp rfl)) ?_
    refine RegL.pure (p := (pEq (.slice g15.1.1 g15.1.2.1 g15.1.2.2))) rfl rfl rfl (J_assign rfl (Opd.tmp rfl)) ?_
    refine RegL.nil ?_
    refine Ct.then_tr ?_
    refine Tr.weak (Γ' := [(2, (pEq (.slice g15.1.1 g15.1.2.1 g15.1.2.2)))]) ⟨rfl, trivial⟩ ?_
    refine Tr.ret ?_
    replace h := Option.some.inj h; subst h
    exact Ct.retH1 (Ωx := []) ((g15.1.1, g15.1.2.1, g15.1.2.2), g15.2) rfl (RvOk.tmp rfl) rfl

theorem c_laws_toInt64SS {a_0 : (List (List Int))} {r : (List (List Int))} (h : m_laws_toInt64SS a_0 = some r) : CallJ Try.prog 49 [(pSl 1 (cSl 1 (cK .i64)) a_0)] (pSl 1 (cSl 1 (cK .i64)) r) :=
  CallH.frozen (o_laws_toInt64SS h) (fun g => (Conv.nest 0 (fun _ => rfl) rfl))

theorem c_spec_l00In {n_0 : Int} {low_1 : Int} {high_2 : Int} {r : Bool} (h : m_spec_l00In n_0 low_1 high_2 = some r) : CallJ Try.prog 81 [(pEq (.int .i64 n_0)), (pEq (.int .i64 low_1)), (pEq (.int .i64 high_2))] (pEq (.bool r)) := by
  unfold m_spec_l00In at h
  refine CallJ.enterH Try.func81 rfl Try.ntmps81 rfl fun W I0 H => ?_
  refine Tr.weak (Γ' := [(0, (pEq (.int .i64 n_0))), (1, (pEq (.int .i64 low_1))), (2, (pEq (.int .i64 high_2)))]) ⟨rfl, rfl, rfl, trivial⟩ ?_
  refine Tr.seq ?_
  refine Tr.region ?_
  refine RegL.pure (p := (pEq (.bool false))) rfl rfl rfl (J_assign rfl Opd.con) ?_
  refine RegL.nil ?_
  refine Ct.then_tr ?_
  refine Tr.weak (Γ' := [(0, (pEq (.int .i64 n_0))), (1, (pEq (.int .i64 low_1))), (2, (pEq (.int .i64 high_2)))]) ⟨rfl, rfl, rfl, trivial⟩ ?_
  refine Tr.seq ?_
  replace h := bind_some h; obtain ⟨x1, hx1, h⟩ := h
  refine Tr.cut (γ := Unit) (Γm := fun g => [(6, (pEq (.bool x1)))]) (Ωm := fun g => []) ?_ (fun g3 => ?_)
  · clear h
    have h := hx1
    clear hx1
    refine Tr.region ?_
    refine RegL.pure (p := (pEq (.int .i64 n_0))) rfl rfl rfl (J_move rfl (Opd.tmp rfl)) ?_
    refine RegL.pure (p := (pEq (.int .i64 low_1))) rfl rfl rfl (J_move rfl (Opd.tmp rfl)) ?_
    refine RegL.pure (p := (pEq (.bool (decide (low_1 ≤ n_0))))) rfl rfl rfl (J_bin rfl (Opd.tmp rfl) (Opd.tmp rfl) B_geq) ?_
    refine RegL.pure (p := (pEq (.bool (decide (low_1 ≤ n_0))))) rfl rfl rfl (J_move rfl (Opd.tmp rfl)) ?_
    rcases Bool.eq_false_or_eq_true (decide (low_1 ≤ n_0)) with hc2 | hc2
    · replace h := bif_t hc2 h
      refine RegL.pureG (p := (pEq (.int .i64 n_0))) rfl rfl rfl hc2 rfl rfl (J_move rfl (Opd.tmp rfl)) ?_
      refine RegL.pureG (p := (pEq (.int .i64 high_2))) rfl rfl rfl hc2 rfl rfl (J_move rfl (Opd.tmp rfl)) ?_
      refine RegL.pureG (p := (pEq (.bool (decide (n_0 ≤ high_2))))) rfl rfl rfl hc2 rfl rfl (J_bin rfl (Opd.tmp rfl) (Opd.tmp rfl) B_leq) ?_
      refine RegL.pure (p := (pEq (.bool (decide (n_0 ≤ high_2))))) rfl rfl rfl (J_pick rfl (Opd.tmp rfl) (fun _ => (Opd.tmp rfl)) (fun hf => absurd (hc2.symm.trans hf) (by decide))) ?_
      refine RegL.pure (p := (pEq (.bool (decide (n_0 ≤ high_2))))) rfl rfl rfl (J_assign rfl (Opd.tmp rfl)) ?_
      refine RegL.nil ?_
      replace h := Option.some.inj h; subst h
      exact Ct.mid () rfl ⟨rfl, trivial⟩
    · replace h := bif_f hc2 h
      refine RegL.skipG rfl rfl rfl hc2 rfl rfl ?_
      refine RegL.skipG rfl rfl rfl hc2 rfl rfl ?_
      refine RegL.skipG rfl rfl rfl hc2 rfl rfl ?_
      refine RegL.pure (p := (pEq (.bool false))) rfl rfl rfl (J_pick rfl (Opd.tmp rfl) (fun hf => absurd (hc2.symm.trans hf) (by decide)) (fun _ => Opd.con)) ?_
      refine RegL.pure (p := (pEq (.bool false))) rfl rfl rfl (J_assign rfl (Opd.tmp rfl)) ?_
      refine RegL.nil ?_
      replace h := Option.some.inj h; subst h
      exact Ct.mid () rfl ⟨rfl, trivial⟩
  · clear hx1
    refine Ct.then_tr ?_
    refine Tr.weak (Γ' := [(6, (pEq (.bool x1)))]) ⟨rfl, trivial⟩ ?_
    refine Tr.ret ?_
    replace h := Option.some.inj h; subst h
    exact Ct.retH1 (Ωx := []) () rfl (RvOk.tmp rfl) rfl

theorem c_spec_l02Level {v_0 : Int} {r : Bool} (h : m_spec_l02Level v_0 = some r) : CallJ Try.prog 97 [(pEq (.int .i64 v_0))] (pEq (.bool r)) := by
  unfold m_spec_l02Level at h
  refine CallJ.enterH Try.func97 rfl Try.ntmps97 rfl fun W I0 H => ?_
  refine Tr.weak (Γ' := [(0, (pEq (.int .i64 v_0)))]) ⟨rfl, trivial⟩ ?_
  refine Tr.seq ?_
  refine Tr.region ?_
  refine RegL.pure (p := (pEq (.bool false))) rfl rfl rfl (J_assign rfl Opd.con) ?_
  refine RegL.nil ?_
  refine Ct.then_tr ?_
  refine Tr.weak (Γ' := [(0, (pEq (.int .i64 v_0)))]) ⟨rfl, trivial⟩ ?_
  refine Tr.seq ?_
  refine Tr.region ?_
  refine RegL.pure (p := (pEq (.int .i64 v_0))) rfl rfl rfl (J_move rfl (Opd.tmp rfl)) ?_
  replace h := bind_some h; obtain ⟨x1, hx1, h⟩ := h
  refine RegL.pure (p := (pEq (.bool x1))) rfl rfl rfl (J_call rfl Try.call81 (c_spec_l00In hx1) (Opds.cons (Opd.tmp rfl) (Opds.cons Opd.con (Opds.cons Opd.con Opds.nil)))) ?_
  refine RegL.pure (p := (pEq (.bool x1))) rfl rfl rfl (J_assign rfl (Opd.tmp rfl)) ?_
  refine RegL.nil ?_
  refine Ct.then_tr ?_
  refine Tr.weak (Γ' := [(2, (pEq (.bool x1)))]) ⟨rfl, trivial⟩ ?_
  refine Tr.ret ?_
  replace h := Option.some.inj h; subst h
  exact Ct.retH1 (Ωx := []) () rfl (RvOk.tmp rfl) rfl

theorem c_spec_l16Row {row_0 : (List Int)} {r : Bool} (h : m_spec_l16Row row_0 = some r) : CallJ Try.prog 100 [(pSl 1 (cK .i64) row_0)] (pEq (.bool r)) := by
  unfold m_spec_l16Row at h
  refine CallJ.enterH Try.func100 rfl Try.ntmps100 rfl fun W I0 H => ?_
  refine Tr.weak (Γ' := [(0, (pSl 1 (cK .i64) row_0))]) ⟨rfl, trivial⟩ ?_
  refine Tr.seq ?_
  refine Tr.region ?_
  refine RegL.pure (p := (pEq (.bool false))) rfl rfl rfl (J_assign rfl Opd.con) ?_
  refine RegL.nil ?_
  refine Ct.then_tr ?_
  refine Tr.weak (Γ' := [(0, (pSl 1 (cK .i64) row_0))]) ⟨rfl, trivial⟩ ?_
  refine Tr.seq ?_
  refine Tr.seq ?_
  refine Tr.region ?_
  refine RegL.pure (p := (pEq (.int .i64 (0 : Int)))) rfl rfl rfl (J_assign rfl Opd.con) ?_
  refine RegL.nil ?_
  refine Ct.then_tr ?_
  refine Tr.weak (Γ' := [(0, (pSl 1 (cK .i64) row_0)), (3, (pEq (.int .i64 (0 : Int))))]) ⟨rfl, rfl, trivial⟩ ?_
  refine Tr.block ?_
  refine Tr.weak (Γ' := [(0, (pSl 1 (cK .i64) row_0)), (3, (pEq (.int .i64 (0 : Int))))]) ⟨rfl, rfl, trivial⟩ ?_
  refine Tr.loop (γ := Unit) (σ := Int) (Γσ := fun s g => [(0, (pSl 1 (cK .i64) row_0)), (3, (pEq (.int .i64 s)))]) (Ωσ := fun s g => []) (g := ()) h ?_
  clear h
  rintro v2 g3 t h
  replace h : m_spec_l16Row_B1 row_0 v2 = some t := h
  unfold m_spec_l16Row_B1 at h
  refine Tr.weakO (Γ' := [(0, (pSl 1 (cK .i64) row_0)), (3, (pEq (.int .i64 v2)))]) (Ω' := []) rfl ⟨rfl, rfl, trivial⟩ ?_
  refine Tr.seq ?_
  refine Tr.seq ?_
  refine Tr.region ?_
  refine RegL.pure (p := (pEq (.int .i64 v2))) rfl rfl rfl (J_move rfl (Opd.tmp rfl)) ?_
  refine RegL.pure (p := (pSl 1 (cK .i64) row_0)) rfl rfl rfl (J_move rfl (Opd.tmp rfl)) ?_
  refine RegL.pure (p := (pEq (.int .i64 (row_0.length : Int)))) rfl rfl rfl (J_len rfl Try.underlying22 (Opd.tmp rfl) rfl) ?_
  refine RegL.pure (p := (pEq (.bool (decide (v2 < (row_0.length : Int)))))) rfl rfl rfl (J_bin rfl (Opd.tmp rfl) (Opd.tmp rfl) B_lss) ?_
  refine RegL.nil ?_
  refine Ct.then_tr ?_
  refine Tr.weak (Γ' := [(0, (pSl 1 (cK .i64) row_0)), (3, (pEq (.int .i64 v2))), (7, (pEq (.bool (decide (v2 < (row_0.length : Int))))))]) ⟨rfl, rfl, rfl, trivial⟩ ?_
  refine Tr.cond (Opd.tmp rfl) (fun hc => ?_) (fun hc => ?_)
  · replace h := bif_t hc h
    refine Tr.skip ?_
    refine Ct.then_tr ?_
    refine Tr.weak (Γ' := [(0, (pSl 1 (cK .i64) row_0)), (3, (pEq (.int .i64 v2)))]) ⟨rfl, rfl, trivial⟩ ?_
    refine Tr.seq ?_
    refine Tr.block ?_
    refine Tr.seq ?_
    refine Tr.region ?_
    refine RegL.pure (p := (pSl 1 (cK .i64) row_0)) rfl rfl rfl (J_move rfl (Opd.tmp rfl)) ?_
    refine RegL.pure (p := (pEq (.int .i64 v2))) rfl rfl rfl (J_move rfl (Opd.tmp rfl)) ?_
    replace h := bind_some h; obtain ⟨x4, hx4, h⟩ := h
    refine RegL.pure (p := (pPtr ((cK .i64) x4))) rfl rfl rfl (J_idx rfl Try.underlying22 sz2 (Opd.tmp rfl) (Opd.tmp rfl) hx4) ?_
    refine RegL.pure (p := (pEq (.int .i64 x4))) rfl rfl rfl (J_load rfl Try.isAgg2 (Opd.tmp rfl)) ?_
    replace h := bind_some h; obtain ⟨x5, hx5, h⟩ := h
    refine RegL.pure (p := (pEq (.bool x5))) rfl rfl rfl (J_call rfl Try.call97 (c_spec_l02Level hx5) (Opds.cons (Opd.tmp rfl) Opds.nil)) ?_
    refine RegL.pure (p := (pEq (.bool (!x5)))) rfl rfl rfl (J_not rfl (Opd.tmp rfl)) ?_
    refine RegL.nil ?_
    refine Ct.then_tr ?_
    refine Tr.weak (Γ' := [(0, (pSl 1 (cK .i64) row_0)), (3, (pEq (.int .i64 v2))), (15, (pEq (.bool (!x5))))]) ⟨rfl, rfl, rfl, trivial⟩ ?_
    refine Tr.cond (Opd.tmp rfl) (fun hc => ?_) (fun hc => ?_)
    · replace h := bif_t hc h
      refine Tr.seq ?_
      refine Tr.region ?_
      refine RegL.pure (p := (pEq (.bool false))) rfl rfl rfl (J_assign rfl Opd.con) ?_
      refine RegL.nil ?_
      refine Ct.then_tr ?_
      refine Tr.weak (Γ' := [(2, (pEq (.bool false)))]) ⟨rfl, trivial⟩ ?_
      refine Tr.ret ?_
      refine Ct.blk_ret ?_
      refine Ct.then_ret ?_
      replace h := map_some h; obtain ⟨r1, h, rfl⟩ := h
      refine Ct.out_ret fun e => ?_
      subst e
      refine Ct.blk_ret ?_
      refine Ct.then_ret ?_
      replace h := Option.some.inj h; subst h
      exact Ct.retH1 (Ωx := []) () rfl (RvOk.tmp rfl) rfl
    · replace h := bif_f hc h
      refine Tr.skip ?_
      refine Ct.blk_normal ?_
      refine Ct.then_tr ?_
      refine Tr.weak (Γ' := [(0, (pSl 1 (cK .i64) row_0)), (3, (pEq (.int .i64 v2)))]) ⟨rfl, rfl, trivial⟩ ?_
      refine Tr.region ?_
      refine RegL.pure (p := (pEq (.int .i64 v2))) rfl rfl rfl (J_move rfl (Opd.tmp rfl)) ?_
      refine RegL.pure (p := (pEq (.int .i64 (w64 (v2 + (1 : Int)))))) rfl rfl rfl (J_bin rfl (Opd.tmp rfl) Opd.con B_add) ?_
      refine RegL.pure (p := (pEq (.int .i64 (w64 (v2 + (1 : Int)))))) rfl rfl rfl (J_assign rfl (Opd.tmp rfl)) ?_
      refine RegL.nil ?_
      replace h := Option.some.inj h; subst h
      exact Ct.again () rfl ⟨rfl, rfl, trivial⟩
  · replace h := bif_f hc h
    refine Tr.exit ?_
    refine Ct.then_exit ?_
    replace h := map_some h; obtain ⟨r1, h, rfl⟩ := h
    refine Ct.out_exit fun e => ?_
    subst e
    refine Ct.blk_exit ?_
    refine Ct.then_tr ?_
    refine Tr.weak (Γ' := [(0, (pSl 1 (cK .i64) row_0))]) ⟨rfl, trivial⟩ ?_
    refine Tr.seq ?_
    replace h := bind_some h; obtain ⟨x6, hx6, h⟩ := h
    refine Tr.cut (γ := Unit) (Γm := fun g => [(2, (pEq (.bool x6)))]) (Ωm := fun g => []) ?_ (fun g8 => ?_)
    · clear h
      have h := hx6
      clear hx6
      refine Tr.region ?_
      refine RegL.pure (p := (pSl 1 (cK .i64) row_0)) rfl rfl rfl (J_move rfl (Opd.tmp rfl)) ?_
      refine RegL.pure (p := (pEq (.int .i64 (row_0.length : Int)))) rfl rfl rfl (J_len rfl Try.underlying22 (Opd.tmp rfl) rfl) ?_
      refine RegL.pure (p := (pEq (.bool (decide ((0 : Int) < (row_0.length : Int)))))) rfl rfl rfl (J_bin rfl (Opd.tmp rfl) Opd.con B_gtr) ?_
      refine RegL.pure (p := (pEq (.bool (decide ((0 : Int) < (row_0.length : Int)))))) rfl rfl rfl (J_move rfl (Opd.tmp rfl)) ?_
      rcases Bool.eq_false_or_eq_true (decide ((0 : Int) < (row_0.length : Int))) with hc7 | hc7
      · replace h := bif_t hc7 h
        refine RegL.pureG (p := (pSl 1 (cK .i64) row_0)) rfl rfl rfl hc7 rfl rfl (J_move rfl (Opd.tmp rfl)) ?_
        refine RegL.pureG (p := (pEq (.int .i64 (row_0.length : Int)))) rfl rfl rfl hc7 rfl rfl (J_len rfl Try.underlying22 (Opd.tmp rfl) rfl) ?_
        refine RegL.pureG (p := (pEq (.bool (decide ((row_0.length : Int) ≤ (24 : Int)))))) rfl rfl rfl hc7 rfl rfl (J_bin rfl (Opd.tmp rfl) Opd.con B_leq) ?_
        refine RegL.pure (p := (pEq (.bool (decide ((row_0.length : Int) ≤ (24 : Int)))))) rfl rfl rfl (J_pick rfl (Opd.tmp rfl) (fun _ => (Opd.tmp rfl)) (fun hf => absurd (hc7.symm.trans hf) (by decide))) ?_
        refine RegL.pure (p := (pEq (.bool (decide ((row_0.length : Int) ≤ (24 : Int)))))) rfl rfl rfl (J_assign rfl (Opd.tmp rfl)) ?_
        refine RegL.nil ?_
        replace h := Option.some.inj h; subst h
        exact Ct.mid () rfl ⟨rfl, trivial⟩
      · replace h := bif_f hc7 h
        refine RegL.skipG rfl rfl rfl hc7 rfl rfl ?_
        refine RegL.skipG rfl rfl rfl hc7 rfl rfl ?_
        refine RegL.skipG rfl rfl rfl hc7 rfl rfl ?_
        refine RegL.pure (p := (pEq (.bool false))) rfl rfl rfl (J_pick rfl (Opd.tmp rfl) (fun hf => absurd (hc7.symm.trans hf) (by decide)) (fun _ => Opd.con)) ?_
        refine RegL.pure (p := (pEq (.bool false))) rfl rfl rfl (J_assign rfl (Opd.tmp rfl)) ?_
        refine RegL.nil ?_
        replace h := Option.some.inj h; subst h
        exact Ct.mid () rfl ⟨rfl, trivial⟩
    · clear hx6
      refine Ct.then_tr ?_
      refine Tr.weak (Γ' := [(2, (pEq (.bool x6)))]) ⟨rfl, trivial⟩ ?_
      refine Tr.ret ?_
      replace h := Option.some.inj h; subst h
      exact Ct.retH1 (Ωx := []) () rfl (RvOk.tmp rfl) rfl

theorem c_spec_l16Rows {rows_0 : (List (List Int))} {r : Bool} (h : m_spec_l16Rows rows_0 = some r) : CallJ Try.prog 83 [(pSl 1 (cSl 1 (cK .i64)) rows_0)] (pEq (.bool r)) := by
  unfold m_spec_l16Rows at h
  refine CallJ.enterH Try.func83 rfl Try.ntmps83 rfl fun W I0 H => ?_
  refine Tr.weak (Γ' := [(0, (pSl 1 (cSl 1 (cK .i64)) rows_0))]) ⟨rfl, trivial⟩ ?_
  refine Tr.seq ?_
  refine Tr.region ?_
  refine RegL.pure (p := (pEq (.bool false))) rfl rfl rfl (J_assign rfl Opd.con) ?_
  refine RegL.nil ?_
  refine Ct.then_tr ?_
  refine Tr.weak (Γ' := [(0, (pSl 1 (cSl 1 (cK .i64)) rows_0))]) ⟨rfl, trivial⟩ ?_
  refine Tr.seq ?_
  refine Tr.seq ?_
  refine Tr.region ?_
  refine RegL.pure (p := (pEq (.int .i64 (0 : Int)))) rfl rfl rfl (J_assign rfl Opd.con) ?_
  refine RegL.nil ?_
  refine Ct.then_tr ?_
  refine Tr.weak (Γ' := [(0, (pSl 1 (cSl 1 (cK .i64)) rows_0)), (3, (pEq (.int .i64 (0 : Int))))]) ⟨rfl, rfl, trivial⟩ ?_
  refine Tr.block ?_
  refine Tr.weak (Γ' := [(0, (pSl 1 (cSl 1 (cK .i64)) rows_0)), (3, (pEq (.int .i64 (0 : Int))))]) ⟨rfl, rfl, trivial⟩ ?_
  refine Tr.loop (γ := Unit) (σ := Int) (Γσ := fun s g => [(0, (pSl 1 (cSl 1 (cK .i64)) rows_0)), (3, (pEq (.int .i64 s)))]) (Ωσ := fun s g => []) (g := ()) h ?_
  clear h
  rintro v2 g3 t h
  replace h : m_spec_l16Rows_B1 rows_0 v2 = some t := h
  unfold m_spec_l16Rows_B1 at h
  refine Tr.weakO (Γ' := [(0, (pSl 1 (cSl 1 (cK .i64)) rows_0)), (3, (pEq (.int .i64 v2)))]) (Ω' := []) rfl ⟨rfl, rfl, trivial⟩ ?_
  refine Tr.seq ?_
  refine Tr.seq ?_
  refine Tr.region ?_
  refine RegL.pure (p := (pEq (.int .i64 v2))) rfl rfl rfl (J_move rfl (Opd.tmp rfl)) ?_
  refine RegL.pure (p := (pSl 1 (cSl 1 (cK .i64)) rows_0)) rfl rfl rfl (J_move rfl (Opd.tmp rfl)) ?_
  refine RegL.pure (p := (pEq (.int .i64 (rows_0.length : Int)))) rfl rfl rfl (J_len rfl Try.underlying68 (Opd.tmp rfl) rfl) ?_
  refine RegL.pure (p := (pEq (.bool (decide (v2 < (rows_0.length : Int)))))) rfl rfl rfl (J_bin rfl (Opd.tmp rfl) (Opd.tmp rfl) B_lss) ?_
  refine RegL.nil ?_
  refine Ct.then_tr ?_
  refine Tr.weak (Γ' := [(0, (pSl 1 (cSl 1 (cK .i64)) rows_0)), (3, (pEq (.int .i64 v2))), (7, (pEq (.bool (decide (v2 < (rows_0.length : Int))))))]) ⟨rfl, rfl, rfl, trivial⟩ ?_
  refine Tr.cond (Opd.tmp rfl) (fun hc => ?_) (fun hc => ?_)
  · replace h := bif_t hc h
    refine Tr.skip ?_
    refine Ct.then_tr ?_
    refine Tr.weak (Γ' := [(0, (pSl 1 (cSl 1 (cK .i64)) rows_0)), (3, (pEq (.int .i64 v2)))]) ⟨rfl, rfl, trivial⟩ ?_
    refine Tr.seq ?_
    refine Tr.block ?_
    refine Tr.seq ?_
    replace h := bind_some h; obtain ⟨x4, hx4, h⟩ := h
    refine Tr.cut (γ := Unit) (Γm := fun g => [(0, (pSl 1 (cSl 1 (cK .i64)) rows_0)), (3, (pEq (.int .i64 v2))), (27, (pEq (.bool x4)))]) (Ωm := fun g => []) ?_ (fun g10 => ?_)
    · clear h
      have h := hx4
      clear hx4
      replace h := bind_some h; obtain ⟨x5, hx5, h⟩ := h
      replace h := bind_some h; obtain ⟨x6, hx6, h⟩ := h
      rcases Bool.eq_false_or_eq_true (!x6) with hc7 | hc7
      · replace h := bif_t hc7 h
        refine Tr.drawD (n := 36) (m := 18) (es := [some (Ent.mk [(0, (pSl 1 (cSl 1 (cK .i64)) rows_0))] (pSl 1 (cSl 1 (cK .i64)) rows_0) true), some (Ent.mk [(3, (pEq (.int .i64 v2)))] (pEq (.int .i64 v2)) true), some (Ent.mk [(10, (pSl 1 (cSl 1 (cK .i64)) rows_0)), (11, (pEq (.int .i64 v2)))] (pPtr ((cSl 1 (cK .i64)) x5)) true), some (Ent.mk [(12, (pPtr ((cSl 1 (cK .i64)) x5)))] (pSl 1 (cK .i64) x5) true), some (Ent.mk [(13, (pSl 1 (cK .i64) x5))] (pEq (.bool x6)) true), some (Ent.mk [(14, (pEq (.bool x6)))] (pEq (.bool (!x6))) true), some (Ent.mk [(15, (pEq (.bool (!x6))))] (pEq (.bool (!x6))) true), some (Ent.mk [(0, (pSl 1 (cSl 1 (cK .i64)) rows_0))] (pEq undef) false), some (Ent.mk [(3, (pEq (.int .i64 v2)))] (pEq undef) false), some (Ent.mk [(17, (pEq undef)), (18, (pEq undef))] (pEq undef) false), some (Ent.mk [(19, (pEq undef))] (pEq undef) false), some (Ent.mk [(20, (pEq undef))] (pEq undef) false), some (Ent.mk [(0, (pSl 1 (cSl 1 (cK .i64)) rows_0))] (pEq undef) false), some (Ent.mk [(22, (pEq undef))] (pEq undef) false), some (Ent.mk [(23, (pEq undef))] (pEq undef) false), some (Ent.mk [(24, (pEq undef))] (pEq undef) false), some (Ent.mk [(21, (pEq undef)), (25, (pEq undef))] (pEq undef) false), some (Ent.mk [(16, (pEq (.bool (!x6)))), (26, (pEq undef))] (pEq (.bool true)) true)]) (rd := [[0], [3], [10, 11], [12], [13], [14], [15], [0], [3], [17, 18], [19], [20], [0], [22], [23], [24], [21, 25], [16, 26]]) rfl hmix (by kernel_rfl) fun hD => ?_
        refine RD.fin (es := [Ent.mk [(0, (pSl 1 (cSl 1 (cK .i64)) rows_0))] (pSl 1 (cSl 1 (cK .i64)) rows_0) true, Ent.mk [(3, (pEq (.int .i64 v2)))] (pEq (.int .i64 v2)) true, Ent.mk [(10, (pSl 1 (cSl 1 (cK .i64)) rows_0)), (11, (pEq (.int .i64 v2)))] (pPtr ((cSl 1 (cK .i64)) x5)) true, Ent.mk [(12, (pPtr ((cSl 1 (cK .i64)) x5)))] (pSl 1 (cK .i64) x5) true, Ent.mk [(13, (pSl 1 (cK .i64) x5))] (pEq (.bool x6)) true, Ent.mk [(14, (pEq (.bool x6)))] (pEq (.bool (!x6))) true, Ent.mk [(15, (pEq (.bool (!x6))))] (pEq (.bool (!x6))) true, Ent.mk [(0, (pSl 1 (cSl 1 (cK .i64)) rows_0))] (pEq undef) false, Ent.mk [(3, (pEq (.int .i64 v2)))] (pEq undef) false, Ent.mk [(17, (pEq undef)), (18, (pEq undef))] (pEq undef) false, Ent.mk [(19, (pEq undef))] (pEq undef) false, Ent.mk [(20, (pEq undef))] (pEq undef) false, Ent.mk [(0, (pSl 1 (cSl 1 (cK .i64)) rows_0))] (pEq undef) false, Ent.mk [(22, (pEq undef))] (pEq undef) false, Ent.mk [(23, (pEq undef))] (pEq undef) false, Ent.mk [(24, (pEq undef))] (pEq undef) false, Ent.mk [(21, (pEq undef)), (25, (pEq undef))] (pEq undef) false, Ent.mk [(16, (pEq (.bool (!x6)))), (26, (pEq undef))] (pEq (.bool true)) true]) (done := []) hD ⟨.inr ⟨(OpJ.w (J_move rfl (Opd.tmp rfl))), ⟨rfl, trivial⟩, rfl, rfl⟩, ⟨.inr ⟨(OpJ.w (J_move rfl (Opd.tmp rfl))), ⟨rfl, trivial⟩, rfl, rfl⟩, ⟨.inr ⟨(OpJ.w (J_idx rfl Try.underlying68 sz22 (Opd.tmp rfl) (Opd.tmp rfl) hx5)), ⟨rfl, rfl, trivial⟩, rfl, rfl⟩, ⟨.inr ⟨(OpJ.w (J_load rfl Try.isAgg22 (Opd.tmp rfl))), ⟨rfl, trivial⟩, rfl, rfl⟩, ⟨.inr ⟨(OpJ.w (J_call rfl Try.call100 (c_spec_l16Row hx6) (Opds.cons (Opd.tmp rfl) Opds.nil))), ⟨rfl, trivial⟩, rfl, rfl⟩, ⟨.inr ⟨(OpJ.w (J_not rfl (Opd.tmp rfl))), ⟨rfl, trivial⟩, rfl, rfl⟩, ⟨.inr ⟨(OpJ.w (J_move rfl (Opd.tmp rfl))), ⟨rfl, trivial⟩, rfl, rfl⟩, ⟨.inr ⟨rfl, ⟨rfl, trivial⟩, (.inl ⟨_, rfl, by simp [hc7]⟩), rfl⟩, ⟨.inr ⟨rfl, ⟨rfl, trivial⟩, (.inl ⟨_, rfl, by simp [hc7]⟩), rfl⟩, ⟨.inr ⟨rfl, ⟨rfl, rfl, trivial⟩, (.inl ⟨_, rfl, by simp [hc7]⟩), rfl⟩, ⟨.inr ⟨rfl, ⟨rfl, trivial⟩, (.inl ⟨_, rfl, by simp [hc7]⟩), rfl⟩, ⟨.inr ⟨rfl, ⟨rfl, trivial⟩, (.inl ⟨_, rfl, by simp [hc7]⟩), rfl⟩, ⟨.inr ⟨rfl, ⟨rfl, trivial⟩, (.inl ⟨_, rfl, by simp [hc7]⟩), rfl⟩, ⟨.inr ⟨rfl, ⟨rfl, trivial⟩, (.inl ⟨_, rfl, by simp [hc7]⟩), rfl⟩, ⟨.inr ⟨rfl, ⟨rfl, trivial⟩, (.inl ⟨_, rfl, by simp [hc7]⟩), rfl⟩, ⟨.inr ⟨rfl, ⟨rfl, trivial⟩, (.inl ⟨_, rfl, by simp [hc7]⟩), rfl⟩, ⟨.inr ⟨rfl, ⟨rfl, rfl, trivial⟩, (.inl ⟨_, rfl, by simp [hc7]⟩), rfl⟩, ⟨.inr ⟨(OpJ.w (J_pick rfl (Opd.tmp rfl) (fun _ => Opd.con) (fun hf => absurd (hc7.symm.trans hf) (by decide)))), ⟨rfl, rfl, trivial⟩, rfl, rfl⟩, trivial⟩⟩⟩⟩⟩⟩⟩⟩⟩⟩⟩⟩⟩⟩⟩⟩⟩⟩ ?_
        refine RegL.nil ?_
        replace h := Option.some.inj h; subst h
        exact Ct.mid () rfl ⟨rfl, rfl, rfl, trivial⟩
      · replace h := bif_f hc7 h
        replace h := bind_some h; obtain ⟨x8, hx8, h⟩ := h
        replace h := bind_some h; obtain ⟨x9, hx9, h⟩ := h
        refine Tr.drawD (n := 36) (m := 18) (es := [some (Ent.mk [(0, (pSl 1 (cSl 1 (cK .i64)) rows_0))] (pSl 1 (cSl 1 (cK .i64)) rows_0) true), some (Ent.mk [(3, (pEq (.int .i64 v2)))] (pEq (.int .i64 v2)) true), some (Ent.mk [(10, (pSl 1 (cSl 1 (cK .i64)) rows_0)), (11, (pEq (.int .i64 v2)))] (pPtr ((cSl 1 (cK .i64)) x5)) true), some (Ent.mk [(12, (pPtr ((cSl 1 (cK .i64)) x5)))] (pSl 1 (cK .i64) x5) true), some (Ent.mk [(13, (pSl 1 (cK .i64) x5))] (pEq (.bool x6)) true), some (Ent.mk [(14, (pEq (.bool x6)))] (pEq (.bool (!x6))) true), some (Ent.mk [(15, (pEq (.bool (!x6))))] (pEq (.bool (!x6))) true), some (Ent.mk [(0, (pSl 1 (cSl 1 (cK .i64)) rows_0))] (pSl 1 (cSl 1 (cK .i64)) rows_0) true), some (Ent.mk [(3, (pEq (.int .i64 v2)))] (pEq (.int .i64 v2)) true), some (Ent.mk [(17, (pSl 1 (cSl 1 (cK .i64)) rows_0)), (18, (pEq (.int .i64 v2)))] (pPtr ((cSl 1 (cK .i64)) x8)) true), some (Ent.mk [(19, (pPtr ((cSl 1 (cK .i64)) x8)))] (pSl 1 (cK .i64) x8) true), some (Ent.mk [(20, (pSl 1 (cK .i64) x8))] (pEq (.int .i64 (x8.length : Int))) true), some (Ent.mk [(0, (pSl 1 (cSl 1 (cK .i64)) rows_0))] (pSl 1 (cSl 1 (cK .i64)) rows_0) true), some (Ent.mk [(22, (pSl 1 (cSl 1 (cK .i64)) rows_0))] (pPtr ((cSl 1 (cK .i64)) x9)) true), some (Ent.mk [(23, (pPtr ((cSl 1 (cK .i64)) x9)))] (pSl 1 (cK .i64) x9) true), some (Ent.mk [(24, (pSl 1 (cK .i64) x9))] (pEq (.int .i64 (x9.length : Int))) true), some (Ent.mk [(21, (pEq (.int .i64 (x8.length : Int)))), (25, (pEq (.int .i64 (x9.length : Int))))] (pEq (.bool ((x8.length : Int) != (x9.length : Int)))) true), some (Ent.mk [(16, (pEq (.bool (!x6)))), (26, (pEq (.bool ((x8.length : Int) != (x9.length : Int)))))] (pEq (.bool ((x8.length : Int) != (x9.length : Int)))) true)]) (rd := [[0], [3], [10, 11], [12], [13], [14], [15], [0], [3], [17, 18], [19], [20], [0], [22], [23], [24], [21, 25], [16, 26]]) rfl hmix (by kernel_rfl) fun hD => ?_
        refine RD.fin (es := [Ent.mk [(0, (pSl 1 (cSl 1 (cK .i64)) rows_0))] (pSl 1 (cSl 1 (cK .i64)) rows_0) true, Ent.mk [(3, (pEq (.int .i64 v2)))] (pEq (.int .i64 v2)) true, Ent.mk [(10, (pSl 1 (cSl 1 (cK .i64)) rows_0)), (11, (pEq (.int .i64 v2)))] (pPtr ((cSl 1 (cK .i64)) x5)) true, Ent.mk [(12, (pPtr ((cSl 1 (cK .i64)) x5)))] (pSl 1 (cK .i64) x5) true, Ent.mk [(13, (pSl 1 (cK .i64) x5))] (pEq (.bool x6)) true, Ent.mk [(14, (pEq (.bool x6)))] (pEq (.bool (!x6))) true, Ent.mk [(15, (pEq (.bool (!x6))))] (pEq (.bool (!x6))) true, Ent.mk [(0, (pSl 1 (cSl 1 (cK .i64)) rows_0))] (pSl 1 (cSl 1 (cK .i64)) rows_0) true, Ent.mk [(3, (pEq (.int .i64 v2)))] (pEq (.int .i64 v2)) true, Ent.mk [(17, (pSl 1 (cSl 1 (cK .i64)) rows_0)), (18, (pEq (.int .i64 v2)))] (pPtr ((cSl 1 (cK .i64)) x8)) true, Ent.mk [(19, (pPtr ((cSl 1 (cK .i64)) x8)))] (pSl 1 (cK .i64) x8) true, Ent.mk [(20, (pSl 1 (cK .i64) x8))] (pEq (.int .i64 (x8.length : Int))) true, Ent.mk [(0, (pSl 1 (cSl 1 (cK .i64)) rows_0))] (pSl 1 (cSl 1 (cK .i64)) rows_0) true, Ent.mk [(22, (pSl 1 (cSl 1 (cK .i64)) rows_0))] (pPtr ((cSl 1 (cK .i64)) x9)) true, Ent.mk [(23, (pPtr ((cSl 1 (cK .i64)) x9)))] (pSl 1 (cK .i64) x9) true, Ent.mk [(24, (pSl 1 (cK .i64) x9))] (pEq (.int .i64 (x9.length : Int))) true, Ent.mk [(21, (pEq (.int .i64 (x8.length : Int)))), (25, (pEq (.int .i64 (x9.length : Int))))] (pEq (.bool ((x8.length : Int) != (x9.length : Int)))) true, Ent.mk [(16, (pEq (.bool (!x6)))), (26, (pEq (.bool ((x8.length : Int) != (x9.length : Int)))))] (pEq (.bool ((x8.length : Int) != (x9.length : Int)))) true]) (done := []) hD ⟨.inr ⟨(OpJ.w (J_move rfl (Opd.tmp rfl))), ⟨rfl, trivial⟩, rfl, rfl⟩, ⟨.inr ⟨(OpJ.w (J_move rfl (Opd.tmp rfl))), ⟨rfl, trivial⟩, rfl, rfl⟩, ⟨.inr ⟨(OpJ.w (J_idx rfl Try.underlying68 sz22 (Opd.tmp rfl) (Opd.tmp rfl) hx5)), ⟨rfl, rfl, trivial⟩, rfl, rfl⟩, ⟨.inr ⟨(OpJ.w (J_load rfl Try.isAgg22 (Opd.tmp rfl))), ⟨rfl, trivial⟩, rfl, rfl⟩, ⟨.inr ⟨(OpJ.w (J_call rfl Try.call100 (c_spec_l16Row hx6) (Opds.cons (Opd.tmp rfl) Opds.nil))), ⟨rfl, trivial⟩, rfl, rfl⟩, ⟨.inr ⟨(OpJ.w (J_not rfl (Opd.tmp rfl))), ⟨rfl, trivial⟩, rfl, rfl⟩, ⟨.inr ⟨(OpJ.w (J_move rfl (Opd.tmp rfl))), ⟨rfl, trivial⟩, rfl, rfl⟩, ⟨.inr ⟨(OpJ.w (J_move rfl (Opd.tmp rfl))), ⟨rfl, trivial⟩, (.inl ⟨_, rfl, by simp [hc7]⟩), rfl⟩, ⟨.inr ⟨(OpJ.w (J_move rfl (Opd.tmp rfl))), ⟨rfl, trivial⟩, (.inl ⟨_, rfl, by simp [hc7]⟩), rfl⟩, ⟨.inr ⟨(OpJ.w (J_idx rfl Try.underlying68 sz22 (Opd.tmp rfl) (Opd.tmp rfl) hx8)), ⟨rfl, rfl, trivial⟩, (.inl ⟨_, rfl, by simp [hc7]⟩), rfl⟩, ⟨.inr ⟨(OpJ.w (J_load rfl Try.isAgg22 (Opd.tmp rfl))), ⟨rfl, trivial⟩, (.inl ⟨_, rfl, by simp [hc7]⟩), rfl⟩, ⟨.inr ⟨(OpJ.w (J_len rfl Try.underlying22 (Opd.tmp rfl) rfl)), ⟨rfl, trivial⟩, (.inl ⟨_, rfl, by simp [hc7]⟩), rfl⟩, ⟨.inr ⟨(OpJ.w (J_move rfl (Opd.tmp rfl))), ⟨rfl, trivial⟩, (.inl ⟨_, rfl, by simp [hc7]⟩), rfl⟩, ⟨.inr ⟨(OpJ.w (J_idx rfl Try.underlying68 sz22 (Opd.tmp rfl) Opd.con hx9)), ⟨rfl, trivial⟩, (.inl ⟨_, rfl, by simp [hc7]⟩), rfl⟩, ⟨.inr ⟨(OpJ.w (J_load rfl Try.isAgg22 (Opd.tmp rfl))), ⟨rfl, trivial⟩, (.inl ⟨_, rfl, by simp [hc7]⟩), rfl⟩, ⟨.inr ⟨(OpJ.w (J_len rfl Try.underlying22 (Opd.tmp rfl) rfl)), ⟨rfl, trivial⟩, (.inl ⟨_, rfl, by simp [hc7]⟩), rfl⟩, ⟨.inr ⟨(OpJ.w (J_bin rfl (Opd.tmp rfl) (Opd.tmp rfl) B_neq)), ⟨rfl, rfl, trivial⟩, (.inl ⟨_, rfl, by simp [hc7]⟩), rfl⟩, ⟨.inr ⟨(OpJ.w (J_pick rfl (Opd.tmp rfl) (fun hf => absurd (hc7.symm.trans hf) (by decide)) (fun _ => (Opd.tmp rfl)))), ⟨rfl, rfl, trivial⟩, rfl, rfl⟩, trivial⟩⟩⟩⟩⟩⟩⟩⟩⟩⟩⟩⟩⟩⟩⟩⟩⟩⟩ ?_
        refine RegL.nil ?_
        replace h := Option.some.inj h; subst h
        exact Ct.mid () rfl ⟨rfl, rfl, rfl, trivial⟩
    · clear hx4
      refine Ct.then_tr ?_
      refine Tr.weak (Γ' := [(0, (pSl 1 (cSl 1 (cK .i64)) rows_0)), (3, (pEq (.int .i64 v2))), (27, (pEq (.bool x4)))]) ⟨rfl, rfl, rfl, trivial⟩ ?_
      refine Tr.cond (Opd.tmp rfl) (fun hc => ?_) (fun hc => ?_)
      · replace h := bif_t hc h
        refine Tr.seq ?_
        refine Tr.region ?_
        refine RegL.pure (p := (pEq (.bool false))) rfl rfl rfl (J_assign rfl Opd.con) ?_
        refine RegL.nil ?_
        refine Ct.then_tr ?_
        refine Tr.weak (Γ' := [(2, (pEq (.bool false)))]) ⟨rfl, trivial⟩ ?_
        refine Tr.ret ?_
        refine Ct.blk_ret ?_
        refine Ct.then_ret ?_
        replace h := map_some h; obtain ⟨r1, h, rfl⟩ := h
        refine Ct.out_ret fun e => ?_
        subst e
        refine Ct.blk_ret ?_
        refine Ct.then_ret ?_
        replace h := Option.some.inj h; subst h
        exact Ct.retH1 (Ωx := []) () rfl (RvOk.tmp rfl) rfl
      · replace h := bif_f hc h
        refine Tr.skip ?_
        refine Ct.blk_normal ?_
        refine Ct.then_tr ?_
        refine Tr.weak (Γ' := [(0, (pSl 1 (cSl 1 (cK .i64)) rows_0)), (3, (pEq (.int .i64 v2)))]) ⟨rfl, rfl, trivial⟩ ?_
        refine Tr.region ?_
        refine RegL.pure (p := (pEq (.int .i64 v2))) rfl rfl rfl (J_move rfl (Opd.tmp rfl)) ?_
        refine RegL.pure (p := (pEq (.int .i64 (w64 (v2 + (1 : Int)))))) rfl rfl rfl (J_bin rfl (Opd.tmp rfl) Opd.con B_add) ?_
        refine RegL.pure (p := (pEq (.int .i64 (w64 (v2 + (1 : Int)))))) rfl rfl rfl (J_assign rfl (Opd.tmp rfl)) ?_
        refine RegL.nil ?_
        replace h := Option.some.inj h; subst h
        exact Ct.again () rfl ⟨rfl, rfl, trivial⟩
  · replace h := bif_f hc h
    refine Tr.exit ?_
    refine Ct.then_exit ?_
    replace h := map_some h; obtain ⟨r1, h, rfl⟩ := h
    refine Ct.out_exit fun e => ?_
    subst e
    refine Ct.blk_exit ?_
    refine Ct.then_tr ?_
    refine Tr.weak (Γ' := [(0, (pSl 1 (cSl 1 (cK .i64)) rows_0))]) ⟨rfl, trivial⟩ ?_
    refine Tr.seq ?_
    replace h := bind_some h; obtain ⟨x11, hx11, h⟩ := h
    refine Tr.cut (γ := Unit) (Γm := fun g => [(2, (pEq (.bool x11)))]) (Ωm := fun g => []) ?_ (fun g13 => ?_)
    · clear h
      have h := hx11
      clear hx11
      refine Tr.region ?_
      refine RegL.pure (p := (pSl 1 (cSl 1 (cK .i64)) rows_0)) rfl rfl rfl (J_move rfl (Opd.tmp rfl)) ?_
      refine RegL.pure (p := (pEq (.int .i64 (rows_0.length : Int)))) rfl rfl rfl (J_len rfl Try.underlying68 (Opd.tmp rfl) rfl) ?_
      refine RegL.pure (p := (pEq (.bool (decide ((0 : Int) < (rows_0.length : Int)))))) rfl rfl rfl (J_bin rfl (Opd.tmp rfl) Opd.con B_gtr) ?_
      refine RegL.pure (p := (pEq (.bool (decide ((0 : Int) < (rows_0.length : Int)))))) rfl rfl rfl (J_move rfl (Opd.tmp rfl)) ?_
      rcases Bool.eq_false_or_eq_true (decide ((0 : Int) < (rows_0.length : Int))) with hc12 | hc12
      · replace h := bif_t hc12 h
        refine RegL.pureG (p := (pSl 1 (cSl 1 (cK .i64)) rows_0)) rfl rfl rfl hc12 rfl rfl (J_move rfl (Opd.tmp rfl)) ?_
        refine RegL.pureG (p := (pEq (.int .i64 (rows_0.length : Int)))) rfl rfl rfl hc12 rfl rfl (J_len rfl Try.underlying68 (Opd.tmp rfl) rfl) ?_
        refine RegL.pureG (p := (pEq (.bool (decide ((rows_0.length : Int) ≤ (32 : Int)))))) rfl rfl rfl hc12 rfl rfl (J_bin rfl (Opd.tmp rfl) Opd.con B_leq) ?_
        refine RegL.pure (p := (pEq (.bool (decide ((rows_0.length : Int) ≤ (32 : Int)))))) rfl rfl rfl (J_pick rfl (Opd.tmp rfl) (fun _ => (Opd.tmp rfl)) (fun hf => absurd (hc12.symm.trans hf) (by decide))) ?_
        refine RegL.pure (p := (pEq (.bool (decide ((rows_0.length : Int) ≤ (32 : Int)))))) rfl rfl rfl (J_assign rfl (Opd.tmp rfl)) ?_
        refine RegL.nil ?_
        replace h := Option.some.inj h; subst h
        exact Ct.mid () rfl ⟨rfl, trivial⟩
      · replace h := bif_f hc12 h
        refine RegL.skipG rfl rfl rfl hc12 rfl rfl ?_
        refine RegL.skipG rfl rfl rfl hc12 rfl rfl ?_
        refine RegL.skipG rfl rfl rfl hc12 rfl rfl ?_
        refine RegL.pure (p := (pEq (.bool false))) rfl rfl rfl (J_pick rfl (Opd.tmp rfl) (fun hf => absurd (hc12.symm.trans hf) (by decide)) (fun _ => Opd.con)) ?_
        refine RegL.pure (p := (pEq (.bool false))) rfl rfl rfl (J_assign rfl (Opd.tmp rfl)) ?_
        refine RegL.nil ?_
        replace h := Option.some.inj h; subst h
        exact Ct.mid () rfl ⟨rfl, trivial⟩
    · clear hx11
      refine Ct.then_tr ?_
      refine Tr.weak (Γ' := [(2, (pEq (.bool x11)))]) ⟨rfl, trivial⟩ ?_
      refine Tr.ret ?_
      replace h := Option.some.inj h; subst h
      exact Ct.retH1 (Ωx := []) () rfl (RvOk.tmp rfl) rfl

theorem c_spec_l16Server {row_0 : (List Int)} {r : Int} (h : m_spec_l16Server row_0 = some r) : CallJ Try.prog 87 [(pSl 1 (cK .i64) row_0)] (pEq (.int .i64 r)) := by
  unfold m_spec_l16Server at h
  refine CallJ.enterH Try.func87 rfl Try.ntmps87 rfl fun W I0 H => ?_
  refine Tr.weak (Γ' := [(0, (pSl 1 (cK .i64) row_0))]) ⟨rfl, trivial⟩ ?_
  refine Tr.seq ?_
  refine Tr.region ?_
  refine RegL.pure (p := (pEq (.int .i64 (0 : Int)))) rfl rfl rfl (J_assign rfl Opd.con) ?_
  refine RegL.nil ?_
  refine Ct.then_tr ?_
  refine Tr.weak (Γ' := [(0, (pSl 1 (cK .i64) row_0))]) ⟨rfl, trivial⟩ ?_
  refine Tr.seq ?_
  refine Tr.region ?_
  refine RegL.pure (p := (pEq (.int .i64 (0 : Int)))) rfl rfl rfl (J_assign rfl Opd.con) ?_
  refine RegL.nil ?_
  refine Ct.then_tr ?_
  refine Tr.weak (Γ' := [(0, (pSl 1 (cK .i64) row_0)), (3, (pEq (.int .i64 (0 : Int))))]) ⟨rfl, rfl, trivial⟩ ?_
  refine Tr.seq ?_
  refine Tr.seq ?_
  refine Tr.region ?_
  refine RegL.pure (p := (pEq (.int .i64 (1 : Int)))) rfl rfl rfl (J_assign rfl Opd.con) ?_
  refine RegL.nil ?_
  refine Ct.then_tr ?_
  refine Tr.weak (Γ' := [(0, (pSl 1 (cK .i64) row_0)), (3, (pEq (.int .i64 (0 : Int)))), (4, (pEq (.int .i64 (1 : Int))))]) ⟨rfl, rfl, rfl, trivial⟩ ?_
  replace h := bind_some h; obtain ⟨x1, hx1, h⟩ := h
  refine Tr.cut (γ := Unit) (Γm := fun g => [(3, (pEq (.int .i64 x1)))]) (Ωm := fun g => []) ?_ (fun g10 => ?_)
  · clear h
    have h := hx1
    clear hx1
    refine Tr.block ?_
    refine Tr.weak (Γ' := [(0, (pSl 1 (cK .i64) row_0)), (3, (pEq (.int .i64 (0 : Int)))), (4, (pEq (.int .i64 (1 : Int))))]) ⟨rfl, rfl, rfl, trivial⟩ ?_
    refine Tr.loop (γ := Unit) (σ := (Int × Int)) (Γσ := fun s g => [(0, (pSl 1 (cK .i64) row_0)), (3, (pEq (.int .i64 s.1))), (4, (pEq (.int .i64 s.2)))]) (Ωσ := fun s g => []) (g := ()) h ?_
    clear h
    rintro ⟨v3, v4⟩ g5 t h
    replace h : m_spec_l16Server_B2 row_0 v3 v4 = some t := h
    unfold m_spec_l16Server_B2 at h
    refine Tr.weakO (Γ' := [(0, (pSl 1 (cK .i64) row_0)), (3, (pEq (.int .i64 v3))), (4, (pEq (.int .i64 v4)))]) (Ω' := []) rfl ⟨rfl, rfl, rfl, trivial⟩ ?_
    refine Tr.seq ?_
    refine Tr.seq ?_
    refine Tr.region ?_
    refine RegL.pure (p := (pEq (.int .i64 v4))) rfl rfl rfl (J_move rfl (Opd.tmp rfl)) ?_
    refine RegL.pure (p := (pSl 1 (cK .i64) row_0)) rfl rfl rfl (J_move rfl (Opd.tmp rfl)) ?_
    refine RegL.pure (p := (pEq (.int .i64 (row_0.length : Int)))) rfl rfl rfl (J_len rfl Try.underlying22 (Opd.tmp rfl) rfl) ?_
    refine RegL.pure (p := (pEq (.bool (decide (v4 < (row_0.length : Int)))))) rfl rfl rfl (J_bin rfl (Opd.tmp rfl) (Opd.tmp rfl) B_lss) ?_
    refine RegL.nil ?_
    refine Ct.then_tr ?_
    refine Tr.weak (Γ' := [(0, (pSl 1 (cK .i64) row_0)), (3, (pEq (.int .i64 v3))), (4, (pEq (.int .i64 v4))), (8, (pEq (.bool (decide (v4 < (row_0.length : Int))))))]) ⟨rfl, rfl, rfl, rfl, trivial⟩ ?_
    refine Tr.cond (Opd.tmp rfl) (fun hc => ?_) (fun hc => ?_)
    · replace h := bif_t hc h
      refine Tr.skip ?_
      refine Ct.then_tr ?_
      refine Tr.weak (Γ' := [(0, (pSl 1 (cK .i64) row_0)), (3, (pEq (.int .i64 v3))), (4, (pEq (.int .i64 v4)))]) ⟨rfl, rfl, rfl, trivial⟩ ?_
      refine Tr.seq ?_
      refine Tr.block ?_
      refine Tr.seq ?_
      replace h := bind_some h; obtain ⟨x6, hx6, h⟩ := h
      replace h := bind_some h; obtain ⟨x7, hx7, h⟩ := h
      refine Tr.drawD (n := 22) (m := 9) (es := [some (Ent.mk [(0, (pSl 1 (cK .i64) row_0))] (pSl 1 (cK .i64) row_0) true), some (Ent.mk [(4, (pEq (.int .i64 v4)))] (pEq (.int .i64 v4)) true), some (Ent.mk [(11, (pSl 1 (cK .i64) row_0)), (12, (pEq (.int .i64 v4)))] (pPtr ((cK .i64) x6)) true), some (Ent.mk [(13, (pPtr ((cK .i64) x6)))] (pEq (.int .i64 x6)) true), some (Ent.mk [(0, (pSl 1 (cK .i64) row_0))] (pSl 1 (cK .i64) row_0) true), some (Ent.mk [(3, (pEq (.int .i64 v3)))] (pEq (.int .i64 v3)) true), some (Ent.mk [(15, (pSl 1 (cK .i64) row_0)), (16, (pEq (.int .i64 v3)))] (pPtr ((cK .i64) x7)) true), some (Ent.mk [(17, (pPtr ((cK .i64) x7)))] (pEq (.int .i64 x7)) true), some (Ent.mk [(14, (pEq (.int .i64 x6))), (18, (pEq (.int .i64 x7)))] (pEq (.bool (decide (x7 < x6)))) true)]) (rd := [[0], [4], [11, 12], [13], [0], [3], [15, 16], [17], [14, 18]]) rfl hmix (by kernel_rfl) fun hD => ?_
      refine RD.fin (es := [Ent.mk [(0, (pSl 1 (cK .i64) row_0))] (pSl 1 (cK .i64) row_0) true, Ent.mk [(4, (pEq (.int .i64 v4)))] (pEq (.int .i64 v4)) true, Ent.mk [(11, (pSl 1 (cK .i64) row_0)), (12, (pEq (.int .i64 v4)))] (pPtr ((cK .i64) x6)) true, Ent.mk [(13, (pPtr ((cK .i64) x6)))] (pEq (.int .i64 x6)) true, Ent.mk [(0, (pSl 1 (cK .i64) row_0))] (pSl 1 (cK .i64) row_0) true, Ent.mk [(3, (pEq (.int .i64 v3)))] (pEq (.int .i64 v3)) true, Ent.mk [(15, (pSl 1 (cK .i64) row_0)), (16, (pEq (.int .i64 v3)))] (pPtr ((cK .i64) x7)) true, Ent.mk [(17, (pPtr ((cK .i64) x7)))] (pEq (.int .i64 x7)) true, Ent.mk [(14, (pEq (.int .i64 x6))), (18, (pEq (.int .i64 x7)))] (pEq (.bool (decide (x7 < x6)))) true]) (done := []) hD ⟨.inr ⟨(OpJ.w (J_move rfl (Opd.tmp rfl))), ⟨rfl, trivial⟩, rfl, rfl⟩, ⟨.inr ⟨(OpJ.w (J_move rfl (Opd.tmp rfl))), ⟨rfl, trivial⟩, rfl, rfl⟩, ⟨.inr ⟨(OpJ.w (J_idx rfl Try.underlying22 sz2 (Opd.tmp rfl) (Opd.tmp rfl) hx6)), ⟨rfl, rfl, trivial⟩, rfl, rfl⟩, ⟨.inr ⟨(OpJ.w (J_load rfl Try.isAgg2 (Opd.tmp rfl))), ⟨rfl, trivial⟩, rfl, rfl⟩, ⟨.inr ⟨(OpJ.w (J_move rfl (Opd.tmp rfl))), ⟨rfl, trivial⟩, rfl, rfl⟩, ⟨.inr ⟨(OpJ.w (J_move rfl (Opd.tmp rfl))), ⟨rfl, trivial⟩, rfl, rfl⟩, ⟨.inr ⟨(OpJ.w (J_idx rfl Try.underlying22 sz2 (Opd.tmp rfl) (Opd.tmp rfl) hx7)), ⟨rfl, rfl, trivial⟩, rfl, rfl⟩, ⟨.inr ⟨(OpJ.w (J_load rfl Try.isAgg2 (Opd.tmp rfl))), ⟨rfl, trivial⟩, rfl, rfl⟩, ⟨.inr ⟨(OpJ.w (J_bin rfl (Opd.tmp rfl) (Opd.tmp rfl) B_gtr)), ⟨rfl, rfl, trivial⟩, rfl, rfl⟩, trivial⟩⟩⟩⟩⟩⟩⟩⟩⟩ ?_
      refine RegL.nil ?_
      refine Ct.then_tr ?_
      refine Tr.weak (Γ' := [(0, (pSl 1 (cK .i64) row_0)), (3, (pEq (.int .i64 v3))), (4, (pEq (.int .i64 v4))), (19, (pEq (.bool (decide (x7 < x6)))))]) ⟨rfl, rfl, rfl, rfl, trivial⟩ ?_
      replace h := bind_some h; obtain ⟨x8, hx8, h⟩ := h
      refine Tr.cut (γ := Unit) (Γm := fun g => [(0, (pSl 1 (cK .i64) row_0)), (3, (pEq (.int .i64 x8))), (4, (pEq (.int .i64 v4)))]) (Ωm := fun g => []) ?_ (fun g9 => ?_)
      · clear h
        have h := hx8
        clear hx8
        refine Tr.cond (Opd.tmp rfl) (fun hc => ?_) (fun hc => ?_)
        · replace h := bif_t hc h
          refine Tr.region ?_
          refine RegL.pure (p := (pEq (.int .i64 v4))) rfl rfl rfl (J_move rfl (Opd.tmp rfl)) ?_
          refine RegL.pure (p := (pEq (.int .i64 v4))) rfl rfl rfl (J_assign rfl (Opd.tmp rfl)) ?_
          refine RegL.nil ?_
          replace h := Option.some.inj h; subst h
          exact Ct.mid () rfl ⟨rfl, rfl, rfl, trivial⟩
        · replace h := bif_f hc h
          refine Tr.skip ?_
          replace h := Option.some.inj h; subst h
          exact Ct.mid () rfl ⟨rfl, rfl, rfl, trivial⟩
      · clear hx8
        refine Ct.blk_normal ?_
        refine Ct.then_tr ?_
        refine Tr.weak (Γ' := [(0, (pSl 1 (cK .i64) row_0)), (3, (pEq (.int .i64 x8))), (4, (pEq (.int .i64 v4)))]) ⟨rfl, rfl, rfl, trivial⟩ ?_
        refine Tr.region ?_
        refine RegL.pure (p := (pEq (.int .i64 v4))) rfl rfl rfl (J_move rfl (Opd.tmp rfl)) ?_
        refine RegL.pure (p := (pEq (.int .i64 (w64 (v4 + (1 : Int)))))) rfl rfl rfl (J_bin rfl (Opd.tmp rfl) Opd.con B_add) ?_
        refine RegL.pure (p := (pEq (.int .i64 (w64 (v4 + (1 : Int)))))) rfl rfl rfl (J_assign rfl (Opd.tmp rfl)) ?_
        refine RegL.nil ?_
        replace h := Option.some.inj h; subst h
        exact Ct.again () rfl ⟨rfl, rfl, rfl, trivial⟩
    · replace h := bif_f hc h
      refine Tr.exit ?_
      refine Ct.then_exit ?_
      replace h := map_some h; obtain ⟨r1, h, rfl⟩ := h
      refine Ct.out_exit fun e => ?_
      subst e
      refine Ct.blk_exit ?_
      replace h := Option.some.inj h; subst h
      exact Ct.mid () rfl ⟨rfl, trivial⟩
  · clear hx1
    refine Ct.then_tr ?_
    refine Tr.weak (Γ' := [(3, (pEq (.int .i64 x1)))]) ⟨rfl, trivial⟩ ?_
    refine Tr.seq ?_
    refine Tr.region ?_
    refine RegL.pure (p := (pEq (.int .i64 x1))) rfl rfl rfl (J_move rfl (Opd.tmp rfl)) ?_
    refine RegL.pure (p := (pEq (.int .i64 x1))) rfl rfl rfl (J_assign rfl (Opd.tmp rfl)) ?_
    refine RegL.nil ?_
    refine Ct.then_tr ?_
    refine Tr.weak (Γ' := [(2, (pEq (.int .i64 x1)))]) ⟨rfl, trivial⟩ ?_
    refine Tr.ret ?_
    replace h := Option.some.inj h; subst h
    exact Ct.retH1 (Ωx := []) () rfl (RvOk.tmp rfl) rfl

theorem o_spec_ServersOf {rows_0 : (List (List Int))}  {r : ((List Int) × Int)} (h : m_spec_ServersOf rows_0 = some r) : CallH Try.prog 52 [(pSl 1 (cSl 1 (cK .i64)) rows_0)] [] (fun g : G3 => (pTup [(pEq (.slice g.1 g.2.1 g.2.2)), (pEq (.int .i64 r.2))])) (fun g : G3 => [oSl 2 1 (cK .i64) g.1 g.2.1 g.2.2 r.1]) := by
  unfold m_spec_ServersOf at h
  refine CallH.enter Try.func52 rfl Try.ntmps52 rfl fun W I0 H => ?_
  refine Tr.weak (Γ' := [(0, (pSl 1 (cSl 1 (cK .i64)) rows_0))]) ⟨rfl, trivial⟩ ?_
  refine Tr.seq ?_
  refine Tr.region ?_
  refine RegL.pure (p := (pEq (.slice none 0 0))) rfl rfl rfl (J_assign rfl Opd.con) ?_
  refine RegL.pure (p := (pEq (.int .i64 (0 : Int)))) rfl rfl rfl (J_assign rfl Opd.con) ?_
  refine RegL.nil ?_
  refine Ct.then_tr ?_
  refine Tr.weak (Γ' := [(0, (pSl 1 (cSl 1 (cK .i64)) rows_0))]) ⟨rfl, trivial⟩ ?_
  refine Tr.seq ?_
  refine Tr.seq ?_
  refine Tr.region ?_
  refine RegL.pure (p := (pSl 1 (cSl 1 (cK .i64)) rows_0)) rfl rfl rfl (J_move rfl (Opd.tmp rfl)) ?_
  replace h := bind_some h; obtain ⟨x1, hx1, h⟩ := h
  refine RegL.pure (p := (pEq (.bool x1))) rfl rfl rfl (J_call rfl Try.call83 (c_spec_l16Rows hx1) (Opds.cons (Opd.tmp rfl) Opds.nil)) ?_
  refine RegL.pure (p := (pEq (.bool (!x1)))) rfl rfl rfl (J_not rfl (Opd.tmp rfl)) ?_
  refine RegL.nil ?_
  refine Ct.then_tr ?_
  refine Tr.weak (Γ' := [(0, (pSl 1 (cSl 1 (cK .i64)) rows_0)), (8, (pEq (.bool (!x1))))]) ⟨rfl, rfl, trivial⟩ ?_
  refine Tr.cond (Opd.tmp rfl) (fun hc => ?_) (fun hc => ?_)
  · replace h := bif_t hc h
    refine Tr.seq ?_
    refine Tr.region ?_
    refine RegL.pure (p := (pEq (.slice none 0 0))) rfl rfl rfl (J_assign rfl Opd.con) ?_
    refine RegL.pure (p := (pEq (.int .i64 (1 : Int)))) rfl rfl rfl (J_assign rfl Opd.con) ?_
    refine RegL.nil ?_
    refine Ct.then_tr ?_
    refine Tr.weak (Γ' := [(2, (pEq (.slice none 0 0))), (3, (pEq (.int .i64 (1 : Int))))]) ⟨rfl, rfl, trivial⟩ ?_
    refine Tr.ret ?_
    refine Ct.then_ret ?_
    refine Ct.re (Ω2 := [oSl 2 1 (cK .i64) none 0 0 ([] : (List Int))]) (fun h => SatO.nilRow h) ?_
    replace h := Option.some.inj h; subst h
    exact Ct.retH2 (Ωx := []) (none, 0, 0) rfl (RvOk.tmp rfl) (RvOk.tmp rfl) rfl rfl
  · replace h := bif_f hc h
    refine Tr.skip ?_
    refine Ct.then_tr ?_
    refine Tr.weak (Γ' := [(0, (pSl 1 (cSl 1 (cK .i64)) rows_0))]) ⟨rfl, trivial⟩ ?_
    refine Tr.seq ?_
    refine Tr.region ?_
    refine RegL.step (γ := Option Addr) (p := fun a => pEq (.slice a 0 0)) (Ω' := fun a => [oSl 2 1 (cK .i64) a 0 0 ([] : (List Int))]) rfl rfl rfl (M_buildSlice (qss := []) rfl Try.underlying22 el2 rfl Parts.nil rfl rfl) fun o4 => ?_
    refine RegL.pure (p := (pEq (.slice o4 0 0))) rfl rfl rfl (J_assign rfl (Opd.tmp rfl)) ?_
    refine RegL.nil ?_
    refine Ct.then_tr ?_
    refine Tr.weak (Γ' := [(0, (pSl 1 (cSl 1 (cK .i64)) rows_0)), (4, (pEq (.slice o4 0 0)))]) ⟨rfl, rfl, trivial⟩ ?_
    refine Tr.seq ?_
    refine Tr.seq ?_
    refine Tr.region ?_
    refine RegL.pure (p := (pEq (.int .i64 (0 : Int)))) rfl rfl rfl (J_assign rfl Opd.con) ?_
    refine RegL.nil ?_
    refine Ct.then_tr ?_
    refine Tr.weak (Γ' := [(0, (pSl 1 (cSl 1 (cK .i64)) rows_0)), (4, (pEq (.slice o4 0 0))), (5, (pEq (.int .i64 (0 : Int))))]) ⟨rfl, rfl, rfl, trivial⟩ ?_
    replace h := bind_some h; obtain ⟨x5, hx5, h⟩ := h
    refine Tr.cut (γ := G3) (Γm := fun g => [(4, (pEq (.slice g.1 g.2.1 g.2.2)))]) (Ωm := fun g => [oSl 2 1 (cK .i64) g.1 g.2.1 g.2.2 x5]) ?_ (fun g14 => ?_)
    · clear h
      have h := hx5
      clear hx5
      refine Tr.block ?_
      refine Tr.weak (Γ' := [(0, (pSl 1 (cSl 1 (cK .i64)) rows_0)), (4, (pEq (.slice o4 0 0))), (5, (pEq (.int .i64 (0 : Int))))]) ⟨rfl, rfl, rfl, trivial⟩ ?_
      refine Tr.loop (γ := G3) (σ := (Int × (List Int))) (Γσ := fun s g => [(0, (pSl 1 (cSl 1 (cK .i64)) rows_0)), (4, (pEq (.slice g.1 g.2.1 g.2.2))), (5, (pEq (.int .i64 s.1)))]) (Ωσ := fun s g => [oSl 2 1 (cK .i64) g.1 g.2.1 g.2.2 s.2]) (g := (o4, 0, 0)) h ?_
      clear h
      rintro ⟨v7, v8⟩ g9 t h
      replace h : m_spec_ServersOf_B6 rows_0 v7 v8 = some t := h
      unfold m_spec_ServersOf_B6 at h
      refine Tr.weakO (Γ' := [(0, (pSl 1 (cSl 1 (cK .i64)) rows_0)), (4, (pEq (.slice g9.1 g9.2.1 g9.2.2))), (5, (pEq (.int .i64 v7)))]) (Ω' := [oSl 2 1 (cK .i64) g9.1 g9.2.1 g9.2.2 v8]) rfl ⟨rfl, rfl, rfl, trivial⟩ ?_
      refine Tr.seq ?_
      refine Tr.seq ?_
      refine Tr.region ?_
      refine RegL.pure (p := (pEq (.int .i64 v7))) rfl rfl rfl (J_move rfl (Opd.tmp rfl)) ?_
      refine RegL.pure (p := (pSl 1 (cSl 1 (cK .i64)) rows_0)) rfl rfl rfl (J_move rfl (Opd.tmp rfl)) ?_
      refine RegL.pure (p := (pEq (.int .i64 (rows_0.length : Int)))) rfl rfl rfl (J_len rfl Try.underlying68 (Opd.tmp rfl) rfl) ?_
      refine RegL.pure (p := (pEq (.bool (decide (v7 < (rows_0.length : Int)))))) rfl rfl rfl (J_bin rfl (Opd.tmp rfl) (Opd.tmp rfl) B_lss) ?_
      refine RegL.nil ?_
      refine Ct.then_tr ?_
      refine Tr.weak (Γ' := [(0, (pSl 1 (cSl 1 (cK .i64)) rows_0)), (4, (pEq (.slice g9.1 g9.2.1 g9.2.2))), (5, (pEq (.int .i64 v7))), (13, (pEq (.bool (decide (v7 < (rows_0.length : Int))))))]) ⟨rfl, rfl, rfl, rfl, trivial⟩ ?_
      refine Tr.cond (Opd.tmp rfl) (fun hc => ?_) (fun hc => ?_)
      · replace h := bif_t hc h
        refine Tr.skip ?_
        refine Ct.then_tr ?_
        refine Tr.weak (Γ' := [(0, (pSl 1 (cSl 1 (cK .i64)) rows_0)), (4, (pEq (.slice g9.1 g9.2.1 g9.2.2))), (5, (pEq (.int .i64 v7)))]) ⟨rfl, rfl, rfl, trivial⟩ ?_
        refine Tr.seq ?_
        refine Tr.block ?_
        refine Tr.region ?_
        refine RegL.pure (p := (pEq (.slice g9.1 g9.2.1 g9.2.2))) rfl rfl rfl (J_move rfl (Opd.tmp rfl)) ?_
        refine RegL.pure (p := (pSl 1 (cSl 1 (cK .i64)) rows_0)) rfl rfl rfl (J_move rfl (Opd.tmp rfl)) ?_
        refine RegL.pure (p := (pEq (.int .i64 v7))) rfl rfl rfl (J_move rfl (Opd.tmp rfl)) ?_
        replace h := bind_some h; obtain ⟨x10, hx10, h⟩ := h
        refine RegL.pure (p := (pPtr ((cSl 1 (cK .i64)) x10))) rfl rfl rfl (J_idx rfl Try.underlying68 sz22 (Opd.tmp rfl) (Opd.tmp rfl) hx10) ?_
        refine RegL.pure (p := (pSl 1 (cK .i64) x10)) rfl rfl rfl (J_load rfl Try.isAgg22 (Opd.tmp rfl)) ?_
        replace h := bind_some h; obtain ⟨x11, hx11, h⟩ := h
        refine RegL.pure (p := (pEq (.int .i64 x11))) rfl rfl rfl (J_call rfl Try.call87 (c_spec_l16Server hx11) (Opds.cons (Opd.tmp rfl) Opds.nil)) ?_
        refine RegL.pure (p := (pSl 1 (cK .i64) ([x11] : (List Int)))) rfl rfl rfl (J_buildSlice (l := ([x11] : (List Int))) (qss := [(0, (cK .i64) x11)]) rfl Try.underlying22 el2 rfl (Parts.cons (Part.one (Opd.tmp rfl) OneC.int) Parts.nil) rfl rfl) ?_
        replace h := bind_some h; obtain ⟨x12, hx12, h⟩ := h
        refine RegL.step (γ := Option Addr × Nat) (p := fun g => pEq (.slice g.1 x12.length g.2)) (Ω' := fun g => [oSl 2 1 (cK .i64) g.1 x12.length g.2 x12]) rfl rfl rfl (M_appendI rfl Try.underlying22 el2 (Opd.tmp rfl) (Opd.tmp rfl) hx12) fun g13 => ?_
        refine RegL.pure (p := (pEq (.slice g13.1 x12.length g13.2))) rfl rfl rfl (J_assign rfl (Opd.tmp rfl)) ?_
        refine RegL.nil ?_
        refine Ct.blk_normal ?_
        refine Ct.then_tr ?_
        refine Tr.weak (Γ' := [(0, (pSl 1 (cSl 1 (cK .i64)) rows_0)), (4, (pEq (.slice g13.1 x12.length g13.2))), (5, (pEq (.int .i64 v7)))]) ⟨rfl, rfl, rfl, trivial⟩ ?_
        refine Tr.region ?_
        refine RegL.pure (p := (pEq (.int .i64 v7))) rfl rfl rfl (J_move rfl (Opd.tmp rfl)) ?_
        refine RegL.pure (p := (pEq (.int .i64 (w64 (v7 + (1 : Int)))))) rfl rfl rfl (J_bin rfl (Opd.tmp rfl) Opd.con B_add) ?_
        refine RegL.pure (p := (pEq (.int .i64 (w64 (v7 + (1 : Int)))))) rfl rfl rfl (J_assign rfl (Opd.tmp rfl)) ?_
        refine RegL.nil ?_
        replace h := Option.some.inj h; subst h
        exact Ct.again (g13.1, x12.length, g13.2) rfl ⟨rfl, rfl, rfl, trivial⟩
      · replace h := bif_f hc h
        refine Tr.exit ?_
        refine Ct.then_exit ?_
        replace h := map_some h; obtain ⟨r1, h, rfl⟩ := h
        refine Ct.out_exit fun e => ?_
        subst e
        refine Ct.blk_exit ?_
        replace h := Option.some.inj h; subst h
        exact Ct.mid (g9.1, g9.2.1, g9.2.2) rfl ⟨rfl, trivial⟩
    · clear hx5
      refine Ct.then_tr ?_
      refine Tr.weak (Γ' := [(4, (pEq (.slice g14.1 g14.2.1 g14.2.2)))]) ⟨rfl, trivial⟩ ?_
      refine Tr.seq ?_
      refine Tr.region ?_
      refine RegL.pure (p := (pEq (.slice g14.1 g14.2.1 g14.2.2))) rfl rfl rfl (J_move rfl (Opd.tmp rfl)) ?_
      refine RegL.pure (p := (pEq (.slice g14.1 g14.2.1 g14.2.2))) rfl rfl rfl (J_assign rfl (Opd.tmp rfl)) ?_
      refine RegL.pure (p := (pEq (.int .i64 (0 : Int)))) rfl rfl rfl (J_assign rfl Opd.con) ?_
      refine RegL.nil ?_
      refine Ct.then_tr ?_
      refine Tr.weak (Γ' := [(2, (pEq (.slice g14.1 g14.2.1 g14.2.2))), (3, (pEq (.int .i64 (0 : Int))))]) ⟨rfl, rfl, trivial⟩ ?_
      refine Tr.ret ?_
      replace h := Option.some.inj h; subst h
      exact Ct.retH2 (Ωx := []) (g14.1, g14.2.1, g14.2.2) rfl (RvOk.tmp rfl) (RvOk.tmp rfl) rfl rfl

theorem c_spec_ServersOf {rows_0 : (List (List Int))} {r : ((List Int) × Int)} (h : m_spec_ServersOf rows_0 = some r) : CallJ Try.prog 52 [(pSl 1 (cSl 1 (cK .i64)) rows_0)] (pTup [(pSl 1 (cK .i64) r.1), (pEq (.int .i64 r.2))]) :=
  CallH.frozen (o_spec_ServersOf h) (fun g => (Conv.tup (Convs.cons (Conv.row 0 (fun _ => rfl) rfl) (Convs.cons Conv.refl Convs.nil))))

theorem c_impl_within {n_0 : Int} {low_1 : Int} {high_2 : Int} {r : Bool} (h : m_impl_within n_0 low_1 high_2 = some r) : CallJ Try.prog 82 [(pEq (.int .i64 n_0)), (pEq (.int .i64 low_1)), (pEq (.int .i64 high_2))] (pEq (.bool r)) := by
  unfold m_impl_within at h
  refine CallJ.enterH Try.func82 rfl Try.ntmps82 rfl fun W I0 H => ?_
  refine Tr.weak (Γ' := [(0, (pEq (.int .i64 n_0))), (1, (pEq (.int .i64 low_1))), (2, (pEq (.int .i64 high_2)))]) ⟨rfl, rfl, rfl, trivial⟩ ?_
  refine Tr.seq ?_
  refine Tr.region ?_
  refine RegL.pure (p := (pEq (.bool false))) rfl rfl rfl (J_assign rfl Opd.con) ?_
  refine RegL.nil ?_
  refine Ct.then_tr ?_
  refine Tr.weak (Γ' := [(0, (pEq (.int .i64 n_0))), (1, (pEq (.int .i64 low_1))), (2, (pEq (.int .i64 high_2)))]) ⟨rfl, rfl, rfl, trivial⟩ ?_
  refine Tr.seq ?_
  replace h := bind_some h; obtain ⟨x1, hx1, h⟩ := h
  refine Tr.cut (γ := Unit) (Γm := fun g => [(6, (pEq (.bool x1)))]) (Ωm := fun g => []) ?_ (fun g3 => ?_)
  · clear h
    have h := hx1
    clear hx1
    refine Tr.region ?_
    refine RegL.pure (p := (pEq (.int .i64 n_0))) rfl rfl rfl (J_move rfl (Opd.tmp rfl)) ?_
    refine RegL.pure (p := (pEq (.int .i64 low_1))) rfl rfl rfl (J_move rfl (Opd.tmp rfl)) ?_
    refine RegL.pure (p := (pEq (.bool (decide (low_1 ≤ n_0))))) rfl rfl rfl (J_bin rfl (Opd.tmp rfl) (Opd.tmp rfl) B_geq) ?_
    refine RegL.pure (p := (pEq (.bool (decide (low_1 ≤ n_0))))) rfl rfl rfl (J_move rfl (Opd.tmp rfl)) ?_
    rcases Bool.eq_false_or_eq_true (decide (low_1 ≤ n_0)) with hc2 | hc2
    · replace h := bif_t hc2 h
      refine RegL.pureG (p := (pEq (.int .i64 n_0))) rfl rfl rfl hc2 rfl rfl (J_move rfl (Opd.tmp rfl)) ?_
      refine RegL.pureG (p := (pEq (.int .i64 high_2))) rfl rfl rfl hc2 rfl rfl (J_move rfl (Opd.tmp rfl)) ?_
      refine RegL.pureG (p := (pEq (.bool (decide (n_0 ≤ high_2))))) rfl rfl rfl hc2 rfl rfl (J_bin rfl (Opd.tmp rfl) (Opd.tmp rfl) B_leq) ?_
      refine RegL.pure (p := (pEq (.bool (decide (n_0 ≤ high_2))))) rfl rfl rfl (J_pick rfl (Opd.tmp rfl) (fun _ => (Opd.tmp rfl)) (fun hf => absurd (hc2.symm.trans hf) (by decide))) ?_
      refine RegL.pure (p := (pEq (.bool (decide (n_0 ≤ high_2))))) rfl rfl rfl (J_assign rfl (Opd.tmp rfl)) ?_
      refine RegL.nil ?_
      replace h := Option.some.inj h; subst h
      exact Ct.mid () rfl ⟨rfl, trivial⟩
    · replace h := bif_f hc2 h
      refine RegL.skipG rfl rfl rfl hc2 rfl rfl ?_
      refine RegL.skipG rfl rfl rfl hc2 rfl rfl ?_
      refine RegL.skipG rfl rfl rfl hc2 rfl rfl ?_
      refine RegL.pure (p := (pEq (.bool false))) rfl rfl rfl (J_pick rfl (Opd.tmp rfl) (fun hf => absurd (hc2.symm.trans hf) (by decide)) (fun _ => Opd.con)) ?_
      refine RegL.pure (p := (pEq (.bool false))) rfl rfl rfl (J_assign rfl (Opd.tmp rfl)) ?_
      refine RegL.nil ?_
      replace h := Option.some.inj h; subst h
      exact Ct.mid () rfl ⟨rfl, trivial⟩
  · clear hx1
    refine Ct.then_tr ?_
    refine Tr.weak (Γ' := [(6, (pEq (.bool x1)))]) ⟨rfl, trivial⟩ ?_
    refine Tr.ret ?_
    replace h := Option.some.inj h; subst h
    exact Ct.retH1 (Ωx := []) () rfl (RvOk.tmp rfl) rfl

theorem c_impl_allWithin_1 {n_0 : Int} {a_1 : Int} {a_2 : Int} {r : Bool} (h : m_impl_allWithin_1 n_0 a_1 a_2 = some r) : CallJ Try.prog 99 [(pEq (.int .i64 n_0)), (pPtr ((cK .i64) a_1)), (pPtr ((cK .i64) a_2))] (pEq (.bool r)) := by
  unfold m_impl_allWithin_1 at h
  refine CallJ.enterH Try.func99 rfl Try.ntmps99 rfl fun W I0 H => ?_
  refine Tr.weak (Γ' := [(0, (pEq (.int .i64 n_0))), (1, (pPtr ((cK .i64) a_1))), (2, (pPtr ((cK .i64) a_2)))]) ⟨rfl, rfl, rfl, trivial⟩ ?_
  refine Tr.seq ?_
  refine Tr.region ?_
  refine RegL.pure (p := (pEq (.bool false))) rfl rfl rfl (J_assign rfl Opd.con) ?_
  refine RegL.nil ?_
  refine Ct.then_tr ?_
  refine Tr.weak (Γ' := [(0, (pEq (.int .i64 n_0))), (1, (pPtr ((cK .i64) a_1))), (2, (pPtr ((cK .i64) a_2)))]) ⟨rfl, rfl, rfl, trivial⟩ ?_
  refine Tr.seq ?_
  refine Tr.region ?_
  refine RegL.pure (p := (pEq (.int .i64 n_0))) rfl rfl rfl (J_move rfl (Opd.tmp rfl)) ?_
  refine RegL.pure (p := (pEq (.int .i64 a_1))) rfl rfl rfl (J_load rfl Try.isAgg2 (Opd.tmp rfl)) ?_
  refine RegL.pure (p := (pEq (.int .i64 a_2))) rfl rfl rfl (J_load rfl Try.isAgg2 (Opd.tmp rfl)) ?_
  replace h := bind_some h; obtain ⟨x1, hx1, h⟩ := h
  refine RegL.pure (p := (pEq (.bool x1))) rfl rfl rfl (J_call rfl Try.call82 (c_impl_within hx1) (Opds.cons (Opd.tmp rfl) (Opds.cons (Opd.tmp rfl) (Opds.cons (Opd.tmp rfl) Opds.nil)))) ?_
  refine RegL.pure (p := (pEq (.bool (!x1)))) rfl rfl rfl (J_not rfl (Opd.tmp rfl)) ?_
  refine RegL.pure (p := (pEq (.bool (!x1)))) rfl rfl rfl (J_assign rfl (Opd.tmp rfl)) ?_
  refine RegL.nil ?_
  refine Ct.then_tr ?_
  refine Tr.weak (Γ' := [(4, (pEq (.bool (!x1))))]) ⟨rfl, trivial⟩ ?_
  refine Tr.ret ?_
  replace h := Option.some.inj h; subst h
  exact Ct.retH1 (Ωx := []) () rfl (RvOk.tmp rfl) rfl

theorem c_slices_IndexFunc_int64_int64 {s_0 : (List Int)} {f_1 : (Int → Option Bool)} {r : Int} (h : m_slices_IndexFunc_int64_int64 s_0 f_1 = some r) : CallJ Try.prog 108 [(pSl 1 (cK .i64) s_0), (pFn Try.prog (fun x => [(pEq (.int .i64 x))]) f_1 (fun y => (pEq (.bool y))))] (pEq (.int .i64 r)) := by
  unfold m_slices_IndexFunc_int64_int64 at h
  refine CallJ.enterH Try.func108 rfl Try.ntmps108 rfl fun W I0 H => ?_
  refine Tr.weak (Γ' := [(0, (pSl 1 (cK .i64) s_0)), (1, (pFn Try.prog (fun x => [(pEq (.int .i64 x))]) f_1 (fun y => (pEq (.bool y)))))]) ⟨rfl, rfl, trivial⟩ ?_
  refine Tr.seq ?_
  refine Tr.region ?_
  refine RegL.pure (p := (pEq (.int .i64 (0 : Int)))) rfl rfl rfl (J_assign rfl Opd.con) ?_
  refine RegL.nil ?_
  refine Ct.then_tr ?_
  refine Tr.weak (Γ' := [(0, (pSl 1 (cK .i64) s_0)), (1, (pFn Try.prog (fun x => [(pEq (.int .i64 x))]) f_1 (fun y => (pEq (.bool y)))))]) ⟨rfl, rfl, trivial⟩ ?_
  refine Tr.seq ?_
  refine Tr.seq ?_
  refine Tr.region ?_
  refine RegL.pure (p := (pSl 1 (cK .i64) s_0)) rfl rfl rfl (J_move rfl (Opd.tmp rfl)) ?_
  refine RegL.pure (p := (pEq (.int .i64 (s_0.length : Int)))) rfl rfl rfl (J_len rfl Try.underlying22 (Opd.tmp rfl) rfl) ?_
  refine RegL.pure (p := (pEq (.int .i64 (0 : Int)))) rfl rfl rfl (J_move rfl Opd.con) ?_
  refine RegL.nil ?_
  refine Ct.then_tr ?_
  refine Tr.weak (Γ' := [(0, (pSl 1 (cK .i64) s_0)), (1, (pFn Try.prog (fun x => [(pEq (.int .i64 x))]) f_1 (fun y => (pEq (.bool y))))), (7, (pEq (.int .i64 (s_0.length : Int)))), (8, (pEq (.int .i64 (0 : Int))))]) ⟨rfl, rfl, rfl, rfl, trivial⟩ ?_
  refine Tr.block ?_
  refine Tr.weak (Γ' := [(0, (pSl 1 (cK .i64) s_0)), (1, (pFn Try.prog (fun x => [(pEq (.int .i64 x))]) f_1 (fun y => (pEq (.bool y))))), (7, (pEq (.int .i64 (s_0.length : Int)))), (8, (pEq (.int .i64 (0 : Int))))]) ⟨rfl, rfl, rfl, rfl, trivial⟩ ?_
  refine Tr.loop (γ := Unit) (σ := Int) (Γσ := fun s g => [(0, (pSl 1 (cK .i64) s_0)), (1, (pFn Try.prog (fun x => [(pEq (.int .i64 x))]) f_1 (fun y => (pEq (.bool y))))), (7, (pEq (.int .i64 (s_0.length : Int)))), (8, (pEq (.int .i64 s)))]) (Ωσ := fun s g => []) (g := ()) h ?_
  clear h
  rintro v2 g3 t h
  replace h : m_slices_IndexFunc_int64_int64_B1 s_0 f_1 v2 = some t := h
  unfold m_slices_IndexFunc_int64_int64_B1 at h
  refine Tr.weakO (Γ' := [(0, (pSl 1 (cK .i64) s_0)), (1, (pFn Try.prog (fun x => [(pEq (.int .i64 x))]) f_1 (fun y => (pEq (.bool y))))), (7, (pEq (.int .i64 (s_0.length : Int)))), (8, (pEq (.int .i64 v2)))]) (Ω' := []) rfl ⟨rfl, rfl, rfl, rfl, trivial⟩ ?_
  refine Tr.seq ?_
  refine Tr.region ?_
  refine RegL.pure (p := (pEq (.bool (decide (v2 < (s_0.length : Int)))))) rfl rfl rfl (J_bin rfl (Opd.tmp rfl) (Opd.tmp rfl) B_lss) ?_
  refine RegL.nil ?_
  refine Ct.then_tr ?_
  refine Tr.weak (Γ' := [(0, (pSl 1 (cK .i64) s_0)), (1, (pFn Try.prog (fun x => [(pEq (.int .i64 x))]) f_1 (fun y => (pEq (.bool y))))), (7, (pEq (.int .i64 (s_0.length : Int)))), (8, (pEq (.int .i64 v2))), (9, (pEq (.bool (decide (v2 < (s_0.length : Int))))))]) ⟨rfl, rfl, rfl, rfl, rfl, trivial⟩ ?_
  refine Tr.seq ?_
  refine Tr.cond (Opd.tmp rfl) (fun hc => ?_) (fun hc => ?_)
  · replace h := bif_t hc h
    refine Tr.skip ?_
    refine Ct.then_tr ?_
    refine Tr.weak (Γ' := [(0, (pSl 1 (cK .i64) s_0)), (1, (pFn Try.prog (fun x => [(pEq (.int .i64 x))]) f_1 (fun y => (pEq (.bool y))))), (7, (pEq (.int .i64 (s_0.length : Int)))), (8, (pEq (.int .i64 v2)))]) ⟨rfl, rfl, rfl, rfl, trivial⟩ ?_
    refine Tr.seq ?_
    refine Tr.block ?_
    refine Tr.seq ?_
    refine Tr.region ?_
    refine RegL.pure (p := (pEq (.int .i64 v2))) rfl rfl rfl (J_move rfl (Opd.tmp rfl)) ?_
    refine RegL.pure (p := (pEq (.int .i64 v2))) rfl rfl rfl (J_assign rfl (Opd.tmp rfl)) ?_
    refine RegL.nil ?_
    refine Ct.then_tr ?_
    refine Tr.weak (Γ' := [(0, (pSl 1 (cK .i64) s_0)), (1, (pFn Try.prog (fun x => [(pEq (.int .i64 x))]) f_1 (fun y => (pEq (.bool y))))), (5, (pEq (.int .i64 v2))), (7, (pEq (.int .i64 (s_0.length : Int)))), (8, (pEq (.int .i64 v2)))]) ⟨rfl, rfl, rfl, rfl, rfl, trivial⟩ ?_
    refine Tr.seq ?_
    refine Tr.region ?_
    refine RegL.pure (p := (pFn Try.prog (fun x => [(pEq (.int .i64 x))]) f_1 (fun y => (pEq (.bool y))))) rfl rfl rfl (J_move rfl (Opd.tmp rfl)) ?_
    refine RegL.pure (p := (pSl 1 (cK .i64) s_0)) rfl rfl rfl (J_move rfl (Opd.tmp rfl)) ?_
    refine RegL.pure (p := (pEq (.int .i64 v2))) rfl rfl rfl (J_move rfl (Opd.tmp rfl)) ?_
    replace h := bind_some h; obtain ⟨x4, hx4, h⟩ := h
    refine RegL.pure (p := (pPtr ((cK .i64) x4))) rfl rfl rfl (J_idx rfl Try.underlying22 sz2 (Opd.tmp rfl) (Opd.tmp rfl) hx4) ?_
    refine RegL.pure (p := (pEq (.int .i64 x4))) rfl rfl rfl (J_load rfl Try.isAgg2 (Opd.tmp rfl)) ?_
    replace h := bind_some h; obtain ⟨x5, hx5, h⟩ := h
    refine RegL.pure (p := (pEq (.bool x5))) rfl rfl rfl (J_callv (x := x4) rfl (Opd.tmp rfl) rfl (Opds.cons (Opd.tmp rfl) Opds.nil) hx5 rfl) ?_
    refine RegL.nil ?_
    refine Ct.then_tr ?_
    refine Tr.weak (Γ' := [(0, (pSl 1 (cK .i64) s_0)), (1, (pFn Try.prog (fun x => [(pEq (.int .i64 x))]) f_1 (fun y => (pEq (.bool y))))), (5, (pEq (.int .i64 v2))), (7, (pEq (.int .i64 (s_0.length : Int)))), (8, (pEq (.int .i64 v2))), (16, (pEq (.bool x5)))]) ⟨rfl, rfl, rfl, rfl, rfl, rfl, trivial⟩ ?_
    refine Tr.cond (Opd.tmp rfl) (fun hc => ?_) (fun hc => ?_)
    · replace h := bif_t hc h
      refine Tr.seq ?_
      refine Tr.region ?_
      refine RegL.pure (p := (pEq (.int .i64 v2))) rfl rfl rfl (J_move rfl (Opd.tmp rfl)) ?_
      refine RegL.pure (p := (pEq (.int .i64 v2))) rfl rfl rfl (J_assign rfl (Opd.tmp rfl)) ?_
      refine RegL.nil ?_
      refine Ct.then_tr ?_
      refine Tr.weak (Γ' := [(4, (pEq (.int .i64 v2)))]) ⟨rfl, trivial⟩ ?_
      refine Tr.ret ?_
      refine Ct.blk_ret ?_
      refine Ct.then_ret ?_
      replace h := map_some h; obtain ⟨r1, h, rfl⟩ := h
      refine Ct.out_ret fun e => ?_
      subst e
      refine Ct.blk_ret ?_
      refine Ct.then_ret ?_
      replace h := Option.some.inj h; subst h
      exact Ct.retH1 (Ωx := []) () rfl (RvOk.tmp rfl) rfl
    · replace h := bif_f hc h
      refine Tr.skip ?_
      refine Ct.blk_normal ?_
      refine Ct.then_tr ?_
      refine Tr.weak (Γ' := [(0, (pSl 1 (cK .i64) s_0)), (1, (pFn Try.prog (fun x => [(pEq (.int .i64 x))]) f_1 (fun y => (pEq (.bool y))))), (7, (pEq (.int .i64 (s_0.length : Int)))), (8, (pEq (.int .i64 v2)))]) ⟨rfl, rfl, rfl, rfl, trivial⟩ ?_
      refine Tr.region ?_
      refine RegL.pure (p := (pEq (.int .i64 (w64 (v2 + (1 : Int)))))) rfl rfl rfl (J_bin rfl (Opd.tmp rfl) Opd.con B_add) ?_
      refine RegL.pure (p := (pEq (.int .i64 (w64 (v2 + (1 : Int)))))) rfl rfl rfl (J_move rfl (Opd.tmp rfl)) ?_
      refine RegL.nil ?_
      replace h := Option.some.inj h; subst h
      exact Ct.again () rfl ⟨rfl, rfl, rfl, rfl, trivial⟩
  · replace h := bif_f hc h
    refine Tr.exit ?_
    refine Ct.then_exit ?_
    replace h := map_some h; obtain ⟨r1, h, rfl⟩ := h
    refine Ct.out_exit fun e => ?_
    subst e
    refine Ct.blk_exit ?_
    refine Ct.then_tr ?_
    refine Tr.weak (Γ' := []) trivial ?_
    refine Tr.seq ?_
    refine Tr.region ?_
    refine RegL.pure (p := (pEq (.int .i64 (-1 : Int)))) rfl rfl rfl (J_assign rfl Opd.con) ?_
    refine RegL.nil ?_
    refine Ct.then_tr ?_
    refine Tr.weak (Γ' := [(4, (pEq (.int .i64 (-1 : Int))))]) ⟨rfl, trivial⟩ ?_
    refine Tr.ret ?_
    replace h := Option.some.inj h; subst h
    exact Ct.retH1 (Ωx := []) () rfl (RvOk.tmp rfl) rfl

theorem c_slices_ContainsFunc_int64_int64 {s_0 : (List Int)} {f_1 : (Int → Option Bool)} {r : Bool} (h : m_slices_ContainsFunc_int64_int64 s_0 f_1 = some r) : CallJ Try.prog 98 [(pSl 1 (cK .i64) s_0), (pFn Try.prog (fun x => [(pEq (.int .i64 x))]) f_1 (fun y => (pEq (.bool y))))] (pEq (.bool r)) := by
  unfold m_slices_ContainsFunc_int64_int64 at h
  refine CallJ.enterH Try.func98 rfl Try.ntmps98 rfl fun W I0 H => ?_
  refine Tr.weak (Γ' := [(0, (pSl 1 (cK .i64) s_0)), (1, (pFn Try.prog (fun x => [(pEq (.int .i64 x))]) f_1 (fun y => (pEq (.bool y)))))]) ⟨rfl, rfl, trivial⟩ ?_
  refine Tr.seq ?_
  refine Tr.region ?_
  refine RegL.pure (p := (pEq (.bool false))) rfl rfl rfl (J_assign rfl Opd.con) ?_
  refine RegL.nil ?_
  refine Ct.then_tr ?_
  refine Tr.weak (Γ' := [(0, (pSl 1 (cK .i64) s_0)), (1, (pFn Try.prog (fun x => [(pEq (.int .i64 x))]) f_1 (fun y => (pEq (.bool y)))))]) ⟨rfl, rfl, trivial⟩ ?_
  refine Tr.seq ?_
  refine Tr.region ?_
  refine RegL.pure (p := (pSl 1 (cK .i64) s_0)) rfl rfl rfl (J_move rfl (Opd.tmp rfl)) ?_
  refine RegL.pure (p := (pFn Try.prog (fun x => [(pEq (.int .i64 x))]) f_1 (fun y => (pEq (.bool y))))) rfl rfl rfl (J_move rfl (Opd.tmp rfl)) ?_
  replace h := bind_some h; obtain ⟨x1, hx1, h⟩ := h
  refine RegL.pure (p := (pEq (.int .i64 x1))) rfl rfl rfl (J_call rfl Try.call108 (c_slices_IndexFunc_int64_int64 hx1) (Opds.cons (Opd.tmp rfl) (Opds.cons (Opd.tmp rfl) Opds.nil))) ?_
  refine RegL.pure (p := (pEq (.bool (decide ((0 : Int) ≤ x1))))) rfl rfl rfl (J_bin rfl (Opd.tmp rfl) Opd.con B_geq) ?_
  refine RegL.pure (p := (pEq (.bool (decide ((0 : Int) ≤ x1))))) rfl rfl rfl (J_assign rfl (Opd.tmp rfl)) ?_
  refine RegL.nil ?_
  refine Ct.then_tr ?_
  refine Tr.weak (Γ' := [(4, (pEq (.bool (decide ((0 : Int) ≤ x1)))))]) ⟨rfl, trivial⟩ ?_
  refine Tr.ret ?_
  replace h := Option.some.inj h; subst h
  exact Ct.retH1 (Ωx := []) () rfl (RvOk.tmp rfl) rfl

theorem c_impl_allWithin {list_0 : (List Int)} {low_1 : Int} {high_2 : Int} {r : Bool} (h : m_impl_allWithin list_0 low_1 high_2 = some r) : CallJ Try.prog 80 [(pSl 1 (cK .i64) list_0), (pEq (.int .i64 low_1)), (pEq (.int .i64 high_2))] (pEq (.bool r)) := by
  unfold m_impl_allWithin at h
  refine CallJ.enterH Try.func80 rfl Try.ntmps80 rfl fun W I0 H => ?_
  refine Tr.weak (Γ' := [(0, (pSl 1 (cK .i64) list_0)), (1, (pEq (.int .i64 low_1))), (2, (pEq (.int .i64 high_2)))]) ⟨rfl, rfl, rfl, trivial⟩ ?_
  refine Tr.seq ?_
  refine Tr.region ?_
  refine RegL.pure (p := (pPtr ((cK .i64) low_1))) rfl rfl rfl (J_box rfl (Opd.tmp rfl) OneC.int) ?_
  refine RegL.pure (p := (pPtr ((cK .i64) high_2))) rfl rfl rfl (J_box rfl (Opd.tmp rfl) OneC.int) ?_
  refine RegL.pure (p := (pEq (.bool false))) rfl rfl rfl (J_assign rfl Opd.con) ?_
  refine RegL.nil ?_
  refine Ct.then_tr ?_
  refine Tr.weak (Γ' := [(0, (pSl 1 (cK .i64) list_0)), (4, (pPtr ((cK .i64) low_1))), (5, (pPtr ((cK .i64) high_2)))]) ⟨rfl, rfl, rfl, trivial⟩ ?_
  refine Tr.seq ?_
  refine Tr.region ?_
  refine RegL.pure (p := (pSl 1 (cK .i64) list_0)) rfl rfl rfl (J_move rfl (Opd.tmp rfl)) ?_
  refine RegL.pure (p := (pFn Try.prog (fun x => [(pEq (.int .i64 x))]) (fun x => m_impl_allWithin_1 x low_1 high_2) (fun y => (pEq (.bool y))))) rfl rfl rfl (J_makeFn rfl Try.call99 (Opds.cons (Opd.tmp rfl) (Opds.cons (Opd.tmp rfl) Opds.nil)) (fun _ _ h => c_impl_allWithin_1 h)) ?_
  replace h := bind_some h; obtain ⟨x1, hx1, h⟩ := h
  refine RegL.pure (p := (pEq (.bool x1))) rfl rfl rfl (J_call rfl Try.call98 (c_slices_ContainsFunc_int64_int64 hx1) (Opds.cons (Opd.tmp rfl) (Opds.cons (Opd.tmp rfl) Opds.nil))) ?_
  refine RegL.pure (p := (pEq (.bool (!x1)))) rfl rfl rfl (J_not rfl (Opd.tmp rfl)) ?_
  refine RegL.pure (p := (pEq (.bool (!x1)))) rfl rfl rfl (J_assign rfl (Opd.tmp rfl)) ?_
  refine RegL.nil ?_
  refine Ct.then_tr ?_
  refine Tr.weak (Γ' := [(6, (pEq (.bool (!x1))))]) ⟨rfl, trivial⟩ ?_
  refine Tr.ret ?_
  replace h := Option.some.inj h; subst h
  exact Ct.retH1 (Ωx := []) () rfl (RvOk.tmp rfl) rfl

theorem c_impl_rowOk {row_0 : (List Int)} {r : Bool} (h : m_impl_rowOk row_0 = some r) : CallJ Try.prog 86 [(pSl 1 (cK .i64) row_0)] (pEq (.bool r)) := by
  unfold m_impl_rowOk at h
  refine CallJ.enterH Try.func86 rfl Try.ntmps86 rfl fun W I0 H => ?_
  refine Tr.weak (Γ' := [(0, (pSl 1 (cK .i64) row_0))]) ⟨rfl, trivial⟩ ?_
  refine Tr.seq ?_
  refine Tr.region ?_
  refine RegL.pure (p := (pEq (.bool false))) rfl rfl rfl (J_assign rfl Opd.con) ?_
  refine RegL.nil ?_
  refine Ct.then_tr ?_
  refine Tr.weak (Γ' := [(0, (pSl 1 (cK .i64) row_0))]) ⟨rfl, trivial⟩ ?_
  refine Tr.seq ?_
  replace h := bind_some h; obtain ⟨x1, hx1, h⟩ := h
  refine Tr.cut (γ := Unit) (Γm := fun g => [(2, (pEq (.bool x1)))]) (Ωm := fun g => []) ?_ (fun g5 => ?_)
  · clear h
    have h := hx1
    clear hx1
    refine Tr.region ?_
    refine RegL.pure (p := (pSl 1 (cK .i64) row_0)) rfl rfl rfl (J_move rfl (Opd.tmp rfl)) ?_
    refine RegL.pure (p := (pEq (.int .i64 (row_0.length : Int)))) rfl rfl rfl (J_len rfl Try.underlying22 (Opd.tmp rfl) rfl) ?_
    refine RegL.pure (p := (pEq (.bool (decide ((1 : Int) ≤ (row_0.length : Int)))))) rfl rfl rfl (J_bin rfl (Opd.tmp rfl) Opd.con B_geq) ?_
    refine RegL.pure (p := (pEq (.bool (decide ((1 : Int) ≤ (row_0.length : Int)))))) rfl rfl rfl (J_move rfl (Opd.tmp rfl)) ?_
    rcases Bool.eq_false_or_eq_true (decide ((1 : Int) ≤ (row_0.length : Int))) with hc2 | hc2
    · replace h := bif_t hc2 h
      refine RegL.pureG (p := (pSl 1 (cK .i64) row_0)) rfl rfl rfl hc2 rfl rfl (J_move rfl (Opd.tmp rfl)) ?_
      refine RegL.pureG (p := (pEq (.int .i64 (row_0.length : Int)))) rfl rfl rfl hc2 rfl rfl (J_len rfl Try.underlying22 (Opd.tmp rfl) rfl) ?_
      refine RegL.pureG (p := (pEq (.bool (decide ((row_0.length : Int) ≤ (24 : Int)))))) rfl rfl rfl hc2 rfl rfl (J_bin rfl (Opd.tmp rfl) Opd.con B_leq) ?_
      refine RegL.pure (p := (pEq (.bool (decide ((row_0.length : Int) ≤ (24 : Int)))))) rfl rfl rfl (J_pick rfl (Opd.tmp rfl) (fun _ => (Opd.tmp rfl)) (fun hf => absurd (hc2.symm.trans hf) (by decide))) ?_
      refine RegL.pure (p := (pEq (.bool (decide ((row_0.length : Int) ≤ (24 : Int)))))) rfl rfl rfl (J_move rfl (Opd.tmp rfl)) ?_
      rcases Bool.eq_false_or_eq_true (decide ((row_0.length : Int) ≤ (24 : Int))) with hc3 | hc3
      · replace h := bif_t hc3 h
        refine RegL.pureG (p := (pSl 1 (cK .i64) row_0)) rfl rfl rfl hc3 rfl rfl (J_move rfl (Opd.tmp rfl)) ?_
        replace h := bind_some h; obtain ⟨x4, hx4, h⟩ := h
        refine RegL.pureG (p := (pEq (.bool x4))) rfl rfl rfl hc3 rfl rfl (J_call rfl Try.call80 (c_impl_allWithin hx4) (Opds.cons (Opd.tmp rfl) (Opds.cons Opd.con (Opds.cons Opd.con Opds.nil)))) ?_
        refine RegL.pure (p := (pEq (.bool x4))) rfl rfl rfl (J_pick rfl (Opd.tmp rfl) (fun _ => (Opd.tmp rfl)) (fun hf => absurd (hc3.symm.trans hf) (by decide))) ?_
        refine RegL.pure (p := (pEq (.bool x4))) rfl rfl rfl (J_assign rfl (Opd.tmp rfl)) ?_
        refine RegL.nil ?_
        replace h := Option.some.inj h; subst h
        exact Ct.mid () rfl ⟨rfl, trivial⟩
      · replace h := bif_f hc3 h
        refine RegL.skipG rfl rfl rfl hc3 rfl rfl ?_
        refine RegL.skipG rfl rfl rfl hc3 rfl rfl ?_
        refine RegL.pure (p := (pEq (.bool false))) rfl rfl rfl (J_pick rfl (Opd.tmp rfl) (fun hf => absurd (hc3.symm.trans hf) (by decide)) (fun _ => Opd.con)) ?_
        refine RegL.pure (p := (pEq (.bool false))) rfl rfl rfl (J_assign rfl (Opd.tmp rfl)) ?_
        refine RegL.nil ?_
        replace h := Option.some.inj h; subst h
        exact Ct.mid () rfl ⟨rfl, trivial⟩
    · replace h := bif_f hc2 h
      refine RegL.skipG rfl rfl rfl hc2 rfl rfl ?_
      refine RegL.skipG rfl rfl rfl hc2 rfl rfl ?_
      refine RegL.skipG rfl rfl rfl hc2 rfl rfl ?_
      refine RegL.pure (p := (pEq (.bool false))) rfl rfl rfl (J_pick rfl (Opd.tmp rfl) (fun hf => absurd (hc2.symm.trans hf) (by decide)) (fun _ => Opd.con)) ?_
      refine RegL.pure (p := (pEq (.bool false))) rfl rfl rfl (J_move rfl (Opd.tmp rfl)) ?_
      refine RegL.skipG rfl rfl rfl rfl rfl rfl ?_
      refine RegL.skipG rfl rfl rfl rfl rfl rfl ?_
      refine RegL.pure (p := (pEq (.bool false))) rfl rfl rfl (J_pick rfl (Opd.tmp rfl) (fun hf => absurd hf (by decide)) (fun _ => Opd.con)) ?_
      refine RegL.pure (p := (pEq (.bool false))) rfl rfl rfl (J_assign rfl (Opd.tmp rfl)) ?_
      refine RegL.nil ?_
      replace h := Option.some.inj h; subst h
      exact Ct.mid () rfl ⟨rfl, trivial⟩
  · clear hx1
    refine Ct.then_tr ?_
    refine Tr.weak (Γ' := [(2, (pEq (.bool x1)))]) ⟨rfl, trivial⟩ ?_
    refine Tr.ret ?_
    replace h := Option.some.inj h; subst h
    exact Ct.retH1 (Ωx := []) () rfl (RvOk.tmp rfl) rfl

theorem c_impl_ValidRows_1 {row_0 : (List Int)} {a_1 : (List (List Int))} {r : Bool} (h : m_impl_ValidRows_1 row_0 a_1 = some r) : CallJ Try.prog 85 [(pSl 1 (cK .i64) row_0), (pPtr ((cSl 1 (cSl 1 (cK .i64))) a_1))] (pEq (.bool r)) := by
  unfold m_impl_ValidRows_1 at h
  refine CallJ.enterH Try.func85 rfl Try.ntmps85 rfl fun W I0 H => ?_
  refine Tr.weak (Γ' := [(0, (pSl 1 (cK .i64) row_0)), (1, (pPtr ((cSl 1 (cSl 1 (cK .i64))) a_1)))]) ⟨rfl, rfl, trivial⟩ ?_
  refine Tr.seq ?_
  refine Tr.region ?_
  refine RegL.pure (p := (pEq (.bool false))) rfl rfl rfl (J_assign rfl Opd.con) ?_
  refine RegL.nil ?_
  refine Ct.then_tr ?_
  refine Tr.weak (Γ' := [(0, (pSl 1 (cK .i64) row_0)), (1, (pPtr ((cSl 1 (cSl 1 (cK .i64))) a_1)))]) ⟨rfl, rfl, trivial⟩ ?_
  refine Tr.seq ?_
  replace h := bind_some h; obtain ⟨x1, hx1, h⟩ := h
  refine Tr.cut (γ := Unit) (Γm := fun g => [(3, (pEq (.bool x1)))]) (Ωm := fun g => []) ?_ (fun g5 => ?_)
  · clear h
    have h := hx1
    clear hx1
    refine Tr.region ?_
    refine RegL.pure (p := (pSl 1 (cK .i64) row_0)) rfl rfl rfl (J_move rfl (Opd.tmp rfl)) ?_
    replace h := bind_some h; obtain ⟨x2, hx2, h⟩ := h
    refine RegL.pure (p := (pEq (.bool x2))) rfl rfl rfl (J_call rfl Try.call86 (c_impl_rowOk hx2) (Opds.cons (Opd.tmp rfl) Opds.nil)) ?_
    refine RegL.pure (p := (pEq (.bool (!x2)))) rfl rfl rfl (J_not rfl (Opd.tmp rfl)) ?_
    refine RegL.pure (p := (pEq (.bool (!x2)))) rfl rfl rfl (J_move rfl (Opd.tmp rfl)) ?_
    rcases Bool.eq_false_or_eq_true (!x2) with hc3 | hc3
    · replace h := bif_t hc3 h
      refine RegL.skipG rfl rfl rfl hc3 rfl rfl ?_
      refine RegL.skipG rfl rfl rfl hc3 rfl rfl ?_
      refine RegL.skipG rfl rfl rfl hc3 rfl rfl ?_
      refine RegL.skipG rfl rfl rfl hc3 rfl rfl ?_
      refine RegL.skipG rfl rfl rfl hc3 rfl rfl ?_
      refine RegL.skipG rfl rfl rfl hc3 rfl rfl ?_
      refine RegL.skipG rfl rfl rfl hc3 rfl rfl ?_
      refine RegL.pure (p := (pEq (.bool true))) rfl rfl rfl (J_pick rfl (Opd.tmp rfl) (fun _ => Opd.con) (fun hf => absurd (hc3.symm.trans hf) (by decide))) ?_
      refine RegL.pure (p := (pEq (.bool true))) rfl rfl rfl (J_assign rfl (Opd.tmp rfl)) ?_
      refine RegL.nil ?_
      replace h := Option.some.inj h; subst h
      exact Ct.mid () rfl ⟨rfl, trivial⟩
    · replace h := bif_f hc3 h
      refine RegL.pureG (p := (pSl 1 (cK .i64) row_0)) rfl rfl rfl hc3 rfl rfl (J_move rfl (Opd.tmp rfl)) ?_
      refine RegL.pureG (p := (pEq (.int .i64 (row_0.length : Int)))) rfl rfl rfl hc3 rfl rfl (J_len rfl Try.underlying22 (Opd.tmp rfl) rfl) ?_
      refine RegL.pureG (p := (pSl 1 (cSl 1 (cK .i64)) a_1)) rfl rfl rfl hc3 rfl rfl (J_load rfl Try.isAgg68 (Opd.tmp rfl)) ?_
      replace h := bind_some h; obtain ⟨x4, hx4, h⟩ := h
      refine RegL.pureG (p := (pPtr ((cSl 1 (cK .i64)) x4))) rfl rfl rfl hc3 rfl rfl (J_idx rfl Try.underlying68 sz22 (Opd.tmp rfl) Opd.con hx4) ?_
      refine RegL.pureG (p := (pSl 1 (cK .i64) x4)) rfl rfl rfl hc3 rfl rfl (J_load rfl Try.isAgg22 (Opd.tmp rfl)) ?_
      refine RegL.pureG (p := (pEq (.int .i64 (x4.length : Int)))) rfl rfl rfl hc3 rfl rfl (J_len rfl Try.underlying22 (Opd.tmp rfl) rfl) ?_
      refine RegL.pureG (p := (pEq (.bool ((row_0.length : Int) != (x4.length : Int))))) rfl rfl rfl hc3 rfl rfl (J_bin rfl (Opd.tmp rfl) (Opd.tmp rfl) B_neq) ?_
      refine RegL.pure (p := (pEq (.bool ((row_0.length : Int) != (x4.length : Int))))) rfl rfl rfl (J_pick rfl (Opd.tmp rfl) (fun hf => absurd (hc3.symm.trans hf) (by decide)) (fun _ => (Opd.tmp rfl))) ?_
      refine RegL.pure (p := (pEq (.bool ((row_0.length : Int) != (x4.length : Int))))) rfl rfl rfl (J_assign rfl (Opd.tmp rfl)) ?_
      refine RegL.nil ?_
      replace h := Option.some.inj h; subst h
      exact Ct.mid () rfl ⟨rfl, trivial⟩
  · clear hx1
    refine Ct.then_tr ?_
    refine Tr.weak (Γ' := [(3, (pEq (.bool x1)))]) ⟨rfl, trivial⟩ ?_
    refine Tr.ret ?_
    replace h := Option.some.inj h; subst h
    exact Ct.retH1 (Ωx := []) () rfl (RvOk.tmp rfl) rfl

theorem c_slices_IndexFunc_SSint64_int64 {s_0 : (List (List Int))} {f_1 : ((List Int) → Option Bool)} {r : Int} (h : m_slices_IndexFunc_SSint64_int64 s_0 f_1 = some r) : CallJ Try.prog 101 [(pSl 1 (cSl 1 (cK .i64)) s_0), (pFn Try.prog (fun x => [(pSl 1 (cK .i64) x)]) f_1 (fun y => (pEq (.bool y))))] (pEq (.int .i64 r)) := by
  unfold m_slices_IndexFunc_SSint64_int64 at h
  refine CallJ.enterH Try.func101 rfl Try.ntmps101 rfl fun W I0 H => ?_
  refine Tr.weak (Γ' := [(0, (pSl 1 (cSl 1 (cK .i64)) s_0)), (1, (pFn Try.prog (fun x => [(pSl 1 (cK .i64) x)]) f_1 (fun y => (pEq (.bool y)))))]) ⟨rfl, rfl, trivial⟩ ?_
  refine Tr.seq ?_
  refine Tr.region ?_
  refine RegL.pure (p := (pEq (.int .i64 (0 : Int)))) rfl rfl rfl (J_assign rfl Opd.con) ?_
  refine RegL.nil ?_
  refine Ct.then_tr ?_
  refine Tr.weak (Γ' := [(0, (pSl 1 (cSl 1 (cK .i64)) s_0)), (1, (pFn Try.prog (fun x => [(pSl 1 (cK .i64) x)]) f_1 (fun y => (pEq (.bool y)))))]) ⟨rfl, rfl, trivial⟩ ?_
  refine Tr.seq ?_
  refine Tr.seq ?_
  refine Tr.region ?_
  refine RegL.pure (p := (pSl 1 (cSl 1 (cK .i64)) s_0)) rfl rfl rfl (J_move rfl (Opd.tmp rfl)) ?_
  refine RegL.pure (p := (pEq (.int .i64 (s_0.length : Int)))) rfl rfl rfl (J_len rfl Try.underlying68 (Opd.tmp rfl) rfl) ?_
  refine RegL.pure (p := (pEq (.int .i64 (0 : Int)))) rfl rfl rfl (J_move rfl Opd.con) ?_
  refine RegL.nil ?_
  refine Ct.then_tr ?_
  refine Tr.weak (Γ' := [(0, (pSl 1 (cSl 1 (cK .i64)) s_0)), (1, (pFn Try.prog (fun x => [(pSl 1 (cK .i64) x)]) f_1 (fun y => (pEq (.bool y))))), (7, (pEq (.int .i64 (s_0.length : Int)))), (8, (pEq (.int .i64 (0 : Int))))]) ⟨rfl, rfl, rfl, rfl, trivial⟩ ?_
  refine Tr.block ?_
  refine Tr.weak (Γ' := [(0, (pSl 1 (cSl 1 (cK .i64)) s_0)), (1, (pFn Try.prog (fun x => [(pSl 1 (cK .i64) x)]) f_1 (fun y => (pEq (.bool y))))), (7, (pEq (.int .i64 (s_0.length : Int)))), (8, (pEq (.int .i64 (0 : Int))))]) ⟨rfl, rfl, rfl, rfl, trivial⟩ ?_
  refine Tr.loop (γ := Unit) (σ := Int) (Γσ := fun s g => [(0, (pSl 1 (cSl 1 (cK .i64)) s_0)), (1, (pFn Try.prog (fun x => [(pSl 1 (cK .i64) x)]) f_1 (fun y => (pEq (.bool y))))), (7, (pEq (.int .i64 (s_0.length : Int)))), (8, (pEq (.int .i64 s)))]) (Ωσ := fun s g => []) (g := ()) h ?_
  clear h
  rintro v2 g3 t h
  replace h : m_slices_IndexFunc_SSint64_int64_B1 s_0 f_1 v2 = some t := h
  unfold m_slices_IndexFunc_SSint64_int64_B1 at h
  refine Tr.weakO (Γ' := [(0, (pSl 1 (cSl 1 (cK .i64)) s_0)), (1, (pFn Try.prog (fun x => [(pSl 1 (cK .i64) x)]) f_1 (fun y => (pEq (.bool y))))), (7, (pEq (.int .i64 (s_0.length : Int)))), (8, (pEq (.int .i64 v2)))]) (Ω' := []) rfl ⟨rfl, rfl, rfl, rfl, trivial⟩ ?_
  refine Tr.seq ?_
  refine Tr.region ?_
  refine RegL.pure (p := (pEq (.bool (decide (v2 < (s_0.length : Int)))))) rfl rfl rfl (J_bin rfl (Opd.tmp rfl) (Opd.tmp rfl) B_lss) ?_
  refine RegL.nil ?_
  refine Ct.then_tr ?_
  refine Tr.weak (Γ' := [(0, (pSl 1 (cSl 1 (cK .i64)) s_0)), (1, (pFn Try.prog (fun x => [(pSl 1 (cK .i64) x)]) f_1 (fun y => (pEq (.bool y))))), (7, (pEq (.int .i64 (s_0.length : Int)))), (8, (pEq (.int .i64 v2))), (9, (pEq (.bool (decide (v2 < (s_0.length : Int))))))]) ⟨rfl, rfl, rfl, rfl, rfl, trivial⟩ ?_
  refine Tr.seq ?_
  refine Tr.cond (Opd.tmp rfl) (fun hc => ?_) (fun hc => ?_)
  · replace h := bif_t hc h
    refine Tr.skip ?_
    refine Ct.then_tr ?_
    refine Tr.weak (Γ' := [(0, (pSl 1 (cSl 1 (cK .i64)) s_0)), (1, (pFn Try.prog (fun x => [(pSl 1 (cK .i64) x)]) f_1 (fun y => (pEq (.bool y))))), (7, (pEq (.int .i64 (s_0.length : Int)))), (8, (pEq (.int .i64 v2)))]) ⟨rfl, rfl, rfl, rfl, trivial⟩ ?_
    refine Tr.seq ?_
    refine Tr.block ?_
    refine Tr.seq ?_
    refine Tr.region ?_
    refine RegL.pure (p := (pEq (.int .i64 v2))) rfl rfl rfl (J_move rfl (Opd.tmp rfl)) ?_
    refine RegL.pure (p := (pEq (.int .i64 v2))) rfl rfl rfl (J_assign rfl (Opd.tmp rfl)) ?_
    refine RegL.nil ?_
    refine Ct.then_tr ?_
    refine Tr.weak (Γ' := [(0, (pSl 1 (cSl 1 (cK .i64)) s_0)), (1, (pFn Try.prog (fun x => [(pSl 1 (cK .i64) x)]) f_1 (fun y => (pEq (.bool y))))), (5, (pEq (.int .i64 v2))), (7, (pEq (.int .i64 (s_0.length : Int)))), (8, (pEq (.int .i64 v2)))]) ⟨rfl, rfl, rfl, rfl, rfl, trivial⟩ ?_
    refine Tr.seq ?_
    refine Tr.region ?_
    refine RegL.pure (p := (pFn Try.prog (fun x => [(pSl 1 (cK .i64) x)]) f_1 (fun y => (pEq (.bool y))))) rfl rfl rfl (J_move rfl (Opd.tmp rfl)) ?_
    refine RegL.pure (p := (pSl 1 (cSl 1 (cK .i64)) s_0)) rfl rfl rfl (J_move rfl (Opd.tmp rfl)) ?_
    refine RegL.pure (p := (pEq (.int .i64 v2))) rfl rfl rfl (J_move rfl (Opd.tmp rfl)) ?_
    replace h := bind_some h; obtain ⟨x4, hx4, h⟩ := h
    refine RegL.pure (p := (pPtr ((cSl 1 (cK .i64)) x4))) rfl rfl rfl (J_idx rfl Try.underlying68 sz22 (Opd.tmp rfl) (Opd.tmp rfl) hx4) ?_
    refine RegL.pure (p := (pSl 1 (cK .i64) x4)) rfl rfl rfl (J_load rfl Try.isAgg22 (Opd.tmp rfl)) ?_
    replace h := bind_some h; obtain ⟨x5, hx5, h⟩ := h
    refine RegL.pure (p := (pEq (.bool x5))) rfl rfl rfl (J_callv (x := x4) rfl (Opd.tmp rfl) rfl (Opds.cons (Opd.tmp rfl) Opds.nil) hx5 rfl) ?_
    refine RegL.nil ?_
    refine Ct.then_tr ?_
    refine Tr.weak (Γ' := [(0, (pSl 1 (cSl 1 (cK .i64)) s_0)), (1, (pFn Try.prog (fun x => [(pSl 1 (cK .i64) x)]) f_1 (fun y => (pEq (.bool y))))), (5, (pEq (.int .i64 v2))), (7, (pEq (.int .i64 (s_0.length : Int)))), (8, (pEq (.int .i64 v2))), (16, (pEq (.bool x5)))]) ⟨rfl, rfl, rfl, rfl, rfl, rfl, trivial⟩ ?_
    refine Tr.cond (Opd.tmp rfl) (fun hc => ?_) (fun hc => ?_)
    · replace h := bif_t hc h
      refine Tr.seq ?_
      refine Tr.region ?_
      refine RegL.pure (p := (pEq (.int .i64 v2))) rfl rfl rfl (J_move rfl (Opd.tmp rfl)) ?_
      refine RegL.pure (p := (pEq (.int .i64 v2))) rfl rfl rfl (J_assign rfl (Opd.tmp rfl)) ?_
      refine RegL.nil ?_
      refine Ct.then_tr ?_
      refine Tr.weak (Γ' := [(4, (pEq (.int .i64 v2)))]) ⟨rfl, trivial⟩ ?_
      refine Tr.ret ?_
      refine Ct.blk_ret ?_
      refine Ct.then_ret ?_
      replace h := map_some h; obtain ⟨r1, h, rfl⟩ := h
      refine Ct.out_ret fun e => ?_
      subst e
      refine Ct.blk_ret ?_
      refine Ct.then_ret ?_
      replace h := Option.some.inj h; subst h
      exact Ct.retH1 (Ωx := []) () rfl (RvOk.tmp rfl) rfl
    · replace h := bif_f hc h
      refine Tr.skip ?_
      refine Ct.blk_normal ?_
      refine Ct.then_tr ?_
      refine Tr.weak (Γ' := [(0, (pSl 1 (cSl 1 (cK .i64)) s_0)), (1, (pFn Try.prog (fun x => [(pSl 1 (cK .i64) x)]) f_1 (fun y => (pEq (.bool y))))), (7, (pEq (.int .i64 (s_0.length : Int)))), (8, (pEq (.int .i64 v2)))]) ⟨rfl, rfl, rfl, rfl, trivial⟩ ?_
      refine Tr.region ?_
      refine RegL.pure (p := (pEq (.int .i64 (w64 (v2 + (1 : Int)))))) rfl rfl rfl (J_bin rfl (Opd.tmp rfl) Opd.con B_add) ?_
      refine RegL.pure (p := (pEq (.int .i64 (w64 (v2 + (1 : Int)))))) rfl rfl rfl (J_move rfl (Opd.tmp rfl)) ?_
      refine RegL.nil ?_
      replace h := Option.some.inj h; subst h
      exact Ct.again () rfl ⟨rfl, rfl, rfl, rfl, trivial⟩
  · replace h := bif_f hc h
    refine Tr.exit ?_
    refine Ct.then_exit ?_
    replace h := map_some h; obtain ⟨r1, h, rfl⟩ := h
    refine Ct.out_exit fun e => ?_
    subst e
    refine Ct.blk_exit ?_
    refine Ct.then_tr ?_
    refine Tr.weak (Γ' := []) trivial ?_
    refine Tr.seq ?_
    refine Tr.region ?_
    refine RegL.pure (p := (pEq (.int .i64 (-1 : Int)))) rfl rfl rfl (J_assign rfl Opd.con) ?_
    refine RegL.nil ?_
    refine Ct.then_tr ?_
    refine Tr.weak (Γ' := [(4, (pEq (.int .i64 (-1 : Int))))]) ⟨rfl, trivial⟩ ?_
    refine Tr.ret ?_
    replace h := Option.some.inj h; subst h
    exact Ct.retH1 (Ωx := []) () rfl (RvOk.tmp rfl) rfl

theorem c_slices_ContainsFunc_SSint64_int64 {s_0 : (List (List Int))} {f_1 : ((List Int) → Option Bool)} {r : Bool} (h : m_slices_ContainsFunc_SSint64_int64 s_0 f_1 = some r) : CallJ Try.prog 84 [(pSl 1 (cSl 1 (cK .i64)) s_0), (pFn Try.prog (fun x => [(pSl 1 (cK .i64) x)]) f_1 (fun y => (pEq (.bool y))))] (pEq (.bool r)) := by
  unfold m_slices_ContainsFunc_SSint64_int64 at h
  refine CallJ.enterH Try.func84 rfl Try.ntmps84 rfl fun W I0 H => ?_
  refine Tr.weak (Γ' := [(0, (pSl 1 (cSl 1 (cK .i64)) s_0)), (1, (pFn Try.prog (fun x => [(pSl 1 (cK .i64) x)]) f_1 (fun y => (pEq (.bool y)))))]) ⟨rfl, rfl, trivial⟩ ?_
  refine Tr.seq ?_
  refine Tr.region ?_
  refine RegL.pure (p := (pEq (.bool false))) rfl rfl rfl (J_assign rfl Opd.con) ?_
  refine RegL.nil ?_
  refine Ct.then_tr ?_
  refine Tr.weak (Γ' := [(0, (pSl 1 (cSl 1 (cK .i64)) s_0)), (1, (pFn Try.prog (fun x => [(pSl 1 (cK .i64) x)]) f_1 (fun y => (pEq (.bool y)))))]) ⟨rfl, rfl, trivial⟩ ?_
  refine Tr.seq ?_
  refine Tr.region ?_
  refine RegL.pure (p := (pSl 1 (cSl 1 (cK .i64)) s_0)) rfl rfl rfl (J_move rfl (Opd.tmp rfl)) ?_
  refine RegL.pure (p := (pFn Try.prog (fun x => [(pSl 1 (cK .i64) x)]) f_1 (fun y => (pEq (.bool y))))) rfl rfl rfl (J_move rfl (Opd.tmp rfl)) ?_
  replace h := bind_some h; obtain ⟨x1, hx1, h⟩ := h
  refine RegL.pure (p := (pEq (.int .i64 x1))) rfl rfl rfl (J_call rfl Try.call101 (c_slices_IndexFunc_SSint64_int64 hx1) (Opds.cons (Opd.tmp rfl) (Opds.cons (Opd.tmp rfl) Opds.nil))) ?_
  refine RegL.pure (p := (pEq (.bool (decide ((0 : Int) ≤ x1))))) rfl rfl rfl (J_bin rfl (Opd.tmp rfl) Opd.con B_geq) ?_
  refine RegL.pure (p := (pEq (.bool (decide ((0 : Int) ≤ x1))))) rfl rfl rfl (J_assign rfl (Opd.tmp rfl)) ?_
  refine RegL.nil ?_
  refine Ct.then_tr ?_
  refine Tr.weak (Γ' := [(4, (pEq (.bool (decide ((0 : Int) ≤ x1)))))]) ⟨rfl, trivial⟩ ?_
  refine Tr.ret ?_
  replace h := Option.some.inj h; subst h
  exact Ct.retH1 (Ωx := []) () rfl (RvOk.tmp rfl) rfl

theorem c_impl_ValidRows {rows_0 : (List (List Int))} {r : Bool} (h : m_impl_ValidRows rows_0 = some r) : CallJ Try.prog 50 [(pSl 1 (cSl 1 (cK .i64)) rows_0)] (pEq (.bool r)) := by
  unfold m_impl_ValidRows at h
  refine CallJ.enterH Try.func50 rfl Try.ntmps50 rfl fun W I0 H => ?_
  refine Tr.weak (Γ' := [(0, (pSl 1 (cSl 1 (cK .i64)) rows_0))]) ⟨rfl, trivial⟩ ?_
  refine Tr.seq ?_
  refine Tr.region ?_
  refine RegL.pure (p := (pPtr ((cSl 1 (cSl 1 (cK .i64))) rows_0))) rfl rfl rfl (J_box rfl (Opd.tmp rfl) OneC.sl) ?_
  refine RegL.pure (p := (pEq (.bool false))) rfl rfl rfl (J_assign rfl Opd.con) ?_
  refine RegL.nil ?_
  refine Ct.then_tr ?_
  refine Tr.weak (Γ' := [(1, (pPtr ((cSl 1 (cSl 1 (cK .i64))) rows_0)))]) ⟨rfl, trivial⟩ ?_
  refine Tr.seq ?_
  refine Tr.seq ?_
  replace h := bind_some h; obtain ⟨x1, hx1, h⟩ := h
  refine Tr.cut (γ := Unit) (Γm := fun g => [(1, (pPtr ((cSl 1 (cSl 1 (cK .i64))) rows_0))), (10, (pEq (.bool x1)))]) (Ωm := fun g => []) ?_ (fun g3 => ?_)
  · clear h
    have h := hx1
    clear hx1
    refine Tr.region ?_
    refine RegL.pure (p := (pSl 1 (cSl 1 (cK .i64)) rows_0)) rfl rfl rfl (J_load rfl Try.isAgg68 (Opd.tmp rfl)) ?_
    refine RegL.pure (p := (pEq (.int .i64 (rows_0.length : Int)))) rfl rfl rfl (J_len rfl Try.underlying68 (Opd.tmp rfl) rfl) ?_
    refine RegL.pure (p := (pEq (.bool (decide ((rows_0.length : Int) < (1 : Int)))))) rfl rfl rfl (J_bin rfl (Opd.tmp rfl) Opd.con B_lss) ?_
    refine RegL.pure (p := (pEq (.bool (decide ((rows_0.length : Int) < (1 : Int)))))) rfl rfl rfl (J_move rfl (Opd.tmp rfl)) ?_
    rcases Bool.eq_false_or_eq_true (decide ((rows_0.length : Int) < (1 : Int))) with hc2 | hc2
    · replace h := bif_t hc2 h
      refine RegL.skipG rfl rfl rfl hc2 rfl rfl ?_
      refine RegL.skipG rfl rfl rfl hc2 rfl rfl ?_
      refine RegL.skipG rfl rfl rfl hc2 rfl rfl ?_
      refine RegL.pure (p := (pEq (.bool true))) rfl rfl rfl (J_pick rfl (Opd.tmp rfl) (fun _ => Opd.con) (fun hf => absurd (hc2.symm.trans hf) (by decide))) ?_
      refine RegL.nil ?_
      replace h := Option.some.inj h; subst h
      exact Ct.mid () rfl ⟨rfl, rfl, trivial⟩
    · replace h := bif_f hc2 h
      refine RegL.pureG (p := (pSl 1 (cSl 1 (cK .i64)) rows_0)) rfl rfl rfl hc2 rfl rfl (J_load rfl Try.isAgg68 (Opd.tmp rfl)) ?_
      refine RegL.pureG (p := (pEq (.int .i64 (rows_0.length : Int)))) rfl rfl rfl hc2 rfl rfl (J_len rfl Try.underlying68 (Opd.tmp rfl) rfl) ?_
      refine RegL.pureG (p := (pEq (.bool (decide ((32 : Int) < (rows_0.length : Int)))))) rfl rfl rfl hc2 rfl rfl (J_bin rfl (Opd.tmp rfl) Opd.con B_gtr) ?_
      refine RegL.pure (p := (pEq (.bool (decide ((32 : Int) < (rows_0.length : Int)))))) rfl rfl rfl (J_pick rfl (Opd.tmp rfl) (fun hf => absurd (hc2.symm.trans hf) (by decide)) (fun _ => (Opd.tmp rfl))) ?_
      refine RegL.nil ?_
      replace h := Option.some.inj h; subst h
      exact Ct.mid () rfl ⟨rfl, rfl, trivial⟩
  · clear hx1
    refine Ct.then_tr ?_
    refine Tr.weak (Γ' := [(1, (pPtr ((cSl 1 (cSl 1 (cK .i64))) rows_0))), (10, (pEq (.bool x1)))]) ⟨rfl, rfl, trivial⟩ ?_
    refine Tr.cond (Opd.tmp rfl) (fun hc => ?_) (fun hc => ?_)
    · replace h := bif_t hc h
      refine Tr.seq ?_
      refine Tr.region ?_
      refine RegL.pure (p := (pEq (.bool false))) rfl rfl rfl (J_assign rfl Opd.con) ?_
      refine RegL.nil ?_
      refine Ct.then_tr ?_
      refine Tr.weak (Γ' := [(2, (pEq (.bool false)))]) ⟨rfl, trivial⟩ ?_
      refine Tr.ret ?_
      refine Ct.then_ret ?_
      replace h := Option.some.inj h; subst h
      exact Ct.retH1 (Ωx := []) () rfl (RvOk.tmp rfl) rfl
    · replace h := bif_f hc h
      refine Tr.skip ?_
      refine Ct.then_tr ?_
      refine Tr.weak (Γ' := [(1, (pPtr ((cSl 1 (cSl 1 (cK .i64))) rows_0)))]) ⟨rfl, trivial⟩ ?_
      refine Tr.seq ?_
      refine Tr.region ?_
      refine RegL.pure (p := (pSl 1 (cSl 1 (cK .i64)) rows_0)) rfl rfl rfl (J_load rfl Try.isAgg68 (Opd.tmp rfl)) ?_
      refine RegL.pure (p := (pFn Try.prog (fun x => [(pSl 1 (cK .i64) x)]) (fun x => m_impl_ValidRows_1 x rows_0) (fun y => (pEq (.bool y))))) rfl rfl rfl (J_makeFn rfl Try.call85 (Opds.cons (Opd.tmp rfl) Opds.nil) (fun _ _ h => c_impl_ValidRows_1 h)) ?_
      replace h := bind_some h; obtain ⟨x4, hx4, h⟩ := h
      refine RegL.pure (p := (pEq (.bool x4))) rfl rfl rfl (J_call rfl Try.call84 (c_slices_ContainsFunc_SSint64_int64 hx4) (Opds.cons (Opd.tmp rfl) (Opds.cons (Opd.tmp rfl) Opds.nil))) ?_
      refine RegL.pure (p := (pEq (.bool (!x4)))) rfl rfl rfl (J_not rfl (Opd.tmp rfl)) ?_
      refine RegL.pure (p := (pEq (.bool (!x4)))) rfl rfl rfl (J_assign rfl (Opd.tmp rfl)) ?_
      refine RegL.nil ?_
      refine Ct.then_tr ?_
      refine Tr.weak (Γ' := [(2, (pEq (.bool (!x4))))]) ⟨rfl, trivial⟩ ?_
      refine Tr.ret ?_
      replace h := Option.some.inj h; subst h
      exact Ct.retH1 (Ωx := []) () rfl (RvOk.tmp rfl) rfl

theorem c_slices_Max_int64_int64 {x_0 : (List Int)} {r : Int} (h : m_slices_Max_int64_int64 x_0 = some r) : CallJ Try.prog 103 [(pSl 1 (cK .i64) x_0)] (pEq (.int .i64 r)) := by
  unfold m_slices_Max_int64_int64 at h
  refine CallJ.enterH Try.func103 rfl Try.ntmps103 rfl fun W I0 H => ?_
  refine Tr.weak (Γ' := [(0, (pSl 1 (cK .i64) x_0))]) ⟨rfl, trivial⟩ ?_
  refine Tr.seq ?_
  refine Tr.region ?_
  refine RegL.pure (p := (pEq (.int .i64 (0 : Int)))) rfl rfl rfl (J_assign rfl Opd.con) ?_
  refine RegL.nil ?_
  refine Ct.then_tr ?_
  refine Tr.weak (Γ' := [(0, (pSl 1 (cK .i64) x_0))]) ⟨rfl, trivial⟩ ?_
  refine Tr.seq ?_
  refine Tr.seq ?_
  refine Tr.region ?_
  refine RegL.pure (p := (pSl 1 (cK .i64) x_0)) rfl rfl rfl (J_move rfl (Opd.tmp rfl)) ?_
  refine RegL.pure (p := (pEq (.int .i64 (x_0.length : Int)))) rfl rfl rfl (J_len rfl Try.underlying22 (Opd.tmp rfl) rfl) ?_
  refine RegL.pure (p := (pEq (.bool (decide ((x_0.length : Int) < (1 : Int)))))) rfl rfl rfl (J_bin rfl (Opd.tmp rfl) Opd.con B_lss) ?_
  refine RegL.nil ?_
  refine Ct.then_tr ?_
  refine Tr.weak (Γ' := [(0, (pSl 1 (cK .i64) x_0)), (7, (pEq (.bool (decide ((x_0.length : Int) < (1 : Int))))))]) ⟨rfl, rfl, trivial⟩ ?_
  replace h := bind_some h; obtain ⟨x1, hx1, h⟩ := h
  refine Tr.cut (γ := Unit) (Γm := fun g => [(0, (pSl 1 (cK .i64) x_0))]) (Ωm := fun g => []) ?_ (fun g2 => ?_)
  · clear h
    have h := hx1
    clear hx1
    refine Tr.cond (Opd.tmp rfl) (fun hc => ?_) (fun hc => ?_)
    · replace h := bif_t hc h
      refine Tr.region ?_
      exact absurd h (by simp)
    · replace h := bif_f hc h
      refine Tr.skip ?_
      replace h := Option.some.inj h; subst h
      exact Ct.mid () rfl ⟨rfl, trivial⟩
  · clear hx1
    refine Ct.then_tr ?_
    refine Tr.weak (Γ' := [(0, (pSl 1 (cK .i64) x_0))]) ⟨rfl, trivial⟩ ?_
    refine Tr.seq ?_
    refine Tr.region ?_
    refine RegL.pure (p := (pSl 1 (cK .i64) x_0)) rfl rfl rfl (J_move rfl (Opd.tmp rfl)) ?_
    replace h := bind_some h; obtain ⟨x3, hx3, h⟩ := h
    refine RegL.pure (p := (pPtr ((cK .i64) x3))) rfl rfl rfl (J_idx rfl Try.underlying22 sz2 (Opd.tmp rfl) Opd.con hx3) ?_
    refine RegL.pure (p := (pEq (.int .i64 x3))) rfl rfl rfl (J_load rfl Try.isAgg2 (Opd.tmp rfl)) ?_
    refine RegL.pure (p := (pEq (.int .i64 x3))) rfl rfl rfl (J_assign rfl (Opd.tmp rfl)) ?_
    refine RegL.nil ?_
    refine Ct.then_tr ?_
    refine Tr.weak (Γ' := [(0, (pSl 1 (cK .i64) x_0)), (3, (pEq (.int .i64 x3)))]) ⟨rfl, rfl, trivial⟩ ?_
    refine Tr.seq ?_
    refine Tr.seq ?_
    refine Tr.region ?_
    refine RegL.pure (p := (pEq (.int .i64 (1 : Int)))) rfl rfl rfl (J_assign rfl Opd.con) ?_
    refine RegL.nil ?_
    refine Ct.then_tr ?_
    refine Tr.weak (Γ' := [(0, (pSl 1 (cK .i64) x_0)), (3, (pEq (.int .i64 x3))), (4, (pEq (.int .i64 (1 : Int))))]) ⟨rfl, rfl, rfl, trivial⟩ ?_
    replace h := bind_some h; obtain ⟨x4, hx4, h⟩ := h
    refine Tr.cut (γ := Unit) (Γm := fun g => [(3, (pEq (.int .i64 x4)))]) (Ωm := fun g => []) ?_ (fun g10 => ?_)
    · clear h
      have h := hx4
      clear hx4
      refine Tr.block ?_
      refine Tr.weak (Γ' := [(0, (pSl 1 (cK .i64) x_0)), (3, (pEq (.int .i64 x3))), (4, (pEq (.int .i64 (1 : Int))))]) ⟨rfl, rfl, rfl, trivial⟩ ?_
      refine Tr.loop (γ := Unit) (σ := (Int × Int)) (Γσ := fun s g => [(0, (pSl 1 (cK .i64) x_0)), (3, (pEq (.int .i64 s.1))), (4, (pEq (.int .i64 s.2)))]) (Ωσ := fun s g => []) (g := ()) h ?_
      clear h
      rintro ⟨v6, v7⟩ g8 t h
      replace h : m_slices_Max_int64_int64_B5 x_0 v6 v7 = some t := h
      unfold m_slices_Max_int64_int64_B5 at h
      refine Tr.weakO (Γ' := [(0, (pSl 1 (cK .i64) x_0)), (3, (pEq (.int .i64 v6))), (4, (pEq (.int .i64 v7)))]) (Ω' := []) rfl ⟨rfl, rfl, rfl, trivial⟩ ?_
      refine Tr.seq ?_
      refine Tr.seq ?_
      refine Tr.region ?_
      refine RegL.pure (p := (pEq (.int .i64 v7))) rfl rfl rfl (J_move rfl (Opd.tmp rfl)) ?_
      refine RegL.pure (p := (pSl 1 (cK .i64) x_0)) rfl rfl rfl (J_move rfl (Opd.tmp rfl)) ?_
      refine RegL.pure (p := (pEq (.int .i64 (x_0.length : Int)))) rfl rfl rfl (J_len rfl Try.underlying22 (Opd.tmp rfl) rfl) ?_
      refine RegL.pure (p := (pEq (.bool (decide (v7 < (x_0.length : Int)))))) rfl rfl rfl (J_bin rfl (Opd.tmp rfl) (Opd.tmp rfl) B_lss) ?_
      refine RegL.nil ?_
      refine Ct.then_tr ?_
      refine Tr.weak (Γ' := [(0, (pSl 1 (cK .i64) x_0)), (3, (pEq (.int .i64 v6))), (4, (pEq (.int .i64 v7))), (15, (pEq (.bool (decide (v7 < (x_0.length : Int))))))]) ⟨rfl, rfl, rfl, rfl, trivial⟩ ?_
      refine Tr.cond (Opd.tmp rfl) (fun hc => ?_) (fun hc => ?_)
      · replace h := bif_t hc h
        refine Tr.skip ?_
        refine Ct.then_tr ?_
        refine Tr.weak (Γ' := [(0, (pSl 1 (cK .i64) x_0)), (3, (pEq (.int .i64 v6))), (4, (pEq (.int .i64 v7)))]) ⟨rfl, rfl, rfl, trivial⟩ ?_
        refine Tr.seq ?_
        refine Tr.block ?_
        refine Tr.region ?_
        refine RegL.pure (p := (pEq (.int .i64 v6))) rfl rfl rfl (J_move rfl (Opd.tmp rfl)) ?_
        refine RegL.pure (p := (pSl 1 (cK .i64) x_0)) rfl rfl rfl (J_move rfl (Opd.tmp rfl)) ?_
        refine RegL.pure (p := (pEq (.int .i64 v7))) rfl rfl rfl (J_move rfl (Opd.tmp rfl)) ?_
        replace h := bind_some h; obtain ⟨x9, hx9, h⟩ := h
        refine RegL.pure (p := (pPtr ((cK .i64) x9))) rfl rfl rfl (J_idx rfl Try.underlying22 sz2 (Opd.tmp rfl) (Opd.tmp rfl) hx9) ?_
        refine RegL.pure (p := (pEq (.int .i64 x9))) rfl rfl rfl (J_load rfl Try.isAgg2 (Opd.tmp rfl)) ?_
        refine RegL.pure (p := (pEq (.int .i64 (if x9 > v6 then x9 else v6)))) rfl rfl rfl (J_max2 rfl (Opd.tmp rfl) (Opd.tmp rfl)) ?_
        refine RegL.pure (p := (pEq (.int .i64 (if x9 > v6 then x9 else v6)))) rfl rfl rfl (J_assign rfl (Opd.tmp rfl)) ?_
        refine RegL.nil ?_
        refine Ct.blk_normal ?_
        refine Ct.then_tr ?_
        refine Tr.weak (Γ' := [(0, (pSl 1 (cK .i64) x_0)), (3, (pEq (.int .i64 (if x9 > v6 then x9 else v6)))), (4, (pEq (.int .i64 v7)))]) ⟨rfl, rfl, rfl, trivial⟩ ?_
        refine Tr.region ?_
        refine RegL.pure (p := (pEq (.int .i64 v7))) rfl rfl rfl (J_move rfl (Opd.tmp rfl)) ?_
        refine RegL.pure (p := (pEq (.int .i64 (w64 (v7 + (1 : Int)))))) rfl rfl rfl (J_bin rfl (Opd.tmp rfl) Opd.con B_add) ?_
        refine RegL.pure (p := (pEq (.int .i64 (w64 (v7 + (1 : Int)))))) rfl rfl rfl (J_assign rfl (Opd.tmp rfl)) ?_
        refine RegL.nil ?_
        replace h := Option.some.inj h; subst h
        exact Ct.again () rfl ⟨rfl, rfl, rfl, trivial⟩
      · replace h := bif_f hc h
        refine Tr.exit ?_
        refine Ct.then_exit ?_
        replace h := map_some h; obtain ⟨r1, h, rfl⟩ := h
        refine Ct.out_exit fun e => ?_
        subst e
        refine Ct.blk_exit ?_
        replace h := Option.some.inj h; subst h
        exact Ct.mid () rfl ⟨rfl, trivial⟩
    · clear hx4
      refine Ct.then_tr ?_
      refine Tr.weak (Γ' := [(3, (pEq (.int .i64 x4)))]) ⟨rfl, trivial⟩ ?_
      refine Tr.seq ?_
      refine Tr.region ?_
      refine RegL.pure (p := (pEq (.int .i64 x4))) rfl rfl rfl (J_move rfl (Opd.tmp rfl)) ?_
      refine RegL.pure (p := (pEq (.int .i64 x4))) rfl rfl rfl (J_assign rfl (Opd.tmp rfl)) ?_
      refine RegL.nil ?_
      refine Ct.then_tr ?_
      refine Tr.weak (Γ' := [(2, (pEq (.int .i64 x4)))]) ⟨rfl, trivial⟩ ?_
      refine Tr.ret ?_
      replace h := Option.some.inj h; subst h
      exact Ct.retH1 (Ωx := []) () rfl (RvOk.tmp rfl) rfl

theorem c_slices_Index_int64_int64 {s_0 : (List Int)} {v_1 : Int} {r : Int} (h : m_slices_Index_int64_int64 s_0 v_1 = some r) : CallJ Try.prog 102 [(pSl 1 (cK .i64) s_0), (pEq (.int .i64 v_1))] (pEq (.int .i64 r)) := by
  unfold m_slices_Index_int64_int64 at h
  refine CallJ.enterH Try.func102 rfl Try.ntmps102 rfl fun W I0 H => ?_
  refine Tr.weak (Γ' := [(0, (pSl 1 (cK .i64) s_0)), (1, (pEq (.int .i64 v_1)))]) ⟨rfl, rfl, trivial⟩ ?_
  refine Tr.seq ?_
  refine Tr.region ?_
  refine RegL.pure (p := (pEq (.int .i64 (0 : Int)))) rfl rfl rfl (J_assign rfl Opd.con) ?_
  refine RegL.nil ?_
  refine Ct.then_tr ?_
  refine Tr.weak (Γ' := [(0, (pSl 1 (cK .i64) s_0)), (1, (pEq (.int .i64 v_1)))]) ⟨rfl, rfl, trivial⟩ ?_
  refine Tr.seq ?_
  refine Tr.seq ?_
  refine Tr.region ?_
  refine RegL.pure (p := (pSl 1 (cK .i64) s_0)) rfl rfl rfl (J_move rfl (Opd.tmp rfl)) ?_
  refine RegL.pure (p := (pEq (.int .i64 (s_0.length : Int)))) rfl rfl rfl (J_len rfl Try.underlying22 (Opd.tmp rfl) rfl) ?_
  refine RegL.pure (p := (pEq (.int .i64 (0 : Int)))) rfl rfl rfl (J_move rfl Opd.con) ?_
  refine RegL.nil ?_
  refine Ct.then_tr ?_
  refine Tr.weak (Γ' := [(0, (pSl 1 (cK .i64) s_0)), (1, (pEq (.int .i64 v_1))), (7, (pEq (.int .i64 (s_0.length : Int)))), (8, (pEq (.int .i64 (0 : Int))))]) ⟨rfl, rfl, rfl, rfl, trivial⟩ ?_
  refine Tr.block ?_
  refine Tr.weak (Γ' := [(0, (pSl 1 (cK .i64) s_0)), (1, (pEq (.int .i64 v_1))), (7, (pEq (.int .i64 (s_0.length : Int)))), (8, (pEq (.int .i64 (0 : Int))))]) ⟨rfl, rfl, rfl, rfl, trivial⟩ ?_
  refine Tr.loop (γ := Unit) (σ := Int) (Γσ := fun s g => [(0, (pSl 1 (cK .i64) s_0)), (1, (pEq (.int .i64 v_1))), (7, (pEq (.int .i64 (s_0.length : Int)))), (8, (pEq (.int .i64 s)))]) (Ωσ := fun s g => []) (g := ()) h ?_
  clear h
  rintro v2 g3 t h
  replace h : m_slices_Index_int64_int64_B1 s_0 v_1 v2 = some t := h
  unfold m_slices_Index_int64_int64_B1 at h
  refine Tr.weakO (Γ' := [(0, (pSl 1 (cK .i64) s_0)), (1, (pEq (.int .i64 v_1))), (7, (pEq (.int .i64 (s_0.length : Int)))), (8, (pEq (.int .i64 v2)))]) (Ω' := []) rfl ⟨rfl, rfl, rfl, rfl, trivial⟩ ?_
  refine Tr.seq ?_
  refine Tr.region ?_
  refine RegL.pure (p := (pEq (.bool (decide (v2 < (s_0.length : Int)))))) rfl rfl rfl (J_bin rfl (Opd.tmp rfl) (Opd.tmp rfl) B_lss) ?_
  refine RegL.nil ?_
  refine Ct.then_tr ?_
  refine Tr.weak (Γ' := [(0, (pSl 1 (cK .i64) s_0)), (1, (pEq (.int .i64 v_1))), (7, (pEq (.int .i64 (s_0.length : Int)))), (8, (pEq (.int .i64 v2))), (9, (pEq (.bool (decide (v2 < (s_0.length : Int))))))]) ⟨rfl, rfl, rfl, rfl, rfl, trivial⟩ ?_
  refine Tr.seq ?_
  refine Tr.cond (Opd.tmp rfl) (fun hc => ?_) (fun hc => ?_)
  · replace h := bif_t hc h
    refine Tr.skip ?_
    refine Ct.then_tr ?_
    refine Tr.weak (Γ' := [(0, (pSl 1 (cK .i64) s_0)), (1, (pEq (.int .i64 v_1))), (7, (pEq (.int .i64 (s_0.length : Int)))), (8, (pEq (.int .i64 v2)))]) ⟨rfl, rfl, rfl, rfl, trivial⟩ ?_
    refine Tr.seq ?_
    refine Tr.block ?_
    refine Tr.seq ?_
    refine Tr.region ?_
    refine RegL.pure (p := (pEq (.int .i64 v2))) rfl rfl rfl (J_move rfl (Opd.tmp rfl)) ?_
    refine RegL.pure (p := (pEq (.int .i64 v2))) rfl rfl rfl (J_assign rfl (Opd.tmp rfl)) ?_
    refine RegL.nil ?_
    refine Ct.then_tr ?_
    refine Tr.weak (Γ' := [(0, (pSl 1 (cK .i64) s_0)), (1, (pEq (.int .i64 v_1))), (5, (pEq (.int .i64 v2))), (7, (pEq (.int .i64 (s_0.length : Int)))), (8, (pEq (.int .i64 v2)))]) ⟨rfl, rfl, rfl, rfl, rfl, trivial⟩ ?_
    refine Tr.seq ?_
    refine Tr.region ?_
    refine RegL.pure (p := (pEq (.int .i64 v_1))) rfl rfl rfl (J_move rfl (Opd.tmp rfl)) ?_
    refine RegL.pure (p := (pSl 1 (cK .i64) s_0)) rfl rfl rfl (J_move rfl (Opd.tmp rfl)) ?_
    refine RegL.pure (p := (pEq (.int .i64 v2))) rfl rfl rfl (J_move rfl (Opd.tmp rfl)) ?_
    replace h := bind_some h; obtain ⟨x4, hx4, h⟩ := h
    refine RegL.pure (p := (pPtr ((cK .i64) x4))) rfl rfl rfl (J_idx rfl Try.underlying22 sz2 (Opd.tmp rfl) (Opd.tmp rfl) hx4) ?_
    refine RegL.pure (p := (pEq (.int .i64 x4))) rfl rfl rfl (J_load rfl Try.isAgg2 (Opd.tmp rfl)) ?_
    refine RegL.pure (p := (pEq (.bool (v_1 == x4)))) rfl rfl rfl (J_bin rfl (Opd.tmp rfl) (Opd.tmp rfl) B_eql) ?_
    refine RegL.nil ?_
    refine Ct.then_tr ?_
    refine Tr.weak (Γ' := [(0, (pSl 1 (cK .i64) s_0)), (1, (pEq (.int .i64 v_1))), (5, (pEq (.int .i64 v2))), (7, (pEq (.int .i64 (s_0.length : Int)))), (8, (pEq (.int .i64 v2))), (16, (pEq (.bool (v_1 == x4))))]) ⟨rfl, rfl, rfl, rfl, rfl, rfl, trivial⟩ ?_
    refine Tr.cond (Opd.tmp rfl) (fun hc => ?_) (fun hc => ?_)
    · replace h := bif_t hc h
      refine Tr.seq ?_
      refine Tr.region ?_
      refine RegL.pure (p := (pEq (.int .i64 v2))) rfl rfl rfl (J_move rfl (Opd.tmp rfl)) ?_
      refine RegL.pure (p := (pEq (.int .i64 v2))) rfl rfl rfl (J_assign rfl (Opd.tmp rfl)) ?_
      refine RegL.nil ?_
      refine Ct.then_tr ?_
      refine Tr.weak (Γ' := [(4, (pEq (.int .i64 v2)))]) ⟨rfl, trivial⟩ ?_
      refine Tr.ret ?_
      refine Ct.blk_ret ?_
      refine Ct.then_ret ?_
      replace h := map_some h; obtain ⟨r1, h, rfl⟩ := h
      refine Ct.out_ret fun e => ?_
      subst e
      refine Ct.blk_ret ?_
      refine Ct.then_ret ?_
      replace h := Option.some.inj h; subst h
      exact Ct.retH1 (Ωx := []) () rfl (RvOk.tmp rfl) rfl
    · replace h := bif_f hc h
      refine Tr.skip ?_
      refine Ct.blk_normal ?_
      refine Ct.then_tr ?_
      refine Tr.weak (Γ' := [(0, (pSl 1 (cK .i64) s_0)), (1, (pEq (.int .i64 v_1))), (7, (pEq (.int .i64 (s_0.length : Int)))), (8, (pEq (.int .i64 v2)))]) ⟨rfl, rfl, rfl, rfl, trivial⟩ ?_
      refine Tr.region ?_
      refine RegL.pure (p := (pEq (.int .i64 (w64 (v2 + (1 : Int)))))) rfl rfl rfl (J_bin rfl (Opd.tmp rfl) Opd.con B_add) ?_
      refine RegL.pure (p := (pEq (.int .i64 (w64 (v2 + (1 : Int)))))) rfl rfl rfl (J_move rfl (Opd.tmp rfl)) ?_
      refine RegL.nil ?_
      replace h := Option.some.inj h; subst h
      exact Ct.again () rfl ⟨rfl, rfl, rfl, rfl, trivial⟩
  · replace h := bif_f hc h
    refine Tr.exit ?_
    refine Ct.then_exit ?_
    replace h := map_some h; obtain ⟨r1, h, rfl⟩ := h
    refine Ct.out_exit fun e => ?_
    subst e
    refine Ct.blk_exit ?_
    refine Ct.then_tr ?_
    refine Tr.weak (Γ' := []) trivial ?_
    refine Tr.seq ?_
    refine Tr.region ?_
    refine RegL.pure (p := (pEq (.int .i64 (-1 : Int)))) rfl rfl rfl (J_assign rfl Opd.con) ?_
    refine RegL.nil ?_
    refine Ct.then_tr ?_
    refine Tr.weak (Γ' := [(4, (pEq (.int .i64 (-1 : Int))))]) ⟨rfl, trivial⟩ ?_
    refine Tr.ret ?_
    replace h := Option.some.inj h; subst h
    exact Ct.retH1 (Ωx := []) () rfl (RvOk.tmp rfl) rfl

theorem c_impl_serverOf {row_0 : (List Int)} {r : Int} (h : m_impl_serverOf row_0 = some r) : CallJ Try.prog 88 [(pSl 1 (cK .i64) row_0)] (pEq (.int .i64 r)) := by
  unfold m_impl_serverOf at h
  refine CallJ.enterH Try.func88 rfl Try.ntmps88 rfl fun W I0 H => ?_
  refine Tr.weak (Γ' := [(0, (pSl 1 (cK .i64) row_0))]) ⟨rfl, trivial⟩ ?_
  refine Tr.seq ?_
  refine Tr.region ?_
  refine RegL.pure (p := (pEq (.int .i64 (0 : Int)))) rfl rfl rfl (J_assign rfl Opd.con) ?_
  refine RegL.nil ?_
  refine Ct.then_tr ?_
  refine Tr.weak (Γ' := [(0, (pSl 1 (cK .i64) row_0))]) ⟨rfl, trivial⟩ ?_
  refine Tr.seq ?_
  refine Tr.region ?_
  refine RegL.pure (p := (pSl 1 (cK .i64) row_0)) rfl rfl rfl (J_move rfl (Opd.tmp rfl)) ?_
  refine RegL.pure (p := (pSl 1 (cK .i64) row_0)) rfl rfl rfl (J_move rfl (Opd.tmp rfl)) ?_
  replace h := bind_some h; obtain ⟨x1, hx1, h⟩ := h
  refine RegL.pure (p := (pEq (.int .i64 x1))) rfl rfl rfl (J_call rfl Try.call103 (c_slices_Max_int64_int64 hx1) (Opds.cons (Opd.tmp rfl) Opds.nil)) ?_
  replace h := bind_some h; obtain ⟨x2, hx2, h⟩ := h
  refine RegL.pure (p := (pEq (.int .i64 x2))) rfl rfl rfl (J_call rfl Try.call102 (c_slices_Index_int64_int64 hx2) (Opds.cons (Opd.tmp rfl) (Opds.cons (Opd.tmp rfl) Opds.nil))) ?_
  refine RegL.pure (p := (pEq (.int .i64 x2))) rfl rfl rfl (J_assign rfl (Opd.tmp rfl)) ?_
  refine RegL.nil ?_
  refine Ct.then_tr ?_
  refine Tr.weak (Γ' := [(2, (pEq (.int .i64 x2)))]) ⟨rfl, trivial⟩ ?_
  refine Tr.ret ?_
  replace h := Option.some.inj h; subst h
  exact Ct.retH1 (Ωx := []) () rfl (RvOk.tmp rfl) rfl

theorem o_impl_ServersOf {rows_0 : (List (List Int))}  {r : ((List Int) × Int)} (h : m_impl_ServersOf rows_0 = some r) : CallH Try.prog 53 [(pSl 1 (cSl 1 (cK .i64)) rows_0)] [] (fun g : G3 => (pTup [(pEq (.slice g.1 g.2.1 g.2.2)), (pEq (.int .i64 r.2))])) (fun g : G3 => [oSl 2 1 (cK .i64) g.1 g.2.1 g.2.2 r.1]) := by
  unfold m_impl_ServersOf at h
  refine CallH.enter Try.func53 rfl Try.ntmps53 rfl fun W I0 H => ?_
  refine Tr.weak (Γ' := [(0, (pSl 1 (cSl 1 (cK .i64)) rows_0))]) ⟨rfl, trivial⟩ ?_
  refine Tr.seq ?_
  refine Tr.region ?_
  refine RegL.pure (p := (pEq (.slice none 0 0))) rfl rfl rfl (J_assign rfl Opd.con) ?_
  refine RegL.pure (p := (pEq (.int .i64 (0 : Int)))) rfl rfl rfl (J_assign rfl Opd.con) ?_
  refine RegL.nil ?_
  refine Ct.then_tr ?_
  refine Tr.weak (Γ' := [(0, (pSl 1 (cSl 1 (cK .i64)) rows_0))]) ⟨rfl, trivial⟩ ?_
  refine Tr.seq ?_
  refine Tr.seq ?_
  refine Tr.region ?_
  refine RegL.pure (p := (pSl 1 (cSl 1 (cK .i64)) rows_0)) rfl rfl rfl (J_move rfl (Opd.tmp rfl)) ?_
  replace h := bind_some h; obtain ⟨x1, hx1, h⟩ := h
  refine RegL.pure (p := (pEq (.bool x1))) rfl rfl rfl (J_call rfl Try.call50 (c_impl_ValidRows hx1) (Opds.cons (Opd.tmp rfl) Opds.nil)) ?_
  refine RegL.pure (p := (pEq (.bool (!x1)))) rfl rfl rfl (J_not rfl (Opd.tmp rfl)) ?_
  refine RegL.nil ?_
  refine Ct.then_tr ?_
  refine Tr.weak (Γ' := [(0, (pSl 1 (cSl 1 (cK .i64)) rows_0)), (9, (pEq (.bool (!x1))))]) ⟨rfl, rfl, trivial⟩ ?_
  refine Tr.cond (Opd.tmp rfl) (fun hc => ?_) (fun hc => ?_)
  · replace h := bif_t hc h
    refine Tr.seq ?_
    refine Tr.region ?_
    refine RegL.pure (p := (pEq (.slice none 0 0))) rfl rfl rfl (J_assign rfl Opd.con) ?_
    refine RegL.pure (p := (pEq (.int .i64 (1 : Int)))) rfl rfl rfl (J_assign rfl Opd.con) ?_
    refine RegL.nil ?_
    refine Ct.then_tr ?_
    refine Tr.weak (Γ' := [(2, (pEq (.slice none 0 0))), (3, (pEq (.int .i64 (1 : Int))))]) ⟨rfl, rfl, trivial⟩ ?_
    refine Tr.ret ?_
    refine Ct.then_ret ?_
    refine Ct.re (Ω2 := [oSl 2 1 (cK .i64) none 0 0 ([] : (List Int))]) (fun h => SatO.nilRow h) ?_
    replace h := Option.some.inj h; subst h
    exact Ct.retH2 (Ωx := []) (none, 0, 0) rfl (RvOk.tmp rfl) (RvOk.tmp rfl) rfl rfl
  · replace h := bif_f hc h
    refine Tr.skip ?_
    refine Ct.then_tr ?_
    refine Tr.weak (Γ' := [(0, (pSl 1 (cSl 1 (cK .i64)) rows_0))]) ⟨rfl, trivial⟩ ?_
    refine Tr.seq ?_
    refine Tr.region ?_
    refine RegL.pure (p := (pEq (.slice none 0 0))) rfl rfl rfl (J_assign rfl Opd.con) ?_
    refine RegL.nil ?_
    refine Ct.then_tr ?_
    refine Tr.weak (Γ' := [(0, (pSl 1 (cSl 1 (cK .i64)) rows_0)), (4, (pEq (.slice none 0 0)))]) ⟨rfl, rfl, trivial⟩ ?_
    refine Tr.seq ?_
    refine Tr.seq ?_
    refine Tr.region ?_
    refine RegL.pure (p := (pSl 1 (cSl 1 (cK .i64)) rows_0)) rfl rfl rfl (J_move rfl (Opd.tmp rfl)) ?_
    refine RegL.pure (p := (pEq (.int .i64 (rows_0.length : Int)))) rfl rfl rfl (J_len rfl Try.underlying68 (Opd.tmp rfl) rfl) ?_
    refine RegL.pure (p := (pEq (.int .i64 (0 : Int)))) rfl rfl rfl (J_move rfl Opd.con) ?_
    refine RegL.nil ?_
    refine Ct.then_tr ?_
    refine Tr.weak (Γ' := [(4, (pEq (.slice none 0 0))), (10, (pSl 1 (cSl 1 (cK .i64)) rows_0)), (11, (pEq (.int .i64 (rows_0.length : Int)))), (12, (pEq (.int .i64 (0 : Int))))]) ⟨rfl, rfl, rfl, rfl, trivial⟩ ?_
    refine Tr.re (Ω2 := [oSl 2 1 (cK .i64) none 0 0 ([] : (List Int))]) (fun h => SatO.nilRow h) ?_
    replace h := bind_some h; obtain ⟨x4, hx4, h⟩ := h
    refine Tr.cut (γ := G3) (Γm := fun g => [(4, (pEq (.slice g.1 g.2.1 g.2.2)))]) (Ωm := fun g => [oSl 2 1 (cK .i64) g.1 g.2.1 g.2.2 x4]) ?_ (fun g13 => ?_)
    · clear h
      have h := hx4
      clear hx4
      refine Tr.block ?_
      refine Tr.weak (Γ' := [(4, (pEq (.slice none 0 0))), (10, (pSl 1 (cSl 1 (cK .i64)) rows_0)), (11, (pEq (.int .i64 (rows_0.length : Int)))), (12, (pEq (.int .i64 (0 : Int))))]) ⟨rfl, rfl, rfl, rfl, trivial⟩ ?_
      refine Tr.loop (γ := G3) (σ := (Int × (List Int))) (Γσ := fun s g => [(4, (pEq (.slice g.1 g.2.1 g.2.2))), (10, (pSl 1 (cSl 1 (cK .i64)) rows_0)), (11, (pEq (.int .i64 (rows_0.length : Int)))), (12, (pEq (.int .i64 s.1)))]) (Ωσ := fun s g => [oSl 2 1 (cK .i64) g.1 g.2.1 g.2.2 s.2]) (g := (none, 0, 0)) h ?_
      clear h
      rintro ⟨v6, v7⟩ g8 t h
      replace h : m_impl_ServersOf_B5 rows_0 v6 v7 = some t := h
      unfold m_impl_ServersOf_B5 at h
      refine Tr.weakO (Γ' := [(4, (pEq (.slice g8.1 g8.2.1 g8.2.2))), (10, (pSl 1 (cSl 1 (cK .i64)) rows_0)), (11, (pEq (.int .i64 (rows_0.length : Int)))), (12, (pEq (.int .i64 v6)))]) (Ω' := [oSl 2 1 (cK .i64) g8.1 g8.2.1 g8.2.2 v7]) rfl ⟨rfl, rfl, rfl, rfl, trivial⟩ ?_
      refine Tr.seq ?_
      refine Tr.region ?_
      refine RegL.pure (p := (pEq (.bool (decide (v6 < (rows_0.length : Int)))))) rfl rfl rfl (J_bin rfl (Opd.tmp rfl) (Opd.tmp rfl) B_lss) ?_
      refine RegL.nil ?_
      refine Ct.then_tr ?_
      refine Tr.weak (Γ' := [(4, (pEq (.slice g8.1 g8.2.1 g8.2.2))), (10, (pSl 1 (cSl 1 (cK .i64)) rows_0)), (11, (pEq (.int .i64 (rows_0.length : Int)))), (12, (pEq (.int .i64 v6))), (13, (pEq (.bool (decide (v6 < (rows_0.length : Int))))))]) ⟨rfl, rfl, rfl, rfl, rfl, trivial⟩ ?_
      refine Tr.seq ?_
      refine Tr.cond (Opd.tmp rfl) (fun hc => ?_) (fun hc => ?_)
      · replace h := bif_t hc h
        refine Tr.skip ?_
        refine Ct.then_tr ?_
        refine Tr.weak (Γ' := [(4, (pEq (.slice g8.1 g8.2.1 g8.2.2))), (10, (pSl 1 (cSl 1 (cK .i64)) rows_0)), (11, (pEq (.int .i64 (rows_0.length : Int)))), (12, (pEq (.int .i64 v6)))]) ⟨rfl, rfl, rfl, rfl, trivial⟩ ?_
        refine Tr.seq ?_
        refine Tr.block ?_
        refine Tr.seq ?_
        refine Tr.region ?_
        replace h := bind_some h; obtain ⟨x9, hx9, h⟩ := h
        refine RegL.pure (p := (pPtr ((cSl 1 (cK .i64)) x9))) rfl rfl rfl (J_idx rfl Try.underlying68 sz22 (Opd.tmp rfl) (Opd.tmp rfl) hx9) ?_
        refine RegL.pure (p := (pSl 1 (cK .i64) x9)) rfl rfl rfl (J_load rfl Try.isAgg22 (Opd.tmp rfl)) ?_
        refine RegL.pure (p := (pSl 1 (cK .i64) x9)) rfl rfl rfl (J_assign rfl (Opd.tmp rfl)) ?_
        refine RegL.nil ?_
        refine Ct.then_tr ?_
        refine Tr.weak (Γ' := [(4, (pEq (.slice g8.1 g8.2.1 g8.2.2))), (6, (pSl 1 (cK .i64) x9)), (10, (pSl 1 (cSl 1 (cK .i64)) rows_0)), (11, (pEq (.int .i64 (rows_0.length : Int)))), (12, (pEq (.int .i64 v6)))]) ⟨rfl, rfl, rfl, rfl, rfl, trivial⟩ ?_
        refine Tr.region ?_
        refine RegL.pure (p := (pEq (.slice g8.1 g8.2.1 g8.2.2))) rfl rfl rfl (J_move rfl (Opd.tmp rfl)) ?_
        refine RegL.pure (p := (pSl 1 (cK .i64) x9)) rfl rfl rfl (J_move rfl (Opd.tmp rfl)) ?_
        replace h := bind_some h; obtain ⟨x10, hx10, h⟩ := h
        refine RegL.pure (p := (pEq (.int .i64 x10))) rfl rfl rfl (J_call rfl Try.call88 (c_impl_serverOf hx10) (Opds.cons (Opd.tmp rfl) Opds.nil)) ?_
        refine RegL.pure (p := (pSl 1 (cK .i64) ([x10] : (List Int)))) rfl rfl rfl (J_buildSlice (l := ([x10] : (List Int))) (qss := [(0, (cK .i64) x10)]) rfl Try.underlying22 el2 rfl (Parts.cons (Part.one (Opd.tmp rfl) OneC.int) Parts.nil) rfl rfl) ?_
        replace h := bind_some h; obtain ⟨x11, hx11, h⟩ := h
        refine RegL.step (γ := Option Addr × Nat) (p := fun g => pEq (.slice g.1 x11.length g.2)) (Ω' := fun g => [oSl 2 1 (cK .i64) g.1 x11.length g.2 x11]) rfl rfl rfl (M_appendI rfl Try.underlying22 el2 (Opd.tmp rfl) (Opd.tmp rfl) hx11) fun g12 => ?_
        refine RegL.pure (p := (pEq (.slice g12.1 x11.length g12.2))) rfl rfl rfl (J_assign rfl (Opd.tmp rfl)) ?_
        refine RegL.nil ?_
        refine Ct.blk_normal ?_
        refine Ct.then_tr ?_
        refine Tr.weak (Γ' := [(4, (pEq (.slice g12.1 x11.length g12.2))), (10, (pSl 1 (cSl 1 (cK .i64)) rows_0)), (11, (pEq (.int .i64 (rows_0.length : Int)))), (12, (pEq (.int .i64 v6)))]) ⟨rfl, rfl, rfl, rfl, trivial⟩ ?_
        refine Tr.region ?_
        refine RegL.pure (p := (pEq (.int .i64 (w64 (v6 + (1 : Int)))))) rfl rfl rfl (J_bin rfl (Opd.tmp rfl) Opd.con B_add) ?_
        refine RegL.pure (p := (pEq (.int .i64 (w64 (v6 + (1 : Int)))))) rfl rfl rfl (J_move rfl (Opd.tmp rfl)) ?_
        refine RegL.nil ?_
        replace h := Option.some.inj h; subst h
        exact Ct.again (g12.1, x11.length, g12.2) rfl ⟨rfl, rfl, rfl, rfl, trivial⟩
      · replace h := bif_f hc h
        refine Tr.exit ?_
        refine Ct.then_exit ?_
        replace h := map_some h; obtain ⟨r1, h, rfl⟩ := h
        refine Ct.out_exit fun e => ?_
        subst e
        refine Ct.blk_exit ?_
        replace h := Option.some.inj h; subst h
        exact Ct.mid (g8.1, g8.2.1, g8.2.2) rfl ⟨rfl, trivial⟩
    · clear hx4
      refine Ct.then_tr ?_
      refine Tr.weak (Γ' := [(4, (pEq (.slice g13.1 g13.2.1 g13.2.2)))]) ⟨rfl, trivial⟩ ?_
      refine Tr.seq ?_
      refine Tr.region ?_
      refine RegL.pure (p := (pEq (.slice g13.1 g13.2.1 g13.2.2))) rfl rfl rfl (J_move rfl (Opd.tmp rfl)) ?_
      refine RegL.pure (p := (pEq (.slice g13.1 g13.2.1 g13.2.2))) rfl rfl rfl (J_assign rfl (Opd.tmp rfl)) ?_
      refine RegL.pure (p := (pEq (.int .i64 (0 : Int)))) rfl rfl rfl (J_assign rfl Opd.con) ?_
      refine RegL.nil ?_
      refine Ct.then_tr ?_
      refine Tr.weak (Γ' := [(2, (pEq (.slice g13.1 g13.2.1 g13.2.2))), (3, (pEq (.int .i64 (0 : Int))))]) ⟨rfl, rfl, trivial⟩ ?_
      refine Tr.ret ?_
      replace h := Option.some.inj h; subst h
      exact Ct.retH2 (Ωx := []) (g13.1, g13.2.1, g13.2.2) rfl (RvOk.tmp rfl) (RvOk.tmp rfl) rfl rfl

theorem c_impl_ServersOf {rows_0 : (List (List Int))} {r : ((List Int) × Int)} (h : m_impl_ServersOf rows_0 = some r) : CallJ Try.prog 53 [(pSl 1 (cSl 1 (cK .i64)) rows_0)] (pTup [(pSl 1 (cK .i64) r.1), (pEq (.int .i64 r.2))]) :=
  CallH.frozen (o_impl_ServersOf h) (fun g => (Conv.tup (Convs.cons (Conv.row 0 (fun _ => rfl) rfl) (Convs.cons Conv.refl Convs.nil))))

theorem c_laws_eqInt64S {a_0 : (List Int)} {b_1 : (List Int)} {r : Bool} (h : m_laws_eqInt64S a_0 b_1 = some r) : CallJ Try.prog 18 [(pSl 1 (cK .i64) a_0), (pSl 1 (cK .i64) b_1)] (pEq (.bool r)) := by
  unfold m_laws_eqInt64S at h
  refine CallJ.enterH Try.func18 rfl Try.ntmps18 rfl fun W I0 H => ?_
  refine Tr.weak (Γ' := [(0, (pSl 1 (cK .i64) a_0)), (1, (pSl 1 (cK .i64) b_1))]) ⟨rfl, rfl, trivial⟩ ?_
  refine Tr.seq ?_
  refine Tr.region ?_
  refine RegL.pure (p := (pEq (.bool false))) rfl rfl rfl (J_assign rfl Opd.con) ?_
  refine RegL.nil ?_
  refine Ct.then_tr ?_
  refine Tr.weak (Γ' := [(0, (pSl 1 (cK .i64) a_0)), (1, (pSl 1 (cK .i64) b_1))]) ⟨rfl, rfl, trivial⟩ ?_
  refine Tr.seq ?_
  refine Tr.seq ?_
  refine Tr.region ?_
  refine RegL.pure (p := (pSl 1 (cK .i64) a_0)) rfl rfl rfl (J_move rfl (Opd.tmp rfl)) ?_
  refine RegL.pure (p := (pEq (.int .i64 (a_0.length : Int)))) rfl rfl rfl (J_len rfl Try.underlying22 (Opd.tmp rfl) rfl) ?_
  refine RegL.pure (p := (pSl 1 (cK .i64) b_1)) rfl rfl rfl (J_move rfl (Opd.tmp rfl)) ?_
  refine RegL.pure (p := (pEq (.int .i64 (b_1.length : Int)))) rfl rfl rfl (J_len rfl Try.underlying22 (Opd.tmp rfl) rfl) ?_
  refine RegL.pure (p := (pEq (.bool ((a_0.length : Int) != (b_1.length : Int))))) rfl rfl rfl (J_bin rfl (Opd.tmp rfl) (Opd.tmp rfl) B_neq) ?_
  refine RegL.nil ?_
  refine Ct.then_tr ?_
  refine Tr.weak (Γ' := [(0, (pSl 1 (cK .i64) a_0)), (1, (pSl 1 (cK .i64) b_1)), (10, (pEq (.bool ((a_0.length : Int) != (b_1.length : Int)))))]) ⟨rfl, rfl, rfl, trivial⟩ ?_
  refine Tr.cond (Opd.tmp rfl) (fun hc => ?_) (fun hc => ?_)
  · replace h := bif_t hc h
    refine Tr.seq ?_
    refine Tr.region ?_
    refine RegL.pure (p := (pEq (.bool false))) rfl rfl rfl (J_assign rfl Opd.con) ?_
    refine RegL.nil ?_
    refine Ct.then_tr ?_
    refine Tr.weak (Γ' := [(4, (pEq (.bool false)))]) ⟨rfl, trivial⟩ ?_
    refine Tr.ret ?_
    refine Ct.then_ret ?_
    replace h := Option.some.inj h; subst h
    exact Ct.retH1 (Ωx := []) () rfl (RvOk.tmp rfl) rfl
  · replace h := bif_f hc h
    refine Tr.skip ?_
    refine Ct.then_tr ?_
    refine Tr.weak (Γ' := [(0, (pSl 1 (cK .i64) a_0)), (1, (pSl 1 (cK .i64) b_1))]) ⟨rfl, rfl, trivial⟩ ?_
    refine Tr.seq ?_
    refine Tr.seq ?_
    refine Tr.region ?_
    refine RegL.pure (p := (pEq (.int .i64 (0 : Int)))) rfl rfl rfl (J_assign rfl Opd.con) ?_
    refine RegL.nil ?_
    refine Ct.then_tr ?_
    refine Tr.weak (Γ' := [(0, (pSl 1 (cK .i64) a_0)), (1, (pSl 1 (cK .i64) b_1)), (5, (pEq (.int .i64 (0 : Int))))]) ⟨rfl, rfl, rfl, trivial⟩ ?_
    refine Tr.block ?_
    refine Tr.weak (Γ' := [(0, (pSl 1 (cK .i64) a_0)), (1, (pSl 1 (cK .i64) b_1)), (5, (pEq (.int .i64 (0 : Int))))]) ⟨rfl, rfl, rfl, trivial⟩ ?_
    refine Tr.loop (γ := Unit) (σ := Int) (Γσ := fun s g => [(0, (pSl 1 (cK .i64) a_0)), (1, (pSl 1 (cK .i64) b_1)), (5, (pEq (.int .i64 s)))]) (Ωσ := fun s g => []) (g := ()) h ?_
    clear h
    rintro v2 g3 t h
    replace h : m_laws_eqInt64S_B1 a_0 b_1 v2 = some t := h
    unfold m_laws_eqInt64S_B1 at h
    refine Tr.weakO (Γ' := [(0, (pSl 1 (cK .i64) a_0)), (1, (pSl 1 (cK .i64) b_1)), (5, (pEq (.int .i64 v2)))]) (Ω' := []) rfl ⟨rfl, rfl, rfl, trivial⟩ ?_
    refine Tr.seq ?_
    refine Tr.seq ?_
    refine Tr.region ?_
    refine RegL.pure (p := (pEq (.int .i64 v2))) rfl rfl rfl (J_move rfl (Opd.tmp rfl)) ?_
    refine RegL.pure (p := (pSl 1 (cK .i64) a_0)) rfl rfl rfl (J_move rfl (Opd.tmp rfl)) ?_
    refine RegL.pure (p := (pEq (.int .i64 (a_0.length : Int)))) rfl rfl rfl (J_len rfl Try.underlying22 (Opd.tmp rfl) rfl) ?_
    refine RegL.pure (p := (pEq (.bool (decide (v2 < (a_0.length : Int)))))) rfl rfl rfl (J_bin rfl (Opd.tmp rfl) (Opd.tmp rfl) B_lss) ?_
    refine RegL.nil ?_
    refine Ct.then_tr ?_
    refine Tr.weak (Γ' := [(0, (pSl 1 (cK .i64) a_0)), (1, (pSl 1 (cK .i64) b_1)), (5, (pEq (.int .i64 v2))), (14, (pEq (.bool (decide (v2 < (a_0.length : Int))))))]) ⟨rfl, rfl, rfl, rfl, trivial⟩ ?_
    refine Tr.cond (Opd.tmp rfl) (fun hc => ?_) (fun hc => ?_)
    · replace h := bif_t hc h
      refine Tr.skip ?_
      refine Ct.then_tr ?_
      refine Tr.weak (Γ' := [(0, (pSl 1 (cK .i64) a_0)), (1, (pSl 1 (cK .i64) b_1)), (5, (pEq (.int .i64 v2)))]) ⟨rfl, rfl, rfl, trivial⟩ ?_
      refine Tr.seq ?_
      refine Tr.block ?_
      refine Tr.seq ?_
      replace h := bind_some h; obtain ⟨x4, hx4, h⟩ := h
      replace h := bind_some h; obtain ⟨x5, hx5, h⟩ := h
      refine Tr.drawD (n := 26) (m := 9) (es := [some (Ent.mk [(0, (pSl 1 (cK .i64) a_0))] (pSl 1 (cK .i64) a_0) true), some (Ent.mk [(5, (pEq (.int .i64 v2)))] (pEq (.int .i64 v2)) true), some (Ent.mk [(17, (pSl 1 (cK .i64) a_0)), (18, (pEq (.int .i64 v2)))] (pPtr ((cK .i64) x4)) true), some (Ent.mk [(19, (pPtr ((cK .i64) x4)))] (pEq (.int .i64 x4)) true), some (Ent.mk [(1, (pSl 1 (cK .i64) b_1))] (pSl 1 (cK .i64) b_1) true), some (Ent.mk [(5, (pEq (.int .i64 v2)))] (pEq (.int .i64 v2)) true), some (Ent.mk [(21, (pSl 1 (cK .i64) b_1)), (22, (pEq (.int .i64 v2)))] (pPtr ((cK .i64) x5)) true), some (Ent.mk [(23, (pPtr ((cK .i64) x5)))] (pEq (.int .i64 x5)) true), some (Ent.mk [(20, (pEq (.int .i64 x4))), (24, (pEq (.int .i64 x5)))] (pEq (.bool (x4 != x5))) true)]) (rd := [[0], [5], [17, 18], [19], [1], [5], [21, 22], [23], [20, 24]]) rfl hmix (by kernel_rfl) fun hD => ?_
      refine RD.fin (es := [Ent.mk [(0, (pSl 1 (cK .i64) a_0))] (pSl 1 (cK .i64) a_0) true, Ent.mk [(5, (pEq (.int .i64 v2)))] (pEq (.int .i64 v2)) true, Ent.mk [(17, (pSl 1 (cK .i64) a_0)), (18, (pEq (.int .i64 v2)))] (pPtr ((cK .i64) x4)) true, Ent.mk [(19, (pPtr ((cK .i64) x4)))] (pEq (.int .i64 x4)) true, Ent.mk [(1, (pSl 1 (cK .i64) b_1))] (pSl 1 (cK .i64) b_1) true, Ent.mk [(5, (pEq (.int .i64 v2)))] (pEq (.int .i64 v2)) true, Ent.mk [(21, (pSl 1 (cK .i64) b_1)), (22, (pEq (.int .i64 v2)))] (pPtr ((cK .i64) x5)) true, Ent.mk [(23, (pPtr ((cK .i64) x5)))] (pEq (.int .i64 x5)) true, Ent.mk [(20, (pEq (.int .i64 x4))), (24, (pEq (.int .i64 x5)))] (pEq (.bool (x4 != x5))) true]) (done := []) hD ⟨.inr ⟨(OpJ.w (J_move rfl (Opd.tmp rfl))), ⟨rfl, trivial⟩, rfl, rfl⟩, ⟨.inr ⟨(OpJ.w (J_move rfl (Opd.tmp rfl))), ⟨rfl, trivial⟩, rfl, rfl⟩, ⟨.inr ⟨(OpJ.w (J_idx rfl Try.underlying22 sz2 (Opd.tmp rfl) (Opd.tmp rfl) hx4)), ⟨rfl, rfl, trivial⟩, rfl, rfl⟩, ⟨.inr ⟨(OpJ.w (J_load rfl Try.isAgg2 (Opd.tmp rfl))), ⟨rfl, trivial⟩, rfl, rfl⟩, ⟨.inr ⟨(OpJ.w (J_move rfl (Opd.tmp rfl))), ⟨rfl, trivial⟩, rfl, rfl⟩, ⟨.inr ⟨(OpJ.w (J_move rfl (Opd.tmp rfl))), ⟨rfl, trivial⟩, rfl, rfl⟩, ⟨.inr ⟨(OpJ.w (J_idx rfl Try.underlying22 sz2 (Opd.tmp rfl) (Opd.tmp rfl) hx5)), ⟨rfl, rfl, trivial⟩, rfl, rfl⟩, ⟨.inr ⟨(OpJ.w (J_load rfl Try.isAgg2 (Opd.tmp rfl))), ⟨rfl, trivial⟩, rfl, rfl⟩, ⟨.inr ⟨(OpJ.w (J_bin rfl (Opd.tmp rfl) (Opd.tmp rfl) B_neq)), ⟨rfl, rfl, trivial⟩, rfl, rfl⟩, trivial⟩⟩⟩⟩⟩⟩⟩⟩⟩ ?_
      refine RegL.nil ?_
      refine Ct.then_tr ?_
      refine Tr.weak (Γ' := [(0, (pSl 1 (cK .i64) a_0)), (1, (pSl 1 (cK .i64) b_1)), (5, (pEq (.int .i64 v2))), (25, (pEq (.bool (x4 != x5))))]) ⟨rfl, rfl, rfl, rfl, trivial⟩ ?_
      refine Tr.cond (Opd.tmp rfl) (fun hc => ?_) (fun hc => ?_)
      · replace h := bif_t hc h
        refine Tr.seq ?_
        refine Tr.region ?_
        refine RegL.pure (p := (pEq (.bool false))) rfl rfl rfl (J_assign rfl Opd.con) ?_
        refine RegL.nil ?_
        refine Ct.then_tr ?_
        refine Tr.weak (Γ' := [(4, (pEq (.bool false)))]) ⟨rfl, trivial⟩ ?_
        refine Tr.ret ?_
        refine Ct.blk_ret ?_
        refine Ct.then_ret ?_
        replace h := map_some h; obtain ⟨r1, h, rfl⟩ := h
        refine Ct.out_ret fun e => ?_
        subst e
        refine Ct.blk_ret ?_
        refine Ct.then_ret ?_
        replace h := Option.some.inj h; subst h
        exact Ct.retH1 (Ωx := []) () rfl (RvOk.tmp rfl) rfl
      · replace h := bif_f hc h
        refine Tr.skip ?_
        refine Ct.blk_normal ?_
        refine Ct.then_tr ?_
        refine Tr.weak (Γ' := [(0, (pSl 1 (cK .i64) a_0)), (1, (pSl 1 (cK .i64) b_1)), (5, (pEq (.int .i64 v2)))]) ⟨rfl, rfl, rfl, trivial⟩ ?_
        refine Tr.region ?_
        refine RegL.pure (p := (pEq (.int .i64 v2))) rfl rfl rfl (J_move rfl (Opd.tmp rfl)) ?_
        refine RegL.pure (p := (pEq (.int .i64 (w64 (v2 + (1 : Int)))))) rfl rfl rfl (J_bin rfl (Opd.tmp rfl) Opd.con B_add) ?_
        refine RegL.pure (p := (pEq (.int .i64 (w64 (v2 + (1 : Int)))))) rfl rfl rfl (J_assign rfl (Opd.tmp rfl)) ?_
        refine RegL.nil ?_
        replace h := Option.some.inj h; subst h
        exact Ct.again () rfl ⟨rfl, rfl, rfl, trivial⟩
    · replace h := bif_f hc h
      refine Tr.exit ?_
      refine Ct.then_exit ?_
      replace h := map_some h; obtain ⟨r1, h, rfl⟩ := h
      refine Ct.out_exit fun e => ?_
      subst e
      refine Ct.blk_exit ?_
      refine Ct.then_tr ?_
      refine Tr.weak (Γ' := []) trivial ?_
      refine Tr.seq ?_
      refine Tr.region ?_
      refine RegL.pure (p := (pEq (.bool true))) rfl rfl rfl (J_assign rfl Opd.con) ?_
      refine RegL.nil ?_
      refine Ct.then_tr ?_
      refine Tr.weak (Γ' := [(4, (pEq (.bool true)))]) ⟨rfl, trivial⟩ ?_
      refine Tr.ret ?_
      replace h := Option.some.inj h; subst h
      exact Ct.retH1 (Ωx := []) () rfl (RvOk.tmp rfl) rfl

theorem c_laws_eqInt64SS {a_0 : (List (List Int))} {b_1 : (List (List Int))} {r : Bool} (h : m_laws_eqInt64SS a_0 b_1 = some r) : CallJ Try.prog 51 [(pSl 1 (cSl 1 (cK .i64)) a_0), (pSl 1 (cSl 1 (cK .i64)) b_1)] (pEq (.bool r)) := by
  unfold m_laws_eqInt64SS at h
  refine CallJ.enterH Try.func51 rfl Try.ntmps51 rfl fun W I0 H => ?_
  refine Tr.weak (Γ' := [(0, (pSl 1 (cSl 1 (cK .i64)) a_0)), (1, (pSl 1 (cSl 1 (cK .i64)) b_1))]) ⟨rfl, rfl, trivial⟩ ?_
  refine Tr.seq ?_
  refine Tr.region ?_
  refine RegL.pure (p := (pEq (.bool false))) rfl rfl rfl (J_assign rfl Opd.con) ?_
  refine RegL.nil ?_
  refine Ct.then_tr ?_
  refine Tr.weak (Γ' := [(0, (pSl 1 (cSl 1 (cK .i64)) a_0)), (1, (pSl 1 (cSl 1 (cK .i64)) b_1))]) ⟨rfl, rfl, trivial⟩ ?_
  refine Tr.seq ?_
  refine Tr.seq ?_
  refine Tr.region ?_
  refine RegL.pure (p := (pSl 1 (cSl 1 (cK .i64)) a_0)) rfl rfl rfl (J_move rfl (Opd.tmp rfl)) ?_
  refine RegL.pure (p := (pEq (.int .i64 (a_0.length : Int)))) rfl rfl rfl (J_len rfl Try.underlying68 (Opd.tmp rfl) rfl) ?_
  refine RegL.pure (p := (pSl 1 (cSl 1 (cK .i64)) b_1)) rfl rfl rfl (J_move rfl (Opd.tmp rfl)) ?_
  refine RegL.pure (p := (pEq (.int .i64 (b_1.length : Int)))) rfl rfl rfl (J_len rfl Try.underlying68 (Opd.tmp rfl) rfl) ?_
  refine RegL.pure (p := (pEq (.bool ((a_0.length : Int) != (b_1.length : Int))))) rfl rfl rfl (J_bin rfl (Opd.tmp rfl) (Opd.tmp rfl) B_neq) ?_
  refine RegL.nil ?_
  refine Ct.then_tr ?_
  refine Tr.weak (Γ' := [(0, (pSl 1 (cSl 1 (cK .i64)) a_0)), (1, (pSl 1 (cSl 1 (cK .i64)) b_1)), (10, (pEq (.bool ((a_0.length : Int) != (b_1.length : Int)))))]) ⟨rfl, rfl, rfl, trivial⟩ ?_
  refine Tr.cond (Opd.tmp rfl) (fun hc => ?_) (fun hc => ?_)
  · replace h := bif_t hc h
    refine Tr.seq ?_
    refine Tr.region ?_
    refine RegL.pure (p := (pEq (.bool false))) rfl rfl rfl (J_assign rfl Opd.con) ?_
    refine RegL.nil ?_
    refine Ct.then_tr ?_
    refine Tr.weak (Γ' := [(4, (pEq (.bool false)))]) ⟨rfl, trivial⟩ ?_
    refine Tr.ret ?_
    refine Ct.then_ret ?_
    replace h := Option.some.inj h; subst h
    exact Ct.retH1 (Ωx := []) () rfl (RvOk.tmp rfl) rfl
  · replace h := bif_f hc h
    refine Tr.skip ?_
    refine Ct.then_tr ?_
    refine Tr.weak (Γ' := [(0, (pSl 1 (cSl 1 (cK .i64)) a_0)), (1, (pSl 1 (cSl 1 (cK .i64)) b_1))]) ⟨rfl, rfl, trivial⟩ ?_
    refine Tr.seq ?_
    refine Tr.seq ?_
    refine Tr.region ?_
    refine RegL.pure (p := (pEq (.int .i64 (0 : Int)))) rfl rfl rfl (J_assign rfl Opd.con) ?_
    refine RegL.nil ?_
    refine Ct.then_tr ?_
    refine Tr.weak (Γ' := [(0, (pSl 1 (cSl 1 (cK .i64)) a_0)), (1, (pSl 1 (cSl 1 (cK .i64)) b_1)), (5, (pEq (.int .i64 (0 : Int))))]) ⟨rfl, rfl, rfl, trivial⟩ ?_
    refine Tr.block ?_
    refine Tr.weak (Γ' := [(0, (pSl 1 (cSl 1 (cK .i64)) a_0)), (1, (pSl 1 (cSl 1 (cK .i64)) b_1)), (5, (pEq (.int .i64 (0 : Int))))]) ⟨rfl, rfl, rfl, trivial⟩ ?_
    refine Tr.loop (γ := Unit) (σ := Int) (Γσ := fun s g => [(0, (pSl 1 (cSl 1 (cK .i64)) a_0)), (1, (pSl 1 (cSl 1 (cK .i64)) b_1)), (5, (pEq (.int .i64 s)))]) (Ωσ := fun s g => []) (g := ()) h ?_
    clear h
    rintro v2 g3 t h
    replace h : m_laws_eqInt64SS_B1 a_0 b_1 v2 = some t := h
    unfold m_laws_eqInt64SS_B1 at h
    refine Tr.weakO (Γ' := [(0, (pSl 1 (cSl 1 (cK .i64)) a_0)), (1, (pSl 1 (cSl 1 (cK .i64)) b_1)), (5, (pEq (.int .i64 v2)))]) (Ω' := []) rfl ⟨rfl, rfl, rfl, trivial⟩ ?_
    refine Tr.seq ?_
    refine Tr.seq ?_
    refine Tr.region ?_
    refine RegL.pure (p := (pEq (.int .i64 v2))) rfl rfl rfl (J_move rfl (Opd.tmp rfl)) ?_
    refine RegL.pure (p := (pSl 1 (cSl 1 (cK .i64)) a_0)) rfl rfl rfl (J_move rfl (Opd.tmp rfl)) ?_
    refine RegL.pure (p := (pEq (.int .i64 (a_0.length : Int)))) rfl rfl rfl (J_len rfl Try.underlying68 (Opd.tmp rfl) rfl) ?_
    refine RegL.pure (p := (pEq (.bool (decide (v2 < (a_0.length : Int)))))) rfl rfl rfl (J_bin rfl (Opd.tmp rfl) (Opd.tmp rfl) B_lss) ?_
    refine RegL.nil ?_
    refine Ct.then_tr ?_
    refine Tr.weak (Γ' := [(0, (pSl 1 (cSl 1 (cK .i64)) a_0)), (1, (pSl 1 (cSl 1 (cK .i64)) b_1)), (5, (pEq (.int .i64 v2))), (14, (pEq (.bool (decide (v2 < (a_0.length : Int))))))]) ⟨rfl, rfl, rfl, rfl, trivial⟩ ?_
    refine Tr.cond (Opd.tmp rfl) (fun hc => ?_) (fun hc => ?_)
    · replace h := bif_t hc h
      refine Tr.skip ?_
      refine Ct.then_tr ?_
      refine Tr.weak (Γ' := [(0, (pSl 1 (cSl 1 (cK .i64)) a_0)), (1, (pSl 1 (cSl 1 (cK .i64)) b_1)), (5, (pEq (.int .i64 v2)))]) ⟨rfl, rfl, rfl, trivial⟩ ?_
      refine Tr.seq ?_
      refine Tr.block ?_
      refine Tr.seq ?_
      replace h := bind_some h; obtain ⟨x4, hx4, h⟩ := h
      replace h := bind_some h; obtain ⟨x5, hx5, h⟩ := h
      replace h := bind_some h; obtain ⟨x6, hx6, h⟩ := h
      refine Tr.drawD (n := 27) (m := 10) (es := [some (Ent.mk [(0, (pSl 1 (cSl 1 (cK .i64)) a_0))] (pSl 1 (cSl 1 (cK .i64)) a_0) true), some (Ent.mk [(5, (pEq (.int .i64 v2)))] (pEq (.int .i64 v2)) true), some (Ent.mk [(17, (pSl 1 (cSl 1 (cK .i64)) a_0)), (18, (pEq (.int .i64 v2)))] (pPtr ((cSl 1 (cK .i64)) x4)) true), some (Ent.mk [(19, (pPtr ((cSl 1 (cK .i64)) x4)))] (pSl 1 (cK .i64) x4) true), some (Ent.mk [(1, (pSl 1 (cSl 1 (cK .i64)) b_1))] (pSl 1 (cSl 1 (cK .i64)) b_1) true), some (Ent.mk [(5, (pEq (.int .i64 v2)))] (pEq (.int .i64 v2)) true), some (Ent.mk [(21, (pSl 1 (cSl 1 (cK .i64)) b_1)), (22, (pEq (.int .i64 v2)))] (pPtr ((cSl 1 (cK .i64)) x5)) true), some (Ent.mk [(23, (pPtr ((cSl 1 (cK .i64)) x5)))] (pSl 1 (cK .i64) x5) true), some (Ent.mk [(20, (pSl 1 (cK .i64) x4)), (24, (pSl 1 (cK .i64) x5))] (pEq (.bool x6)) true), some (Ent.mk [(25, (pEq (.bool x6)))] (pEq (.bool (!x6))) true)]) (rd := [[0], [5], [17, 18], [19], [1], [5], [21, 22], [23], [20, 24], [25]]) rfl hmix (by kernel_rfl) fun hD => ?_
      refine RD.fin (es := [Ent.mk [(0, (pSl 1 (cSl 1 (cK .i64)) a_0))] (pSl 1 (cSl 1 (cK .i64)) a_0) true, Ent.mk [(5, (pEq (.int .i64 v2)))] (pEq (.int .i64 v2)) true, Ent.mk [(17, (pSl 1 (cSl 1 (cK .i64)) a_0)), (18, (pEq (.int .i64 v2)))] (pPtr ((cSl 1 (cK .i64)) x4)) true, Ent.mk [(19, (pPtr ((cSl 1 (cK .i64)) x4)))] (pSl 1 (cK .i64) x4) true, Ent.mk [(1, (pSl 1 (cSl 1 (cK .i64)) b_1))] (pSl 1 (cSl 1 (cK .i64)) b_1) true, Ent.mk [(5, (pEq (.int .i64 v2)))] (pEq (.int .i64 v2)) true, Ent.mk [(21, (pSl 1 (cSl 1 (cK .i64)) b_1)), (22, (pEq (.int .i64 v2)))] (pPtr ((cSl 1 (cK .i64)) x5)) true, Ent.mk [(23, (pPtr ((cSl 1 (cK .i64)) x5)))] (pSl 1 (cK .i64) x5) true, Ent.mk [(20, (pSl 1 (cK .i64) x4)), (24, (pSl 1 (cK .i64) x5))] (pEq (.bool x6)) true, Ent.mk [(25, (pEq (.bool x6)))] (pEq (.bool (!x6))) true]) (done := []) hD ⟨.inr ⟨(OpJ.w (J_move rfl (Opd.tmp rfl))), ⟨rfl, trivial⟩, rfl, rfl⟩, ⟨.inr ⟨(OpJ.w (J_move rfl (Opd.tmp rfl))), ⟨rfl, trivial⟩, rfl, rfl⟩, ⟨.inr ⟨(OpJ.w (J_idx rfl Try.underlying68 sz22 (Opd.tmp rfl) (Opd.tmp rfl) hx4)), ⟨rfl, rfl, trivial⟩, rfl, rfl⟩, ⟨.inr ⟨(OpJ.w (J_load rfl Try.isAgg22 (Opd.tmp rfl))), ⟨rfl, trivial⟩, rfl, rfl⟩, ⟨.inr ⟨(OpJ.w (J_move rfl (Opd.tmp rfl))), ⟨rfl, trivial⟩, rfl, rfl⟩, ⟨.inr ⟨(OpJ.w (J_move rfl (Opd.tmp rfl))), ⟨rfl, trivial⟩, rfl, rfl⟩, ⟨.inr ⟨(OpJ.w (J_idx rfl Try.underlying68 sz22 (Opd.tmp rfl) (Opd.tmp rfl) hx5)), ⟨rfl, rfl, trivial⟩, rfl, rfl⟩, ⟨.inr ⟨(OpJ.w (J_load rfl Try.isAgg22 (Opd.tmp rfl))), ⟨rfl, trivial⟩, rfl, rfl⟩, ⟨.inr ⟨(OpJ.w (J_call rfl Try.call18 (c_laws_eqInt64S hx6) (Opds.cons (Opd.tmp rfl) (Opds.cons (Opd.tmp rfl) Opds.nil)))), ⟨rfl, rfl, trivial⟩, rfl, rfl⟩, ⟨.inr ⟨(OpJ.w (J_not rfl (Opd.tmp rfl))), ⟨rfl, trivial⟩, rfl, rfl⟩, trivial⟩⟩⟩⟩⟩⟩⟩⟩⟩⟩ ?_
      refine RegL.nil ?_
      refine Ct.then_tr ?_
      refine Tr.weak (Γ' := [(0, (pSl 1 (cSl 1 (cK .i64)) a_0)), (1, (pSl 1 (cSl 1 (cK .i64)) b_1)), (5, (pEq (.int .i64 v2))), (26, (pEq (.bool (!x6))))]) ⟨rfl, rfl, rfl, rfl, trivial⟩ ?_
      refine Tr.cond (Opd.tmp rfl) (fun hc => ?_) (fun hc => ?_)
      · replace h := bif_t hc h
        refine Tr.seq ?_
        refine Tr.region ?_
        refine RegL.pure (p := (pEq (.bool false))) rfl rfl rfl (J_assign rfl Opd.con) ?_
        refine RegL.nil ?_
        refine Ct.then_tr ?_
        refine Tr.weak (Γ' := [(4, (pEq (.bool false)))]) ⟨rfl, trivial⟩ ?_
        refine Tr.ret ?_
        refine Ct.blk_ret ?_
        refine Ct.then_ret ?_
        replace h := map_some h; obtain ⟨r1, h, rfl⟩ := h
        refine Ct.out_ret fun e => ?_
        subst e
        refine Ct.blk_ret ?_
        refine Ct.then_ret ?_
        replace h := Option.some.inj h; subst h
        exact Ct.retH1 (Ωx := []) () rfl (RvOk.tmp rfl) rfl
      · replace h := bif_f hc h
        refine Tr.skip ?_
        refine Ct.blk_normal ?_
        refine Ct.then_tr ?_
        refine Tr.weak (Γ' := [(0, (pSl 1 (cSl 1 (cK .i64)) a_0)), (1, (pSl 1 (cSl 1 (cK .i64)) b_1)), (5, (pEq (.int .i64 v2)))]) ⟨rfl, rfl, rfl, trivial⟩ ?_
        refine Tr.region ?_
        refine RegL.pure (p := (pEq (.int .i64 v2))) rfl rfl rfl (J_move rfl (Opd.tmp rfl)) ?_
        refine RegL.pure (p := (pEq (.int .i64 (w64 (v2 + (1 : Int)))))) rfl rfl rfl (J_bin rfl (Opd.tmp rfl) Opd.con B_add) ?_
        refine RegL.pure (p := (pEq (.int .i64 (w64 (v2 + (1 : Int)))))) rfl rfl rfl (J_assign rfl (Opd.tmp rfl)) ?_
        refine RegL.nil ?_
        replace h := Option.some.inj h; subst h
        exact Ct.again () rfl ⟨rfl, rfl, rfl, trivial⟩
    · replace h := bif_f hc h
      refine Tr.exit ?_
      refine Ct.then_exit ?_
      replace h := map_some h; obtain ⟨r1, h, rfl⟩ := h
      refine Ct.out_exit fun e => ?_
      subst e
      refine Ct.blk_exit ?_
      refine Ct.then_tr ?_
      refine Tr.weak (Γ' := []) trivial ?_
      refine Tr.seq ?_
      refine Tr.region ?_
      refine RegL.pure (p := (pEq (.bool true))) rfl rfl rfl (J_assign rfl Opd.con) ?_
      refine RegL.nil ?_
      refine Ct.then_tr ?_
      refine Tr.weak (Γ' := [(4, (pEq (.bool true)))]) ⟨rfl, trivial⟩ ?_
      refine Tr.ret ?_
      replace h := Option.some.inj h; subst h
      exact Ct.retH1 (Ωx := []) () rfl (RvOk.tmp rfl) rfl

theorem o_laws_markInt64S {a_0 : (List Int)} {k_1 : Int} {ho0 : Option Addr} {hn0 hc0 : Nat} {r : (Int × (List Int))} (h : m_laws_markInt64S a_0 k_1 = some r) : CallH Try.prog 27 [(pEq (.slice ho0 hn0 hc0)), (pEq (.int .i64 k_1))] [oSl 2 1 (cK .i64) ho0 hn0 hc0 a_0] (fun g : Unit => (pEq (.int .i64 r.1))) (fun g : Unit => [oSl 2 1 (cK .i64) ho0 hn0 hc0 r.2]) := by
  unfold m_laws_markInt64S at h
  refine CallH.enter Try.func27 rfl Try.ntmps27 rfl fun W I0 H => ?_
  refine Tr.weak (Γ' := [(0, (pEq (.slice ho0 hn0 hc0))), (1, (pEq (.int .i64 k_1)))]) ⟨rfl, rfl, trivial⟩ ?_
  refine Tr.seq ?_
  refine Tr.region ?_
  refine RegL.pure (p := (pEq (.int .i64 (0 : Int)))) rfl rfl rfl (J_assign rfl Opd.con) ?_
  refine RegL.nil ?_
  refine Ct.then_tr ?_
  refine Tr.weak (Γ' := [(0, (pEq (.slice ho0 hn0 hc0))), (1, (pEq (.int .i64 k_1)))]) ⟨rfl, rfl, trivial⟩ ?_
  refine Tr.seq ?_
  refine Tr.seq ?_
  refine Tr.region ?_
  refine RegL.pure (p := (pEq (.int .i64 (0 : Int)))) rfl rfl rfl (J_assign rfl Opd.con) ?_
  refine RegL.nil ?_
  refine Ct.then_tr ?_
  refine Tr.weak (Γ' := [(0, (pEq (.slice ho0 hn0 hc0))), (1, (pEq (.int .i64 k_1))), (5, (pEq (.int .i64 (0 : Int))))]) ⟨rfl, rfl, rfl, trivial⟩ ?_
  replace h := bind_some h; obtain ⟨x2, hx2, h⟩ := h
  refine Tr.cut (γ := Unit) (Γm := fun g => [(1, (pEq (.int .i64 x2.1)))]) (Ωm := fun g => [oSl 2 1 (cK .i64) ho0 hn0 hc0 x2.2]) ?_ (fun g10 => ?_)
  · clear h
    have h := hx2
    clear hx2
    refine Tr.block ?_
    refine Tr.weak (Γ' := [(0, (pEq (.slice ho0 hn0 hc0))), (1, (pEq (.int .i64 k_1))), (5, (pEq (.int .i64 (0 : Int))))]) ⟨rfl, rfl, rfl, trivial⟩ ?_
    refine Tr.loop (γ := Unit) (σ := (Int × Int × (List Int))) (Γσ := fun s g => [(0, (pEq (.slice ho0 hn0 hc0))), (1, (pEq (.int .i64 s.1))), (5, (pEq (.int .i64 s.2.1)))]) (Ωσ := fun s g => [oSl 2 1 (cK .i64) ho0 hn0 hc0 s.2.2]) (g := ()) h ?_
    clear h
    rintro ⟨v4, v5, v6⟩ g7 t h
    replace h : m_laws_markInt64S_B3  v4 v5 v6 = some t := h
    unfold m_laws_markInt64S_B3 at h
    refine Tr.weakO (Γ' := [(0, (pEq (.slice ho0 hn0 hc0))), (1, (pEq (.int .i64 v4))), (5, (pEq (.int .i64 v5)))]) (Ω' := [oSl 2 1 (cK .i64) ho0 hn0 hc0 v6]) rfl ⟨rfl, rfl, rfl, trivial⟩ ?_
    refine Tr.seq ?_
    refine Tr.seq ?_
    refine Tr.region ?_
    refine RegL.pure (p := (pEq (.int .i64 v5))) rfl rfl rfl (J_move rfl (Opd.tmp rfl)) ?_
    refine RegL.pure (p := (pEq (.slice ho0 hn0 hc0))) rfl rfl rfl (J_move rfl (Opd.tmp rfl)) ?_
    refine RegL.pureW (p := (pEq (.int .i64 (v6.length : Int)))) rfl rfl rfl (W_rowLen (j := 0) rfl Try.underlying22 (Opd.tmp rfl) rfl) ?_
    refine RegL.pure (p := (pEq (.bool (decide (v5 < (v6.length : Int)))))) rfl rfl rfl (J_bin rfl (Opd.tmp rfl) (Opd.tmp rfl) B_lss) ?_
    refine RegL.nil ?_
    refine Ct.then_tr ?_
    refine Tr.weak (Γ' := [(0, (pEq (.slice ho0 hn0 hc0))), (1, (pEq (.int .i64 v4))), (5, (pEq (.int .i64 v5))), (9, (pEq (.bool (decide (v5 < (v6.length : Int))))))]) ⟨rfl, rfl, rfl, rfl, trivial⟩ ?_
    refine Tr.cond (Opd.tmp rfl) (fun hc => ?_) (fun hc => ?_)
    · replace h := bif_t hc h
      refine Tr.skip ?_
      refine Ct.then_tr ?_
      refine Tr.weak (Γ' := [(0, (pEq (.slice ho0 hn0 hc0))), (1, (pEq (.int .i64 v4))), (5, (pEq (.int .i64 v5)))]) ⟨rfl, rfl, rfl, trivial⟩ ?_
      refine Tr.seq ?_
      refine Tr.block ?_
      refine Tr.seq ?_
      refine Tr.region ?_
      refine RegL.pure (p := (pEq (.slice ho0 hn0 hc0))) rfl rfl rfl (J_move rfl (Opd.tmp rfl)) ?_
      refine RegL.pure (p := (pEq (.int .i64 v5))) rfl rfl rfl (J_move rfl (Opd.tmp rfl)) ?_
      refine RegL.pure (p := (pEq (.int .i64 v4))) rfl rfl rfl (J_move rfl (Opd.tmp rfl)) ?_
      replace h := bind_some h; obtain ⟨u8, hu8, h⟩ := h
      refine RegL.pureW (p := (pEq (.pointer (some ⟨blk ho0, (v5).toNat * 1, none⟩)))) rfl rfl rfl (W_rowIdx (j := 0) rfl Try.underlying22 sz2 (Opd.tmp rfl) (Opd.tmp rfl) rfl (inB_some hu8)) ?_
      refine RegL.stepN (γ := Unit) (p := fun _ => pAny) (Ω' := fun _ => [oSl 2 1 (cK .i64) ho0 hn0 hc0 (v6.set (v5).toNat v4)]) rfl rfl (M_rowStore rfl sz2 (fun _ => rfl) (Opd.tmp rfl) (Opd.tmp rfl) rfl OneC.int (setL_of (inB_some hu8))) fun g9 => ?_
      refine RegL.nil ?_
      refine Ct.then_tr ?_
      refine Tr.weak (Γ' := [(0, (pEq (.slice ho0 hn0 hc0))), (1, (pEq (.int .i64 v4))), (5, (pEq (.int .i64 v5)))]) ⟨rfl, rfl, rfl, trivial⟩ ?_
      refine Tr.region ?_
      refine RegL.pure (p := (pEq (.int .i64 v4))) rfl rfl rfl (J_move rfl (Opd.tmp rfl)) ?_
      refine RegL.pure (p := (pEq (.int .i64 (w64 (v4 + (1 : Int)))))) rfl rfl rfl (J_bin rfl (Opd.tmp rfl) Opd.con B_add) ?_
      refine RegL.pure (p := (pEq (.int .i64 (w64 (v4 + (1 : Int)))))) rfl rfl rfl (J_assign rfl (Opd.tmp rfl)) ?_
      refine RegL.nil ?_
      refine Ct.blk_normal ?_
      refine Ct.then_tr ?_
      refine Tr.weak (Γ' := [(0, (pEq (.slice ho0 hn0 hc0))), (1, (pEq (.int .i64 (w64 (v4 + (1 : Int)))))), (5, (pEq (.int .i64 v5)))]) ⟨rfl, rfl, rfl, trivial⟩ ?_
      refine Tr.region ?_
      refine RegL.pure (p := (pEq (.int .i64 v5))) rfl rfl rfl (J_move rfl (Opd.tmp rfl)) ?_
      refine RegL.pure (p := (pEq (.int .i64 (w64 (v5 + (1 : Int)))))) rfl rfl rfl (J_bin rfl (Opd.tmp rfl) Opd.con B_add) ?_
      refine RegL.pure (p := (pEq (.int .i64 (w64 (v5 + (1 : Int)))))) rfl rfl rfl (J_assign rfl (Opd.tmp rfl)) ?_
      refine RegL.nil ?_
      replace h := Option.some.inj h; subst h
      exact Ct.again () rfl ⟨rfl, rfl, rfl, trivial⟩
    · replace h := bif_f hc h
      refine Tr.exit ?_
      refine Ct.then_exit ?_
      replace h := map_some h; obtain ⟨r1, h, rfl⟩ := h
      refine Ct.out_exit fun e => ?_
      subst e
      refine Ct.blk_exit ?_
      replace h := Option.some.inj h; subst h
      exact Ct.mid () rfl ⟨rfl, trivial⟩
  · clear hx2
    refine Ct.then_tr ?_
    refine Tr.weak (Γ' := [(1, (pEq (.int .i64 x2.1)))]) ⟨rfl, trivial⟩ ?_
    refine Tr.seq ?_
    refine Tr.region ?_
    refine RegL.pure (p := (pEq (.int .i64 x2.1))) rfl rfl rfl (J_move rfl (Opd.tmp rfl)) ?_
    refine RegL.pure (p := (pEq (.int .i64 x2.1))) rfl rfl rfl (J_assign rfl (Opd.tmp rfl)) ?_
    refine RegL.nil ?_
    refine Ct.then_tr ?_
    refine Tr.weak (Γ' := [(4, (pEq (.int .i64 x2.1)))]) ⟨rfl, trivial⟩ ?_
    refine Tr.ret ?_
    replace h := Option.some.inj h; subst h
    exact Ct.retH1 (Ωx := []) () rfl (RvOk.tmp rfl) rfl

theorem o_laws_markInt64SS {a_0 : (List (List Int))} {k_1 : Int} {ho0 : Option Addr} {hn0 hc0 : Nat} {hh0 : List G3} {r : (Int × (List (List Int)))} (h : m_laws_markInt64SS a_0 k_1 = some r) : CallH Try.prog 54 [(pEq (.slice ho0 hn0 hc0)), (pEq (.int .i64 k_1))] [oSS 22 2 1 (cK .i64) ho0 hn0 hc0 hh0 a_0] (fun g : Unit => (pEq (.int .i64 r.1))) (fun g : Unit => [oSS 22 2 1 (cK .i64) ho0 hn0 hc0 hh0 r.2]) := by
  unfold m_laws_markInt64SS at h
  refine CallH.enter Try.func54 rfl Try.ntmps54 rfl fun W I0 H => ?_
  refine Tr.weak (Γ' := [(0, (pEq (.slice ho0 hn0 hc0))), (1, (pEq (.int .i64 k_1)))]) ⟨rfl, rfl, trivial⟩ ?_
  refine Tr.seq ?_
  refine Tr.region ?_
  refine RegL.pure (p := (pEq (.int .i64 (0 : Int)))) rfl rfl rfl (J_assign rfl Opd.con) ?_
  refine RegL.nil ?_
  refine Ct.then_tr ?_
  refine Tr.weak (Γ' := [(0, (pEq (.slice ho0 hn0 hc0))), (1, (pEq (.int .i64 k_1)))]) ⟨rfl, rfl, trivial⟩ ?_
  refine Tr.seq ?_
  refine Tr.seq ?_
  refine Tr.region ?_
  refine RegL.pure (p := (pEq (.int .i64 (0 : Int)))) rfl rfl rfl (J_assign rfl Opd.con) ?_
  refine RegL.nil ?_
  refine Ct.then_tr ?_
  refine Tr.weak (Γ' := [(0, (pEq (.slice ho0 hn0 hc0))), (1, (pEq (.int .i64 k_1))), (5, (pEq (.int .i64 (0 : Int))))]) ⟨rfl, rfl, rfl, trivial⟩ ?_
  replace h := bind_some h; obtain ⟨x2, hx2, h⟩ := h
  refine Tr.cut (γ := Unit) (Γm := fun g => [(1, (pEq (.int .i64 x2.1)))]) (Ωm := fun g => [oSS 22 2 1 (cK .i64) ho0 hn0 hc0 hh0 x2.2]) ?_ (fun g12 => ?_)
  · clear h
    have h := hx2
    clear hx2
    refine Tr.block ?_
    refine Tr.weak (Γ' := [(0, (pEq (.slice ho0 hn0 hc0))), (1, (pEq (.int .i64 k_1))), (5, (pEq (.int .i64 (0 : Int))))]) ⟨rfl, rfl, rfl, trivial⟩ ?_
    refine Tr.loop (γ := Unit) (σ := (Int × Int × (List (List Int)))) (Γσ := fun s g => [(0, (pEq (.slice ho0 hn0 hc0))), (1, (pEq (.int .i64 s.1))), (5, (pEq (.int .i64 s.2.1)))]) (Ωσ := fun s g => [oSS 22 2 1 (cK .i64) ho0 hn0 hc0 hh0 s.2.2]) (g := ()) h ?_
    clear h
    rintro ⟨v4, v5, v6⟩ g7 t h
    replace h : m_laws_markInt64SS_B3  v4 v5 v6 = some t := h
    unfold m_laws_markInt64SS_B3 at h
    refine Tr.weakO (Γ' := [(0, (pEq (.slice ho0 hn0 hc0))), (1, (pEq (.int .i64 v4))), (5, (pEq (.int .i64 v5)))]) (Ω' := [oSS 22 2 1 (cK .i64) ho0 hn0 hc0 hh0 v6]) rfl ⟨rfl, rfl, rfl, trivial⟩ ?_
    refine Tr.seq ?_
    refine Tr.seq ?_
    refine Tr.region ?_
    refine RegL.pure (p := (pEq (.int .i64 v5))) rfl rfl rfl (J_move rfl (Opd.tmp rfl)) ?_
    refine RegL.pure (p := (pEq (.slice ho0 hn0 hc0))) rfl rfl rfl (J_move rfl (Opd.tmp rfl)) ?_
    refine RegL.pureW (p := (pEq (.int .i64 (v6.length : Int)))) rfl rfl rfl (W_nestLen (j := 0) rfl Try.underlying68 (Opd.tmp rfl) rfl) ?_
    refine RegL.pure (p := (pEq (.bool (decide (v5 < (v6.length : Int)))))) rfl rfl rfl (J_bin rfl (Opd.tmp rfl) (Opd.tmp rfl) B_lss) ?_
    refine RegL.nil ?_
    refine Ct.then_tr ?_
    refine Tr.weak (Γ' := [(0, (pEq (.slice ho0 hn0 hc0))), (1, (pEq (.int .i64 v4))), (5, (pEq (.int .i64 v5))), (9, (pEq (.bool (decide (v5 < (v6.length : Int))))))]) ⟨rfl, rfl, rfl, rfl, trivial⟩ ?_
    refine Tr.cond (Opd.tmp rfl) (fun hc => ?_) (fun hc => ?_)
    · replace h := bif_t hc h
      refine Tr.skip ?_
      refine Ct.then_tr ?_
      refine Tr.weak (Γ' := [(0, (pEq (.slice ho0 hn0 hc0))), (1, (pEq (.int .i64 v4))), (5, (pEq (.int .i64 v5)))]) ⟨rfl, rfl, rfl, trivial⟩ ?_
      refine Tr.seq ?_
      refine Tr.block ?_
      refine Tr.region ?_
      refine RegL.pure (p := (pEq (.slice ho0 hn0 hc0))) rfl rfl rfl (J_move rfl (Opd.tmp rfl)) ?_
      refine RegL.pure (p := (pEq (.int .i64 v5))) rfl rfl rfl (J_move rfl (Opd.tmp rfl)) ?_
      replace h := bind_some h; obtain ⟨x8, hx8, h⟩ := h
      refine RegL.pureW (p := (pEq (.pointer (some ⟨blk ho0, (v5).toNat * 1, none⟩)))) rfl rfl rfl (W_nestIdx (j := 0) rfl Try.underlying68 sz22 (Opd.tmp rfl) (Opd.tmp rfl) rfl (idx_lt hx8)) ?_
      refine RegL.pureW (p := (pEq (hdrV (gd hh0 v5)))) rfl rfl rfl (W_nestLoad (j := 0) rfl Try.isAgg22 (Opd.tmp rfl) rfl hx8) ?_
      refine RegL.pure (p := (pEq (.int .i64 v4))) rfl rfl rfl (J_move rfl (Opd.tmp rfl)) ?_
      replace h := bind_some h; obtain ⟨x10, hx10, h⟩ := h
      refine RegL.re (Ω2 := [oSl 2 1 (cK .i64) (gd hh0 v5).1 (gd hh0 v5).2.1 (gd hh0 v5).2.2 x8, oHole 22 2 1 (cK .i64) ho0 hn0 hc0 hh0 v6 v5]) (fun h => nest_focus hx8 h) ?_
      refine RegL.step (γ := Unit) (p := fun g => (pEq (.int .i64 x10.1))) (Ω' := fun g => [oSl 2 1 (cK .i64) (gd hh0 v5).1 (gd hh0 v5).2.1 (gd hh0 v5).2.2 x10.2, oHole 22 2 1 (cK .i64) ho0 hn0 hc0 hh0 v6 v5]) rfl rfl rfl (M_callH (Ωi := [oSl 2 1 (cK .i64) (gd hh0 v5).1 (gd hh0 v5).2.1 (gd hh0 v5).2.2 x8]) rfl Try.call27 (o_laws_markInt64S hx10) (Opds.cons (Opd.tmp rfl) (Opds.cons (Opd.tmp rfl) Opds.nil))) fun g11 => ?_
      refine RegL.re (Ω2 := [oSS 22 2 1 (cK .i64) ho0 hn0 hc0 hh0 (v6.set (v5).toNat x10.2)]) (fun h => nest_unfocus hx8 h) ?_
      refine RegL.pure (p := (pEq (.int .i64 x10.1))) rfl rfl rfl (J_assign rfl (Opd.tmp rfl)) ?_
      refine RegL.nil ?_
      refine Ct.blk_normal ?_
      refine Ct.then_tr ?_
      refine Tr.weak (Γ' := [(0, (pEq (.slice ho0 hn0 hc0))), (1, (pEq (.int .i64 x10.1))), (5, (pEq (.int .i64 v5)))]) ⟨rfl, rfl, rfl, trivial⟩ ?_
      refine Tr.region ?_
      refine RegL.pure (p := (pEq (.int .i64 v5))) rfl rfl rfl (J_move rfl (Opd.tmp rfl)) ?_
      refine RegL.pure (p := (pEq (.int .i64 (w64 (v5 + (1 : Int)))))) rfl rfl rfl (J_bin rfl (Opd.tmp rfl) Opd.con B_add) ?_
      refine RegL.pure (p := (pEq (.int .i64 (w64 (v5 + (1 : Int)))))) rfl rfl rfl (J_assign rfl (Opd.tmp rfl)) ?_
      refine RegL.nil ?_
      replace h := Option.some.inj h; subst h
      exact Ct.again () rfl ⟨rfl, rfl, rfl, trivial⟩
    · replace h := bif_f hc h
      refine Tr.exit ?_
      refine Ct.then_exit ?_
      replace h := map_some h; obtain ⟨r1, h, rfl⟩ := h
      refine Ct.out_exit fun e => ?_
      subst e
      refine Ct.blk_exit ?_
      replace h := Option.some.inj h; subst h
      exact Ct.mid () rfl ⟨rfl, trivial⟩
  · clear hx2
    refine Ct.then_tr ?_
    refine Tr.weak (Γ' := [(1, (pEq (.int .i64 x2.1)))]) ⟨rfl, trivial⟩ ?_
    refine Tr.seq ?_
    refine Tr.region ?_
    refine RegL.pure (p := (pEq (.int .i64 x2.1))) rfl rfl rfl (J_move rfl (Opd.tmp rfl)) ?_
    refine RegL.pure (p := (pEq (.int .i64 x2.1))) rfl rfl rfl (J_assign rfl (Opd.tmp rfl)) ?_
    refine RegL.nil ?_
    refine Ct.then_tr ?_
    refine Tr.weak (Γ' := [(4, (pEq (.int .i64 x2.1)))]) ⟨rfl, trivial⟩ ?_
    refine Tr.ret ?_
    replace h := Option.some.inj h; subst h
    exact Ct.retH1 (Ωx := []) () rfl (RvOk.tmp rfl) rfl

theorem c_laws_heldInt64S {a_0 : (List Int)} {k_1 : Int} {r : Int} (h : m_laws_heldInt64S a_0 k_1 = some r) : CallJ Try.prog 28 [(pSl 1 (cK .i64) a_0), (pEq (.int .i64 k_1))] (pEq (.int .i64 r)) := by
  unfold m_laws_heldInt64S at h
  refine CallJ.enterH Try.func28 rfl Try.ntmps28 rfl fun W I0 H => ?_
  refine Tr.weak (Γ' := [(0, (pSl 1 (cK .i64) a_0)), (1, (pEq (.int .i64 k_1)))]) ⟨rfl, rfl, trivial⟩ ?_
  refine Tr.seq ?_
  refine Tr.region ?_
  refine RegL.pure (p := (pEq (.int .i64 (0 : Int)))) rfl rfl rfl (J_assign rfl Opd.con) ?_
  refine RegL.nil ?_
  refine Ct.then_tr ?_
  refine Tr.weak (Γ' := [(0, (pSl 1 (cK .i64) a_0)), (1, (pEq (.int .i64 k_1)))]) ⟨rfl, rfl, trivial⟩ ?_
  refine Tr.seq ?_
  refine Tr.seq ?_
  refine Tr.region ?_
  refine RegL.pure (p := (pEq (.int .i64 (0 : Int)))) rfl rfl rfl (J_assign rfl Opd.con) ?_
  refine RegL.nil ?_
  refine Ct.then_tr ?_
  refine Tr.weak (Γ' := [(0, (pSl 1 (cK .i64) a_0)), (1, (pEq (.int .i64 k_1))), (5, (pEq (.int .i64 (0 : Int))))]) ⟨rfl, rfl, rfl, trivial⟩ ?_
  refine Tr.block ?_
  refine Tr.weak (Γ' := [(0, (pSl 1 (cK .i64) a_0)), (1, (pEq (.int .i64 k_1))), (5, (pEq (.int .i64 (0 : Int))))]) ⟨rfl, rfl, rfl, trivial⟩ ?_
  refine Tr.loop (γ := Unit) (σ := (Int × Int)) (Γσ := fun s g => [(0, (pSl 1 (cK .i64) a_0)), (1, (pEq (.int .i64 s.1))), (5, (pEq (.int .i64 s.2)))]) (Ωσ := fun s g => []) (g := ()) h ?_
  clear h
  rintro ⟨v2, v3⟩ g4 t h
  replace h : m_laws_heldInt64S_B1 a_0 v2 v3 = some t := h
  unfold m_laws_heldInt64S_B1 at h
  refine Tr.weakO (Γ' := [(0, (pSl 1 (cK .i64) a_0)), (1, (pEq (.int .i64 v2))), (5, (pEq (.int .i64 v3)))]) (Ω' := []) rfl ⟨rfl, rfl, rfl, trivial⟩ ?_
  refine Tr.seq ?_
  refine Tr.seq ?_
  refine Tr.region ?_
  refine RegL.pure (p := (pEq (.int .i64 v3))) rfl rfl rfl (J_move rfl (Opd.tmp rfl)) ?_
  refine RegL.pure (p := (pSl 1 (cK .i64) a_0)) rfl rfl rfl (J_move rfl (Opd.tmp rfl)) ?_
  refine RegL.pure (p := (pEq (.int .i64 (a_0.length : Int)))) rfl rfl rfl (J_len rfl Try.underlying22 (Opd.tmp rfl) rfl) ?_
  refine RegL.pure (p := (pEq (.bool (decide (v3 < (a_0.length : Int)))))) rfl rfl rfl (J_bin rfl (Opd.tmp rfl) (Opd.tmp rfl) B_lss) ?_
  refine RegL.nil ?_
  refine Ct.then_tr ?_
  refine Tr.weak (Γ' := [(0, (pSl 1 (cK .i64) a_0)), (1, (pEq (.int .i64 v2))), (5, (pEq (.int .i64 v3))), (9, (pEq (.bool (decide (v3 < (a_0.length : Int))))))]) ⟨rfl, rfl, rfl, rfl, trivial⟩ ?_
  refine Tr.cond (Opd.tmp rfl) (fun hc => ?_) (fun hc => ?_)
  · replace h := bif_t hc h
    refine Tr.skip ?_
    refine Ct.then_tr ?_
    refine Tr.weak (Γ' := [(0, (pSl 1 (cK .i64) a_0)), (1, (pEq (.int .i64 v2))), (5, (pEq (.int .i64 v3)))]) ⟨rfl, rfl, rfl, trivial⟩ ?_
    refine Tr.seq ?_
    refine Tr.block ?_
    refine Tr.seq ?_
    refine Tr.seq ?_
    refine Tr.region ?_
    refine RegL.pure (p := (pSl 1 (cK .i64) a_0)) rfl rfl rfl (J_move rfl (Opd.tmp rfl)) ?_
    refine RegL.pure (p := (pEq (.int .i64 v3))) rfl rfl rfl (J_move rfl (Opd.tmp rfl)) ?_
    replace h := bind_some h; obtain ⟨x5, hx5, h⟩ := h
    refine RegL.pure (p := (pPtr ((cK .i64) x5))) rfl rfl rfl (J_idx rfl Try.underlying22 sz2 (Opd.tmp rfl) (Opd.tmp rfl) hx5) ?_
    refine RegL.pure (p := (pEq (.int .i64 x5))) rfl rfl rfl (J_load rfl Try.isAgg2 (Opd.tmp rfl)) ?_
    refine RegL.pure (p := (pEq (.int .i64 v2))) rfl rfl rfl (J_move rfl (Opd.tmp rfl)) ?_
    refine RegL.pure (p := (pEq (.bool (x5 != v2)))) rfl rfl rfl (J_bin rfl (Opd.tmp rfl) (Opd.tmp rfl) B_neq) ?_
    refine RegL.nil ?_
    refine Ct.then_tr ?_
    refine Tr.weak (Γ' := [(0, (pSl 1 (cK .i64) a_0)), (1, (pEq (.int .i64 v2))), (5, (pEq (.int .i64 v3))), (17, (pEq (.bool (x5 != v2))))]) ⟨rfl, rfl, rfl, rfl, trivial⟩ ?_
    refine Tr.cond (Opd.tmp rfl) (fun hc => ?_) (fun hc => ?_)
    · replace h := bif_t hc h
      refine Tr.seq ?_
      refine Tr.region ?_
      refine RegL.pure (p := (pEq (.int .i64 (-1 : Int)))) rfl rfl rfl (J_assign rfl Opd.con) ?_
      refine RegL.nil ?_
      refine Ct.then_tr ?_
      refine Tr.weak (Γ' := [(4, (pEq (.int .i64 (-1 : Int))))]) ⟨rfl, trivial⟩ ?_
      refine Tr.ret ?_
      refine Ct.then_ret ?_
      refine Ct.blk_ret ?_
      refine Ct.then_ret ?_
      replace h := map_some h; obtain ⟨r1, h, rfl⟩ := h
      refine Ct.out_ret fun e => ?_
      subst e
      refine Ct.blk_ret ?_
      refine Ct.then_ret ?_
      replace h := Option.some.inj h; subst h
      exact Ct.retH1 (Ωx := []) () rfl (RvOk.tmp rfl) rfl
    · replace h := bif_f hc h
      refine Tr.skip ?_
      refine Ct.then_tr ?_
      refine Tr.weak (Γ' := [(0, (pSl 1 (cK .i64) a_0)), (1, (pEq (.int .i64 v2))), (5, (pEq (.int .i64 v3)))]) ⟨rfl, rfl, rfl, trivial⟩ ?_
      refine Tr.region ?_
      refine RegL.pure (p := (pEq (.int .i64 v2))) rfl rfl rfl (J_move rfl (Opd.tmp rfl)) ?_
      refine RegL.pure (p := (pEq (.int .i64 (w64 (v2 + (1 : Int)))))) rfl rfl rfl (J_bin rfl (Opd.tmp rfl) Opd.con B_add) ?_
      refine RegL.pure (p := (pEq (.int .i64 (w64 (v2 + (1 : Int)))))) rfl rfl rfl (J_assign rfl (Opd.tmp rfl)) ?_
      refine RegL.nil ?_
      refine Ct.blk_normal ?_
      refine Ct.then_tr ?_
      refine Tr.weak (Γ' := [(0, (pSl 1 (cK .i64) a_0)), (1, (pEq (.int .i64 (w64 (v2 + (1 : Int)))))), (5, (pEq (.int .i64 v3)))]) ⟨rfl, rfl, rfl, trivial⟩ ?_
      refine Tr.region ?_
      refine RegL.pure (p := (pEq (.int .i64 v3))) rfl rfl rfl (J_move rfl (Opd.tmp rfl)) ?_
      refine RegL.pure (p := (pEq (.int .i64 (w64 (v3 + (1 : Int)))))) rfl rfl rfl (J_bin rfl (Opd.tmp rfl) Opd.con B_add) ?_
      refine RegL.pure (p := (pEq (.int .i64 (w64 (v3 + (1 : Int)))))) rfl rfl rfl (J_assign rfl (Opd.tmp rfl)) ?_
      refine RegL.nil ?_
      replace h := Option.some.inj h; subst h
      exact Ct.again () rfl ⟨rfl, rfl, rfl, trivial⟩
  · replace h := bif_f hc h
    refine Tr.exit ?_
    refine Ct.then_exit ?_
    replace h := map_some h; obtain ⟨r1, h, rfl⟩ := h
    refine Ct.out_exit fun e => ?_
    subst e
    refine Ct.blk_exit ?_
    refine Ct.then_tr ?_
    refine Tr.weak (Γ' := [(1, (pEq (.int .i64 v2)))]) ⟨rfl, trivial⟩ ?_
    refine Tr.seq ?_
    refine Tr.region ?_
    refine RegL.pure (p := (pEq (.int .i64 v2))) rfl rfl rfl (J_move rfl (Opd.tmp rfl)) ?_
    refine RegL.pure (p := (pEq (.int .i64 v2))) rfl rfl rfl (J_assign rfl (Opd.tmp rfl)) ?_
    refine RegL.nil ?_
    refine Ct.then_tr ?_
    refine Tr.weak (Γ' := [(4, (pEq (.int .i64 v2)))]) ⟨rfl, trivial⟩ ?_
    refine Tr.ret ?_
    replace h := Option.some.inj h; subst h
    exact Ct.retH1 (Ωx := []) () rfl (RvOk.tmp rfl) rfl

theorem c_laws_FnExactServersOf {a_0 : (List (List Int))} {r : Bool} (h : m_laws_FnExactServersOf a_0 = some r) : CallJ Try.prog 13 [(pSl 1 (cSl 1 (cK .i64)) a_0)] (pEq (.bool r)) := by
  unfold m_laws_FnExactServersOf at h
  refine CallJ.enterH Try.func13 rfl Try.ntmps13 rfl fun W I0 H => ?_
  refine Tr.weak (Γ' := [(0, (pSl 1 (cSl 1 (cK .i64)) a_0))]) ⟨rfl, trivial⟩ ?_
  refine Tr.seq ?_
  refine Tr.region ?_
  refine RegL.pure (p := (pEq (.bool false))) rfl rfl rfl (J_assign rfl Opd.con) ?_
  refine RegL.nil ?_
  refine Ct.then_tr ?_
  refine Tr.weak (Γ' := [(0, (pSl 1 (cSl 1 (cK .i64)) a_0))]) ⟨rfl, trivial⟩ ?_
  refine Tr.seq ?_
  refine Tr.region ?_
  refine RegL.pure (p := (pEq (.int .i64 (1048576 : Int)))) rfl rfl rfl (J_assign rfl Opd.con) ?_
  refine RegL.nil ?_
  refine Ct.then_tr ?_
  refine Tr.weak (Γ' := [(0, (pSl 1 (cSl 1 (cK .i64)) a_0)), (3, (pEq (.int .i64 (1048576 : Int))))]) ⟨rfl, rfl, trivial⟩ ?_
  refine Tr.seq ?_
  refine Tr.region ?_
  refine RegL.pure (p := (pSl 1 (cSl 1 (cK .i64)) a_0)) rfl rfl rfl (J_move rfl (Opd.tmp rfl)) ?_
  refine RegL.pure (p := (pEq (.int .i64 (1048576 : Int)))) rfl rfl rfl (J_move rfl (Opd.tmp rfl)) ?_
  replace h := bind_some h; obtain ⟨x1, hx1, h⟩ := h
  refine RegL.pure (p := (pEq (.int .i64 x1))) rfl rfl rfl (J_call rfl Try.call47 (c_laws_szInt64SS hx1) (Opds.cons (Opd.tmp rfl) (Opds.cons (Opd.tmp rfl) Opds.nil))) ?_
  refine RegL.pure (p := (pEq (.int .i64 x1))) rfl rfl rfl (J_assign rfl (Opd.tmp rfl)) ?_
  refine RegL.nil ?_
  refine Ct.then_tr ?_
  refine Tr.weak (Γ' := [(0, (pSl 1 (cSl 1 (cK .i64)) a_0)), (3, (pEq (.int .i64 x1)))]) ⟨rfl, rfl, trivial⟩ ?_
  refine Tr.seq ?_
  refine Tr.seq ?_
  refine Tr.region ?_
  refine RegL.pure (p := (pEq (.int .i64 x1))) rfl rfl rfl (J_move rfl (Opd.tmp rfl)) ?_
  refine RegL.pure (p := (pEq (.bool (decide (x1 < (0 : Int)))))) rfl rfl rfl (J_bin rfl (Opd.tmp rfl) Opd.con B_lss) ?_
  refine RegL.nil ?_
  refine Ct.then_tr ?_
  refine Tr.weak (Γ' := [(0, (pSl 1 (cSl 1 (cK .i64)) a_0)), (18, (pEq (.bool (decide (x1 < (0 : Int))))))]) ⟨rfl, rfl, trivial⟩ ?_
  refine Tr.cond (Opd.tmp rfl) (fun hc => ?_) (fun hc => ?_)
  · replace h := bif_t hc h
    refine Tr.seq ?_
    refine Tr.region ?_
    refine RegL.pure (p := (pEq (.bool true))) rfl rfl rfl (J_assign rfl Opd.con) ?_
    refine RegL.nil ?_
    refine Ct.then_tr ?_
    refine Tr.weak (Γ' := [(2, (pEq (.bool true)))]) ⟨rfl, trivial⟩ ?_
    refine Tr.ret ?_
    refine Ct.then_ret ?_
    replace h := Option.some.inj h; subst h
    exact Ct.retH1 (Ωx := []) () rfl (RvOk.tmp rfl) rfl
  · replace h := bif_f hc h
    refine Tr.skip ?_
    refine Ct.then_tr ?_
    refine Tr.weak (Γ' := [(0, (pSl 1 (cSl 1 (cK .i64)) a_0))]) ⟨rfl, trivial⟩ ?_
    refine Tr.seq ?_
    refine Tr.region ?_
    refine RegL.pure (p := (pSl 1 (cSl 1 (cK .i64)) a_0)) rfl rfl rfl (J_move rfl (Opd.tmp rfl)) ?_
    replace h := bind_some h; obtain ⟨x2, hx2, h⟩ := h
    refine RegL.pure (p := (pSl 1 (cSl 1 (cK .i64)) x2)) rfl rfl rfl (J_call rfl Try.call49 (c_laws_toInt64SS hx2) (Opds.cons (Opd.tmp rfl) Opds.nil)) ?_
    replace h := bind_some h; obtain ⟨x3, hx3, h⟩ := h
    refine RegL.pure (p := (pTup [(pSl 1 (cK .i64) x3.1), (pEq (.int .i64 x3.2))])) rfl rfl rfl (J_call rfl Try.call52 (c_spec_ServersOf hx3) (Opds.cons (Opd.tmp rfl) Opds.nil)) ?_
    refine RegL.pure (p := (pTup [(pSl 1 (cK .i64) x3.1), (pEq (.int .i64 x3.2))])) rfl rfl rfl (J_move rfl (Opd.tmp rfl)) ?_
    refine RegL.pure (p := (pSl 1 (cK .i64) x3.1)) rfl rfl rfl (J_extract rfl (Opd.tmp rfl) rfl) ?_
    refine RegL.pure (p := (pEq (.int .i64 x3.2))) rfl rfl rfl (J_extract rfl (Opd.tmp rfl) rfl) ?_
    refine RegL.pure (p := (pSl 1 (cK .i64) x3.1)) rfl rfl rfl (J_assign rfl (Opd.tmp rfl)) ?_
    refine RegL.pure (p := (pEq (.int .i64 x3.2))) rfl rfl rfl (J_assign rfl (Opd.tmp rfl)) ?_
    refine RegL.nil ?_
    refine Ct.then_tr ?_
    refine Tr.weak (Γ' := [(0, (pSl 1 (cSl 1 (cK .i64)) a_0)), (4, (pSl 1 (cK .i64) x3.1)), (5, (pEq (.int .i64 x3.2)))]) ⟨rfl, rfl, rfl, trivial⟩ ?_
    refine Tr.seq ?_
    refine Tr.region ?_
    refine RegL.pure (p := (pSl 1 (cSl 1 (cK .i64)) a_0)) rfl rfl rfl (J_move rfl (Opd.tmp rfl)) ?_
    replace h := bind_some h; obtain ⟨x4, hx4, h⟩ := h
    refine RegL.step (γ := (G3 × List G3)) (p := fun g => (pEq (.slice g.1.1 g.1.2.1 g.1.2.2))) (Ω' := fun g => [oSS 22 2 1 (cK .i64) g.1.1 g.1.2.1 g.1.2.2 g.2 x4]) rfl rfl rfl (M_callH (Ωi := []) rfl Try.call49 (o_laws_toInt64SS hx4) (Opds.cons (Opd.tmp rfl) Opds.nil)) fun g5 => ?_
    refine RegL.pure (p := (pEq (.slice g5.1.1 g5.1.2.1 g5.1.2.2))) rfl rfl rfl (J_assign rfl (Opd.tmp rfl)) ?_
    refine RegL.nil ?_
    refine Ct.then_tr ?_
    refine Tr.weak (Γ' := [(0, (pSl 1 (cSl 1 (cK .i64)) a_0)), (4, (pSl 1 (cK .i64) x3.1)), (5, (pEq (.int .i64 x3.2))), (6, (pEq (.slice g5.1.1 g5.1.2.1 g5.1.2.2)))]) ⟨rfl, rfl, rfl, rfl, trivial⟩ ?_
    refine Tr.seq ?_
    refine Tr.region ?_
    refine RegL.pure (p := (pEq (.slice g5.1.1 g5.1.2.1 g5.1.2.2))) rfl rfl rfl (J_move rfl (Opd.tmp rfl)) ?_
    replace h := bind_some h; obtain ⟨x7, hx7, h⟩ := h
    refine RegL.step (γ := G3) (p := fun g => (pTup [(pEq (.slice g.1 g.2.1 g.2.2)), (pEq (.int .i64 x7.2))])) (Ω' := fun g => [oSl 2 1 (cK .i64) g.1 g.2.1 g.2.2 x7.1, oSS 22 2 1 (cK .i64) g5.1.1 g5.1.2.1 g5.1.2.2 g5.2 x4]) rfl rfl rfl (M_callHB (Ωi := []) rfl Try.call53 (o_impl_ServersOf hx7) (OpdsA.cons (OpdA.conv rfl (Conv.nest 0 (fun _ => rfl) rfl)) OpdsA.nil) (fun _ => (FreeP.tup ⟨FreeP.eq, ⟨FreeP.eq, trivial⟩⟩)) (fun _ => ⟨(FreeO.sl (fun _ => ⟨FreeP.eq, trivial⟩)), trivial⟩)) fun g8 => ?_
    refine RegL.pure (p := (pTup [(pEq (.slice g8.1 g8.2.1 g8.2.2)), (pEq (.int .i64 x7.2))])) rfl rfl rfl (J_move rfl (Opd.tmp rfl)) ?_
    refine RegL.pure (p := (pEq (.slice g8.1 g8.2.1 g8.2.2))) rfl rfl rfl (J_extract rfl (Opd.tmp rfl) rfl) ?_
    refine RegL.pure (p := (pEq (.int .i64 x7.2))) rfl rfl rfl (J_extract rfl (Opd.tmp rfl) rfl) ?_
    refine RegL.pure (p := (pEq (.slice g8.1 g8.2.1 g8.2.2))) rfl rfl rfl (J_assign rfl (Opd.tmp rfl)) ?_
    refine RegL.pure (p := (pEq (.int .i64 x7.2))) rfl rfl rfl (J_assign rfl (Opd.tmp rfl)) ?_
    refine RegL.nil ?_
    refine Ct.then_tr ?_
    refine Tr.weak (Γ' := [(0, (pSl 1 (cSl 1 (cK .i64)) a_0)), (4, (pSl 1 (cK .i64) x3.1)), (5, (pEq (.int .i64 x3.2))), (6, (pEq (.slice g5.1.1 g5.1.2.1 g5.1.2.2))), (7, (pEq (.slice g8.1 g8.2.1 g8.2.2))), (8, (pEq (.int .i64 x7.2)))]) ⟨rfl, rfl, rfl, rfl, rfl, rfl, trivial⟩ ?_
    refine Tr.seq ?_
    refine Tr.seq ?_
    replace h := bind_some h; obtain ⟨x10, hx10, h⟩ := h
    refine Tr.cut (γ := Unit) (Γm := fun g => [(0, (pSl 1 (cSl 1 (cK .i64)) a_0)), (4, (pSl 1 (cK .i64) x3.1)), (5, (pEq (.int .i64 x3.2))), (6, (pEq (.slice g5.1.1 g5.1.2.1 g5.1.2.2))), (7, (pEq (.slice g8.1 g8.2.1 g8.2.2))), (8, (pEq (.int .i64 x7.2))), (40, (pEq (.bool x10)))]) (Ωm := fun g => [oSl 2 1 (cK .i64) g8.1 g8.2.1 g8.2.2 x7.1, oSS 22 2 1 (cK .i64) g5.1.1 g5.1.2.1 g5.1.2.2 g5.2 x4]) ?_ (fun g13 => ?_)
    · clear h
      have h := hx10
      clear hx10
      refine Tr.region ?_
      refine RegL.pure (p := (pEq (.slice g8.1 g8.2.1 g8.2.2))) rfl rfl rfl (J_move rfl (Opd.tmp rfl)) ?_
      refine RegL.pure (p := (pSl 1 (cK .i64) x3.1)) rfl rfl rfl (J_move rfl (Opd.tmp rfl)) ?_
      replace h := bind_some h; obtain ⟨x11, hx11, h⟩ := h
      refine RegL.pureW (p := (pEq (.bool x11))) rfl rfl rfl (W_call rfl Try.call18 (c_laws_eqInt64S hx11) (OpdsA.cons (OpdA.conv rfl (Conv.row 0 (fun _ => rfl) rfl)) (OpdsA.cons (OpdA.of (Opd.tmp rfl)) OpdsA.nil)) FreeP.eq) ?_
      refine RegL.pure (p := (pEq (.bool (!x11)))) rfl rfl rfl (J_not rfl (Opd.tmp rfl)) ?_
      refine RegL.pure (p := (pEq (.bool (!x11)))) rfl rfl rfl (J_move rfl (Opd.tmp rfl)) ?_
      rcases Bool.eq_false_or_eq_true (!x11) with hc12 | hc12
      · replace h := bif_t hc12 h
        refine RegL.skipG rfl rfl rfl hc12 rfl rfl ?_
        refine RegL.skipG rfl rfl rfl hc12 rfl rfl ?_
        refine RegL.skipG rfl rfl rfl hc12 rfl rfl ?_
        refine RegL.pure (p := (pEq (.bool true))) rfl rfl rfl (J_pick rfl (Opd.tmp rfl) (fun _ => Opd.con) (fun hf => absurd (hc12.symm.trans hf) (by decide))) ?_
        refine RegL.nil ?_
        replace h := Option.some.inj h; subst h
        exact Ct.mid () rfl ⟨rfl, rfl, rfl, rfl, rfl, rfl, rfl, trivial⟩
      · replace h := bif_f hc12 h
        refine RegL.pureG (p := (pEq (.int .i64 x7.2))) rfl rfl rfl hc12 rfl rfl (J_move rfl (Opd.tmp rfl)) ?_
        refine RegL.pureG (p := (pEq (.int .i64 x3.2))) rfl rfl rfl hc12 rfl rfl (J_move rfl (Opd.tmp rfl)) ?_
        refine RegL.pureG (p := (pEq (.bool (x7.2 != x3.2)))) rfl rfl rfl hc12 rfl rfl (J_bin rfl (Opd.tmp rfl) (Opd.tmp rfl) B_neq) ?_
        refine RegL.pure (p := (pEq (.bool (x7.2 != x3.2)))) rfl rfl rfl (J_pick rfl (Opd.tmp rfl) (fun hf => absurd (hc12.symm.trans hf) (by decide)) (fun _ => (Opd.tmp rfl))) ?_
        refine RegL.nil ?_
        replace h := Option.some.inj h; subst h
        exact Ct.mid () rfl ⟨rfl, rfl, rfl, rfl, rfl, rfl, rfl, trivial⟩
    · clear hx10
      refine Ct.then_tr ?_
      refine Tr.weak (Γ' := [(0, (pSl 1 (cSl 1 (cK .i64)) a_0)), (4, (pSl 1 (cK .i64) x3.1)), (5, (pEq (.int .i64 x3.2))), (6, (pEq (.slice g5.1.1 g5.1.2.1 g5.1.2.2))), (7, (pEq (.slice g8.1 g8.2.1 g8.2.2))), (8, (pEq (.int .i64 x7.2))), (40, (pEq (.bool x10)))]) ⟨rfl, rfl, rfl, rfl, rfl, rfl, rfl, trivial⟩ ?_
      refine Tr.cond (Opd.tmp rfl) (fun hc => ?_) (fun hc => ?_)
      · replace h := bif_t hc h
        refine Tr.seq ?_
        refine Tr.region ?_
        refine RegL.pure (p := (pEq (.bool false))) rfl rfl rfl (J_assign rfl Opd.con) ?_
        refine RegL.nil ?_
        refine Ct.then_tr ?_
        refine Tr.weak (Γ' := [(2, (pEq (.bool false)))]) ⟨rfl, trivial⟩ ?_
        refine Tr.ret ?_
        refine Ct.then_ret ?_
        replace h := Option.some.inj h; subst h
        exact Ct.retH1 (Ωx := [oSl 2 1 (cK .i64) g8.1 g8.2.1 g8.2.2 x7.1, oSS 22 2 1 (cK .i64) g5.1.1 g5.1.2.1 g5.1.2.2 g5.2 x4]) () rfl (RvOk.tmp rfl) rfl
      · replace h := bif_f hc h
        refine Tr.skip ?_
        refine Ct.then_tr ?_
        refine Tr.weak (Γ' := [(0, (pSl 1 (cSl 1 (cK .i64)) a_0)), (4, (pSl 1 (cK .i64) x3.1)), (5, (pEq (.int .i64 x3.2))), (6, (pEq (.slice g5.1.1 g5.1.2.1 g5.1.2.2))), (7, (pEq (.slice g8.1 g8.2.1 g8.2.2))), (8, (pEq (.int .i64 x7.2)))]) ⟨rfl, rfl, rfl, rfl, rfl, rfl, trivial⟩ ?_
        refine Tr.seq ?_
        refine Tr.seq ?_
        refine Tr.region ?_
        refine RegL.pure (p := (pEq (.slice g5.1.1 g5.1.2.1 g5.1.2.2))) rfl rfl rfl (J_move rfl (Opd.tmp rfl)) ?_
        refine RegL.pure (p := (pSl 1 (cSl 1 (cK .i64)) a_0)) rfl rfl rfl (J_move rfl (Opd.tmp rfl)) ?_
        replace h := bind_some h; obtain ⟨x14, hx14, h⟩ := h
        refine RegL.pure (p := (pSl 1 (cSl 1 (cK .i64)) x14)) rfl rfl rfl (J_call rfl Try.call49 (c_laws_toInt64SS hx14) (Opds.cons (Opd.tmp rfl) Opds.nil)) ?_
        replace h := bind_some h; obtain ⟨x15, hx15, h⟩ := h
        refine RegL.pureW (p := (pEq (.bool x15))) rfl rfl rfl (W_call rfl Try.call51 (c_laws_eqInt64SS hx15) (OpdsA.cons (OpdA.conv rfl (Conv.nest 1 (fun _ => rfl) rfl)) (OpdsA.cons (OpdA.of (Opd.tmp rfl)) OpdsA.nil)) FreeP.eq) ?_
        refine RegL.pure (p := (pEq (.bool (!x15)))) rfl rfl rfl (J_not rfl (Opd.tmp rfl)) ?_
        refine RegL.nil ?_
        refine Ct.then_tr ?_
        refine Tr.weak (Γ' := [(0, (pSl 1 (cSl 1 (cK .i64)) a_0)), (4, (pSl 1 (cK .i64) x3.1)), (5, (pEq (.int .i64 x3.2))), (6, (pEq (.slice g5.1.1 g5.1.2.1 g5.1.2.2))), (7, (pEq (.slice g8.1 g8.2.1 g8.2.2))), (8, (pEq (.int .i64 x7.2))), (45, (pEq (.bool (!x15))))]) ⟨rfl, rfl, rfl, rfl, rfl, rfl, rfl, trivial⟩ ?_
        refine Tr.cond (Opd.tmp rfl) (fun hc => ?_) (fun hc => ?_)
        · replace h := bif_t hc h
          refine Tr.seq ?_
          refine Tr.region ?_
          refine RegL.pure (p := (pEq (.bool false))) rfl rfl rfl (J_assign rfl Opd.con) ?_
          refine RegL.nil ?_
          refine Ct.then_tr ?_
          refine Tr.weak (Γ' := [(2, (pEq (.bool false)))]) ⟨rfl, trivial⟩ ?_
          refine Tr.ret ?_
          refine Ct.then_ret ?_
          replace h := Option.some.inj h; subst h
          exact Ct.retH1 (Ωx := [oSl 2 1 (cK .i64) g8.1 g8.2.1 g8.2.2 x7.1, oSS 22 2 1 (cK .i64) g5.1.1 g5.1.2.1 g5.1.2.2 g5.2 x4]) () rfl (RvOk.tmp rfl) rfl
        · replace h := bif_f hc h
          refine Tr.skip ?_
          refine Ct.then_tr ?_
          refine Tr.weak (Γ' := [(0, (pSl 1 (cSl 1 (cK .i64)) a_0)), (4, (pSl 1 (cK .i64) x3.1)), (5, (pEq (.int .i64 x3.2))), (6, (pEq (.slice g5.1.1 g5.1.2.1 g5.1.2.2))), (7, (pEq (.slice g8.1 g8.2.1 g8.2.2))), (8, (pEq (.int .i64 x7.2)))]) ⟨rfl, rfl, rfl, rfl, rfl, rfl, trivial⟩ ?_
          refine Tr.seq ?_
          refine Tr.region ?_
          refine RegL.pure (p := (pEq (.int .i64 (1 : Int)))) rfl rfl rfl (J_assign rfl Opd.con) ?_
          refine RegL.nil ?_
          refine Ct.then_tr ?_
          refine Tr.weak (Γ' := [(0, (pSl 1 (cSl 1 (cK .i64)) a_0)), (4, (pSl 1 (cK .i64) x3.1)), (5, (pEq (.int .i64 x3.2))), (6, (pEq (.slice g5.1.1 g5.1.2.1 g5.1.2.2))), (7, (pEq (.slice g8.1 g8.2.1 g8.2.2))), (8, (pEq (.int .i64 x7.2))), (9, (pEq (.int .i64 (1 : Int))))]) ⟨rfl, rfl, rfl, rfl, rfl, rfl, rfl, trivial⟩ ?_
          refine Tr.seq ?_
          refine Tr.region ?_
          refine RegL.pure (p := (pEq (.slice g5.1.1 g5.1.2.1 g5.1.2.2))) rfl rfl rfl (J_move rfl (Opd.tmp rfl)) ?_
          refine RegL.pure (p := (pEq (.int .i64 (1 : Int)))) rfl rfl rfl (J_move rfl (Opd.tmp rfl)) ?_
          replace h := bind_some h; obtain ⟨x16, hx16, h⟩ := h
          refine RegL.re (Ω2 := [oSS 22 2 1 (cK .i64) g5.1.1 g5.1.2.1 g5.1.2.2 g5.2 x4, oSl 2 1 (cK .i64) g8.1 g8.2.1 g8.2.2 x7.1]) (fun h => SatO.pick 1 h) ?_
          refine RegL.step (γ := Unit) (p := fun g => (pEq (.int .i64 x16.1))) (Ω' := fun g => [oSS 22 2 1 (cK .i64) g5.1.1 g5.1.2.1 g5.1.2.2 g5.2 x16.2, oSl 2 1 (cK .i64) g8.1 g8.2.1 g8.2.2 x7.1]) rfl rfl rfl (M_callH (Ωi := [oSS 22 2 1 (cK .i64) g5.1.1 g5.1.2.1 g5.1.2.2 g5.2 x4]) rfl Try.call54 (o_laws_markInt64SS hx16) (Opds.cons (Opd.tmp rfl) (Opds.cons (Opd.tmp rfl) Opds.nil))) fun g17 => ?_
          refine RegL.pure (p := (pEq (.int .i64 x16.1))) rfl rfl rfl (J_assign rfl (Opd.tmp rfl)) ?_
          refine RegL.nil ?_
          refine Ct.then_tr ?_
          refine Tr.weak (Γ' := [(0, (pSl 1 (cSl 1 (cK .i64)) a_0)), (4, (pSl 1 (cK .i64) x3.1)), (5, (pEq (.int .i64 x3.2))), (7, (pEq (.slice g8.1 g8.2.1 g8.2.2))), (8, (pEq (.int .i64 x7.2))), (9, (pEq (.int .i64 x16.1)))]) ⟨rfl, rfl, rfl, rfl, rfl, rfl, trivial⟩ ?_
          refine Tr.seq ?_
          refine Tr.seq ?_
          replace h := bind_some h; obtain ⟨x18, hx18, h⟩ := h
          refine Tr.cut (γ := Unit) (Γm := fun g => [(0, (pSl 1 (cSl 1 (cK .i64)) a_0)), (4, (pSl 1 (cK .i64) x3.1)), (5, (pEq (.int .i64 x3.2))), (7, (pEq (.slice g8.1 g8.2.1 g8.2.2))), (61, (pEq (.bool x18)))]) (Ωm := fun g => [oSl 2 1 (cK .i64) g8.1 g8.2.1 g8.2.2 x7.1]) ?_ (fun g22 => ?_)
          · clear h
            have h := hx18
            clear hx18
            refine Tr.region ?_
            refine RegL.pure (p := (pEq (.int .i64 x16.1))) rfl rfl rfl (J_move rfl (Opd.tmp rfl)) ?_
            refine RegL.pure (p := (pEq (.bool (decide (x16.1 < (0 : Int)))))) rfl rfl rfl (J_bin rfl (Opd.tmp rfl) Opd.con B_lss) ?_
            refine RegL.pure (p := (pEq (.bool (decide (x16.1 < (0 : Int)))))) rfl rfl rfl (J_move rfl (Opd.tmp rfl)) ?_
            rcases Bool.eq_false_or_eq_true (decide (x16.1 < (0 : Int))) with hc19 | hc19
            · replace h := bif_t hc19 h
              refine RegL.skipG rfl rfl rfl hc19 rfl rfl ?_
              refine RegL.skipG rfl rfl rfl hc19 rfl rfl ?_
              refine RegL.skipG rfl rfl rfl hc19 rfl rfl ?_
              refine RegL.skipG rfl rfl rfl hc19 rfl rfl ?_
              refine RegL.pure (p := (pEq (.bool true))) rfl rfl rfl (J_pick rfl (Opd.tmp rfl) (fun _ => Opd.con) (fun hf => absurd (hc19.symm.trans hf) (by decide))) ?_
              refine RegL.pure (p := (pEq (.bool true))) rfl rfl rfl (J_move rfl (Opd.tmp rfl)) ?_
              refine RegL.skipG rfl rfl rfl rfl rfl rfl ?_
              refine RegL.skipG rfl rfl rfl rfl rfl rfl ?_
              refine RegL.skipG rfl rfl rfl rfl rfl rfl ?_
              refine RegL.pure (p := (pEq (.bool true))) rfl rfl rfl (J_pick rfl (Opd.tmp rfl) (fun _ => Opd.con) (fun hf => absurd hf (by decide))) ?_
              refine RegL.nil ?_
              refine Ct.re (Ω2 := [oSl 2 1 (cK .i64) g8.1 g8.2.1 g8.2.2 x7.1]) (fun h => SatO.rest h) ?_
              replace h := Option.some.inj h; subst h
              exact Ct.mid () rfl ⟨rfl, rfl, rfl, rfl, rfl, trivial⟩
            · replace h := bif_f hc19 h
              refine RegL.pureG (p := (pEq (.slice g8.1 g8.2.1 g8.2.2))) rfl rfl rfl hc19 rfl rfl (J_move rfl (Opd.tmp rfl)) ?_
              refine RegL.pureG (p := (pSl 1 (cK .i64) x3.1)) rfl rfl rfl hc19 rfl rfl (J_move rfl (Opd.tmp rfl)) ?_
              replace h := bind_some h; obtain ⟨x20, hx20, h⟩ := h
              refine RegL.pureGW (p := (pEq (.bool x20))) rfl rfl rfl hc19 rfl rfl (W_call rfl Try.call18 (c_laws_eqInt64S hx20) (OpdsA.cons (OpdA.conv rfl (Conv.row 1 (fun _ => rfl) rfl)) (OpdsA.cons (OpdA.of (Opd.tmp rfl)) OpdsA.nil)) FreeP.eq) ?_
              refine RegL.pureG (p := (pEq (.bool (!x20)))) rfl rfl rfl hc19 rfl rfl (J_not rfl (Opd.tmp rfl)) ?_
              refine RegL.pure (p := (pEq (.bool (!x20)))) rfl rfl rfl (J_pick rfl (Opd.tmp rfl) (fun hf => absurd (hc19.symm.trans hf) (by decide)) (fun _ => (Opd.tmp rfl))) ?_
              refine RegL.pure (p := (pEq (.bool (!x20)))) rfl rfl rfl (J_move rfl (Opd.tmp rfl)) ?_
              rcases Bool.eq_false_or_eq_true (!x20) with hc21 | hc21
              · replace h := bif_t hc21 h
                refine RegL.skipG rfl rfl rfl hc21 rfl rfl ?_
                refine RegL.skipG rfl rfl rfl hc21 rfl rfl ?_
                refine RegL.skipG rfl rfl rfl hc21 rfl rfl ?_
                refine RegL.pure (p := (pEq (.bool true))) rfl rfl rfl (J_pick rfl (Opd.tmp rfl) (fun _ => Opd.con) (fun hf => absurd (hc21.symm.trans hf) (by decide))) ?_
                refine RegL.nil ?_
                refine Ct.re (Ω2 := [oSl 2 1 (cK .i64) g8.1 g8.2.1 g8.2.2 x7.1]) (fun h => SatO.rest h) ?_
                replace h := Option.some.inj h; subst h
                exact Ct.mid () rfl ⟨rfl, rfl, rfl, rfl, rfl, trivial⟩
              · replace h := bif_f hc21 h
                refine RegL.pureG (p := (pEq (.int .i64 x7.2))) rfl rfl rfl hc21 rfl rfl (J_move rfl (Opd.tmp rfl)) ?_
                refine RegL.pureG (p := (pEq (.int .i64 x3.2))) rfl rfl rfl hc21 rfl rfl (J_move rfl (Opd.tmp rfl)) ?_
                refine RegL.pureG (p := (pEq (.bool (x7.2 != x3.2)))) rfl rfl rfl hc21 rfl rfl (J_bin rfl (Opd.tmp rfl) (Opd.tmp rfl) B_neq) ?_
                refine RegL.pure (p := (pEq (.bool (x7.2 != x3.2)))) rfl rfl rfl (J_pick rfl (Opd.tmp rfl) (fun hf => absurd (hc21.symm.trans hf) (by decide)) (fun _ => (Opd.tmp rfl))) ?_
                refine RegL.nil ?_
                refine Ct.re (Ω2 := [oSl 2 1 (cK .i64) g8.1 g8.2.1 g8.2.2 x7.1]) (fun h => SatO.rest h) ?_
                replace h := Option.some.inj h; subst h
                exact Ct.mid () rfl ⟨rfl, rfl, rfl, rfl, rfl, trivial⟩
          · clear hx18
            refine Ct.then_tr ?_
            refine Tr.weak (Γ' := [(0, (pSl 1 (cSl 1 (cK .i64)) a_0)), (4, (pSl 1 (cK .i64) x3.1)), (5, (pEq (.int .i64 x3.2))), (7, (pEq (.slice g8.1 g8.2.1 g8.2.2))), (61, (pEq (.bool x18)))]) ⟨rfl, rfl, rfl, rfl, rfl, trivial⟩ ?_
            refine Tr.cond (Opd.tmp rfl) (fun hc => ?_) (fun hc => ?_)
            · replace h := bif_t hc h
              refine Tr.seq ?_
              refine Tr.region ?_
              refine RegL.pure (p := (pEq (.bool false))) rfl rfl rfl (J_assign rfl Opd.con) ?_
              refine RegL.nil ?_
              refine Ct.then_tr ?_
              refine Tr.weak (Γ' := [(2, (pEq (.bool false)))]) ⟨rfl, trivial⟩ ?_
              refine Tr.ret ?_
              refine Ct.then_ret ?_
              replace h := Option.some.inj h; subst h
              exact Ct.retH1 (Ωx := [oSl 2 1 (cK .i64) g8.1 g8.2.1 g8.2.2 x7.1]) () rfl (RvOk.tmp rfl) rfl
            · replace h := bif_f hc h
              refine Tr.skip ?_
              refine Ct.then_tr ?_
              refine Tr.weak (Γ' := [(0, (pSl 1 (cSl 1 (cK .i64)) a_0)), (4, (pSl 1 (cK .i64) x3.1)), (5, (pEq (.int .i64 x3.2))), (7, (pEq (.slice g8.1 g8.2.1 g8.2.2)))]) ⟨rfl, rfl, rfl, rfl, trivial⟩ ?_
              refine Tr.seq ?_
              refine Tr.region ?_
              refine RegL.pure (p := (pEq (.int .i64 (1 : Int)))) rfl rfl rfl (J_assign rfl Opd.con) ?_
              refine RegL.nil ?_
              refine Ct.then_tr ?_
              refine Tr.weak (Γ' := [(0, (pSl 1 (cSl 1 (cK .i64)) a_0)), (4, (pSl 1 (cK .i64) x3.1)), (5, (pEq (.int .i64 x3.2))), (7, (pEq (.slice g8.1 g8.2.1 g8.2.2))), (10, (pEq (.int .i64 (1 : Int))))]) ⟨rfl, rfl, rfl, rfl, rfl, trivial⟩ ?_
              refine Tr.seq ?_
              refine Tr.region ?_
              refine RegL.pure (p := (pEq (.slice g8.1 g8.2.1 g8.2.2))) rfl rfl rfl (J_move rfl (Opd.tmp rfl)) ?_
              refine RegL.pure (p := (pEq (.int .i64 (1 : Int)))) rfl rfl rfl (J_move rfl (Opd.tmp rfl)) ?_
              replace h := bind_some h; obtain ⟨x23, hx23, h⟩ := h
              refine RegL.step (γ := Unit) (p := fun g => (pEq (.int .i64 x23.1))) (Ω' := fun g => [oSl 2 1 (cK .i64) g8.1 g8.2.1 g8.2.2 x23.2]) rfl rfl rfl (M_callH (Ωi := [oSl 2 1 (cK .i64) g8.1 g8.2.1 g8.2.2 x7.1]) rfl Try.call27 (o_laws_markInt64S hx23) (Opds.cons (Opd.tmp rfl) (Opds.cons (Opd.tmp rfl) Opds.nil))) fun g24 => ?_
              refine RegL.pure (p := (pEq (.int .i64 x23.1))) rfl rfl rfl (J_assign rfl (Opd.tmp rfl)) ?_
              refine RegL.nil ?_
              refine Ct.then_tr ?_
              refine Tr.weak (Γ' := [(0, (pSl 1 (cSl 1 (cK .i64)) a_0)), (4, (pSl 1 (cK .i64) x3.1)), (5, (pEq (.int .i64 x3.2))), (7, (pEq (.slice g8.1 g8.2.1 g8.2.2))), (10, (pEq (.int .i64 x23.1)))]) ⟨rfl, rfl, rfl, rfl, rfl, trivial⟩ ?_
              refine Tr.seq ?_
              refine Tr.region ?_
              refine RegL.pure (p := (pEq (.int .i64 (1 : Int)))) rfl rfl rfl (J_assign rfl Opd.con) ?_
              refine RegL.nil ?_
              refine Ct.then_tr ?_
              refine Tr.weak (Γ' := [(0, (pSl 1 (cSl 1 (cK .i64)) a_0)), (4, (pSl 1 (cK .i64) x3.1)), (5, (pEq (.int .i64 x3.2))), (7, (pEq (.slice g8.1 g8.2.1 g8.2.2))), (10, (pEq (.int .i64 x23.1))), (11, (pEq (.int .i64 (1 : Int))))]) ⟨rfl, rfl, rfl, rfl, rfl, rfl, trivial⟩ ?_
              refine Tr.seq ?_
              refine Tr.region ?_
              refine RegL.pure (p := (pEq (.slice g8.1 g8.2.1 g8.2.2))) rfl rfl rfl (J_move rfl (Opd.tmp rfl)) ?_
              refine RegL.pure (p := (pEq (.int .i64 (1 : Int)))) rfl rfl rfl (J_move rfl (Opd.tmp rfl)) ?_
              replace h := bind_some h; obtain ⟨x25, hx25, h⟩ := h
              refine RegL.pureW (p := (pEq (.int .i64 x25))) rfl rfl rfl (W_call rfl Try.call28 (c_laws_heldInt64S hx25) (OpdsA.cons (OpdA.conv rfl (Conv.row 0 (fun _ => rfl) rfl)) (OpdsA.cons (OpdA.of (Opd.tmp rfl)) OpdsA.nil)) FreeP.eq) ?_
              refine RegL.pure (p := (pEq (.int .i64 x25))) rfl rfl rfl (J_assign rfl (Opd.tmp rfl)) ?_
              refine RegL.nil ?_
              refine Ct.then_tr ?_
              refine Tr.weak (Γ' := [(0, (pSl 1 (cSl 1 (cK .i64)) a_0)), (4, (pSl 1 (cK .i64) x3.1)), (5, (pEq (.int .i64 x3.2))), (7, (pEq (.slice g8.1 g8.2.1 g8.2.2))), (10, (pEq (.int .i64 x23.1))), (11, (pEq (.int .i64 x25)))]) ⟨rfl, rfl, rfl, rfl, rfl, rfl, trivial⟩ ?_
              refine Tr.seq ?_
              refine Tr.seq ?_
              refine Tr.region ?_
              refine RegL.pure (p := (pEq (.int .i64 x25))) rfl rfl rfl (J_move rfl (Opd.tmp rfl)) ?_
              refine RegL.pure (p := (pEq (.bool (decide (x25 < (0 : Int)))))) rfl rfl rfl (J_bin rfl (Opd.tmp rfl) Opd.con B_lss) ?_
              refine RegL.nil ?_
              refine Ct.then_tr ?_
              refine Tr.weak (Γ' := [(0, (pSl 1 (cSl 1 (cK .i64)) a_0)), (4, (pSl 1 (cK .i64) x3.1)), (5, (pEq (.int .i64 x3.2))), (7, (pEq (.slice g8.1 g8.2.1 g8.2.2))), (10, (pEq (.int .i64 x23.1))), (11, (pEq (.int .i64 x25))), (69, (pEq (.bool (decide (x25 < (0 : Int))))))]) ⟨rfl, rfl, rfl, rfl, rfl, rfl, rfl, trivial⟩ ?_
              refine Tr.cond (Opd.tmp rfl) (fun hc => ?_) (fun hc => ?_)
              · replace h := bif_t hc h
                refine Tr.seq ?_
                refine Tr.region ?_
                refine RegL.pure (p := (pEq (.bool false))) rfl rfl rfl (J_assign rfl Opd.con) ?_
                refine RegL.nil ?_
                refine Ct.then_tr ?_
                refine Tr.weak (Γ' := [(2, (pEq (.bool false)))]) ⟨rfl, trivial⟩ ?_
                refine Tr.ret ?_
                refine Ct.then_ret ?_
                replace h := Option.some.inj h; subst h
                exact Ct.retH1 (Ωx := [oSl 2 1 (cK .i64) g8.1 g8.2.1 g8.2.2 x23.2]) () rfl (RvOk.tmp rfl) rfl
              · replace h := bif_f hc h
                refine Tr.skip ?_
                refine Ct.then_tr ?_
                refine Tr.weak (Γ' := [(0, (pSl 1 (cSl 1 (cK .i64)) a_0)), (4, (pSl 1 (cK .i64) x3.1)), (5, (pEq (.int .i64 x3.2))), (7, (pEq (.slice g8.1 g8.2.1 g8.2.2))), (10, (pEq (.int .i64 x23.1))), (11, (pEq (.int .i64 x25)))]) ⟨rfl, rfl, rfl, rfl, rfl, rfl, trivial⟩ ?_
                refine Tr.seq ?_
                refine Tr.seq ?_
                refine Tr.region ?_
                refine RegL.pure (p := (pEq (.int .i64 x25))) rfl rfl rfl (J_move rfl (Opd.tmp rfl)) ?_
                refine RegL.pure (p := (pEq (.int .i64 x23.1))) rfl rfl rfl (J_move rfl (Opd.tmp rfl)) ?_
                refine RegL.pure (p := (pEq (.bool (x25 != x23.1)))) rfl rfl rfl (J_bin rfl (Opd.tmp rfl) (Opd.tmp rfl) B_neq) ?_
                refine RegL.nil ?_
                refine Ct.then_tr ?_
                refine Tr.weak (Γ' := [(0, (pSl 1 (cSl 1 (cK .i64)) a_0)), (4, (pSl 1 (cK .i64) x3.1)), (5, (pEq (.int .i64 x3.2))), (7, (pEq (.slice g8.1 g8.2.1 g8.2.2))), (10, (pEq (.int .i64 x23.1))), (72, (pEq (.bool (x25 != x23.1))))]) ⟨rfl, rfl, rfl, rfl, rfl, rfl, trivial⟩ ?_
                refine Tr.cond (Opd.tmp rfl) (fun hc => ?_) (fun hc => ?_)
                · replace h := bif_t hc h
                  refine Tr.seq ?_
                  refine Tr.region ?_
                  refine RegL.pure (p := (pEq (.bool false))) rfl rfl rfl (J_assign rfl Opd.con) ?_
                  refine RegL.nil ?_
                  refine Ct.then_tr ?_
                  refine Tr.weak (Γ' := [(2, (pEq (.bool false)))]) ⟨rfl, trivial⟩ ?_
                  refine Tr.ret ?_
                  refine Ct.then_ret ?_
                  replace h := Option.some.inj h; subst h
                  exact Ct.retH1 (Ωx := [oSl 2 1 (cK .i64) g8.1 g8.2.1 g8.2.2 x23.2]) () rfl (RvOk.tmp rfl) rfl
                · replace h := bif_f hc h
                  refine Tr.skip ?_
                  refine Ct.then_tr ?_
                  refine Tr.weak (Γ' := [(0, (pSl 1 (cSl 1 (cK .i64)) a_0)), (4, (pSl 1 (cK .i64) x3.1)), (5, (pEq (.int .i64 x3.2))), (7, (pEq (.slice g8.1 g8.2.1 g8.2.2))), (10, (pEq (.int .i64 x23.1)))]) ⟨rfl, rfl, rfl, rfl, rfl, trivial⟩ ?_
                  refine Tr.seq ?_
                  refine Tr.region ?_
                  refine RegL.pure (p := (pSl 1 (cSl 1 (cK .i64)) a_0)) rfl rfl rfl (J_move rfl (Opd.tmp rfl)) ?_
                  replace h := bind_some h; obtain ⟨x26, hx26, h⟩ := h
                  refine RegL.pure (p := (pSl 1 (cSl 1 (cK .i64)) x26)) rfl rfl rfl (J_call rfl Try.call49 (c_laws_toInt64SS hx26) (Opds.cons (Opd.tmp rfl) Opds.nil)) ?_
                  replace h := bind_some h; obtain ⟨x27, hx27, h⟩ := h
                  refine RegL.pure (p := (pTup [(pSl 1 (cK .i64) x27.1), (pEq (.int .i64 x27.2))])) rfl rfl rfl (J_call rfl Try.call53 (c_impl_ServersOf hx27) (Opds.cons (Opd.tmp rfl) Opds.nil)) ?_
                  refine RegL.pure (p := (pTup [(pSl 1 (cK .i64) x27.1), (pEq (.int .i64 x27.2))])) rfl rfl rfl (J_move rfl (Opd.tmp rfl)) ?_
                  refine RegL.pure (p := (pSl 1 (cK .i64) x27.1)) rfl rfl rfl (J_extract rfl (Opd.tmp rfl) rfl) ?_
                  refine RegL.pure (p := (pEq (.int .i64 x27.2))) rfl rfl rfl (J_extract rfl (Opd.tmp rfl) rfl) ?_
                  refine RegL.pure (p := (pSl 1 (cK .i64) x27.1)) rfl rfl rfl (J_assign rfl (Opd.tmp rfl)) ?_
                  refine RegL.pure (p := (pEq (.int .i64 x27.2))) rfl rfl rfl (J_assign rfl (Opd.tmp rfl)) ?_
                  refine RegL.nil ?_
                  refine Ct.then_tr ?_
                  refine Tr.weak (Γ' := [(4, (pSl 1 (cK .i64) x3.1)), (5, (pEq (.int .i64 x3.2))), (7, (pEq (.slice g8.1 g8.2.1 g8.2.2))), (10, (pEq (.int .i64 x23.1))), (12, (pSl 1 (cK .i64) x27.1)), (13, (pEq (.int .i64 x27.2)))]) ⟨rfl, rfl, rfl, rfl, rfl, rfl, trivial⟩ ?_
                  refine Tr.seq ?_
                  refine Tr.seq ?_
                  replace h := bind_some h; obtain ⟨x28, hx28, h⟩ := h
                  refine Tr.cut (γ := Unit) (Γm := fun g => [(7, (pEq (.slice g8.1 g8.2.1 g8.2.2))), (10, (pEq (.int .i64 x23.1))), (87, (pEq (.bool x28)))]) (Ωm := fun g => [oSl 2 1 (cK .i64) g8.1 g8.2.1 g8.2.2 x23.2]) ?_ (fun g31 => ?_)
                  · clear h
                    have h := hx28
                    clear hx28
                    refine Tr.region ?_
                    refine RegL.pure (p := (pSl 1 (cK .i64) x27.1)) rfl rfl rfl (J_move rfl (Opd.tmp rfl)) ?_
                    refine RegL.pure (p := (pSl 1 (cK .i64) x3.1)) rfl rfl rfl (J_move rfl (Opd.tmp rfl)) ?_
                    replace h := bind_some h; obtain ⟨x29, hx29, h⟩ := h
                    refine RegL.pure (p := (pEq (.bool x29))) rfl rfl rfl (J_call rfl Try.call18 (c_laws_eqInt64S hx29) (Opds.cons (Opd.tmp rfl) (Opds.cons (Opd.tmp rfl) Opds.nil))) ?_
                    refine RegL.pure (p := (pEq (.bool (!x29)))) rfl rfl rfl (J_not rfl (Opd.tmp rfl)) ?_
                    refine RegL.pure (p := (pEq (.bool (!x29)))) rfl rfl rfl (J_move rfl (Opd.tmp rfl)) ?_
                    rcases Bool.eq_false_or_eq_true (!x29) with hc30 | hc30
                    · replace h := bif_t hc30 h
                      refine RegL.skipG rfl rfl rfl hc30 rfl rfl ?_
                      refine RegL.skipG rfl rfl rfl hc30 rfl rfl ?_
                      refine RegL.skipG rfl rfl rfl hc30 rfl rfl ?_
                      refine RegL.pure (p := (pEq (.bool true))) rfl rfl rfl (J_pick rfl (Opd.tmp rfl) (fun _ => Opd.con) (fun hf => absurd (hc30.symm.trans hf) (by decide))) ?_
                      refine RegL.nil ?_
                      replace h := Option.some.inj h; subst h
                      exact Ct.mid () rfl ⟨rfl, rfl, rfl, trivial⟩
                    · replace h := bif_f hc30 h
                      refine RegL.pureG (p := (pEq (.int .i64 x27.2))) rfl rfl rfl hc30 rfl rfl (J_move rfl (Opd.tmp rfl)) ?_
                      refine RegL.pureG (p := (pEq (.int .i64 x3.2))) rfl rfl rfl hc30 rfl rfl (J_move rfl (Opd.tmp rfl)) ?_
                      refine RegL.pureG (p := (pEq (.bool (x27.2 != x3.2)))) rfl rfl rfl hc30 rfl rfl (J_bin rfl (Opd.tmp rfl) (Opd.tmp rfl) B_neq) ?_
                      refine RegL.pure (p := (pEq (.bool (x27.2 != x3.2)))) rfl rfl rfl (J_pick rfl (Opd.tmp rfl) (fun hf => absurd (hc30.symm.trans hf) (by decide)) (fun _ => (Opd.tmp rfl))) ?_
                      refine RegL.nil ?_
                      replace h := Option.some.inj h; subst h
                      exact Ct.mid () rfl ⟨rfl, rfl, rfl, trivial⟩
                  · clear hx28
                    refine Ct.then_tr ?_
                    refine Tr.weak (Γ' := [(7, (pEq (.slice g8.1 g8.2.1 g8.2.2))), (10, (pEq (.int .i64 x23.1))), (87, (pEq (.bool x28)))]) ⟨rfl, rfl, rfl, trivial⟩ ?_
                    refine Tr.cond (Opd.tmp rfl) (fun hc => ?_) (fun hc => ?_)
                    · replace h := bif_t hc h
                      refine Tr.seq ?_
                      refine Tr.region ?_
                      refine RegL.pure (p := (pEq (.bool false))) rfl rfl rfl (J_assign rfl Opd.con) ?_
                      refine RegL.nil ?_
                      refine Ct.then_tr ?_
                      refine Tr.weak (Γ' := [(2, (pEq (.bool false)))]) ⟨rfl, trivial⟩ ?_
                      refine Tr.ret ?_
                      refine Ct.then_ret ?_
                      replace h := Option.some.inj h; subst h
                      exact Ct.retH1 (Ωx := [oSl 2 1 (cK .i64) g8.1 g8.2.1 g8.2.2 x23.2]) () rfl (RvOk.tmp rfl) rfl
                    · replace h := bif_f hc h
                      refine Tr.skip ?_
                      refine Ct.then_tr ?_
                      refine Tr.weak (Γ' := [(7, (pEq (.slice g8.1 g8.2.1 g8.2.2))), (10, (pEq (.int .i64 x23.1)))]) ⟨rfl, rfl, trivial⟩ ?_
                      refine Tr.seq ?_
                      refine Tr.region ?_
                      refine RegL.pure (p := (pEq (.int .i64 (1 : Int)))) rfl rfl rfl (J_assign rfl Opd.con) ?_
                      refine RegL.nil ?_
                      refine Ct.then_tr ?_
                      refine Tr.weak (Γ' := [(7, (pEq (.slice g8.1 g8.2.1 g8.2.2))), (10, (pEq (.int .i64 x23.1))), (11, (pEq (.int .i64 (1 : Int))))]) ⟨rfl, rfl, rfl, trivial⟩ ?_
                      refine Tr.seq ?_
                      refine Tr.region ?_
                      refine RegL.pure (p := (pEq (.slice g8.1 g8.2.1 g8.2.2))) rfl rfl rfl (J_move rfl (Opd.tmp rfl)) ?_
                      refine RegL.pure (p := (pEq (.int .i64 (1 : Int)))) rfl rfl rfl (J_move rfl (Opd.tmp rfl)) ?_
                      replace h := bind_some h; obtain ⟨x32, hx32, h⟩ := h
                      refine RegL.pureW (p := (pEq (.int .i64 x32))) rfl rfl rfl (W_call rfl Try.call28 (c_laws_heldInt64S hx32) (OpdsA.cons (OpdA.conv rfl (Conv.row 0 (fun _ => rfl) rfl)) (OpdsA.cons (OpdA.of (Opd.tmp rfl)) OpdsA.nil)) FreeP.eq) ?_
                      refine RegL.pure (p := (pEq (.int .i64 x32))) rfl rfl rfl (J_assign rfl (Opd.tmp rfl)) ?_
                      refine RegL.nil ?_
                      refine Ct.then_tr ?_
                      refine Tr.weak (Γ' := [(10, (pEq (.int .i64 x23.1))), (11, (pEq (.int .i64 x32)))]) ⟨rfl, rfl, trivial⟩ ?_
                      refine Tr.seq ?_
                      refine Tr.seq ?_
                      refine Tr.region ?_
                      refine RegL.pure (p := (pEq (.int .i64 x32))) rfl rfl rfl (J_move rfl (Opd.tmp rfl)) ?_
                      refine RegL.pure (p := (pEq (.bool (decide (x32 < (0 : Int)))))) rfl rfl rfl (J_bin rfl (Opd.tmp rfl) Opd.con B_lss) ?_
                      refine RegL.nil ?_
                      refine Ct.then_tr ?_
                      refine Tr.weak (Γ' := [(10, (pEq (.int .i64 x23.1))), (11, (pEq (.int .i64 x32))), (92, (pEq (.bool (decide (x32 < (0 : Int))))))]) ⟨rfl, rfl, rfl, trivial⟩ ?_
                      refine Tr.cond (Opd.tmp rfl) (fun hc => ?_) (fun hc => ?_)
                      · replace h := bif_t hc h
                        refine Tr.seq ?_
                        refine Tr.region ?_
                        refine RegL.pure (p := (pEq (.bool false))) rfl rfl rfl (J_assign rfl Opd.con) ?_
                        refine RegL.nil ?_
                        refine Ct.then_tr ?_
                        refine Tr.weak (Γ' := [(2, (pEq (.bool false)))]) ⟨rfl, trivial⟩ ?_
                        refine Tr.ret ?_
                        refine Ct.then_ret ?_
                        replace h := Option.some.inj h; subst h
                        exact Ct.retH1 (Ωx := [oSl 2 1 (cK .i64) g8.1 g8.2.1 g8.2.2 x23.2]) () rfl (RvOk.tmp rfl) rfl
                      · replace h := bif_f hc h
                        refine Tr.skip ?_
                        refine Ct.then_tr ?_
                        refine Tr.weak (Γ' := [(10, (pEq (.int .i64 x23.1))), (11, (pEq (.int .i64 x32)))]) ⟨rfl, rfl, trivial⟩ ?_
                        refine Tr.seq ?_
                        refine Tr.seq ?_
                        refine Tr.region ?_
                        refine RegL.pure (p := (pEq (.int .i64 x32))) rfl rfl rfl (J_move rfl (Opd.tmp rfl)) ?_
                        refine RegL.pure (p := (pEq (.int .i64 x23.1))) rfl rfl rfl (J_move rfl (Opd.tmp rfl)) ?_
                        refine RegL.pure (p := (pEq (.bool (x32 != x23.1)))) rfl rfl rfl (J_bin rfl (Opd.tmp rfl) (Opd.tmp rfl) B_neq) ?_
                        refine RegL.nil ?_
                        refine Ct.then_tr ?_
                        refine Tr.weak (Γ' := [(95, (pEq (.bool (x32 != x23.1))))]) ⟨rfl, trivial⟩ ?_
                        refine Tr.cond (Opd.tmp rfl) (fun hc => ?_) (fun hc => ?_)
                        · replace h := bif_t hc h
                          refine Tr.seq ?_
                          refine Tr.region ?_
                          refine RegL.pure (p := (pEq (.bool false))) rfl rfl rfl (J_assign rfl Opd.con) ?_
                          refine RegL.nil ?_
                          refine Ct.then_tr ?_
                          refine Tr.weak (Γ' := [(2, (pEq (.bool false)))]) ⟨rfl, trivial⟩ ?_
                          refine Tr.ret ?_
                          refine Ct.then_ret ?_
                          replace h := Option.some.inj h; subst h
                          exact Ct.retH1 (Ωx := [oSl 2 1 (cK .i64) g8.1 g8.2.1 g8.2.2 x23.2]) () rfl (RvOk.tmp rfl) rfl
                        · replace h := bif_f hc h
                          refine Tr.skip ?_
                          refine Ct.then_tr ?_
                          refine Tr.weak (Γ' := []) trivial ?_
                          refine Tr.seq ?_
                          refine Tr.region ?_
                          refine RegL.pure (p := (pEq (.bool true))) rfl rfl rfl (J_assign rfl Opd.con) ?_
                          refine RegL.nil ?_
                          refine Ct.then_tr ?_
                          refine Tr.weak (Γ' := [(2, (pEq (.bool true)))]) ⟨rfl, trivial⟩ ?_
                          refine Tr.ret ?_
                          replace h := Option.some.inj h; subst h
                          exact Ct.retH1 (Ωx := [oSl 2 1 (cK .i64) g8.1 g8.2.1 g8.2.2 x23.2]) () rfl (RvOk.tmp rfl) rfl

end Go.Proofs.Ytdilkjbhbglpbaa.fnExactServersOfW
