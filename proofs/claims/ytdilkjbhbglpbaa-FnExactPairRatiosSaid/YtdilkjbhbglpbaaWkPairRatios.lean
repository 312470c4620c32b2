/-
  The walks that the law FnExactPairRatios reaches: each function computes its model. Printed by our own program.
-/
import Derived.Test.YtdilkjbhbglpbaaProg
import Derived.Test.YtdilkjbhbglpbaaMod
import Derived.Test.YtdilkjbhbglpbaaCopy
import Derived.KernelRfl
import Derived.Test.YtdilkjbhbglpbaaWkPairRatiosa
namespace Go.Proofs.Ytdilkjbhbglpbaa.fnExactPairRatiosW
open Go Go.RowKit Go.Wk
set_option linter.unusedVariables false
set_option maxRecDepth 100000


theorem o_laws_markInt64SS {a_0 : (List (List Int))} {k_1 : Int} {ho0 : Option Addr} {hn0 hc0 : Nat} {hh0 : List G3} {r : (Int × (List (List Int)))} (h : m_laws_markInt64SS a_0 k_1 = some r) : CallH Try.prog 54 [(pEq (.slice ho0 hn0 hc0)), (pEq (.int .i64 k_1))] [oSS 22 2 1 (cK .i64) ho0 hn0 hc0 hh0 a_0] (fun g : Unit => (pEq (.int .i64 r.1))) (fun g : Unit => [oSS 22 2 1 (cK .i64) ho0 hn0 hc0 hh0 r.2]) := by
  unfold m_laws_markInt64SS at h
  refine CallH.enter Try.func54 rfl Try.ntmps54 rfl fun W I0 H => ?_
  refine Tr.weak (Γ' := [(0, (pEq (.slice ho0 hn0 hc0))), (1, (pEq (.int .i64 k_1)))]) ⟨rfl, rfl, trivial⟩ ?_
  refine Tr.seq ?_
  refine Tr.region ?_
  refine RegL.pure (p := (pEq (.int .i64 (0 : Int)))) rfl rfl rfl (J_assign rfl Opd.con) ?_
  refine RegL.nil ?_
  refine Ct.then_tr ?_
  refine Tr.weak (Γ' := [(0, (pEq (.slice ho0 hn0 hc0))), (1, (pEq (.int .i64 k_1)))]) ⟨rfl, rfl, trivial⟩ ?_
  refine Tr.seq ?_
  refine Tr.seq ?_
  refine Tr.region ?_
  refine RegL.pure (p := (pEq (.int .i64 (0 : Int)))) rfl rfl rfl (J_assign rfl Opd.con) ?_
  refine RegL.nil ?_
  refine Ct.then_tr ?_
  refine Tr.weak (Γ' := [(0, (pEq (.slice ho0 hn0 hc0))), (1, (pEq (.int .i64 k_1))), (5, (pEq (.int .i64 (0 : Int))))]) ⟨rfl, rfl, rfl, trivial⟩ ?_
  replace h := bind_some h; obtain ⟨x2, hx2, h⟩ := h
  refine Tr.cut (γ := Unit) (Γm := fun g => [(1, (pEq (.int .i64 x2.1)))]) (Ωm := fun g => [oSS 22 2 1 (cK .i64) ho0 hn0 hc0 hh0 x2.2]) ?_ (fun g12 => ?_)
  · clear h
    have h := hx2
    clear hx2
    refine Tr.block ?_
    refine Tr.weak (Γ' := [(0, (pEq (.slice ho0 hn0 hc0))), (1, (pEq (.int .i64 k_1))), (5, (pEq (.int .i64 (0 : Int))))]) ⟨rfl, rfl, rfl, trivial⟩ ?_
    refine Tr.loop (γ := Unit) (σ := (Int × Int × (List (List Int)))) (Γσ := fun s g => [(0, (pEq (.slice ho0 hn0 hc0))), (1, (pEq (.int .i64 s.1))), (5, (pEq (.int .i64 s.2.1)))]) (Ωσ := fun s g => [oSS 22 2 1 (cK .i64) ho0 hn0 hc0 hh0 s.2.2]) (g := ()) h ?_
    clear h
    rintro ⟨v4, v5, v6⟩ g7 t h
    replace h : m_laws_markInt64SS_B3  v4 v5 v6 = some t := h
    unfold m_laws_markInt64SS_B3 at h
    refine Tr.weakO (Γ' := [(0, (pEq (.slice ho0 hn0 hc0))), (1, (pEq (.int .i64 v4))), (5, (pEq (.int .i64 v5)))]) (Ω' := [oSS 22 2 1 (cK .i64) ho0 hn0 hc0 hh0 v6]) rfl ⟨rfl, rfl, rfl, trivial⟩ ?_
    refine Tr.seq ?_
    refine Tr.seq ?_
    refine Tr.region ?_
    refine RegL.pure (p := (pEq (.int .i64 v5))) rfl rfl rfl (J_move rfl (Opd.tmp rfl)) ?_
    refine RegL.pure (p := (pEq (.slice ho0 hn0 hc0))) rfl rfl rfl (J_move rfl (Opd.tmp rfl)) ?_
    refine RegL.pureW (p := (pEq (.int .i64 (v6.length : Int)))) rfl rfl rfl (W_nestLen (j := 0) rfl Try.underlying68 (Opd.tmp rfl) rfl) ?_
    refine RegL.pure (p := (pEq (.bool (decide (v5 < (v6.length : Int)))))) rfl rfl rfl (J_bin rfl (Opd.tmp rfl) (Opd.tmp rfl) B_lss) ?_
    refine RegL.nil ?_
    refine Ct.then_tr ?_
    refine Tr.weak (Γ' := [(0, (pEq (.slice ho0 hn0 hc0))), (1, (pEq (.int .i64 v4))), (5, (pEq (.int .i64 v5))), (9, (pEq (.bool (decide (v5 < (v6.length : Int))))))]) ⟨rfl, rfl, rfl, rfl, trivial⟩ ?_
    refine Tr.cond (Opd.tmp rfl) (fun hc => ?_) (fun hc => ?_)
    · replace h := bif_t hc h
      refine Tr.skip ?_
      refine Ct.then_tr ?_
      refine Tr.weak (Γ' := [(0, (pEq (.slice ho0 hn0 hc0))), (1, (pEq (.int .i64 v4))), (5, (pEq (.int .i64 v5)))]) ⟨rfl, rfl, rfl, trivial⟩ ?_
      refine Tr.seq ?_
      refine Tr.block ?_
      refine Tr.region ?_
      refine RegL.pure (p := (pEq (.slice ho0 hn0 hc0))) rfl rfl rfl (J_move rfl (Opd.tmp rfl)) ?_
      refine RegL.pure (p := (pEq (.int .i64 v5))) rfl rfl rfl (J_move rfl (Opd.tmp rfl)) ?_
      replace h := bind_some h; obtain ⟨x8, hx8, h⟩ := h
      refine RegL.pureW (p := (pEq (.pointer (some ⟨blk ho0, (v5).toNat * 1, none⟩)))) rfl rfl rfl (W_nestIdx (j := 0) rfl Try.underlying68 sz22 (Opd.tmp rfl) (Opd.tmp rfl) rfl (idx_lt hx8)) ?_
      refine RegL.pureW (p := (pEq (hdrV (gd hh0 v5)))) rfl rfl rfl (W_nestLoad (j := 0) rfl Try.isAgg22 (Opd.tmp rfl) rfl hx8) ?_
      refine RegL.pure (p := (pEq (.int .i64 v4))) rfl rfl rfl (J_move rfl (Opd.tmp rfl)) ?_
      replace h := bind_some h; obtain ⟨x10, hx10, h⟩ := h
      refine RegL.re (Ω2 := [oSl 2 1 (cK .i64) (gd hh0 v5).1 (gd hh0 v5).2.1 (gd hh0 v5).2.2 x8, oHole 22 2 1 (cK .i64) ho0 hn0 hc0 hh0 v6 v5]) (fun h => nest_focus hx8 h) ?_
      refine RegL.step (γ := Unit) (p := fun g => (pEq (.int .i64 x10.1))) (Ω' := fun g => [oSl 2 1 (cK .i64) (gd hh0 v5).1 (gd hh0 v5).2.1 (gd hh0 v5).2.2 x10.2, oHole 22 2 1 (cK .i64) ho0 hn0 hc0 hh0 v6 v5]) rfl rfl rfl (M_callH (Ωi := [oSl 2 1 (cK .i64) (gd hh0 v5).1 (gd hh0 v5).2.1 (gd hh0 v5).2.2 x8]) rfl Try.call27 (o_laws_markInt64S hx10) (Opds.cons (Opd.tmp rfl) (Opds.cons (Opd.tmp rfl) Opds.nil))) fun g11 => ?_
      refine RegL.re (Ω2 := [oSS 22 2 1 (cK .i64) ho0 hn0 hc0 hh0 (v6.set (v5).toNat x10.2)]) (fun h => nest_unfocus hx8 h) ?_
      refine RegL.pure (p := (pEq (.int .i64 x10.1))) rfl rfl rfl (J_assign rfl (Opd.tmp rfl)) ?_
      refine RegL.nil ?_
      refine Ct.blk_normal ?_
      refine Ct.then_tr ?_
      refine Tr.weak (Γ' := [(0, (pEq (.slice ho0 hn0 hc0))), (1, (pEq (.int .i64 x10.1))), (5, (pEq (.int .i64 v5)))]) ⟨rfl, rfl, rfl, trivial⟩ ?_
      refine Tr.region ?_
      refine RegL.pure (p := (pEq (.int .i64 v5))) rfl rfl rfl (J_move rfl (Opd.tmp rfl)) ?_
      refine RegL.pure (p := (pEq (.int .i64 (w64 (v5 + (1 : Int)))))) rfl rfl rfl (J_bin rfl (Opd.tmp rfl) Opd.con B_add) ?_
      refine RegL.pure (p := (pEq (.int .i64 (w64 (v5 + (1 : Int)))))) rfl rfl rfl (J_assign rfl (Opd.tmp rfl)) ?_
      refine RegL.nil ?_
      replace h := Option.some.inj h; subst h
      exact Ct.again () rfl ⟨rfl, rfl, rfl, trivial⟩
    · replace h := bif_f hc h
      refine Tr.exit ?_
      refine Ct.then_exit ?_
      replace h := map_some h; obtain ⟨r1, h, rfl⟩ := h
      refine Ct.out_exit fun e => ?_
      subst e
      refine Ct.blk_exit ?_
      replace h := Option.some.inj h; subst h
      exact Ct.mid () rfl ⟨rfl, trivial⟩
  · clear hx2
    refine Ct.then_tr ?_
    refine Tr.weak (Γ' := [(1, (pEq (.int .i64 x2.1)))]) ⟨rfl, trivial⟩ ?_
    refine Tr.seq ?_
    refine Tr.region ?_
    refine RegL.pure (p := (pEq (.int .i64 x2.1))) rfl rfl rfl (J_move rfl (Opd.tmp rfl)) ?_
    refine RegL.pure (p := (pEq (.int .i64 x2.1))) rfl rfl rfl (J_assign rfl (Opd.tmp rfl)) ?_
    refine RegL.nil ?_
    refine Ct.then_tr ?_
    refine Tr.weak (Γ' := [(4, (pEq (.int .i64 x2.1)))]) ⟨rfl, trivial⟩ ?_
    refine Tr.ret ?_
    replace h := Option.some.inj h; subst h
    exact Ct.retH1 (Ωx := []) () rfl (RvOk.tmp rfl) rfl

theorem c_laws_heldInt64S {a_0 : (List Int)} {k_1 : Int} {r : Int} (h : m_laws_heldInt64S a_0 k_1 = some r) : CallJ Try.prog 28 [(pSl 1 (cK .i64) a_0), (pEq (.int .i64 k_1))] (pEq (.int .i64 r)) := by
  unfold m_laws_heldInt64S at h
  refine CallJ.enterH Try.func28 rfl Try.ntmps28 rfl fun W I0 H => ?_
  refine Tr.weak (Γ' := [(0, (pSl 1 (cK .i64) a_0)), (1, (pEq (.int .i64 k_1)))]) ⟨rfl, rfl, trivial⟩ ?_
  refine Tr.seq ?_
  refine Tr.region ?_
  refine RegL.pure (p := (pEq (.int .i64 (0 : Int)))) rfl rfl rfl (J_assign rfl Opd.con) ?_
  refine RegL.nil ?_
  refine Ct.then_tr ?_
  refine Tr.weak (Γ' := [(0, (pSl 1 (cK .i64) a_0)), (1, (pEq (.int .i64 k_1)))]) ⟨rfl, rfl, trivial⟩ ?_
  refine Tr.seq ?_
  refine Tr.seq ?_
  refine Tr.region ?_
  refine RegL.pure (p := (pEq (.int .i64 (0 : Int)))) rfl rfl rfl (J_assign rfl Opd.con) ?_
  refine RegL.nil ?_
  refine Ct.then_tr ?_
  refine Tr.weak (Γ' := [(0, (pSl 1 (cK .i64) a_0)), (1, (pEq (.int .i64 k_1))), (5, (pEq (.int .i64 (0 : Int))))]) ⟨rfl, rfl, rfl, trivial⟩ ?_
  refine Tr.block ?_
  refine Tr.weak (Γ' := [(0, (pSl 1 (cK .i64) a_0)), (1, (pEq (.int .i64 k_1))), (5, (pEq (.int .i64 (0 : Int))))]) ⟨rfl, rfl, rfl, trivial⟩ ?_
  refine Tr.loop (γ := Unit) (σ := (Int × Int)) (Γσ := fun s g => [(0, (pSl 1 (cK .i64) a_0)), (1, (pEq (.int .i64 s.1))), (5, (pEq (.int .i64 s.2)))]) (Ωσ := fun s g => []) (g := ()) h ?_
  clear h
  rintro ⟨v2, v3⟩ g4 t h
  replace h : m_laws_heldInt64S_B1 a_0 v2 v3 = some t := h
  unfold m_laws_heldInt64S_B1 at h
  refine Tr.weakO (Γ' := [(0, (pSl 1 (cK .i64) a_0)), (1, (pEq (.int .i64 v2))), (5, (pEq (.int .i64 v3)))]) (Ω' := []) rfl ⟨rfl, rfl, rfl, trivial⟩ ?_
  refine Tr.seq ?_
  refine Tr.seq ?_
  refine Tr.region ?_
  refine RegL.pure (p := (pEq (.int .i64 v3))) rfl rfl rfl (J_move rfl (Opd.tmp rfl)) ?_
  refine RegL.pure (p := (pSl 1 (cK .i64) a_0)) rfl rfl rfl (J_move rfl (Opd.tmp rfl)) ?_
  refine RegL.pure (p := (pEq (.int .i64 (a_0.length : Int)))) rfl rfl rfl (J_len rfl Try.underlying22 (Opd.tmp rfl) rfl) ?_
  refine RegL.pure (p := (pEq (.bool (decide (v3 < (a_0.length : Int)))))) rfl rfl rfl (J_bin rfl (Opd.tmp rfl) (Opd.tmp rfl) B_lss) ?_
  refine RegL.nil ?_
  refine Ct.then_tr ?_
  refine Tr.weak (Γ' := [(0, (pSl 1 (cK .i64) a_0)), (1, (pEq (.int .i64 v2))), (5, (pEq (.int .i64 v3))), (9, (pEq (.bool (decide (v3 < (a_0.length : Int))))))]) ⟨rfl, rfl, rfl, rfl, trivial⟩ ?_
  refine Tr.cond (Opd.tmp rfl) (fun hc => ?_) (fun hc => ?_)
  · replace h := bif_t hc h
    refine Tr.skip ?_
    refine Ct.then_tr ?_
    refine Tr.weak (Γ' := [(0, (pSl 1 (cK .i64) a_0)), (1, (pEq (.int .i64 v2))), (5, (pEq (.int .i64 v3)))]) ⟨rfl, rfl, rfl, trivial⟩ ?_
    refine Tr.seq ?_
    refine Tr.block ?_
    refine Tr.seq ?_
    refine Tr.seq ?_
    refine Tr.region ?_
    refine RegL.pure (p := (pSl 1 (cK .i64) a_0)) rfl rfl rfl (J_move rfl (Opd.tmp rfl)) ?_
    refine RegL.pure (p := (pEq (.int .i64 v3))) rfl rfl rfl (J_move rfl (Opd.tmp rfl)) ?_
    replace h := bind_some h; obtain ⟨x5, hx5, h⟩ := h
    refine RegL.pure (p := (pPtr ((cK .i64) x5))) rfl rfl rfl (J_idx rfl Try.underlying22 sz2 (Opd.tmp rfl) (Opd.tmp rfl) hx5) ?_
    refine RegL.pure (p := (pEq (.int .i64 x5))) rfl rfl rfl (J_load rfl Try.isAgg2 (Opd.tmp rfl)) ?_
    refine RegL.pure (p := (pEq (.int .i64 v2))) rfl rfl rfl (J_move rfl (Opd.tmp rfl)) ?_
    refine RegL.pure (p := (pEq (.bool (x5 != v2)))) rfl rfl rfl (J_bin rfl (Opd.tmp rfl) (Opd.tmp rfl) B_neq) ?_
    refine RegL.nil ?_
    refine Ct.then_tr ?_
    refine Tr.weak (Γ' := [(0, (pSl 1 (cK .i64) a_0)), (1, (pEq (.int .i64 v2))), (5, (pEq (.int .i64 v3))), (17, (pEq (.bool (x5 != v2))))]) ⟨rfl, rfl, rfl, rfl, trivial⟩ ?_
    refine Tr.cond (Opd.tmp rfl) (fun hc => ?_) (fun hc => ?_)
    · replace h := bif_t hc h
      refine Tr.seq ?_
      refine Tr.region ?_
      refine RegL.pure (p := (pEq (.int .i64 (-1 : Int)))) rfl rfl rfl (J_assign rfl Opd.con) ?_
      refine RegL.nil ?_
      refine Ct.then_tr ?_
      refine Tr.weak (Γ' := [(4, (pEq (.int .i64 (-1 : Int))))]) ⟨rfl, trivial⟩ ?_
      refine Tr.ret ?_
      refine Ct.then_ret ?_
      refine Ct.blk_ret ?_
      refine Ct.then_ret ?_
      replace h := map_some h; obtain ⟨r1, h, rfl⟩ := h
      refine Ct.out_ret fun e => ?_
      subst e
      refine Ct.blk_ret ?_
      refine Ct.then_ret ?_
      replace h := Option.some.inj h; subst h
      exact Ct.retH1 (Ωx := []) () rfl (RvOk.tmp rfl) rfl
    · replace h := bif_f hc h
      refine Tr.skip ?_
      refine Ct.then_tr ?_
      refine Tr.weak (Γ' := [(0, (pSl 1 (cK .i64) a_0)), (1, (pEq (.int .i64 v2))), (5, (pEq (.int .i64 v3)))]) ⟨rfl, rfl, rfl, trivial⟩ ?_
      refine Tr.region ?_
      refine RegL.pure (p := (pEq (.int .i64 v2))) rfl rfl rfl (J_move rfl (Opd.tmp rfl)) ?_
      refine RegL.pure (p := (pEq (.int .i64 (w64 (v2 + (1 : Int)))))) rfl rfl rfl (J_bin rfl (Opd.tmp rfl) Opd.con B_add) ?_
      refine RegL.pure (p := (pEq (.int .i64 (w64 (v2 + (1 : Int)))))) rfl rfl rfl (J_assign rfl (Opd.tmp rfl)) ?_
      refine RegL.nil ?_
      refine Ct.blk_normal ?_
      refine Ct.then_tr ?_
      refine Tr.weak (Γ' := [(0, (pSl 1 (cK .i64) a_0)), (1, (pEq (.int .i64 (w64 (v2 + (1 : Int)))))), (5, (pEq (.int .i64 v3)))]) ⟨rfl, rfl, rfl, trivial⟩ ?_
      refine Tr.region ?_
      refine RegL.pure (p := (pEq (.int .i64 v3))) rfl rfl rfl (J_move rfl (Opd.tmp rfl)) ?_
      refine RegL.pure (p := (pEq (.int .i64 (w64 (v3 + (1 : Int)))))) rfl rfl rfl (J_bin rfl (Opd.tmp rfl) Opd.con B_add) ?_
      refine RegL.pure (p := (pEq (.int .i64 (w64 (v3 + (1 : Int)))))) rfl rfl rfl (J_assign rfl (Opd.tmp rfl)) ?_
      refine RegL.nil ?_
      replace h := Option.some.inj h; subst h
      exact Ct.again () rfl ⟨rfl, rfl, rfl, trivial⟩
  · replace h := bif_f hc h
    refine Tr.exit ?_
    refine Ct.then_exit ?_
    replace h := map_some h; obtain ⟨r1, h, rfl⟩ := h
    refine Ct.out_exit fun e => ?_
    subst e
    refine Ct.blk_exit ?_
    refine Ct.then_tr ?_
    refine Tr.weak (Γ' := [(1, (pEq (.int .i64 v2)))]) ⟨rfl, trivial⟩ ?_
    refine Tr.seq ?_
    refine Tr.region ?_
    refine RegL.pure (p := (pEq (.int .i64 v2))) rfl rfl rfl (J_move rfl (Opd.tmp rfl)) ?_
    refine RegL.pure (p := (pEq (.int .i64 v2))) rfl rfl rfl (J_assign rfl (Opd.tmp rfl)) ?_
    refine RegL.nil ?_
    refine Ct.then_tr ?_
    refine Tr.weak (Γ' := [(4, (pEq (.int .i64 v2)))]) ⟨rfl, trivial⟩ ?_
    refine Tr.ret ?_
    replace h := Option.some.inj h; subst h
    exact Ct.retH1 (Ωx := []) () rfl (RvOk.tmp rfl) rfl

theorem c_laws_heldInt64SS {a_0 : (List (List Int))} {k_1 : Int} {r : Int} (h : m_laws_heldInt64SS a_0 k_1 = some r) : CallJ Try.prog 57 [(pSl 1 (cSl 1 (cK .i64)) a_0), (pEq (.int .i64 k_1))] (pEq (.int .i64 r)) := by
  unfold m_laws_heldInt64SS at h
  refine CallJ.enterH Try.func57 rfl Try.ntmps57 rfl fun W I0 H => ?_
  refine Tr.weak (Γ' := [(0, (pSl 1 (cSl 1 (cK .i64)) a_0)), (1, (pEq (.int .i64 k_1)))]) ⟨rfl, rfl, trivial⟩ ?_
  refine Tr.seq ?_
  refine Tr.region ?_
  refine RegL.pure (p := (pEq (.int .i64 (0 : Int)))) rfl rfl rfl (J_assign rfl Opd.con) ?_
  refine RegL.nil ?_
  refine Ct.then_tr ?_
  refine Tr.weak (Γ' := [(0, (pSl 1 (cSl 1 (cK .i64)) a_0)), (1, (pEq (.int .i64 k_1)))]) ⟨rfl, rfl, trivial⟩ ?_
  refine Tr.seq ?_
  refine Tr.seq ?_
  refine Tr.region ?_
  refine RegL.pure (p := (pEq (.int .i64 (0 : Int)))) rfl rfl rfl (J_assign rfl Opd.con) ?_
  refine RegL.nil ?_
  refine Ct.then_tr ?_
  refine Tr.weak (Γ' := [(0, (pSl 1 (cSl 1 (cK .i64)) a_0)), (1, (pEq (.int .i64 k_1))), (5, (pEq (.int .i64 (0 : Int))))]) ⟨rfl, rfl, rfl, trivial⟩ ?_
  refine Tr.block ?_
  refine Tr.weak (Γ' := [(0, (pSl 1 (cSl 1 (cK .i64)) a_0)), (1, (pEq (.int .i64 k_1))), (5, (pEq (.int .i64 (0 : Int))))]) ⟨rfl, rfl, rfl, trivial⟩ ?_
  refine Tr.loop (γ := Unit) (σ := (Int × Int)) (Γσ := fun s g => [(0, (pSl 1 (cSl 1 (cK .i64)) a_0)), (1, (pEq (.int .i64 s.1))), (5, (pEq (.int .i64 s.2)))]) (Ωσ := fun s g => []) (g := ()) h ?_
  clear h
  rintro ⟨v2, v3⟩ g4 t h
  replace h : m_laws_heldInt64SS_B1 a_0 v2 v3 = some t := h
  unfold m_laws_heldInt64SS_B1 at h
  refine Tr.weakO (Γ' := [(0, (pSl 1 (cSl 1 (cK .i64)) a_0)), (1, (pEq (.int .i64 v2))), (5, (pEq (.int .i64 v3)))]) (Ω' := []) rfl ⟨rfl, rfl, rfl, trivial⟩ ?_
  refine Tr.seq ?_
  refine Tr.seq ?_
  refine Tr.region ?_
  refine RegL.pure (p := (pEq (.int .i64 v3))) rfl rfl rfl (J_move rfl (Opd.tmp rfl)) ?_
  refine RegL.pure (p := (pSl 1 (cSl 1 (cK .i64)) a_0)) rfl rfl rfl (J_move rfl (Opd.tmp rfl)) ?_
  refine RegL.pure (p := (pEq (.int .i64 (a_0.length : Int)))) rfl rfl rfl (J_len rfl Try.underlying68 (Opd.tmp rfl) rfl) ?_
  refine RegL.pure (p := (pEq (.bool (decide (v3 < (a_0.length : Int)))))) rfl rfl rfl (J_bin rfl (Opd.tmp rfl) (Opd.tmp rfl) B_lss) ?_
  refine RegL.nil ?_
  refine Ct.then_tr ?_
  refine Tr.weak (Γ' := [(0, (pSl 1 (cSl 1 (cK .i64)) a_0)), (1, (pEq (.int .i64 v2))), (5, (pEq (.int .i64 v3))), (9, (pEq (.bool (decide (v3 < (a_0.length : Int))))))]) ⟨rfl, rfl, rfl, rfl, trivial⟩ ?_
  refine Tr.cond (Opd.tmp rfl) (fun hc => ?_) (fun hc => ?_)
  · replace h := bif_t hc h
    refine Tr.skip ?_
    refine Ct.then_tr ?_
    refine Tr.weak (Γ' := [(0, (pSl 1 (cSl 1 (cK .i64)) a_0)), (1, (pEq (.int .i64 v2))), (5, (pEq (.int .i64 v3)))]) ⟨rfl, rfl, rfl, trivial⟩ ?_
    refine Tr.seq ?_
    refine Tr.block ?_
    refine Tr.seq ?_
    refine Tr.region ?_
    refine RegL.pure (p := (pSl 1 (cSl 1 (cK .i64)) a_0)) rfl rfl rfl (J_move rfl (Opd.tmp rfl)) ?_
    refine RegL.pure (p := (pEq (.int .i64 v3))) rfl rfl rfl (J_move rfl (Opd.tmp rfl)) ?_
    replace h := bind_some h; obtain ⟨x5, hx5, h⟩ := h
    refine RegL.pure (p := (pPtr ((cSl 1 (cK .i64)) x5))) rfl rfl rfl (J_idx rfl Try.underlying68 sz22 (Opd.tmp rfl) (Opd.tmp rfl) hx5) ?_
    refine RegL.pure (p := (pSl 1 (cK .i64) x5)) rfl rfl rfl (J_load rfl Try.isAgg22 (Opd.tmp rfl)) ?_
    refine RegL.pure (p := (pEq (.int .i64 v2))) rfl rfl rfl (J_move rfl (Opd.tmp rfl)) ?_
    replace h := bind_some h; obtain ⟨x6, hx6, h⟩ := h
    refine RegL.pure (p := (pEq (.int .i64 x6))) rfl rfl rfl (J_call rfl Try.call28 (c_laws_heldInt64S hx6) (Opds.cons (Opd.tmp rfl) (Opds.cons (Opd.tmp rfl) Opds.nil))) ?_
    refine RegL.pure (p := (pEq (.int .i64 x6))) rfl rfl rfl (J_assign rfl (Opd.tmp rfl)) ?_
    refine RegL.nil ?_
    refine Ct.then_tr ?_
    refine Tr.weak (Γ' := [(0, (pSl 1 (cSl 1 (cK .i64)) a_0)), (1, (pEq (.int .i64 x6))), (5, (pEq (.int .i64 v3)))]) ⟨rfl, rfl, rfl, trivial⟩ ?_
    refine Tr.seq ?_
    refine Tr.region ?_
    refine RegL.pure (p := (pEq (.int .i64 x6))) rfl rfl rfl (J_move rfl (Opd.tmp rfl)) ?_
    refine RegL.pure (p := (pEq (.bool (decide (x6 < (0 : Int)))))) rfl rfl rfl (J_bin rfl (Opd.tmp rfl) Opd.con B_lss) ?_
    refine RegL.nil ?_
    refine Ct.then_tr ?_
    refine Tr.weak (Γ' := [(0, (pSl 1 (cSl 1 (cK .i64)) a_0)), (1, (pEq (.int .i64 x6))), (5, (pEq (.int .i64 v3))), (19, (pEq (.bool (decide (x6 < (0 : Int))))))]) ⟨rfl, rfl, rfl, rfl, trivial⟩ ?_
    refine Tr.cond (Opd.tmp rfl) (fun hc => ?_) (fun hc => ?_)
    · replace h := bif_t hc h
      refine Tr.seq ?_
      refine Tr.region ?_
      refine RegL.pure (p := (pEq (.int .i64 (-1 : Int)))) rfl rfl rfl (J_assign rfl Opd.con) ?_
      refine RegL.nil ?_
      refine Ct.then_tr ?_
      refine Tr.weak (Γ' := [(4, (pEq (.int .i64 (-1 : Int))))]) ⟨rfl, trivial⟩ ?_
      refine Tr.ret ?_
      refine Ct.blk_ret ?_
      refine Ct.then_ret ?_
      replace h := map_some h; obtain ⟨r1, h, rfl⟩ := h
      refine Ct.out_ret fun e => ?_
      subst e
      refine Ct.blk_ret ?_
      refine Ct.then_ret ?_
      replace h := Option.some.inj h; subst h
      exact Ct.retH1 (Ωx := []) () rfl (RvOk.tmp rfl) rfl
    · replace h := bif_f hc h
      refine Tr.skip ?_
      refine Ct.blk_normal ?_
      refine Ct.then_tr ?_
      refine Tr.weak (Γ' := [(0, (pSl 1 (cSl 1 (cK .i64)) a_0)), (1, (pEq (.int .i64 x6))), (5, (pEq (.int .i64 v3)))]) ⟨rfl, rfl, rfl, trivial⟩ ?_
      refine Tr.region ?_
      refine RegL.pure (p := (pEq (.int .i64 v3))) rfl rfl rfl (J_move rfl (Opd.tmp rfl)) ?_
      refine RegL.pure (p := (pEq (.int .i64 (w64 (v3 + (1 : Int)))))) rfl rfl rfl (J_bin rfl (Opd.tmp rfl) Opd.con B_add) ?_
      refine RegL.pure (p := (pEq (.int .i64 (w64 (v3 + (1 : Int)))))) rfl rfl rfl (J_assign rfl (Opd.tmp rfl)) ?_
      refine RegL.nil ?_
      replace h := Option.some.inj h; subst h
      exact Ct.again () rfl ⟨rfl, rfl, rfl, trivial⟩
  · replace h := bif_f hc h
    refine Tr.exit ?_
    refine Ct.then_exit ?_
    replace h := map_some h; obtain ⟨r1, h, rfl⟩ := h
    refine Ct.out_exit fun e => ?_
    subst e
    refine Ct.blk_exit ?_
    refine Ct.then_tr ?_
    refine Tr.weak (Γ' := [(1, (pEq (.int .i64 v2)))]) ⟨rfl, trivial⟩ ?_
    refine Tr.seq ?_
    refine Tr.region ?_
    refine RegL.pure (p := (pEq (.int .i64 v2))) rfl rfl rfl (J_move rfl (Opd.tmp rfl)) ?_
    refine RegL.pure (p := (pEq (.int .i64 v2))) rfl rfl rfl (J_assign rfl (Opd.tmp rfl)) ?_
    refine RegL.nil ?_
    refine Ct.then_tr ?_
    refine Tr.weak (Γ' := [(4, (pEq (.int .i64 v2)))]) ⟨rfl, trivial⟩ ?_
    refine Tr.ret ?_
    replace h := Option.some.inj h; subst h
    exact Ct.retH1 (Ωx := []) () rfl (RvOk.tmp rfl) rfl

theorem c_laws_FnExactPairRatios {a_0 : (List (List Int))} {r : Bool} (h : m_laws_FnExactPairRatios a_0 = some r) : CallJ Try.prog 14 [(pSl 1 (cSl 1 (cK .i64)) a_0)] (pEq (.bool r)) := by
  unfold m_laws_FnExactPairRatios at h
  refine CallJ.enterH Try.func14 rfl Try.ntmps14 rfl fun W I0 H => ?_
  refine Tr.weak (Γ' := [(0, (pSl 1 (cSl 1 (cK .i64)) a_0))]) ⟨rfl, trivial⟩ ?_
  refine Tr.seq ?_
  refine Tr.region ?_
  refine RegL.pure (p := (pEq (.bool false))) rfl rfl rfl (J_assign rfl Opd.con) ?_
  refine RegL.nil ?_
  refine Ct.then_tr ?_
  refine Tr.weak (Γ' := [(0, (pSl 1 (cSl 1 (cK .i64)) a_0))]) ⟨rfl, trivial⟩ ?_
  refine Tr.seq ?_
  refine Tr.region ?_
  refine RegL.pure (p := (pEq (.int .i64 (1048576 : Int)))) rfl rfl rfl (J_assign rfl Opd.con) ?_
  refine RegL.nil ?_
  refine Ct.then_tr ?_
  refine Tr.weak (Γ' := [(0, (pSl 1 (cSl 1 (cK .i64)) a_0)), (3, (pEq (.int .i64 (1048576 : Int))))]) ⟨rfl, rfl, trivial⟩ ?_
  refine Tr.seq ?_
  refine Tr.region ?_
  refine RegL.pure (p := (pSl 1 (cSl 1 (cK .i64)) a_0)) rfl rfl rfl (J_move rfl (Opd.tmp rfl)) ?_
  refine RegL.pure (p := (pEq (.int .i64 (1048576 : Int)))) rfl rfl rfl (J_move rfl (Opd.tmp rfl)) ?_
  replace h := bind_some h; obtain ⟨x1, hx1, h⟩ := h
  refine RegL.pure (p := (pEq (.int .i64 x1))) rfl rfl rfl (J_call rfl Try.call47 (c_laws_szInt64SS hx1) (Opds.cons (Opd.tmp rfl) (Opds.cons (Opd.tmp rfl) Opds.nil))) ?_
  refine RegL.pure (p := (pEq (.int .i64 x1))) rfl rfl rfl (J_assign rfl (Opd.tmp rfl)) ?_
  refine RegL.nil ?_
  refine Ct.then_tr ?_
  refine Tr.weak (Γ' := [(0, (pSl 1 (cSl 1 (cK .i64)) a_0)), (3, (pEq (.int .i64 x1)))]) ⟨rfl, rfl, trivial⟩ ?_
  refine Tr.seq ?_
  refine Tr.seq ?_
  refine Tr.region ?_
  refine RegL.pure (p := (pEq (.int .i64 x1))) rfl rfl rfl (J_move rfl (Opd.tmp rfl)) ?_
  refine RegL.pure (p := (pEq (.bool (decide (x1 < (0 : Int)))))) rfl rfl rfl (J_bin rfl (Opd.tmp rfl) Opd.con B_lss) ?_
  refine RegL.nil ?_
  refine Ct.then_tr ?_
  refine Tr.weak (Γ' := [(0, (pSl 1 (cSl 1 (cK .i64)) a_0)), (18, (pEq (.bool (decide (x1 < (0 : Int))))))]) ⟨rfl, rfl, trivial⟩ ?_
  refine Tr.cond (Opd.tmp rfl) (fun hc => ?_) (fun hc => ?_)
  · replace h := bif_t hc h
    refine Tr.seq ?_
    refine Tr.region ?_
    refine RegL.pure (p := (pEq (.bool true))) rfl rfl rfl (J_assign rfl Opd.con) ?_
    refine RegL.nil ?_
    refine Ct.then_tr ?_
    refine Tr.weak (Γ' := [(2, (pEq (.bool true)))]) ⟨rfl, trivial⟩ ?_
    refine Tr.ret ?_
    refine Ct.then_ret ?_
    replace h := Option.some.inj h; subst h
    exact Ct.retH1 (Ωx := []) () rfl (RvOk.tmp rfl) rfl
  · replace h := bif_f hc h
    refine Tr.skip ?_
    refine Ct.then_tr ?_
    refine Tr.weak (Γ' := [(0, (pSl 1 (cSl 1 (cK .i64)) a_0))]) ⟨rfl, trivial⟩ ?_
    refine Tr.seq ?_
    refine Tr.region ?_
    refine RegL.pure (p := (pSl 1 (cSl 1 (cK .i64)) a_0)) rfl rfl rfl (J_move rfl (Opd.tmp rfl)) ?_
    replace h := bind_some h; obtain ⟨x2, hx2, h⟩ := h
    refine RegL.pure (p := (pSl 1 (cSl 1 (cK .i64)) x2)) rfl rfl rfl (J_call rfl Try.call49 (c_laws_toInt64SS hx2) (Opds.cons (Opd.tmp rfl) Opds.nil)) ?_
    replace h := bind_some h; obtain ⟨x3, hx3, h⟩ := h
    refine RegL.pure (p := (pTup [(pSl 1 (cSl 1 (cK .i64)) x3.1), (pEq (.int .i64 x3.2))])) rfl rfl rfl (J_call rfl Try.call55 (c_spec_PairRatios hx3) (Opds.cons (Opd.tmp rfl) Opds.nil)) ?_
    refine RegL.pure (p := (pTup [(pSl 1 (cSl 1 (cK .i64)) x3.1), (pEq (.int .i64 x3.2))])) rfl rfl rfl (J_move rfl (Opd.tmp rfl)) ?_
    refine RegL.pure (p := (pSl 1 (cSl 1 (cK .i64)) x3.1)) rfl rfl rfl (J_extract rfl (Opd.tmp rfl) rfl) ?_
    refine RegL.pure (p := (pEq (.int .i64 x3.2))) rfl rfl rfl (J_extract rfl (Opd.tmp rfl) rfl) ?_
    refine RegL.pure (p := (pSl 1 (cSl 1 (cK .i64)) x3.1)) rfl rfl rfl (J_assign rfl (Opd.tmp rfl)) ?_
    refine RegL.pure (p := (pEq (.int .i64 x3.2))) rfl rfl rfl (J_assign rfl (Opd.tmp rfl)) ?_
    refine RegL.nil ?_
    refine Ct.then_tr ?_
    refine Tr.weak (Γ' := [(0, (pSl 1 (cSl 1 (cK .i64)) a_0)), (4, (pSl 1 (cSl 1 (cK .i64)) x3.1)), (5, (pEq (.int .i64 x3.2)))]) ⟨rfl, rfl, rfl, trivial⟩ ?_
    refine Tr.seq ?_
    refine Tr.region ?_
    refine RegL.pure (p := (pSl 1 (cSl 1 (cK .i64)) a_0)) rfl rfl rfl (J_move rfl (Opd.tmp rfl)) ?_
    replace h := bind_some h; obtain ⟨x4, hx4, h⟩ := h
    refine RegL.step (γ := (G3 × List G3)) (p := fun g => (pEq (.slice g.1.1 g.1.2.1 g.1.2.2))) (Ω' := fun g => [oSS 22 2 1 (cK .i64) g.1.1 g.1.2.1 g.1.2.2 g.2 x4]) rfl rfl rfl (M_callH (Ωi := []) rfl Try.call49 (o_laws_toInt64SS hx4) (Opds.cons (Opd.tmp rfl) Opds.nil)) fun g5 => ?_
    refine RegL.pure (p := (pEq (.slice g5.1.1 g5.1.2.1 g5.1.2.2))) rfl rfl rfl (J_assign rfl (Opd.tmp rfl)) ?_
    refine RegL.nil ?_
    refine Ct.then_tr ?_
    refine Tr.weak (Γ' := [(0, (pSl 1 (cSl 1 (cK .i64)) a_0)), (4, (pSl 1 (cSl 1 (cK .i64)) x3.1)), (5, (pEq (.int .i64 x3.2))), (6, (pEq (.slice g5.1.1 g5.1.2.1 g5.1.2.2)))]) ⟨rfl, rfl, rfl, rfl, trivial⟩ ?_
    refine Tr.seq ?_
    refine Tr.region ?_
    refine RegL.pure (p := (pEq (.slice g5.1.1 g5.1.2.1 g5.1.2.2))) rfl rfl rfl (J_move rfl (Opd.tmp rfl)) ?_
    replace h := bind_some h; obtain ⟨x7, hx7, h⟩ := h
    refine RegL.step (γ := (G3 × List G3)) (p := fun g => (pTup [(pEq (.slice g.1.1 g.1.2.1 g.1.2.2)), (pEq (.int .i64 x7.2))])) (Ω' := fun g => [oSS 22 2 1 (cK .i64) g.1.1 g.1.2.1 g.1.2.2 g.2 x7.1, oSS 22 2 1 (cK .i64) g5.1.1 g5.1.2.1 g5.1.2.2 g5.2 x4]) rfl rfl rfl (M_callHB (Ωi := []) rfl Try.call56 (o_impl_PairRatios hx7) (OpdsA.cons (OpdA.conv rfl (Conv.nest 0 (fun _ => rfl) rfl)) OpdsA.nil) (fun _ => (FreeP.tup ⟨FreeP.eq, ⟨FreeP.eq, trivial⟩⟩)) (fun _ => ⟨(FreeO.nest (fun _ => ⟨FreeP.eq, trivial⟩)), trivial⟩)) fun g8 => ?_
    refine RegL.pure (p := (pTup [(pEq (.slice g8.1.1 g8.1.2.1 g8.1.2.2)), (pEq (.int .i64 x7.2))])) rfl rfl rfl (J_move rfl (Opd.tmp rfl)) ?_
    refine RegL.pure (p := (pEq (.slice g8.1.1 g8.1.2.1 g8.1.2.2))) rfl rfl rfl (J_extract rfl (Opd.tmp rfl) rfl) ?_
    refine RegL.pure (p := (pEq (.int .i64 x7.2))) rfl rfl rfl (J_extract rfl (Opd.tmp rfl) rfl) ?_
    refine RegL.pure (p := (pEq (.slice g8.1.1 g8.1.2.1 g8.1.2.2))) rfl rfl rfl (J_assign rfl (Opd.tmp rfl)) ?_
    refine RegL.pure (p := (pEq (.int .i64 x7.2))) rfl rfl rfl (J_assign rfl (Opd.tmp rfl)) ?_
    refine RegL.nil ?_
    refine Ct.then_tr ?_
    refine Tr.weak (Γ' := [(0, (pSl 1 (cSl 1 (cK .i64)) a_0)), (4, (pSl 1 (cSl 1 (cK .i64)) x3.1)), (5, (pEq (.int .i64 x3.2))), (6, (pEq (.slice g5.1.1 g5.1.2.1 g5.1.2.2))), (7, (pEq (.slice g8.1.1 g8.1.2.1 g8.1.2.2))), (8, (pEq (.int .i64 x7.2)))]) ⟨rfl, rfl, rfl, rfl, rfl, rfl, trivial⟩ ?_
    refine Tr.seq ?_
    refine Tr.seq ?_
    replace h := bind_some h; obtain ⟨x10, hx10, h⟩ := h
    refine Tr.cut (γ := Unit) (Γm := fun g => [(0, (pSl 1 (cSl 1 (cK .i64)) a_0)), (4, (pSl 1 (cSl 1 (cK .i64)) x3.1)), (5, (pEq (.int .i64 x3.2))), (6, (pEq (.slice g5.1.1 g5.1.2.1 g5.1.2.2))), (7, (pEq (.slice g8.1.1 g8.1.2.1 g8.1.2.2))), (8, (pEq (.int .i64 x7.2))), (40, (pEq (.bool x10)))]) (Ωm := fun g => [oSS 22 2 1 (cK .i64) g8.1.1 g8.1.2.1 g8.1.2.2 g8.2 x7.1, oSS 22 2 1 (cK .i64) g5.1.1 g5.1.2.1 g5.1.2.2 g5.2 x4]) ?_ (fun g13 => ?_)
    · clear h
      have h := hx10
      clear hx10
      refine Tr.region ?_
      refine RegL.pure (p := (pEq (.slice g8.1.1 g8.1.2.1 g8.1.2.2))) rfl rfl rfl (J_move rfl (Opd.tmp rfl)) ?_
      refine RegL.pure (p := (pSl 1 (cSl 1 (cK .i64)) x3.1)) rfl rfl rfl (J_move rfl (Opd.tmp rfl)) ?_
      replace h := bind_some h; obtain ⟨x11, hx11, h⟩ := h
      refine RegL.pureW (p := (pEq (.bool x11))) rfl rfl rfl (W_call rfl Try.call51 (c_laws_eqInt64SS hx11) (OpdsA.cons (OpdA.conv rfl (Conv.nest 0 (fun _ => rfl) rfl)) (OpdsA.cons (OpdA.of (Opd.tmp rfl)) OpdsA.nil)) FreeP.eq) ?_
      refine RegL.pure (p := (pEq (.bool (!x11)))) rfl rfl rfl (J_not rfl (Opd.tmp rfl)) ?_
      refine RegL.pure (p := (pEq (.bool (!x11)))) rfl rfl rfl (J_move rfl (Opd.tmp rfl)) ?_
      rcases Bool.eq_false_or_eq_true (!x11) with hc12 | hc12
      · replace h := bif_t hc12 h
        refine RegL.skipG rfl rfl rfl hc12 rfl rfl ?_
        refine RegL.skipG rfl rfl rfl hc12 rfl rfl ?_
        refine RegL.skipG rfl rfl rfl hc12 rfl rfl ?_
        refine RegL.pure (p := (pEq (.bool true))) rfl rfl rfl (J_pick rfl (Opd.tmp rfl) (fun _ => Opd.con) (fun hf => absurd (hc12.symm.trans hf) (by decide))) ?_
        refine RegL.nil ?_
        replace h := Option.some.inj h; subst h
        exact Ct.mid () rfl ⟨rfl, rfl, rfl, rfl, rfl, rfl, rfl, trivial⟩
      · replace h := bif_f hc12 h
        refine RegL.pureG (p := (pEq (.int .i64 x7.2))) rfl rfl rfl hc12 rfl rfl (J_move rfl (Opd.tmp rfl)) ?_
        refine RegL.pureG (p := (pEq (.int .i64 x3.2))) rfl rfl rfl hc12 rfl rfl (J_move rfl (Opd.tmp rfl)) ?_
        refine RegL.pureG (p := (pEq (.bool (x7.2 != x3.2)))) rfl rfl rfl hc12 rfl rfl (J_bin rfl (Opd.tmp rfl) (Opd.tmp rfl) B_neq) ?_
        refine RegL.pure (p := (pEq (.bool (x7.2 != x3.2)))) rfl rfl rfl (J_pick rfl (Opd.tmp rfl) (fun hf => absurd (hc12.symm.trans hf) (by decide)) (fun _ => (Opd.tmp rfl))) ?_
        refine RegL.nil ?_
        replace h := Option.some.inj h; subst h
        exact Ct.mid () rfl ⟨rfl, rfl, rfl, rfl, rfl, rfl, rfl, trivial⟩
    · clear hx10
      refine Ct.then_tr ?_
      refine Tr.weak (Γ' := [(0, (pSl 1 (cSl 1 (cK .i64)) a_0)), (4, (pSl 1 (cSl 1 (cK .i64)) x3.1)), (5, (pEq (.int .i64 x3.2))), (6, (pEq (.slice g5.1.1 g5.1.2.1 g5.1.2.2))), (7, (pEq (.slice g8.1.1 g8.1.2.1 g8.1.2.2))), (8, (pEq (.int .i64 x7.2))), (40, (pEq (.bool x10)))]) ⟨rfl, rfl, rfl, rfl, rfl, rfl, rfl, trivial⟩ ?_
      refine Tr.cond (Opd.tmp rfl) (fun hc => ?_) (fun hc => ?_)
      · replace h := bif_t hc h
        refine Tr.seq ?_
        refine Tr.region ?_
        refine RegL.pure (p := (pEq (.bool false))) rfl rfl rfl (J_assign rfl Opd.con) ?_
        refine RegL.nil ?_
        refine Ct.then_tr ?_
        refine Tr.weak (Γ' := [(2, (pEq (.bool false)))]) ⟨rfl, trivial⟩ ?_
        refine Tr.ret ?_
        refine Ct.then_ret ?_
        replace h := Option.some.inj h; subst h
        exact Ct.retH1 (Ωx := [oSS 22 2 1 (cK .i64) g8.1.1 g8.1.2.1 g8.1.2.2 g8.2 x7.1, oSS 22 2 1 (cK .i64) g5.1.1 g5.1.2.1 g5.1.2.2 g5.2 x4]) () rfl (RvOk.tmp rfl) rfl
      · replace h := bif_f hc h
        refine Tr.skip ?_
        refine Ct.then_tr ?_
        refine Tr.weak (Γ' := [(0, (pSl 1 (cSl 1 (cK .i64)) a_0)), (4, (pSl 1 (cSl 1 (cK .i64)) x3.1)), (5, (pEq (.int .i64 x3.2))), (6, (pEq (.slice g5.1.1 g5.1.2.1 g5.1.2.2))), (7, (pEq (.slice g8.1.1 g8.1.2.1 g8.1.2.2))), (8, (pEq (.int .i64 x7.2)))]) ⟨rfl, rfl, rfl, rfl, rfl, rfl, trivial⟩ ?_
        refine Tr.seq ?_
        refine Tr.seq ?_
        refine Tr.region ?_
        refine RegL.pure (p := (pEq (.slice g5.1.1 g5.1.2.1 g5.1.2.2))) rfl rfl rfl (J_move rfl (Opd.tmp rfl)) ?_
        refine RegL.pure (p := (pSl 1 (cSl 1 (cK .i64)) a_0)) rfl rfl rfl (J_move rfl (Opd.tmp rfl)) ?_
        replace h := bind_some h; obtain ⟨x14, hx14, h⟩ := h
        refine RegL.pure (p := (pSl 1 (cSl 1 (cK .i64)) x14)) rfl rfl rfl (J_call rfl Try.call49 (c_laws_toInt64SS hx14) (Opds.cons (Opd.tmp rfl) Opds.nil)) ?_
        replace h := bind_some h; obtain ⟨x15, hx15, h⟩ := h
        refine RegL.pureW (p := (pEq (.bool x15))) rfl rfl rfl (W_call rfl Try.call51 (c_laws_eqInt64SS hx15) (OpdsA.cons (OpdA.conv rfl (Conv.nest 1 (fun _ => rfl) rfl)) (OpdsA.cons (OpdA.of (Opd.tmp rfl)) OpdsA.nil)) FreeP.eq) ?_
        refine RegL.pure (p := (pEq (.bool (!x15)))) rfl rfl rfl (J_not rfl (Opd.tmp rfl)) ?_
        refine RegL.nil ?_
        refine Ct.then_tr ?_
        refine Tr.weak (Γ' := [(0, (pSl 1 (cSl 1 (cK .i64)) a_0)), (4, (pSl 1 (cSl 1 (cK .i64)) x3.1)), (5, (pEq (.int .i64 x3.2))), (6, (pEq (.slice g5.1.1 g5.1.2.1 g5.1.2.2))), (7, (pEq (.slice g8.1.1 g8.1.2.1 g8.1.2.2))), (8, (pEq (.int .i64 x7.2))), (45, (pEq (.bool (!x15))))]) ⟨rfl, rfl, rfl, rfl, rfl, rfl, rfl, trivial⟩ ?_
        refine Tr.cond (Opd.tmp rfl) (fun hc => ?_) (fun hc => ?_)
        · replace h := bif_t hc h
          refine Tr.seq ?_
          refine Tr.region ?_
          refine RegL.pure (p := (pEq (.bool false))) rfl rfl rfl (J_assign rfl Opd.con) ?_
          refine RegL.nil ?_
          refine Ct.then_tr ?_
          refine Tr.weak (Γ' := [(2, (pEq (.bool false)))]) ⟨rfl, trivial⟩ ?_
          refine Tr.ret ?_
          refine Ct.then_ret ?_
          replace h := Option.some.inj h; subst h
          exact Ct.retH1 (Ωx := [oSS 22 2 1 (cK .i64) g8.1.1 g8.1.2.1 g8.1.2.2 g8.2 x7.1, oSS 22 2 1 (cK .i64) g5.1.1 g5.1.2.1 g5.1.2.2 g5.2 x4]) () rfl (RvOk.tmp rfl) rfl
        · replace h := bif_f hc h
          refine Tr.skip ?_
          refine Ct.then_tr ?_
          refine Tr.weak (Γ' := [(0, (pSl 1 (cSl 1 (cK .i64)) a_0)), (4, (pSl 1 (cSl 1 (cK .i64)) x3.1)), (5, (pEq (.int .i64 x3.2))), (6, (pEq (.slice g5.1.1 g5.1.2.1 g5.1.2.2))), (7, (pEq (.slice g8.1.1 g8.1.2.1 g8.1.2.2))), (8, (pEq (.int .i64 x7.2)))]) ⟨rfl, rfl, rfl, rfl, rfl, rfl, trivial⟩ ?_
          refine Tr.seq ?_
          refine Tr.region ?_
          refine RegL.pure (p := (pEq (.int .i64 (1 : Int)))) rfl rfl rfl (J_assign rfl Opd.con) ?_
          refine RegL.nil ?_
          refine Ct.then_tr ?_
          refine Tr.weak (Γ' := [(0, (pSl 1 (cSl 1 (cK .i64)) a_0)), (4, (pSl 1 (cSl 1 (cK .i64)) x3.1)), (5, (pEq (.int .i64 x3.2))), (6, (pEq (.slice g5.1.1 g5.1.2.1 g5.1.2.2))), (7, (pEq (.slice g8.1.1 g8.1.2.1 g8.1.2.2))), (8, (pEq (.int .i64 x7.2))), (9, (pEq (.int .i64 (1 : Int))))]) ⟨rfl, rfl, rfl, rfl, rfl, rfl, rfl, trivial⟩ ?_
          refine Tr.seq ?_
          refine Tr.region ?_
          refine RegL.pure (p := (pEq (.slice g5.1.1 g5.1.2.1 g5.1.2.2))) rfl rfl rfl (J_move rfl (Opd.tmp rfl)) ?_
          refine RegL.pure (p := (pEq (.int .i64 (1 : Int)))) rfl rfl rfl (J_move rfl (Opd.tmp rfl)) ?_
          replace h := bind_some h; obtain ⟨x16, hx16, h⟩ := h
          refine RegL.re (Ω2 := [oSS 22 2 1 (cK .i64) g5.1.1 g5.1.2.1 g5.1.2.2 g5.2 x4, oSS 22 2 1 (cK .i64) g8.1.1 g8.1.2.1 g8.1.2.2 g8.2 x7.1]) (fun h => SatO.pick 1 h) ?_
          refine RegL.step (γ := Unit) (p := fun g => (pEq (.int .i64 x16.1))) (Ω' := fun g => [oSS 22 2 1 (cK .i64) g5.1.1 g5.1.2.1 g5.1.2.2 g5.2 x16.2, oSS 22 2 1 (cK .i64) g8.1.1 g8.1.2.1 g8.1.2.2 g8.2 x7.1]) rfl rfl rfl (M_callH (Ωi := [oSS 22 2 1 (cK .i64) g5.1.1 g5.1.2.1 g5.1.2.2 g5.2 x4]) rfl Try.call54 (o_laws_markInt64SS hx16) (Opds.cons (Opd.tmp rfl) (Opds.cons (Opd.tmp rfl) Opds.nil))) fun g17 => ?_
          refine RegL.pure (p := (pEq (.int .i64 x16.1))) rfl rfl rfl (J_assign rfl (Opd.tmp rfl)) ?_
          refine RegL.nil ?_
          refine Ct.then_tr ?_
          refine Tr.weak (Γ' := [(0, (pSl 1 (cSl 1 (cK .i64)) a_0)), (4, (pSl 1 (cSl 1 (cK .i64)) x3.1)), (5, (pEq (.int .i64 x3.2))), (7, (pEq (.slice g8.1.1 g8.1.2.1 g8.1.2.2))), (8, (pEq (.int .i64 x7.2))), (9, (pEq (.int .i64 x16.1)))]) ⟨rfl, rfl, rfl, rfl, rfl, rfl, trivial⟩ ?_
          refine Tr.seq ?_
          refine Tr.seq ?_
          replace h := bind_some h; obtain ⟨x18, hx18, h⟩ := h
          refine Tr.cut (γ := Unit) (Γm := fun g => [(0, (pSl 1 (cSl 1 (cK .i64)) a_0)), (4, (pSl 1 (cSl 1 (cK .i64)) x3.1)), (5, (pEq (.int .i64 x3.2))), (7, (pEq (.slice g8.1.1 g8.1.2.1 g8.1.2.2))), (61, (pEq (.bool x18)))]) (Ωm := fun g => [oSS 22 2 1 (cK .i64) g8.1.1 g8.1.2.1 g8.1.2.2 g8.2 x7.1]) ?_ (fun g22 => ?_)
          · clear h
            have h := hx18
            clear hx18
            refine Tr.region ?_
            refine RegL.pure (p := (pEq (.int .i64 x16.1))) rfl rfl rfl (J_move rfl (Opd.tmp rfl)) ?_
            refine RegL.pure (p := (pEq (.bool (decide (x16.1 < (0 : Int)))))) rfl rfl rfl (J_bin rfl (Opd.tmp rfl) Opd.con B_lss) ?_
            refine RegL.pure (p := (pEq (.bool (decide (x16.1 < (0 : Int)))))) rfl rfl rfl (J_move rfl (Opd.tmp rfl)) ?_
            rcases Bool.eq_false_or_eq_true (decide (x16.1 < (0 : Int))) with hc19 | hc19
            · replace h := bif_t hc19 h
              refine RegL.skipG rfl rfl rfl hc19 rfl rfl ?_
              refine RegL.skipG rfl rfl rfl hc19 rfl rfl ?_
              refine RegL.skipG rfl rfl rfl hc19 rfl rfl ?_
              refine RegL.skipG rfl rfl rfl hc19 rfl rfl ?_
              refine RegL.pure (p := (pEq (.bool true))) rfl rfl rfl (J_pick rfl (Opd.tmp rfl) (fun _ => Opd.con) (fun hf => absurd (hc19.symm.trans hf) (by decide))) ?_
              refine RegL.pure (p := (pEq (.bool true))) rfl rfl rfl (J_move rfl (Opd.tmp rfl)) ?_
              refine RegL.skipG rfl rfl rfl rfl rfl rfl ?_
              refine RegL.skipG rfl rfl rfl rfl rfl rfl ?_
              refine RegL.skipG rfl rfl rfl rfl rfl rfl ?_
              refine RegL.pure (p := (pEq (.bool true))) rfl rfl rfl (J_pick rfl (Opd.tmp rfl) (fun _ => Opd.con) (fun hf => absurd hf (by decide))) ?_
              refine RegL.nil ?_
              refine Ct.re (Ω2 := [oSS 22 2 1 (cK .i64) g8.1.1 g8.1.2.1 g8.1.2.2 g8.2 x7.1]) (fun h => SatO.rest h) ?_
              replace h := Option.some.inj h; subst h
              exact Ct.mid () rfl ⟨rfl, rfl, rfl, rfl, rfl, trivial⟩
            · replace h := bif_f hc19 h
              refine RegL.pureG (p := (pEq (.slice g8.1.1 g8.1.2.1 g8.1.2.2))) rfl rfl rfl hc19 rfl rfl (J_move rfl (Opd.tmp rfl)) ?_
              refine RegL.pureG (p := (pSl 1 (cSl 1 (cK .i64)) x3.1)) rfl rfl rfl hc19 rfl rfl (J_move rfl (Opd.tmp rfl)) ?_
              replace h := bind_some h; obtain ⟨x20, hx20, h⟩ := h
              refine RegL.pureGW (p := (pEq (.bool x20))) rfl rfl rfl hc19 rfl rfl (W_call rfl Try.call51 (c_laws_eqInt64SS hx20) (OpdsA.cons (OpdA.conv rfl (Conv.nest 1 (fun _ => rfl) rfl)) (OpdsA.cons (OpdA.of (Opd.tmp rfl)) OpdsA.nil)) FreeP.eq) ?_
              refine RegL.pureG (p := (pEq (.bool (!x20)))) rfl rfl rfl hc19 rfl rfl (J_not rfl (Opd.tmp rfl)) ?_
              refine RegL.pure (p := (pEq (.bool (!x20)))) rfl rfl rfl (J_pick rfl (Opd.tmp rfl) (fun hf => absurd (hc19.symm.trans hf) (by decide)) (fun _ => (Opd.tmp rfl))) ?_
              refine RegL.pure (p := (pEq (.bool (!x20)))) rfl rfl rfl (J_move rfl (Opd.tmp rfl)) ?_
              rcases Bool.eq_false_or_eq_true (!x20) with hc21 | hc21
              · replace h := bif_t hc21 h
                refine RegL.skipG rfl rfl rfl hc21 rfl rfl ?_
                refine RegL.skipG rfl rfl rfl hc21 rfl rfl ?_
                refine RegL.skipG rfl rfl rfl hc21 rfl rfl ?_
                refine RegL.pure (p := (pEq (.bool true))) rfl rfl rfl (J_pick rfl (Opd.tmp rfl) (fun _ => Opd.con) (fun hf => absurd (hc21.symm.trans hf) (by decide))) ?_
                refine RegL.nil ?_
                refine Ct.re (Ω2 := [oSS 22 2 1 (cK .i64) g8.1.1 g8.1.2.1 g8.1.2.2 g8.2 x7.1]) (fun h => SatO.rest h) ?_
                replace h := Option.some.inj h; subst h
                exact Ct.mid () rfl ⟨rfl, rfl, rfl, rfl, rfl, trivial⟩
              · replace h := bif_f hc21 h
                refine RegL.pureG (p := (pEq (.int .i64 x7.2))) rfl rfl rfl hc21 rfl rfl (J_move rfl (Opd.tmp rfl)) ?_
                refine RegL.pureG (p := (pEq (.int .i64 x3.2))) rfl rfl rfl hc21 rfl rfl (J_move rfl (Opd.tmp rfl)) ?_
                refine RegL.pureG (p := (pEq (.bool (x7.2 != x3.2)))) rfl rfl rfl hc21 rfl rfl (J_bin rfl (Opd.tmp rfl) (Opd.tmp rfl) B_neq) ?_
                refine RegL.pure (p := (pEq (.bool (x7.2 != x3.2)))) rfl rfl rfl (J_pick rfl (Opd.tmp rfl) (fun hf => absurd (hc21.symm.trans hf) (by decide)) (fun _ => (Opd.tmp rfl))) ?_
                refine RegL.nil ?_
                refine Ct.re (Ω2 := [oSS 22 2 1 (cK .i64) g8.1.1 g8.1.2.1 g8.1.2.2 g8.2 x7.1]) (fun h => SatO.rest h) ?_
                replace h := Option.some.inj h; subst h
                exact Ct.mid () rfl ⟨rfl, rfl, rfl, rfl, rfl, trivial⟩
          · clear hx18
            refine Ct.then_tr ?_
            refine Tr.weak (Γ' := [(0, (pSl 1 (cSl 1 (cK .i64)) a_0)), (4, (pSl 1 (cSl 1 (cK .i64)) x3.1)), (5, (pEq (.int .i64 x3.2))), (7, (pEq (.slice g8.1.1 g8.1.2.1 g8.1.2.2))), (61, (pEq (.bool x18)))]) ⟨rfl, rfl, rfl, rfl, rfl, trivial⟩ ?_
            refine Tr.cond (Opd.tmp rfl) (fun hc => ?_) (fun hc => ?_)
            · replace h := bif_t hc h
              refine Tr.seq ?_
              refine Tr.region ?_
              refine RegL.pure (p := (pEq (.bool false))) rfl rfl rfl (J_assign rfl Opd.con) ?_
              refine RegL.nil ?_
              refine Ct.then_tr ?_
              refine Tr.weak (Γ' := [(2, (pEq (.bool false)))]) ⟨rfl, trivial⟩ ?_
              refine Tr.ret ?_
              refine Ct.then_ret ?_
              replace h := Option.some.inj h; subst h
              exact Ct.retH1 (Ωx := [oSS 22 2 1 (cK .i64) g8.1.1 g8.1.2.1 g8.1.2.2 g8.2 x7.1]) () rfl (RvOk.tmp rfl) rfl
            · replace h := bif_f hc h
              refine Tr.skip ?_
              refine Ct.then_tr ?_
              refine Tr.weak (Γ' := [(0, (pSl 1 (cSl 1 (cK .i64)) a_0)), (4, (pSl 1 (cSl 1 (cK .i64)) x3.1)), (5, (pEq (.int .i64 x3.2))), (7, (pEq (.slice g8.1.1 g8.1.2.1 g8.1.2.2)))]) ⟨rfl, rfl, rfl, rfl, trivial⟩ ?_
              refine Tr.seq ?_
              refine Tr.region ?_
              refine RegL.pure (p := (pEq (.int .i64 (1 : Int)))) rfl rfl rfl (J_assign rfl Opd.con) ?_
              refine RegL.nil ?_
              refine Ct.then_tr ?_
              refine Tr.weak (Γ' := [(0, (pSl 1 (cSl 1 (cK .i64)) a_0)), (4, (pSl 1 (cSl 1 (cK .i64)) x3.1)), (5, (pEq (.int .i64 x3.2))), (7, (pEq (.slice g8.1.1 g8.1.2.1 g8.1.2.2))), (10, (pEq (.int .i64 (1 : Int))))]) ⟨rfl, rfl, rfl, rfl, rfl, trivial⟩ ?_
              refine Tr.seq ?_
              refine Tr.region ?_
              refine RegL.pure (p := (pEq (.slice g8.1.1 g8.1.2.1 g8.1.2.2))) rfl rfl rfl (J_move rfl (Opd.tmp rfl)) ?_
              refine RegL.pure (p := (pEq (.int .i64 (1 : Int)))) rfl rfl rfl (J_move rfl (Opd.tmp rfl)) ?_
              replace h := bind_some h; obtain ⟨x23, hx23, h⟩ := h
              refine RegL.step (γ := Unit) (p := fun g => (pEq (.int .i64 x23.1))) (Ω' := fun g => [oSS 22 2 1 (cK .i64) g8.1.1 g8.1.2.1 g8.1.2.2 g8.2 x23.2]) rfl rfl rfl (M_callH (Ωi := [oSS 22 2 1 (cK .i64) g8.1.1 g8.1.2.1 g8.1.2.2 g8.2 x7.1]) rfl Try.call54 (o_laws_markInt64SS hx23) (Opds.cons (Opd.tmp rfl) (Opds.cons (Opd.tmp rfl) Opds.nil))) fun g24 => ?_
              refine RegL.pure (p := (pEq (.int .i64 x23.1))) rfl rfl rfl (J_assign rfl (Opd.tmp rfl)) ?_
              refine RegL.nil ?_
              refine Ct.then_tr ?_
              refine Tr.weak (Γ' := [(0, (pSl 1 (cSl 1 (cK .i64)) a_0)), (4, (pSl 1 (cSl 1 (cK .i64)) x3.1)), (5, (pEq (.int .i64 x3.2))), (7, (pEq (.slice g8.1.1 g8.1.2.1 g8.1.2.2))), (10, (pEq (.int .i64 x23.1)))]) ⟨rfl, rfl, rfl, rfl, rfl, trivial⟩ ?_
              refine Tr.seq ?_
              refine Tr.region ?_
              refine RegL.pure (p := (pEq (.int .i64 (1 : Int)))) rfl rfl rfl (J_assign rfl Opd.con) ?_
              refine RegL.nil ?_
              refine Ct.then_tr ?_
              refine Tr.weak (Γ' := [(0, (pSl 1 (cSl 1 (cK .i64)) a_0)), (4, (pSl 1 (cSl 1 (cK .i64)) x3.1)), (5, (pEq (.int .i64 x3.2))), (7, (pEq (.slice g8.1.1 g8.1.2.1 g8.1.2.2))), (10, (pEq (.int .i64 x23.1))), (11, (pEq (.int .i64 (1 : Int))))]) ⟨rfl, rfl, rfl, rfl, rfl, rfl, trivial⟩ ?_
              refine Tr.seq ?_
              refine Tr.region ?_
              refine RegL.pure (p := (pEq (.slice g8.1.1 g8.1.2.1 g8.1.2.2))) rfl rfl rfl (J_move rfl (Opd.tmp rfl)) ?_
              refine RegL.pure (p := (pEq (.int .i64 (1 : Int)))) rfl rfl rfl (J_move rfl (Opd.tmp rfl)) ?_
              replace h := bind_some h; obtain ⟨x25, hx25, h⟩ := h
              refine RegL.pureW (p := (pEq (.int .i64 x25))) rfl rfl rfl (W_call rfl Try.call57 (c_laws_heldInt64SS hx25) (OpdsA.cons (OpdA.conv rfl (Conv.nest 0 (fun _ => rfl) rfl)) (OpdsA.cons (OpdA.of (Opd.tmp rfl)) OpdsA.nil)) FreeP.eq) ?_
              refine RegL.pure (p := (pEq (.int .i64 x25))) rfl rfl rfl (J_assign rfl (Opd.tmp rfl)) ?_
              refine RegL.nil ?_
              refine Ct.then_tr ?_
              refine Tr.weak (Γ' := [(0, (pSl 1 (cSl 1 (cK .i64)) a_0)), (4, (pSl 1 (cSl 1 (cK .i64)) x3.1)), (5, (pEq (.int .i64 x3.2))), (7, (pEq (.slice g8.1.1 g8.1.2.1 g8.1.2.2))), (10, (pEq (.int .i64 x23.1))), (11, (pEq (.int .i64 x25)))]) ⟨rfl, rfl, rfl, rfl, rfl, rfl, trivial⟩ ?_
              refine Tr.seq ?_
              refine Tr.seq ?_
              refine Tr.region ?_
              refine RegL.pure (p := (pEq (.int .i64 x25))) rfl rfl rfl (J_move rfl (Opd.tmp rfl)) ?_
              refine RegL.pure (p := (pEq (.bool (decide (x25 < (0 : Int)))))) rfl rfl rfl (J_bin rfl (Opd.tmp rfl) Opd.con B_lss) ?_
              refine RegL.nil ?_
              refine Ct.then_tr ?_
              refine Tr.weak (Γ' := [(0, (pSl 1 (cSl 1 (cK .i64)) a_0)), (4, (pSl 1 (cSl 1 (cK .i64)) x3.1)), (5, (pEq (.int .i64 x3.2))), (7, (pEq (.slice g8.1.1 g8.1.2.1 g8.1.2.2))), (10, (pEq (.int .i64 x23.1))), (11, (pEq (.int .i64 x25))), (69, (pEq (.bool (decide (x25 < (0 : Int))))))]) ⟨rfl, rfl, rfl, rfl, rfl, rfl, rfl, trivial⟩ ?_
              refine Tr.cond (Opd.tmp rfl) (fun hc => ?_) (fun hc => ?_)
              · replace h := bif_t hc h
                refine Tr.seq ?_
                refine Tr.region ?_
                refine RegL.pure (p := (pEq (.bool false))) rfl rfl rfl (J_assign rfl Opd.con) ?_
                refine RegL.nil ?_
                refine Ct.then_tr ?_
                refine Tr.weak (Γ' := [(2, (pEq (.bool false)))]) ⟨rfl, trivial⟩ ?_
                refine Tr.ret ?_
                refine Ct.then_ret ?_
                replace h := Option.some.inj h; subst h
                exact Ct.retH1 (Ωx := [oSS 22 2 1 (cK .i64) g8.1.1 g8.1.2.1 g8.1.2.2 g8.2 x23.2]) () rfl (RvOk.tmp rfl) rfl
              · replace h := bif_f hc h
                refine Tr.skip ?_
                refine Ct.then_tr ?_
                refine Tr.weak (Γ' := [(0, (pSl 1 (cSl 1 (cK .i64)) a_0)), (4, (pSl 1 (cSl 1 (cK .i64)) x3.1)), (5, (pEq (.int .i64 x3.2))), (7, (pEq (.slice g8.1.1 g8.1.2.1 g8.1.2.2))), (10, (pEq (.int .i64 x23.1))), (11, (pEq (.int .i64 x25)))]) ⟨rfl, rfl, rfl, rfl, rfl, rfl, trivial⟩ ?_
                refine Tr.seq ?_
                refine Tr.seq ?_
                refine Tr.region ?_
                refine RegL.pure (p := (pEq (.int .i64 x25))) rfl rfl rfl (J_move rfl (Opd.tmp rfl)) ?_
                refine RegL.pure (p := (pEq (.int .i64 x23.1))) rfl rfl rfl (J_move rfl (Opd.tmp rfl)) ?_
                refine RegL.pure (p := (pEq (.bool (x25 != x23.1)))) rfl rfl rfl (J_bin rfl (Opd.tmp rfl) (Opd.tmp rfl) B_neq) ?_
                refine RegL.nil ?_
                refine Ct.then_tr ?_
                refine Tr.weak (Γ' := [(0, (pSl 1 (cSl 1 (cK .i64)) a_0)), (4, (pSl 1 (cSl 1 (cK .i64)) x3.1)), (5, (pEq (.int .i64 x3.2))), (7, (pEq (.slice g8.1.1 g8.1.2.1 g8.1.2.2))), (10, (pEq (.int .i64 x23.1))), (72, (pEq (.bool (x25 != x23.1))))]) ⟨rfl, rfl, rfl, rfl, rfl, rfl, trivial⟩ ?_
                refine Tr.cond (Opd.tmp rfl) (fun hc => ?_) (fun hc => ?_)
                · replace h := bif_t hc h
                  refine Tr.seq ?_
                  refine Tr.region ?_
                  refine RegL.pure (p := (pEq (.bool false))) rfl rfl rfl (J_assign rfl Opd.con) ?_
                  refine RegL.nil ?_
                  refine Ct.then_tr ?_
                  refine Tr.weak (Γ' := [(2, (pEq (.bool false)))]) ⟨rfl, trivial⟩ ?_
                  refine Tr.ret ?_
                  refine Ct.then_ret ?_
                  replace h := Option.some.inj h; subst h
                  exact Ct.retH1 (Ωx := [oSS 22 2 1 (cK .i64) g8.1.1 g8.1.2.1 g8.1.2.2 g8.2 x23.2]) () rfl (RvOk.tmp rfl) rfl
                · replace h := bif_f hc h
                  refine Tr.skip ?_
                  refine Ct.then_tr ?_
                  refine Tr.weak (Γ' := [(0, (pSl 1 (cSl 1 (cK .i64)) a_0)), (4, (pSl 1 (cSl 1 (cK .i64)) x3.1)), (5, (pEq (.int .i64 x3.2))), (7, (pEq (.slice g8.1.1 g8.1.2.1 g8.1.2.2))), (10, (pEq (.int .i64 x23.1)))]) ⟨rfl, rfl, rfl, rfl, rfl, trivial⟩ ?_
                  refine Tr.seq ?_
                  refine Tr.region ?_
                  refine RegL.pure (p := (pSl 1 (cSl 1 (cK .i64)) a_0)) rfl rfl rfl (J_move rfl (Opd.tmp rfl)) ?_
                  replace h := bind_some h; obtain ⟨x26, hx26, h⟩ := h
                  refine RegL.pure (p := (pSl 1 (cSl 1 (cK .i64)) x26)) rfl rfl rfl (J_call rfl Try.call49 (c_laws_toInt64SS hx26) (Opds.cons (Opd.tmp rfl) Opds.nil)) ?_
                  replace h := bind_some h; obtain ⟨x27, hx27, h⟩ := h
                  refine RegL.pure (p := (pTup [(pSl 1 (cSl 1 (cK .i64)) x27.1), (pEq (.int .i64 x27.2))])) rfl rfl rfl (J_call rfl Try.call56 (c_impl_PairRatios hx27) (Opds.cons (Opd.tmp rfl) Opds.nil)) ?_
                  refine RegL.pure (p := (pTup [(pSl 1 (cSl 1 (cK .i64)) x27.1), (pEq (.int .i64 x27.2))])) rfl rfl rfl (J_move rfl (Opd.tmp rfl)) ?_
                  refine RegL.pure (p := (pSl 1 (cSl 1 (cK .i64)) x27.1)) rfl rfl rfl (J_extract rfl (Opd.tmp rfl) rfl) ?_
                  refine RegL.pure (p := (pEq (.int .i64 x27.2))) rfl rfl rfl (J_extract rfl (Opd.tmp rfl) rfl) ?_
                  refine RegL.pure (p := (pSl 1 (cSl 1 (cK .i64)) x27.1)) rfl rfl rfl (J_assign rfl (Opd.tmp rfl)) ?_
                  refine RegL.pure (p := (pEq (.int .i64 x27.2))) rfl rfl rfl (J_assign rfl (Opd.tmp rfl)) ?_
                  refine RegL.nil ?_
                  refine Ct.then_tr ?_
                  refine Tr.weak (Γ' := [(4, (pSl 1 (cSl 1 (cK .i64)) x3.1)), (5, (pEq (.int .i64 x3.2))), (7, (pEq (.slice g8.1.1 g8.1.2.1 g8.1.2.2))), (10, (pEq (.int .i64 x23.1))), (12, (pSl 1 (cSl 1 (cK .i64)) x27.1)), (13, (pEq (.int .i64 x27.2)))]) ⟨rfl, rfl, rfl, rfl, rfl, rfl, trivial⟩ ?_
                  refine Tr.seq ?_
                  refine Tr.seq ?_
                  replace h := bind_some h; obtain ⟨x28, hx28, h⟩ := h
                  refine Tr.cut (γ := Unit) (Γm := fun g => [(7, (pEq (.slice g8.1.1 g8.1.2.1 g8.1.2.2))), (10, (pEq (.int .i64 x23.1))), (87, (pEq (.bool x28)))]) (Ωm := fun g => [oSS 22 2 1 (cK .i64) g8.1.1 g8.1.2.1 g8.1.2.2 g8.2 x23.2]) ?_ (fun g31 => ?_)
                  · clear h
                    have h := hx28
                    clear hx28
                    refine Tr.region ?_
                    refine RegL.pure (p := (pSl 1 (cSl 1 (cK .i64)) x27.1)) rfl rfl rfl (J_move rfl (Opd.tmp rfl)) ?_
                    refine RegL.pure (p := (pSl 1 (cSl 1 (cK .i64)) x3.1)) rfl rfl rfl (J_move rfl (Opd.tmp rfl)) ?_
                    replace h := bind_some h; obtain ⟨x29, hx29, h⟩ := h
                    refine RegL.pure (p := (pEq (.bool x29))) rfl rfl rfl (J_call rfl Try.call51 (c_laws_eqInt64SS hx29) (Opds.cons (Opd.tmp rfl) (Opds.cons (Opd.tmp rfl) Opds.nil))) ?_
                    refine RegL.pure (p := (pEq (.bool (!x29)))) rfl rfl rfl (J_not rfl (Opd.tmp rfl)) ?_
                    refine RegL.pure (p := (pEq (.bool (!x29)))) rfl rfl rfl (J_move rfl (Opd.tmp rfl)) ?_
                    rcases Bool.eq_false_or_eq_true (!x29) with hc30 | hc30
                    · replace h := bif_t hc30 h
                      refine RegL.skipG rfl rfl rfl hc30 rfl rfl ?_
                      refine RegL.skipG rfl rfl rfl hc30 rfl rfl ?_
                      refine RegL.skipG rfl rfl rfl hc30 rfl rfl ?_
                      refine RegL.pure (p := (pEq (.bool true))) rfl rfl rfl (J_pick rfl (Opd.tmp rfl) (fun _ => Opd.con) (fun hf => absurd (hc30.symm.trans hf) (by decide))) ?_
                      refine RegL.nil ?_
                      replace h := Option.some.inj h; subst h
                      exact Ct.mid () rfl ⟨rfl, rfl, rfl, trivial⟩
                    · replace h := bif_f hc30 h
                      refine RegL.pureG (p := (pEq (.int .i64 x27.2))) rfl rfl rfl hc30 rfl rfl (J_move rfl (Opd.tmp rfl)) ?_
                      refine RegL.pureG (p := (pEq (.int .i64 x3.2))) rfl rfl rfl hc30 rfl rfl (J_move rfl (Opd.tmp rfl)) ?_
                      refine RegL.pureG (p := (pEq (.bool (x27.2 != x3.2)))) rfl rfl rfl hc30 rfl rfl (J_bin rfl (Opd.tmp rfl) (Opd.tmp rfl) B_neq) ?_
                      refine RegL.pure (p := (pEq (.bool (x27.2 != x3.2)))) rfl rfl rfl (J_pick rfl (Opd.tmp rfl) (fun hf => absurd (hc30.symm.trans hf) (by decide)) (fun _ => (Opd.tmp rfl))) ?_
                      refine RegL.nil ?_
                      replace h := Option.some.inj h; subst h
                      exact Ct.mid () rfl ⟨rfl, rfl, rfl, trivial⟩
                  · clear hx28
                    refine Ct.then_tr ?_
                    refine Tr.weak (Γ' := [(7, (pEq (.slice g8.1.1 g8.1.2.1 g8.1.2.2))), (10, (pEq (.int .i64 x23.1))), (87, (pEq (.bool x28)))]) ⟨rfl, rfl, rfl, trivial⟩ ?_
                    refine Tr.cond (Opd.tmp rfl) (fun hc => ?_) (fun hc => ?_)
                    · replace h := bif_t hc h
                      refine Tr.seq ?_
                      refine Tr.region ?_
                      refine RegL.pure (p := (pEq (.bool false))) rfl rfl rfl (J_assign rfl Opd.con) ?_
                      refine RegL.nil ?_
                      refine Ct.then_tr ?_
                      refine Tr.weak (Γ' := [(2, (pEq (.bool false)))]) ⟨rfl, trivial⟩ ?_
                      refine Tr.ret ?_
                      refine Ct.then_ret ?_
                      replace h := Option.some.inj h; subst h
                      exact Ct.retH1 (Ωx := [oSS 22 2 1 (cK .i64) g8.1.1 g8.1.2.1 g8.1.2.2 g8.2 x23.2]) () rfl (RvOk.tmp rfl) rfl
                    · replace h := bif_f hc h
                      refine Tr.skip ?_
                      refine Ct.then_tr ?_
                      refine Tr.weak (Γ' := [(7, (pEq (.slice g8.1.1 g8.1.2.1 g8.1.2.2))), (10, (pEq (.int .i64 x23.1)))]) ⟨rfl, rfl, trivial⟩ ?_
                      refine Tr.seq ?_
                      refine Tr.region ?_
                      refine RegL.pure (p := (pEq (.int .i64 (1 : Int)))) rfl rfl rfl (J_assign rfl Opd.con) ?_
                      refine RegL.nil ?_
                      refine Ct.then_tr ?_
                      refine Tr.weak (Γ' := [(7, (pEq (.slice g8.1.1 g8.1.2.1 g8.1.2.2))), (10, (pEq (.int .i64 x23.1))), (11, (pEq (.int .i64 (1 : Int))))]) ⟨rfl, rfl, rfl, trivial⟩ ?_
                      refine Tr.seq ?_
                      refine Tr.region ?_
                      refine RegL.pure (p := (pEq (.slice g8.1.1 g8.1.2.1 g8.1.2.2))) rfl rfl rfl (J_move rfl (Opd.tmp rfl)) ?_
                      refine RegL.pure (p := (pEq (.int .i64 (1 : Int)))) rfl rfl rfl (J_move rfl (Opd.tmp rfl)) ?_
                      replace h := bind_some h; obtain ⟨x32, hx32, h⟩ := h
                      refine RegL.pureW (p := (pEq (.int .i64 x32))) rfl rfl rfl (W_call rfl Try.call57 (c_laws_heldInt64SS hx32) (OpdsA.cons (OpdA.conv rfl (Conv.nest 0 (fun _ => rfl) rfl)) (OpdsA.cons (OpdA.of (Opd.tmp rfl)) OpdsA.nil)) FreeP.eq) ?_
                      refine RegL.pure (p := (pEq (.int .i64 x32))) rfl rfl rfl (J_assign rfl (Opd.tmp rfl)) ?_
                      refine RegL.nil ?_
                      refine Ct.then_tr ?_
                      refine Tr.weak (Γ' := [(10, (pEq (.int .i64 x23.1))), (11, (pEq (.int .i64 x32)))]) ⟨rfl, rfl, trivial⟩ ?_
                      refine Tr.seq ?_
                      refine Tr.seq ?_
                      refine Tr.region ?_
                      refine RegL.pure (p := (pEq (.int .i64 x32))) rfl rfl rfl (J_move rfl (Opd.tmp rfl)) ?_
                      refine RegL.pure (p := (pEq (.bool (decide (x32 < (0 : Int)))))) rfl rfl rfl (J_bin rfl (Opd.tmp rfl) Opd.con B_lss) ?_
                      refine RegL.nil ?_
                      refine Ct.then_tr ?_
                      refine Tr.weak (Γ' := [(10, (pEq (.int .i64 x23.1))), (11, (pEq (.int .i64 x32))), (92, (pEq (.bool (decide (x32 < (0 : Int))))))]) ⟨rfl, rfl, rfl, trivial⟩ ?_
                      refine Tr.cond (Opd.tmp rfl) (fun hc => ?_) (fun hc => ?_)
                      · replace h := bif_t hc h
                        refine Tr.seq ?_
                        refine Tr.region ?_
                        refine RegL.pure (p := (pEq (.bool false))) rfl rfl rfl (J_assign rfl Opd.con) ?_
                        refine RegL.nil ?_
                        refine Ct.then_tr ?_
                        refine Tr.weak (Γ' := [(2, (pEq (.bool false)))]) ⟨rfl, trivial⟩ ?_
                        refine Tr.ret ?_
                        refine Ct.then_ret ?_
                        replace h := Option.some.inj h; subst h
                        exact Ct.retH1 (Ωx := [oSS 22 2 1 (cK .i64) g8.1.1 g8.1.2.1 g8.1.2.2 g8.2 x23.2]) () rfl (RvOk.tmp rfl) rfl
                      · replace h := bif_f hc h
                        refine Tr.skip ?_
                        refine Ct.then_tr ?_
                        refine Tr.weak (Γ' := [(10, (pEq (.int .i64 x23.1))), (11, (pEq (.int .i64 x32)))]) ⟨rfl, rfl, trivial⟩ ?_
                        refine Tr.seq ?_
                        refine Tr.seq ?_
                        refine Tr.region ?_
                        refine RegL.pure (p := (pEq (.int .i64 x32))) rfl rfl rfl (J_move rfl (Opd.tmp rfl)) ?_
                        refine RegL.pure (p := (pEq (.int .i64 x23.1))) rfl rfl rfl (J_move rfl (Opd.tmp rfl)) ?_
                        refine RegL.pure (p := (pEq (.bool (x32 != x23.1)))) rfl rfl rfl (J_bin rfl (Opd.tmp rfl) (Opd.tmp rfl) B_neq) ?_
                        refine RegL.nil ?_
                        refine Ct.then_tr ?_
                        refine Tr.weak (Γ' := [(95, (pEq (.bool (x32 != x23.1))))]) ⟨rfl, trivial⟩ ?_
                        refine Tr.cond (Opd.tmp rfl) (fun hc => ?_) (fun hc => ?_)
                        · replace h := bif_t hc h
                          refine Tr.seq ?_
                          refine Tr.region ?_
                          refine RegL.pure (p := (pEq (.bool false))) rfl rfl rfl (J_assign rfl Opd.con) ?_
                          refine RegL.nil ?_
                          refine Ct.then_tr ?_
                          refine Tr.weak (Γ' := [(2, (pEq (.bool false)))]) ⟨rfl, trivial⟩ ?_
                          refine Tr.ret ?_
                          refine Ct.then_ret ?_
                          replace h := Option.some.inj h; subst h
                          exact Ct.retH1 (Ωx := [oSS 22 2 1 (cK .i64) g8.1.1 g8.1.2.1 g8.1.2.2 g8.2 x23.2]) () rfl (RvOk.tmp rfl) rfl
                        · replace h := bif_f hc h
                          refine Tr.skip ?_
                          refine Ct.then_tr ?_
                          refine Tr.weak (Γ' := []) trivial ?_
                          refine Tr.seq ?_
                          refine Tr.region ?_
                          refine RegL.pure (p := (pEq (.bool true))) rfl rfl rfl (J_assign rfl Opd.con) ?_
                          refine RegL.nil ?_
                          refine Ct.then_tr ?_
                          refine Tr.weak (Γ' := [(2, (pEq (.bool true)))]) ⟨rfl, trivial⟩ ?_
                          refine Tr.ret ?_
                          replace h := Option.some.inj h; subst h
                          exact Ct.retH1 (Ωx := [oSS 22 2 1 (cK .i64) g8.1.1 g8.1.2.1 g8.1.2.2 g8.2 x23.2]) () rfl (RvOk.tmp rfl) rfl

end Go.Proofs.Ytdilkjbhbglpbaa.fnExactPairRatiosW
