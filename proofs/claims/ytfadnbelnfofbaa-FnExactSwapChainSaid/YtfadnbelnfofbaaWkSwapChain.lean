/-
  The walks that the law FnExactSwapChain reaches: each function computes its model. Printed by our own program.
-/
import Derived.Test.YtfadnbelnfofbaaProg
import Derived.Test.YtfadnbelnfofbaaMod
import Derived.Test.YtfadnbelnfofbaaZero
import Derived.KernelRfl
import Derived.Test.YtfadnbelnfofbaaWkSwapChainb
namespace Go.Proofs.Ytfadnbelnfofbaa.fnExactSwapChainW
open Go Go.RowKit Go.Wk
set_option linter.unusedVariables false
set_option maxRecDepth 100000


theorem o_laws_markInt64SS {a_0 : (List (List Int))} {k_1 : Int} {ho0 : Option Addr} {hn0 hc0 : Nat} {hh0 : List G3} {r : (Int × (List (List Int)))} (h : m_laws_markInt64SS a_0 k_1 = some r) : CallH Try.prog 36 [(pEq (.slice ho0 hn0 hc0)), (pEq (.int .i64 k_1))] [oSS 26 2 1 (cK .i64) ho0 hn0 hc0 hh0 a_0] (fun g : Unit => (pEq (.int .i64 r.1))) (fun g : Unit => [oSS 26 2 1 (cK .i64) ho0 hn0 hc0 hh0 r.2]) := by
  unfold m_laws_markInt64SS at h
  refine CallH.enter Try.func36 rfl Try.ntmps36 rfl fun W I0 H => ?_
  refine Tr.weak (Γ' := [(0, (pEq (.slice ho0 hn0 hc0))), (1, (pEq (.int .i64 k_1)))]) ⟨rfl, rfl, trivial⟩ ?_
  refine Tr.seq ?_
  refine Tr.region ?_
  refine RegL.pure (p := (pEq (.int .i64 (0 : Int)))) rfl rfl rfl (J_assign rfl Opd.con) ?_
  refine RegL.nil ?_
  refine Ct.then_tr ?_
  refine Tr.weak (Γ' := [(0, (pEq (.slice ho0 hn0 hc0))), (1, (pEq (.int .i64 k_1)))]) ⟨rfl, rfl, trivial⟩ ?_
  refine Tr.seq ?_
  refine Tr.seq ?_
  refine Tr.region ?_
  refine RegL.pure (p := (pEq (.int .i64 (0 : Int)))) rfl rfl rfl (J_assign rfl Opd.con) ?_
  refine RegL.nil ?_
  refine Ct.then_tr ?_
  refine Tr.weak (Γ' := [(0, (pEq (.slice ho0 hn0 hc0))), (1, (pEq (.int .i64 k_1))), (5, (pEq (.int .i64 (0 : Int))))]) ⟨rfl, rfl, rfl, trivial⟩ ?_
  replace h := bind_some h; obtain ⟨x2, hx2, h⟩ := h
  refine Tr.cut (γ := Unit) (Γm := fun g => [(1, (pEq (.int .i64 x2.1)))]) (Ωm := fun g => [oSS 26 2 1 (cK .i64) ho0 hn0 hc0 hh0 x2.2]) ?_ (fun g12 => ?_)
  · clear h
    have h := hx2
    clear hx2
    refine Tr.block ?_
    refine Tr.weak (Γ' := [(0, (pEq (.slice ho0 hn0 hc0))), (1, (pEq (.int .i64 k_1))), (5, (pEq (.int .i64 (0 : Int))))]) ⟨rfl, rfl, rfl, trivial⟩ ?_
    refine Tr.loop (γ := Unit) (σ := (Int × Int × (List (List Int)))) (Γσ := fun s g => [(0, (pEq (.slice ho0 hn0 hc0))), (1, (pEq (.int .i64 s.1))), (5, (pEq (.int .i64 s.2.1)))]) (Ωσ := fun s g => [oSS 26 2 1 (cK .i64) ho0 hn0 hc0 hh0 s.2.2]) (g := ()) h ?_
    clear h
    rintro ⟨v4, v5, v6⟩ g7 t h
    replace h : m_laws_markInt64SS_B3  v4 v5 v6 = some t := h
    unfold m_laws_markInt64SS_B3 at h
    refine Tr.weakO (Γ' := [(0, (pEq (.slice ho0 hn0 hc0))), (1, (pEq (.int .i64 v4))), (5, (pEq (.int .i64 v5)))]) (Ω' := [oSS 26 2 1 (cK .i64) ho0 hn0 hc0 hh0 v6]) rfl ⟨rfl, rfl, rfl, trivial⟩ ?_
    refine Tr.seq ?_
    refine Tr.seq ?_
    refine Tr.region ?_
    refine RegL.pure (p := (pEq (.int .i64 v5))) rfl rfl rfl (J_move rfl (Opd.tmp rfl)) ?_
    refine RegL.pure (p := (pEq (.slice ho0 hn0 hc0))) rfl rfl rfl (J_move rfl (Opd.tmp rfl)) ?_
    refine RegL.pureW (p := (pEq (.int .i64 (v6.length : Int)))) rfl rfl rfl (W_nestLen (j := 0) rfl Try.underlying22 (Opd.tmp rfl) rfl) ?_
    refine RegL.pure (p := (pEq (.bool (decide (v5 < (v6.length : Int)))))) rfl rfl rfl (J_bin rfl (Opd.tmp rfl) (Opd.tmp rfl) B_lss) ?_
    refine RegL.nil ?_
    refine Ct.then_tr ?_
    refine Tr.weak (Γ' := [(0, (pEq (.slice ho0 hn0 hc0))), (1, (pEq (.int .i64 v4))), (5, (pEq (.int .i64 v5))), (9, (pEq (.bool (decide (v5 < (v6.length : Int))))))]) ⟨rfl, rfl, rfl, rfl, trivial⟩ ?_
    refine Tr.cond (Opd.tmp rfl) (fun hc => ?_) (fun hc => ?_)
    · replace h := bif_t hc h
      refine Tr.skip ?_
      refine Ct.then_tr ?_
      refine Tr.weak (Γ' := [(0, (pEq (.slice ho0 hn0 hc0))), (1, (pEq (.int .i64 v4))), (5, (pEq (.int .i64 v5)))]) ⟨rfl, rfl, rfl, trivial⟩ ?_
      refine Tr.seq ?_
      refine Tr.block ?_
      refine Tr.region ?_
      refine RegL.pure (p := (pEq (.slice ho0 hn0 hc0))) rfl rfl rfl (J_move rfl (Opd.tmp rfl)) ?_
      refine RegL.pure (p := (pEq (.int .i64 v5))) rfl rfl rfl (J_move rfl (Opd.tmp rfl)) ?_
      replace h := bind_some h; obtain ⟨x8, hx8, h⟩ := h
      refine RegL.pureW (p := (pEq (.pointer (some ⟨blk ho0, (v5).toNat * 1, none⟩)))) rfl rfl rfl (W_nestIdx (j := 0) rfl Try.underlying22 sz26 (Opd.tmp rfl) (Opd.tmp rfl) rfl (idx_lt hx8)) ?_
      refine RegL.pureW (p := (pEq (hdrV (gd hh0 v5)))) rfl rfl rfl (W_nestLoad (j := 0) rfl Try.isAgg26 (Opd.tmp rfl) rfl hx8) ?_
      refine RegL.pure (p := (pEq (.int .i64 v4))) rfl rfl rfl (J_move rfl (Opd.tmp rfl)) ?_
      replace h := bind_some h; obtain ⟨x10, hx10, h⟩ := h
      refine RegL.re (Ω2 := [oSl 2 1 (cK .i64) (gd hh0 v5).1 (gd hh0 v5).2.1 (gd hh0 v5).2.2 x8, oHole 26 2 1 (cK .i64) ho0 hn0 hc0 hh0 v6 v5]) (fun h => nest_focus hx8 h) ?_
      refine RegL.step (γ := Unit) (p := fun g => (pEq (.int .i64 x10.1))) (Ω' := fun g => [oSl 2 1 (cK .i64) (gd hh0 v5).1 (gd hh0 v5).2.1 (gd hh0 v5).2.2 x10.2, oHole 26 2 1 (cK .i64) ho0 hn0 hc0 hh0 v6 v5]) rfl rfl rfl (M_callH (Ωi := [oSl 2 1 (cK .i64) (gd hh0 v5).1 (gd hh0 v5).2.1 (gd hh0 v5).2.2 x8]) rfl Try.call15 (o_laws_markInt64S hx10) (Opds.cons (Opd.tmp rfl) (Opds.cons (Opd.tmp rfl) Opds.nil))) fun g11 => ?_
      refine RegL.re (Ω2 := [oSS 26 2 1 (cK .i64) ho0 hn0 hc0 hh0 (v6.set (v5).toNat x10.2)]) (fun h => nest_unfocus hx8 h) ?_
      refine RegL.pure (p := (pEq (.int .i64 x10.1))) rfl rfl rfl (J_assign rfl (Opd.tmp rfl)) ?_
      refine RegL.nil ?_
      refine Ct.blk_normal ?_
      refine Ct.then_tr ?_
      refine Tr.weak (Γ' := [(0, (pEq (.slice ho0 hn0 hc0))), (1, (pEq (.int .i64 x10.1))), (5, (pEq (.int .i64 v5)))]) ⟨rfl, rfl, rfl, trivial⟩ ?_
      refine Tr.region ?_
      refine RegL.pure (p := (pEq (.int .i64 v5))) rfl rfl rfl (J_move rfl (Opd.tmp rfl)) ?_
      refine RegL.pure (p := (pEq (.int .i64 (w64 (v5 + (1 : Int)))))) rfl rfl rfl (J_bin rfl (Opd.tmp rfl) Opd.con B_add) ?_
      refine RegL.pure (p := (pEq (.int .i64 (w64 (v5 + (1 : Int)))))) rfl rfl rfl (J_assign rfl (Opd.tmp rfl)) ?_
      refine RegL.nil ?_
      replace h := Option.some.inj h; subst h
      exact Ct.again () rfl ⟨rfl, rfl, rfl, trivial⟩
    · replace h := bif_f hc h
      refine Tr.exit ?_
      refine Ct.then_exit ?_
      replace h := map_some h; obtain ⟨r1, h, rfl⟩ := h
      refine Ct.out_exit fun e => ?_
      subst e
      refine Ct.blk_exit ?_
      replace h := Option.some.inj h; subst h
      exact Ct.mid () rfl ⟨rfl, trivial⟩
  · clear hx2
    refine Ct.then_tr ?_
    refine Tr.weak (Γ' := [(1, (pEq (.int .i64 x2.1)))]) ⟨rfl, trivial⟩ ?_
    refine Tr.seq ?_
    refine Tr.region ?_
    refine RegL.pure (p := (pEq (.int .i64 x2.1))) rfl rfl rfl (J_move rfl (Opd.tmp rfl)) ?_
    refine RegL.pure (p := (pEq (.int .i64 x2.1))) rfl rfl rfl (J_assign rfl (Opd.tmp rfl)) ?_
    refine RegL.nil ?_
    refine Ct.then_tr ?_
    refine Tr.weak (Γ' := [(4, (pEq (.int .i64 x2.1)))]) ⟨rfl, trivial⟩ ?_
    refine Tr.ret ?_
    replace h := Option.some.inj h; subst h
    exact Ct.retH1 (Ωx := []) () rfl (RvOk.tmp rfl) rfl

theorem o_laws_markProblem {a_0 : GProblem} {k_1 : Int} {ho0_0 : Option Addr} {hn0_0 hc0_0 : Nat} {hh0_0 : List G3} {ho0_1 : Option Addr} {hn0_1 hc0_1 : Nat} {hh0_1 : List G3} {r : (Int × (List (List Int)) × (List (List Int)))} (h : m_laws_markProblem a_0 k_1 = some r) : CallH Try.prog 14 [(pAgg [(pEq (.slice ho0_0 hn0_0 hc0_0)), (pEq (.slice ho0_1 hn0_1 hc0_1))]), (pEq (.int .i64 k_1))] [oSS 26 2 1 (cK .i64) ho0_0 hn0_0 hc0_0 hh0_0 a_0.Domains, oSS 26 2 1 (cK .i64) ho0_1 hn0_1 hc0_1 hh0_1 a_0.Apart] (fun g : Unit => (pEq (.int .i64 r.1))) (fun g : Unit => [oSS 26 2 1 (cK .i64) ho0_0 hn0_0 hc0_0 hh0_0 r.2.1, oSS 26 2 1 (cK .i64) ho0_1 hn0_1 hc0_1 hh0_1 r.2.2]) := by
  unfold m_laws_markProblem at h
  refine CallH.enter Try.func14 rfl Try.ntmps14 rfl fun W I0 H => ?_
  refine Tr.weak (Γ' := [(0, (pAgg [(pEq (.slice ho0_0 hn0_0 hc0_0)), (pEq (.slice ho0_1 hn0_1 hc0_1))])), (1, (pEq (.int .i64 k_1)))]) ⟨rfl, rfl, trivial⟩ ?_
  refine Tr.seq ?_
  refine Tr.region ?_
  refine RegL.step (γ := Nat) (p := fun b => pEq (.pointer (some ⟨b, 0, none⟩))) (Ω' := fun b => [oBlk b [(pEq (.slice ho0_0 hn0_0 hc0_0)), (pEq (.slice ho0_1 hn0_1 hc0_1))], oSS 26 2 1 (cK .i64) ho0_0 hn0_0 hc0_0 hh0_0 a_0.Domains, oSS 26 2 1 (cK .i64) ho0_1 hn0_1 hc0_1 hh0_1 a_0.Apart]) rfl rfl rfl (M_boxA rfl (Opd.tmp rfl)) fun b3 => ?_
  refine RegL.pure (p := (pEq (.int .i64 (0 : Int)))) rfl rfl rfl (J_assign rfl Opd.con) ?_
  refine RegL.nil ?_
  refine Ct.then_tr ?_
  refine Tr.weak (Γ' := [(1, (pEq (.int .i64 k_1))), (2, (pEq (.pointer (some ⟨b3, 0, none⟩))))]) ⟨rfl, rfl, trivial⟩ ?_
  refine Tr.seq ?_
  refine Tr.region ?_
  refine RegL.pure (p := (pEq (.pointer (some ⟨b3, 0, none⟩)))) rfl rfl rfl (J_fieldAddrE rfl Try.underlying29 rfl sz22 (by decide) (Opd.tmp rfl) rfl) ?_
  refine RegL.pureW (p := (pEq (.slice ho0_0 hn0_0 hc0_0))) rfl rfl rfl (W_load (i := 0) rfl Try.isAgg22 (Opd.tmp rfl) rfl rfl) ?_
  refine RegL.pure (p := (pEq (.int .i64 k_1))) rfl rfl rfl (J_move rfl (Opd.tmp rfl)) ?_
  replace h := bind_some h; obtain ⟨x4, hx4, h⟩ := h
  refine RegL.re (Ω2 := [oSS 26 2 1 (cK .i64) ho0_0 hn0_0 hc0_0 hh0_0 a_0.Domains, oBlk b3 [(pEq (.slice ho0_0 hn0_0 hc0_0)), (pEq (.slice ho0_1 hn0_1 hc0_1))], oSS 26 2 1 (cK .i64) ho0_1 hn0_1 hc0_1 hh0_1 a_0.Apart]) (fun h => SatO.pick 1 h) ?_
  refine RegL.step (γ := Unit) (p := fun g => (pEq (.int .i64 x4.1))) (Ω' := fun g => [oSS 26 2 1 (cK .i64) ho0_0 hn0_0 hc0_0 hh0_0 x4.2, oBlk b3 [(pEq (.slice ho0_0 hn0_0 hc0_0)), (pEq (.slice ho0_1 hn0_1 hc0_1))], oSS 26 2 1 (cK .i64) ho0_1 hn0_1 hc0_1 hh0_1 a_0.Apart]) rfl rfl rfl (M_callH (Ωi := [oSS 26 2 1 (cK .i64) ho0_0 hn0_0 hc0_0 hh0_0 a_0.Domains]) rfl Try.call36 (o_laws_markInt64SS hx4) (Opds.cons (Opd.tmp rfl) (Opds.cons (Opd.tmp rfl) Opds.nil))) fun g5 => ?_
  refine RegL.pure (p := (pEq (.int .i64 x4.1))) rfl rfl rfl (J_assign rfl (Opd.tmp rfl)) ?_
  refine RegL.nil ?_
  refine Ct.then_tr ?_
  refine Tr.weak (Γ' := [(1, (pEq (.int .i64 x4.1))), (2, (pEq (.pointer (some ⟨b3, 0, none⟩))))]) ⟨rfl, rfl, trivial⟩ ?_
  refine Tr.seq ?_
  refine Tr.region ?_
  refine RegL.pure (p := (pEq (.pointer (some ⟨b3, 1, none⟩)))) rfl rfl rfl (J_fieldAddrE rfl Try.underlying29 rfl sz22 (by decide) (Opd.tmp rfl) rfl) ?_
  refine RegL.pureW (p := (pEq (.slice ho0_1 hn0_1 hc0_1))) rfl rfl rfl (W_load (i := 1) rfl Try.isAgg22 (Opd.tmp rfl) rfl rfl) ?_
  refine RegL.pure (p := (pEq (.int .i64 x4.1))) rfl rfl rfl (J_move rfl (Opd.tmp rfl)) ?_
  replace h := bind_some h; obtain ⟨x6, hx6, h⟩ := h
  refine RegL.re (Ω2 := [oSS 26 2 1 (cK .i64) ho0_1 hn0_1 hc0_1 hh0_1 a_0.Apart, oSS 26 2 1 (cK .i64) ho0_0 hn0_0 hc0_0 hh0_0 x4.2, oBlk b3 [(pEq (.slice ho0_0 hn0_0 hc0_0)), (pEq (.slice ho0_1 hn0_1 hc0_1))]]) (fun h => SatO.pick 2 h) ?_
  refine RegL.step (γ := Unit) (p := fun g => (pEq (.int .i64 x6.1))) (Ω' := fun g => [oSS 26 2 1 (cK .i64) ho0_1 hn0_1 hc0_1 hh0_1 x6.2, oSS 26 2 1 (cK .i64) ho0_0 hn0_0 hc0_0 hh0_0 x4.2, oBlk b3 [(pEq (.slice ho0_0 hn0_0 hc0_0)), (pEq (.slice ho0_1 hn0_1 hc0_1))]]) rfl rfl rfl (M_callH (Ωi := [oSS 26 2 1 (cK .i64) ho0_1 hn0_1 hc0_1 hh0_1 a_0.Apart]) rfl Try.call36 (o_laws_markInt64SS hx6) (Opds.cons (Opd.tmp rfl) (Opds.cons (Opd.tmp rfl) Opds.nil))) fun g7 => ?_
  refine RegL.pure (p := (pEq (.int .i64 x6.1))) rfl rfl rfl (J_assign rfl (Opd.tmp rfl)) ?_
  refine RegL.nil ?_
  refine Ct.then_tr ?_
  refine Tr.weak (Γ' := [(1, (pEq (.int .i64 x6.1)))]) ⟨rfl, trivial⟩ ?_
  refine Tr.seq ?_
  refine Tr.region ?_
  refine RegL.pure (p := (pEq (.int .i64 x6.1))) rfl rfl rfl (J_move rfl (Opd.tmp rfl)) ?_
  refine RegL.pure (p := (pEq (.int .i64 x6.1))) rfl rfl rfl (J_assign rfl (Opd.tmp rfl)) ?_
  refine RegL.nil ?_
  refine Ct.then_tr ?_
  refine Tr.weak (Γ' := [(4, (pEq (.int .i64 x6.1)))]) ⟨rfl, trivial⟩ ?_
  refine Tr.ret ?_
  refine Ct.re (Ω2 := [oSS 26 2 1 (cK .i64) ho0_0 hn0_0 hc0_0 hh0_0 x4.2, oSS 26 2 1 (cK .i64) ho0_1 hn0_1 hc0_1 hh0_1 x6.2, oBlk b3 [(pEq (.slice ho0_0 hn0_0 hc0_0)), (pEq (.slice ho0_1 hn0_1 hc0_1))]]) (fun h => SatO.pick 1 h) ?_
  refine Ct.re (Ω2 := [oBlk b3 [(pEq (.slice ho0_0 hn0_0 hc0_0)), (pEq (.slice ho0_1 hn0_1 hc0_1))], oSS 26 2 1 (cK .i64) ho0_0 hn0_0 hc0_0 hh0_0 x4.2, oSS 26 2 1 (cK .i64) ho0_1 hn0_1 hc0_1 hh0_1 x6.2]) (fun h => SatO.pick 2 h) ?_
  replace h := Option.some.inj h; subst h
  exact Ct.retH1 (Ωx := [oBlk b3 [(pEq (.slice ho0_0 hn0_0 hc0_0)), (pEq (.slice ho0_1 hn0_1 hc0_1))]]) () rfl (RvOk.tmp rfl) rfl

theorem c_laws_heldInt64S {a_0 : (List Int)} {k_1 : Int} {r : Int} (h : m_laws_heldInt64S a_0 k_1 = some r) : CallJ Try.prog 16 [(pSl 1 (cK .i64) a_0), (pEq (.int .i64 k_1))] (pEq (.int .i64 r)) := by
  unfold m_laws_heldInt64S at h
  refine CallJ.enterH Try.func16 rfl Try.ntmps16 rfl fun W I0 H => ?_
  refine Tr.weak (Γ' := [(0, (pSl 1 (cK .i64) a_0)), (1, (pEq (.int .i64 k_1)))]) ⟨rfl, rfl, trivial⟩ ?_
  refine Tr.seq ?_
  refine Tr.region ?_
  refine RegL.pure (p := (pEq (.int .i64 (0 : Int)))) rfl rfl rfl (J_assign rfl Opd.con) ?_
  refine RegL.nil ?_
  refine Ct.then_tr ?_
  refine Tr.weak (Γ' := [(0, (pSl 1 (cK .i64) a_0)), (1, (pEq (.int .i64 k_1)))]) ⟨rfl, rfl, trivial⟩ ?_
  refine Tr.seq ?_
  refine Tr.seq ?_
  refine Tr.region ?_
  refine RegL.pure (p := (pEq (.int .i64 (0 : Int)))) rfl rfl rfl (J_assign rfl Opd.con) ?_
  refine RegL.nil ?_
  refine Ct.then_tr ?_
  refine Tr.weak (Γ' := [(0, (pSl 1 (cK .i64) a_0)), (1, (pEq (.int .i64 k_1))), (5, (pEq (.int .i64 (0 : Int))))]) ⟨rfl, rfl, rfl, trivial⟩ ?_
  refine Tr.block ?_
  refine Tr.weak (Γ' := [(0, (pSl 1 (cK .i64) a_0)), (1, (pEq (.int .i64 k_1))), (5, (pEq (.int .i64 (0 : Int))))]) ⟨rfl, rfl, rfl, trivial⟩ ?_
  refine Tr.loop (γ := Unit) (σ := (Int × Int)) (Γσ := fun s g => [(0, (pSl 1 (cK .i64) a_0)), (1, (pEq (.int .i64 s.1))), (5, (pEq (.int .i64 s.2)))]) (Ωσ := fun s g => []) (g := ()) h ?_
  clear h
  rintro ⟨v2, v3⟩ g4 t h
  replace h : m_laws_heldInt64S_B1 a_0 v2 v3 = some t := h
  unfold m_laws_heldInt64S_B1 at h
  refine Tr.weakO (Γ' := [(0, (pSl 1 (cK .i64) a_0)), (1, (pEq (.int .i64 v2))), (5, (pEq (.int .i64 v3)))]) (Ω' := []) rfl ⟨rfl, rfl, rfl, trivial⟩ ?_
  refine Tr.seq ?_
  refine Tr.seq ?_
  refine Tr.region ?_
  refine RegL.pure (p := (pEq (.int .i64 v3))) rfl rfl rfl (J_move rfl (Opd.tmp rfl)) ?_
  refine RegL.pure (p := (pSl 1 (cK .i64) a_0)) rfl rfl rfl (J_move rfl (Opd.tmp rfl)) ?_
  refine RegL.pure (p := (pEq (.int .i64 (a_0.length : Int)))) rfl rfl rfl (J_len rfl Try.underlying26 (Opd.tmp rfl) rfl) ?_
  refine RegL.pure (p := (pEq (.bool (decide (v3 < (a_0.length : Int)))))) rfl rfl rfl (J_bin rfl (Opd.tmp rfl) (Opd.tmp rfl) B_lss) ?_
  refine RegL.nil ?_
  refine Ct.then_tr ?_
  refine Tr.weak (Γ' := [(0, (pSl 1 (cK .i64) a_0)), (1, (pEq (.int .i64 v2))), (5, (pEq (.int .i64 v3))), (9, (pEq (.bool (decide (v3 < (a_0.length : Int))))))]) ⟨rfl, rfl, rfl, rfl, trivial⟩ ?_
  refine Tr.cond (Opd.tmp rfl) (fun hc => ?_) (fun hc => ?_)
  · replace h := bif_t hc h
    refine Tr.skip ?_
    refine Ct.then_tr ?_
    refine Tr.weak (Γ' := [(0, (pSl 1 (cK .i64) a_0)), (1, (pEq (.int .i64 v2))), (5, (pEq (.int .i64 v3)))]) ⟨rfl, rfl, rfl, trivial⟩ ?_
    refine Tr.seq ?_
    refine Tr.block ?_
    refine Tr.seq ?_
    refine Tr.seq ?_
    refine Tr.region ?_
    refine RegL.pure (p := (pSl 1 (cK .i64) a_0)) rfl rfl rfl (J_move rfl (Opd.tmp rfl)) ?_
    refine RegL.pure (p := (pEq (.int .i64 v3))) rfl rfl rfl (J_move rfl (Opd.tmp rfl)) ?_
    replace h := bind_some h; obtain ⟨x5, hx5, h⟩ := h
    refine RegL.pure (p := (pPtr ((cK .i64) x5))) rfl rfl rfl (J_idx rfl Try.underlying26 sz2 (Opd.tmp rfl) (Opd.tmp rfl) hx5) ?_
    refine RegL.pure (p := (pEq (.int .i64 x5))) rfl rfl rfl (J_load rfl Try.isAgg2 (Opd.tmp rfl)) ?_
    refine RegL.pure (p := (pEq (.int .i64 v2))) rfl rfl rfl (J_move rfl (Opd.tmp rfl)) ?_
    refine RegL.pure (p := (pEq (.bool (x5 != v2)))) rfl rfl rfl (J_bin rfl (Opd.tmp rfl) (Opd.tmp rfl) B_neq) ?_
    refine RegL.nil ?_
    refine Ct.then_tr ?_
    refine Tr.weak (Γ' := [(0, (pSl 1 (cK .i64) a_0)), (1, (pEq (.int .i64 v2))), (5, (pEq (.int .i64 v3))), (17, (pEq (.bool (x5 != v2))))]) ⟨rfl, rfl, rfl, rfl, trivial⟩ ?_
    refine Tr.cond (Opd.tmp rfl) (fun hc => ?_) (fun hc => ?_)
    · replace h := bif_t hc h
      refine Tr.seq ?_
      refine Tr.region ?_
      refine RegL.pure (p := (pEq (.int .i64 (-1 : Int)))) rfl rfl rfl (J_assign rfl Opd.con) ?_
      refine RegL.nil ?_
      refine Ct.then_tr ?_
      refine Tr.weak (Γ' := [(4, (pEq (.int .i64 (-1 : Int))))]) ⟨rfl, trivial⟩ ?_
      refine Tr.ret ?_
      refine Ct.then_ret ?_
      refine Ct.blk_ret ?_
      refine Ct.then_ret ?_
      replace h := map_some h; obtain ⟨r1, h, rfl⟩ := h
      refine Ct.out_ret fun e => ?_
      subst e
      refine Ct.blk_ret ?_
      refine Ct.then_ret ?_
      replace h := Option.some.inj h; subst h
      exact Ct.retH1 (Ωx := []) () rfl (RvOk.tmp rfl) rfl
    · replace h := bif_f hc h
      refine Tr.skip ?_
      refine Ct.then_tr ?_
      refine Tr.weak (Γ' := [(0, (pSl 1 (cK .i64) a_0)), (1, (pEq (.int .i64 v2))), (5, (pEq (.int .i64 v3)))]) ⟨rfl, rfl, rfl, trivial⟩ ?_
      refine Tr.region ?_
      refine RegL.pure (p := (pEq (.int .i64 v2))) rfl rfl rfl (J_move rfl (Opd.tmp rfl)) ?_
      refine RegL.pure (p := (pEq (.int .i64 (w64 (v2 + (1 : Int)))))) rfl rfl rfl (J_bin rfl (Opd.tmp rfl) Opd.con B_add) ?_
      refine RegL.pure (p := (pEq (.int .i64 (w64 (v2 + (1 : Int)))))) rfl rfl rfl (J_assign rfl (Opd.tmp rfl)) ?_
      refine RegL.nil ?_
      refine Ct.blk_normal ?_
      refine Ct.then_tr ?_
      refine Tr.weak (Γ' := [(0, (pSl 1 (cK .i64) a_0)), (1, (pEq (.int .i64 (w64 (v2 + (1 : Int)))))), (5, (pEq (.int .i64 v3)))]) ⟨rfl, rfl, rfl, trivial⟩ ?_
      refine Tr.region ?_
      refine RegL.pure (p := (pEq (.int .i64 v3))) rfl rfl rfl (J_move rfl (Opd.tmp rfl)) ?_
      refine RegL.pure (p := (pEq (.int .i64 (w64 (v3 + (1 : Int)))))) rfl rfl rfl (J_bin rfl (Opd.tmp rfl) Opd.con B_add) ?_
      refine RegL.pure (p := (pEq (.int .i64 (w64 (v3 + (1 : Int)))))) rfl rfl rfl (J_assign rfl (Opd.tmp rfl)) ?_
      refine RegL.nil ?_
      replace h := Option.some.inj h; subst h
      exact Ct.again () rfl ⟨rfl, rfl, rfl, trivial⟩
  · replace h := bif_f hc h
    refine Tr.exit ?_
    refine Ct.then_exit ?_
    replace h := map_some h; obtain ⟨r1, h, rfl⟩ := h
    refine Ct.out_exit fun e => ?_
    subst e
    refine Ct.blk_exit ?_
    refine Ct.then_tr ?_
    refine Tr.weak (Γ' := [(1, (pEq (.int .i64 v2)))]) ⟨rfl, trivial⟩ ?_
    refine Tr.seq ?_
    refine Tr.region ?_
    refine RegL.pure (p := (pEq (.int .i64 v2))) rfl rfl rfl (J_move rfl (Opd.tmp rfl)) ?_
    refine RegL.pure (p := (pEq (.int .i64 v2))) rfl rfl rfl (J_assign rfl (Opd.tmp rfl)) ?_
    refine RegL.nil ?_
    refine Ct.then_tr ?_
    refine Tr.weak (Γ' := [(4, (pEq (.int .i64 v2)))]) ⟨rfl, trivial⟩ ?_
    refine Tr.ret ?_
    replace h := Option.some.inj h; subst h
    exact Ct.retH1 (Ωx := []) () rfl (RvOk.tmp rfl) rfl

theorem c_laws_FnExactSwapChain {a_0 : GProblem} {a_1 : (List Int)} {a_2 : Int} {a_3 : Int} {r : Bool} (h : m_laws_FnExactSwapChain a_0 a_1 a_2 a_3 = some r) : CallJ Try.prog 5 [(pAgg (cGProblem a_0)), (pSl 1 (cK .i64) a_1), (pEq (.int .i64 a_2)), (pEq (.int .i64 a_3))] (pEq (.bool r)) := by
  unfold m_laws_FnExactSwapChain at h
  refine CallJ.enterH Try.func5 rfl Try.ntmps5 rfl fun W I0 H => ?_
  refine Tr.weak (Γ' := [(0, (pAgg (cGProblem a_0))), (1, (pSl 1 (cK .i64) a_1)), (2, (pEq (.int .i64 a_2))), (3, (pEq (.int .i64 a_3)))]) ⟨rfl, rfl, rfl, rfl, trivial⟩ ?_
  refine Tr.seq ?_
  refine Tr.region ?_
  refine RegL.pure (p := (pPtr (cGProblem a_0))) rfl rfl rfl (J_boxA rfl (Opd.tmp rfl)) ?_
  refine RegL.pure (p := (pEq (.bool false))) rfl rfl rfl (J_assign rfl Opd.con) ?_
  refine RegL.nil ?_
  refine Ct.then_tr ?_
  refine Tr.weak (Γ' := [(1, (pSl 1 (cK .i64) a_1)), (2, (pEq (.int .i64 a_2))), (3, (pEq (.int .i64 a_3))), (4, (pPtr (cGProblem a_0)))]) ⟨rfl, rfl, rfl, rfl, trivial⟩ ?_
  refine Tr.seq ?_
  refine Tr.seq ?_
  refine Tr.region ?_
  refine RegL.pure (p := (pSl 1 (cK .i64) a_1)) rfl rfl rfl (J_move rfl (Opd.tmp rfl)) ?_
  refine RegL.pure (p := (pEq (.int .i64 (a_1.length : Int)))) rfl rfl rfl (J_len rfl Try.underlying26 (Opd.tmp rfl) rfl) ?_
  refine RegL.pure (p := (pEq (.bool (decide ((1048576 : Int) < (a_1.length : Int)))))) rfl rfl rfl (J_bin rfl (Opd.tmp rfl) Opd.con B_gtr) ?_
  refine RegL.nil ?_
  refine Ct.then_tr ?_
  refine Tr.weak (Γ' := [(1, (pSl 1 (cK .i64) a_1)), (2, (pEq (.int .i64 a_2))), (3, (pEq (.int .i64 a_3))), (4, (pPtr (cGProblem a_0))), (23, (pEq (.bool (decide ((1048576 : Int) < (a_1.length : Int))))))]) ⟨rfl, rfl, rfl, rfl, rfl, trivial⟩ ?_
  refine Tr.cond (Opd.tmp rfl) (fun hc => ?_) (fun hc => ?_)
  · replace h := bif_t hc h
    refine Tr.seq ?_
    refine Tr.region ?_
    refine RegL.pure (p := (pEq (.bool true))) rfl rfl rfl (J_assign rfl Opd.con) ?_
    refine RegL.nil ?_
    refine Ct.then_tr ?_
    refine Tr.weak (Γ' := [(8, (pEq (.bool true)))]) ⟨rfl, trivial⟩ ?_
    refine Tr.ret ?_
    refine Ct.then_ret ?_
    replace h := Option.some.inj h; subst h
    exact Ct.retH1 (Ωx := []) () rfl (RvOk.tmp rfl) rfl
  · replace h := bif_f hc h
    refine Tr.skip ?_
    refine Ct.then_tr ?_
    refine Tr.weak (Γ' := [(1, (pSl 1 (cK .i64) a_1)), (2, (pEq (.int .i64 a_2))), (3, (pEq (.int .i64 a_3))), (4, (pPtr (cGProblem a_0)))]) ⟨rfl, rfl, rfl, rfl, trivial⟩ ?_
    refine Tr.seq ?_
    refine Tr.region ?_
    refine RegL.pure (p := (pEq (.int .i64 (1048576 : Int)))) rfl rfl rfl (J_assign rfl Opd.con) ?_
    refine RegL.nil ?_
    refine Ct.then_tr ?_
    refine Tr.weak (Γ' := [(1, (pSl 1 (cK .i64) a_1)), (2, (pEq (.int .i64 a_2))), (3, (pEq (.int .i64 a_3))), (4, (pPtr (cGProblem a_0))), (9, (pEq (.int .i64 (1048576 : Int))))]) ⟨rfl, rfl, rfl, rfl, rfl, trivial⟩ ?_
    refine Tr.seq ?_
    refine Tr.region ?_
    refine RegL.pure (p := (pAgg (cGProblem a_0))) rfl rfl rfl (J_loadA rfl Try.isAgg24 sz24 (Opd.tmp rfl) rfl) ?_
    refine RegL.pure (p := (pEq (.int .i64 (1048576 : Int)))) rfl rfl rfl (J_move rfl (Opd.tmp rfl)) ?_
    replace h := bind_some h; obtain ⟨x1, hx1, h⟩ := h
    refine RegL.pure (p := (pEq (.int .i64 x1))) rfl rfl rfl (J_call rfl Try.call8 (c_laws_szProblem hx1) (Opds.cons (Opd.tmp rfl) (Opds.cons (Opd.tmp rfl) Opds.nil))) ?_
    refine RegL.pure (p := (pEq (.int .i64 x1))) rfl rfl rfl (J_assign rfl (Opd.tmp rfl)) ?_
    refine RegL.nil ?_
    refine Ct.then_tr ?_
    refine Tr.weak (Γ' := [(1, (pSl 1 (cK .i64) a_1)), (2, (pEq (.int .i64 a_2))), (3, (pEq (.int .i64 a_3))), (4, (pPtr (cGProblem a_0))), (9, (pEq (.int .i64 x1)))]) ⟨rfl, rfl, rfl, rfl, rfl, trivial⟩ ?_
    refine Tr.seq ?_
    refine Tr.seq ?_
    refine Tr.region ?_
    refine RegL.pure (p := (pEq (.int .i64 x1))) rfl rfl rfl (J_move rfl (Opd.tmp rfl)) ?_
    refine RegL.pure (p := (pEq (.bool (decide (x1 < (0 : Int)))))) rfl rfl rfl (J_bin rfl (Opd.tmp rfl) Opd.con B_lss) ?_
    refine RegL.nil ?_
    refine Ct.then_tr ?_
    refine Tr.weak (Γ' := [(1, (pSl 1 (cK .i64) a_1)), (2, (pEq (.int .i64 a_2))), (3, (pEq (.int .i64 a_3))), (4, (pPtr (cGProblem a_0))), (28, (pEq (.bool (decide (x1 < (0 : Int))))))]) ⟨rfl, rfl, rfl, rfl, rfl, trivial⟩ ?_
    refine Tr.cond (Opd.tmp rfl) (fun hc => ?_) (fun hc => ?_)
    · replace h := bif_t hc h
      refine Tr.seq ?_
      refine Tr.region ?_
      refine RegL.pure (p := (pEq (.bool true))) rfl rfl rfl (J_assign rfl Opd.con) ?_
      refine RegL.nil ?_
      refine Ct.then_tr ?_
      refine Tr.weak (Γ' := [(8, (pEq (.bool true)))]) ⟨rfl, trivial⟩ ?_
      refine Tr.ret ?_
      refine Ct.then_ret ?_
      replace h := Option.some.inj h; subst h
      exact Ct.retH1 (Ωx := []) () rfl (RvOk.tmp rfl) rfl
    · replace h := bif_f hc h
      refine Tr.skip ?_
      refine Ct.then_tr ?_
      refine Tr.weak (Γ' := [(1, (pSl 1 (cK .i64) a_1)), (2, (pEq (.int .i64 a_2))), (3, (pEq (.int .i64 a_3))), (4, (pPtr (cGProblem a_0)))]) ⟨rfl, rfl, rfl, rfl, trivial⟩ ?_
      refine Tr.seq ?_
      refine Tr.region ?_
      refine RegL.pure (p := (pAgg (cGProblem a_0))) rfl rfl rfl (J_loadA rfl Try.isAgg24 sz24 (Opd.tmp rfl) rfl) ?_
      replace h := bind_some h; obtain ⟨x2, hx2, h⟩ := h
      refine RegL.pure (p := (pAgg (cGProblem x2))) rfl rfl rfl (J_call rfl Try.call10 (c_laws_toProblem hx2) (Opds.cons (Opd.tmp rfl) Opds.nil)) ?_
      refine RegL.pure (p := (pSl 1 (cK .i64) a_1)) rfl rfl rfl (J_move rfl (Opd.tmp rfl)) ?_
      replace h := bind_some h; obtain ⟨x3, hx3, h⟩ := h
      refine RegL.pure (p := (pSl 1 (cK .i64) x3)) rfl rfl rfl (J_call rfl Try.call18 (c_laws_toInt64S hx3) (Opds.cons (Opd.tmp rfl) Opds.nil)) ?_
      refine RegL.pure (p := (pEq (.int .i64 a_2))) rfl rfl rfl (J_move rfl (Opd.tmp rfl)) ?_
      refine RegL.pure (p := (pEq (.int .i64 a_3))) rfl rfl rfl (J_move rfl (Opd.tmp rfl)) ?_
      replace h := bind_some h; obtain ⟨x4, hx4, h⟩ := h
      refine RegL.pure (p := (pTup [(pSl 1 (cK .i64) x4.1), (pEq (.int .i64 x4.2))])) rfl rfl rfl (J_call rfl Try.call20 (c_spec_SwapChain hx4) (Opds.cons (Opd.tmp rfl) (Opds.cons (Opd.tmp rfl) (Opds.cons (Opd.tmp rfl) (Opds.cons (Opd.tmp rfl) Opds.nil))))) ?_
      refine RegL.pure (p := (pTup [(pSl 1 (cK .i64) x4.1), (pEq (.int .i64 x4.2))])) rfl rfl rfl (J_move rfl (Opd.tmp rfl)) ?_
      refine RegL.pure (p := (pSl 1 (cK .i64) x4.1)) rfl rfl rfl (J_extract rfl (Opd.tmp rfl) rfl) ?_
      refine RegL.pure (p := (pEq (.int .i64 x4.2))) rfl rfl rfl (J_extract rfl (Opd.tmp rfl) rfl) ?_
      refine RegL.pure (p := (pSl 1 (cK .i64) x4.1)) rfl rfl rfl (J_assign rfl (Opd.tmp rfl)) ?_
      refine RegL.pure (p := (pEq (.int .i64 x4.2))) rfl rfl rfl (J_assign rfl (Opd.tmp rfl)) ?_
      refine RegL.nil ?_
      refine Ct.then_tr ?_
      refine Tr.weak (Γ' := [(1, (pSl 1 (cK .i64) a_1)), (2, (pEq (.int .i64 a_2))), (3, (pEq (.int .i64 a_3))), (4, (pPtr (cGProblem a_0))), (10, (pSl 1 (cK .i64) x4.1)), (11, (pEq (.int .i64 x4.2)))]) ⟨rfl, rfl, rfl, rfl, rfl, rfl, trivial⟩ ?_
      refine Tr.seq ?_
      refine Tr.region ?_
      refine RegL.pure (p := (pAgg (cGProblem a_0))) rfl rfl rfl (J_loadA rfl Try.isAgg24 sz24 (Opd.tmp rfl) rfl) ?_
      replace h := bind_some h; obtain ⟨x5, hx5, h⟩ := h
      refine RegL.step (γ := ((G3 × List G3) × (G3 × List G3))) (p := fun g => (pAgg [(pEq (.slice g.1.1.1 g.1.1.2.1 g.1.1.2.2)), (pEq (.slice g.2.1.1 g.2.1.2.1 g.2.1.2.2))])) (Ω' := fun g => [oSS 26 2 1 (cK .i64) g.1.1.1 g.1.1.2.1 g.1.1.2.2 g.1.2 x5.Domains, oSS 26 2 1 (cK .i64) g.2.1.1 g.2.1.2.1 g.2.1.2.2 g.2.2 x5.Apart]) rfl rfl rfl (M_callH (Ωi := []) rfl Try.call10 (o_laws_toProblem hx5) (Opds.cons (Opd.tmp rfl) Opds.nil)) fun g6 => ?_
      refine RegL.step (γ := Nat) (p := fun b => pEq (.pointer (some ⟨b, 0, none⟩))) (Ω' := fun b => [oBlk b [(pEq (.slice none 0 0)), (pEq (.slice none 0 0))], oSS 26 2 1 (cK .i64) g6.1.1.1 g6.1.1.2.1 g6.1.1.2.2 g6.1.2 x5.Domains, oSS 26 2 1 (cK .i64) g6.2.1.1 g6.2.1.2.1 g6.2.1.2.2 g6.2.2 x5.Apart]) rfl rfl rfl (M_alloc rfl zero29) fun b9 => ?_
      refine RegL.stepN (γ := Unit) (p := fun _ => pAny) (Ω' := fun _ => [oBlk b9 [(pEq (.slice g6.1.1.1 g6.1.1.2.1 g6.1.1.2.2)), (pEq (.slice g6.2.1.1 g6.2.1.2.1 g6.2.1.2.2))], oSS 26 2 1 (cK .i64) g6.1.1.1 g6.1.1.2.1 g6.1.1.2.2 g6.1.2 x5.Domains, oSS 26 2 1 (cK .i64) g6.2.1.1 g6.2.1.2.1 g6.2.1.2.2 g6.2.2 x5.Apart]) rfl rfl (M_storeA rfl sz29 (Opd.tmp rfl) (Opd.tmp rfl) (fun _ _ _ h => ones_of ((OneCs.cons OneC.slice (OneCs.cons OneC.slice OneCs.nil))) h) rfl rfl) fun g10 => ?_
      refine RegL.nil ?_
      refine Ct.then_tr ?_
      refine Tr.weak (Γ' := [(1, (pSl 1 (cK .i64) a_1)), (2, (pEq (.int .i64 a_2))), (3, (pEq (.int .i64 a_3))), (4, (pPtr (cGProblem a_0))), (10, (pSl 1 (cK .i64) x4.1)), (11, (pEq (.int .i64 x4.2))), (12, (pEq (.pointer (some ⟨b9, 0, none⟩))))]) ⟨rfl, rfl, rfl, rfl, rfl, rfl, rfl, trivial⟩ ?_
      refine Tr.seq ?_
      refine Tr.region ?_
      refine RegL.pure (p := (pSl 1 (cK .i64) a_1)) rfl rfl rfl (J_move rfl (Opd.tmp rfl)) ?_
      replace h := bind_some h; obtain ⟨x11, hx11, h⟩ := h
      refine RegL.step (γ := G3) (p := fun g => (pEq (.slice g.1 g.2.1 g.2.2))) (Ω' := fun g => [oSl 2 1 (cK .i64) g.1 g.2.1 g.2.2 x11, oBlk b9 [(pEq (.slice g6.1.1.1 g6.1.1.2.1 g6.1.1.2.2)), (pEq (.slice g6.2.1.1 g6.2.1.2.1 g6.2.1.2.2))], oSS 26 2 1 (cK .i64) g6.1.1.1 g6.1.1.2.1 g6.1.1.2.2 g6.1.2 x5.Domains, oSS 26 2 1 (cK .i64) g6.2.1.1 g6.2.1.2.1 g6.2.1.2.2 g6.2.2 x5.Apart]) rfl rfl rfl (M_callH (Ωi := []) rfl Try.call18 (o_laws_toInt64S hx11) (Opds.cons (Opd.tmp rfl) Opds.nil)) fun g12 => ?_
      refine RegL.pure (p := (pEq (.slice g12.1 g12.2.1 g12.2.2))) rfl rfl rfl (J_assign rfl (Opd.tmp rfl)) ?_
      refine RegL.nil ?_
      refine Ct.then_tr ?_
      refine Tr.weak (Γ' := [(1, (pSl 1 (cK .i64) a_1)), (2, (pEq (.int .i64 a_2))), (3, (pEq (.int .i64 a_3))), (4, (pPtr (cGProblem a_0))), (10, (pSl 1 (cK .i64) x4.1)), (11, (pEq (.int .i64 x4.2))), (12, (pEq (.pointer (some ⟨b9, 0, none⟩)))), (13, (pEq (.slice g12.1 g12.2.1 g12.2.2)))]) ⟨rfl, rfl, rfl, rfl, rfl, rfl, rfl, rfl, trivial⟩ ?_
      refine Tr.seq ?_
      refine Tr.region ?_
      refine RegL.pureW (p := (pAgg [(pEq (.slice g6.1.1.1 g6.1.1.2.1 g6.1.1.2.2)), (pEq (.slice g6.2.1.1 g6.2.1.2.1 g6.2.1.2.2))])) rfl rfl rfl (W_loadA (i := 1) rfl Try.isAgg29 sz29 (Opd.tmp rfl) rfl rfl) ?_
      refine RegL.pure (p := (pEq (.slice g12.1 g12.2.1 g12.2.2))) rfl rfl rfl (J_move rfl (Opd.tmp rfl)) ?_
      refine RegL.pure (p := (pEq (.int .i64 a_2))) rfl rfl rfl (J_move rfl (Opd.tmp rfl)) ?_
      refine RegL.pure (p := (pEq (.int .i64 a_3))) rfl rfl rfl (J_move rfl (Opd.tmp rfl)) ?_
      replace h := bind_some h; obtain ⟨x14, hx14, h⟩ := h
      refine RegL.step (γ := G3) (p := fun g => (pTup [(pEq (.slice g.1 g.2.1 g.2.2)), (pEq (.int .i64 x14.2))])) (Ω' := fun g => [oSl 2 1 (cK .i64) g.1 g.2.1 g.2.2 x14.1, oSl 2 1 (cK .i64) g12.1 g12.2.1 g12.2.2 x11, oBlk b9 [(pEq (.slice g6.1.1.1 g6.1.1.2.1 g6.1.1.2.2)), (pEq (.slice g6.2.1.1 g6.2.1.2.1 g6.2.1.2.2))], oSS 26 2 1 (cK .i64) g6.1.1.1 g6.1.1.2.1 g6.1.1.2.2 g6.1.2 x5.Domains, oSS 26 2 1 (cK .i64) g6.2.1.1 g6.2.1.2.1 g6.2.1.2.2 g6.2.2 x5.Apart]) rfl rfl rfl (M_callHB (Ωi := []) rfl Try.call21 (o_impl_SwapChain hx14) (OpdsA.cons (OpdA.conv rfl (Conv.agg (Convs.cons (Conv.nest 2 (fun _ => rfl) rfl) (Convs.cons (Conv.nest 3 (fun _ => rfl) rfl) Convs.nil)))) (OpdsA.cons (OpdA.conv rfl (Conv.row (f := (cK .i64)) 0 (fun _ => rfl) rfl)) (OpdsA.cons (OpdA.of (Opd.tmp rfl)) (OpdsA.cons (OpdA.of (Opd.tmp rfl)) OpdsA.nil)))) (fun _ => (FreeP.tup ⟨FreeP.eq, ⟨FreeP.eq, trivial⟩⟩)) (fun _ => ⟨(FreeO.sl (fun _ => ⟨FreeP.eq, trivial⟩)), trivial⟩)) fun g15 => ?_
      refine RegL.pure (p := (pTup [(pEq (.slice g15.1 g15.2.1 g15.2.2)), (pEq (.int .i64 x14.2))])) rfl rfl rfl (J_move rfl (Opd.tmp rfl)) ?_
      refine RegL.pure (p := (pEq (.slice g15.1 g15.2.1 g15.2.2))) rfl rfl rfl (J_extract rfl (Opd.tmp rfl) rfl) ?_
      refine RegL.pure (p := (pEq (.int .i64 x14.2))) rfl rfl rfl (J_extract rfl (Opd.tmp rfl) rfl) ?_
      refine RegL.pure (p := (pEq (.slice g15.1 g15.2.1 g15.2.2))) rfl rfl rfl (J_assign rfl (Opd.tmp rfl)) ?_
      refine RegL.pure (p := (pEq (.int .i64 x14.2))) rfl rfl rfl (J_assign rfl (Opd.tmp rfl)) ?_
      refine RegL.nil ?_
      refine Ct.then_tr ?_
      refine Tr.weak (Γ' := [(1, (pSl 1 (cK .i64) a_1)), (2, (pEq (.int .i64 a_2))), (3, (pEq (.int .i64 a_3))), (4, (pPtr (cGProblem a_0))), (10, (pSl 1 (cK .i64) x4.1)), (11, (pEq (.int .i64 x4.2))), (12, (pEq (.pointer (some ⟨b9, 0, none⟩)))), (13, (pEq (.slice g12.1 g12.2.1 g12.2.2))), (14, (pEq (.slice g15.1 g15.2.1 g15.2.2))), (15, (pEq (.int .i64 x14.2)))]) ⟨rfl, rfl, rfl, rfl, rfl, rfl, rfl, rfl, rfl, rfl, trivial⟩ ?_
      refine Tr.seq ?_
      refine Tr.seq ?_
      replace h := bind_some h; obtain ⟨x17, hx17, h⟩ := h
      refine Tr.cut (γ := Unit) (Γm := fun g => [(1, (pSl 1 (cK .i64) a_1)), (2, (pEq (.int .i64 a_2))), (3, (pEq (.int .i64 a_3))), (4, (pPtr (cGProblem a_0))), (10, (pSl 1 (cK .i64) x4.1)), (11, (pEq (.int .i64 x4.2))), (12, (pEq (.pointer (some ⟨b9, 0, none⟩)))), (13, (pEq (.slice g12.1 g12.2.1 g12.2.2))), (14, (pEq (.slice g15.1 g15.2.1 g15.2.2))), (15, (pEq (.int .i64 x14.2))), (59, (pEq (.bool x17)))]) (Ωm := fun g => [oSl 2 1 (cK .i64) g15.1 g15.2.1 g15.2.2 x14.1, oSl 2 1 (cK .i64) g12.1 g12.2.1 g12.2.2 x11, oBlk b9 [(pEq (.slice g6.1.1.1 g6.1.1.2.1 g6.1.1.2.2)), (pEq (.slice g6.2.1.1 g6.2.1.2.1 g6.2.1.2.2))], oSS 26 2 1 (cK .i64) g6.1.1.1 g6.1.1.2.1 g6.1.1.2.2 g6.1.2 x5.Domains, oSS 26 2 1 (cK .i64) g6.2.1.1 g6.2.1.2.1 g6.2.1.2.2 g6.2.2 x5.Apart]) ?_ (fun g20 => ?_)
      · clear h
        have h := hx17
        clear hx17
        refine Tr.region ?_
        refine RegL.pure (p := (pEq (.slice g15.1 g15.2.1 g15.2.2))) rfl rfl rfl (J_move rfl (Opd.tmp rfl)) ?_
        refine RegL.pure (p := (pSl 1 (cK .i64) x4.1)) rfl rfl rfl (J_move rfl (Opd.tmp rfl)) ?_
        replace h := bind_some h; obtain ⟨x18, hx18, h⟩ := h
        refine RegL.pureW (p := (pEq (.bool x18))) rfl rfl rfl (W_call rfl Try.call12 (c_laws_eqInt64S hx18) (OpdsA.cons (OpdA.conv rfl (Conv.row (f := (cK .i64)) 0 (fun _ => rfl) rfl)) (OpdsA.cons (OpdA.of (Opd.tmp rfl)) OpdsA.nil)) FreeP.eq) ?_
        refine RegL.pure (p := (pEq (.bool (!x18)))) rfl rfl rfl (J_not rfl (Opd.tmp rfl)) ?_
        refine RegL.pure (p := (pEq (.bool (!x18)))) rfl rfl rfl (J_move rfl (Opd.tmp rfl)) ?_
        rcases Bool.eq_false_or_eq_true (!x18) with hc19 | hc19
        · replace h := bif_t hc19 h
          refine RegL.skipG rfl rfl rfl hc19 rfl rfl ?_
          refine RegL.skipG rfl rfl rfl hc19 rfl rfl ?_
          refine RegL.skipG rfl rfl rfl hc19 rfl rfl ?_
          refine RegL.pure (p := (pEq (.bool true))) rfl rfl rfl (J_pick rfl (Opd.tmp rfl) (fun _ => Opd.con) (fun hf => absurd (hc19.symm.trans hf) (by decide))) ?_
          refine RegL.nil ?_
          replace h := Option.some.inj h; subst h
          exact Ct.mid () rfl ⟨rfl, rfl, rfl, rfl, rfl, rfl, rfl, rfl, rfl, rfl, rfl, trivial⟩
        · replace h := bif_f hc19 h
          refine RegL.pureG (p := (pEq (.int .i64 x14.2))) rfl rfl rfl hc19 rfl rfl (J_move rfl (Opd.tmp rfl)) ?_
          refine RegL.pureG (p := (pEq (.int .i64 x4.2))) rfl rfl rfl hc19 rfl rfl (J_move rfl (Opd.tmp rfl)) ?_
          refine RegL.pureG (p := (pEq (.bool (x14.2 != x4.2)))) rfl rfl rfl hc19 rfl rfl (J_bin rfl (Opd.tmp rfl) (Opd.tmp rfl) B_neq) ?_
          refine RegL.pure (p := (pEq (.bool (x14.2 != x4.2)))) rfl rfl rfl (J_pick rfl (Opd.tmp rfl) (fun hf => absurd (hc19.symm.trans hf) (by decide)) (fun _ => (Opd.tmp rfl))) ?_
          refine RegL.nil ?_
          replace h := Option.some.inj h; subst h
          exact Ct.mid () rfl ⟨rfl, rfl, rfl, rfl, rfl, rfl, rfl, rfl, rfl, rfl, rfl, trivial⟩
      · clear hx17
        refine Ct.then_tr ?_
        refine Tr.weak (Γ' := [(1, (pSl 1 (cK .i64) a_1)), (2, (pEq (.int .i64 a_2))), (3, (pEq (.int .i64 a_3))), (4, (pPtr (cGProblem a_0))), (10, (pSl 1 (cK .i64) x4.1)), (11, (pEq (.int .i64 x4.2))), (12, (pEq (.pointer (some ⟨b9, 0, none⟩)))), (13, (pEq (.slice g12.1 g12.2.1 g12.2.2))), (14, (pEq (.slice g15.1 g15.2.1 g15.2.2))), (15, (pEq (.int .i64 x14.2))), (59, (pEq (.bool x17)))]) ⟨rfl, rfl, rfl, rfl, rfl, rfl, rfl, rfl, rfl, rfl, rfl, trivial⟩ ?_
        refine Tr.cond (Opd.tmp rfl) (fun hc => ?_) (fun hc => ?_)
        · replace h := bif_t hc h
          refine Tr.seq ?_
          refine Tr.region ?_
          refine RegL.pure (p := (pEq (.bool false))) rfl rfl rfl (J_assign rfl Opd.con) ?_
          refine RegL.nil ?_
          refine Ct.then_tr ?_
          refine Tr.weak (Γ' := [(8, (pEq (.bool false)))]) ⟨rfl, trivial⟩ ?_
          refine Tr.ret ?_
          refine Ct.then_ret ?_
          replace h := Option.some.inj h; subst h
          exact Ct.retH1 (Ωx := [oSl 2 1 (cK .i64) g15.1 g15.2.1 g15.2.2 x14.1, oSl 2 1 (cK .i64) g12.1 g12.2.1 g12.2.2 x11, oBlk b9 [(pEq (.slice g6.1.1.1 g6.1.1.2.1 g6.1.1.2.2)), (pEq (.slice g6.2.1.1 g6.2.1.2.1 g6.2.1.2.2))], oSS 26 2 1 (cK .i64) g6.1.1.1 g6.1.1.2.1 g6.1.1.2.2 g6.1.2 x5.Domains, oSS 26 2 1 (cK .i64) g6.2.1.1 g6.2.1.2.1 g6.2.1.2.2 g6.2.2 x5.Apart]) () rfl (RvOk.tmp rfl) rfl
        · replace h := bif_f hc h
          refine Tr.skip ?_
          refine Ct.then_tr ?_
          refine Tr.weak (Γ' := [(1, (pSl 1 (cK .i64) a_1)), (2, (pEq (.int .i64 a_2))), (3, (pEq (.int .i64 a_3))), (4, (pPtr (cGProblem a_0))), (10, (pSl 1 (cK .i64) x4.1)), (11, (pEq (.int .i64 x4.2))), (12, (pEq (.pointer (some ⟨b9, 0, none⟩)))), (13, (pEq (.slice g12.1 g12.2.1 g12.2.2))), (14, (pEq (.slice g15.1 g15.2.1 g15.2.2))), (15, (pEq (.int .i64 x14.2)))]) ⟨rfl, rfl, rfl, rfl, rfl, rfl, rfl, rfl, rfl, rfl, trivial⟩ ?_
          refine Tr.seq ?_
          refine Tr.seq ?_
          replace h := bind_some h; obtain ⟨x21, hx21, h⟩ := h
          replace h := bind_some h; obtain ⟨x22, hx22, h⟩ := h
          refine Tr.drawD (n := 127) (m := 5) (es := [some (Ent.mk [(12, (pEq (.pointer (some ⟨b9, 0, none⟩))))] (pAgg [(pEq (.slice g6.1.1.1 g6.1.1.2.1 g6.1.1.2.2)), (pEq (.slice g6.2.1.1 g6.2.1.2.1 g6.2.1.2.2))]) true), some (Ent.mk [(4, (pPtr (cGProblem a_0)))] (pAgg (cGProblem a_0)) true), some (Ent.mk [(61, (pAgg (cGProblem a_0)))] (pAgg (cGProblem x21)) true), some (Ent.mk [(60, (pAgg [(pEq (.slice g6.1.1.1 g6.1.1.2.1 g6.1.1.2.2)), (pEq (.slice g6.2.1.1 g6.2.1.2.1 g6.2.1.2.2))])), (62, (pAgg (cGProblem x21)))] (pEq (.bool x22)) true), some (Ent.mk [(63, (pEq (.bool x22)))] (pEq (.bool (!x22))) true)]) (rd := [[12], [4], [61], [60, 62], [63]]) rfl hmix (by kernel_rfl) fun hD => ?_
          refine RD.fin (es := [Ent.mk [(12, (pEq (.pointer (some ⟨b9, 0, none⟩))))] (pAgg [(pEq (.slice g6.1.1.1 g6.1.1.2.1 g6.1.1.2.2)), (pEq (.slice g6.2.1.1 g6.2.1.2.1 g6.2.1.2.2))]) true, Ent.mk [(4, (pPtr (cGProblem a_0)))] (pAgg (cGProblem a_0)) true, Ent.mk [(61, (pAgg (cGProblem a_0)))] (pAgg (cGProblem x21)) true, Ent.mk [(60, (pAgg [(pEq (.slice g6.1.1.1 g6.1.1.2.1 g6.1.1.2.2)), (pEq (.slice g6.2.1.1 g6.2.1.2.1 g6.2.1.2.2))])), (62, (pAgg (cGProblem x21)))] (pEq (.bool x22)) true, Ent.mk [(63, (pEq (.bool x22)))] (pEq (.bool (!x22))) true]) (done := []) hD ⟨.inr ⟨(W_loadA (i := 2) rfl Try.isAgg29 sz29 (Opd.tmp rfl) rfl rfl), ⟨rfl, trivial⟩, rfl, rfl⟩, ⟨.inr ⟨(OpJ.w (J_loadA rfl Try.isAgg24 sz24 (Opd.tmp rfl) rfl)), ⟨rfl, trivial⟩, rfl, rfl⟩, ⟨.inr ⟨(OpJ.w (J_call rfl Try.call10 (c_laws_toProblem hx21) (Opds.cons (Opd.tmp rfl) Opds.nil))), ⟨rfl, trivial⟩, rfl, rfl⟩, ⟨.inr ⟨(W_call rfl Try.call13 (c_laws_eqProblem hx22) (OpdsA.cons (OpdA.conv rfl (Conv.agg (Convs.cons (Conv.nest 3 (fun _ => rfl) rfl) (Convs.cons (Conv.nest 4 (fun _ => rfl) rfl) Convs.nil)))) (OpdsA.cons (OpdA.of (Opd.tmp rfl)) OpdsA.nil)) FreeP.eq), ⟨rfl, rfl, trivial⟩, rfl, rfl⟩, ⟨.inr ⟨(OpJ.w (J_not rfl (Opd.tmp rfl))), ⟨rfl, trivial⟩, rfl, rfl⟩, trivial⟩⟩⟩⟩⟩ ?_
          refine RegL.nil ?_
          refine Ct.then_tr ?_
          refine Tr.weak (Γ' := [(1, (pSl 1 (cK .i64) a_1)), (2, (pEq (.int .i64 a_2))), (3, (pEq (.int .i64 a_3))), (4, (pPtr (cGProblem a_0))), (10, (pSl 1 (cK .i64) x4.1)), (11, (pEq (.int .i64 x4.2))), (12, (pEq (.pointer (some ⟨b9, 0, none⟩)))), (13, (pEq (.slice g12.1 g12.2.1 g12.2.2))), (14, (pEq (.slice g15.1 g15.2.1 g15.2.2))), (15, (pEq (.int .i64 x14.2))), (64, (pEq (.bool (!x22))))]) ⟨rfl, rfl, rfl, rfl, rfl, rfl, rfl, rfl, rfl, rfl, rfl, trivial⟩ ?_
          refine Tr.cond (Opd.tmp rfl) (fun hc => ?_) (fun hc => ?_)
          · replace h := bif_t hc h
            refine Tr.seq ?_
            refine Tr.region ?_
            refine RegL.pure (p := (pEq (.bool false))) rfl rfl rfl (J_assign rfl Opd.con) ?_
            refine RegL.nil ?_
            refine Ct.then_tr ?_
            refine Tr.weak (Γ' := [(8, (pEq (.bool false)))]) ⟨rfl, trivial⟩ ?_
            refine Tr.ret ?_
            refine Ct.then_ret ?_
            replace h := Option.some.inj h; subst h
            exact Ct.retH1 (Ωx := [oSl 2 1 (cK .i64) g15.1 g15.2.1 g15.2.2 x14.1, oSl 2 1 (cK .i64) g12.1 g12.2.1 g12.2.2 x11, oBlk b9 [(pEq (.slice g6.1.1.1 g6.1.1.2.1 g6.1.1.2.2)), (pEq (.slice g6.2.1.1 g6.2.1.2.1 g6.2.1.2.2))], oSS 26 2 1 (cK .i64) g6.1.1.1 g6.1.1.2.1 g6.1.1.2.2 g6.1.2 x5.Domains, oSS 26 2 1 (cK .i64) g6.2.1.1 g6.2.1.2.1 g6.2.1.2.2 g6.2.2 x5.Apart]) () rfl (RvOk.tmp rfl) rfl
          · replace h := bif_f hc h
            refine Tr.skip ?_
            refine Ct.then_tr ?_
            refine Tr.weak (Γ' := [(1, (pSl 1 (cK .i64) a_1)), (2, (pEq (.int .i64 a_2))), (3, (pEq (.int .i64 a_3))), (4, (pPtr (cGProblem a_0))), (10, (pSl 1 (cK .i64) x4.1)), (11, (pEq (.int .i64 x4.2))), (12, (pEq (.pointer (some ⟨b9, 0, none⟩)))), (13, (pEq (.slice g12.1 g12.2.1 g12.2.2))), (14, (pEq (.slice g15.1 g15.2.1 g15.2.2))), (15, (pEq (.int .i64 x14.2)))]) ⟨rfl, rfl, rfl, rfl, rfl, rfl, rfl, rfl, rfl, rfl, trivial⟩ ?_
            refine Tr.seq ?_
            refine Tr.seq ?_
            refine Tr.region ?_
            refine RegL.pure (p := (pEq (.slice g12.1 g12.2.1 g12.2.2))) rfl rfl rfl (J_move rfl (Opd.tmp rfl)) ?_
            refine RegL.pure (p := (pSl 1 (cK .i64) a_1)) rfl rfl rfl (J_move rfl (Opd.tmp rfl)) ?_
            replace h := bind_some h; obtain ⟨x23, hx23, h⟩ := h
            refine RegL.pure (p := (pSl 1 (cK .i64) x23)) rfl rfl rfl (J_call rfl Try.call18 (c_laws_toInt64S hx23) (Opds.cons (Opd.tmp rfl) Opds.nil)) ?_
            replace h := bind_some h; obtain ⟨x24, hx24, h⟩ := h
            refine RegL.pureW (p := (pEq (.bool x24))) rfl rfl rfl (W_call rfl Try.call12 (c_laws_eqInt64S hx24) (OpdsA.cons (OpdA.conv rfl (Conv.row (f := (cK .i64)) 1 (fun _ => rfl) rfl)) (OpdsA.cons (OpdA.of (Opd.tmp rfl)) OpdsA.nil)) FreeP.eq) ?_
            refine RegL.pure (p := (pEq (.bool (!x24)))) rfl rfl rfl (J_not rfl (Opd.tmp rfl)) ?_
            refine RegL.nil ?_
            refine Ct.then_tr ?_
            refine Tr.weak (Γ' := [(1, (pSl 1 (cK .i64) a_1)), (2, (pEq (.int .i64 a_2))), (3, (pEq (.int .i64 a_3))), (4, (pPtr (cGProblem a_0))), (10, (pSl 1 (cK .i64) x4.1)), (11, (pEq (.int .i64 x4.2))), (12, (pEq (.pointer (some ⟨b9, 0, none⟩)))), (13, (pEq (.slice g12.1 g12.2.1 g12.2.2))), (14, (pEq (.slice g15.1 g15.2.1 g15.2.2))), (15, (pEq (.int .i64 x14.2))), (69, (pEq (.bool (!x24))))]) ⟨rfl, rfl, rfl, rfl, rfl, rfl, rfl, rfl, rfl, rfl, rfl, trivial⟩ ?_
            refine Tr.cond (Opd.tmp rfl) (fun hc => ?_) (fun hc => ?_)
            · replace h := bif_t hc h
              refine Tr.seq ?_
              refine Tr.region ?_
              refine RegL.pure (p := (pEq (.bool false))) rfl rfl rfl (J_assign rfl Opd.con) ?_
              refine RegL.nil ?_
              refine Ct.then_tr ?_
              refine Tr.weak (Γ' := [(8, (pEq (.bool false)))]) ⟨rfl, trivial⟩ ?_
              refine Tr.ret ?_
              refine Ct.then_ret ?_
              replace h := Option.some.inj h; subst h
              exact Ct.retH1 (Ωx := [oSl 2 1 (cK .i64) g15.1 g15.2.1 g15.2.2 x14.1, oSl 2 1 (cK .i64) g12.1 g12.2.1 g12.2.2 x11, oBlk b9 [(pEq (.slice g6.1.1.1 g6.1.1.2.1 g6.1.1.2.2)), (pEq (.slice g6.2.1.1 g6.2.1.2.1 g6.2.1.2.2))], oSS 26 2 1 (cK .i64) g6.1.1.1 g6.1.1.2.1 g6.1.1.2.2 g6.1.2 x5.Domains, oSS 26 2 1 (cK .i64) g6.2.1.1 g6.2.1.2.1 g6.2.1.2.2 g6.2.2 x5.Apart]) () rfl (RvOk.tmp rfl) rfl
            · replace h := bif_f hc h
              refine Tr.skip ?_
              refine Ct.then_tr ?_
              refine Tr.weak (Γ' := [(1, (pSl 1 (cK .i64) a_1)), (2, (pEq (.int .i64 a_2))), (3, (pEq (.int .i64 a_3))), (4, (pPtr (cGProblem a_0))), (10, (pSl 1 (cK .i64) x4.1)), (11, (pEq (.int .i64 x4.2))), (12, (pEq (.pointer (some ⟨b9, 0, none⟩)))), (13, (pEq (.slice g12.1 g12.2.1 g12.2.2))), (14, (pEq (.slice g15.1 g15.2.1 g15.2.2))), (15, (pEq (.int .i64 x14.2)))]) ⟨rfl, rfl, rfl, rfl, rfl, rfl, rfl, rfl, rfl, rfl, trivial⟩ ?_
              refine Tr.seq ?_
              refine Tr.region ?_
              refine RegL.pure (p := (pEq (.int .i64 (1 : Int)))) rfl rfl rfl (J_assign rfl Opd.con) ?_
              refine RegL.nil ?_
              refine Ct.then_tr ?_
              refine Tr.weak (Γ' := [(1, (pSl 1 (cK .i64) a_1)), (2, (pEq (.int .i64 a_2))), (3, (pEq (.int .i64 a_3))), (4, (pPtr (cGProblem a_0))), (10, (pSl 1 (cK .i64) x4.1)), (11, (pEq (.int .i64 x4.2))), (12, (pEq (.pointer (some ⟨b9, 0, none⟩)))), (13, (pEq (.slice g12.1 g12.2.1 g12.2.2))), (14, (pEq (.slice g15.1 g15.2.1 g15.2.2))), (15, (pEq (.int .i64 x14.2))), (16, (pEq (.int .i64 (1 : Int))))]) ⟨rfl, rfl, rfl, rfl, rfl, rfl, rfl, rfl, rfl, rfl, rfl, trivial⟩ ?_
              refine Tr.seq ?_
              refine Tr.region ?_
              refine RegL.pureW (p := (pAgg [(pEq (.slice g6.1.1.1 g6.1.1.2.1 g6.1.1.2.2)), (pEq (.slice g6.2.1.1 g6.2.1.2.1 g6.2.1.2.2))])) rfl rfl rfl (W_loadA (i := 2) rfl Try.isAgg29 sz29 (Opd.tmp rfl) rfl rfl) ?_
              refine RegL.pure (p := (pEq (.int .i64 (1 : Int)))) rfl rfl rfl (J_move rfl (Opd.tmp rfl)) ?_
              replace h := bind_some h; obtain ⟨x25, hx25, h⟩ := h
              refine RegL.re (Ω2 := [oSS 26 2 1 (cK .i64) g6.2.1.1 g6.2.1.2.1 g6.2.1.2.2 g6.2.2 x5.Apart, oSl 2 1 (cK .i64) g15.1 g15.2.1 g15.2.2 x14.1, oSl 2 1 (cK .i64) g12.1 g12.2.1 g12.2.2 x11, oBlk b9 [(pEq (.slice g6.1.1.1 g6.1.1.2.1 g6.1.1.2.2)), (pEq (.slice g6.2.1.1 g6.2.1.2.1 g6.2.1.2.2))], oSS 26 2 1 (cK .i64) g6.1.1.1 g6.1.1.2.1 g6.1.1.2.2 g6.1.2 x5.Domains]) (fun h => SatO.pick 4 h) ?_
              refine RegL.re (Ω2 := [oSS 26 2 1 (cK .i64) g6.1.1.1 g6.1.1.2.1 g6.1.1.2.2 g6.1.2 x5.Domains, oSS 26 2 1 (cK .i64) g6.2.1.1 g6.2.1.2.1 g6.2.1.2.2 g6.2.2 x5.Apart, oSl 2 1 (cK .i64) g15.1 g15.2.1 g15.2.2 x14.1, oSl 2 1 (cK .i64) g12.1 g12.2.1 g12.2.2 x11, oBlk b9 [(pEq (.slice g6.1.1.1 g6.1.1.2.1 g6.1.1.2.2)), (pEq (.slice g6.2.1.1 g6.2.1.2.1 g6.2.1.2.2))]]) (fun h => SatO.pick 4 h) ?_
              refine RegL.step (γ := Unit) (p := fun g => (pEq (.int .i64 x25.1))) (Ω' := fun g => [oSS 26 2 1 (cK .i64) g6.1.1.1 g6.1.1.2.1 g6.1.1.2.2 g6.1.2 x25.2.1, oSS 26 2 1 (cK .i64) g6.2.1.1 g6.2.1.2.1 g6.2.1.2.2 g6.2.2 x25.2.2, oSl 2 1 (cK .i64) g15.1 g15.2.1 g15.2.2 x14.1, oSl 2 1 (cK .i64) g12.1 g12.2.1 g12.2.2 x11, oBlk b9 [(pEq (.slice g6.1.1.1 g6.1.1.2.1 g6.1.1.2.2)), (pEq (.slice g6.2.1.1 g6.2.1.2.1 g6.2.1.2.2))]]) rfl rfl rfl (M_callH (Ωi := [oSS 26 2 1 (cK .i64) g6.1.1.1 g6.1.1.2.1 g6.1.1.2.2 g6.1.2 x5.Domains, oSS 26 2 1 (cK .i64) g6.2.1.1 g6.2.1.2.1 g6.2.1.2.2 g6.2.2 x5.Apart]) rfl Try.call14 (o_laws_markProblem hx25) (Opds.cons (Opd.tmp rfl) (Opds.cons (Opd.tmp rfl) Opds.nil))) fun g26 => ?_
              refine RegL.pure (p := (pEq (.int .i64 x25.1))) rfl rfl rfl (J_assign rfl (Opd.tmp rfl)) ?_
              refine RegL.nil ?_
              refine Ct.then_tr ?_
              refine Tr.weak (Γ' := [(1, (pSl 1 (cK .i64) a_1)), (2, (pEq (.int .i64 a_2))), (3, (pEq (.int .i64 a_3))), (4, (pPtr (cGProblem a_0))), (10, (pSl 1 (cK .i64) x4.1)), (11, (pEq (.int .i64 x4.2))), (13, (pEq (.slice g12.1 g12.2.1 g12.2.2))), (14, (pEq (.slice g15.1 g15.2.1 g15.2.2))), (15, (pEq (.int .i64 x14.2))), (16, (pEq (.int .i64 x25.1)))]) ⟨rfl, rfl, rfl, rfl, rfl, rfl, rfl, rfl, rfl, rfl, trivial⟩ ?_
              refine Tr.seq ?_
              refine Tr.region ?_
              refine RegL.pure (p := (pEq (.slice g12.1 g12.2.1 g12.2.2))) rfl rfl rfl (J_move rfl (Opd.tmp rfl)) ?_
              refine RegL.pure (p := (pEq (.int .i64 x25.1))) rfl rfl rfl (J_move rfl (Opd.tmp rfl)) ?_
              replace h := bind_some h; obtain ⟨x27, hx27, h⟩ := h
              refine RegL.re (Ω2 := [oSl 2 1 (cK .i64) g12.1 g12.2.1 g12.2.2 x11, oSS 26 2 1 (cK .i64) g6.1.1.1 g6.1.1.2.1 g6.1.1.2.2 g6.1.2 x25.2.1, oSS 26 2 1 (cK .i64) g6.2.1.1 g6.2.1.2.1 g6.2.1.2.2 g6.2.2 x25.2.2, oSl 2 1 (cK .i64) g15.1 g15.2.1 g15.2.2 x14.1, oBlk b9 [(pEq (.slice g6.1.1.1 g6.1.1.2.1 g6.1.1.2.2)), (pEq (.slice g6.2.1.1 g6.2.1.2.1 g6.2.1.2.2))]]) (fun h => SatO.pick 3 h) ?_
              refine RegL.step (γ := Unit) (p := fun g => (pEq (.int .i64 x27.1))) (Ω' := fun g => [oSl 2 1 (cK .i64) g12.1 g12.2.1 g12.2.2 x27.2, oSS 26 2 1 (cK .i64) g6.1.1.1 g6.1.1.2.1 g6.1.1.2.2 g6.1.2 x25.2.1, oSS 26 2 1 (cK .i64) g6.2.1.1 g6.2.1.2.1 g6.2.1.2.2 g6.2.2 x25.2.2, oSl 2 1 (cK .i64) g15.1 g15.2.1 g15.2.2 x14.1, oBlk b9 [(pEq (.slice g6.1.1.1 g6.1.1.2.1 g6.1.1.2.2)), (pEq (.slice g6.2.1.1 g6.2.1.2.1 g6.2.1.2.2))]]) rfl rfl rfl (M_callH (Ωi := [oSl 2 1 (cK .i64) g12.1 g12.2.1 g12.2.2 x11]) rfl Try.call15 (o_laws_markInt64S hx27) (Opds.cons (Opd.tmp rfl) (Opds.cons (Opd.tmp rfl) Opds.nil))) fun g28 => ?_
              refine RegL.pure (p := (pEq (.int .i64 x27.1))) rfl rfl rfl (J_assign rfl (Opd.tmp rfl)) ?_
              refine RegL.nil ?_
              refine Ct.then_tr ?_
              refine Tr.weak (Γ' := [(1, (pSl 1 (cK .i64) a_1)), (2, (pEq (.int .i64 a_2))), (3, (pEq (.int .i64 a_3))), (4, (pPtr (cGProblem a_0))), (10, (pSl 1 (cK .i64) x4.1)), (11, (pEq (.int .i64 x4.2))), (14, (pEq (.slice g15.1 g15.2.1 g15.2.2))), (15, (pEq (.int .i64 x14.2))), (16, (pEq (.int .i64 x27.1)))]) ⟨rfl, rfl, rfl, rfl, rfl, rfl, rfl, rfl, rfl, trivial⟩ ?_
              refine Tr.seq ?_
              refine Tr.seq ?_
              replace h := bind_some h; obtain ⟨x29, hx29, h⟩ := h
              refine Tr.cut (γ := Unit) (Γm := fun g => [(1, (pSl 1 (cK .i64) a_1)), (2, (pEq (.int .i64 a_2))), (3, (pEq (.int .i64 a_3))), (4, (pPtr (cGProblem a_0))), (10, (pSl 1 (cK .i64) x4.1)), (11, (pEq (.int .i64 x4.2))), (14, (pEq (.slice g15.1 g15.2.1 g15.2.2))), (88, (pEq (.bool x29)))]) (Ωm := fun g => [oSl 2 1 (cK .i64) g15.1 g15.2.1 g15.2.2 x14.1]) ?_ (fun g33 => ?_)
              · clear h
                have h := hx29
                clear hx29
                refine Tr.region ?_
                refine RegL.pure (p := (pEq (.int .i64 x27.1))) rfl rfl rfl (J_move rfl (Opd.tmp rfl)) ?_
                refine RegL.pure (p := (pEq (.bool (decide (x27.1 < (0 : Int)))))) rfl rfl rfl (J_bin rfl (Opd.tmp rfl) Opd.con B_lss) ?_
                refine RegL.pure (p := (pEq (.bool (decide (x27.1 < (0 : Int)))))) rfl rfl rfl (J_move rfl (Opd.tmp rfl)) ?_
                rcases Bool.eq_false_or_eq_true (decide (x27.1 < (0 : Int))) with hc30 | hc30
                · replace h := bif_t hc30 h
                  refine RegL.skipG rfl rfl rfl hc30 rfl rfl ?_
                  refine RegL.skipG rfl rfl rfl hc30 rfl rfl ?_
                  refine RegL.skipG rfl rfl rfl hc30 rfl rfl ?_
                  refine RegL.skipG rfl rfl rfl hc30 rfl rfl ?_
                  refine RegL.pure (p := (pEq (.bool true))) rfl rfl rfl (J_pick rfl (Opd.tmp rfl) (fun _ => Opd.con) (fun hf => absurd (hc30.symm.trans hf) (by decide))) ?_
                  refine RegL.pure (p := (pEq (.bool true))) rfl rfl rfl (J_move rfl (Opd.tmp rfl)) ?_
                  refine RegL.skipG rfl rfl rfl rfl rfl rfl ?_
                  refine RegL.skipG rfl rfl rfl rfl rfl rfl ?_
                  refine RegL.skipG rfl rfl rfl rfl rfl rfl ?_
                  refine RegL.pure (p := (pEq (.bool true))) rfl rfl rfl (J_pick rfl (Opd.tmp rfl) (fun _ => Opd.con) (fun hf => absurd hf (by decide))) ?_
                  refine RegL.nil ?_
                  refine Ct.re (Ω2 := [oSS 26 2 1 (cK .i64) g6.1.1.1 g6.1.1.2.1 g6.1.1.2.2 g6.1.2 x25.2.1, oSS 26 2 1 (cK .i64) g6.2.1.1 g6.2.1.2.1 g6.2.1.2.2 g6.2.2 x25.2.2, oSl 2 1 (cK .i64) g15.1 g15.2.1 g15.2.2 x14.1, oBlk b9 [(pEq (.slice g6.1.1.1 g6.1.1.2.1 g6.1.1.2.2)), (pEq (.slice g6.2.1.1 g6.2.1.2.1 g6.2.1.2.2))]]) (fun h => SatO.rest h) ?_
                  refine Ct.re (Ω2 := [oSS 26 2 1 (cK .i64) g6.2.1.1 g6.2.1.2.1 g6.2.1.2.2 g6.2.2 x25.2.2, oSl 2 1 (cK .i64) g15.1 g15.2.1 g15.2.2 x14.1, oBlk b9 [(pEq (.slice g6.1.1.1 g6.1.1.2.1 g6.1.1.2.2)), (pEq (.slice g6.2.1.1 g6.2.1.2.1 g6.2.1.2.2))]]) (fun h => SatO.rest h) ?_
                  refine Ct.re (Ω2 := [oSl 2 1 (cK .i64) g15.1 g15.2.1 g15.2.2 x14.1, oBlk b9 [(pEq (.slice g6.1.1.1 g6.1.1.2.1 g6.1.1.2.2)), (pEq (.slice g6.2.1.1 g6.2.1.2.1 g6.2.1.2.2))]]) (fun h => SatO.rest h) ?_
                  refine Ct.re (Ω2 := [oBlk b9 [(pEq (.slice g6.1.1.1 g6.1.1.2.1 g6.1.1.2.2)), (pEq (.slice g6.2.1.1 g6.2.1.2.1 g6.2.1.2.2))], oSl 2 1 (cK .i64) g15.1 g15.2.1 g15.2.2 x14.1]) (fun h => SatO.pick 1 h) ?_
                  refine Ct.re (Ω2 := [oSl 2 1 (cK .i64) g15.1 g15.2.1 g15.2.2 x14.1]) (fun h => SatO.rest h) ?_
                  replace h := Option.some.inj h; subst h
                  exact Ct.mid () rfl ⟨rfl, rfl, rfl, rfl, rfl, rfl, rfl, rfl, trivial⟩
                · replace h := bif_f hc30 h
                  refine RegL.pureG (p := (pEq (.slice g15.1 g15.2.1 g15.2.2))) rfl rfl rfl hc30 rfl rfl (J_move rfl (Opd.tmp rfl)) ?_
                  refine RegL.pureG (p := (pSl 1 (cK .i64) x4.1)) rfl rfl rfl hc30 rfl rfl (J_move rfl (Opd.tmp rfl)) ?_
                  replace h := bind_some h; obtain ⟨x31, hx31, h⟩ := h
                  refine RegL.pureGW (p := (pEq (.bool x31))) rfl rfl rfl hc30 rfl rfl (W_call rfl Try.call12 (c_laws_eqInt64S hx31) (OpdsA.cons (OpdA.conv rfl (Conv.row (f := (cK .i64)) 3 (fun _ => rfl) rfl)) (OpdsA.cons (OpdA.of (Opd.tmp rfl)) OpdsA.nil)) FreeP.eq) ?_
                  refine RegL.pureG (p := (pEq (.bool (!x31)))) rfl rfl rfl hc30 rfl rfl (J_not rfl (Opd.tmp rfl)) ?_
                  refine RegL.pure (p := (pEq (.bool (!x31)))) rfl rfl rfl (J_pick rfl (Opd.tmp rfl) (fun hf => absurd (hc30.symm.trans hf) (by decide)) (fun _ => (Opd.tmp rfl))) ?_
                  refine RegL.pure (p := (pEq (.bool (!x31)))) rfl rfl rfl (J_move rfl (Opd.tmp rfl)) ?_
                  rcases Bool.eq_false_or_eq_true (!x31) with hc32 | hc32
                  · replace h := bif_t hc32 h
                    refine RegL.skipG rfl rfl rfl hc32 rfl rfl ?_
                    refine RegL.skipG rfl rfl rfl hc32 rfl rfl ?_
                    refine RegL.skipG rfl rfl rfl hc32 rfl rfl ?_
                    refine RegL.pure (p := (pEq (.bool true))) rfl rfl rfl (J_pick rfl (Opd.tmp rfl) (fun _ => Opd.con) (fun hf => absurd (hc32.symm.trans hf) (by decide))) ?_
                    refine RegL.nil ?_
                    refine Ct.re (Ω2 := [oSS 26 2 1 (cK .i64) g6.1.1.1 g6.1.1.2.1 g6.1.1.2.2 g6.1.2 x25.2.1, oSS 26 2 1 (cK .i64) g6.2.1.1 g6.2.1.2.1 g6.2.1.2.2 g6.2.2 x25.2.2, oSl 2 1 (cK .i64) g15.1 g15.2.1 g15.2.2 x14.1, oBlk b9 [(pEq (.slice g6.1.1.1 g6.1.1.2.1 g6.1.1.2.2)), (pEq (.slice g6.2.1.1 g6.2.1.2.1 g6.2.1.2.2))]]) (fun h => SatO.rest h) ?_
                    refine Ct.re (Ω2 := [oSS 26 2 1 (cK .i64) g6.2.1.1 g6.2.1.2.1 g6.2.1.2.2 g6.2.2 x25.2.2, oSl 2 1 (cK .i64) g15.1 g15.2.1 g15.2.2 x14.1, oBlk b9 [(pEq (.slice g6.1.1.1 g6.1.1.2.1 g6.1.1.2.2)), (pEq (.slice g6.2.1.1 g6.2.1.2.1 g6.2.1.2.2))]]) (fun h => SatO.rest h) ?_
                    refine Ct.re (Ω2 := [oSl 2 1 (cK .i64) g15.1 g15.2.1 g15.2.2 x14.1, oBlk b9 [(pEq (.slice g6.1.1.1 g6.1.1.2.1 g6.1.1.2.2)), (pEq (.slice g6.2.1.1 g6.2.1.2.1 g6.2.1.2.2))]]) (fun h => SatO.rest h) ?_
                    refine Ct.re (Ω2 := [oBlk b9 [(pEq (.slice g6.1.1.1 g6.1.1.2.1 g6.1.1.2.2)), (pEq (.slice g6.2.1.1 g6.2.1.2.1 g6.2.1.2.2))], oSl 2 1 (cK .i64) g15.1 g15.2.1 g15.2.2 x14.1]) (fun h => SatO.pick 1 h) ?_
                    refine Ct.re (Ω2 := [oSl 2 1 (cK .i64) g15.1 g15.2.1 g15.2.2 x14.1]) (fun h => SatO.rest h) ?_
                    replace h := Option.some.inj h; subst h
                    exact Ct.mid () rfl ⟨rfl, rfl, rfl, rfl, rfl, rfl, rfl, rfl, trivial⟩
                  · replace h := bif_f hc32 h
                    refine RegL.pureG (p := (pEq (.int .i64 x14.2))) rfl rfl rfl hc32 rfl rfl (J_move rfl (Opd.tmp rfl)) ?_
                    refine RegL.pureG (p := (pEq (.int .i64 x4.2))) rfl rfl rfl hc32 rfl rfl (J_move rfl (Opd.tmp rfl)) ?_
                    refine RegL.pureG (p := (pEq (.bool (x14.2 != x4.2)))) rfl rfl rfl hc32 rfl rfl (J_bin rfl (Opd.tmp rfl) (Opd.tmp rfl) B_neq) ?_
                    refine RegL.pure (p := (pEq (.bool (x14.2 != x4.2)))) rfl rfl rfl (J_pick rfl (Opd.tmp rfl) (fun hf => absurd (hc32.symm.trans hf) (by decide)) (fun _ => (Opd.tmp rfl))) ?_
                    refine RegL.nil ?_
                    refine Ct.re (Ω2 := [oSS 26 2 1 (cK .i64) g6.1.1.1 g6.1.1.2.1 g6.1.1.2.2 g6.1.2 x25.2.1, oSS 26 2 1 (cK .i64) g6.2.1.1 g6.2.1.2.1 g6.2.1.2.2 g6.2.2 x25.2.2, oSl 2 1 (cK .i64) g15.1 g15.2.1 g15.2.2 x14.1, oBlk b9 [(pEq (.slice g6.1.1.1 g6.1.1.2.1 g6.1.1.2.2)), (pEq (.slice g6.2.1.1 g6.2.1.2.1 g6.2.1.2.2))]]) (fun h => SatO.rest h) ?_
                    refine Ct.re (Ω2 := [oSS 26 2 1 (cK .i64) g6.2.1.1 g6.2.1.2.1 g6.2.1.2.2 g6.2.2 x25.2.2, oSl 2 1 (cK .i64) g15.1 g15.2.1 g15.2.2 x14.1, oBlk b9 [(pEq (.slice g6.1.1.1 g6.1.1.2.1 g6.1.1.2.2)), (pEq (.slice g6.2.1.1 g6.2.1.2.1 g6.2.1.2.2))]]) (fun h => SatO.rest h) ?_
                    refine Ct.re (Ω2 := [oSl 2 1 (cK .i64) g15.1 g15.2.1 g15.2.2 x14.1, oBlk b9 [(pEq (.slice g6.1.1.1 g6.1.1.2.1 g6.1.1.2.2)), (pEq (.slice g6.2.1.1 g6.2.1.2.1 g6.2.1.2.2))]]) (fun h => SatO.rest h) ?_
                    refine Ct.re (Ω2 := [oBlk b9 [(pEq (.slice g6.1.1.1 g6.1.1.2.1 g6.1.1.2.2)), (pEq (.slice g6.2.1.1 g6.2.1.2.1 g6.2.1.2.2))], oSl 2 1 (cK .i64) g15.1 g15.2.1 g15.2.2 x14.1]) (fun h => SatO.pick 1 h) ?_
                    refine Ct.re (Ω2 := [oSl 2 1 (cK .i64) g15.1 g15.2.1 g15.2.2 x14.1]) (fun h => SatO.rest h) ?_
                    replace h := Option.some.inj h; subst h
                    exact Ct.mid () rfl ⟨rfl, rfl, rfl, rfl, rfl, rfl, rfl, rfl, trivial⟩
              · clear hx29
                refine Ct.then_tr ?_
                refine Tr.weak (Γ' := [(1, (pSl 1 (cK .i64) a_1)), (2, (pEq (.int .i64 a_2))), (3, (pEq (.int .i64 a_3))), (4, (pPtr (cGProblem a_0))), (10, (pSl 1 (cK .i64) x4.1)), (11, (pEq (.int .i64 x4.2))), (14, (pEq (.slice g15.1 g15.2.1 g15.2.2))), (88, (pEq (.bool x29)))]) ⟨rfl, rfl, rfl, rfl, rfl, rfl, rfl, rfl, trivial⟩ ?_
                refine Tr.cond (Opd.tmp rfl) (fun hc => ?_) (fun hc => ?_)
                · replace h := bif_t hc h
                  refine Tr.seq ?_
                  refine Tr.region ?_
                  refine RegL.pure (p := (pEq (.bool false))) rfl rfl rfl (J_assign rfl Opd.con) ?_
                  refine RegL.nil ?_
                  refine Ct.then_tr ?_
                  refine Tr.weak (Γ' := [(8, (pEq (.bool false)))]) ⟨rfl, trivial⟩ ?_
                  refine Tr.ret ?_
                  refine Ct.then_ret ?_
                  replace h := Option.some.inj h; subst h
                  exact Ct.retH1 (Ωx := [oSl 2 1 (cK .i64) g15.1 g15.2.1 g15.2.2 x14.1]) () rfl (RvOk.tmp rfl) rfl
                · replace h := bif_f hc h
                  refine Tr.skip ?_
                  refine Ct.then_tr ?_
                  refine Tr.weak (Γ' := [(1, (pSl 1 (cK .i64) a_1)), (2, (pEq (.int .i64 a_2))), (3, (pEq (.int .i64 a_3))), (4, (pPtr (cGProblem a_0))), (10, (pSl 1 (cK .i64) x4.1)), (11, (pEq (.int .i64 x4.2))), (14, (pEq (.slice g15.1 g15.2.1 g15.2.2)))]) ⟨rfl, rfl, rfl, rfl, rfl, rfl, rfl, trivial⟩ ?_
                  refine Tr.seq ?_
                  refine Tr.region ?_
                  refine RegL.pure (p := (pEq (.int .i64 (1 : Int)))) rfl rfl rfl (J_assign rfl Opd.con) ?_
                  refine RegL.nil ?_
                  refine Ct.then_tr ?_
                  refine Tr.weak (Γ' := [(1, (pSl 1 (cK .i64) a_1)), (2, (pEq (.int .i64 a_2))), (3, (pEq (.int .i64 a_3))), (4, (pPtr (cGProblem a_0))), (10, (pSl 1 (cK .i64) x4.1)), (11, (pEq (.int .i64 x4.2))), (14, (pEq (.slice g15.1 g15.2.1 g15.2.2))), (17, (pEq (.int .i64 (1 : Int))))]) ⟨rfl, rfl, rfl, rfl, rfl, rfl, rfl, rfl, trivial⟩ ?_
                  refine Tr.seq ?_
                  refine Tr.region ?_
                  refine RegL.pure (p := (pEq (.slice g15.1 g15.2.1 g15.2.2))) rfl rfl rfl (J_move rfl (Opd.tmp rfl)) ?_
                  refine RegL.pure (p := (pEq (.int .i64 (1 : Int)))) rfl rfl rfl (J_move rfl (Opd.tmp rfl)) ?_
                  replace h := bind_some h; obtain ⟨x34, hx34, h⟩ := h
                  refine RegL.step (γ := Unit) (p := fun g => (pEq (.int .i64 x34.1))) (Ω' := fun g => [oSl 2 1 (cK .i64) g15.1 g15.2.1 g15.2.2 x34.2]) rfl rfl rfl (M_callH (Ωi := [oSl 2 1 (cK .i64) g15.1 g15.2.1 g15.2.2 x14.1]) rfl Try.call15 (o_laws_markInt64S hx34) (Opds.cons (Opd.tmp rfl) (Opds.cons (Opd.tmp rfl) Opds.nil))) fun g35 => ?_
                  refine RegL.pure (p := (pEq (.int .i64 x34.1))) rfl rfl rfl (J_assign rfl (Opd.tmp rfl)) ?_
                  refine RegL.nil ?_
                  refine Ct.then_tr ?_
                  refine Tr.weak (Γ' := [(1, (pSl 1 (cK .i64) a_1)), (2, (pEq (.int .i64 a_2))), (3, (pEq (.int .i64 a_3))), (4, (pPtr (cGProblem a_0))), (10, (pSl 1 (cK .i64) x4.1)), (11, (pEq (.int .i64 x4.2))), (14, (pEq (.slice g15.1 g15.2.1 g15.2.2))), (17, (pEq (.int .i64 x34.1)))]) ⟨rfl, rfl, rfl, rfl, rfl, rfl, rfl, rfl, trivial⟩ ?_
                  refine Tr.seq ?_
                  refine Tr.region ?_
                  refine RegL.pure (p := (pEq (.int .i64 (1 : Int)))) rfl rfl rfl (J_assign rfl Opd.con) ?_
                  refine RegL.nil ?_
                  refine Ct.then_tr ?_
                  refine Tr.weak (Γ' := [(1, (pSl 1 (cK .i64) a_1)), (2, (pEq (.int .i64 a_2))), (3, (pEq (.int .i64 a_3))), (4, (pPtr (cGProblem a_0))), (10, (pSl 1 (cK .i64) x4.1)), (11, (pEq (.int .i64 x4.2))), (14, (pEq (.slice g15.1 g15.2.1 g15.2.2))), (17, (pEq (.int .i64 x34.1))), (18, (pEq (.int .i64 (1 : Int))))]) ⟨rfl, rfl, rfl, rfl, rfl, rfl, rfl, rfl, rfl, trivial⟩ ?_
                  refine Tr.seq ?_
                  refine Tr.region ?_
                  refine RegL.pure (p := (pEq (.slice g15.1 g15.2.1 g15.2.2))) rfl rfl rfl (J_move rfl (Opd.tmp rfl)) ?_
                  refine RegL.pure (p := (pEq (.int .i64 (1 : Int)))) rfl rfl rfl (J_move rfl (Opd.tmp rfl)) ?_
                  replace h := bind_some h; obtain ⟨x36, hx36, h⟩ := h
                  refine RegL.pureW (p := (pEq (.int .i64 x36))) rfl rfl rfl (W_call rfl Try.call16 (c_laws_heldInt64S hx36) (OpdsA.cons (OpdA.conv rfl (Conv.row (f := (cK .i64)) 0 (fun _ => rfl) rfl)) (OpdsA.cons (OpdA.of (Opd.tmp rfl)) OpdsA.nil)) FreeP.eq) ?_
                  refine RegL.pure (p := (pEq (.int .i64 x36))) rfl rfl rfl (J_assign rfl (Opd.tmp rfl)) ?_
                  refine RegL.nil ?_
                  refine Ct.then_tr ?_
                  refine Tr.weak (Γ' := [(1, (pSl 1 (cK .i64) a_1)), (2, (pEq (.int .i64 a_2))), (3, (pEq (.int .i64 a_3))), (4, (pPtr (cGProblem a_0))), (10, (pSl 1 (cK .i64) x4.1)), (11, (pEq (.int .i64 x4.2))), (14, (pEq (.slice g15.1 g15.2.1 g15.2.2))), (17, (pEq (.int .i64 x34.1))), (18, (pEq (.int .i64 x36)))]) ⟨rfl, rfl, rfl, rfl, rfl, rfl, rfl, rfl, rfl, trivial⟩ ?_
                  refine Tr.seq ?_
                  refine Tr.seq ?_
                  refine Tr.region ?_
                  refine RegL.pure (p := (pEq (.int .i64 x36))) rfl rfl rfl (J_move rfl (Opd.tmp rfl)) ?_
                  refine RegL.pure (p := (pEq (.bool (decide (x36 < (0 : Int)))))) rfl rfl rfl (J_bin rfl (Opd.tmp rfl) Opd.con B_lss) ?_
                  refine RegL.nil ?_
                  refine Ct.then_tr ?_
                  refine Tr.weak (Γ' := [(1, (pSl 1 (cK .i64) a_1)), (2, (pEq (.int .i64 a_2))), (3, (pEq (.int .i64 a_3))), (4, (pPtr (cGProblem a_0))), (10, (pSl 1 (cK .i64) x4.1)), (11, (pEq (.int .i64 x4.2))), (14, (pEq (.slice g15.1 g15.2.1 g15.2.2))), (17, (pEq (.int .i64 x34.1))), (18, (pEq (.int .i64 x36))), (96, (pEq (.bool (decide (x36 < (0 : Int))))))]) ⟨rfl, rfl, rfl, rfl, rfl, rfl, rfl, rfl, rfl, rfl, trivial⟩ ?_
                  refine Tr.cond (Opd.tmp rfl) (fun hc => ?_) (fun hc => ?_)
                  · replace h := bif_t hc h
                    refine Tr.seq ?_
                    refine Tr.region ?_
                    refine RegL.pure (p := (pEq (.bool false))) rfl rfl rfl (J_assign rfl Opd.con) ?_
                    refine RegL.nil ?_
                    refine Ct.then_tr ?_
                    refine Tr.weak (Γ' := [(8, (pEq (.bool false)))]) ⟨rfl, trivial⟩ ?_
                    refine Tr.ret ?_
                    refine Ct.then_ret ?_
                    replace h := Option.some.inj h; subst h
                    exact Ct.retH1 (Ωx := [oSl 2 1 (cK .i64) g15.1 g15.2.1 g15.2.2 x34.2]) () rfl (RvOk.tmp rfl) rfl
                  · replace h := bif_f hc h
                    refine Tr.skip ?_
                    refine Ct.then_tr ?_
                    refine Tr.weak (Γ' := [(1, (pSl 1 (cK .i64) a_1)), (2, (pEq (.int .i64 a_2))), (3, (pEq (.int .i64 a_3))), (4, (pPtr (cGProblem a_0))), (10, (pSl 1 (cK .i64) x4.1)), (11, (pEq (.int .i64 x4.2))), (14, (pEq (.slice g15.1 g15.2.1 g15.2.2))), (17, (pEq (.int .i64 x34.1))), (18, (pEq (.int .i64 x36)))]) ⟨rfl, rfl, rfl, rfl, rfl, rfl, rfl, rfl, rfl, trivial⟩ ?_
                    refine Tr.seq ?_
                    refine Tr.seq ?_
                    refine Tr.region ?_
                    refine RegL.pure (p := (pEq (.int .i64 x36))) rfl rfl rfl (J_move rfl (Opd.tmp rfl)) ?_
                    refine RegL.pure (p := (pEq (.int .i64 x34.1))) rfl rfl rfl (J_move rfl (Opd.tmp rfl)) ?_
                    refine RegL.pure (p := (pEq (.bool (x36 != x34.1)))) rfl rfl rfl (J_bin rfl (Opd.tmp rfl) (Opd.tmp rfl) B_neq) ?_
                    refine RegL.nil ?_
                    refine Ct.then_tr ?_
                    refine Tr.weak (Γ' := [(1, (pSl 1 (cK .i64) a_1)), (2, (pEq (.int .i64 a_2))), (3, (pEq (.int .i64 a_3))), (4, (pPtr (cGProblem a_0))), (10, (pSl 1 (cK .i64) x4.1)), (11, (pEq (.int .i64 x4.2))), (14, (pEq (.slice g15.1 g15.2.1 g15.2.2))), (17, (pEq (.int .i64 x34.1))), (99, (pEq (.bool (x36 != x34.1))))]) ⟨rfl, rfl, rfl, rfl, rfl, rfl, rfl, rfl, rfl, trivial⟩ ?_
                    refine Tr.cond (Opd.tmp rfl) (fun hc => ?_) (fun hc => ?_)
                    · replace h := bif_t hc h
                      refine Tr.seq ?_
                      refine Tr.region ?_
                      refine RegL.pure (p := (pEq (.bool false))) rfl rfl rfl (J_assign rfl Opd.con) ?_
                      refine RegL.nil ?_
                      refine Ct.then_tr ?_
                      refine Tr.weak (Γ' := [(8, (pEq (.bool false)))]) ⟨rfl, trivial⟩ ?_
                      refine Tr.ret ?_
                      refine Ct.then_ret ?_
                      replace h := Option.some.inj h; subst h
                      exact Ct.retH1 (Ωx := [oSl 2 1 (cK .i64) g15.1 g15.2.1 g15.2.2 x34.2]) () rfl (RvOk.tmp rfl) rfl
                    · replace h := bif_f hc h
                      refine Tr.skip ?_
                      refine Ct.then_tr ?_
                      refine Tr.weak (Γ' := [(1, (pSl 1 (cK .i64) a_1)), (2, (pEq (.int .i64 a_2))), (3, (pEq (.int .i64 a_3))), (4, (pPtr (cGProblem a_0))), (10, (pSl 1 (cK .i64) x4.1)), (11, (pEq (.int .i64 x4.2))), (14, (pEq (.slice g15.1 g15.2.1 g15.2.2))), (17, (pEq (.int .i64 x34.1)))]) ⟨rfl, rfl, rfl, rfl, rfl, rfl, rfl, rfl, trivial⟩ ?_
                      refine Tr.seq ?_
                      refine Tr.region ?_
                      refine RegL.pure (p := (pAgg (cGProblem a_0))) rfl rfl rfl (J_loadA rfl Try.isAgg24 sz24 (Opd.tmp rfl) rfl) ?_
                      replace h := bind_some h; obtain ⟨x37, hx37, h⟩ := h
                      refine RegL.pure (p := (pAgg (cGProblem x37))) rfl rfl rfl (J_call rfl Try.call10 (c_laws_toProblem hx37) (Opds.cons (Opd.tmp rfl) Opds.nil)) ?_
                      refine RegL.pure (p := (pSl 1 (cK .i64) a_1)) rfl rfl rfl (J_move rfl (Opd.tmp rfl)) ?_
                      replace h := bind_some h; obtain ⟨x38, hx38, h⟩ := h
                      refine RegL.pure (p := (pSl 1 (cK .i64) x38)) rfl rfl rfl (J_call rfl Try.call18 (c_laws_toInt64S hx38) (Opds.cons (Opd.tmp rfl) Opds.nil)) ?_
                      refine RegL.pure (p := (pEq (.int .i64 a_2))) rfl rfl rfl (J_move rfl (Opd.tmp rfl)) ?_
                      refine RegL.pure (p := (pEq (.int .i64 a_3))) rfl rfl rfl (J_move rfl (Opd.tmp rfl)) ?_
                      replace h := bind_some h; obtain ⟨x39, hx39, h⟩ := h
                      refine RegL.pure (p := (pTup [(pSl 1 (cK .i64) x39.1), (pEq (.int .i64 x39.2))])) rfl rfl rfl (J_call rfl Try.call21 (c_impl_SwapChain hx39) (Opds.cons (Opd.tmp rfl) (Opds.cons (Opd.tmp rfl) (Opds.cons (Opd.tmp rfl) (Opds.cons (Opd.tmp rfl) Opds.nil))))) ?_
                      refine RegL.pure (p := (pTup [(pSl 1 (cK .i64) x39.1), (pEq (.int .i64 x39.2))])) rfl rfl rfl (J_move rfl (Opd.tmp rfl)) ?_
                      refine RegL.pure (p := (pSl 1 (cK .i64) x39.1)) rfl rfl rfl (J_extract rfl (Opd.tmp rfl) rfl) ?_
                      refine RegL.pure (p := (pEq (.int .i64 x39.2))) rfl rfl rfl (J_extract rfl (Opd.tmp rfl) rfl) ?_
                      refine RegL.pure (p := (pSl 1 (cK .i64) x39.1)) rfl rfl rfl (J_assign rfl (Opd.tmp rfl)) ?_
                      refine RegL.pure (p := (pEq (.int .i64 x39.2))) rfl rfl rfl (J_assign rfl (Opd.tmp rfl)) ?_
                      refine RegL.nil ?_
                      refine Ct.then_tr ?_
                      refine Tr.weak (Γ' := [(10, (pSl 1 (cK .i64) x4.1)), (11, (pEq (.int .i64 x4.2))), (14, (pEq (.slice g15.1 g15.2.1 g15.2.2))), (17, (pEq (.int .i64 x34.1))), (19, (pSl 1 (cK .i64) x39.1)), (20, (pEq (.int .i64 x39.2)))]) ⟨rfl, rfl, rfl, rfl, rfl, rfl, trivial⟩ ?_
                      refine Tr.seq ?_
                      refine Tr.seq ?_
                      replace h := bind_some h; obtain ⟨x40, hx40, h⟩ := h
                      refine Tr.cut (γ := Unit) (Γm := fun g => [(14, (pEq (.slice g15.1 g15.2.1 g15.2.2))), (17, (pEq (.int .i64 x34.1))), (118, (pEq (.bool x40)))]) (Ωm := fun g => [oSl 2 1 (cK .i64) g15.1 g15.2.1 g15.2.2 x34.2]) ?_ (fun g43 => ?_)
                      · clear h
                        have h := hx40
                        clear hx40
                        refine Tr.region ?_
                        refine RegL.pure (p := (pSl 1 (cK .i64) x39.1)) rfl rfl rfl (J_move rfl (Opd.tmp rfl)) ?_
                        refine RegL.pure (p := (pSl 1 (cK .i64) x4.1)) rfl rfl rfl (J_move rfl (Opd.tmp rfl)) ?_
                        replace h := bind_some h; obtain ⟨x41, hx41, h⟩ := h
                        refine RegL.pure (p := (pEq (.bool x41))) rfl rfl rfl (J_call rfl Try.call12 (c_laws_eqInt64S hx41) (Opds.cons (Opd.tmp rfl) (Opds.cons (Opd.tmp rfl) Opds.nil))) ?_
                        refine RegL.pure (p := (pEq (.bool (!x41)))) rfl rfl rfl (J_not rfl (Opd.tmp rfl)) ?_
                        refine RegL.pure (p := (pEq (.bool (!x41)))) rfl rfl rfl (J_move rfl (Opd.tmp rfl)) ?_
                        rcases Bool.eq_false_or_eq_true (!x41) with hc42 | hc42
                        · replace h := bif_t hc42 h
                          refine RegL.skipG rfl rfl rfl hc42 rfl rfl ?_
                          refine RegL.skipG rfl rfl rfl hc42 rfl rfl ?_
                          refine RegL.skipG rfl rfl rfl hc42 rfl rfl ?_
                          refine RegL.pure (p := (pEq (.bool true))) rfl rfl rfl (J_pick rfl (Opd.tmp rfl) (fun _ => Opd.con) (fun hf => absurd (hc42.symm.trans hf) (by decide))) ?_
                          refine RegL.nil ?_
                          replace h := Option.some.inj h; subst h
                          exact Ct.mid () rfl ⟨rfl, rfl, rfl, trivial⟩
                        · replace h := bif_f hc42 h
                          refine RegL.pureG (p := (pEq (.int .i64 x39.2))) rfl rfl rfl hc42 rfl rfl (J_move rfl (Opd.tmp rfl)) ?_
                          refine RegL.pureG (p := (pEq (.int .i64 x4.2))) rfl rfl rfl hc42 rfl rfl (J_move rfl (Opd.tmp rfl)) ?_
                          refine RegL.pureG (p := (pEq (.bool (x39.2 != x4.2)))) rfl rfl rfl hc42 rfl rfl (J_bin rfl (Opd.tmp rfl) (Opd.tmp rfl) B_neq) ?_
                          refine RegL.pure (p := (pEq (.bool (x39.2 != x4.2)))) rfl rfl rfl (J_pick rfl (Opd.tmp rfl) (fun hf => absurd (hc42.symm.trans hf) (by decide)) (fun _ => (Opd.tmp rfl))) ?_
                          refine RegL.nil ?_
                          replace h := Option.some.inj h; subst h
                          exact Ct.mid () rfl ⟨rfl, rfl, rfl, trivial⟩
                      · clear hx40
                        refine Ct.then_tr ?_
                        refine Tr.weak (Γ' := [(14, (pEq (.slice g15.1 g15.2.1 g15.2.2))), (17, (pEq (.int .i64 x34.1))), (118, (pEq (.bool x40)))]) ⟨rfl, rfl, rfl, trivial⟩ ?_
                        refine Tr.cond (Opd.tmp rfl) (fun hc => ?_) (fun hc => ?_)
                        · replace h := bif_t hc h
                          refine Tr.seq ?_
                          refine Tr.region ?_
                          refine RegL.pure (p := (pEq (.bool false))) rfl rfl rfl (J_assign rfl Opd.con) ?_
                          refine RegL.nil ?_
                          refine Ct.then_tr ?_
                          refine Tr.weak (Γ' := [(8, (pEq (.bool false)))]) ⟨rfl, trivial⟩ ?_
                          refine Tr.ret ?_
                          refine Ct.then_ret ?_
                          replace h := Option.some.inj h; subst h
                          exact Ct.retH1 (Ωx := [oSl 2 1 (cK .i64) g15.1 g15.2.1 g15.2.2 x34.2]) () rfl (RvOk.tmp rfl) rfl
                        · replace h := bif_f hc h
                          refine Tr.skip ?_
                          refine Ct.then_tr ?_
                          refine Tr.weak (Γ' := [(14, (pEq (.slice g15.1 g15.2.1 g15.2.2))), (17, (pEq (.int .i64 x34.1)))]) ⟨rfl, rfl, trivial⟩ ?_
                          refine Tr.seq ?_
                          refine Tr.region ?_
                          refine RegL.pure (p := (pEq (.int .i64 (1 : Int)))) rfl rfl rfl (J_assign rfl Opd.con) ?_
                          refine RegL.nil ?_
                          refine Ct.then_tr ?_
                          refine Tr.weak (Γ' := [(14, (pEq (.slice g15.1 g15.2.1 g15.2.2))), (17, (pEq (.int .i64 x34.1))), (18, (pEq (.int .i64 (1 : Int))))]) ⟨rfl, rfl, rfl, trivial⟩ ?_
                          refine Tr.seq ?_
                          refine Tr.region ?_
                          refine RegL.pure (p := (pEq (.slice g15.1 g15.2.1 g15.2.2))) rfl rfl rfl (J_move rfl (Opd.tmp rfl)) ?_
                          refine RegL.pure (p := (pEq (.int .i64 (1 : Int)))) rfl rfl rfl (J_move rfl (Opd.tmp rfl)) ?_
                          replace h := bind_some h; obtain ⟨x44, hx44, h⟩ := h
                          refine RegL.pureW (p := (pEq (.int .i64 x44))) rfl rfl rfl (W_call rfl Try.call16 (c_laws_heldInt64S hx44) (OpdsA.cons (OpdA.conv rfl (Conv.row (f := (cK .i64)) 0 (fun _ => rfl) rfl)) (OpdsA.cons (OpdA.of (Opd.tmp rfl)) OpdsA.nil)) FreeP.eq) ?_
                          refine RegL.pure (p := (pEq (.int .i64 x44))) rfl rfl rfl (J_assign rfl (Opd.tmp rfl)) ?_
                          refine RegL.nil ?_
                          refine Ct.then_tr ?_
                          refine Tr.weak (Γ' := [(17, (pEq (.int .i64 x34.1))), (18, (pEq (.int .i64 x44)))]) ⟨rfl, rfl, trivial⟩ ?_
                          refine Tr.seq ?_
                          refine Tr.seq ?_
                          refine Tr.region ?_
                          refine RegL.pure (p := (pEq (.int .i64 x44))) rfl rfl rfl (J_move rfl (Opd.tmp rfl)) ?_
                          refine RegL.pure (p := (pEq (.bool (decide (x44 < (0 : Int)))))) rfl rfl rfl (J_bin rfl (Opd.tmp rfl) Opd.con B_lss) ?_
                          refine RegL.nil ?_
                          refine Ct.then_tr ?_
                          refine Tr.weak (Γ' := [(17, (pEq (.int .i64 x34.1))), (18, (pEq (.int .i64 x44))), (123, (pEq (.bool (decide (x44 < (0 : Int))))))]) ⟨rfl, rfl, rfl, trivial⟩ ?_
                          refine Tr.cond (Opd.tmp rfl) (fun hc => ?_) (fun hc => ?_)
                          · replace h := bif_t hc h
                            refine Tr.seq ?_
                            refine Tr.region ?_
                            refine RegL.pure (p := (pEq (.bool false))) rfl rfl rfl (J_assign rfl Opd.con) ?_
                            refine RegL.nil ?_
                            refine Ct.then_tr ?_
                            refine Tr.weak (Γ' := [(8, (pEq (.bool false)))]) ⟨rfl, trivial⟩ ?_
                            refine Tr.ret ?_
                            refine Ct.then_ret ?_
                            replace h := Option.some.inj h; subst h
                            exact Ct.retH1 (Ωx := [oSl 2 1 (cK .i64) g15.1 g15.2.1 g15.2.2 x34.2]) () rfl (RvOk.tmp rfl) rfl
                          · replace h := bif_f hc h
                            refine Tr.skip ?_
                            refine Ct.then_tr ?_
                            refine Tr.weak (Γ' := [(17, (pEq (.int .i64 x34.1))), (18, (pEq (.int .i64 x44)))]) ⟨rfl, rfl, trivial⟩ ?_
                            refine Tr.seq ?_
                            refine Tr.seq ?_
                            refine Tr.region ?_
                            refine RegL.pure (p := (pEq (.int .i64 x44))) rfl rfl rfl (J_move rfl (Opd.tmp rfl)) ?_
                            refine RegL.pure (p := (pEq (.int .i64 x34.1))) rfl rfl rfl (J_move rfl (Opd.tmp rfl)) ?_
                            refine RegL.pure (p := (pEq (.bool (x44 != x34.1)))) rfl rfl rfl (J_bin rfl (Opd.tmp rfl) (Opd.tmp rfl) B_neq) ?_
                            refine RegL.nil ?_
                            refine Ct.then_tr ?_
                            refine Tr.weak (Γ' := [(126, (pEq (.bool (x44 != x34.1))))]) ⟨rfl, trivial⟩ ?_
                            refine Tr.cond (Opd.tmp rfl) (fun hc => ?_) (fun hc => ?_)
                            · replace h := bif_t hc h
                              refine Tr.seq ?_
                              refine Tr.region ?_
                              refine RegL.pure (p := (pEq (.bool false))) rfl rfl rfl (J_assign rfl Opd.con) ?_
                              refine RegL.nil ?_
                              refine Ct.then_tr ?_
                              refine Tr.weak (Γ' := [(8, (pEq (.bool false)))]) ⟨rfl, trivial⟩ ?_
                              refine Tr.ret ?_
                              refine Ct.then_ret ?_
                              replace h := Option.some.inj h; subst h
                              exact Ct.retH1 (Ωx := [oSl 2 1 (cK .i64) g15.1 g15.2.1 g15.2.2 x34.2]) () rfl (RvOk.tmp rfl) rfl
                            · replace h := bif_f hc h
                              refine Tr.skip ?_
                              refine Ct.then_tr ?_
                              refine Tr.weak (Γ' := []) trivial ?_
                              refine Tr.seq ?_
                              refine Tr.region ?_
                              refine RegL.pure (p := (pEq (.bool true))) rfl rfl rfl (J_assign rfl Opd.con) ?_
                              refine RegL.nil ?_
                              refine Ct.then_tr ?_
                              refine Tr.weak (Γ' := [(8, (pEq (.bool true)))]) ⟨rfl, trivial⟩ ?_
                              refine Tr.ret ?_
                              replace h := Option.some.inj h; subst h
                              exact Ct.retH1 (Ωx := [oSl 2 1 (cK .i64) g15.1 g15.2.1 g15.2.2 x34.2]) () rfl (RvOk.tmp rfl) rfl

end Go.Proofs.Ytfadnbelnfofbaa.fnExactSwapChainW
