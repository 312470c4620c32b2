/-
  The walks that the law FnExactDiscriminationTable reaches: each function computes its model. Printed by our own program.
-/
import Derived.Test.YtbhegklilcpbmaaDoorProg
import Derived.Test.YtbhegklilcpbmaaDoorMod
import Derived.Test.YtbhegklilcpbmaaDoorZero
import Derived.KernelRfl
import Derived.Test.YtbhegklilcpbmaaDoorWkDiscriminationTablea
namespace Go.Proofs.YtbhegklilcpbmaaDoor.fnExactDiscriminationTableW
open Go Go.RowKit Go.Wk
set_option linter.unusedVariables false
set_option maxRecDepth 100000


theorem c_impl_ValidMask {m_0 : GMask} {r : Bool} (h : m_impl_ValidMask m_0 = some r) : CallJ Tryd.prog 53 [(pAgg (cGMask m_0))] (pEq (.bool r)) := by
  unfold m_impl_ValidMask at h
  refine CallJ.enterH Tryd.func53 rfl Tryd.ntmps53 rfl fun W I0 H => ?_
  refine Tr.weak (Γ' := [(0, (pAgg (cGMask m_0)))]) ⟨rfl, trivial⟩ ?_
  refine Tr.seq ?_
  refine Tr.region ?_
  refine RegL.pure (p := (pPtr (cGMask m_0))) rfl rfl rfl (J_boxA rfl (Opd.tmp rfl)) ?_
  refine RegL.pure (p := (pEq (.bool false))) rfl rfl rfl (J_assign rfl Opd.con) ?_
  refine RegL.nil ?_
  refine Ct.then_tr ?_
  refine Tr.weak (Γ' := [(1, (pPtr (cGMask m_0)))]) ⟨rfl, trivial⟩ ?_
  refine Tr.seq ?_
  refine Tr.region ?_
  refine RegL.pure (p := (pPtr ((cSl 1 (cK .i64)) m_0.Offsets))) rfl rfl rfl (J_fieldAddr rfl Tryd.underlying39 rfl sz22 (by decide) (Opd.tmp rfl) rfl) ?_
  refine RegL.pure (p := (pSl 1 (cK .i64) m_0.Offsets)) rfl rfl rfl (J_load rfl Tryd.isAgg22 (Opd.tmp rfl)) ?_
  refine RegL.pure (p := (pEq (.int .i64 (m_0.Offsets.length : Int)))) rfl rfl rfl (J_len rfl Tryd.underlying22 (Opd.tmp rfl) rfl) ?_
  refine RegL.pure (p := (pEq (.int .i64 (m_0.Offsets.length : Int)))) rfl rfl rfl (J_assign rfl (Opd.tmp rfl)) ?_
  refine RegL.nil ?_
  refine Ct.then_tr ?_
  refine Tr.weak (Γ' := [(1, (pPtr (cGMask m_0))), (3, (pEq (.int .i64 (m_0.Offsets.length : Int))))]) ⟨rfl, rfl, trivial⟩ ?_
  refine Tr.seq ?_
  refine Tr.seq ?_
  replace h := bind_some h; obtain ⟨x1, hx1, h⟩ := h
  refine Tr.cut (γ := Unit) (Γm := fun g => [(1, (pPtr (cGMask m_0))), (3, (pEq (.int .i64 (m_0.Offsets.length : Int)))), (33, (pEq (.bool x1)))]) (Ωm := fun g => []) ?_ (fun g8 => ?_)
  · clear h
    have h := hx1
    clear hx1
    refine Tr.region ?_
    refine RegL.pure (p := (pEq (.int .i64 (m_0.Offsets.length : Int)))) rfl rfl rfl (J_move rfl (Opd.tmp rfl)) ?_
    refine RegL.pure (p := (pEq (.bool (decide ((m_0.Offsets.length : Int) < (2 : Int)))))) rfl rfl rfl (J_bin rfl (Opd.tmp rfl) Opd.con B_lss) ?_
    refine RegL.pure (p := (pEq (.bool (decide ((m_0.Offsets.length : Int) < (2 : Int)))))) rfl rfl rfl (J_move rfl (Opd.tmp rfl)) ?_
    rcases Bool.eq_false_or_eq_true (decide ((m_0.Offsets.length : Int) < (2 : Int))) with hc2 | hc2
    · replace h := bif_t hc2 h
      refine RegL.skipG rfl rfl rfl hc2 rfl rfl ?_
      refine RegL.skipG rfl rfl rfl hc2 rfl rfl ?_
      refine RegL.pure (p := (pEq (.bool true))) rfl rfl rfl (J_pick rfl (Opd.tmp rfl) (fun _ => Opd.con) (fun hf => absurd (hc2.symm.trans hf) (by decide))) ?_
      refine RegL.pure (p := (pEq (.bool true))) rfl rfl rfl (J_move rfl (Opd.tmp rfl)) ?_
      refine RegL.skipG rfl rfl rfl rfl rfl rfl ?_
      refine RegL.skipG rfl rfl rfl rfl rfl rfl ?_
      refine RegL.skipG rfl rfl rfl rfl rfl rfl ?_
      refine RegL.skipG rfl rfl rfl rfl rfl rfl ?_
      refine RegL.skipG rfl rfl rfl rfl rfl rfl ?_
      refine RegL.pure (p := (pEq (.bool true))) rfl rfl rfl (J_pick rfl (Opd.tmp rfl) (fun _ => Opd.con) (fun hf => absurd hf (by decide))) ?_
      refine RegL.pure (p := (pEq (.bool true))) rfl rfl rfl (J_move rfl (Opd.tmp rfl)) ?_
      refine RegL.skipG rfl rfl rfl rfl rfl rfl ?_
      refine RegL.skipG rfl rfl rfl rfl rfl rfl ?_
      refine RegL.skipG rfl rfl rfl rfl rfl rfl ?_
      refine RegL.skipG rfl rfl rfl rfl rfl rfl ?_
      refine RegL.skipG rfl rfl rfl rfl rfl rfl ?_
      refine RegL.pure (p := (pEq (.bool true))) rfl rfl rfl (J_pick rfl (Opd.tmp rfl) (fun _ => Opd.con) (fun hf => absurd hf (by decide))) ?_
      refine RegL.pure (p := (pEq (.bool true))) rfl rfl rfl (J_move rfl (Opd.tmp rfl)) ?_
      refine RegL.skipG rfl rfl rfl rfl rfl rfl ?_
      refine RegL.skipG rfl rfl rfl rfl rfl rfl ?_
      refine RegL.skipG rfl rfl rfl rfl rfl rfl ?_
      refine RegL.skipG rfl rfl rfl rfl rfl rfl ?_
      refine RegL.skipG rfl rfl rfl rfl rfl rfl ?_
      refine RegL.pure (p := (pEq (.bool true))) rfl rfl rfl (J_pick rfl (Opd.tmp rfl) (fun _ => Opd.con) (fun hf => absurd hf (by decide))) ?_
      refine RegL.nil ?_
      replace h := Option.some.inj h; subst h
      exact Ct.mid () rfl ⟨rfl, rfl, rfl, trivial⟩
    · replace h := bif_f hc2 h
      refine RegL.pureG (p := (pEq (.int .i64 (m_0.Offsets.length : Int)))) rfl rfl rfl hc2 rfl rfl (J_move rfl (Opd.tmp rfl)) ?_
      refine RegL.pureG (p := (pEq (.bool (decide ((12 : Int) < (m_0.Offsets.length : Int)))))) rfl rfl rfl hc2 rfl rfl (J_bin rfl (Opd.tmp rfl) Opd.con B_gtr) ?_
      refine RegL.pure (p := (pEq (.bool (decide ((12 : Int) < (m_0.Offsets.length : Int)))))) rfl rfl rfl (J_pick rfl (Opd.tmp rfl) (fun hf => absurd (hc2.symm.trans hf) (by decide)) (fun _ => (Opd.tmp rfl))) ?_
      refine RegL.pure (p := (pEq (.bool (decide ((12 : Int) < (m_0.Offsets.length : Int)))))) rfl rfl rfl (J_move rfl (Opd.tmp rfl)) ?_
      rcases Bool.eq_false_or_eq_true (decide ((12 : Int) < (m_0.Offsets.length : Int))) with hc3 | hc3
      · replace h := bif_t hc3 h
        refine RegL.skipG rfl rfl rfl hc3 rfl rfl ?_
        refine RegL.skipG rfl rfl rfl hc3 rfl rfl ?_
        refine RegL.skipG rfl rfl rfl hc3 rfl rfl ?_
        refine RegL.skipG rfl rfl rfl hc3 rfl rfl ?_
        refine RegL.skipG rfl rfl rfl hc3 rfl rfl ?_
        refine RegL.pure (p := (pEq (.bool true))) rfl rfl rfl (J_pick rfl (Opd.tmp rfl) (fun _ => Opd.con) (fun hf => absurd (hc3.symm.trans hf) (by decide))) ?_
        refine RegL.pure (p := (pEq (.bool true))) rfl rfl rfl (J_move rfl (Opd.tmp rfl)) ?_
        refine RegL.skipG rfl rfl rfl rfl rfl rfl ?_
        refine RegL.skipG rfl rfl rfl rfl rfl rfl ?_
        refine RegL.skipG rfl rfl rfl rfl rfl rfl ?_
        refine RegL.skipG rfl rfl rfl rfl rfl rfl ?_
        refine RegL.skipG rfl rfl rfl rfl rfl rfl ?_
        refine RegL.pure (p := (pEq (.bool true))) rfl rfl rfl (J_pick rfl (Opd.tmp rfl) (fun _ => Opd.con) (fun hf => absurd hf (by decide))) ?_
        refine RegL.pure (p := (pEq (.bool true))) rfl rfl rfl (J_move rfl (Opd.tmp rfl)) ?_
        refine RegL.skipG rfl rfl rfl rfl rfl rfl ?_
        refine RegL.skipG rfl rfl rfl rfl rfl rfl ?_
        refine RegL.skipG rfl rfl rfl rfl rfl rfl ?_
        refine RegL.skipG rfl rfl rfl rfl rfl rfl ?_
        refine RegL.skipG rfl rfl rfl rfl rfl rfl ?_
        refine RegL.pure (p := (pEq (.bool true))) rfl rfl rfl (J_pick rfl (Opd.tmp rfl) (fun _ => Opd.con) (fun hf => absurd hf (by decide))) ?_
        refine RegL.nil ?_
        replace h := Option.some.inj h; subst h
        exact Ct.mid () rfl ⟨rfl, rfl, rfl, trivial⟩
      · replace h := bif_f hc3 h
        refine RegL.pureG (p := (pPtr ((cSl 1 (cK .i64)) m_0.Losses))) rfl rfl rfl hc3 rfl rfl (J_fieldAddr rfl Tryd.underlying39 rfl sz22 (by decide) (Opd.tmp rfl) rfl) ?_
        refine RegL.pureG (p := (pSl 1 (cK .i64) m_0.Losses)) rfl rfl rfl hc3 rfl rfl (J_load rfl Tryd.isAgg22 (Opd.tmp rfl)) ?_
        refine RegL.pureG (p := (pEq (.int .i64 (m_0.Losses.length : Int)))) rfl rfl rfl hc3 rfl rfl (J_len rfl Tryd.underlying22 (Opd.tmp rfl) rfl) ?_
        refine RegL.pureG (p := (pEq (.int .i64 (m_0.Offsets.length : Int)))) rfl rfl rfl hc3 rfl rfl (J_move rfl (Opd.tmp rfl)) ?_
        refine RegL.pureG (p := (pEq (.bool ((m_0.Losses.length : Int) != (m_0.Offsets.length : Int))))) rfl rfl rfl hc3 rfl rfl (J_bin rfl (Opd.tmp rfl) (Opd.tmp rfl) B_neq) ?_
        refine RegL.pure (p := (pEq (.bool ((m_0.Losses.length : Int) != (m_0.Offsets.length : Int))))) rfl rfl rfl (J_pick rfl (Opd.tmp rfl) (fun hf => absurd (hc3.symm.trans hf) (by decide)) (fun _ => (Opd.tmp rfl))) ?_
        refine RegL.pure (p := (pEq (.bool ((m_0.Losses.length : Int) != (m_0.Offsets.length : Int))))) rfl rfl rfl (J_move rfl (Opd.tmp rfl)) ?_
        rcases Bool.eq_false_or_eq_true ((m_0.Losses.length : Int) != (m_0.Offsets.length : Int)) with hc4 | hc4
        · replace h := bif_t hc4 h
          refine RegL.skipG rfl rfl rfl hc4 rfl rfl ?_
          refine RegL.skipG rfl rfl rfl hc4 rfl rfl ?_
          refine RegL.skipG rfl rfl rfl hc4 rfl rfl ?_
          refine RegL.skipG rfl rfl rfl hc4 rfl rfl ?_
          refine RegL.skipG rfl rfl rfl hc4 rfl rfl ?_
          refine RegL.pure (p := (pEq (.bool true))) rfl rfl rfl (J_pick rfl (Opd.tmp rfl) (fun _ => Opd.con) (fun hf => absurd (hc4.symm.trans hf) (by decide))) ?_
          refine RegL.pure (p := (pEq (.bool true))) rfl rfl rfl (J_move rfl (Opd.tmp rfl)) ?_
          refine RegL.skipG rfl rfl rfl rfl rfl rfl ?_
          refine RegL.skipG rfl rfl rfl rfl rfl rfl ?_
          refine RegL.skipG rfl rfl rfl rfl rfl rfl ?_
          refine RegL.skipG rfl rfl rfl rfl rfl rfl ?_
          refine RegL.skipG rfl rfl rfl rfl rfl rfl ?_
          refine RegL.pure (p := (pEq (.bool true))) rfl rfl rfl (J_pick rfl (Opd.tmp rfl) (fun _ => Opd.con) (fun hf => absurd hf (by decide))) ?_
          refine RegL.nil ?_
          replace h := Option.some.inj h; subst h
          exact Ct.mid () rfl ⟨rfl, rfl, rfl, trivial⟩
        · replace h := bif_f hc4 h
          refine RegL.pureG (p := (pPtr ((cSl 1 (cK .i64)) m_0.Offsets))) rfl rfl rfl hc4 rfl rfl (J_fieldAddr rfl Tryd.underlying39 rfl sz22 (by decide) (Opd.tmp rfl) rfl) ?_
          refine RegL.pureG (p := (pSl 1 (cK .i64) m_0.Offsets)) rfl rfl rfl hc4 rfl rfl (J_load rfl Tryd.isAgg22 (Opd.tmp rfl)) ?_
          replace h := bind_some h; obtain ⟨x5, hx5, h⟩ := h
          refine RegL.pureG (p := (pPtr ((cK .i64) x5))) rfl rfl rfl hc4 rfl rfl (J_idx rfl Tryd.underlying22 sz2 (Opd.tmp rfl) Opd.con hx5) ?_
          refine RegL.pureG (p := (pEq (.int .i64 x5))) rfl rfl rfl hc4 rfl rfl (J_load rfl Tryd.isAgg2 (Opd.tmp rfl)) ?_
          refine RegL.pureG (p := (pEq (.bool (x5 != (0 : Int))))) rfl rfl rfl hc4 rfl rfl (J_bin rfl (Opd.tmp rfl) Opd.con B_neq) ?_
          refine RegL.pure (p := (pEq (.bool (x5 != (0 : Int))))) rfl rfl rfl (J_pick rfl (Opd.tmp rfl) (fun hf => absurd (hc4.symm.trans hf) (by decide)) (fun _ => (Opd.tmp rfl))) ?_
          refine RegL.pure (p := (pEq (.bool (x5 != (0 : Int))))) rfl rfl rfl (J_move rfl (Opd.tmp rfl)) ?_
          rcases Bool.eq_false_or_eq_true (x5 != (0 : Int)) with hc6 | hc6
          · replace h := bif_t hc6 h
            refine RegL.skipG rfl rfl rfl hc6 rfl rfl ?_
            refine RegL.skipG rfl rfl rfl hc6 rfl rfl ?_
            refine RegL.skipG rfl rfl rfl hc6 rfl rfl ?_
            refine RegL.skipG rfl rfl rfl hc6 rfl rfl ?_
            refine RegL.skipG rfl rfl rfl hc6 rfl rfl ?_
            refine RegL.pure (p := (pEq (.bool true))) rfl rfl rfl (J_pick rfl (Opd.tmp rfl) (fun _ => Opd.con) (fun hf => absurd (hc6.symm.trans hf) (by decide))) ?_
            refine RegL.nil ?_
            replace h := Option.some.inj h; subst h
            exact Ct.mid () rfl ⟨rfl, rfl, rfl, trivial⟩
          · replace h := bif_f hc6 h
            refine RegL.pureG (p := (pPtr ((cSl 1 (cK .i64)) m_0.Losses))) rfl rfl rfl hc6 rfl rfl (J_fieldAddr rfl Tryd.underlying39 rfl sz22 (by decide) (Opd.tmp rfl) rfl) ?_
            refine RegL.pureG (p := (pSl 1 (cK .i64) m_0.Losses)) rfl rfl rfl hc6 rfl rfl (J_load rfl Tryd.isAgg22 (Opd.tmp rfl)) ?_
            replace h := bind_some h; obtain ⟨x7, hx7, h⟩ := h
            refine RegL.pureG (p := (pPtr ((cK .i64) x7))) rfl rfl rfl hc6 rfl rfl (J_idx rfl Tryd.underlying22 sz2 (Opd.tmp rfl) Opd.con hx7) ?_
            refine RegL.pureG (p := (pEq (.int .i64 x7))) rfl rfl rfl hc6 rfl rfl (J_load rfl Tryd.isAgg2 (Opd.tmp rfl)) ?_
            refine RegL.pureG (p := (pEq (.bool (x7 != (0 : Int))))) rfl rfl rfl hc6 rfl rfl (J_bin rfl (Opd.tmp rfl) Opd.con B_neq) ?_
            refine RegL.pure (p := (pEq (.bool (x7 != (0 : Int))))) rfl rfl rfl (J_pick rfl (Opd.tmp rfl) (fun hf => absurd (hc6.symm.trans hf) (by decide)) (fun _ => (Opd.tmp rfl))) ?_
            refine RegL.nil ?_
            replace h := Option.some.inj h; subst h
            exact Ct.mid () rfl ⟨rfl, rfl, rfl, trivial⟩
  · clear hx1
    refine Ct.then_tr ?_
    refine Tr.weak (Γ' := [(1, (pPtr (cGMask m_0))), (3, (pEq (.int .i64 (m_0.Offsets.length : Int)))), (33, (pEq (.bool x1)))]) ⟨rfl, rfl, rfl, trivial⟩ ?_
    refine Tr.cond (Opd.tmp rfl) (fun hc => ?_) (fun hc => ?_)
    · replace h := bif_t hc h
      refine Tr.seq ?_
      refine Tr.region ?_
      refine RegL.pure (p := (pEq (.bool false))) rfl rfl rfl (J_assign rfl Opd.con) ?_
      refine RegL.nil ?_
      refine Ct.then_tr ?_
      refine Tr.weak (Γ' := [(2, (pEq (.bool false)))]) ⟨rfl, trivial⟩ ?_
      refine Tr.ret ?_
      refine Ct.then_ret ?_
      replace h := Option.some.inj h; subst h
      exact Ct.retH1 (Ωx := []) () rfl (RvOk.tmp rfl) rfl
    · replace h := bif_f hc h
      refine Tr.skip ?_
      refine Ct.then_tr ?_
      refine Tr.weak (Γ' := [(1, (pPtr (cGMask m_0))), (3, (pEq (.int .i64 (m_0.Offsets.length : Int))))]) ⟨rfl, rfl, trivial⟩ ?_
      refine Tr.seq ?_
      replace h := bind_some h; obtain ⟨x9, hx9, h⟩ := h
      refine Tr.cut (γ := Unit) (Γm := fun g => [(2, (pEq (.bool x9)))]) (Ωm := fun g => []) ?_ (fun g17 => ?_)
      · clear h
        have h := hx9
        clear hx9
        refine Tr.region ?_
        refine RegL.pure (p := (pPtr ((cSl 1 (cK .i64)) m_0.Offsets))) rfl rfl rfl (J_fieldAddr rfl Tryd.underlying39 rfl sz22 (by decide) (Opd.tmp rfl) rfl) ?_
        refine RegL.pure (p := (pSl 1 (cK .i64) m_0.Offsets)) rfl rfl rfl (J_load rfl Tryd.isAgg22 (Opd.tmp rfl)) ?_
        replace h := bind_some h; obtain ⟨x10, hx10, h⟩ := h
        refine RegL.pure (p := (pEq (.bool x10))) rfl rfl rfl (J_call rfl Tryd.call84 (c_impl_increasing hx10) (Opds.cons (Opd.tmp rfl) Opds.nil)) ?_
        refine RegL.pure (p := (pEq (.bool x10))) rfl rfl rfl (J_move rfl (Opd.tmp rfl)) ?_
        rcases Bool.eq_false_or_eq_true x10 with hc11 | hc11
        · replace h := bif_t hc11 h
          refine RegL.pureG (p := (pPtr ((cSl 1 (cK .i64)) m_0.Offsets))) rfl rfl rfl hc11 rfl rfl (J_fieldAddr rfl Tryd.underlying39 rfl sz22 (by decide) (Opd.tmp rfl) rfl) ?_
          refine RegL.pureG (p := (pSl 1 (cK .i64) m_0.Offsets)) rfl rfl rfl hc11 rfl rfl (J_load rfl Tryd.isAgg22 (Opd.tmp rfl)) ?_
          refine RegL.pureG (p := (pEq (.int .i64 (m_0.Offsets.length : Int)))) rfl rfl rfl hc11 rfl rfl (J_move rfl (Opd.tmp rfl)) ?_
          refine RegL.pureG (p := (pEq (.int .i64 (w64 ((m_0.Offsets.length : Int) - (1 : Int)))))) rfl rfl rfl hc11 rfl rfl (J_bin rfl (Opd.tmp rfl) Opd.con B_sub) ?_
          replace h := bind_some h; obtain ⟨x12, hx12, h⟩ := h
          refine RegL.pureG (p := (pPtr ((cK .i64) x12))) rfl rfl rfl hc11 rfl rfl (J_idx rfl Tryd.underlying22 sz2 (Opd.tmp rfl) (Opd.tmp rfl) hx12) ?_
          refine RegL.pureG (p := (pEq (.int .i64 x12))) rfl rfl rfl hc11 rfl rfl (J_load rfl Tryd.isAgg2 (Opd.tmp rfl)) ?_
          refine RegL.pureG (p := (pEq (.bool (decide (x12 ≤ (100000 : Int)))))) rfl rfl rfl hc11 rfl rfl (J_bin rfl (Opd.tmp rfl) Opd.con B_leq) ?_
          refine RegL.pure (p := (pEq (.bool (decide (x12 ≤ (100000 : Int)))))) rfl rfl rfl (J_pick rfl (Opd.tmp rfl) (fun _ => (Opd.tmp rfl)) (fun hf => absurd (hc11.symm.trans hf) (by decide))) ?_
          refine RegL.pure (p := (pEq (.bool (decide (x12 ≤ (100000 : Int)))))) rfl rfl rfl (J_move rfl (Opd.tmp rfl)) ?_
          rcases Bool.eq_false_or_eq_true (decide (x12 ≤ (100000 : Int))) with hc13 | hc13
          · replace h := bif_t hc13 h
            refine RegL.pureG (p := (pPtr ((cSl 1 (cK .i64)) m_0.Losses))) rfl rfl rfl hc13 rfl rfl (J_fieldAddr rfl Tryd.underlying39 rfl sz22 (by decide) (Opd.tmp rfl) rfl) ?_
            refine RegL.pureG (p := (pSl 1 (cK .i64) m_0.Losses)) rfl rfl rfl hc13 rfl rfl (J_load rfl Tryd.isAgg22 (Opd.tmp rfl)) ?_
            replace h := bind_some h; obtain ⟨x14, hx14, h⟩ := h
            refine RegL.pureG (p := (pEq (.bool x14))) rfl rfl rfl hc13 rfl rfl (J_call rfl Tryd.call72 (c_slices_IsSorted_int64_int64 hx14) (Opds.cons (Opd.tmp rfl) Opds.nil)) ?_
            refine RegL.pure (p := (pEq (.bool x14))) rfl rfl rfl (J_pick rfl (Opd.tmp rfl) (fun _ => (Opd.tmp rfl)) (fun hf => absurd (hc13.symm.trans hf) (by decide))) ?_
            refine RegL.pure (p := (pEq (.bool x14))) rfl rfl rfl (J_move rfl (Opd.tmp rfl)) ?_
            rcases Bool.eq_false_or_eq_true x14 with hc15 | hc15
            · replace h := bif_t hc15 h
              refine RegL.pureG (p := (pPtr ((cSl 1 (cK .i64)) m_0.Losses))) rfl rfl rfl hc15 rfl rfl (J_fieldAddr rfl Tryd.underlying39 rfl sz22 (by decide) (Opd.tmp rfl) rfl) ?_
              refine RegL.pureG (p := (pSl 1 (cK .i64) m_0.Losses)) rfl rfl rfl hc15 rfl rfl (J_load rfl Tryd.isAgg22 (Opd.tmp rfl)) ?_
              refine RegL.pureG (p := (pEq (.int .i64 (m_0.Offsets.length : Int)))) rfl rfl rfl hc15 rfl rfl (J_move rfl (Opd.tmp rfl)) ?_
              refine RegL.pureG (p := (pEq (.int .i64 (w64 ((m_0.Offsets.length : Int) - (1 : Int)))))) rfl rfl rfl hc15 rfl rfl (J_bin rfl (Opd.tmp rfl) Opd.con B_sub) ?_
              replace h := bind_some h; obtain ⟨x16, hx16, h⟩ := h
              refine RegL.pureG (p := (pPtr ((cK .i64) x16))) rfl rfl rfl hc15 rfl rfl (J_idx rfl Tryd.underlying22 sz2 (Opd.tmp rfl) (Opd.tmp rfl) hx16) ?_
              refine RegL.pureG (p := (pEq (.int .i64 x16))) rfl rfl rfl hc15 rfl rfl (J_load rfl Tryd.isAgg2 (Opd.tmp rfl)) ?_
              refine RegL.pureG (p := (pEq (.bool (decide (x16 ≤ (120000 : Int)))))) rfl rfl rfl hc15 rfl rfl (J_bin rfl (Opd.tmp rfl) Opd.con B_leq) ?_
              refine RegL.pure (p := (pEq (.bool (decide (x16 ≤ (120000 : Int)))))) rfl rfl rfl (J_pick rfl (Opd.tmp rfl) (fun _ => (Opd.tmp rfl)) (fun hf => absurd (hc15.symm.trans hf) (by decide))) ?_
              refine RegL.pure (p := (pEq (.bool (decide (x16 ≤ (120000 : Int)))))) rfl rfl rfl (J_assign rfl (Opd.tmp rfl)) ?_
              refine RegL.nil ?_
              replace h := Option.some.inj h; subst h
              exact Ct.mid () rfl ⟨rfl, trivial⟩
            · replace h := bif_f hc15 h
              refine RegL.skipG rfl rfl rfl hc15 rfl rfl ?_
              refine RegL.skipG rfl rfl rfl hc15 rfl rfl ?_
              refine RegL.skipG rfl rfl rfl hc15 rfl rfl ?_
              refine RegL.skipG rfl rfl rfl hc15 rfl rfl ?_
              refine RegL.skipG rfl rfl rfl hc15 rfl rfl ?_
              refine RegL.skipG rfl rfl rfl hc15 rfl rfl ?_
              refine RegL.skipG rfl rfl rfl hc15 rfl rfl ?_
              refine RegL.pure (p := (pEq (.bool false))) rfl rfl rfl (J_pick rfl (Opd.tmp rfl) (fun hf => absurd (hc15.symm.trans hf) (by decide)) (fun _ => Opd.con)) ?_
              refine RegL.pure (p := (pEq (.bool false))) rfl rfl rfl (J_assign rfl (Opd.tmp rfl)) ?_
              refine RegL.nil ?_
              replace h := Option.some.inj h; subst h
              exact Ct.mid () rfl ⟨rfl, trivial⟩
          · replace h := bif_f hc13 h
            refine RegL.skipG rfl rfl rfl hc13 rfl rfl ?_
            refine RegL.skipG rfl rfl rfl hc13 rfl rfl ?_
            refine RegL.skipG rfl rfl rfl hc13 rfl rfl ?_
            refine RegL.pure (p := (pEq (.bool false))) rfl rfl rfl (J_pick rfl (Opd.tmp rfl) (fun hf => absurd (hc13.symm.trans hf) (by decide)) (fun _ => Opd.con)) ?_
            refine RegL.pure (p := (pEq (.bool false))) rfl rfl rfl (J_move rfl (Opd.tmp rfl)) ?_
            refine RegL.skipG rfl rfl rfl rfl rfl rfl ?_
            refine RegL.skipG rfl rfl rfl rfl rfl rfl ?_
            refine RegL.skipG rfl rfl rfl rfl rfl rfl ?_
            refine RegL.skipG rfl rfl rfl rfl rfl rfl ?_
            refine RegL.skipG rfl rfl rfl rfl rfl rfl ?_
            refine RegL.skipG rfl rfl rfl rfl rfl rfl ?_
            refine RegL.skipG rfl rfl rfl rfl rfl rfl ?_
            refine RegL.pure (p := (pEq (.bool false))) rfl rfl rfl (J_pick rfl (Opd.tmp rfl) (fun hf => absurd hf (by decide)) (fun _ => Opd.con)) ?_
            refine RegL.pure (p := (pEq (.bool false))) rfl rfl rfl (J_assign rfl (Opd.tmp rfl)) ?_
            refine RegL.nil ?_
            replace h := Option.some.inj h; subst h
            exact Ct.mid () rfl ⟨rfl, trivial⟩
        · replace h := bif_f hc11 h
          refine RegL.skipG rfl rfl rfl hc11 rfl rfl ?_
          refine RegL.skipG rfl rfl rfl hc11 rfl rfl ?_
          refine RegL.skipG rfl rfl rfl hc11 rfl rfl ?_
          refine RegL.skipG rfl rfl rfl hc11 rfl rfl ?_
          refine RegL.skipG rfl rfl rfl hc11 rfl rfl ?_
          refine RegL.skipG rfl rfl rfl hc11 rfl rfl ?_
          refine RegL.skipG rfl rfl rfl hc11 rfl rfl ?_
          refine RegL.pure (p := (pEq (.bool false))) rfl rfl rfl (J_pick rfl (Opd.tmp rfl) (fun hf => absurd (hc11.symm.trans hf) (by decide)) (fun _ => Opd.con)) ?_
          refine RegL.pure (p := (pEq (.bool false))) rfl rfl rfl (J_move rfl (Opd.tmp rfl)) ?_
          refine RegL.skipG rfl rfl rfl rfl rfl rfl ?_
          refine RegL.skipG rfl rfl rfl rfl rfl rfl ?_
          refine RegL.skipG rfl rfl rfl rfl rfl rfl ?_
          refine RegL.pure (p := (pEq (.bool false))) rfl rfl rfl (J_pick rfl (Opd.tmp rfl) (fun hf => absurd hf (by decide)) (fun _ => Opd.con)) ?_
          refine RegL.pure (p := (pEq (.bool false))) rfl rfl rfl (J_move rfl (Opd.tmp rfl)) ?_
          refine RegL.skipG rfl rfl rfl rfl rfl rfl ?_
          refine RegL.skipG rfl rfl rfl rfl rfl rfl ?_
          refine RegL.skipG rfl rfl rfl rfl rfl rfl ?_
          refine RegL.skipG rfl rfl rfl rfl rfl rfl ?_
          refine RegL.skipG rfl rfl rfl rfl rfl rfl ?_
          refine RegL.skipG rfl rfl rfl rfl rfl rfl ?_
          refine RegL.skipG rfl rfl rfl rfl rfl rfl ?_
          refine RegL.pure (p := (pEq (.bool false))) rfl rfl rfl (J_pick rfl (Opd.tmp rfl) (fun hf => absurd hf (by decide)) (fun _ => Opd.con)) ?_
          refine RegL.pure (p := (pEq (.bool false))) rfl rfl rfl (J_assign rfl (Opd.tmp rfl)) ?_
          refine RegL.nil ?_
          replace h := Option.some.inj h; subst h
          exact Ct.mid () rfl ⟨rfl, trivial⟩
      · clear hx9
        refine Ct.then_tr ?_
        refine Tr.weak (Γ' := [(2, (pEq (.bool x9)))]) ⟨rfl, trivial⟩ ?_
        refine Tr.ret ?_
        replace h := Option.some.inj h; subst h
        exact Ct.retH1 (Ωx := []) () rfl (RvOk.tmp rfl) rfl

theorem c_impl_within {n_0 : Int} {low_1 : Int} {high_2 : Int} {r : Bool} (h : m_impl_within n_0 low_1 high_2 = some r) : CallJ Tryd.prog 57 [(pEq (.int .i64 n_0)), (pEq (.int .i64 low_1)), (pEq (.int .i64 high_2))] (pEq (.bool r)) := by
  unfold m_impl_within at h
  refine CallJ.enterH Tryd.func57 rfl Tryd.ntmps57 rfl fun W I0 H => ?_
  refine Tr.weak (Γ' := [(0, (pEq (.int .i64 n_0))), (1, (pEq (.int .i64 low_1))), (2, (pEq (.int .i64 high_2)))]) ⟨rfl, rfl, rfl, trivial⟩ ?_
  refine Tr.seq ?_
  refine Tr.region ?_
  refine RegL.pure (p := (pEq (.bool false))) rfl rfl rfl (J_assign rfl Opd.con) ?_
  refine RegL.nil ?_
  refine Ct.then_tr ?_
  refine Tr.weak (Γ' := [(0, (pEq (.int .i64 n_0))), (1, (pEq (.int .i64 low_1))), (2, (pEq (.int .i64 high_2)))]) ⟨rfl, rfl, rfl, trivial⟩ ?_
  refine Tr.seq ?_
  replace h := bind_some h; obtain ⟨x1, hx1, h⟩ := h
  refine Tr.cut (γ := Unit) (Γm := fun g => [(6, (pEq (.bool x1)))]) (Ωm := fun g => []) ?_ (fun g3 => ?_)
  · clear h
    have h := hx1
    clear hx1
    refine Tr.region ?_
    refine RegL.pure (p := (pEq (.int .i64 n_0))) rfl rfl rfl (J_move rfl (Opd.tmp rfl)) ?_
    refine RegL.pure (p := (pEq (.int .i64 low_1))) rfl rfl rfl (J_move rfl (Opd.tmp rfl)) ?_
    refine RegL.pure (p := (pEq (.bool (decide (low_1 ≤ n_0))))) rfl rfl rfl (J_bin rfl (Opd.tmp rfl) (Opd.tmp rfl) B_geq) ?_
    refine RegL.pure (p := (pEq (.bool (decide (low_1 ≤ n_0))))) rfl rfl rfl (J_move rfl (Opd.tmp rfl)) ?_
    rcases Bool.eq_false_or_eq_true (decide (low_1 ≤ n_0)) with hc2 | hc2
    · replace h := bif_t hc2 h
      refine RegL.pureG (p := (pEq (.int .i64 n_0))) rfl rfl rfl hc2 rfl rfl (J_move rfl (Opd.tmp rfl)) ?_
      refine RegL.pureG (p := (pEq (.int .i64 high_2))) rfl rfl rfl hc2 rfl rfl (J_move rfl (Opd.tmp rfl)) ?_
      refine RegL.pureG (p := (pEq (.bool (decide (n_0 ≤ high_2))))) rfl rfl rfl hc2 rfl rfl (J_bin rfl (Opd.tmp rfl) (Opd.tmp rfl) B_leq) ?_
      refine RegL.pure (p := (pEq (.bool (decide (n_0 ≤ high_2))))) rfl rfl rfl (J_pick rfl (Opd.tmp rfl) (fun _ => (Opd.tmp rfl)) (fun hf => absurd (hc2.symm.trans hf) (by decide))) ?_
      refine RegL.pure (p := (pEq (.bool (decide (n_0 ≤ high_2))))) rfl rfl rfl (J_assign rfl (Opd.tmp rfl)) ?_
      refine RegL.nil ?_
      replace h := Option.some.inj h; subst h
      exact Ct.mid () rfl ⟨rfl, trivial⟩
    · replace h := bif_f hc2 h
      refine RegL.skipG rfl rfl rfl hc2 rfl rfl ?_
      refine RegL.skipG rfl rfl rfl hc2 rfl rfl ?_
      refine RegL.skipG rfl rfl rfl hc2 rfl rfl ?_
      refine RegL.pure (p := (pEq (.bool false))) rfl rfl rfl (J_pick rfl (Opd.tmp rfl) (fun hf => absurd (hc2.symm.trans hf) (by decide)) (fun _ => Opd.con)) ?_
      refine RegL.pure (p := (pEq (.bool false))) rfl rfl rfl (J_assign rfl (Opd.tmp rfl)) ?_
      refine RegL.nil ?_
      replace h := Option.some.inj h; subst h
      exact Ct.mid () rfl ⟨rfl, trivial⟩
  · clear hx1
    refine Ct.then_tr ?_
    refine Tr.weak (Γ' := [(6, (pEq (.bool x1)))]) ⟨rfl, trivial⟩ ?_
    refine Tr.ret ?_
    replace h := Option.some.inj h; subst h
    exact Ct.retH1 (Ωx := []) () rfl (RvOk.tmp rfl) rfl

theorem c_impl_Mask_end {m_0 : GMask} {r : Int} (h : m_impl_Mask_end m_0 = some r) : CallJ Tryd.prog 85 [(pAgg (cGMask m_0))] (pEq (.int .i64 r)) := by
  unfold m_impl_Mask_end at h
  refine CallJ.enterH Tryd.func85 rfl Tryd.ntmps85 rfl fun W I0 H => ?_
  refine Tr.weak (Γ' := [(0, (pAgg (cGMask m_0)))]) ⟨rfl, trivial⟩ ?_
  refine Tr.seq ?_
  refine Tr.region ?_
  refine RegL.pure (p := (pPtr (cGMask m_0))) rfl rfl rfl (J_boxA rfl (Opd.tmp rfl)) ?_
  refine RegL.pure (p := (pEq (.int .i64 (0 : Int)))) rfl rfl rfl (J_assign rfl Opd.con) ?_
  refine RegL.nil ?_
  refine Ct.then_tr ?_
  refine Tr.weak (Γ' := [(1, (pPtr (cGMask m_0)))]) ⟨rfl, trivial⟩ ?_
  refine Tr.seq ?_
  refine Tr.region ?_
  refine RegL.pure (p := (pPtr ((cSl 1 (cK .i64)) m_0.Offsets))) rfl rfl rfl (J_fieldAddr rfl Tryd.underlying39 rfl sz22 (by decide) (Opd.tmp rfl) rfl) ?_
  refine RegL.pure (p := (pSl 1 (cK .i64) m_0.Offsets)) rfl rfl rfl (J_load rfl Tryd.isAgg22 (Opd.tmp rfl)) ?_
  refine RegL.pure (p := (pPtr ((cSl 1 (cK .i64)) m_0.Offsets))) rfl rfl rfl (J_fieldAddr rfl Tryd.underlying39 rfl sz22 (by decide) (Opd.tmp rfl) rfl) ?_
  refine RegL.pure (p := (pSl 1 (cK .i64) m_0.Offsets)) rfl rfl rfl (J_load rfl Tryd.isAgg22 (Opd.tmp rfl)) ?_
  refine RegL.pure (p := (pEq (.int .i64 (m_0.Offsets.length : Int)))) rfl rfl rfl (J_len rfl Tryd.underlying22 (Opd.tmp rfl) rfl) ?_
  refine RegL.pure (p := (pEq (.int .i64 (w64 ((m_0.Offsets.length : Int) - (1 : Int)))))) rfl rfl rfl (J_bin rfl (Opd.tmp rfl) Opd.con B_sub) ?_
  replace h := bind_some h; obtain ⟨x1, hx1, h⟩ := h
  refine RegL.pure (p := (pPtr ((cK .i64) x1))) rfl rfl rfl (J_idx rfl Tryd.underlying22 sz2 (Opd.tmp rfl) (Opd.tmp rfl) hx1) ?_
  refine RegL.pure (p := (pEq (.int .i64 x1))) rfl rfl rfl (J_load rfl Tryd.isAgg2 (Opd.tmp rfl)) ?_
  refine RegL.pure (p := (pEq (.int .i64 x1))) rfl rfl rfl (J_assign rfl (Opd.tmp rfl)) ?_
  refine RegL.nil ?_
  refine Ct.then_tr ?_
  refine Tr.weak (Γ' := [(2, (pEq (.int .i64 x1)))]) ⟨rfl, trivial⟩ ?_
  refine Tr.ret ?_
  replace h := Option.some.inj h; subst h
  exact Ct.retH1 (Ωx := []) () rfl (RvOk.tmp rfl) rfl

theorem c_impl_abs {n_0 : Int} {r : Int} (h : m_impl_abs n_0 = some r) : CallJ Tryd.prog 73 [(pEq (.int .i64 n_0))] (pEq (.int .i64 r)) := by
  unfold m_impl_abs at h
  refine CallJ.enterH Tryd.func73 rfl Tryd.ntmps73 rfl fun W I0 H => ?_
  refine Tr.weak (Γ' := [(0, (pEq (.int .i64 n_0)))]) ⟨rfl, trivial⟩ ?_
  refine Tr.seq ?_
  refine Tr.region ?_
  refine RegL.pure (p := (pEq (.int .i64 (0 : Int)))) rfl rfl rfl (J_assign rfl Opd.con) ?_
  refine RegL.nil ?_
  refine Ct.then_tr ?_
  refine Tr.weak (Γ' := [(0, (pEq (.int .i64 n_0)))]) ⟨rfl, trivial⟩ ?_
  refine Tr.seq ?_
  refine Tr.region ?_
  refine RegL.pure (p := (pEq (.int .i64 n_0))) rfl rfl rfl (J_move rfl (Opd.tmp rfl)) ?_
  refine RegL.pure (p := (pEq (.int .i64 n_0))) rfl rfl rfl (J_move rfl (Opd.tmp rfl)) ?_
  refine RegL.pure (p := (pEq (.int .i64 (w64 (0 - n_0))))) rfl rfl rfl (J_neg rfl (Opd.tmp rfl)) ?_
  refine RegL.pure (p := (pEq (.int .i64 (if (w64 (0 - n_0)) > n_0 then (w64 (0 - n_0)) else n_0)))) rfl rfl rfl (J_max2 rfl (Opd.tmp rfl) (Opd.tmp rfl)) ?_
  refine RegL.pure (p := (pEq (.int .i64 (if (w64 (0 - n_0)) > n_0 then (w64 (0 - n_0)) else n_0)))) rfl rfl rfl (J_assign rfl (Opd.tmp rfl)) ?_
  refine RegL.nil ?_
  refine Ct.then_tr ?_
  refine Tr.weak (Γ' := [(2, (pEq (.int .i64 (if (w64 (0 - n_0)) > n_0 then (w64 (0 - n_0)) else n_0))))]) ⟨rfl, trivial⟩ ?_
  refine Tr.ret ?_
  replace h := Option.some.inj h; subst h
  exact Ct.retH1 (Ωx := []) () rfl (RvOk.tmp rfl) rfl

theorem c_impl_divRound {a_0 : Int} {b_1 : Int} {r : Int} (h : m_impl_divRound a_0 b_1 = some r) : CallJ Tryd.prog 86 [(pEq (.int .i64 a_0)), (pEq (.int .i64 b_1))] (pEq (.int .i64 r)) := by
  unfold m_impl_divRound at h
  refine CallJ.enterH Tryd.func86 rfl Tryd.ntmps86 rfl fun W I0 H => ?_
  refine Tr.weak (Γ' := [(0, (pEq (.int .i64 a_0))), (1, (pEq (.int .i64 b_1)))]) ⟨rfl, rfl, trivial⟩ ?_
  refine Tr.seq ?_
  refine Tr.region ?_
  refine RegL.pure (p := (pEq (.int .i64 (0 : Int)))) rfl rfl rfl (J_assign rfl Opd.con) ?_
  refine RegL.nil ?_
  refine Ct.then_tr ?_
  refine Tr.weak (Γ' := [(0, (pEq (.int .i64 a_0))), (1, (pEq (.int .i64 b_1)))]) ⟨rfl, rfl, trivial⟩ ?_
  refine Tr.seq ?_
  replace h := bind_some h; obtain ⟨x1, hx1, h⟩ := h
  replace h := bind_some h; obtain ⟨x2, hx2, h⟩ := h
  replace h := bind_some h; obtain ⟨x3, hx3, h⟩ := h
  refine Tr.drawD (n := 30) (m := 8) (es := [some (Ent.mk [(0, (pEq (.int .i64 a_0)))] (pEq (.int .i64 a_0)) true), some (Ent.mk [(1, (pEq (.int .i64 b_1)))] (pEq (.int .i64 b_1)) true), some (Ent.mk [(7, (pEq (.int .i64 a_0))), (8, (pEq (.int .i64 b_1)))] (pEq (.int .i64 x1)) true), some (Ent.mk [(0, (pEq (.int .i64 a_0)))] (pEq (.int .i64 a_0)) true), some (Ent.mk [(1, (pEq (.int .i64 b_1)))] (pEq (.int .i64 b_1)) true), some (Ent.mk [(10, (pEq (.int .i64 a_0))), (11, (pEq (.int .i64 b_1)))] (pEq (.int .i64 x2)) true), some (Ent.mk [(12, (pEq (.int .i64 x2)))] (pEq (.int .i64 x3)) true), some (Ent.mk [(9, (pEq (.int .i64 x1)))] (pEq (.int .i64 x1)) true)]) (rd := [[0], [1], [7, 8], [0], [1], [10, 11], [12], [9]]) rfl hmix (by kernel_rfl) fun hD => ?_
  refine RD.fin (es := [Ent.mk [(0, (pEq (.int .i64 a_0)))] (pEq (.int .i64 a_0)) true, Ent.mk [(1, (pEq (.int .i64 b_1)))] (pEq (.int .i64 b_1)) true, Ent.mk [(7, (pEq (.int .i64 a_0))), (8, (pEq (.int .i64 b_1)))] (pEq (.int .i64 x1)) true, Ent.mk [(0, (pEq (.int .i64 a_0)))] (pEq (.int .i64 a_0)) true, Ent.mk [(1, (pEq (.int .i64 b_1)))] (pEq (.int .i64 b_1)) true, Ent.mk [(10, (pEq (.int .i64 a_0))), (11, (pEq (.int .i64 b_1)))] (pEq (.int .i64 x2)) true, Ent.mk [(12, (pEq (.int .i64 x2)))] (pEq (.int .i64 x3)) true, Ent.mk [(9, (pEq (.int .i64 x1)))] (pEq (.int .i64 x1)) true]) (done := []) hD ⟨.inr ⟨(OpJ.w (J_move rfl (Opd.tmp rfl))), ⟨rfl, trivial⟩, rfl, rfl⟩, ⟨.inr ⟨(OpJ.w (J_move rfl (Opd.tmp rfl))), ⟨rfl, trivial⟩, rfl, rfl⟩, ⟨.inr ⟨(OpJ.w (J_bin rfl (Opd.tmp rfl) (Opd.tmp rfl) (B_qdiv hx1))), ⟨rfl, rfl, trivial⟩, rfl, rfl⟩, ⟨.inr ⟨(OpJ.w (J_move rfl (Opd.tmp rfl))), ⟨rfl, trivial⟩, rfl, rfl⟩, ⟨.inr ⟨(OpJ.w (J_move rfl (Opd.tmp rfl))), ⟨rfl, trivial⟩, rfl, rfl⟩, ⟨.inr ⟨(OpJ.w (J_bin rfl (Opd.tmp rfl) (Opd.tmp rfl) (B_rdiv hx2))), ⟨rfl, rfl, trivial⟩, rfl, rfl⟩, ⟨.inr ⟨(OpJ.w (J_call rfl Tryd.call73 (c_impl_abs hx3) (Opds.cons (Opd.tmp rfl) Opds.nil))), ⟨rfl, trivial⟩, rfl, rfl⟩, ⟨.inr ⟨(OpJ.w (J_assign rfl (Opd.tmp rfl))), ⟨rfl, trivial⟩, rfl, rfl⟩, trivial⟩⟩⟩⟩⟩⟩⟩⟩ ?_
  refine RegL.pure (p := (pEq (.int .i64 x3))) rfl rfl rfl (J_assign rfl (Opd.tmp rfl)) ?_
  refine RegL.nil ?_
  refine Ct.then_tr ?_
  refine Tr.weak (Γ' := [(0, (pEq (.int .i64 a_0))), (1, (pEq (.int .i64 b_1))), (5, (pEq (.int .i64 x1))), (6, (pEq (.int .i64 x3)))]) ⟨rfl, rfl, rfl, rfl, trivial⟩ ?_
  refine Tr.seq ?_
  refine Tr.seq ?_
  refine Tr.region ?_
  refine RegL.pure (p := (pEq (.int .i64 x3))) rfl rfl rfl (J_move rfl (Opd.tmp rfl)) ?_
  refine RegL.pure (p := (pEq (.int .i64 b_1))) rfl rfl rfl (J_move rfl (Opd.tmp rfl)) ?_
  replace h := bind_some h; obtain ⟨x4, hx4, h⟩ := h
  refine RegL.pure (p := (pEq (.int .i64 x4))) rfl rfl rfl (J_call rfl Tryd.call73 (c_impl_abs hx4) (Opds.cons (Opd.tmp rfl) Opds.nil)) ?_
  refine RegL.pure (p := (pEq (.int .i64 x3))) rfl rfl rfl (J_move rfl (Opd.tmp rfl)) ?_
  refine RegL.pure (p := (pEq (.int .i64 (w64 (x4 - x3))))) rfl rfl rfl (J_bin rfl (Opd.tmp rfl) (Opd.tmp rfl) B_sub) ?_
  refine RegL.pure (p := (pEq (.bool (decide ((w64 (x4 - x3)) ≤ x3))))) rfl rfl rfl (J_bin rfl (Opd.tmp rfl) (Opd.tmp rfl) B_geq) ?_
  refine RegL.nil ?_
  refine Ct.then_tr ?_
  refine Tr.weak (Γ' := [(0, (pEq (.int .i64 a_0))), (1, (pEq (.int .i64 b_1))), (5, (pEq (.int .i64 x1))), (19, (pEq (.bool (decide ((w64 (x4 - x3)) ≤ x3)))))]) ⟨rfl, rfl, rfl, rfl, trivial⟩ ?_
  refine Tr.cond (Opd.tmp rfl) (fun hc => ?_) (fun hc => ?_)
  · replace h := bif_t hc h
    refine Tr.seq ?_
    refine Tr.seq ?_
    refine Tr.region ?_
    refine RegL.pure (p := (pEq (.int .i64 a_0))) rfl rfl rfl (J_move rfl (Opd.tmp rfl)) ?_
    refine RegL.pure (p := (pEq (.bool (decide (a_0 < (0 : Int)))))) rfl rfl rfl (J_bin rfl (Opd.tmp rfl) Opd.con B_lss) ?_
    refine RegL.pure (p := (pEq (.int .i64 b_1))) rfl rfl rfl (J_move rfl (Opd.tmp rfl)) ?_
    refine RegL.pure (p := (pEq (.bool (decide (b_1 < (0 : Int)))))) rfl rfl rfl (J_bin rfl (Opd.tmp rfl) Opd.con B_lss) ?_
    refine RegL.pure (p := (pEq (.bool ((decide (a_0 < (0 : Int))) == (decide (b_1 < (0 : Int))))))) rfl rfl rfl (J_bin rfl (Opd.tmp rfl) (Opd.tmp rfl) (B_beql Tryd.underlying4)) ?_
    refine RegL.nil ?_
    refine Ct.then_tr ?_
    refine Tr.weak (Γ' := [(5, (pEq (.int .i64 x1))), (24, (pEq (.bool ((decide (a_0 < (0 : Int))) == (decide (b_1 < (0 : Int)))))))]) ⟨rfl, rfl, trivial⟩ ?_
    refine Tr.cond (Opd.tmp rfl) (fun hc => ?_) (fun hc => ?_)
    · replace h := bif_t hc h
      refine Tr.seq ?_
      refine Tr.region ?_
      refine RegL.pure (p := (pEq (.int .i64 x1))) rfl rfl rfl (J_move rfl (Opd.tmp rfl)) ?_
      refine RegL.pure (p := (pEq (.int .i64 (w64 (x1 + (1 : Int)))))) rfl rfl rfl (J_bin rfl (Opd.tmp rfl) Opd.con B_add) ?_
      refine RegL.pure (p := (pEq (.int .i64 (w64 (x1 + (1 : Int)))))) rfl rfl rfl (J_assign rfl (Opd.tmp rfl)) ?_
      refine RegL.nil ?_
      refine Ct.then_tr ?_
      refine Tr.weak (Γ' := [(4, (pEq (.int .i64 (w64 (x1 + (1 : Int))))))]) ⟨rfl, trivial⟩ ?_
      refine Tr.ret ?_
      refine Ct.then_ret ?_
      refine Ct.then_ret ?_
      replace h := Option.some.inj h; subst h
      exact Ct.retH1 (Ωx := []) () rfl (RvOk.tmp rfl) rfl
    · replace h := bif_f hc h
      refine Tr.skip ?_
      refine Ct.then_tr ?_
      refine Tr.weak (Γ' := [(5, (pEq (.int .i64 x1)))]) ⟨rfl, trivial⟩ ?_
      refine Tr.seq ?_
      refine Tr.region ?_
      refine RegL.pure (p := (pEq (.int .i64 x1))) rfl rfl rfl (J_move rfl (Opd.tmp rfl)) ?_
      refine RegL.pure (p := (pEq (.int .i64 (w64 (x1 - (1 : Int)))))) rfl rfl rfl (J_bin rfl (Opd.tmp rfl) Opd.con B_sub) ?_
      refine RegL.pure (p := (pEq (.int .i64 (w64 (x1 - (1 : Int)))))) rfl rfl rfl (J_assign rfl (Opd.tmp rfl)) ?_
      refine RegL.nil ?_
      refine Ct.then_tr ?_
      refine Tr.weak (Γ' := [(4, (pEq (.int .i64 (w64 (x1 - (1 : Int))))))]) ⟨rfl, trivial⟩ ?_
      refine Tr.ret ?_
      refine Ct.then_ret ?_
      replace h := Option.some.inj h; subst h
      exact Ct.retH1 (Ωx := []) () rfl (RvOk.tmp rfl) rfl
  · replace h := bif_f hc h
    refine Tr.skip ?_
    refine Ct.then_tr ?_
    refine Tr.weak (Γ' := [(5, (pEq (.int .i64 x1)))]) ⟨rfl, trivial⟩ ?_
    refine Tr.seq ?_
    refine Tr.region ?_
    refine RegL.pure (p := (pEq (.int .i64 x1))) rfl rfl rfl (J_move rfl (Opd.tmp rfl)) ?_
    refine RegL.pure (p := (pEq (.int .i64 x1))) rfl rfl rfl (J_assign rfl (Opd.tmp rfl)) ?_
    refine RegL.nil ?_
    refine Ct.then_tr ?_
    refine Tr.weak (Γ' := [(4, (pEq (.int .i64 x1)))]) ⟨rfl, trivial⟩ ?_
    refine Tr.ret ?_
    replace h := Option.some.inj h; subst h
    exact Ct.retH1 (Ωx := []) () rfl (RvOk.tmp rfl) rfl

theorem c_impl_blend {x0_0 : Int} {y0_1 : Int} {x1_2 : Int} {y1_3 : Int} {x_4 : Int} {r : Int} (h : m_impl_blend x0_0 y0_1 x1_2 y1_3 x_4 = some r) : CallJ Tryd.prog 110 [(pEq (.int .i64 x0_0)), (pEq (.int .i64 y0_1)), (pEq (.int .i64 x1_2)), (pEq (.int .i64 y1_3)), (pEq (.int .i64 x_4))] (pEq (.int .i64 r)) := by
  unfold m_impl_blend at h
  refine CallJ.enterH Tryd.func110 rfl Tryd.ntmps110 rfl fun W I0 H => ?_
  refine Tr.weak (Γ' := [(0, (pEq (.int .i64 x0_0))), (1, (pEq (.int .i64 y0_1))), (2, (pEq (.int .i64 x1_2))), (3, (pEq (.int .i64 y1_3))), (4, (pEq (.int .i64 x_4)))]) ⟨rfl, rfl, rfl, rfl, rfl, trivial⟩ ?_
  refine Tr.seq ?_
  refine Tr.region ?_
  refine RegL.pure (p := (pEq (.int .i64 (0 : Int)))) rfl rfl rfl (J_assign rfl Opd.con) ?_
  refine RegL.nil ?_
  refine Ct.then_tr ?_
  refine Tr.weak (Γ' := [(0, (pEq (.int .i64 x0_0))), (1, (pEq (.int .i64 y0_1))), (2, (pEq (.int .i64 x1_2))), (3, (pEq (.int .i64 y1_3))), (4, (pEq (.int .i64 x_4)))]) ⟨rfl, rfl, rfl, rfl, rfl, trivial⟩ ?_
  refine Tr.seq ?_
  refine Tr.block ?_
  refine Tr.seq ?_
  replace h := bind_some h; obtain ⟨x1, hx1, h⟩ := h
  refine Tr.cut (γ := Unit) (Γm := fun g => [(0, (pEq (.int .i64 x0_0))), (1, (pEq (.int .i64 y0_1))), (2, (pEq (.int .i64 x1_2))), (3, (pEq (.int .i64 y1_3))), (4, (pEq (.int .i64 x_4))), (11, (pEq (.bool x1)))]) (Ωm := fun g => []) ?_ (fun g3 => ?_)
  · clear h
    have h := hx1
    clear hx1
    refine Tr.region ?_
    refine RegL.pure (p := (pEq (.int .i64 x_4))) rfl rfl rfl (J_move rfl (Opd.tmp rfl)) ?_
    refine RegL.pure (p := (pEq (.int .i64 x0_0))) rfl rfl rfl (J_move rfl (Opd.tmp rfl)) ?_
    refine RegL.pure (p := (pEq (.bool (decide (x_4 ≤ x0_0))))) rfl rfl rfl (J_bin rfl (Opd.tmp rfl) (Opd.tmp rfl) B_leq) ?_
    refine RegL.pure (p := (pEq (.bool (decide (x_4 ≤ x0_0))))) rfl rfl rfl (J_move rfl (Opd.tmp rfl)) ?_
    rcases Bool.eq_false_or_eq_true (decide (x_4 ≤ x0_0)) with hc2 | hc2
    · replace h := bif_t hc2 h
      refine RegL.skipG rfl rfl rfl hc2 rfl rfl ?_
      refine RegL.skipG rfl rfl rfl hc2 rfl rfl ?_
      refine RegL.skipG rfl rfl rfl hc2 rfl rfl ?_
      refine RegL.pure (p := (pEq (.bool true))) rfl rfl rfl (J_pick rfl (Opd.tmp rfl) (fun _ => Opd.con) (fun hf => absurd (hc2.symm.trans hf) (by decide))) ?_
      refine RegL.pure (p := (pEq (.bool true))) rfl rfl rfl (J_assign rfl (Opd.tmp rfl)) ?_
      refine RegL.nil ?_
      replace h := Option.some.inj h; subst h
      exact Ct.mid () rfl ⟨rfl, rfl, rfl, rfl, rfl, rfl, trivial⟩
    · replace h := bif_f hc2 h
      refine RegL.pureG (p := (pEq (.int .i64 x1_2))) rfl rfl rfl hc2 rfl rfl (J_move rfl (Opd.tmp rfl)) ?_
      refine RegL.pureG (p := (pEq (.int .i64 x0_0))) rfl rfl rfl hc2 rfl rfl (J_move rfl (Opd.tmp rfl)) ?_
      refine RegL.pureG (p := (pEq (.bool (decide (x1_2 ≤ x0_0))))) rfl rfl rfl hc2 rfl rfl (J_bin rfl (Opd.tmp rfl) (Opd.tmp rfl) B_leq) ?_
      refine RegL.pure (p := (pEq (.bool (decide (x1_2 ≤ x0_0))))) rfl rfl rfl (J_pick rfl (Opd.tmp rfl) (fun hf => absurd (hc2.symm.trans hf) (by decide)) (fun _ => (Opd.tmp rfl))) ?_
      refine RegL.pure (p := (pEq (.bool (decide (x1_2 ≤ x0_0))))) rfl rfl rfl (J_assign rfl (Opd.tmp rfl)) ?_
      refine RegL.nil ?_
      replace h := Option.some.inj h; subst h
      exact Ct.mid () rfl ⟨rfl, rfl, rfl, rfl, rfl, rfl, trivial⟩
  · clear hx1
    refine Ct.then_tr ?_
    refine Tr.weak (Γ' := [(0, (pEq (.int .i64 x0_0))), (1, (pEq (.int .i64 y0_1))), (2, (pEq (.int .i64 x1_2))), (3, (pEq (.int .i64 y1_3))), (4, (pEq (.int .i64 x_4))), (11, (pEq (.bool x1)))]) ⟨rfl, rfl, rfl, rfl, rfl, rfl, trivial⟩ ?_
    refine Tr.cond (Opd.tmp rfl) (fun hc => ?_) (fun hc => ?_)
    · replace h := bif_t hc h
      refine Tr.seq ?_
      refine Tr.region ?_
      refine RegL.pure (p := (pEq (.int .i64 y0_1))) rfl rfl rfl (J_move rfl (Opd.tmp rfl)) ?_
      refine RegL.pure (p := (pEq (.int .i64 y0_1))) rfl rfl rfl (J_assign rfl (Opd.tmp rfl)) ?_
      refine RegL.nil ?_
      refine Ct.then_tr ?_
      refine Tr.weak (Γ' := [(10, (pEq (.int .i64 y0_1)))]) ⟨rfl, trivial⟩ ?_
      refine Tr.ret ?_
      refine Ct.blk_ret ?_
      refine Ct.then_ret ?_
      replace h := Option.some.inj h; subst h
      exact Ct.retH1 (Ωx := []) () rfl (RvOk.tmp rfl) rfl
    · replace h := bif_f hc h
      refine Tr.seq ?_
      refine Tr.region ?_
      refine RegL.pure (p := (pEq (.int .i64 x_4))) rfl rfl rfl (J_move rfl (Opd.tmp rfl)) ?_
      refine RegL.pure (p := (pEq (.int .i64 x1_2))) rfl rfl rfl (J_move rfl (Opd.tmp rfl)) ?_
      refine RegL.pure (p := (pEq (.bool (decide (x1_2 ≤ x_4))))) rfl rfl rfl (J_bin rfl (Opd.tmp rfl) (Opd.tmp rfl) B_geq) ?_
      refine RegL.pure (p := (pEq (.bool (decide (x1_2 ≤ x_4))))) rfl rfl rfl (J_assign rfl (Opd.tmp rfl)) ?_
      refine RegL.nil ?_
      refine Ct.then_tr ?_
      refine Tr.weak (Γ' := [(0, (pEq (.int .i64 x0_0))), (1, (pEq (.int .i64 y0_1))), (2, (pEq (.int .i64 x1_2))), (3, (pEq (.int .i64 y1_3))), (4, (pEq (.int .i64 x_4))), (21, (pEq (.bool (decide (x1_2 ≤ x_4)))))]) ⟨rfl, rfl, rfl, rfl, rfl, rfl, trivial⟩ ?_
      refine Tr.cond (Opd.tmp rfl) (fun hc => ?_) (fun hc => ?_)
      · replace h := bif_t hc h
        refine Tr.seq ?_
        refine Tr.region ?_
        refine RegL.pure (p := (pEq (.int .i64 y1_3))) rfl rfl rfl (J_move rfl (Opd.tmp rfl)) ?_
        refine RegL.pure (p := (pEq (.int .i64 y1_3))) rfl rfl rfl (J_assign rfl (Opd.tmp rfl)) ?_
        refine RegL.nil ?_
        refine Ct.then_tr ?_
        refine Tr.weak (Γ' := [(10, (pEq (.int .i64 y1_3)))]) ⟨rfl, trivial⟩ ?_
        refine Tr.ret ?_
        refine Ct.blk_ret ?_
        refine Ct.then_ret ?_
        replace h := Option.some.inj h; subst h
        exact Ct.retH1 (Ωx := []) () rfl (RvOk.tmp rfl) rfl
      · replace h := bif_f hc h
        refine Tr.skip ?_
        refine Ct.blk_normal ?_
        refine Ct.then_tr ?_
        refine Tr.weak (Γ' := [(0, (pEq (.int .i64 x0_0))), (1, (pEq (.int .i64 y0_1))), (2, (pEq (.int .i64 x1_2))), (3, (pEq (.int .i64 y1_3))), (4, (pEq (.int .i64 x_4)))]) ⟨rfl, rfl, rfl, rfl, rfl, trivial⟩ ?_
        refine Tr.seq ?_
        refine Tr.region ?_
        refine RegL.pure (p := (pEq (.int .i64 y0_1))) rfl rfl rfl (J_move rfl (Opd.tmp rfl)) ?_
        refine RegL.pure (p := (pEq (.int .i64 y1_3))) rfl rfl rfl (J_move rfl (Opd.tmp rfl)) ?_
        refine RegL.pure (p := (pEq (.int .i64 y0_1))) rfl rfl rfl (J_move rfl (Opd.tmp rfl)) ?_
        refine RegL.pure (p := (pEq (.int .i64 (w64 (y1_3 - y0_1))))) rfl rfl rfl (J_bin rfl (Opd.tmp rfl) (Opd.tmp rfl) B_sub) ?_
        refine RegL.pure (p := (pEq (.int .i64 x_4))) rfl rfl rfl (J_move rfl (Opd.tmp rfl)) ?_
        refine RegL.pure (p := (pEq (.int .i64 x0_0))) rfl rfl rfl (J_move rfl (Opd.tmp rfl)) ?_
        refine RegL.pure (p := (pEq (.int .i64 (w64 (x_4 - x0_0))))) rfl rfl rfl (J_bin rfl (Opd.tmp rfl) (Opd.tmp rfl) B_sub) ?_
        refine RegL.pure (p := (pEq (.int .i64 (w64 ((w64 (y1_3 - y0_1)) * (w64 (x_4 - x0_0))))))) rfl rfl rfl (J_bin rfl (Opd.tmp rfl) (Opd.tmp rfl) B_mul) ?_
        refine RegL.pure (p := (pEq (.int .i64 x1_2))) rfl rfl rfl (J_move rfl (Opd.tmp rfl)) ?_
        refine RegL.pure (p := (pEq (.int .i64 x0_0))) rfl rfl rfl (J_move rfl (Opd.tmp rfl)) ?_
        refine RegL.pure (p := (pEq (.int .i64 (w64 (x1_2 - x0_0))))) rfl rfl rfl (J_bin rfl (Opd.tmp rfl) (Opd.tmp rfl) B_sub) ?_
        replace h := bind_some h; obtain ⟨x4, hx4, h⟩ := h
        refine RegL.pure (p := (pEq (.int .i64 x4))) rfl rfl rfl (J_call rfl Tryd.call86 (c_impl_divRound hx4) (Opds.cons (Opd.tmp rfl) (Opds.cons (Opd.tmp rfl) Opds.nil))) ?_
        refine RegL.pure (p := (pEq (.int .i64 (w64 (y0_1 + x4))))) rfl rfl rfl (J_bin rfl (Opd.tmp rfl) (Opd.tmp rfl) B_add) ?_
        refine RegL.pure (p := (pEq (.int .i64 (w64 (y0_1 + x4))))) rfl rfl rfl (J_assign rfl (Opd.tmp rfl)) ?_
        refine RegL.nil ?_
        refine Ct.then_tr ?_
        refine Tr.weak (Γ' := [(10, (pEq (.int .i64 (w64 (y0_1 + x4)))))]) ⟨rfl, trivial⟩ ?_
        refine Tr.ret ?_
        replace h := Option.some.inj h; subst h
        exact Ct.retH1 (Ωx := []) () rfl (RvOk.tmp rfl) rfl

theorem c_impl_Mask_loss {m_0 : GMask} {offset_1 : Int} {r : Int} (h : m_impl_Mask_loss m_0 offset_1 = some r) : CallJ Tryd.prog 87 [(pAgg (cGMask m_0)), (pEq (.int .i64 offset_1))] (pEq (.int .i64 r)) := by
  unfold m_impl_Mask_loss at h
  refine CallJ.enterH Tryd.func87 rfl Tryd.ntmps87 rfl fun W I0 H => ?_
  refine Tr.weak (Γ' := [(0, (pAgg (cGMask m_0))), (1, (pEq (.int .i64 offset_1)))]) ⟨rfl, rfl, trivial⟩ ?_
  refine Tr.seq ?_
  refine Tr.region ?_
  refine RegL.pure (p := (pPtr (cGMask m_0))) rfl rfl rfl (J_boxA rfl (Opd.tmp rfl)) ?_
  refine RegL.pure (p := (pEq (.int .i64 (0 : Int)))) rfl rfl rfl (J_assign rfl Opd.con) ?_
  refine RegL.nil ?_
  refine Ct.then_tr ?_
  refine Tr.weak (Γ' := [(1, (pEq (.int .i64 offset_1))), (2, (pPtr (cGMask m_0)))]) ⟨rfl, rfl, trivial⟩ ?_
  refine Tr.seq ?_
  refine Tr.region ?_
  refine RegL.pure (p := (pEq (.int .i64 offset_1))) rfl rfl rfl (J_move rfl (Opd.tmp rfl)) ?_
  replace h := bind_some h; obtain ⟨x1, hx1, h⟩ := h
  refine RegL.pure (p := (pEq (.int .i64 x1))) rfl rfl rfl (J_call rfl Tryd.call73 (c_impl_abs hx1) (Opds.cons (Opd.tmp rfl) Opds.nil)) ?_
  refine RegL.pure (p := (pEq (.int .i64 x1))) rfl rfl rfl (J_assign rfl (Opd.tmp rfl)) ?_
  refine RegL.nil ?_
  refine Ct.then_tr ?_
  refine Tr.weak (Γ' := [(1, (pEq (.int .i64 x1))), (2, (pPtr (cGMask m_0)))]) ⟨rfl, rfl, trivial⟩ ?_
  refine Tr.seq ?_
  refine Tr.region ?_
  refine RegL.pure (p := (pEq (.int .i64 (1 : Int)))) rfl rfl rfl (J_assign rfl Opd.con) ?_
  refine RegL.nil ?_
  refine Ct.then_tr ?_
  refine Tr.weak (Γ' := [(1, (pEq (.int .i64 x1))), (2, (pPtr (cGMask m_0))), (5, (pEq (.int .i64 (1 : Int))))]) ⟨rfl, rfl, rfl, trivial⟩ ?_
  refine Tr.seq ?_
  replace h := bind_some h; obtain ⟨x2, hx2, h⟩ := h
  refine Tr.cut (γ := Unit) (Γm := fun g => [(1, (pEq (.int .i64 x1))), (2, (pPtr (cGMask m_0))), (5, (pEq (.int .i64 x2)))]) (Ωm := fun g => []) ?_ (fun g10 => ?_)
  · clear h
    have h := hx2
    clear hx2
    refine Tr.block ?_
    refine Tr.weak (Γ' := [(1, (pEq (.int .i64 x1))), (2, (pPtr (cGMask m_0))), (5, (pEq (.int .i64 (1 : Int))))]) ⟨rfl, rfl, rfl, trivial⟩ ?_
    refine Tr.loop (γ := Unit) (σ := Int) (Γσ := fun s g => [(1, (pEq (.int .i64 x1))), (2, (pPtr (cGMask m_0))), (5, (pEq (.int .i64 s)))]) (Ωσ := fun s g => []) (g := ()) h ?_
    clear h
    rintro v4 g5 t h
    replace h : m_impl_Mask_loss_B3 m_0 x1 v4 = some t := h
    unfold m_impl_Mask_loss_B3 at h
    refine Tr.weakO (Γ' := [(1, (pEq (.int .i64 x1))), (2, (pPtr (cGMask m_0))), (5, (pEq (.int .i64 v4)))]) (Ω' := []) rfl ⟨rfl, rfl, rfl, trivial⟩ ?_
    refine Tr.seq ?_
    refine Tr.seq ?_
    replace h := bind_some h; obtain ⟨x6, hx6, h⟩ := h
    refine Tr.cut (γ := Unit) (Γm := fun g => [(1, (pEq (.int .i64 x1))), (2, (pPtr (cGMask m_0))), (5, (pEq (.int .i64 v4))), (22, (pEq (.bool x6)))]) (Ωm := fun g => []) ?_ (fun g9 => ?_)
    · clear h
      have h := hx6
      clear hx6
      refine Tr.region ?_
      refine RegL.pure (p := (pEq (.int .i64 v4))) rfl rfl rfl (J_move rfl (Opd.tmp rfl)) ?_
      refine RegL.pure (p := (pPtr ((cSl 1 (cK .i64)) m_0.Offsets))) rfl rfl rfl (J_fieldAddr rfl Tryd.underlying39 rfl sz22 (by decide) (Opd.tmp rfl) rfl) ?_
      refine RegL.pure (p := (pSl 1 (cK .i64) m_0.Offsets)) rfl rfl rfl (J_load rfl Tryd.isAgg22 (Opd.tmp rfl)) ?_
      refine RegL.pure (p := (pEq (.int .i64 (m_0.Offsets.length : Int)))) rfl rfl rfl (J_len rfl Tryd.underlying22 (Opd.tmp rfl) rfl) ?_
      refine RegL.pure (p := (pEq (.int .i64 (w64 ((m_0.Offsets.length : Int) - (1 : Int)))))) rfl rfl rfl (J_bin rfl (Opd.tmp rfl) Opd.con B_sub) ?_
      refine RegL.pure (p := (pEq (.bool (decide (v4 < (w64 ((m_0.Offsets.length : Int) - (1 : Int)))))))) rfl rfl rfl (J_bin rfl (Opd.tmp rfl) (Opd.tmp rfl) B_lss) ?_
      refine RegL.pure (p := (pEq (.bool (decide (v4 < (w64 ((m_0.Offsets.length : Int) - (1 : Int)))))))) rfl rfl rfl (J_move rfl (Opd.tmp rfl)) ?_
      rcases Bool.eq_false_or_eq_true (decide (v4 < (w64 ((m_0.Offsets.length : Int) - (1 : Int))))) with hc7 | hc7
      · replace h := bif_t hc7 h
        refine RegL.pureG (p := (pPtr ((cSl 1 (cK .i64)) m_0.Offsets))) rfl rfl rfl hc7 rfl rfl (J_fieldAddr rfl Tryd.underlying39 rfl sz22 (by decide) (Opd.tmp rfl) rfl) ?_
        refine RegL.pureG (p := (pSl 1 (cK .i64) m_0.Offsets)) rfl rfl rfl hc7 rfl rfl (J_load rfl Tryd.isAgg22 (Opd.tmp rfl)) ?_
        refine RegL.pureG (p := (pEq (.int .i64 v4))) rfl rfl rfl hc7 rfl rfl (J_move rfl (Opd.tmp rfl)) ?_
        replace h := bind_some h; obtain ⟨x8, hx8, h⟩ := h
        refine RegL.pureG (p := (pPtr ((cK .i64) x8))) rfl rfl rfl hc7 rfl rfl (J_idx rfl Tryd.underlying22 sz2 (Opd.tmp rfl) (Opd.tmp rfl) hx8) ?_
        refine RegL.pureG (p := (pEq (.int .i64 x8))) rfl rfl rfl hc7 rfl rfl (J_load rfl Tryd.isAgg2 (Opd.tmp rfl)) ?_
        refine RegL.pureG (p := (pEq (.int .i64 x1))) rfl rfl rfl hc7 rfl rfl (J_move rfl (Opd.tmp rfl)) ?_
        refine RegL.pureG (p := (pEq (.bool (decide (x8 < x1))))) rfl rfl rfl hc7 rfl rfl (J_bin rfl (Opd.tmp rfl) (Opd.tmp rfl) B_lss) ?_
        refine RegL.pure (p := (pEq (.bool (decide (x8 < x1))))) rfl rfl rfl (J_pick rfl (Opd.tmp rfl) (fun _ => (Opd.tmp rfl)) (fun hf => absurd (hc7.symm.trans hf) (by decide))) ?_
        refine RegL.nil ?_
        replace h := Option.some.inj h; subst h
        exact Ct.mid () rfl ⟨rfl, rfl, rfl, rfl, trivial⟩
      · replace h := bif_f hc7 h
        refine RegL.skipG rfl rfl rfl hc7 rfl rfl ?_
        refine RegL.skipG rfl rfl rfl hc7 rfl rfl ?_
        refine RegL.skipG rfl rfl rfl hc7 rfl rfl ?_
        refine RegL.skipG rfl rfl rfl hc7 rfl rfl ?_
        refine RegL.skipG rfl rfl rfl hc7 rfl rfl ?_
        refine RegL.skipG rfl rfl rfl hc7 rfl rfl ?_
        refine RegL.skipG rfl rfl rfl hc7 rfl rfl ?_
        refine RegL.pure (p := (pEq (.bool false))) rfl rfl rfl (J_pick rfl (Opd.tmp rfl) (fun hf => absurd (hc7.symm.trans hf) (by decide)) (fun _ => Opd.con)) ?_
        refine RegL.nil ?_
        replace h := Option.some.inj h; subst h
        exact Ct.mid () rfl ⟨rfl, rfl, rfl, rfl, trivial⟩
    · clear hx6
      refine Ct.then_tr ?_
      refine Tr.weak (Γ' := [(1, (pEq (.int .i64 x1))), (2, (pPtr (cGMask m_0))), (5, (pEq (.int .i64 v4))), (22, (pEq (.bool x6)))]) ⟨rfl, rfl, rfl, rfl, trivial⟩ ?_
      refine Tr.cond (Opd.tmp rfl) (fun hc => ?_) (fun hc => ?_)
      · replace h := bif_t hc h
        refine Tr.skip ?_
        refine Ct.then_tr ?_
        refine Tr.weak (Γ' := [(1, (pEq (.int .i64 x1))), (2, (pPtr (cGMask m_0))), (5, (pEq (.int .i64 v4)))]) ⟨rfl, rfl, rfl, trivial⟩ ?_
        refine Tr.block ?_
        refine Tr.region ?_
        refine RegL.pure (p := (pEq (.int .i64 v4))) rfl rfl rfl (J_move rfl (Opd.tmp rfl)) ?_
        refine RegL.pure (p := (pEq (.int .i64 (w64 (v4 + (1 : Int)))))) rfl rfl rfl (J_bin rfl (Opd.tmp rfl) Opd.con B_add) ?_
        refine RegL.pure (p := (pEq (.int .i64 (w64 (v4 + (1 : Int)))))) rfl rfl rfl (J_assign rfl (Opd.tmp rfl)) ?_
        refine RegL.nil ?_
        refine Ct.blk_normal ?_
        replace h := Option.some.inj h; subst h
        exact Ct.again () rfl ⟨rfl, rfl, rfl, trivial⟩
      · replace h := bif_f hc h
        refine Tr.exit ?_
        refine Ct.then_exit ?_
        replace h := map_some h; obtain ⟨r1, h, rfl⟩ := h
        refine Ct.out_exit fun e => ?_
        subst e
        refine Ct.blk_exit ?_
        replace h := Option.some.inj h; subst h
        exact Ct.mid () rfl ⟨rfl, rfl, rfl, trivial⟩
  · clear hx2
    refine Ct.then_tr ?_
    refine Tr.weak (Γ' := [(1, (pEq (.int .i64 x1))), (2, (pPtr (cGMask m_0))), (5, (pEq (.int .i64 x2)))]) ⟨rfl, rfl, rfl, trivial⟩ ?_
    refine Tr.seq ?_
    replace h := bind_some h; obtain ⟨x11, hx11, h⟩ := h
    replace h := bind_some h; obtain ⟨x12, hx12, h⟩ := h
    replace h := bind_some h; obtain ⟨x13, hx13, h⟩ := h
    replace h := bind_some h; obtain ⟨x14, hx14, h⟩ := h
    replace h := bind_some h; obtain ⟨x15, hx15, h⟩ := h
    refine Tr.drawD (n := 49) (m := 24) (es := [some (Ent.mk [(2, (pPtr (cGMask m_0)))] (pPtr ((cSl 1 (cK .i64)) m_0.Offsets)) true), some (Ent.mk [(25, (pPtr ((cSl 1 (cK .i64)) m_0.Offsets)))] (pSl 1 (cK .i64) m_0.Offsets) true), some (Ent.mk [(5, (pEq (.int .i64 x2)))] (pEq (.int .i64 x2)) true), some (Ent.mk [(27, (pEq (.int .i64 x2)))] (pEq (.int .i64 (w64 (x2 - (1 : Int))))) true), some (Ent.mk [(26, (pSl 1 (cK .i64) m_0.Offsets)), (28, (pEq (.int .i64 (w64 (x2 - (1 : Int))))))] (pPtr ((cK .i64) x11)) true), some (Ent.mk [(29, (pPtr ((cK .i64) x11)))] (pEq (.int .i64 x11)) true), some (Ent.mk [(2, (pPtr (cGMask m_0)))] (pPtr ((cSl 1 (cK .i64)) m_0.Losses)) true), some (Ent.mk [(31, (pPtr ((cSl 1 (cK .i64)) m_0.Losses)))] (pSl 1 (cK .i64) m_0.Losses) true), some (Ent.mk [(5, (pEq (.int .i64 x2)))] (pEq (.int .i64 x2)) true), some (Ent.mk [(33, (pEq (.int .i64 x2)))] (pEq (.int .i64 (w64 (x2 - (1 : Int))))) true), some (Ent.mk [(32, (pSl 1 (cK .i64) m_0.Losses)), (34, (pEq (.int .i64 (w64 (x2 - (1 : Int))))))] (pPtr ((cK .i64) x12)) true), some (Ent.mk [(35, (pPtr ((cK .i64) x12)))] (pEq (.int .i64 x12)) true), some (Ent.mk [(2, (pPtr (cGMask m_0)))] (pPtr ((cSl 1 (cK .i64)) m_0.Offsets)) true), some (Ent.mk [(37, (pPtr ((cSl 1 (cK .i64)) m_0.Offsets)))] (pSl 1 (cK .i64) m_0.Offsets) true), some (Ent.mk [(5, (pEq (.int .i64 x2)))] (pEq (.int .i64 x2)) true), some (Ent.mk [(38, (pSl 1 (cK .i64) m_0.Offsets)), (39, (pEq (.int .i64 x2)))] (pPtr ((cK .i64) x13)) true), some (Ent.mk [(40, (pPtr ((cK .i64) x13)))] (pEq (.int .i64 x13)) true), some (Ent.mk [(2, (pPtr (cGMask m_0)))] (pPtr ((cSl 1 (cK .i64)) m_0.Losses)) true), some (Ent.mk [(42, (pPtr ((cSl 1 (cK .i64)) m_0.Losses)))] (pSl 1 (cK .i64) m_0.Losses) true), some (Ent.mk [(5, (pEq (.int .i64 x2)))] (pEq (.int .i64 x2)) true), some (Ent.mk [(43, (pSl 1 (cK .i64) m_0.Losses)), (44, (pEq (.int .i64 x2)))] (pPtr ((cK .i64) x14)) true), some (Ent.mk [(45, (pPtr ((cK .i64) x14)))] (pEq (.int .i64 x14)) true), some (Ent.mk [(1, (pEq (.int .i64 x1)))] (pEq (.int .i64 x1)) true), some (Ent.mk [(30, (pEq (.int .i64 x11))), (36, (pEq (.int .i64 x12))), (41, (pEq (.int .i64 x13))), (46, (pEq (.int .i64 x14))), (47, (pEq (.int .i64 x1)))] (pEq (.int .i64 x15)) true)]) (rd := [[2], [25], [5], [27], [26, 28], [29], [2], [31], [5], [33], [32, 34], [35], [2], [37], [5], [38, 39], [40], [2], [42], [5], [43, 44], [45], [1], [30, 36, 41, 46, 47]]) rfl hmix (by kernel_rfl) fun hD => ?_
    refine RD.fin (es := [Ent.mk [(2, (pPtr (cGMask m_0)))] (pPtr ((cSl 1 (cK .i64)) m_0.Offsets)) true, Ent.mk [(25, (pPtr ((cSl 1 (cK .i64)) m_0.Offsets)))] (pSl 1 (cK .i64) m_0.Offsets) true, Ent.mk [(5, (pEq (.int .i64 x2)))] (pEq (.int .i64 x2)) true, Ent.mk [(27, (pEq (.int .i64 x2)))] (pEq (.int .i64 (w64 (x2 - (1 : Int))))) true, Ent.mk [(26, (pSl 1 (cK .i64) m_0.Offsets)), (28, (pEq (.int .i64 (w64 (x2 - (1 : Int))))))] (pPtr ((cK .i64) x11)) true, Ent.mk [(29, (pPtr ((cK .i64) x11)))] (pEq (.int .i64 x11)) true, Ent.mk [(2, (pPtr (cGMask m_0)))] (pPtr ((cSl 1 (cK .i64)) m_0.Losses)) true, Ent.mk [(31, (pPtr ((cSl 1 (cK .i64)) m_0.Losses)))] (pSl 1 (cK .i64) m_0.Losses) true, Ent.mk [(5, (pEq (.int .i64 x2)))] (pEq (.int .i64 x2)) true, Ent.mk [(33, (pEq (.int .i64 x2)))] (pEq (.int .i64 (w64 (x2 - (1 : Int))))) true, Ent.mk [(32, (pSl 1 (cK .i64) m_0.Losses)), (34, (pEq (.int .i64 (w64 (x2 - (1 : Int))))))] (pPtr ((cK .i64) x12)) true, Ent.mk [(35, (pPtr ((cK .i64) x12)))] (pEq (.int .i64 x12)) true, Ent.mk [(2, (pPtr (cGMask m_0)))] (pPtr ((cSl 1 (cK .i64)) m_0.Offsets)) true, Ent.mk [(37, (pPtr ((cSl 1 (cK .i64)) m_0.Offsets)))] (pSl 1 (cK .i64) m_0.Offsets) true, Ent.mk [(5, (pEq (.int .i64 x2)))] (pEq (.int .i64 x2)) true, Ent.mk [(38, (pSl 1 (cK .i64) m_0.Offsets)), (39, (pEq (.int .i64 x2)))] (pPtr ((cK .i64) x13)) true, Ent.mk [(40, (pPtr ((cK .i64) x13)))] (pEq (.int .i64 x13)) true, Ent.mk [(2, (pPtr (cGMask m_0)))] (pPtr ((cSl 1 (cK .i64)) m_0.Losses)) true, Ent.mk [(42, (pPtr ((cSl 1 (cK .i64)) m_0.Losses)))] (pSl 1 (cK .i64) m_0.Losses) true, Ent.mk [(5, (pEq (.int .i64 x2)))] (pEq (.int .i64 x2)) true, Ent.mk [(43, (pSl 1 (cK .i64) m_0.Losses)), (44, (pEq (.int .i64 x2)))] (pPtr ((cK .i64) x14)) true, Ent.mk [(45, (pPtr ((cK .i64) x14)))] (pEq (.int .i64 x14)) true, Ent.mk [(1, (pEq (.int .i64 x1)))] (pEq (.int .i64 x1)) true, Ent.mk [(30, (pEq (.int .i64 x11))), (36, (pEq (.int .i64 x12))), (41, (pEq (.int .i64 x13))), (46, (pEq (.int .i64 x14))), (47, (pEq (.int .i64 x1)))] (pEq (.int .i64 x15)) true]) (done := []) hD ⟨.inr ⟨(OpJ.w (J_fieldAddr rfl Tryd.underlying39 rfl sz22 (by decide) (Opd.tmp rfl) rfl)), ⟨rfl, trivial⟩, rfl, rfl⟩, ⟨.inr ⟨(OpJ.w (J_load rfl Tryd.isAgg22 (Opd.tmp rfl))), ⟨rfl, trivial⟩, rfl, rfl⟩, ⟨.inr ⟨(OpJ.w (J_move rfl (Opd.tmp rfl))), ⟨rfl, trivial⟩, rfl, rfl⟩, ⟨.inr ⟨(OpJ.w (J_bin rfl (Opd.tmp rfl) Opd.con B_sub)), ⟨rfl, trivial⟩, rfl, rfl⟩, ⟨.inr ⟨(OpJ.w (J_idx rfl Tryd.underlying22 sz2 (Opd.tmp rfl) (Opd.tmp rfl) hx11)), ⟨rfl, rfl, trivial⟩, rfl, rfl⟩, ⟨.inr ⟨(OpJ.w (J_load rfl Tryd.isAgg2 (Opd.tmp rfl))), ⟨rfl, trivial⟩, rfl, rfl⟩, ⟨.inr ⟨(OpJ.w (J_fieldAddr rfl Tryd.underlying39 rfl sz22 (by decide) (Opd.tmp rfl) rfl)), ⟨rfl, trivial⟩, rfl, rfl⟩, ⟨.inr ⟨(OpJ.w (J_load rfl Tryd.isAgg22 (Opd.tmp rfl))), ⟨rfl, trivial⟩, rfl, rfl⟩, ⟨.inr ⟨(OpJ.w (J_move rfl (Opd.tmp rfl))), ⟨rfl, trivial⟩, rfl, rfl⟩, ⟨.inr ⟨(OpJ.w (J_bin rfl (Opd.tmp rfl) Opd.con B_sub)), ⟨rfl, trivial⟩, rfl, rfl⟩, ⟨.inr ⟨(OpJ.w (J_idx rfl Tryd.underlying22 sz2 (Opd.tmp rfl) (Opd.tmp rfl) hx12)), ⟨rfl, rfl, trivial⟩, rfl, rfl⟩, ⟨.inr ⟨(OpJ.w (J_load rfl Tryd.isAgg2 (Opd.tmp rfl))), ⟨rfl, trivial⟩, rfl, rfl⟩, ⟨.inr ⟨(OpJ.w (J_fieldAddr rfl Tryd.underlying39 rfl sz22 (by decide) (Opd.tmp rfl) rfl)), ⟨rfl, trivial⟩, rfl, rfl⟩, ⟨.inr ⟨(OpJ.w (J_load rfl Tryd.isAgg22 (Opd.tmp rfl))), ⟨rfl, trivial⟩, rfl, rfl⟩, ⟨.inr ⟨(OpJ.w (J_move rfl (Opd.tmp rfl))), ⟨rfl, trivial⟩, rfl, rfl⟩, ⟨.inr ⟨(OpJ.w (J_idx rfl Tryd.underlying22 sz2 (Opd.tmp rfl) (Opd.tmp rfl) hx13)), ⟨rfl, rfl, trivial⟩, rfl, rfl⟩, ⟨.inr ⟨(OpJ.w (J_load rfl Tryd.isAgg2 (Opd.tmp rfl))), ⟨rfl, trivial⟩, rfl, rfl⟩, ⟨.inr ⟨(OpJ.w (J_fieldAddr rfl Tryd.underlying39 rfl sz22 (by decide) (Opd.tmp rfl) rfl)), ⟨rfl, trivial⟩, rfl, rfl⟩, ⟨.inr ⟨(OpJ.w (J_load rfl Tryd.isAgg22 (Opd.tmp rfl))), ⟨rfl, trivial⟩, rfl, rfl⟩, ⟨.inr ⟨(OpJ.w (J_move rfl (Opd.tmp rfl))), ⟨rfl, trivial⟩, rfl, rfl⟩, ⟨.inr ⟨(OpJ.w (J_idx rfl Tryd.underlying22 sz2 (Opd.tmp rfl) (Opd.tmp rfl) hx14)), ⟨rfl, rfl, trivial⟩, rfl, rfl⟩, ⟨.inr ⟨(OpJ.w (J_load rfl Tryd.isAgg2 (Opd.tmp rfl))), ⟨rfl, trivial⟩, rfl, rfl⟩, ⟨.inr ⟨(OpJ.w (J_move rfl (Opd.tmp rfl))), ⟨rfl, trivial⟩, rfl, rfl⟩, ⟨.inr ⟨(OpJ.w (J_call rfl Tryd.call110 (c_impl_blend hx15) (Opds.cons (Opd.tmp rfl) (Opds.cons (Opd.tmp rfl) (Opds.cons (Opd.tmp rfl) (Opds.cons (Opd.tmp rfl) (Opds.cons (Opd.tmp rfl) Opds.nil))))))), ⟨rfl, rfl, rfl, rfl, rfl, trivial⟩, rfl, rfl⟩, trivial⟩⟩⟩⟩⟩⟩⟩⟩⟩⟩⟩⟩⟩⟩⟩⟩⟩⟩⟩⟩⟩⟩⟩⟩ ?_
    refine RegL.pure (p := (pEq (.int .i64 x15))) rfl rfl rfl (J_assign rfl (Opd.tmp rfl)) ?_
    refine RegL.nil ?_
    refine Ct.then_tr ?_
    refine Tr.weak (Γ' := [(4, (pEq (.int .i64 x15)))]) ⟨rfl, trivial⟩ ?_
    refine Tr.ret ?_
    replace h := Option.some.inj h; subst h
    exact Ct.retH1 (Ωx := []) () rfl (RvOk.tmp rfl) rfl

theorem c_strconv_FormatInt {n_0 b_1 : Int} {r : ByteArray} (h : m_strconv_FormatInt n_0 b_1 = some r) : CallJ Tryd.prog 98 [(pG (pTab 1 .u64 Lib.pow10Tab) (pEq (.int .i64 n_0))), (pEq (.int .i64 b_1))] (pEq (.string r)) :=
  fmt_contract (Go.Proofs.Any.strconv_FormatInt_10 lays98) (by kernel_rfl) h

theorem c_impl_Decimal {n_0 : Int} {r : ByteArray} (h : m_impl_Decimal n_0 = some r) : CallJ Tryd.prog 62 [(pG (pTab 1 .u64 Lib.pow10Tab) (pEq (.int .i64 n_0)))] (pEq (.string r)) := by
  unfold m_impl_Decimal at h
  refine CallJ.enterH Tryd.func62 rfl Tryd.ntmps62 rfl fun W I0 H => ?_
  refine Tr.tab (s := 0) (k := 99999) rfl ?_; refine Tr.weak (Γ' := [(0, (pEq (.int .i64 n_0))), (99999, (pTab 1 .u64 Lib.pow10Tab))]) ⟨rfl, rfl, trivial⟩ ?_
  refine Tr.seq ?_
  refine Tr.region ?_
  refine RegL.pure (p := (pEq (.string (ByteArray.mk #[])))) rfl rfl rfl (J_assign rfl Opd.con) ?_
  refine RegL.nil ?_
  refine Ct.then_tr ?_
  refine Tr.weak (Γ' := [(0, (pEq (.int .i64 n_0))), (99999, (pTab 1 .u64 Lib.pow10Tab))]) ⟨rfl, rfl, trivial⟩ ?_
  refine Tr.seq ?_
  refine Tr.region ?_
  refine RegL.pure (p := (pEq (.int .i64 n_0))) rfl rfl rfl (J_move rfl (Opd.tmp rfl)) ?_
  replace h := bind_some h; obtain ⟨x1, hx1, h⟩ := h
  refine RegL.pure (p := (pEq (.string x1))) rfl rfl rfl (J_call rfl Tryd.call98 (c_strconv_FormatInt hx1) (Opds.cons (Opd.tab (Opd.tmp rfl) 99999 rfl) (Opds.cons Opd.con Opds.nil))) ?_
  refine RegL.pure (p := (pEq (.string x1))) rfl rfl rfl (J_assign rfl (Opd.tmp rfl)) ?_
  refine RegL.nil ?_
  refine Ct.then_tr ?_
  refine Tr.weak (Γ' := [(2, (pEq (.string x1))), (99999, (pTab 1 .u64 Lib.pow10Tab))]) ⟨rfl, rfl, trivial⟩ ?_
  refine Tr.ret ?_
  replace h := Option.some.inj h; subst h
  exact Ct.retH1 (Ωx := []) () rfl (RvOk.tmp rfl) rfl

theorem c_impl_scaled_times {x_0 : GScaled} {y_1 : GScaled} {r : GScaled} (h : m_impl_scaled_times x_0 y_1 = some r) : CallJ Tryd.prog 112 [(pAgg (cGScaled x_0)), (pAgg (cGScaled y_1))] (pAgg (cGScaled r)) := by
  unfold m_impl_scaled_times at h
  refine CallJ.enterH Tryd.func112 rfl Tryd.ntmps112 rfl fun W I0 H => ?_
  refine Tr.weak (Γ' := [(0, (pAgg (cGScaled x_0))), (1, (pAgg (cGScaled y_1)))]) ⟨rfl, rfl, trivial⟩ ?_
  refine Tr.seq ?_
  refine Tr.region ?_
  refine RegL.pure (p := (pPtr (cGScaled x_0))) rfl rfl rfl (J_boxA rfl (Opd.tmp rfl)) ?_
  refine RegL.pure (p := (pPtr (cGScaled y_1))) rfl rfl rfl (J_boxA rfl (Opd.tmp rfl)) ?_
  refine RegL.step (γ := Nat) (p := fun b => pEq (.pointer (some ⟨b, 0, none⟩))) (Ω' := fun b => [oBlk b [(pEq (.int .i64 (0 : Int))), (pEq (.int .i64 (0 : Int)))]]) rfl rfl rfl (M_alloc rfl zero114) fun b1 => ?_
  refine RegL.nil ?_
  refine Ct.then_tr ?_
  refine Tr.weak (Γ' := [(2, (pPtr (cGScaled x_0))), (3, (pPtr (cGScaled y_1))), (4, (pEq (.pointer (some ⟨b1, 0, none⟩))))]) ⟨rfl, rfl, rfl, trivial⟩ ?_
  refine Tr.seq ?_
  refine Tr.region ?_
  refine RegL.pure (p := (pPtr ((cK .i64) x_0.number))) rfl rfl rfl (J_fieldAddr rfl Tryd.underlying114 rfl sz2 (by decide) (Opd.tmp rfl) rfl) ?_
  refine RegL.pure (p := (pEq (.int .i64 x_0.number))) rfl rfl rfl (J_load rfl Tryd.isAgg2 (Opd.tmp rfl)) ?_
  refine RegL.pure (p := (pPtr ((cK .i64) y_1.number))) rfl rfl rfl (J_fieldAddr rfl Tryd.underlying114 rfl sz2 (by decide) (Opd.tmp rfl) rfl) ?_
  refine RegL.pure (p := (pEq (.int .i64 y_1.number))) rfl rfl rfl (J_load rfl Tryd.isAgg2 (Opd.tmp rfl)) ?_
  refine RegL.pure (p := (pEq (.int .i64 (w64 (x_0.number * y_1.number))))) rfl rfl rfl (J_bin rfl (Opd.tmp rfl) (Opd.tmp rfl) B_mul) ?_
  refine RegL.pure (p := (pEq (.int .i64 (w64 ((w64 (x_0.number * y_1.number)).tdiv (100000000 : Int)))))) rfl rfl rfl (J_bin rfl (Opd.tmp rfl) Opd.con (B_quo (n := (100000000 : Int)) (by decide))) ?_
  refine RegL.pure (p := (pPtr ((cK .i64) x_0.exponent))) rfl rfl rfl (J_fieldAddr rfl Tryd.underlying114 rfl sz2 (by decide) (Opd.tmp rfl) rfl) ?_
  refine RegL.pure (p := (pEq (.int .i64 x_0.exponent))) rfl rfl rfl (J_load rfl Tryd.isAgg2 (Opd.tmp rfl)) ?_
  refine RegL.pure (p := (pPtr ((cK .i64) y_1.exponent))) rfl rfl rfl (J_fieldAddr rfl Tryd.underlying114 rfl sz2 (by decide) (Opd.tmp rfl) rfl) ?_
  refine RegL.pure (p := (pEq (.int .i64 y_1.exponent))) rfl rfl rfl (J_load rfl Tryd.isAgg2 (Opd.tmp rfl)) ?_
  refine RegL.pure (p := (pEq (.int .i64 (w64 (x_0.exponent + y_1.exponent))))) rfl rfl rfl (J_bin rfl (Opd.tmp rfl) (Opd.tmp rfl) B_add) ?_
  refine RegL.pure (p := (pAgg (cGScaled (GScaled.mk (w64 ((w64 (x_0.number * y_1.number)).tdiv (100000000 : Int))) (w64 (x_0.exponent + y_1.exponent)))))) rfl rfl rfl (J_build (qss := [(0, (cK .i64) (w64 ((w64 (x_0.number * y_1.number)).tdiv (100000000 : Int)))), (1, (cK .i64) (w64 (x_0.exponent + y_1.exponent)))]) rfl bl114 bz114o (Parts.cons (Part.one (Opd.tmp rfl) OneC.int) (Parts.cons (Part.one (Opd.tmp rfl) OneC.int) Parts.nil)) rfl) ?_
  refine RegL.step (γ := Nat) (p := fun b => pEq (.pointer (some ⟨b, 0, none⟩))) (Ω' := fun b => [oBlk b [(pEq (.int .i64 (0 : Int))), (pEq (.int .i64 (0 : Int)))], oBlk b1 [(pEq (.int .i64 (0 : Int))), (pEq (.int .i64 (0 : Int)))]]) rfl rfl rfl (M_alloc rfl zero114) fun b2 => ?_
  refine RegL.stepN (γ := Unit) (p := fun _ => pAny) (Ω' := fun _ => [oBlk b2 [(pEq (.int .i64 (GScaled.mk (w64 ((w64 (x_0.number * y_1.number)).tdiv (100000000 : Int))) (w64 (x_0.exponent + y_1.exponent))).number)), (pEq (.int .i64 (GScaled.mk (w64 ((w64 (x_0.number * y_1.number)).tdiv (100000000 : Int))) (w64 (x_0.exponent + y_1.exponent))).exponent))], oBlk b1 [(pEq (.int .i64 (0 : Int))), (pEq (.int .i64 (0 : Int)))]]) rfl rfl (M_storeA rfl sz114 (Opd.tmp rfl) (Opd.tmp rfl) (fun _ _ _ h => ones_of ((OneCs.cons OneC.int (OneCs.cons OneC.int OneCs.nil))) h) rfl rfl) fun g3 => ?_
  refine RegL.nil ?_
  refine Ct.then_tr ?_
  refine Tr.weak (Γ' := [(4, (pEq (.pointer (some ⟨b1, 0, none⟩)))), (5, (pEq (.pointer (some ⟨b2, 0, none⟩))))]) ⟨rfl, rfl, trivial⟩ ?_
  refine Tr.seq ?_
  refine Tr.seq ?_
  refine Tr.region ?_
  refine RegL.pure (p := (pEq (.pointer (some ⟨b2, 0, none⟩)))) rfl rfl rfl (J_fieldAddrE rfl Tryd.underlying114 rfl sz2 (by decide) (Opd.tmp rfl) rfl) ?_
  refine RegL.pureW (p := (pEq (.int .i64 (GScaled.mk (w64 ((w64 (x_0.number * y_1.number)).tdiv (100000000 : Int))) (w64 (x_0.exponent + y_1.exponent))).number))) rfl rfl rfl (W_load (i := 0) rfl Tryd.isAgg2 (Opd.tmp rfl) rfl rfl) ?_
  refine RegL.pure (p := (pEq (.bool (decide ((1000000000 : Int) ≤ (GScaled.mk (w64 ((w64 (x_0.number * y_1.number)).tdiv (100000000 : Int))) (w64 (x_0.exponent + y_1.exponent))).number))))) rfl rfl rfl (J_bin rfl (Opd.tmp rfl) Opd.con B_geq) ?_
  refine RegL.nil ?_
  refine Ct.then_tr ?_
  refine Tr.weak (Γ' := [(4, (pEq (.pointer (some ⟨b1, 0, none⟩)))), (5, (pEq (.pointer (some ⟨b2, 0, none⟩)))), (20, (pEq (.bool (decide ((1000000000 : Int) ≤ (GScaled.mk (w64 ((w64 (x_0.number * y_1.number)).tdiv (100000000 : Int))) (w64 (x_0.exponent + y_1.exponent))).number)))))]) ⟨rfl, rfl, rfl, trivial⟩ ?_
  replace h := bind_some h; obtain ⟨x4, hx4, h⟩ := h
  refine Tr.cut (γ := Unit) (Γm := fun g => [(4, (pEq (.pointer (some ⟨b1, 0, none⟩)))), (5, (pEq (.pointer (some ⟨b2, 0, none⟩))))]) (Ωm := fun g => [oBlk b2 [(pEq (.int .i64 x4.1)), (pEq (.int .i64 x4.2))], oBlk b1 [(pEq (.int .i64 (0 : Int))), (pEq (.int .i64 (0 : Int)))]]) ?_ (fun g7 => ?_)
  · clear h
    have h := hx4
    clear hx4
    refine Tr.cond (Opd.tmp rfl) (fun hc => ?_) (fun hc => ?_)
    · replace h := bif_t hc h
      refine Tr.seq ?_
      refine Tr.region ?_
      refine RegL.pure (p := (pEq (.pointer (some ⟨b2, 0, none⟩)))) rfl rfl rfl (J_fieldAddrE rfl Tryd.underlying114 rfl sz2 (by decide) (Opd.tmp rfl) rfl) ?_
      refine RegL.pureW (p := (pEq (.int .i64 (GScaled.mk (w64 ((w64 (x_0.number * y_1.number)).tdiv (100000000 : Int))) (w64 (x_0.exponent + y_1.exponent))).number))) rfl rfl rfl (W_load (i := 0) rfl Tryd.isAgg2 (Opd.tmp rfl) rfl rfl) ?_
      refine RegL.pure (p := (pEq (.int .i64 (w64 ((GScaled.mk (w64 ((w64 (x_0.number * y_1.number)).tdiv (100000000 : Int))) (w64 (x_0.exponent + y_1.exponent))).number.tdiv (10 : Int)))))) rfl rfl rfl (J_bin rfl (Opd.tmp rfl) Opd.con (B_quo (n := (10 : Int)) (by decide))) ?_
      refine RegL.pure (p := (pEq (.pointer (some ⟨b2, 0, none⟩)))) rfl rfl rfl (J_fieldAddrE rfl Tryd.underlying114 rfl sz2 (by decide) (Opd.tmp rfl) rfl) ?_
      refine RegL.stepN (γ := Unit) (p := fun _ => pAny) (Ω' := fun _ => [oBlk b2 [(pEq (.int .i64 (w64 ((GScaled.mk (w64 ((w64 (x_0.number * y_1.number)).tdiv (100000000 : Int))) (w64 (x_0.exponent + y_1.exponent))).number.tdiv (10 : Int))))), (pEq (.int .i64 (GScaled.mk (w64 ((w64 (x_0.number * y_1.number)).tdiv (100000000 : Int))) (w64 (x_0.exponent + y_1.exponent))).exponent))], oBlk b1 [(pEq (.int .i64 (0 : Int))), (pEq (.int .i64 (0 : Int)))]]) rfl rfl (M_store rfl sz2 (Opd.tmp rfl) (Opd.tmp rfl) OneC.int rfl rfl) fun g5 => ?_
      refine RegL.nil ?_
      refine Ct.then_tr ?_
      refine Tr.weak (Γ' := [(4, (pEq (.pointer (some ⟨b1, 0, none⟩)))), (5, (pEq (.pointer (some ⟨b2, 0, none⟩))))]) ⟨rfl, rfl, trivial⟩ ?_
      refine Tr.region ?_
      refine RegL.pure (p := (pEq (.pointer (some ⟨b2, 1, none⟩)))) rfl rfl rfl (J_fieldAddrE rfl Tryd.underlying114 rfl sz2 (by decide) (Opd.tmp rfl) rfl) ?_
      refine RegL.pureW (p := (pEq (.int .i64 (GScaled.mk (w64 ((w64 (x_0.number * y_1.number)).tdiv (100000000 : Int))) (w64 (x_0.exponent + y_1.exponent))).exponent))) rfl rfl rfl (W_load (i := 0) rfl Tryd.isAgg2 (Opd.tmp rfl) rfl rfl) ?_
      refine RegL.pure (p := (pEq (.int .i64 (w64 ((GScaled.mk (w64 ((w64 (x_0.number * y_1.number)).tdiv (100000000 : Int))) (w64 (x_0.exponent + y_1.exponent))).exponent + (1 : Int)))))) rfl rfl rfl (J_bin rfl (Opd.tmp rfl) Opd.con B_add) ?_
      refine RegL.pure (p := (pEq (.pointer (some ⟨b2, 1, none⟩)))) rfl rfl rfl (J_fieldAddrE rfl Tryd.underlying114 rfl sz2 (by decide) (Opd.tmp rfl) rfl) ?_
      refine RegL.stepN (γ := Unit) (p := fun _ => pAny) (Ω' := fun _ => [oBlk b2 [(pEq (.int .i64 (w64 ((GScaled.mk (w64 ((w64 (x_0.number * y_1.number)).tdiv (100000000 : Int))) (w64 (x_0.exponent + y_1.exponent))).number.tdiv (10 : Int))))), (pEq (.int .i64 (w64 ((GScaled.mk (w64 ((w64 (x_0.number * y_1.number)).tdiv (100000000 : Int))) (w64 (x_0.exponent + y_1.exponent))).exponent + (1 : Int)))))], oBlk b1 [(pEq (.int .i64 (0 : Int))), (pEq (.int .i64 (0 : Int)))]]) rfl rfl (M_store rfl sz2 (Opd.tmp rfl) (Opd.tmp rfl) OneC.int rfl rfl) fun g6 => ?_
      refine RegL.nil ?_
      replace h := Option.some.inj h; subst h
      exact Ct.mid () rfl ⟨rfl, rfl, trivial⟩
    · replace h := bif_f hc h
      refine Tr.skip ?_
      replace h := Option.some.inj h; subst h
      exact Ct.mid () rfl ⟨rfl, rfl, trivial⟩
  · clear hx4
    refine Ct.then_tr ?_
    refine Tr.weak (Γ' := [(4, (pEq (.pointer (some ⟨b1, 0, none⟩)))), (5, (pEq (.pointer (some ⟨b2, 0, none⟩))))]) ⟨rfl, rfl, trivial⟩ ?_
    refine Tr.seq ?_
    refine Tr.region ?_
    refine RegL.pureW (p := (pAgg (cGScaled (GScaled.mk x4.1 x4.2)))) rfl rfl rfl (W_loadA (i := 0) rfl Tryd.isAgg114 sz114 (Opd.tmp rfl) rfl rfl) ?_
    refine RegL.re (Ω2 := [oBlk b1 [(pEq (.int .i64 (0 : Int))), (pEq (.int .i64 (0 : Int)))], oBlk b2 [(pEq (.int .i64 x4.1)), (pEq (.int .i64 x4.2))]]) (fun h => SatO.pick 1 h) ?_
    refine RegL.stepN (γ := Unit) (p := fun _ => pAny) (Ω' := fun _ => [oBlk b1 [(pEq (.int .i64 (GScaled.mk x4.1 x4.2).number)), (pEq (.int .i64 (GScaled.mk x4.1 x4.2).exponent))], oBlk b2 [(pEq (.int .i64 x4.1)), (pEq (.int .i64 x4.2))]]) rfl rfl (M_storeA rfl sz114 (Opd.tmp rfl) (Opd.tmp rfl) (fun _ _ _ h => ones_of ((OneCs.cons OneC.int (OneCs.cons OneC.int OneCs.nil))) h) rfl rfl) fun g8 => ?_
    refine RegL.nil ?_
    refine Ct.then_tr ?_
    refine Tr.weak (Γ' := [(4, (pEq (.pointer (some ⟨b1, 0, none⟩))))]) ⟨rfl, trivial⟩ ?_
    refine Tr.ret ?_
    replace h := Option.some.inj h; subst h
    exact Ct.retH1 (Ωx := [oBlk b1 [(pEq (.int .i64 (GScaled.mk x4.1 x4.2).number)), (pEq (.int .i64 (GScaled.mk x4.1 x4.2).exponent))], oBlk b2 [(pEq (.int .i64 x4.1)), (pEq (.int .i64 x4.2))]]) () rfl (RvOk.cellA (i := 0) Tryd.isAgg114 sz114 rfl rfl rfl) rfl

theorem c_impl_LogDb {n_0 : Int} {r : Int} (h : m_impl_LogDb n_0 = some r) : CallJ Tryd.prog 89 [(pG (pTab 1 .u64 Lib.pow10Tab) (pEq (.int .i64 n_0)))] (pEq (.int .i64 r)) := by
  unfold m_impl_LogDb at h
  refine CallJ.enterH Tryd.func89 rfl Tryd.ntmps89 rfl fun W I0 H => ?_
  refine Tr.tab (s := 0) (k := 99999) rfl ?_; refine Tr.weak (Γ' := [(0, (pEq (.int .i64 n_0))), (99999, (pTab 1 .u64 Lib.pow10Tab))]) ⟨rfl, rfl, trivial⟩ ?_
  refine Tr.seq ?_
  refine Tr.region ?_
  refine RegL.pure (p := (pEq (.int .i64 (0 : Int)))) rfl rfl rfl (J_assign rfl Opd.con) ?_
  refine RegL.nil ?_
  refine Ct.then_tr ?_
  refine Tr.weak (Γ' := [(0, (pEq (.int .i64 n_0))), (99999, (pTab 1 .u64 Lib.pow10Tab))]) ⟨rfl, rfl, trivial⟩ ?_
  refine Tr.seq ?_
  refine Tr.seq ?_
  refine Tr.region ?_
  refine RegL.pure (p := (pEq (.int .i64 n_0))) rfl rfl rfl (J_move rfl (Opd.tmp rfl)) ?_
  refine RegL.pure (p := (pEq (.bool (decide (n_0 < (1 : Int)))))) rfl rfl rfl (J_bin rfl (Opd.tmp rfl) Opd.con B_lss) ?_
  refine RegL.nil ?_
  refine Ct.then_tr ?_
  refine Tr.weak (Γ' := [(0, (pEq (.int .i64 n_0))), (9, (pEq (.bool (decide (n_0 < (1 : Int)))))), (99999, (pTab 1 .u64 Lib.pow10Tab))]) ⟨rfl, rfl, rfl, trivial⟩ ?_
  refine Tr.cond (Opd.tmp rfl) (fun hc => ?_) (fun hc => ?_)
  · replace h := bif_t hc h
    refine Tr.seq ?_
    refine Tr.region ?_
    refine RegL.pure (p := (pEq (.int .i64 (0 : Int)))) rfl rfl rfl (J_assign rfl Opd.con) ?_
    refine RegL.nil ?_
    refine Ct.then_tr ?_
    refine Tr.weak (Γ' := [(2, (pEq (.int .i64 (0 : Int)))), (99999, (pTab 1 .u64 Lib.pow10Tab))]) ⟨rfl, rfl, trivial⟩ ?_
    refine Tr.ret ?_
    refine Ct.then_ret ?_
    replace h := Option.some.inj h; subst h
    exact Ct.retH1 (Ωx := []) () rfl (RvOk.tmp rfl) rfl
  · replace h := bif_f hc h
    refine Tr.skip ?_
    refine Ct.then_tr ?_
    refine Tr.weak (Γ' := [(0, (pEq (.int .i64 n_0))), (99999, (pTab 1 .u64 Lib.pow10Tab))]) ⟨rfl, rfl, trivial⟩ ?_
    refine Tr.seq ?_
    refine Tr.region ?_
    refine RegL.pure (p := (pEq (.int .i64 n_0))) rfl rfl rfl (J_move rfl (Opd.tmp rfl)) ?_
    replace h := bind_some h; obtain ⟨x1, hx1, h⟩ := h
    refine RegL.pure (p := (pEq (.string x1))) rfl rfl rfl (J_call rfl Tryd.call62 (c_impl_Decimal hx1) (Opds.cons (Opd.tab (Opd.tmp rfl) 99999 rfl) Opds.nil)) ?_
    refine RegL.pure (p := (pEq (.int .i64 (x1.size : Int)))) rfl rfl rfl (J_slen rfl Tryd.underlying9 (Opd.tmp rfl) rfl) ?_
    refine RegL.pure (p := (pEq (.int .i64 (w64 ((x1.size : Int) - (1 : Int)))))) rfl rfl rfl (J_bin rfl (Opd.tmp rfl) Opd.con B_sub) ?_
    refine RegL.pure (p := (pEq (.int .i64 (w64 ((x1.size : Int) - (1 : Int)))))) rfl rfl rfl (J_assign rfl (Opd.tmp rfl)) ?_
    refine RegL.nil ?_
    refine Ct.then_tr ?_
    refine Tr.weak (Γ' := [(0, (pEq (.int .i64 n_0))), (3, (pEq (.int .i64 (w64 ((x1.size : Int) - (1 : Int)))))), (99999, (pTab 1 .u64 Lib.pow10Tab))]) ⟨rfl, rfl, rfl, trivial⟩ ?_
    refine Tr.seq ?_
    refine Tr.region ?_
    refine RegL.pure (p := (pEq (.int .i64 n_0))) rfl rfl rfl (J_move rfl (Opd.tmp rfl)) ?_
    refine RegL.pure (p := (pEq (.int .i64 n_0))) rfl rfl rfl (J_assign rfl (Opd.tmp rfl)) ?_
    refine RegL.nil ?_
    refine Ct.then_tr ?_
    refine Tr.weak (Γ' := [(3, (pEq (.int .i64 (w64 ((x1.size : Int) - (1 : Int)))))), (4, (pEq (.int .i64 n_0))), (99999, (pTab 1 .u64 Lib.pow10Tab))]) ⟨rfl, rfl, rfl, trivial⟩ ?_
    refine Tr.seq ?_
    refine Tr.seq ?_
    refine Tr.region ?_
    refine RegL.pure (p := (pEq (.int .i64 (w64 ((x1.size : Int) - (1 : Int)))))) rfl rfl rfl (J_move rfl (Opd.tmp rfl)) ?_
    refine RegL.pure (p := (pEq (.int .i64 (w64 ((8 : Int) - (w64 ((x1.size : Int) - (1 : Int)))))))) rfl rfl rfl (J_bin rfl Opd.con (Opd.tmp rfl) B_sub) ?_
    refine RegL.pure (p := (pEq (.int .i64 (if (0 : Int) > (w64 ((8 : Int) - (w64 ((x1.size : Int) - (1 : Int))))) then (0 : Int) else (w64 ((8 : Int) - (w64 ((x1.size : Int) - (1 : Int))))))))) rfl rfl rfl (J_max2 rfl (Opd.tmp rfl) Opd.con) ?_
    refine RegL.pure (p := (pEq (.int .i64 (0 : Int)))) rfl rfl rfl (J_move rfl Opd.con) ?_
    refine RegL.nil ?_
    refine Ct.then_tr ?_
    refine Tr.weak (Γ' := [(3, (pEq (.int .i64 (w64 ((x1.size : Int) - (1 : Int)))))), (4, (pEq (.int .i64 n_0))), (17, (pEq (.int .i64 (if (0 : Int) > (w64 ((8 : Int) - (w64 ((x1.size : Int) - (1 : Int))))) then (0 : Int) else (w64 ((8 : Int) - (w64 ((x1.size : Int) - (1 : Int))))))))), (18, (pEq (.int .i64 (0 : Int)))), (99999, (pTab 1 .u64 Lib.pow10Tab))]) ⟨rfl, rfl, rfl, rfl, rfl, trivial⟩ ?_
    replace h := bind_some h; obtain ⟨x2, hx2, h⟩ := h
    refine Tr.cut (γ := Unit) (Γm := fun g => [(3, (pEq (.int .i64 (w64 ((x1.size : Int) - (1 : Int)))))), (4, (pEq (.int .i64 x2))), (99999, (pTab 1 .u64 Lib.pow10Tab))]) (Ωm := fun g => []) ?_ (fun g7 => ?_)
    · clear h
      have h := hx2
      clear hx2
      refine Tr.block ?_
      refine Tr.weak (Γ' := [(3, (pEq (.int .i64 (w64 ((x1.size : Int) - (1 : Int)))))), (4, (pEq (.int .i64 n_0))), (17, (pEq (.int .i64 (if (0 : Int) > (w64 ((8 : Int) - (w64 ((x1.size : Int) - (1 : Int))))) then (0 : Int) else (w64 ((8 : Int) - (w64 ((x1.size : Int) - (1 : Int))))))))), (18, (pEq (.int .i64 (0 : Int)))), (99999, (pTab 1 .u64 Lib.pow10Tab))]) ⟨rfl, rfl, rfl, rfl, rfl, trivial⟩ ?_
      refine Tr.loop (γ := Unit) (σ := (Int × Int)) (Γσ := fun s g => [(3, (pEq (.int .i64 (w64 ((x1.size : Int) - (1 : Int)))))), (4, (pEq (.int .i64 s.1))), (17, (pEq (.int .i64 (if (0 : Int) > (w64 ((8 : Int) - (w64 ((x1.size : Int) - (1 : Int))))) then (0 : Int) else (w64 ((8 : Int) - (w64 ((x1.size : Int) - (1 : Int))))))))), (18, (pEq (.int .i64 s.2))), (99999, (pTab 1 .u64 Lib.pow10Tab))]) (Ωσ := fun s g => []) (g := ()) h ?_
      clear h
      rintro ⟨v4, v5⟩ g6 t h
      replace h : m_impl_LogDb_B3 x1 v4 v5 = some t := h
      unfold m_impl_LogDb_B3 at h
      refine Tr.weakO (Γ' := [(3, (pEq (.int .i64 (w64 ((x1.size : Int) - (1 : Int)))))), (4, (pEq (.int .i64 v4))), (17, (pEq (.int .i64 (if (0 : Int) > (w64 ((8 : Int) - (w64 ((x1.size : Int) - (1 : Int))))) then (0 : Int) else (w64 ((8 : Int) - (w64 ((x1.size : Int) - (1 : Int))))))))), (18, (pEq (.int .i64 v5))), (99999, (pTab 1 .u64 Lib.pow10Tab))]) (Ω' := []) rfl ⟨rfl, rfl, rfl, rfl, rfl, trivial⟩ ?_
      refine Tr.seq ?_
      refine Tr.region ?_
      refine RegL.pure (p := (pEq (.bool (decide (v5 < (if (0 : Int) > (w64 ((8 : Int) - (w64 ((x1.size : Int) - (1 : Int))))) then (0 : Int) else (w64 ((8 : Int) - (w64 ((x1.size : Int) - (1 : Int))))))))))) rfl rfl rfl (J_bin rfl (Opd.tmp rfl) (Opd.tmp rfl) B_lss) ?_
      refine RegL.nil ?_
      refine Ct.then_tr ?_
      refine Tr.weak (Γ' := [(3, (pEq (.int .i64 (w64 ((x1.size : Int) - (1 : Int)))))), (4, (pEq (.int .i64 v4))), (17, (pEq (.int .i64 (if (0 : Int) > (w64 ((8 : Int) - (w64 ((x1.size : Int) - (1 : Int))))) then (0 : Int) else (w64 ((8 : Int) - (w64 ((x1.size : Int) - (1 : Int))))))))), (18, (pEq (.int .i64 v5))), (19, (pEq (.bool (decide (v5 < (if (0 : Int) > (w64 ((8 : Int) - (w64 ((x1.size : Int) - (1 : Int))))) then (0 : Int) else (w64 ((8 : Int) - (w64 ((x1.size : Int) - (1 : Int))))))))))), (99999, (pTab 1 .u64 Lib.pow10Tab))]) ⟨rfl, rfl, rfl, rfl, rfl, rfl, trivial⟩ ?_
      refine Tr.seq ?_
      refine Tr.cond (Opd.tmp rfl) (fun hc => ?_) (fun hc => ?_)
      · replace h := bif_t hc h
        refine Tr.skip ?_
        refine Ct.then_tr ?_
        refine Tr.weak (Γ' := [(3, (pEq (.int .i64 (w64 ((x1.size : Int) - (1 : Int)))))), (4, (pEq (.int .i64 v4))), (17, (pEq (.int .i64 (if (0 : Int) > (w64 ((8 : Int) - (w64 ((x1.size : Int) - (1 : Int))))) then (0 : Int) else (w64 ((8 : Int) - (w64 ((x1.size : Int) - (1 : Int))))))))), (18, (pEq (.int .i64 v5))), (99999, (pTab 1 .u64 Lib.pow10Tab))]) ⟨rfl, rfl, rfl, rfl, rfl, trivial⟩ ?_
        refine Tr.seq ?_
        refine Tr.block ?_
        refine Tr.region ?_
        refine RegL.pure (p := (pEq (.int .i64 v4))) rfl rfl rfl (J_move rfl (Opd.tmp rfl)) ?_
        refine RegL.pure (p := (pEq (.int .i64 (w64 (v4 * (10 : Int)))))) rfl rfl rfl (J_bin rfl (Opd.tmp rfl) Opd.con B_mul) ?_
        refine RegL.pure (p := (pEq (.int .i64 (w64 (v4 * (10 : Int)))))) rfl rfl rfl (J_assign rfl (Opd.tmp rfl)) ?_
        refine RegL.nil ?_
        refine Ct.blk_normal ?_
        refine Ct.then_tr ?_
        refine Tr.weak (Γ' := [(3, (pEq (.int .i64 (w64 ((x1.size : Int) - (1 : Int)))))), (4, (pEq (.int .i64 (w64 (v4 * (10 : Int)))))), (17, (pEq (.int .i64 (if (0 : Int) > (w64 ((8 : Int) - (w64 ((x1.size : Int) - (1 : Int))))) then (0 : Int) else (w64 ((8 : Int) - (w64 ((x1.size : Int) - (1 : Int))))))))), (18, (pEq (.int .i64 v5))), (99999, (pTab 1 .u64 Lib.pow10Tab))]) ⟨rfl, rfl, rfl, rfl, rfl, trivial⟩ ?_
        refine Tr.region ?_
        refine RegL.pure (p := (pEq (.int .i64 (w64 (v5 + (1 : Int)))))) rfl rfl rfl (J_bin rfl (Opd.tmp rfl) Opd.con B_add) ?_
        refine RegL.pure (p := (pEq (.int .i64 (w64 (v5 + (1 : Int)))))) rfl rfl rfl (J_move rfl (Opd.tmp rfl)) ?_
        refine RegL.nil ?_
        replace h := Option.some.inj h; subst h
        exact Ct.again () rfl ⟨rfl, rfl, rfl, rfl, rfl, trivial⟩
      · replace h := bif_f hc h
        refine Tr.exit ?_
        refine Ct.then_exit ?_
        replace h := map_some h; obtain ⟨r1, h, rfl⟩ := h
        refine Ct.out_exit fun e => ?_
        subst e
        refine Ct.blk_exit ?_
        replace h := Option.some.inj h; subst h
        exact Ct.mid () rfl ⟨rfl, rfl, rfl, trivial⟩
    · clear hx2
      refine Ct.then_tr ?_
      refine Tr.weak (Γ' := [(3, (pEq (.int .i64 (w64 ((x1.size : Int) - (1 : Int)))))), (4, (pEq (.int .i64 x2))), (99999, (pTab 1 .u64 Lib.pow10Tab))]) ⟨rfl, rfl, rfl, trivial⟩ ?_
      refine Tr.seq ?_
      refine Tr.seq ?_
      refine Tr.region ?_
      refine RegL.pure (p := (pEq (.int .i64 (w64 ((x1.size : Int) - (1 : Int)))))) rfl rfl rfl (J_move rfl (Opd.tmp rfl)) ?_
      refine RegL.pure (p := (pEq (.int .i64 (w64 ((w64 ((x1.size : Int) - (1 : Int))) - (8 : Int)))))) rfl rfl rfl (J_bin rfl (Opd.tmp rfl) Opd.con B_sub) ?_
      refine RegL.pure (p := (pEq (.int .i64 (if (0 : Int) > (w64 ((w64 ((x1.size : Int) - (1 : Int))) - (8 : Int))) then (0 : Int) else (w64 ((w64 ((x1.size : Int) - (1 : Int))) - (8 : Int))))))) rfl rfl rfl (J_max2 rfl (Opd.tmp rfl) Opd.con) ?_
      refine RegL.pure (p := (pEq (.int .i64 (0 : Int)))) rfl rfl rfl (J_move rfl Opd.con) ?_
      refine RegL.nil ?_
      refine Ct.then_tr ?_
      refine Tr.weak (Γ' := [(3, (pEq (.int .i64 (w64 ((x1.size : Int) - (1 : Int)))))), (4, (pEq (.int .i64 x2))), (25, (pEq (.int .i64 (if (0 : Int) > (w64 ((w64 ((x1.size : Int) - (1 : Int))) - (8 : Int))) then (0 : Int) else (w64 ((w64 ((x1.size : Int) - (1 : Int))) - (8 : Int))))))), (26, (pEq (.int .i64 (0 : Int)))), (99999, (pTab 1 .u64 Lib.pow10Tab))]) ⟨rfl, rfl, rfl, rfl, rfl, trivial⟩ ?_
      replace h := bind_some h; obtain ⟨x8, hx8, h⟩ := h
      refine Tr.cut (γ := Unit) (Γm := fun g => [(3, (pEq (.int .i64 (w64 ((x1.size : Int) - (1 : Int)))))), (4, (pEq (.int .i64 x8))), (99999, (pTab 1 .u64 Lib.pow10Tab))]) (Ωm := fun g => []) ?_ (fun g13 => ?_)
      · clear h
        have h := hx8
        clear hx8
        refine Tr.block ?_
        refine Tr.weak (Γ' := [(3, (pEq (.int .i64 (w64 ((x1.size : Int) - (1 : Int)))))), (4, (pEq (.int .i64 x2))), (25, (pEq (.int .i64 (if (0 : Int) > (w64 ((w64 ((x1.size : Int) - (1 : Int))) - (8 : Int))) then (0 : Int) else (w64 ((w64 ((x1.size : Int) - (1 : Int))) - (8 : Int))))))), (26, (pEq (.int .i64 (0 : Int)))), (99999, (pTab 1 .u64 Lib.pow10Tab))]) ⟨rfl, rfl, rfl, rfl, rfl, trivial⟩ ?_
        refine Tr.loop (γ := Unit) (σ := (Int × Int)) (Γσ := fun s g => [(3, (pEq (.int .i64 (w64 ((x1.size : Int) - (1 : Int)))))), (4, (pEq (.int .i64 s.1))), (25, (pEq (.int .i64 (if (0 : Int) > (w64 ((w64 ((x1.size : Int) - (1 : Int))) - (8 : Int))) then (0 : Int) else (w64 ((w64 ((x1.size : Int) - (1 : Int))) - (8 : Int))))))), (26, (pEq (.int .i64 s.2))), (99999, (pTab 1 .u64 Lib.pow10Tab))]) (Ωσ := fun s g => []) (g := ()) h ?_
        clear h
        rintro ⟨v10, v11⟩ g12 t h
        replace h : m_impl_LogDb_B9 x1 v10 v11 = some t := h
        unfold m_impl_LogDb_B9 at h
        refine Tr.weakO (Γ' := [(3, (pEq (.int .i64 (w64 ((x1.size : Int) - (1 : Int)))))), (4, (pEq (.int .i64 v10))), (25, (pEq (.int .i64 (if (0 : Int) > (w64 ((w64 ((x1.size : Int) - (1 : Int))) - (8 : Int))) then (0 : Int) else (w64 ((w64 ((x1.size : Int) - (1 : Int))) - (8 : Int))))))), (26, (pEq (.int .i64 v11))), (99999, (pTab 1 .u64 Lib.pow10Tab))]) (Ω' := []) rfl ⟨rfl, rfl, rfl, rfl, rfl, trivial⟩ ?_
        refine Tr.seq ?_
        refine Tr.region ?_
        refine RegL.pure (p := (pEq (.bool (decide (v11 < (if (0 : Int) > (w64 ((w64 ((x1.size : Int) - (1 : Int))) - (8 : Int))) then (0 : Int) else (w64 ((w64 ((x1.size : Int) - (1 : Int))) - (8 : Int))))))))) rfl rfl rfl (J_bin rfl (Opd.tmp rfl) (Opd.tmp rfl) B_lss) ?_
        refine RegL.nil ?_
        refine Ct.then_tr ?_
        refine Tr.weak (Γ' := [(3, (pEq (.int .i64 (w64 ((x1.size : Int) - (1 : Int)))))), (4, (pEq (.int .i64 v10))), (25, (pEq (.int .i64 (if (0 : Int) > (w64 ((w64 ((x1.size : Int) - (1 : Int))) - (8 : Int))) then (0 : Int) else (w64 ((w64 ((x1.size : Int) - (1 : Int))) - (8 : Int))))))), (26, (pEq (.int .i64 v11))), (27, (pEq (.bool (decide (v11 < (if (0 : Int) > (w64 ((w64 ((x1.size : Int) - (1 : Int))) - (8 : Int))) then (0 : Int) else (w64 ((w64 ((x1.size : Int) - (1 : Int))) - (8 : Int))))))))), (99999, (pTab 1 .u64 Lib.pow10Tab))]) ⟨rfl, rfl, rfl, rfl, rfl, rfl, trivial⟩ ?_
        refine Tr.seq ?_
        refine Tr.cond (Opd.tmp rfl) (fun hc => ?_) (fun hc => ?_)
        · replace h := bif_t hc h
          refine Tr.skip ?_
          refine Ct.then_tr ?_
          refine Tr.weak (Γ' := [(3, (pEq (.int .i64 (w64 ((x1.size : Int) - (1 : Int)))))), (4, (pEq (.int .i64 v10))), (25, (pEq (.int .i64 (if (0 : Int) > (w64 ((w64 ((x1.size : Int) - (1 : Int))) - (8 : Int))) then (0 : Int) else (w64 ((w64 ((x1.size : Int) - (1 : Int))) - (8 : Int))))))), (26, (pEq (.int .i64 v11))), (99999, (pTab 1 .u64 Lib.pow10Tab))]) ⟨rfl, rfl, rfl, rfl, rfl, trivial⟩ ?_
          refine Tr.seq ?_
          refine Tr.block ?_
          refine Tr.region ?_
          refine RegL.pure (p := (pEq (.int .i64 v10))) rfl rfl rfl (J_move rfl (Opd.tmp rfl)) ?_
          refine RegL.pure (p := (pEq (.int .i64 (w64 (v10.tdiv (10 : Int)))))) rfl rfl rfl (J_bin rfl (Opd.tmp rfl) Opd.con (B_quo (n := (10 : Int)) (by decide))) ?_
          refine RegL.pure (p := (pEq (.int .i64 (w64 (v10.tdiv (10 : Int)))))) rfl rfl rfl (J_assign rfl (Opd.tmp rfl)) ?_
          refine RegL.nil ?_
          refine Ct.blk_normal ?_
          refine Ct.then_tr ?_
          refine Tr.weak (Γ' := [(3, (pEq (.int .i64 (w64 ((x1.size : Int) - (1 : Int)))))), (4, (pEq (.int .i64 (w64 (v10.tdiv (10 : Int)))))), (25, (pEq (.int .i64 (if (0 : Int) > (w64 ((w64 ((x1.size : Int) - (1 : Int))) - (8 : Int))) then (0 : Int) else (w64 ((w64 ((x1.size : Int) - (1 : Int))) - (8 : Int))))))), (26, (pEq (.int .i64 v11))), (99999, (pTab 1 .u64 Lib.pow10Tab))]) ⟨rfl, rfl, rfl, rfl, rfl, trivial⟩ ?_
          refine Tr.region ?_
          refine RegL.pure (p := (pEq (.int .i64 (w64 (v11 + (1 : Int)))))) rfl rfl rfl (J_bin rfl (Opd.tmp rfl) Opd.con B_add) ?_
          refine RegL.pure (p := (pEq (.int .i64 (w64 (v11 + (1 : Int)))))) rfl rfl rfl (J_move rfl (Opd.tmp rfl)) ?_
          refine RegL.nil ?_
          replace h := Option.some.inj h; subst h
          exact Ct.again () rfl ⟨rfl, rfl, rfl, rfl, rfl, trivial⟩
        · replace h := bif_f hc h
          refine Tr.exit ?_
          refine Ct.then_exit ?_
          replace h := map_some h; obtain ⟨r1, h, rfl⟩ := h
          refine Ct.out_exit fun e => ?_
          subst e
          refine Ct.blk_exit ?_
          replace h := Option.some.inj h; subst h
          exact Ct.mid () rfl ⟨rfl, rfl, rfl, trivial⟩
      · clear hx8
        refine Ct.then_tr ?_
        refine Tr.weak (Γ' := [(3, (pEq (.int .i64 (w64 ((x1.size : Int) - (1 : Int)))))), (4, (pEq (.int .i64 x8))), (99999, (pTab 1 .u64 Lib.pow10Tab))]) ⟨rfl, rfl, rfl, trivial⟩ ?_
        refine Tr.seq ?_
        refine Tr.seq ?_
        refine Tr.region ?_
        refine RegL.pure (p := (pEq (.int .i64 (0 : Int)))) rfl rfl rfl (J_move rfl Opd.con) ?_
        refine RegL.nil ?_
        refine Ct.then_tr ?_
        refine Tr.weak (Γ' := [(3, (pEq (.int .i64 (w64 ((x1.size : Int) - (1 : Int)))))), (4, (pEq (.int .i64 x8))), (31, (pEq (.int .i64 (0 : Int)))), (99999, (pTab 1 .u64 Lib.pow10Tab))]) ⟨rfl, rfl, rfl, rfl, trivial⟩ ?_
        replace h := bind_some h; obtain ⟨x14, hx14, h⟩ := h
        refine Tr.cut (γ := Unit) (Γm := fun g => [(3, (pEq (.int .i64 x14))), (99999, (pTab 1 .u64 Lib.pow10Tab))]) (Ωm := fun g => []) ?_ (fun g31 => ?_)
        · clear h
          have h := hx14
          clear hx14
          refine Tr.block ?_
          refine Tr.weak (Γ' := [(3, (pEq (.int .i64 (w64 ((x1.size : Int) - (1 : Int)))))), (4, (pEq (.int .i64 x8))), (31, (pEq (.int .i64 (0 : Int)))), (99999, (pTab 1 .u64 Lib.pow10Tab))]) ⟨rfl, rfl, rfl, rfl, trivial⟩ ?_
          refine Tr.loop (γ := Unit) (σ := (Int × Int × Int)) (Γσ := fun s g => [(3, (pEq (.int .i64 s.1))), (4, (pEq (.int .i64 s.2.1))), (31, (pEq (.int .i64 s.2.2))), (99999, (pTab 1 .u64 Lib.pow10Tab))]) (Ωσ := fun s g => []) (g := ()) h ?_
          clear h
          rintro ⟨v16, v17, v18⟩ g19 t h
          replace h : m_impl_LogDb_B15  v16 v17 v18 = some t := h
          unfold m_impl_LogDb_B15 at h
          refine Tr.weakO (Γ' := [(3, (pEq (.int .i64 v16))), (4, (pEq (.int .i64 v17))), (31, (pEq (.int .i64 v18))), (99999, (pTab 1 .u64 Lib.pow10Tab))]) (Ω' := []) rfl ⟨rfl, rfl, rfl, rfl, trivial⟩ ?_
          refine Tr.seq ?_
          refine Tr.region ?_
          refine RegL.pure (p := (pEq (.bool (decide (v18 < (4 : Int)))))) rfl rfl rfl (J_bin rfl (Opd.tmp rfl) Opd.con B_lss) ?_
          refine RegL.nil ?_
          refine Ct.then_tr ?_
          refine Tr.weak (Γ' := [(3, (pEq (.int .i64 v16))), (4, (pEq (.int .i64 v17))), (31, (pEq (.int .i64 v18))), (32, (pEq (.bool (decide (v18 < (4 : Int)))))), (99999, (pTab 1 .u64 Lib.pow10Tab))]) ⟨rfl, rfl, rfl, rfl, rfl, trivial⟩ ?_
          refine Tr.seq ?_
          refine Tr.cond (Opd.tmp rfl) (fun hc => ?_) (fun hc => ?_)
          · replace h := bif_t hc h
            refine Tr.skip ?_
            refine Ct.then_tr ?_
            refine Tr.weak (Γ' := [(3, (pEq (.int .i64 v16))), (4, (pEq (.int .i64 v17))), (31, (pEq (.int .i64 v18))), (99999, (pTab 1 .u64 Lib.pow10Tab))]) ⟨rfl, rfl, rfl, rfl, trivial⟩ ?_
            refine Tr.seq ?_
            refine Tr.block ?_
            refine Tr.seq ?_
            refine Tr.region ?_
            refine RegL.pure (p := (pEq (.int .i64 v17))) rfl rfl rfl (J_move rfl (Opd.tmp rfl)) ?_
            refine RegL.pure (p := (pAgg (cGScaled (GScaled.mk v17 (0 : Int))))) rfl rfl rfl (J_build (qss := [(0, (cK .i64) v17), (1, (cK .i64) (0 : Int))]) rfl bl114 bz114 (Parts.cons (Part.one (Opd.tmp rfl) OneC.int) (Parts.cons (Part.one Opd.con OneC.int) Parts.nil)) rfl) ?_
            refine RegL.step (γ := Nat) (p := fun b => pEq (.pointer (some ⟨b, 0, none⟩))) (Ω' := fun b => [oBlk b [(pEq (.int .i64 (0 : Int))), (pEq (.int .i64 (0 : Int)))]]) rfl rfl rfl (M_alloc rfl zero114) fun b20 => ?_
            refine RegL.stepN (γ := Unit) (p := fun _ => pAny) (Ω' := fun _ => [oBlk b20 [(pEq (.int .i64 (GScaled.mk v17 (0 : Int)).number)), (pEq (.int .i64 (GScaled.mk v17 (0 : Int)).exponent))]]) rfl rfl (M_storeA rfl sz114 (Opd.tmp rfl) (Opd.tmp rfl) (fun _ _ _ h => ones_of ((OneCs.cons OneC.int (OneCs.cons OneC.int OneCs.nil))) h) rfl rfl) fun g21 => ?_
            refine RegL.freeze (s := 5) rfl ?_
            refine RegL.nil ?_
            refine Ct.then_tr ?_
            refine Tr.weak (Γ' := [(3, (pEq (.int .i64 v16))), (5, (pPtr (cGScaled (GScaled.mk v17 (0 : Int))))), (31, (pEq (.int .i64 v18))), (99999, (pTab 1 .u64 Lib.pow10Tab))]) ⟨rfl, rfl, rfl, rfl, trivial⟩ ?_
            refine Tr.seq ?_
            refine Tr.region ?_
            refine RegL.pure (p := (pAgg (cGScaled (GScaled.mk v17 (0 : Int))))) rfl rfl rfl (J_loadA rfl Tryd.isAgg114 sz114 (Opd.tmp rfl) rfl) ?_
            refine RegL.pure (p := (pAgg (cGScaled (GScaled.mk v17 (0 : Int))))) rfl rfl rfl (J_loadA rfl Tryd.isAgg114 sz114 (Opd.tmp rfl) rfl) ?_
            replace h := bind_some h; obtain ⟨x22, hx22, h⟩ := h
            refine RegL.pure (p := (pAgg (cGScaled x22))) rfl rfl rfl (J_call rfl Tryd.call112 (c_impl_scaled_times hx22) (Opds.cons (Opd.tmp rfl) (Opds.cons (Opd.tmp rfl) Opds.nil))) ?_
            refine RegL.step (γ := Nat) (p := fun b => pEq (.pointer (some ⟨b, 0, none⟩))) (Ω' := fun b => [oBlk b [(pEq (.int .i64 (0 : Int))), (pEq (.int .i64 (0 : Int)))]]) rfl rfl rfl (M_alloc rfl zero114) fun b23 => ?_
            refine RegL.stepN (γ := Unit) (p := fun _ => pAny) (Ω' := fun _ => [oBlk b23 [(pEq (.int .i64 x22.number)), (pEq (.int .i64 x22.exponent))]]) rfl rfl (M_storeA rfl sz114 (Opd.tmp rfl) (Opd.tmp rfl) (fun _ _ _ h => ones_of ((OneCs.cons OneC.int (OneCs.cons OneC.int OneCs.nil))) h) rfl rfl) fun g24 => ?_
            refine RegL.freeze (s := 6) rfl ?_
            refine RegL.nil ?_
            refine Ct.then_tr ?_
            refine Tr.weak (Γ' := [(3, (pEq (.int .i64 v16))), (5, (pPtr (cGScaled (GScaled.mk v17 (0 : Int))))), (6, (pPtr (cGScaled x22))), (31, (pEq (.int .i64 v18))), (99999, (pTab 1 .u64 Lib.pow10Tab))]) ⟨rfl, rfl, rfl, rfl, rfl, trivial⟩ ?_
            refine Tr.seq ?_
            replace h := bind_some h; obtain ⟨x25, hx25, h⟩ := h
            replace h := bind_some h; obtain ⟨x26, hx26, h⟩ := h
            refine Tr.drawD (n := 55) (m := 6) (es := [some (Ent.mk [(6, (pPtr (cGScaled x22)))] (pAgg (cGScaled x22)) true), some (Ent.mk [(6, (pPtr (cGScaled x22)))] (pAgg (cGScaled x22)) true), some (Ent.mk [(38, (pAgg (cGScaled x22))), (39, (pAgg (cGScaled x22)))] (pAgg (cGScaled x25)) true), some (Ent.mk [(5, (pPtr (cGScaled (GScaled.mk v17 (0 : Int)))))] (pAgg (cGScaled (GScaled.mk v17 (0 : Int)))) true), some (Ent.mk [(40, (pAgg (cGScaled x25))), (41, (pAgg (cGScaled (GScaled.mk v17 (0 : Int)))))] (pAgg (cGScaled x26)) true), none]) (rd := [[6], [6], [38, 39], [5], [40, 41], []]) rfl hmix (by kernel_rfl) fun hD => ?_
            refine RD.step hD (es := [some (Ent.mk [(6, (pPtr (cGScaled x22)))] (pAgg (cGScaled x22)) true), some (Ent.mk [(6, (pPtr (cGScaled x22)))] (pAgg (cGScaled x22)) true), some (Ent.mk [(38, (pAgg (cGScaled x22))), (39, (pAgg (cGScaled x22)))] (pAgg (cGScaled x25)) true), some (Ent.mk [(5, (pPtr (cGScaled (GScaled.mk v17 (0 : Int)))))] (pAgg (cGScaled (GScaled.mk v17 (0 : Int)))) true), some (Ent.mk [(40, (pAgg (cGScaled x25))), (41, (pAgg (cGScaled (GScaled.mk v17 (0 : Int)))))] (pAgg (cGScaled x26)) true), none]) (done := []) (mask := [true, true, true, true, true, false]) (γ := Nat) (p := fun b => pEq (.pointer (some ⟨b, 0, none⟩))) (Ω' := fun b => [oBlk b [(pEq (.int .i64 (0 : Int))), (pEq (.int .i64 (0 : Int)))]]) (es' := fun b27 => [some (Ent.mk [(6, (pPtr (cGScaled x22)))] (pAgg (cGScaled x22)) true), some (Ent.mk [(6, (pPtr (cGScaled x22)))] (pAgg (cGScaled x22)) true), some (Ent.mk [(38, (pAgg (cGScaled x22))), (39, (pAgg (cGScaled x22)))] (pAgg (cGScaled x25)) true), some (Ent.mk [(5, (pPtr (cGScaled (GScaled.mk v17 (0 : Int)))))] (pAgg (cGScaled (GScaled.mk v17 (0 : Int)))) true), some (Ent.mk [(40, (pAgg (cGScaled x25))), (41, (pAgg (cGScaled (GScaled.mk v17 (0 : Int)))))] (pAgg (cGScaled x26)) true), some (Ent.mk [] (pEq (.pointer (some ⟨b27, 0, none⟩))) true)]) (Γc := []) 5 rfl rfl rfl (by kernel_rfl) ⟨.inr ⟨(OpJ.w (J_loadA rfl Tryd.isAgg114 sz114 (Opd.tmp rfl) rfl)), ⟨rfl, trivial⟩, rfl, rfl⟩, ⟨.inr ⟨(OpJ.w (J_loadA rfl Tryd.isAgg114 sz114 (Opd.tmp rfl) rfl)), ⟨rfl, trivial⟩, rfl, rfl⟩, ⟨.inr ⟨(OpJ.w (J_call rfl Tryd.call112 (c_impl_scaled_times hx25) (Opds.cons (Opd.tmp rfl) (Opds.cons (Opd.tmp rfl) Opds.nil)))), ⟨rfl, rfl, trivial⟩, rfl, rfl⟩, ⟨.inr ⟨(OpJ.w (J_loadA rfl Tryd.isAgg114 sz114 (Opd.tmp rfl) rfl)), ⟨rfl, trivial⟩, rfl, rfl⟩, ⟨.inr ⟨(OpJ.w (J_call rfl Tryd.call112 (c_impl_scaled_times hx26) (Opds.cons (Opd.tmp rfl) (Opds.cons (Opd.tmp rfl) Opds.nil)))), ⟨rfl, rfl, trivial⟩, rfl, rfl⟩, trivial⟩⟩⟩⟩⟩ rfl rfl trivial (fun _ => M_alloc rfl zero114) (fun b27 => ⟨rfl, ⟨rfl, ⟨rfl, ⟨rfl, ⟨rfl, trivial⟩⟩⟩⟩⟩) (fun b27 => rfl) rfl fun b27 => ?_
            refine RD.fin (es := [Ent.mk [(6, (pPtr (cGScaled x22)))] (pAgg (cGScaled x22)) true, Ent.mk [(6, (pPtr (cGScaled x22)))] (pAgg (cGScaled x22)) true, Ent.mk [(38, (pAgg (cGScaled x22))), (39, (pAgg (cGScaled x22)))] (pAgg (cGScaled x25)) true, Ent.mk [(5, (pPtr (cGScaled (GScaled.mk v17 (0 : Int)))))] (pAgg (cGScaled (GScaled.mk v17 (0 : Int)))) true, Ent.mk [(40, (pAgg (cGScaled x25))), (41, (pAgg (cGScaled (GScaled.mk v17 (0 : Int)))))] (pAgg (cGScaled x26)) true, Ent.mk [] (pEq (.pointer (some ⟨b27, 0, none⟩))) true]) (done := [5]) hD ⟨.inr ⟨(OpJ.w (J_loadA rfl Tryd.isAgg114 sz114 (Opd.tmp rfl) rfl)), ⟨rfl, trivial⟩, rfl, rfl⟩, ⟨.inr ⟨(OpJ.w (J_loadA rfl Tryd.isAgg114 sz114 (Opd.tmp rfl) rfl)), ⟨rfl, trivial⟩, rfl, rfl⟩, ⟨.inr ⟨(OpJ.w (J_call rfl Tryd.call112 (c_impl_scaled_times hx25) (Opds.cons (Opd.tmp rfl) (Opds.cons (Opd.tmp rfl) Opds.nil)))), ⟨rfl, rfl, trivial⟩, rfl, rfl⟩, ⟨.inr ⟨(OpJ.w (J_loadA rfl Tryd.isAgg114 sz114 (Opd.tmp rfl) rfl)), ⟨rfl, trivial⟩, rfl, rfl⟩, ⟨.inr ⟨(OpJ.w (J_call rfl Tryd.call112 (c_impl_scaled_times hx26) (Opds.cons (Opd.tmp rfl) (Opds.cons (Opd.tmp rfl) Opds.nil)))), ⟨rfl, rfl, trivial⟩, rfl, rfl⟩, ⟨.inl rfl, trivial⟩⟩⟩⟩⟩⟩ ?_
            refine RegL.stepN (γ := Unit) (p := fun _ => pAny) (Ω' := fun _ => [oBlk b27 [(pEq (.int .i64 x26.number)), (pEq (.int .i64 x26.exponent))]]) rfl rfl (M_storeA rfl sz114 (Opd.tmp rfl) (Opd.tmp rfl) (fun _ _ _ h => ones_of ((OneCs.cons OneC.int (OneCs.cons OneC.int OneCs.nil))) h) rfl rfl) fun g28 => ?_
            refine RegL.nil ?_
            refine Ct.then_tr ?_
            refine Tr.weak (Γ' := [(3, (pEq (.int .i64 v16))), (7, (pEq (.pointer (some ⟨b27, 0, none⟩)))), (31, (pEq (.int .i64 v18))), (99999, (pTab 1 .u64 Lib.pow10Tab))]) ⟨rfl, rfl, rfl, rfl, trivial⟩ ?_
            refine Tr.seq ?_
            refine Tr.region ?_
            refine RegL.pureW (p := (pAgg (cGScaled x26))) rfl rfl rfl (W_loadA (i := 0) rfl Tryd.isAgg114 sz114 (Opd.tmp rfl) rfl rfl) ?_
            refine RegL.pureW (p := (pAgg (cGScaled x26))) rfl rfl rfl (W_loadA (i := 0) rfl Tryd.isAgg114 sz114 (Opd.tmp rfl) rfl rfl) ?_
            replace h := bind_some h; obtain ⟨x29, hx29, h⟩ := h
            refine RegL.pure (p := (pAgg (cGScaled x29))) rfl rfl rfl (J_call rfl Tryd.call112 (c_impl_scaled_times hx29) (Opds.cons (Opd.tmp rfl) (Opds.cons (Opd.tmp rfl) Opds.nil))) ?_
            refine RegL.stepN (γ := Unit) (p := fun _ => pAny) (Ω' := fun _ => [oBlk b27 [(pEq (.int .i64 x29.number)), (pEq (.int .i64 x29.exponent))]]) rfl rfl (M_storeA rfl sz114 (Opd.tmp rfl) (Opd.tmp rfl) (fun _ _ _ h => ones_of ((OneCs.cons OneC.int (OneCs.cons OneC.int OneCs.nil))) h) rfl rfl) fun g30 => ?_
            refine RegL.nil ?_
            refine Ct.then_tr ?_
            refine Tr.weak (Γ' := [(3, (pEq (.int .i64 v16))), (7, (pEq (.pointer (some ⟨b27, 0, none⟩)))), (31, (pEq (.int .i64 v18))), (99999, (pTab 1 .u64 Lib.pow10Tab))]) ⟨rfl, rfl, rfl, rfl, trivial⟩ ?_
            refine Tr.drawD (n := 55) (m := 8) (es := [some (Ent.mk [(7, (pEq (.pointer (some ⟨b27, 0, none⟩))))] (pEq (.pointer (some ⟨b27, 0, none⟩))) true), some (Ent.mk [(46, (pEq (.pointer (some ⟨b27, 0, none⟩))))] (pEq (.int .i64 x29.number)) true), some (Ent.mk [(3, (pEq (.int .i64 v16)))] (pEq (.int .i64 v16)) true), some (Ent.mk [(48, (pEq (.int .i64 v16)))] (pEq (.int .i64 (w64 ((10 : Int) * v16)))) true), some (Ent.mk [(7, (pEq (.pointer (some ⟨b27, 0, none⟩))))] (pEq (.pointer (some ⟨b27, 1, none⟩))) true), some (Ent.mk [(50, (pEq (.pointer (some ⟨b27, 1, none⟩))))] (pEq (.int .i64 x29.exponent)) true), some (Ent.mk [(49, (pEq (.int .i64 (w64 ((10 : Int) * v16))))), (51, (pEq (.int .i64 x29.exponent)))] (pEq (.int .i64 (w64 ((w64 ((10 : Int) * v16)) + x29.exponent)))) true), some (Ent.mk [(47, (pEq (.int .i64 x29.number)))] (pEq (.int .i64 x29.number)) true)]) (rd := [[7], [46], [3], [48], [7], [50], [49, 51], [47]]) rfl hmix (by kernel_rfl) fun hD => ?_
            refine RD.fin (es := [Ent.mk [(7, (pEq (.pointer (some ⟨b27, 0, none⟩))))] (pEq (.pointer (some ⟨b27, 0, none⟩))) true, Ent.mk [(46, (pEq (.pointer (some ⟨b27, 0, none⟩))))] (pEq (.int .i64 x29.number)) true, Ent.mk [(3, (pEq (.int .i64 v16)))] (pEq (.int .i64 v16)) true, Ent.mk [(48, (pEq (.int .i64 v16)))] (pEq (.int .i64 (w64 ((10 : Int) * v16)))) true, Ent.mk [(7, (pEq (.pointer (some ⟨b27, 0, none⟩))))] (pEq (.pointer (some ⟨b27, 1, none⟩))) true, Ent.mk [(50, (pEq (.pointer (some ⟨b27, 1, none⟩))))] (pEq (.int .i64 x29.exponent)) true, Ent.mk [(49, (pEq (.int .i64 (w64 ((10 : Int) * v16))))), (51, (pEq (.int .i64 x29.exponent)))] (pEq (.int .i64 (w64 ((w64 ((10 : Int) * v16)) + x29.exponent)))) true, Ent.mk [(47, (pEq (.int .i64 x29.number)))] (pEq (.int .i64 x29.number)) true]) (done := []) hD ⟨.inr ⟨(OpJ.w (J_fieldAddrE rfl Tryd.underlying114 rfl sz2 (by decide) (Opd.tmp rfl) rfl)), ⟨rfl, trivial⟩, rfl, rfl⟩, ⟨.inr ⟨(W_load (i := 0) rfl Tryd.isAgg2 (Opd.tmp rfl) rfl rfl), ⟨rfl, trivial⟩, rfl, rfl⟩, ⟨.inr ⟨(OpJ.w (J_move rfl (Opd.tmp rfl))), ⟨rfl, trivial⟩, rfl, rfl⟩, ⟨.inr ⟨(OpJ.w (J_bin rfl Opd.con (Opd.tmp rfl) B_mul)), ⟨rfl, trivial⟩, rfl, rfl⟩, ⟨.inr ⟨(OpJ.w (J_fieldAddrE rfl Tryd.underlying114 rfl sz2 (by decide) (Opd.tmp rfl) rfl)), ⟨rfl, trivial⟩, rfl, rfl⟩, ⟨.inr ⟨(W_load (i := 0) rfl Tryd.isAgg2 (Opd.tmp rfl) rfl rfl), ⟨rfl, trivial⟩, rfl, rfl⟩, ⟨.inr ⟨(OpJ.w (J_bin rfl (Opd.tmp rfl) (Opd.tmp rfl) B_add)), ⟨rfl, rfl, trivial⟩, rfl, rfl⟩, ⟨.inr ⟨(OpJ.w (J_assign rfl (Opd.tmp rfl))), ⟨rfl, trivial⟩, rfl, rfl⟩, trivial⟩⟩⟩⟩⟩⟩⟩⟩ ?_
            refine RegL.pure (p := (pEq (.int .i64 (w64 ((w64 ((10 : Int) * v16)) + x29.exponent))))) rfl rfl rfl (J_assign rfl (Opd.tmp rfl)) ?_
            refine RegL.nil ?_
            refine Ct.blk_normal ?_
            refine Ct.then_tr ?_
            refine Tr.weak (Γ' := [(3, (pEq (.int .i64 (w64 ((w64 ((10 : Int) * v16)) + x29.exponent))))), (4, (pEq (.int .i64 x29.number))), (31, (pEq (.int .i64 v18))), (99999, (pTab 1 .u64 Lib.pow10Tab))]) ⟨rfl, rfl, rfl, rfl, trivial⟩ ?_
            refine Tr.region ?_
            refine RegL.pure (p := (pEq (.int .i64 (w64 (v18 + (1 : Int)))))) rfl rfl rfl (J_bin rfl (Opd.tmp rfl) Opd.con B_add) ?_
            refine RegL.pure (p := (pEq (.int .i64 (w64 (v18 + (1 : Int)))))) rfl rfl rfl (J_move rfl (Opd.tmp rfl)) ?_
            refine RegL.nil ?_
            refine Ct.re (Ω2 := []) (fun h => SatO.rest h) ?_
            replace h := Option.some.inj h; subst h
            exact Ct.again () rfl ⟨rfl, rfl, rfl, rfl, trivial⟩
          · replace h := bif_f hc h
            refine Tr.exit ?_
            refine Ct.then_exit ?_
            replace h := map_some h; obtain ⟨r1, h, rfl⟩ := h
            refine Ct.out_exit fun e => ?_
            subst e
            refine Ct.blk_exit ?_
            replace h := Option.some.inj h; subst h
            exact Ct.mid () rfl ⟨rfl, rfl, trivial⟩
        · clear hx14
          refine Ct.then_tr ?_
          refine Tr.weak (Γ' := [(3, (pEq (.int .i64 x14))), (99999, (pTab 1 .u64 Lib.pow10Tab))]) ⟨rfl, rfl, trivial⟩ ?_
          refine Tr.seq ?_
          refine Tr.region ?_
          refine RegL.pure (p := (pEq (.int .i64 x14))) rfl rfl rfl (J_move rfl (Opd.tmp rfl)) ?_
          refine RegL.pure (p := (pEq (.int .i64 x14))) rfl rfl rfl (J_assign rfl (Opd.tmp rfl)) ?_
          refine RegL.nil ?_
          refine Ct.then_tr ?_
          refine Tr.weak (Γ' := [(2, (pEq (.int .i64 x14))), (99999, (pTab 1 .u64 Lib.pow10Tab))]) ⟨rfl, rfl, trivial⟩ ?_
          refine Tr.ret ?_
          replace h := Option.some.inj h; subst h
          exact Ct.retH1 (Ωx := []) () rfl (RvOk.tmp rfl) rfl

theorem c_impl_PowDb {v_0 : Int} {r : Int} (h : m_impl_PowDb v_0 = some r) : CallJ Tryd.prog 111 [(pG (pTab 1 .u64 Lib.pow10Tab) (pEq (.int .i64 v_0)))] (pEq (.int .i64 r)) := by
  unfold m_impl_PowDb at h
  refine CallJ.enterH Tryd.func111 rfl Tryd.ntmps111 rfl fun W I0 H => ?_
  refine Tr.tab (s := 0) (k := 99999) rfl ?_; refine Tr.weak (Γ' := [(0, (pEq (.int .i64 v_0))), (99999, (pTab 1 .u64 Lib.pow10Tab))]) ⟨rfl, rfl, trivial⟩ ?_
  refine Tr.seq ?_
  refine Tr.region ?_
  refine RegL.pure (p := (pEq (.int .i64 (0 : Int)))) rfl rfl rfl (J_assign rfl Opd.con) ?_
  refine RegL.nil ?_
  refine Ct.then_tr ?_
  refine Tr.weak (Γ' := [(0, (pEq (.int .i64 v_0))), (99999, (pTab 1 .u64 Lib.pow10Tab))]) ⟨rfl, rfl, trivial⟩ ?_
  refine Tr.seq ?_
  refine Tr.seq ?_
  refine Tr.region ?_
  refine RegL.pure (p := (pEq (.int .i64 v_0))) rfl rfl rfl (J_move rfl (Opd.tmp rfl)) ?_
  replace h := bind_some h; obtain ⟨x1, hx1, h⟩ := h
  refine RegL.pure (p := (pEq (.bool x1))) rfl rfl rfl (J_call rfl Tryd.call57 (c_impl_within hx1) (Opds.cons (Opd.tmp rfl) (Opds.cons Opd.con (Opds.cons Opd.con Opds.nil)))) ?_
  refine RegL.pure (p := (pEq (.bool (!x1)))) rfl rfl rfl (J_not rfl (Opd.tmp rfl)) ?_
  refine RegL.nil ?_
  refine Ct.then_tr ?_
  refine Tr.weak (Γ' := [(0, (pEq (.int .i64 v_0))), (8, (pEq (.bool (!x1)))), (99999, (pTab 1 .u64 Lib.pow10Tab))]) ⟨rfl, rfl, rfl, trivial⟩ ?_
  refine Tr.cond (Opd.tmp rfl) (fun hc => ?_) (fun hc => ?_)
  · replace h := bif_t hc h
    refine Tr.seq ?_
    refine Tr.region ?_
    refine RegL.pure (p := (pEq (.int .i64 (0 : Int)))) rfl rfl rfl (J_assign rfl Opd.con) ?_
    refine RegL.nil ?_
    refine Ct.then_tr ?_
    refine Tr.weak (Γ' := [(2, (pEq (.int .i64 (0 : Int)))), (99999, (pTab 1 .u64 Lib.pow10Tab))]) ⟨rfl, rfl, trivial⟩ ?_
    refine Tr.ret ?_
    refine Ct.then_ret ?_
    replace h := Option.some.inj h; subst h
    exact Ct.retH1 (Ωx := []) () rfl (RvOk.tmp rfl) rfl
  · replace h := bif_f hc h
    refine Tr.skip ?_
    refine Ct.then_tr ?_
    refine Tr.weak (Γ' := [(0, (pEq (.int .i64 v_0))), (99999, (pTab 1 .u64 Lib.pow10Tab))]) ⟨rfl, rfl, trivial⟩ ?_
    refine Tr.seq ?_
    refine Tr.region ?_
    refine RegL.pure (p := (pEq (.int .i64 (1 : Int)))) rfl rfl rfl (J_assign rfl Opd.con) ?_
    refine RegL.pure (p := (pEq (.int .i64 (1000000000000000000 : Int)))) rfl rfl rfl (J_assign rfl Opd.con) ?_
    refine RegL.nil ?_
    refine Ct.then_tr ?_
    refine Tr.weak (Γ' := [(0, (pEq (.int .i64 v_0))), (3, (pEq (.int .i64 (1 : Int)))), (4, (pEq (.int .i64 (1000000000000000000 : Int)))), (99999, (pTab 1 .u64 Lib.pow10Tab))]) ⟨rfl, rfl, rfl, rfl, trivial⟩ ?_
    refine Tr.seq ?_
    replace h := bind_some h; obtain ⟨x2, hx2, h⟩ := h
    refine Tr.cut (γ := Unit) (Γm := fun g => [(3, (pEq (.int .i64 x2))), (99999, (pTab 1 .u64 Lib.pow10Tab))]) (Ωm := fun g => []) ?_ (fun g10 => ?_)
    · clear h
      have h := hx2
      clear hx2
      refine Tr.block ?_
      refine Tr.weak (Γ' := [(0, (pEq (.int .i64 v_0))), (3, (pEq (.int .i64 (1 : Int)))), (4, (pEq (.int .i64 (1000000000000000000 : Int)))), (99999, (pTab 1 .u64 Lib.pow10Tab))]) ⟨rfl, rfl, rfl, rfl, trivial⟩ ?_
      refine Tr.loop (γ := Unit) (σ := (Int × Int)) (Γσ := fun s g => [(0, (pEq (.int .i64 v_0))), (3, (pEq (.int .i64 s.1))), (4, (pEq (.int .i64 s.2))), (99999, (pTab 1 .u64 Lib.pow10Tab))]) (Ωσ := fun s g => []) (g := ()) h ?_
      clear h
      rintro ⟨v4, v5⟩ g6 t h
      replace h : m_impl_PowDb_B3 v_0 v4 v5 = some t := h
      unfold m_impl_PowDb_B3 at h
      refine Tr.weakO (Γ' := [(0, (pEq (.int .i64 v_0))), (3, (pEq (.int .i64 v4))), (4, (pEq (.int .i64 v5))), (99999, (pTab 1 .u64 Lib.pow10Tab))]) (Ω' := []) rfl ⟨rfl, rfl, rfl, rfl, trivial⟩ ?_
      refine Tr.seq ?_
      refine Tr.seq ?_
      refine Tr.region ?_
      refine RegL.pure (p := (pEq (.int .i64 v4))) rfl rfl rfl (J_move rfl (Opd.tmp rfl)) ?_
      refine RegL.pure (p := (pEq (.int .i64 v5))) rfl rfl rfl (J_move rfl (Opd.tmp rfl)) ?_
      refine RegL.pure (p := (pEq (.bool (decide (v4 < v5))))) rfl rfl rfl (J_bin rfl (Opd.tmp rfl) (Opd.tmp rfl) B_lss) ?_
      refine RegL.nil ?_
      refine Ct.then_tr ?_
      refine Tr.weak (Γ' := [(0, (pEq (.int .i64 v_0))), (3, (pEq (.int .i64 v4))), (4, (pEq (.int .i64 v5))), (11, (pEq (.bool (decide (v4 < v5))))), (99999, (pTab 1 .u64 Lib.pow10Tab))]) ⟨rfl, rfl, rfl, rfl, rfl, trivial⟩ ?_
      refine Tr.cond (Opd.tmp rfl) (fun hc => ?_) (fun hc => ?_)
      · replace h := bif_t hc h
        refine Tr.skip ?_
        refine Ct.then_tr ?_
        refine Tr.weak (Γ' := [(0, (pEq (.int .i64 v_0))), (3, (pEq (.int .i64 v4))), (4, (pEq (.int .i64 v5))), (99999, (pTab 1 .u64 Lib.pow10Tab))]) ⟨rfl, rfl, rfl, rfl, trivial⟩ ?_
        refine Tr.block ?_
        refine Tr.seq ?_
        refine Tr.region ?_
        refine RegL.pure (p := (pEq (.int .i64 v4))) rfl rfl rfl (J_move rfl (Opd.tmp rfl)) ?_
        refine RegL.pure (p := (pEq (.int .i64 v5))) rfl rfl rfl (J_move rfl (Opd.tmp rfl)) ?_
        refine RegL.pure (p := (pEq (.int .i64 v4))) rfl rfl rfl (J_move rfl (Opd.tmp rfl)) ?_
        refine RegL.pure (p := (pEq (.int .i64 (w64 (v5 - v4))))) rfl rfl rfl (J_bin rfl (Opd.tmp rfl) (Opd.tmp rfl) B_sub) ?_
        refine RegL.pure (p := (pEq (.int .i64 (w64 ((w64 (v5 - v4)).tdiv (2 : Int)))))) rfl rfl rfl (J_bin rfl (Opd.tmp rfl) Opd.con (B_quo (n := (2 : Int)) (by decide))) ?_
        refine RegL.pure (p := (pEq (.int .i64 (w64 (v4 + (w64 ((w64 (v5 - v4)).tdiv (2 : Int)))))))) rfl rfl rfl (J_bin rfl (Opd.tmp rfl) (Opd.tmp rfl) B_add) ?_
        refine RegL.pure (p := (pEq (.int .i64 (w64 (v4 + (w64 ((w64 (v5 - v4)).tdiv (2 : Int)))))))) rfl rfl rfl (J_assign rfl (Opd.tmp rfl)) ?_
        refine RegL.nil ?_
        refine Ct.then_tr ?_
        refine Tr.weak (Γ' := [(0, (pEq (.int .i64 v_0))), (3, (pEq (.int .i64 v4))), (4, (pEq (.int .i64 v5))), (5, (pEq (.int .i64 (w64 (v4 + (w64 ((w64 (v5 - v4)).tdiv (2 : Int)))))))), (99999, (pTab 1 .u64 Lib.pow10Tab))]) ⟨rfl, rfl, rfl, rfl, rfl, trivial⟩ ?_
        refine Tr.seq ?_
        refine Tr.region ?_
        refine RegL.pure (p := (pEq (.int .i64 (w64 (v4 + (w64 ((w64 (v5 - v4)).tdiv (2 : Int)))))))) rfl rfl rfl (J_move rfl (Opd.tmp rfl)) ?_
        replace h := bind_some h; obtain ⟨x7, hx7, h⟩ := h
        refine RegL.pure (p := (pEq (.int .i64 x7))) rfl rfl rfl (J_call rfl Tryd.call89 (c_impl_LogDb hx7) (Opds.cons (Opd.tab (Opd.tmp rfl) 99999 rfl) Opds.nil)) ?_
        refine RegL.pure (p := (pEq (.int .i64 v_0))) rfl rfl rfl (J_move rfl (Opd.tmp rfl)) ?_
        refine RegL.pure (p := (pEq (.bool (decide (v_0 ≤ x7))))) rfl rfl rfl (J_bin rfl (Opd.tmp rfl) (Opd.tmp rfl) B_geq) ?_
        refine RegL.nil ?_
        refine Ct.then_tr ?_
        refine Tr.weak (Γ' := [(0, (pEq (.int .i64 v_0))), (3, (pEq (.int .i64 v4))), (4, (pEq (.int .i64 v5))), (5, (pEq (.int .i64 (w64 (v4 + (w64 ((w64 (v5 - v4)).tdiv (2 : Int)))))))), (21, (pEq (.bool (decide (v_0 ≤ x7))))), (99999, (pTab 1 .u64 Lib.pow10Tab))]) ⟨rfl, rfl, rfl, rfl, rfl, rfl, trivial⟩ ?_
        replace h := bind_some h; obtain ⟨x8, hx8, h⟩ := h
        refine Tr.cut (γ := Unit) (Γm := fun g => [(0, (pEq (.int .i64 v_0))), (3, (pEq (.int .i64 x8.1))), (4, (pEq (.int .i64 x8.2))), (99999, (pTab 1 .u64 Lib.pow10Tab))]) (Ωm := fun g => []) ?_ (fun g9 => ?_)
        · clear h
          have h := hx8
          clear hx8
          refine Tr.cond (Opd.tmp rfl) (fun hc => ?_) (fun hc => ?_)
          · replace h := bif_t hc h
            refine Tr.region ?_
            refine RegL.pure (p := (pEq (.int .i64 (w64 (v4 + (w64 ((w64 (v5 - v4)).tdiv (2 : Int)))))))) rfl rfl rfl (J_move rfl (Opd.tmp rfl)) ?_
            refine RegL.pure (p := (pEq (.int .i64 (w64 (v4 + (w64 ((w64 (v5 - v4)).tdiv (2 : Int)))))))) rfl rfl rfl (J_assign rfl (Opd.tmp rfl)) ?_
            refine RegL.nil ?_
            replace h := Option.some.inj h; subst h
            exact Ct.mid () rfl ⟨rfl, rfl, rfl, rfl, trivial⟩
          · replace h := bif_f hc h
            refine Tr.region ?_
            refine RegL.pure (p := (pEq (.int .i64 (w64 (v4 + (w64 ((w64 (v5 - v4)).tdiv (2 : Int)))))))) rfl rfl rfl (J_move rfl (Opd.tmp rfl)) ?_
            refine RegL.pure (p := (pEq (.int .i64 (w64 ((w64 (v4 + (w64 ((w64 (v5 - v4)).tdiv (2 : Int))))) + (1 : Int)))))) rfl rfl rfl (J_bin rfl (Opd.tmp rfl) Opd.con B_add) ?_
            refine RegL.pure (p := (pEq (.int .i64 (w64 ((w64 (v4 + (w64 ((w64 (v5 - v4)).tdiv (2 : Int))))) + (1 : Int)))))) rfl rfl rfl (J_assign rfl (Opd.tmp rfl)) ?_
            refine RegL.nil ?_
            replace h := Option.some.inj h; subst h
            exact Ct.mid () rfl ⟨rfl, rfl, rfl, rfl, trivial⟩
        · clear hx8
          refine Ct.blk_normal ?_
          replace h := Option.some.inj h; subst h
          exact Ct.again () rfl ⟨rfl, rfl, rfl, rfl, trivial⟩
      · replace h := bif_f hc h
        refine Tr.exit ?_
        refine Ct.then_exit ?_
        replace h := map_some h; obtain ⟨r1, h, rfl⟩ := h
        refine Ct.out_exit fun e => ?_
        subst e
        refine Ct.blk_exit ?_
        replace h := Option.some.inj h; subst h
        exact Ct.mid () rfl ⟨rfl, rfl, trivial⟩
    · clear hx2
      refine Ct.then_tr ?_
      refine Tr.weak (Γ' := [(3, (pEq (.int .i64 x2))), (99999, (pTab 1 .u64 Lib.pow10Tab))]) ⟨rfl, rfl, trivial⟩ ?_
      refine Tr.seq ?_
      refine Tr.region ?_
      refine RegL.pure (p := (pEq (.int .i64 x2))) rfl rfl rfl (J_move rfl (Opd.tmp rfl)) ?_
      refine RegL.pure (p := (pEq (.int .i64 x2))) rfl rfl rfl (J_assign rfl (Opd.tmp rfl)) ?_
      refine RegL.nil ?_
      refine Ct.then_tr ?_
      refine Tr.weak (Γ' := [(2, (pEq (.int .i64 x2))), (99999, (pTab 1 .u64 Lib.pow10Tab))]) ⟨rfl, rfl, trivial⟩ ?_
      refine Tr.ret ?_
      replace h := Option.some.inj h; subst h
      exact Ct.retH1 (Ωx := []) () rfl (RvOk.tmp rfl) rfl

theorem c_impl_partOf {v_0 : Int} {r : Int} (h : m_impl_partOf v_0 = some r) : CallJ Tryd.prog 88 [(pG (pTab 1 .u64 Lib.pow10Tab) (pEq (.int .i64 v_0)))] (pEq (.int .i64 r)) := by
  unfold m_impl_partOf at h
  refine CallJ.enterH Tryd.func88 rfl Tryd.ntmps88 rfl fun W I0 H => ?_
  refine Tr.tab (s := 0) (k := 99999) rfl ?_; refine Tr.weak (Γ' := [(0, (pEq (.int .i64 v_0))), (99999, (pTab 1 .u64 Lib.pow10Tab))]) ⟨rfl, rfl, trivial⟩ ?_
  refine Tr.seq ?_
  refine Tr.region ?_
  refine RegL.pure (p := (pEq (.int .i64 (0 : Int)))) rfl rfl rfl (J_assign rfl Opd.con) ?_
  refine RegL.nil ?_
  refine Ct.then_tr ?_
  refine Tr.weak (Γ' := [(0, (pEq (.int .i64 v_0))), (99999, (pTab 1 .u64 Lib.pow10Tab))]) ⟨rfl, rfl, trivial⟩ ?_
  refine Tr.seq ?_
  refine Tr.seq ?_
  refine Tr.region ?_
  refine RegL.pure (p := (pEq (.int .i64 v_0))) rfl rfl rfl (J_move rfl (Opd.tmp rfl)) ?_
  refine RegL.pure (p := (pEq (.bool (decide (v_0 < (-90000 : Int)))))) rfl rfl rfl (J_bin rfl (Opd.tmp rfl) Opd.con B_lss) ?_
  refine RegL.nil ?_
  refine Ct.then_tr ?_
  refine Tr.weak (Γ' := [(0, (pEq (.int .i64 v_0))), (4, (pEq (.bool (decide (v_0 < (-90000 : Int)))))), (99999, (pTab 1 .u64 Lib.pow10Tab))]) ⟨rfl, rfl, rfl, trivial⟩ ?_
  refine Tr.cond (Opd.tmp rfl) (fun hc => ?_) (fun hc => ?_)
  · replace h := bif_t hc h
    refine Tr.seq ?_
    refine Tr.region ?_
    refine RegL.pure (p := (pEq (.int .i64 (0 : Int)))) rfl rfl rfl (J_assign rfl Opd.con) ?_
    refine RegL.nil ?_
    refine Ct.then_tr ?_
    refine Tr.weak (Γ' := [(2, (pEq (.int .i64 (0 : Int)))), (99999, (pTab 1 .u64 Lib.pow10Tab))]) ⟨rfl, rfl, trivial⟩ ?_
    refine Tr.ret ?_
    refine Ct.then_ret ?_
    replace h := Option.some.inj h; subst h
    exact Ct.retH1 (Ωx := []) () rfl (RvOk.tmp rfl) rfl
  · replace h := bif_f hc h
    refine Tr.skip ?_
    refine Ct.then_tr ?_
    refine Tr.weak (Γ' := [(0, (pEq (.int .i64 v_0))), (99999, (pTab 1 .u64 Lib.pow10Tab))]) ⟨rfl, rfl, trivial⟩ ?_
    refine Tr.seq ?_
    refine Tr.region ?_
    refine RegL.pure (p := (pEq (.int .i64 v_0))) rfl rfl rfl (J_move rfl (Opd.tmp rfl)) ?_
    refine RegL.pure (p := (pEq (.int .i64 (w64 ((90000 : Int) + v_0))))) rfl rfl rfl (J_bin rfl Opd.con (Opd.tmp rfl) B_add) ?_
    replace h := bind_some h; obtain ⟨x1, hx1, h⟩ := h
    refine RegL.pure (p := (pEq (.int .i64 x1))) rfl rfl rfl (J_call rfl Tryd.call111 (c_impl_PowDb hx1) (Opds.cons (Opd.tab (Opd.tmp rfl) 99999 rfl) Opds.nil)) ?_
    refine RegL.pure (p := (pEq (.int .i64 x1))) rfl rfl rfl (J_assign rfl (Opd.tmp rfl)) ?_
    refine RegL.nil ?_
    refine Ct.then_tr ?_
    refine Tr.weak (Γ' := [(2, (pEq (.int .i64 x1))), (99999, (pTab 1 .u64 Lib.pow10Tab))]) ⟨rfl, rfl, trivial⟩ ?_
    refine Tr.ret ?_
    replace h := Option.some.inj h; subst h
    exact Ct.retH1 (Ωx := []) () rfl (RvOk.tmp rfl) rfl

theorem c_impl_discrimination {emission_0 : GMask} {filter_1 : GMask} {shift_2 : Int} {r : Int} (h : m_impl_discrimination emission_0 filter_1 shift_2 = some r) : CallJ Tryd.prog 55 [(pAgg (cGMask emission_0)), (pAgg (cGMask filter_1)), (pG (pTab 1 .u64 Lib.pow10Tab) (pEq (.int .i64 shift_2)))] (pEq (.int .i64 r)) := by
  unfold m_impl_discrimination at h
  refine CallJ.enterH Tryd.func55 rfl Tryd.ntmps55 rfl fun W I0 H => ?_
  refine Tr.tab (s := 2) (k := 99999) rfl ?_; refine Tr.weak (Γ' := [(0, (pAgg (cGMask emission_0))), (1, (pAgg (cGMask filter_1))), (2, (pEq (.int .i64 shift_2))), (99999, (pTab 1 .u64 Lib.pow10Tab))]) ⟨rfl, rfl, rfl, rfl, trivial⟩ ?_
  refine Tr.seq ?_
  refine Tr.region ?_
  refine RegL.pure (p := (pPtr (cGMask emission_0))) rfl rfl rfl (J_boxA rfl (Opd.tmp rfl)) ?_
  refine RegL.pure (p := (pPtr (cGMask filter_1))) rfl rfl rfl (J_boxA rfl (Opd.tmp rfl)) ?_
  refine RegL.pure (p := (pEq (.int .i64 (0 : Int)))) rfl rfl rfl (J_assign rfl Opd.con) ?_
  refine RegL.nil ?_
  refine Ct.then_tr ?_
  refine Tr.weak (Γ' := [(2, (pEq (.int .i64 shift_2))), (3, (pPtr (cGMask emission_0))), (4, (pPtr (cGMask filter_1))), (99999, (pTab 1 .u64 Lib.pow10Tab))]) ⟨rfl, rfl, rfl, rfl, trivial⟩ ?_
  refine Tr.seq ?_
  refine Tr.region ?_
  refine RegL.pure (p := (pEq (.int .i64 (0 : Int)))) rfl rfl rfl (J_assign rfl Opd.con) ?_
  refine RegL.pure (p := (pEq (.int .i64 (0 : Int)))) rfl rfl rfl (J_assign rfl Opd.con) ?_
  refine RegL.nil ?_
  refine Ct.then_tr ?_
  refine Tr.weak (Γ' := [(2, (pEq (.int .i64 shift_2))), (3, (pPtr (cGMask emission_0))), (4, (pPtr (cGMask filter_1))), (7, (pEq (.int .i64 (0 : Int)))), (8, (pEq (.int .i64 (0 : Int)))), (99999, (pTab 1 .u64 Lib.pow10Tab))]) ⟨rfl, rfl, rfl, rfl, rfl, rfl, trivial⟩ ?_
  refine Tr.seq ?_
  refine Tr.region ?_
  refine RegL.pure (p := (pAgg (cGMask emission_0))) rfl rfl rfl (J_loadA rfl Tryd.isAgg39 sz39 (Opd.tmp rfl) rfl) ?_
  replace h := bind_some h; obtain ⟨x1, hx1, h⟩ := h
  refine RegL.pure (p := (pEq (.int .i64 x1))) rfl rfl rfl (J_call rfl Tryd.call85 (c_impl_Mask_end hx1) (Opds.cons (Opd.tmp rfl) Opds.nil)) ?_
  refine RegL.pure (p := (pEq (.int .i64 x1))) rfl rfl rfl (J_assign rfl (Opd.tmp rfl)) ?_
  refine RegL.nil ?_
  refine Ct.then_tr ?_
  refine Tr.weak (Γ' := [(2, (pEq (.int .i64 shift_2))), (3, (pPtr (cGMask emission_0))), (4, (pPtr (cGMask filter_1))), (7, (pEq (.int .i64 (0 : Int)))), (8, (pEq (.int .i64 (0 : Int)))), (9, (pEq (.int .i64 x1))), (99999, (pTab 1 .u64 Lib.pow10Tab))]) ⟨rfl, rfl, rfl, rfl, rfl, rfl, rfl, trivial⟩ ?_
  refine Tr.seq ?_
  refine Tr.seq ?_
  refine Tr.region ?_
  refine RegL.pure (p := (pEq (.int .i64 (0 : Int)))) rfl rfl rfl (J_move rfl Opd.con) ?_
  refine RegL.nil ?_
  refine Ct.then_tr ?_
  refine Tr.weak (Γ' := [(2, (pEq (.int .i64 shift_2))), (3, (pPtr (cGMask emission_0))), (4, (pPtr (cGMask filter_1))), (7, (pEq (.int .i64 (0 : Int)))), (8, (pEq (.int .i64 (0 : Int)))), (9, (pEq (.int .i64 x1))), (15, (pEq (.int .i64 (0 : Int)))), (99999, (pTab 1 .u64 Lib.pow10Tab))]) ⟨rfl, rfl, rfl, rfl, rfl, rfl, rfl, rfl, trivial⟩ ?_
  replace h := bind_some h; obtain ⟨x2, hx2, h⟩ := h
  refine Tr.cut (γ := Unit) (Γm := fun g => [(7, (pEq (.int .i64 x2.1))), (8, (pEq (.int .i64 x2.2))), (99999, (pTab 1 .u64 Lib.pow10Tab))]) (Ωm := fun g => []) ?_ (fun g13 => ?_)
  · clear h
    have h := hx2
    clear hx2
    refine Tr.block ?_
    refine Tr.weak (Γ' := [(2, (pEq (.int .i64 shift_2))), (3, (pPtr (cGMask emission_0))), (4, (pPtr (cGMask filter_1))), (7, (pEq (.int .i64 (0 : Int)))), (8, (pEq (.int .i64 (0 : Int)))), (9, (pEq (.int .i64 x1))), (15, (pEq (.int .i64 (0 : Int)))), (99999, (pTab 1 .u64 Lib.pow10Tab))]) ⟨rfl, rfl, rfl, rfl, rfl, rfl, rfl, rfl, trivial⟩ ?_
    refine Tr.loop (γ := Unit) (σ := (Int × Int × Int)) (Γσ := fun s g => [(2, (pEq (.int .i64 shift_2))), (3, (pPtr (cGMask emission_0))), (4, (pPtr (cGMask filter_1))), (7, (pEq (.int .i64 s.1))), (8, (pEq (.int .i64 s.2.1))), (9, (pEq (.int .i64 x1))), (15, (pEq (.int .i64 s.2.2))), (99999, (pTab 1 .u64 Lib.pow10Tab))]) (Ωσ := fun s g => []) (g := ()) h ?_
    clear h
    rintro ⟨v4, v5, v6⟩ g7 t h
    replace h : m_impl_discrimination_B3 emission_0 filter_1 shift_2 x1 v4 v5 v6 = some t := h
    unfold m_impl_discrimination_B3 at h
    refine Tr.weakO (Γ' := [(2, (pEq (.int .i64 shift_2))), (3, (pPtr (cGMask emission_0))), (4, (pPtr (cGMask filter_1))), (7, (pEq (.int .i64 v4))), (8, (pEq (.int .i64 v5))), (9, (pEq (.int .i64 x1))), (15, (pEq (.int .i64 v6))), (99999, (pTab 1 .u64 Lib.pow10Tab))]) (Ω' := []) rfl ⟨rfl, rfl, rfl, rfl, rfl, rfl, rfl, rfl, trivial⟩ ?_
    refine Tr.seq ?_
    refine Tr.region ?_
    refine RegL.pure (p := (pEq (.bool (decide (v6 < (65 : Int)))))) rfl rfl rfl (J_bin rfl (Opd.tmp rfl) Opd.con B_lss) ?_
    refine RegL.nil ?_
    refine Ct.then_tr ?_
    refine Tr.weak (Γ' := [(2, (pEq (.int .i64 shift_2))), (3, (pPtr (cGMask emission_0))), (4, (pPtr (cGMask filter_1))), (7, (pEq (.int .i64 v4))), (8, (pEq (.int .i64 v5))), (9, (pEq (.int .i64 x1))), (15, (pEq (.int .i64 v6))), (16, (pEq (.bool (decide (v6 < (65 : Int)))))), (99999, (pTab 1 .u64 Lib.pow10Tab))]) ⟨rfl, rfl, rfl, rfl, rfl, rfl, rfl, rfl, rfl, trivial⟩ ?_
    refine Tr.seq ?_
    refine Tr.cond (Opd.tmp rfl) (fun hc => ?_) (fun hc => ?_)
    · replace h := bif_t hc h
      refine Tr.skip ?_
      refine Ct.then_tr ?_
      refine Tr.weak (Γ' := [(2, (pEq (.int .i64 shift_2))), (3, (pPtr (cGMask emission_0))), (4, (pPtr (cGMask filter_1))), (7, (pEq (.int .i64 v4))), (8, (pEq (.int .i64 v5))), (9, (pEq (.int .i64 x1))), (15, (pEq (.int .i64 v6))), (99999, (pTab 1 .u64 Lib.pow10Tab))]) ⟨rfl, rfl, rfl, rfl, rfl, rfl, rfl, rfl, trivial⟩ ?_
      refine Tr.seq ?_
      refine Tr.block ?_
      refine Tr.seq ?_
      refine Tr.region ?_
      refine RegL.pure (p := (pEq (.int .i64 v6))) rfl rfl rfl (J_move rfl (Opd.tmp rfl)) ?_
      refine RegL.pure (p := (pEq (.int .i64 v6))) rfl rfl rfl (J_assign rfl (Opd.tmp rfl)) ?_
      refine RegL.nil ?_
      refine Ct.then_tr ?_
      refine Tr.weak (Γ' := [(2, (pEq (.int .i64 shift_2))), (3, (pPtr (cGMask emission_0))), (4, (pPtr (cGMask filter_1))), (7, (pEq (.int .i64 v4))), (8, (pEq (.int .i64 v5))), (9, (pEq (.int .i64 x1))), (10, (pEq (.int .i64 v6))), (15, (pEq (.int .i64 v6))), (99999, (pTab 1 .u64 Lib.pow10Tab))]) ⟨rfl, rfl, rfl, rfl, rfl, rfl, rfl, rfl, rfl, trivial⟩ ?_
      refine Tr.seq ?_
      refine Tr.region ?_
      refine RegL.pure (p := (pEq (.int .i64 x1))) rfl rfl rfl (J_move rfl (Opd.tmp rfl)) ?_
      refine RegL.pure (p := (pEq (.int .i64 (w64 ((2 : Int) * x1))))) rfl rfl rfl (J_bin rfl Opd.con (Opd.tmp rfl) B_mul) ?_
      refine RegL.pure (p := (pEq (.int .i64 v6))) rfl rfl rfl (J_move rfl (Opd.tmp rfl)) ?_
      refine RegL.pure (p := (pEq (.int .i64 (w64 ((w64 ((2 : Int) * x1)) * v6))))) rfl rfl rfl (J_bin rfl (Opd.tmp rfl) (Opd.tmp rfl) B_mul) ?_
      replace h := bind_some h; obtain ⟨x8, hx8, h⟩ := h
      refine RegL.pure (p := (pEq (.int .i64 x8))) rfl rfl rfl (J_call rfl Tryd.call86 (c_impl_divRound hx8) (Opds.cons (Opd.tmp rfl) (Opds.cons Opd.con Opds.nil))) ?_
      refine RegL.pure (p := (pEq (.int .i64 x1))) rfl rfl rfl (J_move rfl (Opd.tmp rfl)) ?_
      refine RegL.pure (p := (pEq (.int .i64 (w64 (x8 - x1))))) rfl rfl rfl (J_bin rfl (Opd.tmp rfl) (Opd.tmp rfl) B_sub) ?_
      refine RegL.pure (p := (pEq (.int .i64 (w64 (x8 - x1))))) rfl rfl rfl (J_assign rfl (Opd.tmp rfl)) ?_
      refine RegL.nil ?_
      refine Ct.then_tr ?_
      refine Tr.weak (Γ' := [(2, (pEq (.int .i64 shift_2))), (3, (pPtr (cGMask emission_0))), (4, (pPtr (cGMask filter_1))), (7, (pEq (.int .i64 v4))), (8, (pEq (.int .i64 v5))), (9, (pEq (.int .i64 x1))), (11, (pEq (.int .i64 (w64 (x8 - x1))))), (15, (pEq (.int .i64 v6))), (99999, (pTab 1 .u64 Lib.pow10Tab))]) ⟨rfl, rfl, rfl, rfl, rfl, rfl, rfl, rfl, rfl, trivial⟩ ?_
      refine Tr.seq ?_
      refine Tr.region ?_
      refine RegL.pure (p := (pAgg (cGMask emission_0))) rfl rfl rfl (J_loadA rfl Tryd.isAgg39 sz39 (Opd.tmp rfl) rfl) ?_
      refine RegL.pure (p := (pEq (.int .i64 (w64 (x8 - x1))))) rfl rfl rfl (J_move rfl (Opd.tmp rfl)) ?_
      replace h := bind_some h; obtain ⟨x9, hx9, h⟩ := h
      refine RegL.pure (p := (pEq (.int .i64 x9))) rfl rfl rfl (J_call rfl Tryd.call87 (c_impl_Mask_loss hx9) (Opds.cons (Opd.tmp rfl) (Opds.cons (Opd.tmp rfl) Opds.nil))) ?_
      refine RegL.pure (p := (pEq (.int .i64 x9))) rfl rfl rfl (J_assign rfl (Opd.tmp rfl)) ?_
      refine RegL.nil ?_
      refine Ct.then_tr ?_
      refine Tr.weak (Γ' := [(2, (pEq (.int .i64 shift_2))), (3, (pPtr (cGMask emission_0))), (4, (pPtr (cGMask filter_1))), (7, (pEq (.int .i64 v4))), (8, (pEq (.int .i64 v5))), (9, (pEq (.int .i64 x1))), (11, (pEq (.int .i64 (w64 (x8 - x1))))), (12, (pEq (.int .i64 x9))), (15, (pEq (.int .i64 v6))), (99999, (pTab 1 .u64 Lib.pow10Tab))]) ⟨rfl, rfl, rfl, rfl, rfl, rfl, rfl, rfl, rfl, rfl, trivial⟩ ?_
      refine Tr.seq ?_
      refine Tr.region ?_
      refine RegL.pure (p := (pEq (.int .i64 v4))) rfl rfl rfl (J_move rfl (Opd.tmp rfl)) ?_
      refine RegL.pure (p := (pEq (.int .i64 x9))) rfl rfl rfl (J_move rfl (Opd.tmp rfl)) ?_
      refine RegL.pure (p := (pEq (.int .i64 (w64 (0 - x9))))) rfl rfl rfl (J_neg rfl (Opd.tmp rfl)) ?_
      replace h := bind_some h; obtain ⟨x10, hx10, h⟩ := h
      refine RegL.pure (p := (pEq (.int .i64 x10))) rfl rfl rfl (J_call rfl Tryd.call88 (c_impl_partOf hx10) (Opds.cons (Opd.tab (Opd.tmp rfl) 99999 rfl) Opds.nil)) ?_
      refine RegL.pure (p := (pEq (.int .i64 (w64 (v4 + x10))))) rfl rfl rfl (J_bin rfl (Opd.tmp rfl) (Opd.tmp rfl) B_add) ?_
      refine RegL.pure (p := (pEq (.int .i64 (w64 (v4 + x10))))) rfl rfl rfl (J_assign rfl (Opd.tmp rfl)) ?_
      refine RegL.nil ?_
      refine Ct.then_tr ?_
      refine Tr.weak (Γ' := [(2, (pEq (.int .i64 shift_2))), (3, (pPtr (cGMask emission_0))), (4, (pPtr (cGMask filter_1))), (7, (pEq (.int .i64 (w64 (v4 + x10))))), (8, (pEq (.int .i64 v5))), (9, (pEq (.int .i64 x1))), (11, (pEq (.int .i64 (w64 (x8 - x1))))), (12, (pEq (.int .i64 x9))), (15, (pEq (.int .i64 v6))), (99999, (pTab 1 .u64 Lib.pow10Tab))]) ⟨rfl, rfl, rfl, rfl, rfl, rfl, rfl, rfl, rfl, rfl, trivial⟩ ?_
      refine Tr.region ?_
      refine RegL.pure (p := (pEq (.int .i64 v5))) rfl rfl rfl (J_move rfl (Opd.tmp rfl)) ?_
      refine RegL.pure (p := (pEq (.int .i64 x9))) rfl rfl rfl (J_move rfl (Opd.tmp rfl)) ?_
      refine RegL.pure (p := (pEq (.int .i64 (w64 (0 - x9))))) rfl rfl rfl (J_neg rfl (Opd.tmp rfl)) ?_
      refine RegL.pure (p := (pAgg (cGMask filter_1))) rfl rfl rfl (J_loadA rfl Tryd.isAgg39 sz39 (Opd.tmp rfl) rfl) ?_
      refine RegL.pure (p := (pEq (.int .i64 (w64 (x8 - x1))))) rfl rfl rfl (J_move rfl (Opd.tmp rfl)) ?_
      refine RegL.pure (p := (pEq (.int .i64 shift_2))) rfl rfl rfl (J_move rfl (Opd.tmp rfl)) ?_
      refine RegL.pure (p := (pEq (.int .i64 (w64 ((w64 (x8 - x1)) - shift_2))))) rfl rfl rfl (J_bin rfl (Opd.tmp rfl) (Opd.tmp rfl) B_sub) ?_
      replace h := bind_some h; obtain ⟨x11, hx11, h⟩ := h
      refine RegL.pure (p := (pEq (.int .i64 x11))) rfl rfl rfl (J_call rfl Tryd.call87 (c_impl_Mask_loss hx11) (Opds.cons (Opd.tmp rfl) (Opds.cons (Opd.tmp rfl) Opds.nil))) ?_
      refine RegL.pure (p := (pEq (.int .i64 (w64 ((w64 (0 - x9)) - x11))))) rfl rfl rfl (J_bin rfl (Opd.tmp rfl) (Opd.tmp rfl) B_sub) ?_
      replace h := bind_some h; obtain ⟨x12, hx12, h⟩ := h
      refine RegL.pure (p := (pEq (.int .i64 x12))) rfl rfl rfl (J_call rfl Tryd.call88 (c_impl_partOf hx12) (Opds.cons (Opd.tab (Opd.tmp rfl) 99999 rfl) Opds.nil)) ?_
      refine RegL.pure (p := (pEq (.int .i64 (w64 (v5 + x12))))) rfl rfl rfl (J_bin rfl (Opd.tmp rfl) (Opd.tmp rfl) B_add) ?_
      refine RegL.pure (p := (pEq (.int .i64 (w64 (v5 + x12))))) rfl rfl rfl (J_assign rfl (Opd.tmp rfl)) ?_
      refine RegL.nil ?_
      refine Ct.blk_normal ?_
      refine Ct.then_tr ?_
      refine Tr.weak (Γ' := [(2, (pEq (.int .i64 shift_2))), (3, (pPtr (cGMask emission_0))), (4, (pPtr (cGMask filter_1))), (7, (pEq (.int .i64 (w64 (v4 + x10))))), (8, (pEq (.int .i64 (w64 (v5 + x12))))), (9, (pEq (.int .i64 x1))), (15, (pEq (.int .i64 v6))), (99999, (pTab 1 .u64 Lib.pow10Tab))]) ⟨rfl, rfl, rfl, rfl, rfl, rfl, rfl, rfl, trivial⟩ ?_
      refine Tr.region ?_
      refine RegL.pure (p := (pEq (.int .i64 (w64 (v6 + (1 : Int)))))) rfl rfl rfl (J_bin rfl (Opd.tmp rfl) Opd.con B_add) ?_
      refine RegL.pure (p := (pEq (.int .i64 (w64 (v6 + (1 : Int)))))) rfl rfl rfl (J_move rfl (Opd.tmp rfl)) ?_
      refine RegL.nil ?_
      replace h := Option.some.inj h; subst h
      exact Ct.again () rfl ⟨rfl, rfl, rfl, rfl, rfl, rfl, rfl, rfl, trivial⟩
    · replace h := bif_f hc h
      refine Tr.exit ?_
      refine Ct.then_exit ?_
      replace h := map_some h; obtain ⟨r1, h, rfl⟩ := h
      refine Ct.out_exit fun e => ?_
      subst e
      refine Ct.blk_exit ?_
      replace h := Option.some.inj h; subst h
      exact Ct.mid () rfl ⟨rfl, rfl, rfl, trivial⟩
  · clear hx2
    refine Ct.then_tr ?_
    refine Tr.weak (Γ' := [(7, (pEq (.int .i64 x2.1))), (8, (pEq (.int .i64 x2.2))), (99999, (pTab 1 .u64 Lib.pow10Tab))]) ⟨rfl, rfl, rfl, trivial⟩ ?_
    refine Tr.seq ?_
    refine Tr.seq ?_
    refine Tr.region ?_
    refine RegL.pure (p := (pEq (.int .i64 x2.2))) rfl rfl rfl (J_move rfl (Opd.tmp rfl)) ?_
    refine RegL.pure (p := (pEq (.bool (x2.2 == (0 : Int))))) rfl rfl rfl (J_bin rfl (Opd.tmp rfl) Opd.con B_eql) ?_
    refine RegL.nil ?_
    refine Ct.then_tr ?_
    refine Tr.weak (Γ' := [(7, (pEq (.int .i64 x2.1))), (8, (pEq (.int .i64 x2.2))), (46, (pEq (.bool (x2.2 == (0 : Int))))), (99999, (pTab 1 .u64 Lib.pow10Tab))]) ⟨rfl, rfl, rfl, rfl, trivial⟩ ?_
    refine Tr.cond (Opd.tmp rfl) (fun hc => ?_) (fun hc => ?_)
    · replace h := bif_t hc h
      refine Tr.seq ?_
      refine Tr.region ?_
      refine RegL.pure (p := (pEq (.int .i64 (120000 : Int)))) rfl rfl rfl (J_assign rfl Opd.con) ?_
      refine RegL.nil ?_
      refine Ct.then_tr ?_
      refine Tr.weak (Γ' := [(6, (pEq (.int .i64 (120000 : Int)))), (99999, (pTab 1 .u64 Lib.pow10Tab))]) ⟨rfl, rfl, trivial⟩ ?_
      refine Tr.ret ?_
      refine Ct.then_ret ?_
      replace h := Option.some.inj h; subst h
      exact Ct.retH1 (Ωx := []) () rfl (RvOk.tmp rfl) rfl
    · replace h := bif_f hc h
      refine Tr.skip ?_
      refine Ct.then_tr ?_
      refine Tr.weak (Γ' := [(7, (pEq (.int .i64 x2.1))), (8, (pEq (.int .i64 x2.2))), (99999, (pTab 1 .u64 Lib.pow10Tab))]) ⟨rfl, rfl, rfl, trivial⟩ ?_
      refine Tr.seq ?_
      refine Tr.region ?_
      refine RegL.pure (p := (pEq (.int .i64 x2.1))) rfl rfl rfl (J_move rfl (Opd.tmp rfl)) ?_
      replace h := bind_some h; obtain ⟨x14, hx14, h⟩ := h
      refine RegL.pure (p := (pEq (.int .i64 x14))) rfl rfl rfl (J_call rfl Tryd.call89 (c_impl_LogDb hx14) (Opds.cons (Opd.tab (Opd.tmp rfl) 99999 rfl) Opds.nil)) ?_
      refine RegL.pure (p := (pEq (.int .i64 x2.2))) rfl rfl rfl (J_move rfl (Opd.tmp rfl)) ?_
      replace h := bind_some h; obtain ⟨x15, hx15, h⟩ := h
      refine RegL.pure (p := (pEq (.int .i64 x15))) rfl rfl rfl (J_call rfl Tryd.call89 (c_impl_LogDb hx15) (Opds.cons (Opd.tab (Opd.tmp rfl) 99999 rfl) Opds.nil)) ?_
      refine RegL.pure (p := (pEq (.int .i64 (w64 (x14 - x15))))) rfl rfl rfl (J_bin rfl (Opd.tmp rfl) (Opd.tmp rfl) B_sub) ?_
      refine RegL.pure (p := (pEq (.int .i64 (w64 (x14 - x15))))) rfl rfl rfl (J_assign rfl (Opd.tmp rfl)) ?_
      refine RegL.nil ?_
      refine Ct.then_tr ?_
      refine Tr.weak (Γ' := [(6, (pEq (.int .i64 (w64 (x14 - x15))))), (99999, (pTab 1 .u64 Lib.pow10Tab))]) ⟨rfl, rfl, trivial⟩ ?_
      refine Tr.ret ?_
      replace h := Option.some.inj h; subst h
      exact Ct.retH1 (Ωx := []) () rfl (RvOk.tmp rfl) rfl

theorem o_impl_DiscriminationTable {emission_0 : GMask} {filter_1 : GMask} {raster_2 : Int} {count_3 : Int}  {r : ((List Int) × Int)} (h : m_impl_DiscriminationTable emission_0 filter_1 raster_2 count_3 = some r) : CallH Tryd.prog 24 [(pAgg (cGMask emission_0)), (pAgg (cGMask filter_1)), (pG (pTab 1 .u64 Lib.pow10Tab) (pEq (.int .i64 raster_2))), (pEq (.int .i64 count_3))] [] (fun g : G3 => (pTup [(pEq (.slice g.1 g.2.1 g.2.2)), (pEq (.int .i64 r.2))])) (fun g : G3 => [oSl 2 1 (cK .i64) g.1 g.2.1 g.2.2 r.1]) := by
  unfold m_impl_DiscriminationTable at h
  refine CallH.enter Tryd.func24 rfl Tryd.ntmps24 rfl fun W I0 H => ?_
  refine Tr.tab (s := 2) (k := 99999) rfl ?_; refine Tr.weak (Γ' := [(0, (pAgg (cGMask emission_0))), (1, (pAgg (cGMask filter_1))), (2, (pEq (.int .i64 raster_2))), (3, (pEq (.int .i64 count_3))), (99999, (pTab 1 .u64 Lib.pow10Tab))]) ⟨rfl, rfl, rfl, rfl, rfl, trivial⟩ ?_
  refine Tr.seq ?_
  refine Tr.region ?_
  refine RegL.pure (p := (pPtr (cGMask emission_0))) rfl rfl rfl (J_boxA rfl (Opd.tmp rfl)) ?_
  refine RegL.pure (p := (pPtr (cGMask filter_1))) rfl rfl rfl (J_boxA rfl (Opd.tmp rfl)) ?_
  refine RegL.pure (p := (pEq (.slice none 0 0))) rfl rfl rfl (J_assign rfl Opd.con) ?_
  refine RegL.pure (p := (pEq (.int .i64 (0 : Int)))) rfl rfl rfl (J_assign rfl Opd.con) ?_
  refine RegL.nil ?_
  refine Ct.then_tr ?_
  refine Tr.weak (Γ' := [(2, (pEq (.int .i64 raster_2))), (3, (pEq (.int .i64 count_3))), (4, (pPtr (cGMask emission_0))), (5, (pPtr (cGMask filter_1))), (99999, (pTab 1 .u64 Lib.pow10Tab))]) ⟨rfl, rfl, rfl, rfl, rfl, trivial⟩ ?_
  refine Tr.seq ?_
  refine Tr.block ?_
  refine Tr.seq ?_
  replace h := bind_some h; obtain ⟨x1, hx1, h⟩ := h
  refine Tr.cut (γ := Unit) (Γm := fun g => [(2, (pEq (.int .i64 raster_2))), (3, (pEq (.int .i64 count_3))), (4, (pPtr (cGMask emission_0))), (5, (pPtr (cGMask filter_1))), (14, (pEq (.bool x1))), (99999, (pTab 1 .u64 Lib.pow10Tab))]) (Ωm := fun g => []) ?_ (fun g5 => ?_)
  · clear h
    have h := hx1
    clear hx1
    refine Tr.region ?_
    refine RegL.pure (p := (pAgg (cGMask emission_0))) rfl rfl rfl (J_loadA rfl Tryd.isAgg39 sz39 (Opd.tmp rfl) rfl) ?_
    replace h := bind_some h; obtain ⟨x2, hx2, h⟩ := h
    refine RegL.pure (p := (pEq (.bool x2))) rfl rfl rfl (J_call rfl Tryd.call53 (c_impl_ValidMask hx2) (Opds.cons (Opd.tmp rfl) Opds.nil)) ?_
    refine RegL.pure (p := (pEq (.bool (!x2)))) rfl rfl rfl (J_not rfl (Opd.tmp rfl)) ?_
    refine RegL.pure (p := (pEq (.bool (!x2)))) rfl rfl rfl (J_move rfl (Opd.tmp rfl)) ?_
    rcases Bool.eq_false_or_eq_true (!x2) with hc3 | hc3
    · replace h := bif_t hc3 h
      refine RegL.skipG rfl rfl rfl hc3 rfl rfl ?_
      refine RegL.skipG rfl rfl rfl hc3 rfl rfl ?_
      refine RegL.skipG rfl rfl rfl hc3 rfl rfl ?_
      refine RegL.pure (p := (pEq (.bool true))) rfl rfl rfl (J_pick rfl (Opd.tmp rfl) (fun _ => Opd.con) (fun hf => absurd (hc3.symm.trans hf) (by decide))) ?_
      refine RegL.pure (p := (pEq (.bool true))) rfl rfl rfl (J_assign rfl (Opd.tmp rfl)) ?_
      refine RegL.nil ?_
      replace h := Option.some.inj h; subst h
      exact Ct.mid () rfl ⟨rfl, rfl, rfl, rfl, rfl, rfl, trivial⟩
    · replace h := bif_f hc3 h
      refine RegL.pureG (p := (pAgg (cGMask filter_1))) rfl rfl rfl hc3 rfl rfl (J_loadA rfl Tryd.isAgg39 sz39 (Opd.tmp rfl) rfl) ?_
      replace h := bind_some h; obtain ⟨x4, hx4, h⟩ := h
      refine RegL.pureG (p := (pEq (.bool x4))) rfl rfl rfl hc3 rfl rfl (J_call rfl Tryd.call53 (c_impl_ValidMask hx4) (Opds.cons (Opd.tmp rfl) Opds.nil)) ?_
      refine RegL.pureG (p := (pEq (.bool (!x4)))) rfl rfl rfl hc3 rfl rfl (J_not rfl (Opd.tmp rfl)) ?_
      refine RegL.pure (p := (pEq (.bool (!x4)))) rfl rfl rfl (J_pick rfl (Opd.tmp rfl) (fun hf => absurd (hc3.symm.trans hf) (by decide)) (fun _ => (Opd.tmp rfl))) ?_
      refine RegL.pure (p := (pEq (.bool (!x4)))) rfl rfl rfl (J_assign rfl (Opd.tmp rfl)) ?_
      refine RegL.nil ?_
      replace h := Option.some.inj h; subst h
      exact Ct.mid () rfl ⟨rfl, rfl, rfl, rfl, rfl, rfl, trivial⟩
  · clear hx1
    refine Ct.then_tr ?_
    refine Tr.weak (Γ' := [(2, (pEq (.int .i64 raster_2))), (3, (pEq (.int .i64 count_3))), (4, (pPtr (cGMask emission_0))), (5, (pPtr (cGMask filter_1))), (14, (pEq (.bool x1))), (99999, (pTab 1 .u64 Lib.pow10Tab))]) ⟨rfl, rfl, rfl, rfl, rfl, rfl, trivial⟩ ?_
    refine Tr.cond (Opd.tmp rfl) (fun hc => ?_) (fun hc => ?_)
    · replace h := bif_t hc h
      refine Tr.seq ?_
      refine Tr.region ?_
      refine RegL.pure (p := (pEq (.slice none 0 0))) rfl rfl rfl (J_assign rfl Opd.con) ?_
      refine RegL.pure (p := (pEq (.int .i64 (1 : Int)))) rfl rfl rfl (J_assign rfl Opd.con) ?_
      refine RegL.nil ?_
      refine Ct.then_tr ?_
      refine Tr.weak (Γ' := [(8, (pEq (.slice none 0 0))), (9, (pEq (.int .i64 (1 : Int)))), (99999, (pTab 1 .u64 Lib.pow10Tab))]) ⟨rfl, rfl, rfl, trivial⟩ ?_
      refine Tr.ret ?_
      refine Ct.blk_ret ?_
      refine Ct.then_ret ?_
      refine Ct.re (Ω2 := [oSl 2 1 (cK .i64) none 0 0 ([] : (List Int))]) (fun h => SatO.nilRow h) ?_
      replace h := Option.some.inj h; subst h
      exact Ct.retH2 (Ωx := []) (none, 0, 0) rfl (RvOk.tmp rfl) (RvOk.tmp rfl) rfl rfl
    · replace h := bif_f hc h
      refine Tr.seq ?_
      replace h := bind_some h; obtain ⟨x7, hx7, h⟩ := h
      refine Tr.cut (γ := Unit) (Γm := fun g => [(2, (pEq (.int .i64 raster_2))), (3, (pEq (.int .i64 count_3))), (4, (pPtr (cGMask emission_0))), (5, (pPtr (cGMask filter_1))), (23, (pEq (.bool x7))), (99999, (pTab 1 .u64 Lib.pow10Tab))]) (Ωm := fun g => []) ?_ (fun g11 => ?_)
      · clear h
        have h := hx7
        clear hx7
        refine Tr.region ?_
        refine RegL.pure (p := (pEq (.int .i64 raster_2))) rfl rfl rfl (J_move rfl (Opd.tmp rfl)) ?_
        replace h := bind_some h; obtain ⟨x8, hx8, h⟩ := h
        refine RegL.pure (p := (pEq (.bool x8))) rfl rfl rfl (J_call rfl Tryd.call57 (c_impl_within hx8) (Opds.cons (Opd.tmp rfl) (Opds.cons Opd.con (Opds.cons Opd.con Opds.nil)))) ?_
        refine RegL.pure (p := (pEq (.bool (!x8)))) rfl rfl rfl (J_not rfl (Opd.tmp rfl)) ?_
        refine RegL.pure (p := (pEq (.bool (!x8)))) rfl rfl rfl (J_move rfl (Opd.tmp rfl)) ?_
        rcases Bool.eq_false_or_eq_true (!x8) with hc9 | hc9
        · replace h := bif_t hc9 h
          refine RegL.skipG rfl rfl rfl hc9 rfl rfl ?_
          refine RegL.skipG rfl rfl rfl hc9 rfl rfl ?_
          refine RegL.skipG rfl rfl rfl hc9 rfl rfl ?_
          refine RegL.pure (p := (pEq (.bool true))) rfl rfl rfl (J_pick rfl (Opd.tmp rfl) (fun _ => Opd.con) (fun hf => absurd (hc9.symm.trans hf) (by decide))) ?_
          refine RegL.pure (p := (pEq (.bool true))) rfl rfl rfl (J_assign rfl (Opd.tmp rfl)) ?_
          refine RegL.nil ?_
          replace h := Option.some.inj h; subst h
          exact Ct.mid () rfl ⟨rfl, rfl, rfl, rfl, rfl, rfl, trivial⟩
        · replace h := bif_f hc9 h
          refine RegL.pureG (p := (pEq (.int .i64 count_3))) rfl rfl rfl hc9 rfl rfl (J_move rfl (Opd.tmp rfl)) ?_
          replace h := bind_some h; obtain ⟨x10, hx10, h⟩ := h
          refine RegL.pureG (p := (pEq (.bool x10))) rfl rfl rfl hc9 rfl rfl (J_call rfl Tryd.call57 (c_impl_within hx10) (Opds.cons (Opd.tmp rfl) (Opds.cons Opd.con (Opds.cons Opd.con Opds.nil)))) ?_
          refine RegL.pureG (p := (pEq (.bool (!x10)))) rfl rfl rfl hc9 rfl rfl (J_not rfl (Opd.tmp rfl)) ?_
          refine RegL.pure (p := (pEq (.bool (!x10)))) rfl rfl rfl (J_pick rfl (Opd.tmp rfl) (fun hf => absurd (hc9.symm.trans hf) (by decide)) (fun _ => (Opd.tmp rfl))) ?_
          refine RegL.pure (p := (pEq (.bool (!x10)))) rfl rfl rfl (J_assign rfl (Opd.tmp rfl)) ?_
          refine RegL.nil ?_
          replace h := Option.some.inj h; subst h
          exact Ct.mid () rfl ⟨rfl, rfl, rfl, rfl, rfl, rfl, trivial⟩
      · clear hx7
        refine Ct.then_tr ?_
        refine Tr.weak (Γ' := [(2, (pEq (.int .i64 raster_2))), (3, (pEq (.int .i64 count_3))), (4, (pPtr (cGMask emission_0))), (5, (pPtr (cGMask filter_1))), (23, (pEq (.bool x7))), (99999, (pTab 1 .u64 Lib.pow10Tab))]) ⟨rfl, rfl, rfl, rfl, rfl, rfl, trivial⟩ ?_
        refine Tr.cond (Opd.tmp rfl) (fun hc => ?_) (fun hc => ?_)
        · replace h := bif_t hc h
          refine Tr.seq ?_
          refine Tr.region ?_
          refine RegL.pure (p := (pEq (.slice none 0 0))) rfl rfl rfl (J_assign rfl Opd.con) ?_
          refine RegL.pure (p := (pEq (.int .i64 (2 : Int)))) rfl rfl rfl (J_assign rfl Opd.con) ?_
          refine RegL.nil ?_
          refine Ct.then_tr ?_
          refine Tr.weak (Γ' := [(8, (pEq (.slice none 0 0))), (9, (pEq (.int .i64 (2 : Int)))), (99999, (pTab 1 .u64 Lib.pow10Tab))]) ⟨rfl, rfl, rfl, trivial⟩ ?_
          refine Tr.ret ?_
          refine Ct.blk_ret ?_
          refine Ct.then_ret ?_
          refine Ct.re (Ω2 := [oSl 2 1 (cK .i64) none 0 0 ([] : (List Int))]) (fun h => SatO.nilRow h) ?_
          replace h := Option.some.inj h; subst h
          exact Ct.retH2 (Ωx := []) (none, 0, 0) rfl (RvOk.tmp rfl) (RvOk.tmp rfl) rfl rfl
        · replace h := bif_f hc h
          refine Tr.skip ?_
          refine Ct.blk_normal ?_
          refine Ct.then_tr ?_
          refine Tr.weak (Γ' := [(2, (pEq (.int .i64 raster_2))), (3, (pEq (.int .i64 count_3))), (4, (pPtr (cGMask emission_0))), (5, (pPtr (cGMask filter_1))), (99999, (pTab 1 .u64 Lib.pow10Tab))]) ⟨rfl, rfl, rfl, rfl, rfl, trivial⟩ ?_
          refine Tr.seq ?_
          refine Tr.region ?_
          refine RegL.pure (p := (pAgg (cGMask emission_0))) rfl rfl rfl (J_loadA rfl Tryd.isAgg39 sz39 (Opd.tmp rfl) rfl) ?_
          refine RegL.pure (p := (pAgg (cGMask filter_1))) rfl rfl rfl (J_loadA rfl Tryd.isAgg39 sz39 (Opd.tmp rfl) rfl) ?_
          replace h := bind_some h; obtain ⟨x13, hx13, h⟩ := h
          refine RegL.pure (p := (pEq (.int .i64 x13))) rfl rfl rfl (J_call rfl Tryd.call55 (c_impl_discrimination hx13) (Opds.cons (Opd.tmp rfl) (Opds.cons (Opd.tmp rfl) (Opds.cons (Opd.tab Opd.con 99999 rfl) Opds.nil)))) ?_
          refine RegL.pure (p := (pEq (.int .i64 x13))) rfl rfl rfl (J_assign rfl (Opd.tmp rfl)) ?_
          refine RegL.nil ?_
          refine Ct.then_tr ?_
          refine Tr.weak (Γ' := [(2, (pEq (.int .i64 raster_2))), (3, (pEq (.int .i64 count_3))), (4, (pPtr (cGMask emission_0))), (5, (pPtr (cGMask filter_1))), (10, (pEq (.int .i64 x13))), (99999, (pTab 1 .u64 Lib.pow10Tab))]) ⟨rfl, rfl, rfl, rfl, rfl, rfl, trivial⟩ ?_
          refine Tr.seq ?_
          refine Tr.region ?_
          refine RegL.pure (p := (pEq (.int .i64 x13))) rfl rfl rfl (J_move rfl (Opd.tmp rfl)) ?_
          refine RegL.pure (p := (pEq (.int .i64 x13))) rfl rfl rfl (J_assign rfl (Opd.tmp rfl)) ?_
          refine RegL.nil ?_
          refine Ct.then_tr ?_
          refine Tr.weak (Γ' := [(2, (pEq (.int .i64 raster_2))), (3, (pEq (.int .i64 count_3))), (4, (pPtr (cGMask emission_0))), (5, (pPtr (cGMask filter_1))), (10, (pEq (.int .i64 x13))), (11, (pEq (.int .i64 x13))), (99999, (pTab 1 .u64 Lib.pow10Tab))]) ⟨rfl, rfl, rfl, rfl, rfl, rfl, rfl, trivial⟩ ?_
          refine Tr.seq ?_
          refine Tr.region ?_
          refine RegL.pure (p := (pEq (.slice none 0 0))) rfl rfl rfl (J_assign rfl Opd.con) ?_
          refine RegL.nil ?_
          refine Ct.then_tr ?_
          refine Tr.weak (Γ' := [(2, (pEq (.int .i64 raster_2))), (3, (pEq (.int .i64 count_3))), (4, (pPtr (cGMask emission_0))), (5, (pPtr (cGMask filter_1))), (10, (pEq (.int .i64 x13))), (11, (pEq (.int .i64 x13))), (12, (pEq (.slice none 0 0))), (99999, (pTab 1 .u64 Lib.pow10Tab))]) ⟨rfl, rfl, rfl, rfl, rfl, rfl, rfl, rfl, trivial⟩ ?_
          refine Tr.seq ?_
          refine Tr.seq ?_
          refine Tr.region ?_
          refine RegL.pure (p := (pEq (.int .i64 count_3))) rfl rfl rfl (J_move rfl (Opd.tmp rfl)) ?_
          refine RegL.pure (p := (pEq (.int .i64 (0 : Int)))) rfl rfl rfl (J_move rfl Opd.con) ?_
          refine RegL.nil ?_
          refine Ct.then_tr ?_
          refine Tr.weak (Γ' := [(2, (pEq (.int .i64 raster_2))), (4, (pPtr (cGMask emission_0))), (5, (pPtr (cGMask filter_1))), (10, (pEq (.int .i64 x13))), (11, (pEq (.int .i64 x13))), (12, (pEq (.slice none 0 0))), (36, (pEq (.int .i64 count_3))), (37, (pEq (.int .i64 (0 : Int)))), (99999, (pTab 1 .u64 Lib.pow10Tab))]) ⟨rfl, rfl, rfl, rfl, rfl, rfl, rfl, rfl, rfl, trivial⟩ ?_
          refine Tr.re (Ω2 := [oSl 2 1 (cK .i64) none 0 0 ([] : (List Int))]) (fun h => SatO.nilRow h) ?_
          replace h := bind_some h; obtain ⟨x15, hx15, h⟩ := h
          refine Tr.cut (γ := G3) (Γm := fun g => [(12, (pEq (.slice g.1 g.2.1 g.2.2))), (99999, (pTab 1 .u64 Lib.pow10Tab))]) (Ωm := fun g => [oSl 2 1 (cK .i64) g.1 g.2.1 g.2.2 x15]) ?_ (fun g24 => ?_)
          · clear h
            have h := hx15
            clear hx15
            refine Tr.block ?_
            refine Tr.weak (Γ' := [(2, (pEq (.int .i64 raster_2))), (4, (pPtr (cGMask emission_0))), (5, (pPtr (cGMask filter_1))), (10, (pEq (.int .i64 x13))), (11, (pEq (.int .i64 x13))), (12, (pEq (.slice none 0 0))), (36, (pEq (.int .i64 count_3))), (37, (pEq (.int .i64 (0 : Int)))), (99999, (pTab 1 .u64 Lib.pow10Tab))]) ⟨rfl, rfl, rfl, rfl, rfl, rfl, rfl, rfl, rfl, trivial⟩ ?_
            refine Tr.loop (γ := G3) (σ := (Int × Int × (List Int))) (Γσ := fun s g => [(2, (pEq (.int .i64 raster_2))), (4, (pPtr (cGMask emission_0))), (5, (pPtr (cGMask filter_1))), (10, (pEq (.int .i64 x13))), (11, (pEq (.int .i64 s.1))), (12, (pEq (.slice g.1 g.2.1 g.2.2))), (36, (pEq (.int .i64 count_3))), (37, (pEq (.int .i64 s.2.1))), (99999, (pTab 1 .u64 Lib.pow10Tab))]) (Ωσ := fun s g => [oSl 2 1 (cK .i64) g.1 g.2.1 g.2.2 s.2.2]) (g := (none, 0, 0)) h ?_
            clear h
            rintro ⟨v17, v18, v19⟩ g20 t h
            replace h : m_impl_DiscriminationTable_B16 emission_0 filter_1 raster_2 count_3 x13 v17 v18 v19 = some t := h
            unfold m_impl_DiscriminationTable_B16 at h
            refine Tr.weakO (Γ' := [(2, (pEq (.int .i64 raster_2))), (4, (pPtr (cGMask emission_0))), (5, (pPtr (cGMask filter_1))), (10, (pEq (.int .i64 x13))), (11, (pEq (.int .i64 v17))), (12, (pEq (.slice g20.1 g20.2.1 g20.2.2))), (36, (pEq (.int .i64 count_3))), (37, (pEq (.int .i64 v18))), (99999, (pTab 1 .u64 Lib.pow10Tab))]) (Ω' := [oSl 2 1 (cK .i64) g20.1 g20.2.1 g20.2.2 v19]) rfl ⟨rfl, rfl, rfl, rfl, rfl, rfl, rfl, rfl, rfl, trivial⟩ ?_
            refine Tr.seq ?_
            refine Tr.region ?_
            refine RegL.pure (p := (pEq (.bool (decide (v18 < count_3))))) rfl rfl rfl (J_bin rfl (Opd.tmp rfl) (Opd.tmp rfl) B_lss) ?_
            refine RegL.nil ?_
            refine Ct.then_tr ?_
            refine Tr.weak (Γ' := [(2, (pEq (.int .i64 raster_2))), (4, (pPtr (cGMask emission_0))), (5, (pPtr (cGMask filter_1))), (10, (pEq (.int .i64 x13))), (11, (pEq (.int .i64 v17))), (12, (pEq (.slice g20.1 g20.2.1 g20.2.2))), (36, (pEq (.int .i64 count_3))), (37, (pEq (.int .i64 v18))), (38, (pEq (.bool (decide (v18 < count_3))))), (99999, (pTab 1 .u64 Lib.pow10Tab))]) ⟨rfl, rfl, rfl, rfl, rfl, rfl, rfl, rfl, rfl, rfl, trivial⟩ ?_
            refine Tr.seq ?_
            refine Tr.cond (Opd.tmp rfl) (fun hc => ?_) (fun hc => ?_)
            · replace h := bif_t hc h
              refine Tr.skip ?_
              refine Ct.then_tr ?_
              refine Tr.weak (Γ' := [(2, (pEq (.int .i64 raster_2))), (4, (pPtr (cGMask emission_0))), (5, (pPtr (cGMask filter_1))), (10, (pEq (.int .i64 x13))), (11, (pEq (.int .i64 v17))), (12, (pEq (.slice g20.1 g20.2.1 g20.2.2))), (36, (pEq (.int .i64 count_3))), (37, (pEq (.int .i64 v18))), (99999, (pTab 1 .u64 Lib.pow10Tab))]) ⟨rfl, rfl, rfl, rfl, rfl, rfl, rfl, rfl, rfl, trivial⟩ ?_
              refine Tr.seq ?_
              refine Tr.block ?_
              refine Tr.seq ?_
              refine Tr.region ?_
              refine RegL.pure (p := (pEq (.int .i64 v18))) rfl rfl rfl (J_move rfl (Opd.tmp rfl)) ?_
              refine RegL.pure (p := (pEq (.int .i64 v18))) rfl rfl rfl (J_assign rfl (Opd.tmp rfl)) ?_
              refine RegL.nil ?_
              refine Ct.then_tr ?_
              refine Tr.weak (Γ' := [(2, (pEq (.int .i64 raster_2))), (4, (pPtr (cGMask emission_0))), (5, (pPtr (cGMask filter_1))), (10, (pEq (.int .i64 x13))), (11, (pEq (.int .i64 v17))), (12, (pEq (.slice g20.1 g20.2.1 g20.2.2))), (13, (pEq (.int .i64 v18))), (36, (pEq (.int .i64 count_3))), (37, (pEq (.int .i64 v18))), (99999, (pTab 1 .u64 Lib.pow10Tab))]) ⟨rfl, rfl, rfl, rfl, rfl, rfl, rfl, rfl, rfl, rfl, trivial⟩ ?_
              refine Tr.seq ?_
              refine Tr.region ?_
              refine RegL.pure (p := (pEq (.int .i64 v17))) rfl rfl rfl (J_move rfl (Opd.tmp rfl)) ?_
              refine RegL.pure (p := (pAgg (cGMask emission_0))) rfl rfl rfl (J_loadA rfl Tryd.isAgg39 sz39 (Opd.tmp rfl) rfl) ?_
              refine RegL.pure (p := (pAgg (cGMask filter_1))) rfl rfl rfl (J_loadA rfl Tryd.isAgg39 sz39 (Opd.tmp rfl) rfl) ?_
              refine RegL.pure (p := (pEq (.int .i64 v18))) rfl rfl rfl (J_move rfl (Opd.tmp rfl)) ?_
              refine RegL.pure (p := (pEq (.int .i64 raster_2))) rfl rfl rfl (J_move rfl (Opd.tmp rfl)) ?_
              refine RegL.pure (p := (pEq (.int .i64 (w64 (v18 * raster_2))))) rfl rfl rfl (J_bin rfl (Opd.tmp rfl) (Opd.tmp rfl) B_mul) ?_
              replace h := bind_some h; obtain ⟨x21, hx21, h⟩ := h
              refine RegL.pure (p := (pEq (.int .i64 x21))) rfl rfl rfl (J_call rfl Tryd.call55 (c_impl_discrimination hx21) (Opds.cons (Opd.tmp rfl) (Opds.cons (Opd.tmp rfl) (Opds.cons (Opd.tab (Opd.tmp rfl) 99999 rfl) Opds.nil)))) ?_
              refine RegL.pure (p := (pEq (.int .i64 (if x21 > v17 then x21 else v17)))) rfl rfl rfl (J_max2 rfl (Opd.tmp rfl) (Opd.tmp rfl)) ?_
              refine RegL.pure (p := (pEq (.int .i64 (if x21 > v17 then x21 else v17)))) rfl rfl rfl (J_assign rfl (Opd.tmp rfl)) ?_
              refine RegL.nil ?_
              refine Ct.then_tr ?_
              refine Tr.weak (Γ' := [(2, (pEq (.int .i64 raster_2))), (4, (pPtr (cGMask emission_0))), (5, (pPtr (cGMask filter_1))), (10, (pEq (.int .i64 x13))), (11, (pEq (.int .i64 (if x21 > v17 then x21 else v17)))), (12, (pEq (.slice g20.1 g20.2.1 g20.2.2))), (36, (pEq (.int .i64 count_3))), (37, (pEq (.int .i64 v18))), (99999, (pTab 1 .u64 Lib.pow10Tab))]) ⟨rfl, rfl, rfl, rfl, rfl, rfl, rfl, rfl, rfl, trivial⟩ ?_
              refine Tr.region ?_
              refine RegL.pure (p := (pEq (.slice g20.1 g20.2.1 g20.2.2))) rfl rfl rfl (J_move rfl (Opd.tmp rfl)) ?_
              refine RegL.pure (p := (pEq (.int .i64 (if x21 > v17 then x21 else v17)))) rfl rfl rfl (J_move rfl (Opd.tmp rfl)) ?_
              refine RegL.pure (p := (pEq (.int .i64 x13))) rfl rfl rfl (J_move rfl (Opd.tmp rfl)) ?_
              refine RegL.pure (p := (pEq (.int .i64 (w64 ((if x21 > v17 then x21 else v17) - x13))))) rfl rfl rfl (J_bin rfl (Opd.tmp rfl) (Opd.tmp rfl) B_sub) ?_
              refine RegL.pure (p := (pEq (.int .i64 (if (0 : Int) > (w64 ((if x21 > v17 then x21 else v17) - x13)) then (0 : Int) else (w64 ((if x21 > v17 then x21 else v17) - x13)))))) rfl rfl rfl (J_max2 rfl (Opd.tmp rfl) Opd.con) ?_
              refine RegL.pure (p := (pSl 1 (cK .i64) ([(if (0 : Int) > (w64 ((if x21 > v17 then x21 else v17) - x13)) then (0 : Int) else (w64 ((if x21 > v17 then x21 else v17) - x13)))] : (List Int)))) rfl rfl rfl (J_buildSlice (l := ([(if (0 : Int) > (w64 ((if x21 > v17 then x21 else v17) - x13)) then (0 : Int) else (w64 ((if x21 > v17 then x21 else v17) - x13)))] : (List Int))) (qss := [(0, (cK .i64) (if (0 : Int) > (w64 ((if x21 > v17 then x21 else v17) - x13)) then (0 : Int) else (w64 ((if x21 > v17 then x21 else v17) - x13))))]) rfl Tryd.underlying22 el2 rfl (Parts.cons (Part.one (Opd.tmp rfl) OneC.int) Parts.nil) rfl rfl) ?_
              replace h := bind_some h; obtain ⟨x22, hx22, h⟩ := h
              refine RegL.step (γ := Option Addr × Nat) (p := fun g => pEq (.slice g.1 x22.length g.2)) (Ω' := fun g => [oSl 2 1 (cK .i64) g.1 x22.length g.2 x22]) rfl rfl rfl (M_appendI rfl Tryd.underlying22 el2 (Opd.tmp rfl) (Opd.tmp rfl) hx22) fun g23 => ?_
              refine RegL.pure (p := (pEq (.slice g23.1 x22.length g23.2))) rfl rfl rfl (J_assign rfl (Opd.tmp rfl)) ?_
              refine RegL.nil ?_
              refine Ct.blk_normal ?_
              refine Ct.then_tr ?_
              refine Tr.weak (Γ' := [(2, (pEq (.int .i64 raster_2))), (4, (pPtr (cGMask emission_0))), (5, (pPtr (cGMask filter_1))), (10, (pEq (.int .i64 x13))), (11, (pEq (.int .i64 (if x21 > v17 then x21 else v17)))), (12, (pEq (.slice g23.1 x22.length g23.2))), (36, (pEq (.int .i64 count_3))), (37, (pEq (.int .i64 v18))), (99999, (pTab 1 .u64 Lib.pow10Tab))]) ⟨rfl, rfl, rfl, rfl, rfl, rfl, rfl, rfl, rfl, trivial⟩ ?_
              refine Tr.region ?_
              refine RegL.pure (p := (pEq (.int .i64 (w64 (v18 + (1 : Int)))))) rfl rfl rfl (J_bin rfl (Opd.tmp rfl) Opd.con B_add) ?_
              refine RegL.pure (p := (pEq (.int .i64 (w64 (v18 + (1 : Int)))))) rfl rfl rfl (J_move rfl (Opd.tmp rfl)) ?_
              refine RegL.nil ?_
              replace h := Option.some.inj h; subst h
              exact Ct.again (g23.1, x22.length, g23.2) rfl ⟨rfl, rfl, rfl, rfl, rfl, rfl, rfl, rfl, rfl, trivial⟩
            · replace h := bif_f hc h
              refine Tr.exit ?_
              refine Ct.then_exit ?_
              replace h := map_some h; obtain ⟨r1, h, rfl⟩ := h
              refine Ct.out_exit fun e => ?_
              subst e
              refine Ct.blk_exit ?_
              replace h := Option.some.inj h; subst h
              exact Ct.mid (g20.1, g20.2.1, g20.2.2) rfl ⟨rfl, rfl, trivial⟩
          · clear hx15
            refine Ct.then_tr ?_
            refine Tr.weak (Γ' := [(12, (pEq (.slice g24.1 g24.2.1 g24.2.2))), (99999, (pTab 1 .u64 Lib.pow10Tab))]) ⟨rfl, rfl, trivial⟩ ?_
            refine Tr.seq ?_
            refine Tr.region ?_
            refine RegL.pure (p := (pEq (.slice g24.1 g24.2.1 g24.2.2))) rfl rfl rfl (J_move rfl (Opd.tmp rfl)) ?_
            refine RegL.pure (p := (pEq (.slice g24.1 g24.2.1 g24.2.2))) rfl rfl rfl (J_assign rfl (Opd.tmp rfl)) ?_
            refine RegL.pure (p := (pEq (.int .i64 (0 : Int)))) rfl rfl rfl (J_assign rfl Opd.con) ?_
            refine RegL.nil ?_
            refine Ct.then_tr ?_
            refine Tr.weak (Γ' := [(8, (pEq (.slice g24.1 g24.2.1 g24.2.2))), (9, (pEq (.int .i64 (0 : Int)))), (99999, (pTab 1 .u64 Lib.pow10Tab))]) ⟨rfl, rfl, rfl, trivial⟩ ?_
            refine Tr.ret ?_
            replace h := Option.some.inj h; subst h
            exact Ct.retH2 (Ωx := []) (g24.1, g24.2.1, g24.2.2) rfl (RvOk.tmp rfl) (RvOk.tmp rfl) rfl rfl

theorem c_impl_DiscriminationTable {emission_0 : GMask} {filter_1 : GMask} {raster_2 : Int} {count_3 : Int} {r : ((List Int) × Int)} (h : m_impl_DiscriminationTable emission_0 filter_1 raster_2 count_3 = some r) : CallJ Tryd.prog 24 [(pAgg (cGMask emission_0)), (pAgg (cGMask filter_1)), (pG (pTab 1 .u64 Lib.pow10Tab) (pEq (.int .i64 raster_2))), (pEq (.int .i64 count_3))] (pTup [(pSl 1 (cK .i64) r.1), (pEq (.int .i64 r.2))]) :=
  CallH.frozen (o_impl_DiscriminationTable h) (fun g => (Conv.tup (Convs.cons (Conv.row (f := (cK .i64)) 0 (fun _ => rfl) rfl) (Convs.cons Conv.refl Convs.nil))))

theorem c_laws_eqInt64S {a_0 : (List Int)} {b_1 : (List Int)} {r : Bool} (h : m_laws_eqInt64S a_0 b_1 = some r) : CallJ Tryd.prog 12 [(pSl 1 (cK .i64) a_0), (pSl 1 (cK .i64) b_1)] (pEq (.bool r)) := by
  unfold m_laws_eqInt64S at h
  refine CallJ.enterH Tryd.func12 rfl Tryd.ntmps12 rfl fun W I0 H => ?_
  refine Tr.weak (Γ' := [(0, (pSl 1 (cK .i64) a_0)), (1, (pSl 1 (cK .i64) b_1))]) ⟨rfl, rfl, trivial⟩ ?_
  refine Tr.seq ?_
  refine Tr.region ?_
  refine RegL.pure (p := (pEq (.bool false))) rfl rfl rfl (J_assign rfl Opd.con) ?_
  refine RegL.nil ?_
  refine Ct.then_tr ?_
  refine Tr.weak (Γ' := [(0, (pSl 1 (cK .i64) a_0)), (1, (pSl 1 (cK .i64) b_1))]) ⟨rfl, rfl, trivial⟩ ?_
  refine Tr.seq ?_
  refine Tr.seq ?_
  refine Tr.region ?_
  refine RegL.pure (p := (pSl 1 (cK .i64) a_0)) rfl rfl rfl (J_move rfl (Opd.tmp rfl)) ?_
  refine RegL.pure (p := (pEq (.int .i64 (a_0.length : Int)))) rfl rfl rfl (J_len rfl Tryd.underlying22 (Opd.tmp rfl) rfl) ?_
  refine RegL.pure (p := (pSl 1 (cK .i64) b_1)) rfl rfl rfl (J_move rfl (Opd.tmp rfl)) ?_
  refine RegL.pure (p := (pEq (.int .i64 (b_1.length : Int)))) rfl rfl rfl (J_len rfl Tryd.underlying22 (Opd.tmp rfl) rfl) ?_
  refine RegL.pure (p := (pEq (.bool ((a_0.length : Int) != (b_1.length : Int))))) rfl rfl rfl (J_bin rfl (Opd.tmp rfl) (Opd.tmp rfl) B_neq) ?_
  refine RegL.nil ?_
  refine Ct.then_tr ?_
  refine Tr.weak (Γ' := [(0, (pSl 1 (cK .i64) a_0)), (1, (pSl 1 (cK .i64) b_1)), (10, (pEq (.bool ((a_0.length : Int) != (b_1.length : Int)))))]) ⟨rfl, rfl, rfl, trivial⟩ ?_
  refine Tr.cond (Opd.tmp rfl) (fun hc => ?_) (fun hc => ?_)
  · replace h := bif_t hc h
    refine Tr.seq ?_
    refine Tr.region ?_
    refine RegL.pure (p := (pEq (.bool false))) rfl rfl rfl (J_assign rfl Opd.con) ?_
    refine RegL.nil ?_
    refine Ct.then_tr ?_
    refine Tr.weak (Γ' := [(4, (pEq (.bool false)))]) ⟨rfl, trivial⟩ ?_
    refine Tr.ret ?_
    refine Ct.then_ret ?_
    replace h := Option.some.inj h; subst h
    exact Ct.retH1 (Ωx := []) () rfl (RvOk.tmp rfl) rfl
  · replace h := bif_f hc h
    refine Tr.skip ?_
    refine Ct.then_tr ?_
    refine Tr.weak (Γ' := [(0, (pSl 1 (cK .i64) a_0)), (1, (pSl 1 (cK .i64) b_1))]) ⟨rfl, rfl, trivial⟩ ?_
    refine Tr.seq ?_
    refine Tr.seq ?_
    refine Tr.region ?_
    refine RegL.pure (p := (pEq (.int .i64 (0 : Int)))) rfl rfl rfl (J_assign rfl Opd.con) ?_
    refine RegL.nil ?_
    refine Ct.then_tr ?_
    refine Tr.weak (Γ' := [(0, (pSl 1 (cK .i64) a_0)), (1, (pSl 1 (cK .i64) b_1)), (5, (pEq (.int .i64 (0 : Int))))]) ⟨rfl, rfl, rfl, trivial⟩ ?_
    refine Tr.block ?_
    refine Tr.weak (Γ' := [(0, (pSl 1 (cK .i64) a_0)), (1, (pSl 1 (cK .i64) b_1)), (5, (pEq (.int .i64 (0 : Int))))]) ⟨rfl, rfl, rfl, trivial⟩ ?_
    refine Tr.loop (γ := Unit) (σ := Int) (Γσ := fun s g => [(0, (pSl 1 (cK .i64) a_0)), (1, (pSl 1 (cK .i64) b_1)), (5, (pEq (.int .i64 s)))]) (Ωσ := fun s g => []) (g := ()) h ?_
    clear h
    rintro v2 g3 t h
    replace h : m_laws_eqInt64S_B1 a_0 b_1 v2 = some t := h
    unfold m_laws_eqInt64S_B1 at h
    refine Tr.weakO (Γ' := [(0, (pSl 1 (cK .i64) a_0)), (1, (pSl 1 (cK .i64) b_1)), (5, (pEq (.int .i64 v2)))]) (Ω' := []) rfl ⟨rfl, rfl, rfl, trivial⟩ ?_
    refine Tr.seq ?_
    refine Tr.seq ?_
    refine Tr.region ?_
    refine RegL.pure (p := (pEq (.int .i64 v2))) rfl rfl rfl (J_move rfl (Opd.tmp rfl)) ?_
    refine RegL.pure (p := (pSl 1 (cK .i64) a_0)) rfl rfl rfl (J_move rfl (Opd.tmp rfl)) ?_
    refine RegL.pure (p := (pEq (.int .i64 (a_0.length : Int)))) rfl rfl rfl (J_len rfl Tryd.underlying22 (Opd.tmp rfl) rfl) ?_
    refine RegL.pure (p := (pEq (.bool (decide (v2 < (a_0.length : Int)))))) rfl rfl rfl (J_bin rfl (Opd.tmp rfl) (Opd.tmp rfl) B_lss) ?_
    refine RegL.nil ?_
    refine Ct.then_tr ?_
    refine Tr.weak (Γ' := [(0, (pSl 1 (cK .i64) a_0)), (1, (pSl 1 (cK .i64) b_1)), (5, (pEq (.int .i64 v2))), (14, (pEq (.bool (decide (v2 < (a_0.length : Int))))))]) ⟨rfl, rfl, rfl, rfl, trivial⟩ ?_
    refine Tr.cond (Opd.tmp rfl) (fun hc => ?_) (fun hc => ?_)
    · replace h := bif_t hc h
      refine Tr.skip ?_
      refine Ct.then_tr ?_
      refine Tr.weak (Γ' := [(0, (pSl 1 (cK .i64) a_0)), (1, (pSl 1 (cK .i64) b_1)), (5, (pEq (.int .i64 v2)))]) ⟨rfl, rfl, rfl, trivial⟩ ?_
      refine Tr.seq ?_
      refine Tr.block ?_
      refine Tr.seq ?_
      replace h := bind_some h; obtain ⟨x4, hx4, h⟩ := h
      replace h := bind_some h; obtain ⟨x5, hx5, h⟩ := h
      refine Tr.drawD (n := 26) (m := 9) (es := [some (Ent.mk [(0, (pSl 1 (cK .i64) a_0))] (pSl 1 (cK .i64) a_0) true), some (Ent.mk [(5, (pEq (.int .i64 v2)))] (pEq (.int .i64 v2)) true), some (Ent.mk [(17, (pSl 1 (cK .i64) a_0)), (18, (pEq (.int .i64 v2)))] (pPtr ((cK .i64) x4)) true), some (Ent.mk [(19, (pPtr ((cK .i64) x4)))] (pEq (.int .i64 x4)) true), some (Ent.mk [(1, (pSl 1 (cK .i64) b_1))] (pSl 1 (cK .i64) b_1) true), some (Ent.mk [(5, (pEq (.int .i64 v2)))] (pEq (.int .i64 v2)) true), some (Ent.mk [(21, (pSl 1 (cK .i64) b_1)), (22, (pEq (.int .i64 v2)))] (pPtr ((cK .i64) x5)) true), some (Ent.mk [(23, (pPtr ((cK .i64) x5)))] (pEq (.int .i64 x5)) true), some (Ent.mk [(20, (pEq (.int .i64 x4))), (24, (pEq (.int .i64 x5)))] (pEq (.bool (x4 != x5))) true)]) (rd := [[0], [5], [17, 18], [19], [1], [5], [21, 22], [23], [20, 24]]) rfl hmix (by kernel_rfl) fun hD => ?_
      refine RD.fin (es := [Ent.mk [(0, (pSl 1 (cK .i64) a_0))] (pSl 1 (cK .i64) a_0) true, Ent.mk [(5, (pEq (.int .i64 v2)))] (pEq (.int .i64 v2)) true, Ent.mk [(17, (pSl 1 (cK .i64) a_0)), (18, (pEq (.int .i64 v2)))] (pPtr ((cK .i64) x4)) true, Ent.mk [(19, (pPtr ((cK .i64) x4)))] (pEq (.int .i64 x4)) true, Ent.mk [(1, (pSl 1 (cK .i64) b_1))] (pSl 1 (cK .i64) b_1) true, Ent.mk [(5, (pEq (.int .i64 v2)))] (pEq (.int .i64 v2)) true, Ent.mk [(21, (pSl 1 (cK .i64) b_1)), (22, (pEq (.int .i64 v2)))] (pPtr ((cK .i64) x5)) true, Ent.mk [(23, (pPtr ((cK .i64) x5)))] (pEq (.int .i64 x5)) true, Ent.mk [(20, (pEq (.int .i64 x4))), (24, (pEq (.int .i64 x5)))] (pEq (.bool (x4 != x5))) true]) (done := []) hD ⟨.inr ⟨(OpJ.w (J_move rfl (Opd.tmp rfl))), ⟨rfl, trivial⟩, rfl, rfl⟩, ⟨.inr ⟨(OpJ.w (J_move rfl (Opd.tmp rfl))), ⟨rfl, trivial⟩, rfl, rfl⟩, ⟨.inr ⟨(OpJ.w (J_idx rfl Tryd.underlying22 sz2 (Opd.tmp rfl) (Opd.tmp rfl) hx4)), ⟨rfl, rfl, trivial⟩, rfl, rfl⟩, ⟨.inr ⟨(OpJ.w (J_load rfl Tryd.isAgg2 (Opd.tmp rfl))), ⟨rfl, trivial⟩, rfl, rfl⟩, ⟨.inr ⟨(OpJ.w (J_move rfl (Opd.tmp rfl))), ⟨rfl, trivial⟩, rfl, rfl⟩, ⟨.inr ⟨(OpJ.w (J_move rfl (Opd.tmp rfl))), ⟨rfl, trivial⟩, rfl, rfl⟩, ⟨.inr ⟨(OpJ.w (J_idx rfl Tryd.underlying22 sz2 (Opd.tmp rfl) (Opd.tmp rfl) hx5)), ⟨rfl, rfl, trivial⟩, rfl, rfl⟩, ⟨.inr ⟨(OpJ.w (J_load rfl Tryd.isAgg2 (Opd.tmp rfl))), ⟨rfl, trivial⟩, rfl, rfl⟩, ⟨.inr ⟨(OpJ.w (J_bin rfl (Opd.tmp rfl) (Opd.tmp rfl) B_neq)), ⟨rfl, rfl, trivial⟩, rfl, rfl⟩, trivial⟩⟩⟩⟩⟩⟩⟩⟩⟩ ?_
      refine RegL.nil ?_
      refine Ct.then_tr ?_
      refine Tr.weak (Γ' := [(0, (pSl 1 (cK .i64) a_0)), (1, (pSl 1 (cK .i64) b_1)), (5, (pEq (.int .i64 v2))), (25, (pEq (.bool (x4 != x5))))]) ⟨rfl, rfl, rfl, rfl, trivial⟩ ?_
      refine Tr.cond (Opd.tmp rfl) (fun hc => ?_) (fun hc => ?_)
      · replace h := bif_t hc h
        refine Tr.seq ?_
        refine Tr.region ?_
        refine RegL.pure (p := (pEq (.bool false))) rfl rfl rfl (J_assign rfl Opd.con) ?_
        refine RegL.nil ?_
        refine Ct.then_tr ?_
        refine Tr.weak (Γ' := [(4, (pEq (.bool false)))]) ⟨rfl, trivial⟩ ?_
        refine Tr.ret ?_
        refine Ct.blk_ret ?_
        refine Ct.then_ret ?_
        replace h := map_some h; obtain ⟨r1, h, rfl⟩ := h
        refine Ct.out_ret fun e => ?_
        subst e
        refine Ct.blk_ret ?_
        refine Ct.then_ret ?_
        replace h := Option.some.inj h; subst h
        exact Ct.retH1 (Ωx := []) () rfl (RvOk.tmp rfl) rfl
      · replace h := bif_f hc h
        refine Tr.skip ?_
        refine Ct.blk_normal ?_
        refine Ct.then_tr ?_
        refine Tr.weak (Γ' := [(0, (pSl 1 (cK .i64) a_0)), (1, (pSl 1 (cK .i64) b_1)), (5, (pEq (.int .i64 v2)))]) ⟨rfl, rfl, rfl, trivial⟩ ?_
        refine Tr.region ?_
        refine RegL.pure (p := (pEq (.int .i64 v2))) rfl rfl rfl (J_move rfl (Opd.tmp rfl)) ?_
        refine RegL.pure (p := (pEq (.int .i64 (w64 (v2 + (1 : Int)))))) rfl rfl rfl (J_bin rfl (Opd.tmp rfl) Opd.con B_add) ?_
        refine RegL.pure (p := (pEq (.int .i64 (w64 (v2 + (1 : Int)))))) rfl rfl rfl (J_assign rfl (Opd.tmp rfl)) ?_
        refine RegL.nil ?_
        replace h := Option.some.inj h; subst h
        exact Ct.again () rfl ⟨rfl, rfl, rfl, trivial⟩
    · replace h := bif_f hc h
      refine Tr.exit ?_
      refine Ct.then_exit ?_
      replace h := map_some h; obtain ⟨r1, h, rfl⟩ := h
      refine Ct.out_exit fun e => ?_
      subst e
      refine Ct.blk_exit ?_
      refine Ct.then_tr ?_
      refine Tr.weak (Γ' := []) trivial ?_
      refine Tr.seq ?_
      refine Tr.region ?_
      refine RegL.pure (p := (pEq (.bool true))) rfl rfl rfl (J_assign rfl Opd.con) ?_
      refine RegL.nil ?_
      refine Ct.then_tr ?_
      refine Tr.weak (Γ' := [(4, (pEq (.bool true)))]) ⟨rfl, trivial⟩ ?_
      refine Tr.ret ?_
      replace h := Option.some.inj h; subst h
      exact Ct.retH1 (Ωx := []) () rfl (RvOk.tmp rfl) rfl

theorem c_laws_eqMask {a_0 : GMask} {b_1 : GMask} {r : Bool} (h : m_laws_eqMask a_0 b_1 = some r) : CallJ Tryd.prog 22 [(pAgg (cGMask a_0)), (pAgg (cGMask b_1))] (pEq (.bool r)) := by
  unfold m_laws_eqMask at h
  refine CallJ.enterH Tryd.func22 rfl Tryd.ntmps22 rfl fun W I0 H => ?_
  refine Tr.weak (Γ' := [(0, (pAgg (cGMask a_0))), (1, (pAgg (cGMask b_1)))]) ⟨rfl, rfl, trivial⟩ ?_
  refine Tr.seq ?_
  refine Tr.region ?_
  refine RegL.pure (p := (pPtr (cGMask a_0))) rfl rfl rfl (J_boxA rfl (Opd.tmp rfl)) ?_
  refine RegL.pure (p := (pPtr (cGMask b_1))) rfl rfl rfl (J_boxA rfl (Opd.tmp rfl)) ?_
  refine RegL.pure (p := (pEq (.bool false))) rfl rfl rfl (J_assign rfl Opd.con) ?_
  refine RegL.nil ?_
  refine Ct.then_tr ?_
  refine Tr.weak (Γ' := [(2, (pPtr (cGMask a_0))), (3, (pPtr (cGMask b_1)))]) ⟨rfl, rfl, trivial⟩ ?_
  refine Tr.seq ?_
  refine Tr.seq ?_
  refine Tr.region ?_
  refine RegL.pure (p := (pPtr ((cSl 1 (cK .i64)) a_0.Offsets))) rfl rfl rfl (J_fieldAddr rfl Tryd.underlying39 rfl sz22 (by decide) (Opd.tmp rfl) rfl) ?_
  refine RegL.pure (p := (pSl 1 (cK .i64) a_0.Offsets)) rfl rfl rfl (J_load rfl Tryd.isAgg22 (Opd.tmp rfl)) ?_
  refine RegL.pure (p := (pPtr ((cSl 1 (cK .i64)) b_1.Offsets))) rfl rfl rfl (J_fieldAddr rfl Tryd.underlying39 rfl sz22 (by decide) (Opd.tmp rfl) rfl) ?_
  refine RegL.pure (p := (pSl 1 (cK .i64) b_1.Offsets)) rfl rfl rfl (J_load rfl Tryd.isAgg22 (Opd.tmp rfl)) ?_
  replace h := bind_some h; obtain ⟨x1, hx1, h⟩ := h
  refine RegL.pure (p := (pEq (.bool x1))) rfl rfl rfl (J_call rfl Tryd.call12 (c_laws_eqInt64S hx1) (Opds.cons (Opd.tmp rfl) (Opds.cons (Opd.tmp rfl) Opds.nil))) ?_
  refine RegL.pure (p := (pEq (.bool (!x1)))) rfl rfl rfl (J_not rfl (Opd.tmp rfl)) ?_
  refine RegL.nil ?_
  refine Ct.then_tr ?_
  refine Tr.weak (Γ' := [(2, (pPtr (cGMask a_0))), (3, (pPtr (cGMask b_1))), (10, (pEq (.bool (!x1))))]) ⟨rfl, rfl, rfl, trivial⟩ ?_
  refine Tr.cond (Opd.tmp rfl) (fun hc => ?_) (fun hc => ?_)
  · replace h := bif_t hc h
    refine Tr.seq ?_
    refine Tr.region ?_
    refine RegL.pure (p := (pEq (.bool false))) rfl rfl rfl (J_assign rfl Opd.con) ?_
    refine RegL.nil ?_
    refine Ct.then_tr ?_
    refine Tr.weak (Γ' := [(4, (pEq (.bool false)))]) ⟨rfl, trivial⟩ ?_
    refine Tr.ret ?_
    refine Ct.then_ret ?_
    replace h := Option.some.inj h; subst h
    exact Ct.retH1 (Ωx := []) () rfl (RvOk.tmp rfl) rfl
  · replace h := bif_f hc h
    refine Tr.skip ?_
    refine Ct.then_tr ?_
    refine Tr.weak (Γ' := [(2, (pPtr (cGMask a_0))), (3, (pPtr (cGMask b_1)))]) ⟨rfl, rfl, trivial⟩ ?_
    refine Tr.seq ?_
    refine Tr.seq ?_
    refine Tr.region ?_
    refine RegL.pure (p := (pPtr ((cSl 1 (cK .i64)) a_0.Losses))) rfl rfl rfl (J_fieldAddr rfl Tryd.underlying39 rfl sz22 (by decide) (Opd.tmp rfl) rfl) ?_
    refine RegL.pure (p := (pSl 1 (cK .i64) a_0.Losses)) rfl rfl rfl (J_load rfl Tryd.isAgg22 (Opd.tmp rfl)) ?_
    refine RegL.pure (p := (pPtr ((cSl 1 (cK .i64)) b_1.Losses))) rfl rfl rfl (J_fieldAddr rfl Tryd.underlying39 rfl sz22 (by decide) (Opd.tmp rfl) rfl) ?_
    refine RegL.pure (p := (pSl 1 (cK .i64) b_1.Losses)) rfl rfl rfl (J_load rfl Tryd.isAgg22 (Opd.tmp rfl)) ?_
    replace h := bind_some h; obtain ⟨x2, hx2, h⟩ := h
    refine RegL.pure (p := (pEq (.bool x2))) rfl rfl rfl (J_call rfl Tryd.call12 (c_laws_eqInt64S hx2) (Opds.cons (Opd.tmp rfl) (Opds.cons (Opd.tmp rfl) Opds.nil))) ?_
    refine RegL.pure (p := (pEq (.bool (!x2)))) rfl rfl rfl (J_not rfl (Opd.tmp rfl)) ?_
    refine RegL.nil ?_
    refine Ct.then_tr ?_
    refine Tr.weak (Γ' := [(16, (pEq (.bool (!x2))))]) ⟨rfl, trivial⟩ ?_
    refine Tr.cond (Opd.tmp rfl) (fun hc => ?_) (fun hc => ?_)
    · replace h := bif_t hc h
      refine Tr.seq ?_
      refine Tr.region ?_
      refine RegL.pure (p := (pEq (.bool false))) rfl rfl rfl (J_assign rfl Opd.con) ?_
      refine RegL.nil ?_
      refine Ct.then_tr ?_
      refine Tr.weak (Γ' := [(4, (pEq (.bool false)))]) ⟨rfl, trivial⟩ ?_
      refine Tr.ret ?_
      refine Ct.then_ret ?_
      replace h := Option.some.inj h; subst h
      exact Ct.retH1 (Ωx := []) () rfl (RvOk.tmp rfl) rfl
    · replace h := bif_f hc h
      refine Tr.skip ?_
      refine Ct.then_tr ?_
      refine Tr.weak (Γ' := []) trivial ?_
      refine Tr.seq ?_
      refine Tr.region ?_
      refine RegL.pure (p := (pEq (.bool true))) rfl rfl rfl (J_assign rfl Opd.con) ?_
      refine RegL.nil ?_
      refine Ct.then_tr ?_
      refine Tr.weak (Γ' := [(4, (pEq (.bool true)))]) ⟨rfl, trivial⟩ ?_
      refine Tr.ret ?_
      replace h := Option.some.inj h; subst h
      exact Ct.retH1 (Ωx := []) () rfl (RvOk.tmp rfl) rfl

theorem o_laws_markInt64S {a_0 : (List Int)} {k_1 : Int} {ho0 : Option Addr} {hn0 hc0 : Nat} {r : (Int × (List Int))} (h : m_laws_markInt64S a_0 k_1 = some r) : CallH Tryd.prog 26 [(pEq (.slice ho0 hn0 hc0)), (pEq (.int .i64 k_1))] [oSl 2 1 (cK .i64) ho0 hn0 hc0 a_0] (fun g : Unit => (pEq (.int .i64 r.1))) (fun g : Unit => [oSl 2 1 (cK .i64) ho0 hn0 hc0 r.2]) := by
  unfold m_laws_markInt64S at h
  refine CallH.enter Tryd.func26 rfl Tryd.ntmps26 rfl fun W I0 H => ?_
  refine Tr.weak (Γ' := [(0, (pEq (.slice ho0 hn0 hc0))), (1, (pEq (.int .i64 k_1)))]) ⟨rfl, rfl, trivial⟩ ?_
  refine Tr.seq ?_
  refine Tr.region ?_
  refine RegL.pure (p := (pEq (.int .i64 (0 : Int)))) rfl rfl rfl (J_assign rfl Opd.con) ?_
  refine RegL.nil ?_
  refine Ct.then_tr ?_
  refine Tr.weak (Γ' := [(0, (pEq (.slice ho0 hn0 hc0))), (1, (pEq (.int .i64 k_1)))]) ⟨rfl, rfl, trivial⟩ ?_
  refine Tr.seq ?_
  refine Tr.seq ?_
  refine Tr.region ?_
  refine RegL.pure (p := (pEq (.int .i64 (0 : Int)))) rfl rfl rfl (J_assign rfl Opd.con) ?_
  refine RegL.nil ?_
  refine Ct.then_tr ?_
  refine Tr.weak (Γ' := [(0, (pEq (.slice ho0 hn0 hc0))), (1, (pEq (.int .i64 k_1))), (5, (pEq (.int .i64 (0 : Int))))]) ⟨rfl, rfl, rfl, trivial⟩ ?_
  replace h := bind_some h; obtain ⟨x2, hx2, h⟩ := h
  refine Tr.cut (γ := Unit) (Γm := fun g => [(1, (pEq (.int .i64 x2.1)))]) (Ωm := fun g => [oSl 2 1 (cK .i64) ho0 hn0 hc0 x2.2]) ?_ (fun g10 => ?_)
  · clear h
    have h := hx2
    clear hx2
    refine Tr.block ?_
    refine Tr.weak (Γ' := [(0, (pEq (.slice ho0 hn0 hc0))), (1, (pEq (.int .i64 k_1))), (5, (pEq (.int .i64 (0 : Int))))]) ⟨rfl, rfl, rfl, trivial⟩ ?_
    refine Tr.loop (γ := Unit) (σ := (Int × Int × (List Int))) (Γσ := fun s g => [(0, (pEq (.slice ho0 hn0 hc0))), (1, (pEq (.int .i64 s.1))), (5, (pEq (.int .i64 s.2.1)))]) (Ωσ := fun s g => [oSl 2 1 (cK .i64) ho0 hn0 hc0 s.2.2]) (g := ()) h ?_
    clear h
    rintro ⟨v4, v5, v6⟩ g7 t h
    replace h : m_laws_markInt64S_B3  v4 v5 v6 = some t := h
    unfold m_laws_markInt64S_B3 at h
    refine Tr.weakO (Γ' := [(0, (pEq (.slice ho0 hn0 hc0))), (1, (pEq (.int .i64 v4))), (5, (pEq (.int .i64 v5)))]) (Ω' := [oSl 2 1 (cK .i64) ho0 hn0 hc0 v6]) rfl ⟨rfl, rfl, rfl, trivial⟩ ?_
    refine Tr.seq ?_
    refine Tr.seq ?_
    refine Tr.region ?_
    refine RegL.pure (p := (pEq (.int .i64 v5))) rfl rfl rfl (J_move rfl (Opd.tmp rfl)) ?_
    refine RegL.pure (p := (pEq (.slice ho0 hn0 hc0))) rfl rfl rfl (J_move rfl (Opd.tmp rfl)) ?_
    refine RegL.pureW (p := (pEq (.int .i64 (v6.length : Int)))) rfl rfl rfl (W_rowLen (j := 0) rfl Tryd.underlying22 (Opd.tmp rfl) rfl) ?_
    refine RegL.pure (p := (pEq (.bool (decide (v5 < (v6.length : Int)))))) rfl rfl rfl (J_bin rfl (Opd.tmp rfl) (Opd.tmp rfl) B_lss) ?_
    refine RegL.nil ?_
    refine Ct.then_tr ?_
    refine Tr.weak (Γ' := [(0, (pEq (.slice ho0 hn0 hc0))), (1, (pEq (.int .i64 v4))), (5, (pEq (.int .i64 v5))), (9, (pEq (.bool (decide (v5 < (v6.length : Int))))))]) ⟨rfl, rfl, rfl, rfl, trivial⟩ ?_
    refine Tr.cond (Opd.tmp rfl) (fun hc => ?_) (fun hc => ?_)
    · replace h := bif_t hc h
      refine Tr.skip ?_
      refine Ct.then_tr ?_
      refine Tr.weak (Γ' := [(0, (pEq (.slice ho0 hn0 hc0))), (1, (pEq (.int .i64 v4))), (5, (pEq (.int .i64 v5)))]) ⟨rfl, rfl, rfl, trivial⟩ ?_
      refine Tr.seq ?_
      refine Tr.block ?_
      refine Tr.seq ?_
      refine Tr.region ?_
      refine RegL.pure (p := (pEq (.slice ho0 hn0 hc0))) rfl rfl rfl (J_move rfl (Opd.tmp rfl)) ?_
      refine RegL.pure (p := (pEq (.int .i64 v5))) rfl rfl rfl (J_move rfl (Opd.tmp rfl)) ?_
      refine RegL.pure (p := (pEq (.int .i64 v4))) rfl rfl rfl (J_move rfl (Opd.tmp rfl)) ?_
      replace h := bind_some h; obtain ⟨u8, hu8, h⟩ := h
      refine RegL.pureW (p := (pEq (.pointer (some ⟨blk ho0, (v5).toNat * 1, none⟩)))) rfl rfl rfl (W_rowIdx (j := 0) rfl Tryd.underlying22 sz2 (Opd.tmp rfl) (Opd.tmp rfl) rfl (inB_some hu8)) ?_
      refine RegL.stepN (γ := Unit) (p := fun _ => pAny) (Ω' := fun _ => [oSl 2 1 (cK .i64) ho0 hn0 hc0 (v6.set (v5).toNat v4)]) rfl rfl (M_rowStore rfl sz2 (fun _ => rfl) (Opd.tmp rfl) (Opd.tmp rfl) rfl OneC.int (setL_of (inB_some hu8))) fun g9 => ?_
      refine RegL.nil ?_
      refine Ct.then_tr ?_
      refine Tr.weak (Γ' := [(0, (pEq (.slice ho0 hn0 hc0))), (1, (pEq (.int .i64 v4))), (5, (pEq (.int .i64 v5)))]) ⟨rfl, rfl, rfl, trivial⟩ ?_
      refine Tr.region ?_
      refine RegL.pure (p := (pEq (.int .i64 v4))) rfl rfl rfl (J_move rfl (Opd.tmp rfl)) ?_
      refine RegL.pure (p := (pEq (.int .i64 (w64 (v4 + (1 : Int)))))) rfl rfl rfl (J_bin rfl (Opd.tmp rfl) Opd.con B_add) ?_
      refine RegL.pure (p := (pEq (.int .i64 (w64 (v4 + (1 : Int)))))) rfl rfl rfl (J_assign rfl (Opd.tmp rfl)) ?_
      refine RegL.nil ?_
      refine Ct.blk_normal ?_
      refine Ct.then_tr ?_
      refine Tr.weak (Γ' := [(0, (pEq (.slice ho0 hn0 hc0))), (1, (pEq (.int .i64 (w64 (v4 + (1 : Int)))))), (5, (pEq (.int .i64 v5)))]) ⟨rfl, rfl, rfl, trivial⟩ ?_
      refine Tr.region ?_
      refine RegL.pure (p := (pEq (.int .i64 v5))) rfl rfl rfl (J_move rfl (Opd.tmp rfl)) ?_
      refine RegL.pure (p := (pEq (.int .i64 (w64 (v5 + (1 : Int)))))) rfl rfl rfl (J_bin rfl (Opd.tmp rfl) Opd.con B_add) ?_
      refine RegL.pure (p := (pEq (.int .i64 (w64 (v5 + (1 : Int)))))) rfl rfl rfl (J_assign rfl (Opd.tmp rfl)) ?_
      refine RegL.nil ?_
      replace h := Option.some.inj h; subst h
      exact Ct.again () rfl ⟨rfl, rfl, rfl, trivial⟩
    · replace h := bif_f hc h
      refine Tr.exit ?_
      refine Ct.then_exit ?_
      replace h := map_some h; obtain ⟨r1, h, rfl⟩ := h
      refine Ct.out_exit fun e => ?_
      subst e
      refine Ct.blk_exit ?_
      replace h := Option.some.inj h; subst h
      exact Ct.mid () rfl ⟨rfl, trivial⟩
  · clear hx2
    refine Ct.then_tr ?_
    refine Tr.weak (Γ' := [(1, (pEq (.int .i64 x2.1)))]) ⟨rfl, trivial⟩ ?_
    refine Tr.seq ?_
    refine Tr.region ?_
    refine RegL.pure (p := (pEq (.int .i64 x2.1))) rfl rfl rfl (J_move rfl (Opd.tmp rfl)) ?_
    refine RegL.pure (p := (pEq (.int .i64 x2.1))) rfl rfl rfl (J_assign rfl (Opd.tmp rfl)) ?_
    refine RegL.nil ?_
    refine Ct.then_tr ?_
    refine Tr.weak (Γ' := [(4, (pEq (.int .i64 x2.1)))]) ⟨rfl, trivial⟩ ?_
    refine Tr.ret ?_
    replace h := Option.some.inj h; subst h
    exact Ct.retH1 (Ωx := []) () rfl (RvOk.tmp rfl) rfl

theorem o_laws_markMask {a_0 : GMask} {k_1 : Int} {ho0_0 : Option Addr} {hn0_0 hc0_0 : Nat} {ho0_1 : Option Addr} {hn0_1 hc0_1 : Nat} {r : (Int × (List Int) × (List Int))} (h : m_laws_markMask a_0 k_1 = some r) : CallH Tryd.prog 25 [(pAgg [(pEq (.slice ho0_0 hn0_0 hc0_0)), (pEq (.slice ho0_1 hn0_1 hc0_1))]), (pEq (.int .i64 k_1))] [oSl 2 1 (cK .i64) ho0_0 hn0_0 hc0_0 a_0.Offsets, oSl 2 1 (cK .i64) ho0_1 hn0_1 hc0_1 a_0.Losses] (fun g : Unit => (pEq (.int .i64 r.1))) (fun g : Unit => [oSl 2 1 (cK .i64) ho0_0 hn0_0 hc0_0 r.2.1, oSl 2 1 (cK .i64) ho0_1 hn0_1 hc0_1 r.2.2]) := by
  unfold m_laws_markMask at h
  refine CallH.enter Tryd.func25 rfl Tryd.ntmps25 rfl fun W I0 H => ?_
  refine Tr.weak (Γ' := [(0, (pAgg [(pEq (.slice ho0_0 hn0_0 hc0_0)), (pEq (.slice ho0_1 hn0_1 hc0_1))])), (1, (pEq (.int .i64 k_1)))]) ⟨rfl, rfl, trivial⟩ ?_
  refine Tr.seq ?_
  refine Tr.region ?_
  refine RegL.step (γ := Nat) (p := fun b => pEq (.pointer (some ⟨b, 0, none⟩))) (Ω' := fun b => [oBlk b [(pEq (.slice ho0_0 hn0_0 hc0_0)), (pEq (.slice ho0_1 hn0_1 hc0_1))], oSl 2 1 (cK .i64) ho0_0 hn0_0 hc0_0 a_0.Offsets, oSl 2 1 (cK .i64) ho0_1 hn0_1 hc0_1 a_0.Losses]) rfl rfl rfl (M_boxA rfl (Opd.tmp rfl)) fun b3 => ?_
  refine RegL.pure (p := (pEq (.int .i64 (0 : Int)))) rfl rfl rfl (J_assign rfl Opd.con) ?_
  refine RegL.nil ?_
  refine Ct.then_tr ?_
  refine Tr.weak (Γ' := [(1, (pEq (.int .i64 k_1))), (2, (pEq (.pointer (some ⟨b3, 0, none⟩))))]) ⟨rfl, rfl, trivial⟩ ?_
  refine Tr.seq ?_
  refine Tr.region ?_
  refine RegL.pure (p := (pEq (.pointer (some ⟨b3, 0, none⟩)))) rfl rfl rfl (J_fieldAddrE rfl Tryd.underlying39 rfl sz22 (by decide) (Opd.tmp rfl) rfl) ?_
  refine RegL.pureW (p := (pEq (.slice ho0_0 hn0_0 hc0_0))) rfl rfl rfl (W_load (i := 0) rfl Tryd.isAgg22 (Opd.tmp rfl) rfl rfl) ?_
  refine RegL.pure (p := (pEq (.int .i64 k_1))) rfl rfl rfl (J_move rfl (Opd.tmp rfl)) ?_
  replace h := bind_some h; obtain ⟨x4, hx4, h⟩ := h
  refine RegL.re (Ω2 := [oSl 2 1 (cK .i64) ho0_0 hn0_0 hc0_0 a_0.Offsets, oBlk b3 [(pEq (.slice ho0_0 hn0_0 hc0_0)), (pEq (.slice ho0_1 hn0_1 hc0_1))], oSl 2 1 (cK .i64) ho0_1 hn0_1 hc0_1 a_0.Losses]) (fun h => SatO.pick 1 h) ?_
  refine RegL.step (γ := Unit) (p := fun g => (pEq (.int .i64 x4.1))) (Ω' := fun g => [oSl 2 1 (cK .i64) ho0_0 hn0_0 hc0_0 x4.2, oBlk b3 [(pEq (.slice ho0_0 hn0_0 hc0_0)), (pEq (.slice ho0_1 hn0_1 hc0_1))], oSl 2 1 (cK .i64) ho0_1 hn0_1 hc0_1 a_0.Losses]) rfl rfl rfl (M_callH (Ωi := [oSl 2 1 (cK .i64) ho0_0 hn0_0 hc0_0 a_0.Offsets]) rfl Tryd.call26 (o_laws_markInt64S hx4) (Opds.cons (Opd.tmp rfl) (Opds.cons (Opd.tmp rfl) Opds.nil))) fun g5 => ?_
  refine RegL.pure (p := (pEq (.int .i64 x4.1))) rfl rfl rfl (J_assign rfl (Opd.tmp rfl)) ?_
  refine RegL.nil ?_
  refine Ct.then_tr ?_
  refine Tr.weak (Γ' := [(1, (pEq (.int .i64 x4.1))), (2, (pEq (.pointer (some ⟨b3, 0, none⟩))))]) ⟨rfl, rfl, trivial⟩ ?_
  refine Tr.seq ?_
  refine Tr.region ?_
  refine RegL.pure (p := (pEq (.pointer (some ⟨b3, 1, none⟩)))) rfl rfl rfl (J_fieldAddrE rfl Tryd.underlying39 rfl sz22 (by decide) (Opd.tmp rfl) rfl) ?_
  refine RegL.pureW (p := (pEq (.slice ho0_1 hn0_1 hc0_1))) rfl rfl rfl (W_load (i := 1) rfl Tryd.isAgg22 (Opd.tmp rfl) rfl rfl) ?_
  refine RegL.pure (p := (pEq (.int .i64 x4.1))) rfl rfl rfl (J_move rfl (Opd.tmp rfl)) ?_
  replace h := bind_some h; obtain ⟨x6, hx6, h⟩ := h
  refine RegL.re (Ω2 := [oSl 2 1 (cK .i64) ho0_1 hn0_1 hc0_1 a_0.Losses, oSl 2 1 (cK .i64) ho0_0 hn0_0 hc0_0 x4.2, oBlk b3 [(pEq (.slice ho0_0 hn0_0 hc0_0)), (pEq (.slice ho0_1 hn0_1 hc0_1))]]) (fun h => SatO.pick 2 h) ?_
  refine RegL.step (γ := Unit) (p := fun g => (pEq (.int .i64 x6.1))) (Ω' := fun g => [oSl 2 1 (cK .i64) ho0_1 hn0_1 hc0_1 x6.2, oSl 2 1 (cK .i64) ho0_0 hn0_0 hc0_0 x4.2, oBlk b3 [(pEq (.slice ho0_0 hn0_0 hc0_0)), (pEq (.slice ho0_1 hn0_1 hc0_1))]]) rfl rfl rfl (M_callH (Ωi := [oSl 2 1 (cK .i64) ho0_1 hn0_1 hc0_1 a_0.Losses]) rfl Tryd.call26 (o_laws_markInt64S hx6) (Opds.cons (Opd.tmp rfl) (Opds.cons (Opd.tmp rfl) Opds.nil))) fun g7 => ?_
  refine RegL.pure (p := (pEq (.int .i64 x6.1))) rfl rfl rfl (J_assign rfl (Opd.tmp rfl)) ?_
  refine RegL.nil ?_
  refine Ct.then_tr ?_
  refine Tr.weak (Γ' := [(1, (pEq (.int .i64 x6.1)))]) ⟨rfl, trivial⟩ ?_
  refine Tr.seq ?_
  refine Tr.region ?_
  refine RegL.pure (p := (pEq (.int .i64 x6.1))) rfl rfl rfl (J_move rfl (Opd.tmp rfl)) ?_
  refine RegL.pure (p := (pEq (.int .i64 x6.1))) rfl rfl rfl (J_assign rfl (Opd.tmp rfl)) ?_
  refine RegL.nil ?_
  refine Ct.then_tr ?_
  refine Tr.weak (Γ' := [(4, (pEq (.int .i64 x6.1)))]) ⟨rfl, trivial⟩ ?_
  refine Tr.ret ?_
  refine Ct.re (Ω2 := [oSl 2 1 (cK .i64) ho0_0 hn0_0 hc0_0 x4.2, oSl 2 1 (cK .i64) ho0_1 hn0_1 hc0_1 x6.2, oBlk b3 [(pEq (.slice ho0_0 hn0_0 hc0_0)), (pEq (.slice ho0_1 hn0_1 hc0_1))]]) (fun h => SatO.pick 1 h) ?_
  refine Ct.re (Ω2 := [oBlk b3 [(pEq (.slice ho0_0 hn0_0 hc0_0)), (pEq (.slice ho0_1 hn0_1 hc0_1))], oSl 2 1 (cK .i64) ho0_0 hn0_0 hc0_0 x4.2, oSl 2 1 (cK .i64) ho0_1 hn0_1 hc0_1 x6.2]) (fun h => SatO.pick 2 h) ?_
  replace h := Option.some.inj h; subst h
  exact Ct.retH1 (Ωx := [oBlk b3 [(pEq (.slice ho0_0 hn0_0 hc0_0)), (pEq (.slice ho0_1 hn0_1 hc0_1))]]) () rfl (RvOk.tmp rfl) rfl

theorem c_laws_heldInt64S {a_0 : (List Int)} {k_1 : Int} {r : Int} (h : m_laws_heldInt64S a_0 k_1 = some r) : CallJ Tryd.prog 27 [(pSl 1 (cK .i64) a_0), (pEq (.int .i64 k_1))] (pEq (.int .i64 r)) := by
  unfold m_laws_heldInt64S at h
  refine CallJ.enterH Tryd.func27 rfl Tryd.ntmps27 rfl fun W I0 H => ?_
  refine Tr.weak (Γ' := [(0, (pSl 1 (cK .i64) a_0)), (1, (pEq (.int .i64 k_1)))]) ⟨rfl, rfl, trivial⟩ ?_
  refine Tr.seq ?_
  refine Tr.region ?_
  refine RegL.pure (p := (pEq (.int .i64 (0 : Int)))) rfl rfl rfl (J_assign rfl Opd.con) ?_
  refine RegL.nil ?_
  refine Ct.then_tr ?_
  refine Tr.weak (Γ' := [(0, (pSl 1 (cK .i64) a_0)), (1, (pEq (.int .i64 k_1)))]) ⟨rfl, rfl, trivial⟩ ?_
  refine Tr.seq ?_
  refine Tr.seq ?_
  refine Tr.region ?_
  refine RegL.pure (p := (pEq (.int .i64 (0 : Int)))) rfl rfl rfl (J_assign rfl Opd.con) ?_
  refine RegL.nil ?_
  refine Ct.then_tr ?_
  refine Tr.weak (Γ' := [(0, (pSl 1 (cK .i64) a_0)), (1, (pEq (.int .i64 k_1))), (5, (pEq (.int .i64 (0 : Int))))]) ⟨rfl, rfl, rfl, trivial⟩ ?_
  refine Tr.block ?_
  refine Tr.weak (Γ' := [(0, (pSl 1 (cK .i64) a_0)), (1, (pEq (.int .i64 k_1))), (5, (pEq (.int .i64 (0 : Int))))]) ⟨rfl, rfl, rfl, trivial⟩ ?_
  refine Tr.loop (γ := Unit) (σ := (Int × Int)) (Γσ := fun s g => [(0, (pSl 1 (cK .i64) a_0)), (1, (pEq (.int .i64 s.1))), (5, (pEq (.int .i64 s.2)))]) (Ωσ := fun s g => []) (g := ()) h ?_
  clear h
  rintro ⟨v2, v3⟩ g4 t h
  replace h : m_laws_heldInt64S_B1 a_0 v2 v3 = some t := h
  unfold m_laws_heldInt64S_B1 at h
  refine Tr.weakO (Γ' := [(0, (pSl 1 (cK .i64) a_0)), (1, (pEq (.int .i64 v2))), (5, (pEq (.int .i64 v3)))]) (Ω' := []) rfl ⟨rfl, rfl, rfl, trivial⟩ ?_
  refine Tr.seq ?_
  refine Tr.seq ?_
  refine Tr.region ?_
  refine RegL.pure (p := (pEq (.int .i64 v3))) rfl rfl rfl (J_move rfl (Opd.tmp rfl)) ?_
  refine RegL.pure (p := (pSl 1 (cK .i64) a_0)) rfl rfl rfl (J_move rfl (Opd.tmp rfl)) ?_
  refine RegL.pure (p := (pEq (.int .i64 (a_0.length : Int)))) rfl rfl rfl (J_len rfl Tryd.underlying22 (Opd.tmp rfl) rfl) ?_
  refine RegL.pure (p := (pEq (.bool (decide (v3 < (a_0.length : Int)))))) rfl rfl rfl (J_bin rfl (Opd.tmp rfl) (Opd.tmp rfl) B_lss) ?_
  refine RegL.nil ?_
  refine Ct.then_tr ?_
  refine Tr.weak (Γ' := [(0, (pSl 1 (cK .i64) a_0)), (1, (pEq (.int .i64 v2))), (5, (pEq (.int .i64 v3))), (9, (pEq (.bool (decide (v3 < (a_0.length : Int))))))]) ⟨rfl, rfl, rfl, rfl, trivial⟩ ?_
  refine Tr.cond (Opd.tmp rfl) (fun hc => ?_) (fun hc => ?_)
  · replace h := bif_t hc h
    refine Tr.skip ?_
    refine Ct.then_tr ?_
    refine Tr.weak (Γ' := [(0, (pSl 1 (cK .i64) a_0)), (1, (pEq (.int .i64 v2))), (5, (pEq (.int .i64 v3)))]) ⟨rfl, rfl, rfl, trivial⟩ ?_
    refine Tr.seq ?_
    refine Tr.block ?_
    refine Tr.seq ?_
    refine Tr.seq ?_
    refine Tr.region ?_
    refine RegL.pure (p := (pSl 1 (cK .i64) a_0)) rfl rfl rfl (J_move rfl (Opd.tmp rfl)) ?_
    refine RegL.pure (p := (pEq (.int .i64 v3))) rfl rfl rfl (J_move rfl (Opd.tmp rfl)) ?_
    replace h := bind_some h; obtain ⟨x5, hx5, h⟩ := h
    refine RegL.pure (p := (pPtr ((cK .i64) x5))) rfl rfl rfl (J_idx rfl Tryd.underlying22 sz2 (Opd.tmp rfl) (Opd.tmp rfl) hx5) ?_
    refine RegL.pure (p := (pEq (.int .i64 x5))) rfl rfl rfl (J_load rfl Tryd.isAgg2 (Opd.tmp rfl)) ?_
    refine RegL.pure (p := (pEq (.int .i64 v2))) rfl rfl rfl (J_move rfl (Opd.tmp rfl)) ?_
    refine RegL.pure (p := (pEq (.bool (x5 != v2)))) rfl rfl rfl (J_bin rfl (Opd.tmp rfl) (Opd.tmp rfl) B_neq) ?_
    refine RegL.nil ?_
    refine Ct.then_tr ?_
    refine Tr.weak (Γ' := [(0, (pSl 1 (cK .i64) a_0)), (1, (pEq (.int .i64 v2))), (5, (pEq (.int .i64 v3))), (17, (pEq (.bool (x5 != v2))))]) ⟨rfl, rfl, rfl, rfl, trivial⟩ ?_
    refine Tr.cond (Opd.tmp rfl) (fun hc => ?_) (fun hc => ?_)
    · replace h := bif_t hc h
      refine Tr.seq ?_
      refine Tr.region ?_
      refine RegL.pure (p := (pEq (.int .i64 (-1 : Int)))) rfl rfl rfl (J_assign rfl Opd.con) ?_
      refine RegL.nil ?_
      refine Ct.then_tr ?_
      refine Tr.weak (Γ' := [(4, (pEq (.int .i64 (-1 : Int))))]) ⟨rfl, trivial⟩ ?_
      refine Tr.ret ?_
      refine Ct.then_ret ?_
      refine Ct.blk_ret ?_
      refine Ct.then_ret ?_
      replace h := map_some h; obtain ⟨r1, h, rfl⟩ := h
      refine Ct.out_ret fun e => ?_
      subst e
      refine Ct.blk_ret ?_
      refine Ct.then_ret ?_
      replace h := Option.some.inj h; subst h
      exact Ct.retH1 (Ωx := []) () rfl (RvOk.tmp rfl) rfl
    · replace h := bif_f hc h
      refine Tr.skip ?_
      refine Ct.then_tr ?_
      refine Tr.weak (Γ' := [(0, (pSl 1 (cK .i64) a_0)), (1, (pEq (.int .i64 v2))), (5, (pEq (.int .i64 v3)))]) ⟨rfl, rfl, rfl, trivial⟩ ?_
      refine Tr.region ?_
      refine RegL.pure (p := (pEq (.int .i64 v2))) rfl rfl rfl (J_move rfl (Opd.tmp rfl)) ?_
      refine RegL.pure (p := (pEq (.int .i64 (w64 (v2 + (1 : Int)))))) rfl rfl rfl (J_bin rfl (Opd.tmp rfl) Opd.con B_add) ?_
      refine RegL.pure (p := (pEq (.int .i64 (w64 (v2 + (1 : Int)))))) rfl rfl rfl (J_assign rfl (Opd.tmp rfl)) ?_
      refine RegL.nil ?_
      refine Ct.blk_normal ?_
      refine Ct.then_tr ?_
      refine Tr.weak (Γ' := [(0, (pSl 1 (cK .i64) a_0)), (1, (pEq (.int .i64 (w64 (v2 + (1 : Int)))))), (5, (pEq (.int .i64 v3)))]) ⟨rfl, rfl, rfl, trivial⟩ ?_
      refine Tr.region ?_
      refine RegL.pure (p := (pEq (.int .i64 v3))) rfl rfl rfl (J_move rfl (Opd.tmp rfl)) ?_
      refine RegL.pure (p := (pEq (.int .i64 (w64 (v3 + (1 : Int)))))) rfl rfl rfl (J_bin rfl (Opd.tmp rfl) Opd.con B_add) ?_
      refine RegL.pure (p := (pEq (.int .i64 (w64 (v3 + (1 : Int)))))) rfl rfl rfl (J_assign rfl (Opd.tmp rfl)) ?_
      refine RegL.nil ?_
      replace h := Option.some.inj h; subst h
      exact Ct.again () rfl ⟨rfl, rfl, rfl, trivial⟩
  · replace h := bif_f hc h
    refine Tr.exit ?_
    refine Ct.then_exit ?_
    replace h := map_some h; obtain ⟨r1, h, rfl⟩ := h
    refine Ct.out_exit fun e => ?_
    subst e
    refine Ct.blk_exit ?_
    refine Ct.then_tr ?_
    refine Tr.weak (Γ' := [(1, (pEq (.int .i64 v2)))]) ⟨rfl, trivial⟩ ?_
    refine Tr.seq ?_
    refine Tr.region ?_
    refine RegL.pure (p := (pEq (.int .i64 v2))) rfl rfl rfl (J_move rfl (Opd.tmp rfl)) ?_
    refine RegL.pure (p := (pEq (.int .i64 v2))) rfl rfl rfl (J_assign rfl (Opd.tmp rfl)) ?_
    refine RegL.nil ?_
    refine Ct.then_tr ?_
    refine Tr.weak (Γ' := [(4, (pEq (.int .i64 v2)))]) ⟨rfl, trivial⟩ ?_
    refine Tr.ret ?_
    replace h := Option.some.inj h; subst h
    exact Ct.retH1 (Ωx := []) () rfl (RvOk.tmp rfl) rfl


end Go.Proofs.YtbhegklilcpbmaaDoor.fnExactDiscriminationTableW
