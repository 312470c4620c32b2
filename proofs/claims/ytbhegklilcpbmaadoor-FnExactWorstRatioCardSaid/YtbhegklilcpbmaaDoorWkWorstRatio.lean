/-
  The walks that the law FnExactWorstRatio reaches: each function computes its model. Printed by our own program.
-/
import Derived.Test.YtbhegklilcpbmaaDoorProg
import Derived.Test.YtbhegklilcpbmaaDoorMod
import Derived.Test.YtbhegklilcpbmaaDoorZero
import Derived.KernelRfl
import Derived.Test.YtbhegklilcpbmaaDoorWkWorstRatioa
namespace Go.Proofs.YtbhegklilcpbmaaDoor.fnExactWorstRatioW
open Go Go.RowKit Go.Wk
set_option linter.unusedVariables false
set_option maxRecDepth 100000


theorem c_slices_IsSorted_int64_int64 {x_0 : (List Int)} {r : Bool} (h : m_slices_IsSorted_int64_int64 x_0 = some r) : CallJ Tryd.prog 72 [(pSl 1 (cK .i64) x_0)] (pEq (.bool r)) := by
  unfold m_slices_IsSorted_int64_int64 at h
  refine CallJ.enterH Tryd.func72 rfl Tryd.ntmps72 rfl fun W I0 H => ?_
  refine Tr.weak (Γ' := [(0, (pSl 1 (cK .i64) x_0))]) ⟨rfl, trivial⟩ ?_
  refine Tr.seq ?_
  refine Tr.region ?_
  refine RegL.pure (p := (pEq (.bool false))) rfl rfl rfl (J_assign rfl Opd.con) ?_
  refine RegL.nil ?_
  refine Ct.then_tr ?_
  refine Tr.weak (Γ' := [(0, (pSl 1 (cK .i64) x_0))]) ⟨rfl, trivial⟩ ?_
  refine Tr.seq ?_
  refine Tr.seq ?_
  refine Tr.region ?_
  refine RegL.pure (p := (pSl 1 (cK .i64) x_0)) rfl rfl rfl (J_move rfl (Opd.tmp rfl)) ?_
  refine RegL.pure (p := (pEq (.int .i64 (x_0.length : Int)))) rfl rfl rfl (J_len rfl Tryd.underlying22 (Opd.tmp rfl) rfl) ?_
  refine RegL.pure (p := (pEq (.int .i64 (w64 ((x_0.length : Int) - (1 : Int)))))) rfl rfl rfl (J_bin rfl (Opd.tmp rfl) Opd.con B_sub) ?_
  refine RegL.pure (p := (pEq (.int .i64 (w64 ((x_0.length : Int) - (1 : Int)))))) rfl rfl rfl (J_assign rfl (Opd.tmp rfl)) ?_
  refine RegL.nil ?_
  refine Ct.then_tr ?_
  refine Tr.weak (Γ' := [(0, (pSl 1 (cK .i64) x_0)), (3, (pEq (.int .i64 (w64 ((x_0.length : Int) - (1 : Int))))))]) ⟨rfl, rfl, trivial⟩ ?_
  refine Tr.block ?_
  refine Tr.weak (Γ' := [(0, (pSl 1 (cK .i64) x_0)), (3, (pEq (.int .i64 (w64 ((x_0.length : Int) - (1 : Int))))))]) ⟨rfl, rfl, trivial⟩ ?_
  refine Tr.loop (γ := Unit) (σ := Int) (Γσ := fun s g => [(0, (pSl 1 (cK .i64) x_0)), (3, (pEq (.int .i64 s)))]) (Ωσ := fun s g => []) (g := ()) h ?_
  clear h
  rintro v2 g3 t h
  replace h : m_slices_IsSorted_int64_int64_B1 x_0 v2 = some t := h
  unfold m_slices_IsSorted_int64_int64_B1 at h
  refine Tr.weakO (Γ' := [(0, (pSl 1 (cK .i64) x_0)), (3, (pEq (.int .i64 v2)))]) (Ω' := []) rfl ⟨rfl, rfl, trivial⟩ ?_
  refine Tr.seq ?_
  refine Tr.seq ?_
  refine Tr.region ?_
  refine RegL.pure (p := (pEq (.int .i64 v2))) rfl rfl rfl (J_move rfl (Opd.tmp rfl)) ?_
  refine RegL.pure (p := (pEq (.bool (decide ((0 : Int) < v2))))) rfl rfl rfl (J_bin rfl (Opd.tmp rfl) Opd.con B_gtr) ?_
  refine RegL.nil ?_
  refine Ct.then_tr ?_
  refine Tr.weak (Γ' := [(0, (pSl 1 (cK .i64) x_0)), (3, (pEq (.int .i64 v2))), (8, (pEq (.bool (decide ((0 : Int) < v2)))))]) ⟨rfl, rfl, rfl, trivial⟩ ?_
  refine Tr.cond (Opd.tmp rfl) (fun hc => ?_) (fun hc => ?_)
  · replace h := bif_t hc h
    refine Tr.skip ?_
    refine Ct.then_tr ?_
    refine Tr.weak (Γ' := [(0, (pSl 1 (cK .i64) x_0)), (3, (pEq (.int .i64 v2)))]) ⟨rfl, rfl, trivial⟩ ?_
    refine Tr.seq ?_
    refine Tr.block ?_
    refine Tr.seq ?_
    replace h := bind_some h; obtain ⟨x4, hx4, h⟩ := h
    replace h := bind_some h; obtain ⟨x5, hx5, h⟩ := h
    replace h := bind_some h; obtain ⟨x6, hx6, h⟩ := h
    refine Tr.drawD (n := 21) (m := 10) (es := [some (Ent.mk [(0, (pSl 1 (cK .i64) x_0))] (pSl 1 (cK .i64) x_0) true), some (Ent.mk [(3, (pEq (.int .i64 v2)))] (pEq (.int .i64 v2)) true), some (Ent.mk [(11, (pSl 1 (cK .i64) x_0)), (12, (pEq (.int .i64 v2)))] (pPtr ((cK .i64) x4)) true), some (Ent.mk [(13, (pPtr ((cK .i64) x4)))] (pEq (.int .i64 x4)) true), some (Ent.mk [(0, (pSl 1 (cK .i64) x_0))] (pSl 1 (cK .i64) x_0) true), some (Ent.mk [(3, (pEq (.int .i64 v2)))] (pEq (.int .i64 v2)) true), some (Ent.mk [(16, (pEq (.int .i64 v2)))] (pEq (.int .i64 (w64 (v2 - (1 : Int))))) true), some (Ent.mk [(15, (pSl 1 (cK .i64) x_0)), (17, (pEq (.int .i64 (w64 (v2 - (1 : Int))))))] (pPtr ((cK .i64) x5)) true), some (Ent.mk [(18, (pPtr ((cK .i64) x5)))] (pEq (.int .i64 x5)) true), some (Ent.mk [(14, (pEq (.int .i64 x4))), (19, (pEq (.int .i64 x5)))] (pEq (.bool x6)) true)]) (rd := [[0], [3], [11, 12], [13], [0], [3], [16], [15, 17], [18], [14, 19]]) rfl hmix (by kernel_rfl) fun hD => ?_
    refine RD.fin (es := [Ent.mk [(0, (pSl 1 (cK .i64) x_0))] (pSl 1 (cK .i64) x_0) true, Ent.mk [(3, (pEq (.int .i64 v2)))] (pEq (.int .i64 v2)) true, Ent.mk [(11, (pSl 1 (cK .i64) x_0)), (12, (pEq (.int .i64 v2)))] (pPtr ((cK .i64) x4)) true, Ent.mk [(13, (pPtr ((cK .i64) x4)))] (pEq (.int .i64 x4)) true, Ent.mk [(0, (pSl 1 (cK .i64) x_0))] (pSl 1 (cK .i64) x_0) true, Ent.mk [(3, (pEq (.int .i64 v2)))] (pEq (.int .i64 v2)) true, Ent.mk [(16, (pEq (.int .i64 v2)))] (pEq (.int .i64 (w64 (v2 - (1 : Int))))) true, Ent.mk [(15, (pSl 1 (cK .i64) x_0)), (17, (pEq (.int .i64 (w64 (v2 - (1 : Int))))))] (pPtr ((cK .i64) x5)) true, Ent.mk [(18, (pPtr ((cK .i64) x5)))] (pEq (.int .i64 x5)) true, Ent.mk [(14, (pEq (.int .i64 x4))), (19, (pEq (.int .i64 x5)))] (pEq (.bool x6)) true]) (done := []) hD ⟨.inr ⟨(OpJ.w (J_move rfl (Opd.tmp rfl))), ⟨rfl, trivial⟩, rfl, rfl⟩, ⟨.inr ⟨(OpJ.w (J_move rfl (Opd.tmp rfl))), ⟨rfl, trivial⟩, rfl, rfl⟩, ⟨.inr ⟨(OpJ.w (J_idx rfl Tryd.underlying22 sz2 (Opd.tmp rfl) (Opd.tmp rfl) hx4)), ⟨rfl, rfl, trivial⟩, rfl, rfl⟩, ⟨.inr ⟨(OpJ.w (J_load rfl Tryd.isAgg2 (Opd.tmp rfl))), ⟨rfl, trivial⟩, rfl, rfl⟩, ⟨.inr ⟨(OpJ.w (J_move rfl (Opd.tmp rfl))), ⟨rfl, trivial⟩, rfl, rfl⟩, ⟨.inr ⟨(OpJ.w (J_move rfl (Opd.tmp rfl))), ⟨rfl, trivial⟩, rfl, rfl⟩, ⟨.inr ⟨(OpJ.w (J_bin rfl (Opd.tmp rfl) Opd.con B_sub)), ⟨rfl, trivial⟩, rfl, rfl⟩, ⟨.inr ⟨(OpJ.w (J_idx rfl Tryd.underlying22 sz2 (Opd.tmp rfl) (Opd.tmp rfl) hx5)), ⟨rfl, rfl, trivial⟩, rfl, rfl⟩, ⟨.inr ⟨(OpJ.w (J_load rfl Tryd.isAgg2 (Opd.tmp rfl))), ⟨rfl, trivial⟩, rfl, rfl⟩, ⟨.inr ⟨(OpJ.w (J_call rfl Tryd.call105 (c_cmp_Less_int64 hx6) (Opds.cons (Opd.tmp rfl) (Opds.cons (Opd.tmp rfl) Opds.nil)))), ⟨rfl, rfl, trivial⟩, rfl, rfl⟩, trivial⟩⟩⟩⟩⟩⟩⟩⟩⟩⟩ ?_
    refine RegL.nil ?_
    refine Ct.then_tr ?_
    refine Tr.weak (Γ' := [(0, (pSl 1 (cK .i64) x_0)), (3, (pEq (.int .i64 v2))), (20, (pEq (.bool x6)))]) ⟨rfl, rfl, rfl, trivial⟩ ?_
    refine Tr.cond (Opd.tmp rfl) (fun hc => ?_) (fun hc => ?_)
    · replace h := bif_t hc h
      refine Tr.seq ?_
      refine Tr.region ?_
      refine RegL.pure (p := (pEq (.bool false))) rfl rfl rfl (J_assign rfl Opd.con) ?_
      refine RegL.nil ?_
      refine Ct.then_tr ?_
      refine Tr.weak (Γ' := [(2, (pEq (.bool false)))]) ⟨rfl, trivial⟩ ?_
      refine Tr.ret ?_
      refine Ct.blk_ret ?_
      refine Ct.then_ret ?_
      replace h := map_some h; obtain ⟨r1, h, rfl⟩ := h
      refine Ct.out_ret fun e => ?_
      subst e
      refine Ct.blk_ret ?_
      refine Ct.then_ret ?_
      replace h := Option.some.inj h; subst h
      exact Ct.retH1 (Ωx := []) () rfl (RvOk.tmp rfl) rfl
    · replace h := bif_f hc h
      refine Tr.skip ?_
      refine Ct.blk_normal ?_
      refine Ct.then_tr ?_
      refine Tr.weak (Γ' := [(0, (pSl 1 (cK .i64) x_0)), (3, (pEq (.int .i64 v2)))]) ⟨rfl, rfl, trivial⟩ ?_
      refine Tr.region ?_
      refine RegL.pure (p := (pEq (.int .i64 v2))) rfl rfl rfl (J_move rfl (Opd.tmp rfl)) ?_
      refine RegL.pure (p := (pEq (.int .i64 (w64 (v2 - (1 : Int)))))) rfl rfl rfl (J_bin rfl (Opd.tmp rfl) Opd.con B_sub) ?_
      refine RegL.pure (p := (pEq (.int .i64 (w64 (v2 - (1 : Int)))))) rfl rfl rfl (J_assign rfl (Opd.tmp rfl)) ?_
      refine RegL.nil ?_
      replace h := Option.some.inj h; subst h
      exact Ct.again () rfl ⟨rfl, rfl, trivial⟩
  · replace h := bif_f hc h
    refine Tr.exit ?_
    refine Ct.then_exit ?_
    replace h := map_some h; obtain ⟨r1, h, rfl⟩ := h
    refine Ct.out_exit fun e => ?_
    subst e
    refine Ct.blk_exit ?_
    refine Ct.then_tr ?_
    refine Tr.weak (Γ' := []) trivial ?_
    refine Tr.seq ?_
    refine Tr.region ?_
    refine RegL.pure (p := (pEq (.bool true))) rfl rfl rfl (J_assign rfl Opd.con) ?_
    refine RegL.nil ?_
    refine Ct.then_tr ?_
    refine Tr.weak (Γ' := [(2, (pEq (.bool true)))]) ⟨rfl, trivial⟩ ?_
    refine Tr.ret ?_
    replace h := Option.some.inj h; subst h
    exact Ct.retH1 (Ωx := []) () rfl (RvOk.tmp rfl) rfl

theorem c_impl_tableOk {table_0 : (List Int)} {r : Bool} (h : m_impl_tableOk table_0 = some r) : CallJ Tryd.prog 41 [(pSl 1 (cK .i64) table_0)] (pEq (.bool r)) := by
  unfold m_impl_tableOk at h
  refine CallJ.enterH Tryd.func41 rfl Tryd.ntmps41 rfl fun W I0 H => ?_
  refine Tr.weak (Γ' := [(0, (pSl 1 (cK .i64) table_0))]) ⟨rfl, trivial⟩ ?_
  refine Tr.seq ?_
  refine Tr.region ?_
  refine RegL.pure (p := (pEq (.bool false))) rfl rfl rfl (J_assign rfl Opd.con) ?_
  refine RegL.nil ?_
  refine Ct.then_tr ?_
  refine Tr.weak (Γ' := [(0, (pSl 1 (cK .i64) table_0))]) ⟨rfl, trivial⟩ ?_
  refine Tr.seq ?_
  replace h := bind_some h; obtain ⟨x1, hx1, h⟩ := h
  refine Tr.cut (γ := Unit) (Γm := fun g => [(2, (pEq (.bool x1)))]) (Ωm := fun g => []) ?_ (fun g9 => ?_)
  · clear h
    have h := hx1
    clear hx1
    refine Tr.region ?_
    refine RegL.pure (p := (pSl 1 (cK .i64) table_0)) rfl rfl rfl (J_move rfl (Opd.tmp rfl)) ?_
    refine RegL.pure (p := (pEq (.int .i64 (table_0.length : Int)))) rfl rfl rfl (J_len rfl Tryd.underlying22 (Opd.tmp rfl) rfl) ?_
    refine RegL.pure (p := (pEq (.bool (decide ((1 : Int) ≤ (table_0.length : Int)))))) rfl rfl rfl (J_bin rfl (Opd.tmp rfl) Opd.con B_geq) ?_
    refine RegL.pure (p := (pEq (.bool (decide ((1 : Int) ≤ (table_0.length : Int)))))) rfl rfl rfl (J_move rfl (Opd.tmp rfl)) ?_
    rcases Bool.eq_false_or_eq_true (decide ((1 : Int) ≤ (table_0.length : Int))) with hc2 | hc2
    · replace h := bif_t hc2 h
      refine RegL.pureG (p := (pSl 1 (cK .i64) table_0)) rfl rfl rfl hc2 rfl rfl (J_move rfl (Opd.tmp rfl)) ?_
      refine RegL.pureG (p := (pEq (.int .i64 (table_0.length : Int)))) rfl rfl rfl hc2 rfl rfl (J_len rfl Tryd.underlying22 (Opd.tmp rfl) rfl) ?_
      refine RegL.pureG (p := (pEq (.bool (decide ((table_0.length : Int) ≤ (64 : Int)))))) rfl rfl rfl hc2 rfl rfl (J_bin rfl (Opd.tmp rfl) Opd.con B_leq) ?_
      refine RegL.pure (p := (pEq (.bool (decide ((table_0.length : Int) ≤ (64 : Int)))))) rfl rfl rfl (J_pick rfl (Opd.tmp rfl) (fun _ => (Opd.tmp rfl)) (fun hf => absurd (hc2.symm.trans hf) (by decide))) ?_
      refine RegL.pure (p := (pEq (.bool (decide ((table_0.length : Int) ≤ (64 : Int)))))) rfl rfl rfl (J_move rfl (Opd.tmp rfl)) ?_
      rcases Bool.eq_false_or_eq_true (decide ((table_0.length : Int) ≤ (64 : Int))) with hc3 | hc3
      · replace h := bif_t hc3 h
        refine RegL.pureG (p := (pSl 1 (cK .i64) table_0)) rfl rfl rfl hc3 rfl rfl (J_move rfl (Opd.tmp rfl)) ?_
        replace h := bind_some h; obtain ⟨x4, hx4, h⟩ := h
        refine RegL.pureG (p := (pPtr ((cK .i64) x4))) rfl rfl rfl hc3 rfl rfl (J_idx rfl Tryd.underlying22 sz2 (Opd.tmp rfl) Opd.con hx4) ?_
        refine RegL.pureG (p := (pEq (.int .i64 x4))) rfl rfl rfl hc3 rfl rfl (J_load rfl Tryd.isAgg2 (Opd.tmp rfl)) ?_
        refine RegL.pureG (p := (pEq (.bool (x4 == (0 : Int))))) rfl rfl rfl hc3 rfl rfl (J_bin rfl (Opd.tmp rfl) Opd.con B_eql) ?_
        refine RegL.pure (p := (pEq (.bool (x4 == (0 : Int))))) rfl rfl rfl (J_pick rfl (Opd.tmp rfl) (fun _ => (Opd.tmp rfl)) (fun hf => absurd (hc3.symm.trans hf) (by decide))) ?_
        refine RegL.pure (p := (pEq (.bool (x4 == (0 : Int))))) rfl rfl rfl (J_move rfl (Opd.tmp rfl)) ?_
        rcases Bool.eq_false_or_eq_true (x4 == (0 : Int)) with hc5 | hc5
        · replace h := bif_t hc5 h
          refine RegL.pureG (p := (pSl 1 (cK .i64) table_0)) rfl rfl rfl hc5 rfl rfl (J_move rfl (Opd.tmp rfl)) ?_
          replace h := bind_some h; obtain ⟨x6, hx6, h⟩ := h
          refine RegL.pureG (p := (pEq (.bool x6))) rfl rfl rfl hc5 rfl rfl (J_call rfl Tryd.call72 (c_slices_IsSorted_int64_int64 hx6) (Opds.cons (Opd.tmp rfl) Opds.nil)) ?_
          refine RegL.pure (p := (pEq (.bool x6))) rfl rfl rfl (J_pick rfl (Opd.tmp rfl) (fun _ => (Opd.tmp rfl)) (fun hf => absurd (hc5.symm.trans hf) (by decide))) ?_
          refine RegL.pure (p := (pEq (.bool x6))) rfl rfl rfl (J_move rfl (Opd.tmp rfl)) ?_
          rcases Bool.eq_false_or_eq_true x6 with hc7 | hc7
          · replace h := bif_t hc7 h
            refine RegL.pureG (p := (pSl 1 (cK .i64) table_0)) rfl rfl rfl hc7 rfl rfl (J_move rfl (Opd.tmp rfl)) ?_
            replace h := bind_some h; obtain ⟨x8, hx8, h⟩ := h
            refine RegL.pureG (p := (pEq (.bool x8))) rfl rfl rfl hc7 rfl rfl (J_call rfl Tryd.call71 (c_impl_allWithin hx8) (Opds.cons (Opd.tmp rfl) (Opds.cons Opd.con (Opds.cons Opd.con Opds.nil)))) ?_
            refine RegL.pure (p := (pEq (.bool x8))) rfl rfl rfl (J_pick rfl (Opd.tmp rfl) (fun _ => (Opd.tmp rfl)) (fun hf => absurd (hc7.symm.trans hf) (by decide))) ?_
            refine RegL.pure (p := (pEq (.bool x8))) rfl rfl rfl (J_assign rfl (Opd.tmp rfl)) ?_
            refine RegL.nil ?_
            replace h := Option.some.inj h; subst h
            exact Ct.mid () rfl ⟨rfl, trivial⟩
          · replace h := bif_f hc7 h
            refine RegL.skipG rfl rfl rfl hc7 rfl rfl ?_
            refine RegL.skipG rfl rfl rfl hc7 rfl rfl ?_
            refine RegL.pure (p := (pEq (.bool false))) rfl rfl rfl (J_pick rfl (Opd.tmp rfl) (fun hf => absurd (hc7.symm.trans hf) (by decide)) (fun _ => Opd.con)) ?_
            refine RegL.pure (p := (pEq (.bool false))) rfl rfl rfl (J_assign rfl (Opd.tmp rfl)) ?_
            refine RegL.nil ?_
            replace h := Option.some.inj h; subst h
            exact Ct.mid () rfl ⟨rfl, trivial⟩
        · replace h := bif_f hc5 h
          refine RegL.skipG rfl rfl rfl hc5 rfl rfl ?_
          refine RegL.skipG rfl rfl rfl hc5 rfl rfl ?_
          refine RegL.pure (p := (pEq (.bool false))) rfl rfl rfl (J_pick rfl (Opd.tmp rfl) (fun hf => absurd (hc5.symm.trans hf) (by decide)) (fun _ => Opd.con)) ?_
          refine RegL.pure (p := (pEq (.bool false))) rfl rfl rfl (J_move rfl (Opd.tmp rfl)) ?_
          refine RegL.skipG rfl rfl rfl rfl rfl rfl ?_
          refine RegL.skipG rfl rfl rfl rfl rfl rfl ?_
          refine RegL.pure (p := (pEq (.bool false))) rfl rfl rfl (J_pick rfl (Opd.tmp rfl) (fun hf => absurd hf (by decide)) (fun _ => Opd.con)) ?_
          refine RegL.pure (p := (pEq (.bool false))) rfl rfl rfl (J_assign rfl (Opd.tmp rfl)) ?_
          refine RegL.nil ?_
          replace h := Option.some.inj h; subst h
          exact Ct.mid () rfl ⟨rfl, trivial⟩
      · replace h := bif_f hc3 h
        refine RegL.skipG rfl rfl rfl hc3 rfl rfl ?_
        refine RegL.skipG rfl rfl rfl hc3 rfl rfl ?_
        refine RegL.skipG rfl rfl rfl hc3 rfl rfl ?_
        refine RegL.skipG rfl rfl rfl hc3 rfl rfl ?_
        refine RegL.pure (p := (pEq (.bool false))) rfl rfl rfl (J_pick rfl (Opd.tmp rfl) (fun hf => absurd (hc3.symm.trans hf) (by decide)) (fun _ => Opd.con)) ?_
        refine RegL.pure (p := (pEq (.bool false))) rfl rfl rfl (J_move rfl (Opd.tmp rfl)) ?_
        refine RegL.skipG rfl rfl rfl rfl rfl rfl ?_
        refine RegL.skipG rfl rfl rfl rfl rfl rfl ?_
        refine RegL.pure (p := (pEq (.bool false))) rfl rfl rfl (J_pick rfl (Opd.tmp rfl) (fun hf => absurd hf (by decide)) (fun _ => Opd.con)) ?_
        refine RegL.pure (p := (pEq (.bool false))) rfl rfl rfl (J_move rfl (Opd.tmp rfl)) ?_
        refine RegL.skipG rfl rfl rfl rfl rfl rfl ?_
        refine RegL.skipG rfl rfl rfl rfl rfl rfl ?_
        refine RegL.pure (p := (pEq (.bool false))) rfl rfl rfl (J_pick rfl (Opd.tmp rfl) (fun hf => absurd hf (by decide)) (fun _ => Opd.con)) ?_
        refine RegL.pure (p := (pEq (.bool false))) rfl rfl rfl (J_assign rfl (Opd.tmp rfl)) ?_
        refine RegL.nil ?_
        replace h := Option.some.inj h; subst h
        exact Ct.mid () rfl ⟨rfl, trivial⟩
    · replace h := bif_f hc2 h
      refine RegL.skipG rfl rfl rfl hc2 rfl rfl ?_
      refine RegL.skipG rfl rfl rfl hc2 rfl rfl ?_
      refine RegL.skipG rfl rfl rfl hc2 rfl rfl ?_
      refine RegL.pure (p := (pEq (.bool false))) rfl rfl rfl (J_pick rfl (Opd.tmp rfl) (fun hf => absurd (hc2.symm.trans hf) (by decide)) (fun _ => Opd.con)) ?_
      refine RegL.pure (p := (pEq (.bool false))) rfl rfl rfl (J_move rfl (Opd.tmp rfl)) ?_
      refine RegL.skipG rfl rfl rfl rfl rfl rfl ?_
      refine RegL.skipG rfl rfl rfl rfl rfl rfl ?_
      refine RegL.skipG rfl rfl rfl rfl rfl rfl ?_
      refine RegL.skipG rfl rfl rfl rfl rfl rfl ?_
      refine RegL.pure (p := (pEq (.bool false))) rfl rfl rfl (J_pick rfl (Opd.tmp rfl) (fun hf => absurd hf (by decide)) (fun _ => Opd.con)) ?_
      refine RegL.pure (p := (pEq (.bool false))) rfl rfl rfl (J_move rfl (Opd.tmp rfl)) ?_
      refine RegL.skipG rfl rfl rfl rfl rfl rfl ?_
      refine RegL.skipG rfl rfl rfl rfl rfl rfl ?_
      refine RegL.pure (p := (pEq (.bool false))) rfl rfl rfl (J_pick rfl (Opd.tmp rfl) (fun hf => absurd hf (by decide)) (fun _ => Opd.con)) ?_
      refine RegL.pure (p := (pEq (.bool false))) rfl rfl rfl (J_move rfl (Opd.tmp rfl)) ?_
      refine RegL.skipG rfl rfl rfl rfl rfl rfl ?_
      refine RegL.skipG rfl rfl rfl rfl rfl rfl ?_
      refine RegL.pure (p := (pEq (.bool false))) rfl rfl rfl (J_pick rfl (Opd.tmp rfl) (fun hf => absurd hf (by decide)) (fun _ => Opd.con)) ?_
      refine RegL.pure (p := (pEq (.bool false))) rfl rfl rfl (J_assign rfl (Opd.tmp rfl)) ?_
      refine RegL.nil ?_
      replace h := Option.some.inj h; subst h
      exact Ct.mid () rfl ⟨rfl, trivial⟩
  · clear hx1
    refine Ct.then_tr ?_
    refine Tr.weak (Γ' := [(2, (pEq (.bool x1)))]) ⟨rfl, trivial⟩ ?_
    refine Tr.ret ?_
    replace h := Option.some.inj h; subst h
    exact Ct.retH1 (Ωx := []) () rfl (RvOk.tmp rfl) rfl

theorem c_impl_channelsOk {channels_0 : (List Int)} {sectors_1 : Int} {r : Bool} (h : m_impl_channelsOk channels_0 sectors_1 = some r) : CallJ Tryd.prog 42 [(pSl 1 (cK .i64) channels_0), (pEq (.int .i64 sectors_1))] (pEq (.bool r)) := by
  unfold m_impl_channelsOk at h
  refine CallJ.enterH Tryd.func42 rfl Tryd.ntmps42 rfl fun W I0 H => ?_
  refine Tr.weak (Γ' := [(0, (pSl 1 (cK .i64) channels_0)), (1, (pEq (.int .i64 sectors_1)))]) ⟨rfl, rfl, trivial⟩ ?_
  refine Tr.seq ?_
  refine Tr.region ?_
  refine RegL.pure (p := (pEq (.bool false))) rfl rfl rfl (J_assign rfl Opd.con) ?_
  refine RegL.nil ?_
  refine Ct.then_tr ?_
  refine Tr.weak (Γ' := [(0, (pSl 1 (cK .i64) channels_0)), (1, (pEq (.int .i64 sectors_1)))]) ⟨rfl, rfl, trivial⟩ ?_
  refine Tr.seq ?_
  replace h := bind_some h; obtain ⟨x1, hx1, h⟩ := h
  refine Tr.cut (γ := Unit) (Γm := fun g => [(4, (pEq (.bool x1)))]) (Ωm := fun g => []) ?_ (fun g4 => ?_)
  · clear h
    have h := hx1
    clear hx1
    refine Tr.region ?_
    refine RegL.pure (p := (pSl 1 (cK .i64) channels_0)) rfl rfl rfl (J_move rfl (Opd.tmp rfl)) ?_
    refine RegL.pure (p := (pEq (.int .i64 (channels_0.length : Int)))) rfl rfl rfl (J_len rfl Tryd.underlying22 (Opd.tmp rfl) rfl) ?_
    refine RegL.pure (p := (pEq (.int .i64 sectors_1))) rfl rfl rfl (J_move rfl (Opd.tmp rfl)) ?_
    refine RegL.pure (p := (pEq (.bool ((channels_0.length : Int) == sectors_1)))) rfl rfl rfl (J_bin rfl (Opd.tmp rfl) (Opd.tmp rfl) B_eql) ?_
    refine RegL.pure (p := (pEq (.bool ((channels_0.length : Int) == sectors_1)))) rfl rfl rfl (J_move rfl (Opd.tmp rfl)) ?_
    rcases Bool.eq_false_or_eq_true ((channels_0.length : Int) == sectors_1) with hc2 | hc2
    · replace h := bif_t hc2 h
      refine RegL.pureG (p := (pSl 1 (cK .i64) channels_0)) rfl rfl rfl hc2 rfl rfl (J_move rfl (Opd.tmp rfl)) ?_
      replace h := bind_some h; obtain ⟨x3, hx3, h⟩ := h
      refine RegL.pureG (p := (pEq (.bool x3))) rfl rfl rfl hc2 rfl rfl (J_call rfl Tryd.call71 (c_impl_allWithin hx3) (Opds.cons (Opd.tmp rfl) (Opds.cons Opd.con (Opds.cons Opd.con Opds.nil)))) ?_
      refine RegL.pure (p := (pEq (.bool x3))) rfl rfl rfl (J_pick rfl (Opd.tmp rfl) (fun _ => (Opd.tmp rfl)) (fun hf => absurd (hc2.symm.trans hf) (by decide))) ?_
      refine RegL.pure (p := (pEq (.bool x3))) rfl rfl rfl (J_assign rfl (Opd.tmp rfl)) ?_
      refine RegL.nil ?_
      replace h := Option.some.inj h; subst h
      exact Ct.mid () rfl ⟨rfl, trivial⟩
    · replace h := bif_f hc2 h
      refine RegL.skipG rfl rfl rfl hc2 rfl rfl ?_
      refine RegL.skipG rfl rfl rfl hc2 rfl rfl ?_
      refine RegL.pure (p := (pEq (.bool false))) rfl rfl rfl (J_pick rfl (Opd.tmp rfl) (fun hf => absurd (hc2.symm.trans hf) (by decide)) (fun _ => Opd.con)) ?_
      refine RegL.pure (p := (pEq (.bool false))) rfl rfl rfl (J_assign rfl (Opd.tmp rfl)) ?_
      refine RegL.nil ?_
      replace h := Option.some.inj h; subst h
      exact Ct.mid () rfl ⟨rfl, trivial⟩
  · clear hx1
    refine Ct.then_tr ?_
    refine Tr.weak (Γ' := [(4, (pEq (.bool x1)))]) ⟨rfl, trivial⟩ ?_
    refine Tr.ret ?_
    replace h := Option.some.inj h; subst h
    exact Ct.retH1 (Ωx := []) () rfl (RvOk.tmp rfl) rfl

theorem c_slices_Max_int64_int64 {x_0 : (List Int)} {r : Int} (h : m_slices_Max_int64_int64 x_0 = some r) : CallJ Tryd.prog 78 [(pSl 1 (cK .i64) x_0)] (pEq (.int .i64 r)) := by
  unfold m_slices_Max_int64_int64 at h
  refine CallJ.enterH Tryd.func78 rfl Tryd.ntmps78 rfl fun W I0 H => ?_
  refine Tr.weak (Γ' := [(0, (pSl 1 (cK .i64) x_0))]) ⟨rfl, trivial⟩ ?_
  refine Tr.seq ?_
  refine Tr.region ?_
  refine RegL.pure (p := (pEq (.int .i64 (0 : Int)))) rfl rfl rfl (J_assign rfl Opd.con) ?_
  refine RegL.nil ?_
  refine Ct.then_tr ?_
  refine Tr.weak (Γ' := [(0, (pSl 1 (cK .i64) x_0))]) ⟨rfl, trivial⟩ ?_
  refine Tr.seq ?_
  refine Tr.seq ?_
  refine Tr.region ?_
  refine RegL.pure (p := (pSl 1 (cK .i64) x_0)) rfl rfl rfl (J_move rfl (Opd.tmp rfl)) ?_
  refine RegL.pure (p := (pEq (.int .i64 (x_0.length : Int)))) rfl rfl rfl (J_len rfl Tryd.underlying22 (Opd.tmp rfl) rfl) ?_
  refine RegL.pure (p := (pEq (.bool (decide ((x_0.length : Int) < (1 : Int)))))) rfl rfl rfl (J_bin rfl (Opd.tmp rfl) Opd.con B_lss) ?_
  refine RegL.nil ?_
  refine Ct.then_tr ?_
  refine Tr.weak (Γ' := [(0, (pSl 1 (cK .i64) x_0)), (7, (pEq (.bool (decide ((x_0.length : Int) < (1 : Int))))))]) ⟨rfl, rfl, trivial⟩ ?_
  replace h := bind_some h; obtain ⟨x1, hx1, h⟩ := h
  refine Tr.cut (γ := Unit) (Γm := fun g => [(0, (pSl 1 (cK .i64) x_0))]) (Ωm := fun g => []) ?_ (fun g2 => ?_)
  · clear h
    have h := hx1
    clear hx1
    refine Tr.cond (Opd.tmp rfl) (fun hc => ?_) (fun hc => ?_)
    · replace h := bif_t hc h
      refine Tr.region ?_
      exact absurd h (by simp)
    · replace h := bif_f hc h
      refine Tr.skip ?_
      replace h := Option.some.inj h; subst h
      exact Ct.mid () rfl ⟨rfl, trivial⟩
  · clear hx1
    refine Ct.then_tr ?_
    refine Tr.weak (Γ' := [(0, (pSl 1 (cK .i64) x_0))]) ⟨rfl, trivial⟩ ?_
    refine Tr.seq ?_
    refine Tr.region ?_
    refine RegL.pure (p := (pSl 1 (cK .i64) x_0)) rfl rfl rfl (J_move rfl (Opd.tmp rfl)) ?_
    replace h := bind_some h; obtain ⟨x3, hx3, h⟩ := h
    refine RegL.pure (p := (pPtr ((cK .i64) x3))) rfl rfl rfl (J_idx rfl Tryd.underlying22 sz2 (Opd.tmp rfl) Opd.con hx3) ?_
    refine RegL.pure (p := (pEq (.int .i64 x3))) rfl rfl rfl (J_load rfl Tryd.isAgg2 (Opd.tmp rfl)) ?_
    refine RegL.pure (p := (pEq (.int .i64 x3))) rfl rfl rfl (J_assign rfl (Opd.tmp rfl)) ?_
    refine RegL.nil ?_
    refine Ct.then_tr ?_
    refine Tr.weak (Γ' := [(0, (pSl 1 (cK .i64) x_0)), (3, (pEq (.int .i64 x3)))]) ⟨rfl, rfl, trivial⟩ ?_
    refine Tr.seq ?_
    refine Tr.seq ?_
    refine Tr.region ?_
    refine RegL.pure (p := (pEq (.int .i64 (1 : Int)))) rfl rfl rfl (J_assign rfl Opd.con) ?_
    refine RegL.nil ?_
    refine Ct.then_tr ?_
    refine Tr.weak (Γ' := [(0, (pSl 1 (cK .i64) x_0)), (3, (pEq (.int .i64 x3))), (4, (pEq (.int .i64 (1 : Int))))]) ⟨rfl, rfl, rfl, trivial⟩ ?_
    replace h := bind_some h; obtain ⟨x4, hx4, h⟩ := h
    refine Tr.cut (γ := Unit) (Γm := fun g => [(3, (pEq (.int .i64 x4)))]) (Ωm := fun g => []) ?_ (fun g10 => ?_)
    · clear h
      have h := hx4
      clear hx4
      refine Tr.block ?_
      refine Tr.weak (Γ' := [(0, (pSl 1 (cK .i64) x_0)), (3, (pEq (.int .i64 x3))), (4, (pEq (.int .i64 (1 : Int))))]) ⟨rfl, rfl, rfl, trivial⟩ ?_
      refine Tr.loop (γ := Unit) (σ := (Int × Int)) (Γσ := fun s g => [(0, (pSl 1 (cK .i64) x_0)), (3, (pEq (.int .i64 s.1))), (4, (pEq (.int .i64 s.2)))]) (Ωσ := fun s g => []) (g := ()) h ?_
      clear h
      rintro ⟨v6, v7⟩ g8 t h
      replace h : m_slices_Max_int64_int64_B5 x_0 v6 v7 = some t := h
      unfold m_slices_Max_int64_int64_B5 at h
      refine Tr.weakO (Γ' := [(0, (pSl 1 (cK .i64) x_0)), (3, (pEq (.int .i64 v6))), (4, (pEq (.int .i64 v7)))]) (Ω' := []) rfl ⟨rfl, rfl, rfl, trivial⟩ ?_
      refine Tr.seq ?_
      refine Tr.seq ?_
      refine Tr.region ?_
      refine RegL.pure (p := (pEq (.int .i64 v7))) rfl rfl rfl (J_move rfl (Opd.tmp rfl)) ?_
      refine RegL.pure (p := (pSl 1 (cK .i64) x_0)) rfl rfl rfl (J_move rfl (Opd.tmp rfl)) ?_
      refine RegL.pure (p := (pEq (.int .i64 (x_0.length : Int)))) rfl rfl rfl (J_len rfl Tryd.underlying22 (Opd.tmp rfl) rfl) ?_
      refine RegL.pure (p := (pEq (.bool (decide (v7 < (x_0.length : Int)))))) rfl rfl rfl (J_bin rfl (Opd.tmp rfl) (Opd.tmp rfl) B_lss) ?_
      refine RegL.nil ?_
      refine Ct.then_tr ?_
      refine Tr.weak (Γ' := [(0, (pSl 1 (cK .i64) x_0)), (3, (pEq (.int .i64 v6))), (4, (pEq (.int .i64 v7))), (15, (pEq (.bool (decide (v7 < (x_0.length : Int))))))]) ⟨rfl, rfl, rfl, rfl, trivial⟩ ?_
      refine Tr.cond (Opd.tmp rfl) (fun hc => ?_) (fun hc => ?_)
      · replace h := bif_t hc h
        refine Tr.skip ?_
        refine Ct.then_tr ?_
        refine Tr.weak (Γ' := [(0, (pSl 1 (cK .i64) x_0)), (3, (pEq (.int .i64 v6))), (4, (pEq (.int .i64 v7)))]) ⟨rfl, rfl, rfl, trivial⟩ ?_
        refine Tr.seq ?_
        refine Tr.block ?_
        refine Tr.region ?_
        refine RegL.pure (p := (pEq (.int .i64 v6))) rfl rfl rfl (J_move rfl (Opd.tmp rfl)) ?_
        refine RegL.pure (p := (pSl 1 (cK .i64) x_0)) rfl rfl rfl (J_move rfl (Opd.tmp rfl)) ?_
        refine RegL.pure (p := (pEq (.int .i64 v7))) rfl rfl rfl (J_move rfl (Opd.tmp rfl)) ?_
        replace h := bind_some h; obtain ⟨x9, hx9, h⟩ := h
        refine RegL.pure (p := (pPtr ((cK .i64) x9))) rfl rfl rfl (J_idx rfl Tryd.underlying22 sz2 (Opd.tmp rfl) (Opd.tmp rfl) hx9) ?_
        refine RegL.pure (p := (pEq (.int .i64 x9))) rfl rfl rfl (J_load rfl Tryd.isAgg2 (Opd.tmp rfl)) ?_
        refine RegL.pure (p := (pEq (.int .i64 (if x9 > v6 then x9 else v6)))) rfl rfl rfl (J_max2 rfl (Opd.tmp rfl) (Opd.tmp rfl)) ?_
        refine RegL.pure (p := (pEq (.int .i64 (if x9 > v6 then x9 else v6)))) rfl rfl rfl (J_assign rfl (Opd.tmp rfl)) ?_
        refine RegL.nil ?_
        refine Ct.blk_normal ?_
        refine Ct.then_tr ?_
        refine Tr.weak (Γ' := [(0, (pSl 1 (cK .i64) x_0)), (3, (pEq (.int .i64 (if x9 > v6 then x9 else v6)))), (4, (pEq (.int .i64 v7)))]) ⟨rfl, rfl, rfl, trivial⟩ ?_
        refine Tr.region ?_
        refine RegL.pure (p := (pEq (.int .i64 v7))) rfl rfl rfl (J_move rfl (Opd.tmp rfl)) ?_
        refine RegL.pure (p := (pEq (.int .i64 (w64 (v7 + (1 : Int)))))) rfl rfl rfl (J_bin rfl (Opd.tmp rfl) Opd.con B_add) ?_
        refine RegL.pure (p := (pEq (.int .i64 (w64 (v7 + (1 : Int)))))) rfl rfl rfl (J_assign rfl (Opd.tmp rfl)) ?_
        refine RegL.nil ?_
        replace h := Option.some.inj h; subst h
        exact Ct.again () rfl ⟨rfl, rfl, rfl, trivial⟩
      · replace h := bif_f hc h
        refine Tr.exit ?_
        refine Ct.then_exit ?_
        replace h := map_some h; obtain ⟨r1, h, rfl⟩ := h
        refine Ct.out_exit fun e => ?_
        subst e
        refine Ct.blk_exit ?_
        replace h := Option.some.inj h; subst h
        exact Ct.mid () rfl ⟨rfl, trivial⟩
    · clear hx4
      refine Ct.then_tr ?_
      refine Tr.weak (Γ' := [(3, (pEq (.int .i64 x4)))]) ⟨rfl, trivial⟩ ?_
      refine Tr.seq ?_
      refine Tr.region ?_
      refine RegL.pure (p := (pEq (.int .i64 x4))) rfl rfl rfl (J_move rfl (Opd.tmp rfl)) ?_
      refine RegL.pure (p := (pEq (.int .i64 x4))) rfl rfl rfl (J_assign rfl (Opd.tmp rfl)) ?_
      refine RegL.nil ?_
      refine Ct.then_tr ?_
      refine Tr.weak (Γ' := [(2, (pEq (.int .i64 x4)))]) ⟨rfl, trivial⟩ ?_
      refine Tr.ret ?_
      replace h := Option.some.inj h; subst h
      exact Ct.retH1 (Ωx := []) () rfl (RvOk.tmp rfl) rfl

theorem c_slices_Index_int64_int64 {s_0 : (List Int)} {v_1 : Int} {r : Int} (h : m_slices_Index_int64_int64 s_0 v_1 = some r) : CallJ Tryd.prog 77 [(pSl 1 (cK .i64) s_0), (pEq (.int .i64 v_1))] (pEq (.int .i64 r)) := by
  unfold m_slices_Index_int64_int64 at h
  refine CallJ.enterH Tryd.func77 rfl Tryd.ntmps77 rfl fun W I0 H => ?_
  refine Tr.weak (Γ' := [(0, (pSl 1 (cK .i64) s_0)), (1, (pEq (.int .i64 v_1)))]) ⟨rfl, rfl, trivial⟩ ?_
  refine Tr.seq ?_
  refine Tr.region ?_
  refine RegL.pure (p := (pEq (.int .i64 (0 : Int)))) rfl rfl rfl (J_assign rfl Opd.con) ?_
  refine RegL.nil ?_
  refine Ct.then_tr ?_
  refine Tr.weak (Γ' := [(0, (pSl 1 (cK .i64) s_0)), (1, (pEq (.int .i64 v_1)))]) ⟨rfl, rfl, trivial⟩ ?_
  refine Tr.seq ?_
  refine Tr.seq ?_
  refine Tr.region ?_
  refine RegL.pure (p := (pSl 1 (cK .i64) s_0)) rfl rfl rfl (J_move rfl (Opd.tmp rfl)) ?_
  refine RegL.pure (p := (pEq (.int .i64 (s_0.length : Int)))) rfl rfl rfl (J_len rfl Tryd.underlying22 (Opd.tmp rfl) rfl) ?_
  refine RegL.pure (p := (pEq (.int .i64 (0 : Int)))) rfl rfl rfl (J_move rfl Opd.con) ?_
  refine RegL.nil ?_
  refine Ct.then_tr ?_
  refine Tr.weak (Γ' := [(0, (pSl 1 (cK .i64) s_0)), (1, (pEq (.int .i64 v_1))), (7, (pEq (.int .i64 (s_0.length : Int)))), (8, (pEq (.int .i64 (0 : Int))))]) ⟨rfl, rfl, rfl, rfl, trivial⟩ ?_
  refine Tr.block ?_
  refine Tr.weak (Γ' := [(0, (pSl 1 (cK .i64) s_0)), (1, (pEq (.int .i64 v_1))), (7, (pEq (.int .i64 (s_0.length : Int)))), (8, (pEq (.int .i64 (0 : Int))))]) ⟨rfl, rfl, rfl, rfl, trivial⟩ ?_
  refine Tr.loop (γ := Unit) (σ := Int) (Γσ := fun s g => [(0, (pSl 1 (cK .i64) s_0)), (1, (pEq (.int .i64 v_1))), (7, (pEq (.int .i64 (s_0.length : Int)))), (8, (pEq (.int .i64 s)))]) (Ωσ := fun s g => []) (g := ()) h ?_
  clear h
  rintro v2 g3 t h
  replace h : m_slices_Index_int64_int64_B1 s_0 v_1 v2 = some t := h
  unfold m_slices_Index_int64_int64_B1 at h
  refine Tr.weakO (Γ' := [(0, (pSl 1 (cK .i64) s_0)), (1, (pEq (.int .i64 v_1))), (7, (pEq (.int .i64 (s_0.length : Int)))), (8, (pEq (.int .i64 v2)))]) (Ω' := []) rfl ⟨rfl, rfl, rfl, rfl, trivial⟩ ?_
  refine Tr.seq ?_
  refine Tr.region ?_
  refine RegL.pure (p := (pEq (.bool (decide (v2 < (s_0.length : Int)))))) rfl rfl rfl (J_bin rfl (Opd.tmp rfl) (Opd.tmp rfl) B_lss) ?_
  refine RegL.nil ?_
  refine Ct.then_tr ?_
  refine Tr.weak (Γ' := [(0, (pSl 1 (cK .i64) s_0)), (1, (pEq (.int .i64 v_1))), (7, (pEq (.int .i64 (s_0.length : Int)))), (8, (pEq (.int .i64 v2))), (9, (pEq (.bool (decide (v2 < (s_0.length : Int))))))]) ⟨rfl, rfl, rfl, rfl, rfl, trivial⟩ ?_
  refine Tr.seq ?_
  refine Tr.cond (Opd.tmp rfl) (fun hc => ?_) (fun hc => ?_)
  · replace h := bif_t hc h
    refine Tr.skip ?_
    refine Ct.then_tr ?_
    refine Tr.weak (Γ' := [(0, (pSl 1 (cK .i64) s_0)), (1, (pEq (.int .i64 v_1))), (7, (pEq (.int .i64 (s_0.length : Int)))), (8, (pEq (.int .i64 v2)))]) ⟨rfl, rfl, rfl, rfl, trivial⟩ ?_
    refine Tr.seq ?_
    refine Tr.block ?_
    refine Tr.seq ?_
    refine Tr.region ?_
    refine RegL.pure (p := (pEq (.int .i64 v2))) rfl rfl rfl (J_move rfl (Opd.tmp rfl)) ?_
    refine RegL.pure (p := (pEq (.int .i64 v2))) rfl rfl rfl (J_assign rfl (Opd.tmp rfl)) ?_
    refine RegL.nil ?_
    refine Ct.then_tr ?_
    refine Tr.weak (Γ' := [(0, (pSl 1 (cK .i64) s_0)), (1, (pEq (.int .i64 v_1))), (5, (pEq (.int .i64 v2))), (7, (pEq (.int .i64 (s_0.length : Int)))), (8, (pEq (.int .i64 v2)))]) ⟨rfl, rfl, rfl, rfl, rfl, trivial⟩ ?_
    refine Tr.seq ?_
    refine Tr.region ?_
    refine RegL.pure (p := (pEq (.int .i64 v_1))) rfl rfl rfl (J_move rfl (Opd.tmp rfl)) ?_
    refine RegL.pure (p := (pSl 1 (cK .i64) s_0)) rfl rfl rfl (J_move rfl (Opd.tmp rfl)) ?_
    refine RegL.pure (p := (pEq (.int .i64 v2))) rfl rfl rfl (J_move rfl (Opd.tmp rfl)) ?_
    replace h := bind_some h; obtain ⟨x4, hx4, h⟩ := h
    refine RegL.pure (p := (pPtr ((cK .i64) x4))) rfl rfl rfl (J_idx rfl Tryd.underlying22 sz2 (Opd.tmp rfl) (Opd.tmp rfl) hx4) ?_
    refine RegL.pure (p := (pEq (.int .i64 x4))) rfl rfl rfl (J_load rfl Tryd.isAgg2 (Opd.tmp rfl)) ?_
    refine RegL.pure (p := (pEq (.bool (v_1 == x4)))) rfl rfl rfl (J_bin rfl (Opd.tmp rfl) (Opd.tmp rfl) B_eql) ?_
    refine RegL.nil ?_
    refine Ct.then_tr ?_
    refine Tr.weak (Γ' := [(0, (pSl 1 (cK .i64) s_0)), (1, (pEq (.int .i64 v_1))), (5, (pEq (.int .i64 v2))), (7, (pEq (.int .i64 (s_0.length : Int)))), (8, (pEq (.int .i64 v2))), (16, (pEq (.bool (v_1 == x4))))]) ⟨rfl, rfl, rfl, rfl, rfl, rfl, trivial⟩ ?_
    refine Tr.cond (Opd.tmp rfl) (fun hc => ?_) (fun hc => ?_)
    · replace h := bif_t hc h
      refine Tr.seq ?_
      refine Tr.region ?_
      refine RegL.pure (p := (pEq (.int .i64 v2))) rfl rfl rfl (J_move rfl (Opd.tmp rfl)) ?_
      refine RegL.pure (p := (pEq (.int .i64 v2))) rfl rfl rfl (J_assign rfl (Opd.tmp rfl)) ?_
      refine RegL.nil ?_
      refine Ct.then_tr ?_
      refine Tr.weak (Γ' := [(4, (pEq (.int .i64 v2)))]) ⟨rfl, trivial⟩ ?_
      refine Tr.ret ?_
      refine Ct.blk_ret ?_
      refine Ct.then_ret ?_
      replace h := map_some h; obtain ⟨r1, h, rfl⟩ := h
      refine Ct.out_ret fun e => ?_
      subst e
      refine Ct.blk_ret ?_
      refine Ct.then_ret ?_
      replace h := Option.some.inj h; subst h
      exact Ct.retH1 (Ωx := []) () rfl (RvOk.tmp rfl) rfl
    · replace h := bif_f hc h
      refine Tr.skip ?_
      refine Ct.blk_normal ?_
      refine Ct.then_tr ?_
      refine Tr.weak (Γ' := [(0, (pSl 1 (cK .i64) s_0)), (1, (pEq (.int .i64 v_1))), (7, (pEq (.int .i64 (s_0.length : Int)))), (8, (pEq (.int .i64 v2)))]) ⟨rfl, rfl, rfl, rfl, trivial⟩ ?_
      refine Tr.region ?_
      refine RegL.pure (p := (pEq (.int .i64 (w64 (v2 + (1 : Int)))))) rfl rfl rfl (J_bin rfl (Opd.tmp rfl) Opd.con B_add) ?_
      refine RegL.pure (p := (pEq (.int .i64 (w64 (v2 + (1 : Int)))))) rfl rfl rfl (J_move rfl (Opd.tmp rfl)) ?_
      refine RegL.nil ?_
      replace h := Option.some.inj h; subst h
      exact Ct.again () rfl ⟨rfl, rfl, rfl, rfl, trivial⟩
  · replace h := bif_f hc h
    refine Tr.exit ?_
    refine Ct.then_exit ?_
    replace h := map_some h; obtain ⟨r1, h, rfl⟩ := h
    refine Ct.out_exit fun e => ?_
    subst e
    refine Ct.blk_exit ?_
    refine Ct.then_tr ?_
    refine Tr.weak (Γ' := []) trivial ?_
    refine Tr.seq ?_
    refine Tr.region ?_
    refine RegL.pure (p := (pEq (.int .i64 (-1 : Int)))) rfl rfl rfl (J_assign rfl Opd.con) ?_
    refine RegL.nil ?_
    refine Ct.then_tr ?_
    refine Tr.weak (Γ' := [(4, (pEq (.int .i64 (-1 : Int))))]) ⟨rfl, trivial⟩ ?_
    refine Tr.ret ?_
    replace h := Option.some.inj h; subst h
    exact Ct.retH1 (Ωx := []) () rfl (RvOk.tmp rfl) rfl

theorem c_impl_serverOf {row_0 : (List Int)} {r : Int} (h : m_impl_serverOf row_0 = some r) : CallJ Tryd.prog 49 [(pSl 1 (cK .i64) row_0)] (pEq (.int .i64 r)) := by
  unfold m_impl_serverOf at h
  refine CallJ.enterH Tryd.func49 rfl Tryd.ntmps49 rfl fun W I0 H => ?_
  refine Tr.weak (Γ' := [(0, (pSl 1 (cK .i64) row_0))]) ⟨rfl, trivial⟩ ?_
  refine Tr.seq ?_
  refine Tr.region ?_
  refine RegL.pure (p := (pEq (.int .i64 (0 : Int)))) rfl rfl rfl (J_assign rfl Opd.con) ?_
  refine RegL.nil ?_
  refine Ct.then_tr ?_
  refine Tr.weak (Γ' := [(0, (pSl 1 (cK .i64) row_0))]) ⟨rfl, trivial⟩ ?_
  refine Tr.seq ?_
  refine Tr.region ?_
  refine RegL.pure (p := (pSl 1 (cK .i64) row_0)) rfl rfl rfl (J_move rfl (Opd.tmp rfl)) ?_
  refine RegL.pure (p := (pSl 1 (cK .i64) row_0)) rfl rfl rfl (J_move rfl (Opd.tmp rfl)) ?_
  replace h := bind_some h; obtain ⟨x1, hx1, h⟩ := h
  refine RegL.pure (p := (pEq (.int .i64 x1))) rfl rfl rfl (J_call rfl Tryd.call78 (c_slices_Max_int64_int64 hx1) (Opds.cons (Opd.tmp rfl) Opds.nil)) ?_
  replace h := bind_some h; obtain ⟨x2, hx2, h⟩ := h
  refine RegL.pure (p := (pEq (.int .i64 x2))) rfl rfl rfl (J_call rfl Tryd.call77 (c_slices_Index_int64_int64 hx2) (Opds.cons (Opd.tmp rfl) (Opds.cons (Opd.tmp rfl) Opds.nil))) ?_
  refine RegL.pure (p := (pEq (.int .i64 x2))) rfl rfl rfl (J_assign rfl (Opd.tmp rfl)) ?_
  refine RegL.nil ?_
  refine Ct.then_tr ?_
  refine Tr.weak (Γ' := [(2, (pEq (.int .i64 x2)))]) ⟨rfl, trivial⟩ ?_
  refine Tr.ret ?_
  replace h := Option.some.inj h; subst h
  exact Ct.retH1 (Ωx := []) () rfl (RvOk.tmp rfl) rfl

theorem c_impl_abs {n_0 : Int} {r : Int} (h : m_impl_abs n_0 = some r) : CallJ Tryd.prog 73 [(pEq (.int .i64 n_0))] (pEq (.int .i64 r)) := by
  unfold m_impl_abs at h
  refine CallJ.enterH Tryd.func73 rfl Tryd.ntmps73 rfl fun W I0 H => ?_
  refine Tr.weak (Γ' := [(0, (pEq (.int .i64 n_0)))]) ⟨rfl, trivial⟩ ?_
  refine Tr.seq ?_
  refine Tr.region ?_
  refine RegL.pure (p := (pEq (.int .i64 (0 : Int)))) rfl rfl rfl (J_assign rfl Opd.con) ?_
  refine RegL.nil ?_
  refine Ct.then_tr ?_
  refine Tr.weak (Γ' := [(0, (pEq (.int .i64 n_0)))]) ⟨rfl, trivial⟩ ?_
  refine Tr.seq ?_
  refine Tr.region ?_
  refine RegL.pure (p := (pEq (.int .i64 n_0))) rfl rfl rfl (J_move rfl (Opd.tmp rfl)) ?_
  refine RegL.pure (p := (pEq (.int .i64 n_0))) rfl rfl rfl (J_move rfl (Opd.tmp rfl)) ?_
  refine RegL.pure (p := (pEq (.int .i64 (w64 (0 - n_0))))) rfl rfl rfl (J_neg rfl (Opd.tmp rfl)) ?_
  refine RegL.pure (p := (pEq (.int .i64 (if (w64 (0 - n_0)) > n_0 then (w64 (0 - n_0)) else n_0)))) rfl rfl rfl (J_max2 rfl (Opd.tmp rfl) (Opd.tmp rfl)) ?_
  refine RegL.pure (p := (pEq (.int .i64 (if (w64 (0 - n_0)) > n_0 then (w64 (0 - n_0)) else n_0)))) rfl rfl rfl (J_assign rfl (Opd.tmp rfl)) ?_
  refine RegL.nil ?_
  refine Ct.then_tr ?_
  refine Tr.weak (Γ' := [(2, (pEq (.int .i64 (if (w64 (0 - n_0)) > n_0 then (w64 (0 - n_0)) else n_0))))]) ⟨rfl, trivial⟩ ?_
  refine Tr.ret ?_
  replace h := Option.some.inj h; subst h
  exact Ct.retH1 (Ωx := []) () rfl (RvOk.tmp rfl) rfl

theorem c_impl_indexValid_int64 {list_0 : (List Int)} {k_1 : Int} {r : Bool} (h : m_impl_indexValid_int64 list_0 k_1 = some r) : CallJ Tryd.prog 43 [(pSl 1 (cK .i64) list_0), (pEq (.int .i64 k_1))] (pEq (.bool r)) := by
  unfold m_impl_indexValid_int64 at h
  refine CallJ.enterH Tryd.func43 rfl Tryd.ntmps43 rfl fun W I0 H => ?_
  refine Tr.weak (Γ' := [(0, (pSl 1 (cK .i64) list_0)), (1, (pEq (.int .i64 k_1)))]) ⟨rfl, rfl, trivial⟩ ?_
  refine Tr.seq ?_
  refine Tr.region ?_
  refine RegL.pure (p := (pEq (.bool false))) rfl rfl rfl (J_assign rfl Opd.con) ?_
  refine RegL.nil ?_
  refine Ct.then_tr ?_
  refine Tr.weak (Γ' := [(0, (pSl 1 (cK .i64) list_0)), (1, (pEq (.int .i64 k_1)))]) ⟨rfl, rfl, trivial⟩ ?_
  refine Tr.seq ?_
  refine Tr.region ?_
  refine RegL.pure (p := (pEq (.int .i64 k_1))) rfl rfl rfl (J_move rfl (Opd.tmp rfl)) ?_
  refine RegL.pure (p := (pSl 1 (cK .i64) list_0)) rfl rfl rfl (J_move rfl (Opd.tmp rfl)) ?_
  refine RegL.pure (p := (pEq (.int .i64 (list_0.length : Int)))) rfl rfl rfl (J_len rfl Tryd.underlying22 (Opd.tmp rfl) rfl) ?_
  refine RegL.pure (p := (pEq (.int .i64 (w64 ((list_0.length : Int) - (1 : Int)))))) rfl rfl rfl (J_bin rfl (Opd.tmp rfl) Opd.con B_sub) ?_
  replace h := bind_some h; obtain ⟨x1, hx1, h⟩ := h
  refine RegL.pure (p := (pEq (.bool x1))) rfl rfl rfl (J_call rfl Tryd.call57 (c_impl_within hx1) (Opds.cons (Opd.tmp rfl) (Opds.cons Opd.con (Opds.cons (Opd.tmp rfl) Opds.nil)))) ?_
  refine RegL.pure (p := (pEq (.bool x1))) rfl rfl rfl (J_assign rfl (Opd.tmp rfl)) ?_
  refine RegL.nil ?_
  refine Ct.then_tr ?_
  refine Tr.weak (Γ' := [(4, (pEq (.bool x1)))]) ⟨rfl, trivial⟩ ?_
  refine Tr.ret ?_
  replace h := Option.some.inj h; subst h
  exact Ct.retH1 (Ωx := []) () rfl (RvOk.tmp rfl) rfl

theorem c_strconv_FormatInt {n_0 b_1 : Int} {r : ByteArray} (h : m_strconv_FormatInt n_0 b_1 = some r) : CallJ Tryd.prog 98 [(pG (pTab 1 .u64 Lib.pow10Tab) (pEq (.int .i64 n_0))), (pEq (.int .i64 b_1))] (pEq (.string r)) :=
  fmt_contract (Go.Proofs.Any.strconv_FormatInt_10 lays98) (by kernel_rfl) h

theorem c_impl_Decimal {n_0 : Int} {r : ByteArray} (h : m_impl_Decimal n_0 = some r) : CallJ Tryd.prog 62 [(pG (pTab 1 .u64 Lib.pow10Tab) (pEq (.int .i64 n_0)))] (pEq (.string r)) := by
  unfold m_impl_Decimal at h
  refine CallJ.enterH Tryd.func62 rfl Tryd.ntmps62 rfl fun W I0 H => ?_
  refine Tr.tab (s := 0) (k := 99999) rfl ?_; refine Tr.weak (Γ' := [(0, (pEq (.int .i64 n_0))), (99999, (pTab 1 .u64 Lib.pow10Tab))]) ⟨rfl, rfl, trivial⟩ ?_
  refine Tr.seq ?_
  refine Tr.region ?_
  refine RegL.pure (p := (pEq (.string (ByteArray.mk #[])))) rfl rfl rfl (J_assign rfl Opd.con) ?_
  refine RegL.nil ?_
  refine Ct.then_tr ?_
  refine Tr.weak (Γ' := [(0, (pEq (.int .i64 n_0))), (99999, (pTab 1 .u64 Lib.pow10Tab))]) ⟨rfl, rfl, trivial⟩ ?_
  refine Tr.seq ?_
  refine Tr.region ?_
  refine RegL.pure (p := (pEq (.int .i64 n_0))) rfl rfl rfl (J_move rfl (Opd.tmp rfl)) ?_
  replace h := bind_some h; obtain ⟨x1, hx1, h⟩ := h
  refine RegL.pure (p := (pEq (.string x1))) rfl rfl rfl (J_call rfl Tryd.call98 (c_strconv_FormatInt hx1) (Opds.cons (Opd.tab (Opd.tmp rfl) 99999 rfl) (Opds.cons Opd.con Opds.nil))) ?_
  refine RegL.pure (p := (pEq (.string x1))) rfl rfl rfl (J_assign rfl (Opd.tmp rfl)) ?_
  refine RegL.nil ?_
  refine Ct.then_tr ?_
  refine Tr.weak (Γ' := [(2, (pEq (.string x1))), (99999, (pTab 1 .u64 Lib.pow10Tab))]) ⟨rfl, rfl, trivial⟩ ?_
  refine Tr.ret ?_
  replace h := Option.some.inj h; subst h
  exact Ct.retH1 (Ωx := []) () rfl (RvOk.tmp rfl) rfl

theorem c_impl_scaled_times {x_0 : GScaled} {y_1 : GScaled} {r : GScaled} (h : m_impl_scaled_times x_0 y_1 = some r) : CallJ Tryd.prog 112 [(pAgg (cGScaled x_0)), (pAgg (cGScaled y_1))] (pAgg (cGScaled r)) := by
  unfold m_impl_scaled_times at h
  refine CallJ.enterH Tryd.func112 rfl Tryd.ntmps112 rfl fun W I0 H => ?_
  refine Tr.weak (Γ' := [(0, (pAgg (cGScaled x_0))), (1, (pAgg (cGScaled y_1)))]) ⟨rfl, rfl, trivial⟩ ?_
  refine Tr.seq ?_
  refine Tr.region ?_
  refine RegL.pure (p := (pPtr (cGScaled x_0))) rfl rfl rfl (J_boxA rfl (Opd.tmp rfl)) ?_
  refine RegL.pure (p := (pPtr (cGScaled y_1))) rfl rfl rfl (J_boxA rfl (Opd.tmp rfl)) ?_
  refine RegL.step (γ := Nat) (p := fun b => pEq (.pointer (some ⟨b, 0, none⟩))) (Ω' := fun b => [oBlk b [(pEq (.int .i64 (0 : Int))), (pEq (.int .i64 (0 : Int)))]]) rfl rfl rfl (M_alloc rfl zero114) fun b1 => ?_
  refine RegL.nil ?_
  refine Ct.then_tr ?_
  refine Tr.weak (Γ' := [(2, (pPtr (cGScaled x_0))), (3, (pPtr (cGScaled y_1))), (4, (pEq (.pointer (some ⟨b1, 0, none⟩))))]) ⟨rfl, rfl, rfl, trivial⟩ ?_
  refine Tr.seq ?_
  refine Tr.region ?_
  refine RegL.pure (p := (pPtr ((cK .i64) x_0.number))) rfl rfl rfl (J_fieldAddr rfl Tryd.underlying114 rfl sz2 (by decide) (Opd.tmp rfl) rfl) ?_
  refine RegL.pure (p := (pEq (.int .i64 x_0.number))) rfl rfl rfl (J_load rfl Tryd.isAgg2 (Opd.tmp rfl)) ?_
  refine RegL.pure (p := (pPtr ((cK .i64) y_1.number))) rfl rfl rfl (J_fieldAddr rfl Tryd.underlying114 rfl sz2 (by decide) (Opd.tmp rfl) rfl) ?_
  refine RegL.pure (p := (pEq (.int .i64 y_1.number))) rfl rfl rfl (J_load rfl Tryd.isAgg2 (Opd.tmp rfl)) ?_
  refine RegL.pure (p := (pEq (.int .i64 (w64 (x_0.number * y_1.number))))) rfl rfl rfl (J_bin rfl (Opd.tmp rfl) (Opd.tmp rfl) B_mul) ?_
  refine RegL.pure (p := (pEq (.int .i64 (w64 ((w64 (x_0.number * y_1.number)).tdiv (100000000 : Int)))))) rfl rfl rfl (J_bin rfl (Opd.tmp rfl) Opd.con (B_quo (n := (100000000 : Int)) (by decide))) ?_
  refine RegL.pure (p := (pPtr ((cK .i64) x_0.exponent))) rfl rfl rfl (J_fieldAddr rfl Tryd.underlying114 rfl sz2 (by decide) (Opd.tmp rfl) rfl) ?_
  refine RegL.pure (p := (pEq (.int .i64 x_0.exponent))) rfl rfl rfl (J_load rfl Tryd.isAgg2 (Opd.tmp rfl)) ?_
  refine RegL.pure (p := (pPtr ((cK .i64) y_1.exponent))) rfl rfl rfl (J_fieldAddr rfl Tryd.underlying114 rfl sz2 (by decide) (Opd.tmp rfl) rfl) ?_
  refine RegL.pure (p := (pEq (.int .i64 y_1.exponent))) rfl rfl rfl (J_load rfl Tryd.isAgg2 (Opd.tmp rfl)) ?_
  refine RegL.pure (p := (pEq (.int .i64 (w64 (x_0.exponent + y_1.exponent))))) rfl rfl rfl (J_bin rfl (Opd.tmp rfl) (Opd.tmp rfl) B_add) ?_
  refine RegL.pure (p := (pAgg (cGScaled (GScaled.mk (w64 ((w64 (x_0.number * y_1.number)).tdiv (100000000 : Int))) (w64 (x_0.exponent + y_1.exponent)))))) rfl rfl rfl (J_build (qss := [(0, (cK .i64) (w64 ((w64 (x_0.number * y_1.number)).tdiv (100000000 : Int)))), (1, (cK .i64) (w64 (x_0.exponent + y_1.exponent)))]) rfl bl114 bz114o (Parts.cons (Part.one (Opd.tmp rfl) OneC.int) (Parts.cons (Part.one (Opd.tmp rfl) OneC.int) Parts.nil)) rfl) ?_
  refine RegL.step (γ := Nat) (p := fun b => pEq (.pointer (some ⟨b, 0, none⟩))) (Ω' := fun b => [oBlk b [(pEq (.int .i64 (0 : Int))), (pEq (.int .i64 (0 : Int)))], oBlk b1 [(pEq (.int .i64 (0 : Int))), (pEq (.int .i64 (0 : Int)))]]) rfl rfl rfl (M_alloc rfl zero114) fun b2 => ?_
  refine RegL.stepN (γ := Unit) (p := fun _ => pAny) (Ω' := fun _ => [oBlk b2 [(pEq (.int .i64 (GScaled.mk (w64 ((w64 (x_0.number * y_1.number)).tdiv (100000000 : Int))) (w64 (x_0.exponent + y_1.exponent))).number)), (pEq (.int .i64 (GScaled.mk (w64 ((w64 (x_0.number * y_1.number)).tdiv (100000000 : Int))) (w64 (x_0.exponent + y_1.exponent))).exponent))], oBlk b1 [(pEq (.int .i64 (0 : Int))), (pEq (.int .i64 (0 : Int)))]]) rfl rfl (M_storeA rfl sz114 (Opd.tmp rfl) (Opd.tmp rfl) (fun _ _ _ h => ones_of ((OneCs.cons OneC.int (OneCs.cons OneC.int OneCs.nil))) h) rfl rfl) fun g3 => ?_
  refine RegL.nil ?_
  refine Ct.then_tr ?_
  refine Tr.weak (Γ' := [(4, (pEq (.pointer (some ⟨b1, 0, none⟩)))), (5, (pEq (.pointer (some ⟨b2, 0, none⟩))))]) ⟨rfl, rfl, trivial⟩ ?_
  refine Tr.seq ?_
  refine Tr.seq ?_
  refine Tr.region ?_
  refine RegL.pure (p := (pEq (.pointer (some ⟨b2, 0, none⟩)))) rfl rfl rfl (J_fieldAddrE rfl Tryd.underlying114 rfl sz2 (by decide) (Opd.tmp rfl) rfl) ?_
  refine RegL.pureW (p := (pEq (.int .i64 (GScaled.mk (w64 ((w64 (x_0.number * y_1.number)).tdiv (100000000 : Int))) (w64 (x_0.exponent + y_1.exponent))).number))) rfl rfl rfl (W_load (i := 0) rfl Tryd.isAgg2 (Opd.tmp rfl) rfl rfl) ?_
  refine RegL.pure (p := (pEq (.bool (decide ((1000000000 : Int) ≤ (GScaled.mk (w64 ((w64 (x_0.number * y_1.number)).tdiv (100000000 : Int))) (w64 (x_0.exponent + y_1.exponent))).number))))) rfl rfl rfl (J_bin rfl (Opd.tmp rfl) Opd.con B_geq) ?_
  refine RegL.nil ?_
  refine Ct.then_tr ?_
  refine Tr.weak (Γ' := [(4, (pEq (.pointer (some ⟨b1, 0, none⟩)))), (5, (pEq (.pointer (some ⟨b2, 0, none⟩)))), (20, (pEq (.bool (decide ((1000000000 : Int) ≤ (GScaled.mk (w64 ((w64 (x_0.number * y_1.number)).tdiv (100000000 : Int))) (w64 (x_0.exponent + y_1.exponent))).number)))))]) ⟨rfl, rfl, rfl, trivial⟩ ?_
  replace h := bind_some h; obtain ⟨x4, hx4, h⟩ := h
  refine Tr.cut (γ := Unit) (Γm := fun g => [(4, (pEq (.pointer (some ⟨b1, 0, none⟩)))), (5, (pEq (.pointer (some ⟨b2, 0, none⟩))))]) (Ωm := fun g => [oBlk b2 [(pEq (.int .i64 x4.1)), (pEq (.int .i64 x4.2))], oBlk b1 [(pEq (.int .i64 (0 : Int))), (pEq (.int .i64 (0 : Int)))]]) ?_ (fun g7 => ?_)
  · clear h
    have h := hx4
    clear hx4
    refine Tr.cond (Opd.tmp rfl) (fun hc => ?_) (fun hc => ?_)
    · replace h := bif_t hc h
      refine Tr.seq ?_
      refine Tr.region ?_
      refine RegL.pure (p := (pEq (.pointer (some ⟨b2, 0, none⟩)))) rfl rfl rfl (J_fieldAddrE rfl Tryd.underlying114 rfl sz2 (by decide) (Opd.tmp rfl) rfl) ?_
      refine RegL.pureW (p := (pEq (.int .i64 (GScaled.mk (w64 ((w64 (x_0.number * y_1.number)).tdiv (100000000 : Int))) (w64 (x_0.exponent + y_1.exponent))).number))) rfl rfl rfl (W_load (i := 0) rfl Tryd.isAgg2 (Opd.tmp rfl) rfl rfl) ?_
      refine RegL.pure (p := (pEq (.int .i64 (w64 ((GScaled.mk (w64 ((w64 (x_0.number * y_1.number)).tdiv (100000000 : Int))) (w64 (x_0.exponent + y_1.exponent))).number.tdiv (10 : Int)))))) rfl rfl rfl (J_bin rfl (Opd.tmp rfl) Opd.con (B_quo (n := (10 : Int)) (by decide))) ?_
      refine RegL.pure (p := (pEq (.pointer (some ⟨b2, 0, none⟩)))) rfl rfl rfl (J_fieldAddrE rfl Tryd.underlying114 rfl sz2 (by decide) (Opd.tmp rfl) rfl) ?_
      refine RegL.stepN (γ := Unit) (p := fun _ => pAny) (Ω' := fun _ => [oBlk b2 [(pEq (.int .i64 (w64 ((GScaled.mk (w64 ((w64 (x_0.number * y_1.number)).tdiv (100000000 : Int))) (w64 (x_0.exponent + y_1.exponent))).number.tdiv (10 : Int))))), (pEq (.int .i64 (GScaled.mk (w64 ((w64 (x_0.number * y_1.number)).tdiv (100000000 : Int))) (w64 (x_0.exponent + y_1.exponent))).exponent))], oBlk b1 [(pEq (.int .i64 (0 : Int))), (pEq (.int .i64 (0 : Int)))]]) rfl rfl (M_store rfl sz2 (Opd.tmp rfl) (Opd.tmp rfl) OneC.int rfl rfl) fun g5 => ?_
      refine RegL.nil ?_
      refine Ct.then_tr ?_
      refine Tr.weak (Γ' := [(4, (pEq (.pointer (some ⟨b1, 0, none⟩)))), (5, (pEq (.pointer (some ⟨b2, 0, none⟩))))]) ⟨rfl, rfl, trivial⟩ ?_
      refine Tr.region ?_
      refine RegL.pure (p := (pEq (.pointer (some ⟨b2, 1, none⟩)))) rfl rfl rfl (J_fieldAddrE rfl Tryd.underlying114 rfl sz2 (by decide) (Opd.tmp rfl) rfl) ?_
      refine RegL.pureW (p := (pEq (.int .i64 (GScaled.mk (w64 ((w64 (x_0.number * y_1.number)).tdiv (100000000 : Int))) (w64 (x_0.exponent + y_1.exponent))).exponent))) rfl rfl rfl (W_load (i := 0) rfl Tryd.isAgg2 (Opd.tmp rfl) rfl rfl) ?_
      refine RegL.pure (p := (pEq (.int .i64 (w64 ((GScaled.mk (w64 ((w64 (x_0.number * y_1.number)).tdiv (100000000 : Int))) (w64 (x_0.exponent + y_1.exponent))).exponent + (1 : Int)))))) rfl rfl rfl (J_bin rfl (Opd.tmp rfl) Opd.con B_add) ?_
      refine RegL.pure (p := (pEq (.pointer (some ⟨b2, 1, none⟩)))) rfl rfl rfl (J_fieldAddrE rfl Tryd.underlying114 rfl sz2 (by decide) (Opd.tmp rfl) rfl) ?_
      refine RegL.stepN (γ := Unit) (p := fun _ => pAny) (Ω' := fun _ => [oBlk b2 [(pEq (.int .i64 (w64 ((GScaled.mk (w64 ((w64 (x_0.number * y_1.number)).tdiv (100000000 : Int))) (w64 (x_0.exponent + y_1.exponent))).number.tdiv (10 : Int))))), (pEq (.int .i64 (w64 ((GScaled.mk (w64 ((w64 (x_0.number * y_1.number)).tdiv (100000000 : Int))) (w64 (x_0.exponent + y_1.exponent))).exponent + (1 : Int)))))], oBlk b1 [(pEq (.int .i64 (0 : Int))), (pEq (.int .i64 (0 : Int)))]]) rfl rfl (M_store rfl sz2 (Opd.tmp rfl) (Opd.tmp rfl) OneC.int rfl rfl) fun g6 => ?_
      refine RegL.nil ?_
      replace h := Option.some.inj h; subst h
      exact Ct.mid () rfl ⟨rfl, rfl, trivial⟩
    · replace h := bif_f hc h
      refine Tr.skip ?_
      replace h := Option.some.inj h; subst h
      exact Ct.mid () rfl ⟨rfl, rfl, trivial⟩
  · clear hx4
    refine Ct.then_tr ?_
    refine Tr.weak (Γ' := [(4, (pEq (.pointer (some ⟨b1, 0, none⟩)))), (5, (pEq (.pointer (some ⟨b2, 0, none⟩))))]) ⟨rfl, rfl, trivial⟩ ?_
    refine Tr.seq ?_
    refine Tr.region ?_
    refine RegL.pureW (p := (pAgg (cGScaled (GScaled.mk x4.1 x4.2)))) rfl rfl rfl (W_loadA (i := 0) rfl Tryd.isAgg114 sz114 (Opd.tmp rfl) rfl rfl) ?_
    refine RegL.re (Ω2 := [oBlk b1 [(pEq (.int .i64 (0 : Int))), (pEq (.int .i64 (0 : Int)))], oBlk b2 [(pEq (.int .i64 x4.1)), (pEq (.int .i64 x4.2))]]) (fun h => SatO.pick 1 h) ?_
    refine RegL.stepN (γ := Unit) (p := fun _ => pAny) (Ω' := fun _ => [oBlk b1 [(pEq (.int .i64 (GScaled.mk x4.1 x4.2).number)), (pEq (.int .i64 (GScaled.mk x4.1 x4.2).exponent))], oBlk b2 [(pEq (.int .i64 x4.1)), (pEq (.int .i64 x4.2))]]) rfl rfl (M_storeA rfl sz114 (Opd.tmp rfl) (Opd.tmp rfl) (fun _ _ _ h => ones_of ((OneCs.cons OneC.int (OneCs.cons OneC.int OneCs.nil))) h) rfl rfl) fun g8 => ?_
    refine RegL.nil ?_
    refine Ct.then_tr ?_
    refine Tr.weak (Γ' := [(4, (pEq (.pointer (some ⟨b1, 0, none⟩))))]) ⟨rfl, trivial⟩ ?_
    refine Tr.ret ?_
    replace h := Option.some.inj h; subst h
    exact Ct.retH1 (Ωx := [oBlk b1 [(pEq (.int .i64 (GScaled.mk x4.1 x4.2).number)), (pEq (.int .i64 (GScaled.mk x4.1 x4.2).exponent))], oBlk b2 [(pEq (.int .i64 x4.1)), (pEq (.int .i64 x4.2))]]) () rfl (RvOk.cellA (i := 0) Tryd.isAgg114 sz114 rfl rfl rfl) rfl

theorem c_impl_LogDb {n_0 : Int} {r : Int} (h : m_impl_LogDb n_0 = some r) : CallJ Tryd.prog 89 [(pG (pTab 1 .u64 Lib.pow10Tab) (pEq (.int .i64 n_0)))] (pEq (.int .i64 r)) := by
  unfold m_impl_LogDb at h
  refine CallJ.enterH Tryd.func89 rfl Tryd.ntmps89 rfl fun W I0 H => ?_
  refine Tr.tab (s := 0) (k := 99999) rfl ?_; refine Tr.weak (Γ' := [(0, (pEq (.int .i64 n_0))), (99999, (pTab 1 .u64 Lib.pow10Tab))]) ⟨rfl, rfl, trivial⟩ ?_
  refine Tr.seq ?_
  refine Tr.region ?_
  refine RegL.pure (p := (pEq (.int .i64 (0 : Int)))) rfl rfl rfl (J_assign rfl Opd.con) ?_
  refine RegL.nil ?_
  refine Ct.then_tr ?_
  refine Tr.weak (Γ' := [(0, (pEq (.int .i64 n_0))), (99999, (pTab 1 .u64 Lib.pow10Tab))]) ⟨rfl, rfl, trivial⟩ ?_
  refine Tr.seq ?_
  refine Tr.seq ?_
  refine Tr.region ?_
  refine RegL.pure (p := (pEq (.int .i64 n_0))) rfl rfl rfl (J_move rfl (Opd.tmp rfl)) ?_
  refine RegL.pure (p := (pEq (.bool (decide (n_0 < (1 : Int)))))) rfl rfl rfl (J_bin rfl (Opd.tmp rfl) Opd.con B_lss) ?_
  refine RegL.nil ?_
  refine Ct.then_tr ?_
  refine Tr.weak (Γ' := [(0, (pEq (.int .i64 n_0))), (9, (pEq (.bool (decide (n_0 < (1 : Int)))))), (99999, (pTab 1 .u64 Lib.pow10Tab))]) ⟨rfl, rfl, rfl, trivial⟩ ?_
  refine Tr.cond (Opd.tmp rfl) (fun hc => ?_) (fun hc => ?_)
  · replace h := bif_t hc h
    refine Tr.seq ?_
    refine Tr.region ?_
    refine RegL.pure (p := (pEq (.int .i64 (0 : Int)))) rfl rfl rfl (J_assign rfl Opd.con) ?_
    refine RegL.nil ?_
    refine Ct.then_tr ?_
    refine Tr.weak (Γ' := [(2, (pEq (.int .i64 (0 : Int)))), (99999, (pTab 1 .u64 Lib.pow10Tab))]) ⟨rfl, rfl, trivial⟩ ?_
    refine Tr.ret ?_
    refine Ct.then_ret ?_
    replace h := Option.some.inj h; subst h
    exact Ct.retH1 (Ωx := []) () rfl (RvOk.tmp rfl) rfl
  · replace h := bif_f hc h
    refine Tr.skip ?_
    refine Ct.then_tr ?_
    refine Tr.weak (Γ' := [(0, (pEq (.int .i64 n_0))), (99999, (pTab 1 .u64 Lib.pow10Tab))]) ⟨rfl, rfl, trivial⟩ ?_
    refine Tr.seq ?_
    refine Tr.region ?_
    refine RegL.pure (p := (pEq (.int .i64 n_0))) rfl rfl rfl (J_move rfl (Opd.tmp rfl)) ?_
    replace h := bind_some h; obtain ⟨x1, hx1, h⟩ := h
    refine RegL.pure (p := (pEq (.string x1))) rfl rfl rfl (J_call rfl Tryd.call62 (c_impl_Decimal hx1) (Opds.cons (Opd.tab (Opd.tmp rfl) 99999 rfl) Opds.nil)) ?_
    refine RegL.pure (p := (pEq (.int .i64 (x1.size : Int)))) rfl rfl rfl (J_slen rfl Tryd.underlying9 (Opd.tmp rfl) rfl) ?_
    refine RegL.pure (p := (pEq (.int .i64 (w64 ((x1.size : Int) - (1 : Int)))))) rfl rfl rfl (J_bin rfl (Opd.tmp rfl) Opd.con B_sub) ?_
    refine RegL.pure (p := (pEq (.int .i64 (w64 ((x1.size : Int) - (1 : Int)))))) rfl rfl rfl (J_assign rfl (Opd.tmp rfl)) ?_
    refine RegL.nil ?_
    refine Ct.then_tr ?_
    refine Tr.weak (Γ' := [(0, (pEq (.int .i64 n_0))), (3, (pEq (.int .i64 (w64 ((x1.size : Int) - (1 : Int)))))), (99999, (pTab 1 .u64 Lib.pow10Tab))]) ⟨rfl, rfl, rfl, trivial⟩ ?_
    refine Tr.seq ?_
    refine Tr.region ?_
    refine RegL.pure (p := (pEq (.int .i64 n_0))) rfl rfl rfl (J_move rfl (Opd.tmp rfl)) ?_
    refine RegL.pure (p := (pEq (.int .i64 n_0))) rfl rfl rfl (J_assign rfl (Opd.tmp rfl)) ?_
    refine RegL.nil ?_
    refine Ct.then_tr ?_
    refine Tr.weak (Γ' := [(3, (pEq (.int .i64 (w64 ((x1.size : Int) - (1 : Int)))))), (4, (pEq (.int .i64 n_0))), (99999, (pTab 1 .u64 Lib.pow10Tab))]) ⟨rfl, rfl, rfl, trivial⟩ ?_
    refine Tr.seq ?_
    refine Tr.seq ?_
    refine Tr.region ?_
    refine RegL.pure (p := (pEq (.int .i64 (w64 ((x1.size : Int) - (1 : Int)))))) rfl rfl rfl (J_move rfl (Opd.tmp rfl)) ?_
    refine RegL.pure (p := (pEq (.int .i64 (w64 ((8 : Int) - (w64 ((x1.size : Int) - (1 : Int)))))))) rfl rfl rfl (J_bin rfl Opd.con (Opd.tmp rfl) B_sub) ?_
    refine RegL.pure (p := (pEq (.int .i64 (if (0 : Int) > (w64 ((8 : Int) - (w64 ((x1.size : Int) - (1 : Int))))) then (0 : Int) else (w64 ((8 : Int) - (w64 ((x1.size : Int) - (1 : Int))))))))) rfl rfl rfl (J_max2 rfl (Opd.tmp rfl) Opd.con) ?_
    refine RegL.pure (p := (pEq (.int .i64 (0 : Int)))) rfl rfl rfl (J_move rfl Opd.con) ?_
    refine RegL.nil ?_
    refine Ct.then_tr ?_
    refine Tr.weak (Γ' := [(3, (pEq (.int .i64 (w64 ((x1.size : Int) - (1 : Int)))))), (4, (pEq (.int .i64 n_0))), (17, (pEq (.int .i64 (if (0 : Int) > (w64 ((8 : Int) - (w64 ((x1.size : Int) - (1 : Int))))) then (0 : Int) else (w64 ((8 : Int) - (w64 ((x1.size : Int) - (1 : Int))))))))), (18, (pEq (.int .i64 (0 : Int)))), (99999, (pTab 1 .u64 Lib.pow10Tab))]) ⟨rfl, rfl, rfl, rfl, rfl, trivial⟩ ?_
    replace h := bind_some h; obtain ⟨x2, hx2, h⟩ := h
    refine Tr.cut (γ := Unit) (Γm := fun g => [(3, (pEq (.int .i64 (w64 ((x1.size : Int) - (1 : Int)))))), (4, (pEq (.int .i64 x2))), (99999, (pTab 1 .u64 Lib.pow10Tab))]) (Ωm := fun g => []) ?_ (fun g7 => ?_)
    · clear h
      have h := hx2
      clear hx2
      refine Tr.block ?_
      refine Tr.weak (Γ' := [(3, (pEq (.int .i64 (w64 ((x1.size : Int) - (1 : Int)))))), (4, (pEq (.int .i64 n_0))), (17, (pEq (.int .i64 (if (0 : Int) > (w64 ((8 : Int) - (w64 ((x1.size : Int) - (1 : Int))))) then (0 : Int) else (w64 ((8 : Int) - (w64 ((x1.size : Int) - (1 : Int))))))))), (18, (pEq (.int .i64 (0 : Int)))), (99999, (pTab 1 .u64 Lib.pow10Tab))]) ⟨rfl, rfl, rfl, rfl, rfl, trivial⟩ ?_
      refine Tr.loop (γ := Unit) (σ := (Int × Int)) (Γσ := fun s g => [(3, (pEq (.int .i64 (w64 ((x1.size : Int) - (1 : Int)))))), (4, (pEq (.int .i64 s.1))), (17, (pEq (.int .i64 (if (0 : Int) > (w64 ((8 : Int) - (w64 ((x1.size : Int) - (1 : Int))))) then (0 : Int) else (w64 ((8 : Int) - (w64 ((x1.size : Int) - (1 : Int))))))))), (18, (pEq (.int .i64 s.2))), (99999, (pTab 1 .u64 Lib.pow10Tab))]) (Ωσ := fun s g => []) (g := ()) h ?_
      clear h
      rintro ⟨v4, v5⟩ g6 t h
      replace h : m_impl_LogDb_B3 x1 v4 v5 = some t := h
      unfold m_impl_LogDb_B3 at h
      refine Tr.weakO (Γ' := [(3, (pEq (.int .i64 (w64 ((x1.size : Int) - (1 : Int)))))), (4, (pEq (.int .i64 v4))), (17, (pEq (.int .i64 (if (0 : Int) > (w64 ((8 : Int) - (w64 ((x1.size : Int) - (1 : Int))))) then (0 : Int) else (w64 ((8 : Int) - (w64 ((x1.size : Int) - (1 : Int))))))))), (18, (pEq (.int .i64 v5))), (99999, (pTab 1 .u64 Lib.pow10Tab))]) (Ω' := []) rfl ⟨rfl, rfl, rfl, rfl, rfl, trivial⟩ ?_
      refine Tr.seq ?_
      refine Tr.region ?_
      refine RegL.pure (p := (pEq (.bool (decide (v5 < (if (0 : Int) > (w64 ((8 : Int) - (w64 ((x1.size : Int) - (1 : Int))))) then (0 : Int) else (w64 ((8 : Int) - (w64 ((x1.size : Int) - (1 : Int))))))))))) rfl rfl rfl (J_bin rfl (Opd.tmp rfl) (Opd.tmp rfl) B_lss) ?_
      refine RegL.nil ?_
      refine Ct.then_tr ?_
      refine Tr.weak (Γ' := [(3, (pEq (.int .i64 (w64 ((x1.size : Int) - (1 : Int)))))), (4, (pEq (.int .i64 v4))), (17, (pEq (.int .i64 (if (0 : Int) > (w64 ((8 : Int) - (w64 ((x1.size : Int) - (1 : Int))))) then (0 : Int) else (w64 ((8 : Int) - (w64 ((x1.size : Int) - (1 : Int))))))))), (18, (pEq (.int .i64 v5))), (19, (pEq (.bool (decide (v5 < (if (0 : Int) > (w64 ((8 : Int) - (w64 ((x1.size : Int) - (1 : Int))))) then (0 : Int) else (w64 ((8 : Int) - (w64 ((x1.size : Int) - (1 : Int))))))))))), (99999, (pTab 1 .u64 Lib.pow10Tab))]) ⟨rfl, rfl, rfl, rfl, rfl, rfl, trivial⟩ ?_
      refine Tr.seq ?_
      refine Tr.cond (Opd.tmp rfl) (fun hc => ?_) (fun hc => ?_)
      · replace h := bif_t hc h
        refine Tr.skip ?_
        refine Ct.then_tr ?_
        refine Tr.weak (Γ' := [(3, (pEq (.int .i64 (w64 ((x1.size : Int) - (1 : Int)))))), (4, (pEq (.int .i64 v4))), (17, (pEq (.int .i64 (if (0 : Int) > (w64 ((8 : Int) - (w64 ((x1.size : Int) - (1 : Int))))) then (0 : Int) else (w64 ((8 : Int) - (w64 ((x1.size : Int) - (1 : Int))))))))), (18, (pEq (.int .i64 v5))), (99999, (pTab 1 .u64 Lib.pow10Tab))]) ⟨rfl, rfl, rfl, rfl, rfl, trivial⟩ ?_
        refine Tr.seq ?_
        refine Tr.block ?_
        refine Tr.region ?_
        refine RegL.pure (p := (pEq (.int .i64 v4))) rfl rfl rfl (J_move rfl (Opd.tmp rfl)) ?_
        refine RegL.pure (p := (pEq (.int .i64 (w64 (v4 * (10 : Int)))))) rfl rfl rfl (J_bin rfl (Opd.tmp rfl) Opd.con B_mul) ?_
        refine RegL.pure (p := (pEq (.int .i64 (w64 (v4 * (10 : Int)))))) rfl rfl rfl (J_assign rfl (Opd.tmp rfl)) ?_
        refine RegL.nil ?_
        refine Ct.blk_normal ?_
        refine Ct.then_tr ?_
        refine Tr.weak (Γ' := [(3, (pEq (.int .i64 (w64 ((x1.size : Int) - (1 : Int)))))), (4, (pEq (.int .i64 (w64 (v4 * (10 : Int)))))), (17, (pEq (.int .i64 (if (0 : Int) > (w64 ((8 : Int) - (w64 ((x1.size : Int) - (1 : Int))))) then (0 : Int) else (w64 ((8 : Int) - (w64 ((x1.size : Int) - (1 : Int))))))))), (18, (pEq (.int .i64 v5))), (99999, (pTab 1 .u64 Lib.pow10Tab))]) ⟨rfl, rfl, rfl, rfl, rfl, trivial⟩ ?_
        refine Tr.region ?_
        refine RegL.pure (p := (pEq (.int .i64 (w64 (v5 + (1 : Int)))))) rfl rfl rfl (J_bin rfl (Opd.tmp rfl) Opd.con B_add) ?_
        refine RegL.pure (p := (pEq (.int .i64 (w64 (v5 + (1 : Int)))))) rfl rfl rfl (J_move rfl (Opd.tmp rfl)) ?_
        refine RegL.nil ?_
        replace h := Option.some.inj h; subst h
        exact Ct.again () rfl ⟨rfl, rfl, rfl, rfl, rfl, trivial⟩
      · replace h := bif_f hc h
        refine Tr.exit ?_
        refine Ct.then_exit ?_
        replace h := map_some h; obtain ⟨r1, h, rfl⟩ := h
        refine Ct.out_exit fun e => ?_
        subst e
        refine Ct.blk_exit ?_
        replace h := Option.some.inj h; subst h
        exact Ct.mid () rfl ⟨rfl, rfl, rfl, trivial⟩
    · clear hx2
      refine Ct.then_tr ?_
      refine Tr.weak (Γ' := [(3, (pEq (.int .i64 (w64 ((x1.size : Int) - (1 : Int)))))), (4, (pEq (.int .i64 x2))), (99999, (pTab 1 .u64 Lib.pow10Tab))]) ⟨rfl, rfl, rfl, trivial⟩ ?_
      refine Tr.seq ?_
      refine Tr.seq ?_
      refine Tr.region ?_
      refine RegL.pure (p := (pEq (.int .i64 (w64 ((x1.size : Int) - (1 : Int)))))) rfl rfl rfl (J_move rfl (Opd.tmp rfl)) ?_
      refine RegL.pure (p := (pEq (.int .i64 (w64 ((w64 ((x1.size : Int) - (1 : Int))) - (8 : Int)))))) rfl rfl rfl (J_bin rfl (Opd.tmp rfl) Opd.con B_sub) ?_
      refine RegL.pure (p := (pEq (.int .i64 (if (0 : Int) > (w64 ((w64 ((x1.size : Int) - (1 : Int))) - (8 : Int))) then (0 : Int) else (w64 ((w64 ((x1.size : Int) - (1 : Int))) - (8 : Int))))))) rfl rfl rfl (J_max2 rfl (Opd.tmp rfl) Opd.con) ?_
      refine RegL.pure (p := (pEq (.int .i64 (0 : Int)))) rfl rfl rfl (J_move rfl Opd.con) ?_
      refine RegL.nil ?_
      refine Ct.then_tr ?_
      refine Tr.weak (Γ' := [(3, (pEq (.int .i64 (w64 ((x1.size : Int) - (1 : Int)))))), (4, (pEq (.int .i64 x2))), (25, (pEq (.int .i64 (if (0 : Int) > (w64 ((w64 ((x1.size : Int) - (1 : Int))) - (8 : Int))) then (0 : Int) else (w64 ((w64 ((x1.size : Int) - (1 : Int))) - (8 : Int))))))), (26, (pEq (.int .i64 (0 : Int)))), (99999, (pTab 1 .u64 Lib.pow10Tab))]) ⟨rfl, rfl, rfl, rfl, rfl, trivial⟩ ?_
      replace h := bind_some h; obtain ⟨x8, hx8, h⟩ := h
      refine Tr.cut (γ := Unit) (Γm := fun g => [(3, (pEq (.int .i64 (w64 ((x1.size : Int) - (1 : Int)))))), (4, (pEq (.int .i64 x8))), (99999, (pTab 1 .u64 Lib.pow10Tab))]) (Ωm := fun g => []) ?_ (fun g13 => ?_)
      · clear h
        have h := hx8
        clear hx8
        refine Tr.block ?_
        refine Tr.weak (Γ' := [(3, (pEq (.int .i64 (w64 ((x1.size : Int) - (1 : Int)))))), (4, (pEq (.int .i64 x2))), (25, (pEq (.int .i64 (if (0 : Int) > (w64 ((w64 ((x1.size : Int) - (1 : Int))) - (8 : Int))) then (0 : Int) else (w64 ((w64 ((x1.size : Int) - (1 : Int))) - (8 : Int))))))), (26, (pEq (.int .i64 (0 : Int)))), (99999, (pTab 1 .u64 Lib.pow10Tab))]) ⟨rfl, rfl, rfl, rfl, rfl, trivial⟩ ?_
        refine Tr.loop (γ := Unit) (σ := (Int × Int)) (Γσ := fun s g => [(3, (pEq (.int .i64 (w64 ((x1.size : Int) - (1 : Int)))))), (4, (pEq (.int .i64 s.1))), (25, (pEq (.int .i64 (if (0 : Int) > (w64 ((w64 ((x1.size : Int) - (1 : Int))) - (8 : Int))) then (0 : Int) else (w64 ((w64 ((x1.size : Int) - (1 : Int))) - (8 : Int))))))), (26, (pEq (.int .i64 s.2))), (99999, (pTab 1 .u64 Lib.pow10Tab))]) (Ωσ := fun s g => []) (g := ()) h ?_
        clear h
        rintro ⟨v10, v11⟩ g12 t h
        replace h : m_impl_LogDb_B9 x1 v10 v11 = some t := h
        unfold m_impl_LogDb_B9 at h
        refine Tr.weakO (Γ' := [(3, (pEq (.int .i64 (w64 ((x1.size : Int) - (1 : Int)))))), (4, (pEq (.int .i64 v10))), (25, (pEq (.int .i64 (if (0 : Int) > (w64 ((w64 ((x1.size : Int) - (1 : Int))) - (8 : Int))) then (0 : Int) else (w64 ((w64 ((x1.size : Int) - (1 : Int))) - (8 : Int))))))), (26, (pEq (.int .i64 v11))), (99999, (pTab 1 .u64 Lib.pow10Tab))]) (Ω' := []) rfl ⟨rfl, rfl, rfl, rfl, rfl, trivial⟩ ?_
        refine Tr.seq ?_
        refine Tr.region ?_
        refine RegL.pure (p := (pEq (.bool (decide (v11 < (if (0 : Int) > (w64 ((w64 ((x1.size : Int) - (1 : Int))) - (8 : Int))) then (0 : Int) else (w64 ((w64 ((x1.size : Int) - (1 : Int))) - (8 : Int))))))))) rfl rfl rfl (J_bin rfl (Opd.tmp rfl) (Opd.tmp rfl) B_lss) ?_
        refine RegL.nil ?_
        refine Ct.then_tr ?_
        refine Tr.weak (Γ' := [(3, (pEq (.int .i64 (w64 ((x1.size : Int) - (1 : Int)))))), (4, (pEq (.int .i64 v10))), (25, (pEq (.int .i64 (if (0 : Int) > (w64 ((w64 ((x1.size : Int) - (1 : Int))) - (8 : Int))) then (0 : Int) else (w64 ((w64 ((x1.size : Int) - (1 : Int))) - (8 : Int))))))), (26, (pEq (.int .i64 v11))), (27, (pEq (.bool (decide (v11 < (if (0 : Int) > (w64 ((w64 ((x1.size : Int) - (1 : Int))) - (8 : Int))) then (0 : Int) else (w64 ((w64 ((x1.size : Int) - (1 : Int))) - (8 : Int))))))))), (99999, (pTab 1 .u64 Lib.pow10Tab))]) ⟨rfl, rfl, rfl, rfl, rfl, rfl, trivial⟩ ?_
        refine Tr.seq ?_
        refine Tr.cond (Opd.tmp rfl) (fun hc => ?_) (fun hc => ?_)
        · replace h := bif_t hc h
          refine Tr.skip ?_
          refine Ct.then_tr ?_
          refine Tr.weak (Γ' := [(3, (pEq (.int .i64 (w64 ((x1.size : Int) - (1 : Int)))))), (4, (pEq (.int .i64 v10))), (25, (pEq (.int .i64 (if (0 : Int) > (w64 ((w64 ((x1.size : Int) - (1 : Int))) - (8 : Int))) then (0 : Int) else (w64 ((w64 ((x1.size : Int) - (1 : Int))) - (8 : Int))))))), (26, (pEq (.int .i64 v11))), (99999, (pTab 1 .u64 Lib.pow10Tab))]) ⟨rfl, rfl, rfl, rfl, rfl, trivial⟩ ?_
          refine Tr.seq ?_
          refine Tr.block ?_
          refine Tr.region ?_
          refine RegL.pure (p := (pEq (.int .i64 v10))) rfl rfl rfl (J_move rfl (Opd.tmp rfl)) ?_
          refine RegL.pure (p := (pEq (.int .i64 (w64 (v10.tdiv (10 : Int)))))) rfl rfl rfl (J_bin rfl (Opd.tmp rfl) Opd.con (B_quo (n := (10 : Int)) (by decide))) ?_
          refine RegL.pure (p := (pEq (.int .i64 (w64 (v10.tdiv (10 : Int)))))) rfl rfl rfl (J_assign rfl (Opd.tmp rfl)) ?_
          refine RegL.nil ?_
          refine Ct.blk_normal ?_
          refine Ct.then_tr ?_
          refine Tr.weak (Γ' := [(3, (pEq (.int .i64 (w64 ((x1.size : Int) - (1 : Int)))))), (4, (pEq (.int .i64 (w64 (v10.tdiv (10 : Int)))))), (25, (pEq (.int .i64 (if (0 : Int) > (w64 ((w64 ((x1.size : Int) - (1 : Int))) - (8 : Int))) then (0 : Int) else (w64 ((w64 ((x1.size : Int) - (1 : Int))) - (8 : Int))))))), (26, (pEq (.int .i64 v11))), (99999, (pTab 1 .u64 Lib.pow10Tab))]) ⟨rfl, rfl, rfl, rfl, rfl, trivial⟩ ?_
          refine Tr.region ?_
          refine RegL.pure (p := (pEq (.int .i64 (w64 (v11 + (1 : Int)))))) rfl rfl rfl (J_bin rfl (Opd.tmp rfl) Opd.con B_add) ?_
          refine RegL.pure (p := (pEq (.int .i64 (w64 (v11 + (1 : Int)))))) rfl rfl rfl (J_move rfl (Opd.tmp rfl)) ?_
          refine RegL.nil ?_
          replace h := Option.some.inj h; subst h
          exact Ct.again () rfl ⟨rfl, rfl, rfl, rfl, rfl, trivial⟩
        · replace h := bif_f hc h
          refine Tr.exit ?_
          refine Ct.then_exit ?_
          replace h := map_some h; obtain ⟨r1, h, rfl⟩ := h
          refine Ct.out_exit fun e => ?_
          subst e
          refine Ct.blk_exit ?_
          replace h := Option.some.inj h; subst h
          exact Ct.mid () rfl ⟨rfl, rfl, rfl, trivial⟩
      · clear hx8
        refine Ct.then_tr ?_
        refine Tr.weak (Γ' := [(3, (pEq (.int .i64 (w64 ((x1.size : Int) - (1 : Int)))))), (4, (pEq (.int .i64 x8))), (99999, (pTab 1 .u64 Lib.pow10Tab))]) ⟨rfl, rfl, rfl, trivial⟩ ?_
        refine Tr.seq ?_
        refine Tr.seq ?_
        refine Tr.region ?_
        refine RegL.pure (p := (pEq (.int .i64 (0 : Int)))) rfl rfl rfl (J_move rfl Opd.con) ?_
        refine RegL.nil ?_
        refine Ct.then_tr ?_
        refine Tr.weak (Γ' := [(3, (pEq (.int .i64 (w64 ((x1.size : Int) - (1 : Int)))))), (4, (pEq (.int .i64 x8))), (31, (pEq (.int .i64 (0 : Int)))), (99999, (pTab 1 .u64 Lib.pow10Tab))]) ⟨rfl, rfl, rfl, rfl, trivial⟩ ?_
        replace h := bind_some h; obtain ⟨x14, hx14, h⟩ := h
        refine Tr.cut (γ := Unit) (Γm := fun g => [(3, (pEq (.int .i64 x14))), (99999, (pTab 1 .u64 Lib.pow10Tab))]) (Ωm := fun g => []) ?_ (fun g31 => ?_)
        · clear h
          have h := hx14
          clear hx14
          refine Tr.block ?_
          refine Tr.weak (Γ' := [(3, (pEq (.int .i64 (w64 ((x1.size : Int) - (1 : Int)))))), (4, (pEq (.int .i64 x8))), (31, (pEq (.int .i64 (0 : Int)))), (99999, (pTab 1 .u64 Lib.pow10Tab))]) ⟨rfl, rfl, rfl, rfl, trivial⟩ ?_
          refine Tr.loop (γ := Unit) (σ := (Int × Int × Int)) (Γσ := fun s g => [(3, (pEq (.int .i64 s.1))), (4, (pEq (.int .i64 s.2.1))), (31, (pEq (.int .i64 s.2.2))), (99999, (pTab 1 .u64 Lib.pow10Tab))]) (Ωσ := fun s g => []) (g := ()) h ?_
          clear h
          rintro ⟨v16, v17, v18⟩ g19 t h
          replace h : m_impl_LogDb_B15  v16 v17 v18 = some t := h
          unfold m_impl_LogDb_B15 at h
          refine Tr.weakO (Γ' := [(3, (pEq (.int .i64 v16))), (4, (pEq (.int .i64 v17))), (31, (pEq (.int .i64 v18))), (99999, (pTab 1 .u64 Lib.pow10Tab))]) (Ω' := []) rfl ⟨rfl, rfl, rfl, rfl, trivial⟩ ?_
          refine Tr.seq ?_
          refine Tr.region ?_
          refine RegL.pure (p := (pEq (.bool (decide (v18 < (4 : Int)))))) rfl rfl rfl (J_bin rfl (Opd.tmp rfl) Opd.con B_lss) ?_
          refine RegL.nil ?_
          refine Ct.then_tr ?_
          refine Tr.weak (Γ' := [(3, (pEq (.int .i64 v16))), (4, (pEq (.int .i64 v17))), (31, (pEq (.int .i64 v18))), (32, (pEq (.bool (decide (v18 < (4 : Int)))))), (99999, (pTab 1 .u64 Lib.pow10Tab))]) ⟨rfl, rfl, rfl, rfl, rfl, trivial⟩ ?_
          refine Tr.seq ?_
          refine Tr.cond (Opd.tmp rfl) (fun hc => ?_) (fun hc => ?_)
          · replace h := bif_t hc h
            refine Tr.skip ?_
            refine Ct.then_tr ?_
            refine Tr.weak (Γ' := [(3, (pEq (.int .i64 v16))), (4, (pEq (.int .i64 v17))), (31, (pEq (.int .i64 v18))), (99999, (pTab 1 .u64 Lib.pow10Tab))]) ⟨rfl, rfl, rfl, rfl, trivial⟩ ?_
            refine Tr.seq ?_
            refine Tr.block ?_
            refine Tr.seq ?_
            refine Tr.region ?_
            refine RegL.pure (p := (pEq (.int .i64 v17))) rfl rfl rfl (J_move rfl (Opd.tmp rfl)) ?_
            refine RegL.pure (p := (pAgg (cGScaled (GScaled.mk v17 (0 : Int))))) rfl rfl rfl (J_build (qss := [(0, (cK .i64) v17), (1, (cK .i64) (0 : Int))]) rfl bl114 bz114 (Parts.cons (Part.one (Opd.tmp rfl) OneC.int) (Parts.cons (Part.one Opd.con OneC.int) Parts.nil)) rfl) ?_
            refine RegL.step (γ := Nat) (p := fun b => pEq (.pointer (some ⟨b, 0, none⟩))) (Ω' := fun b => [oBlk b [(pEq (.int .i64 (0 : Int))), (pEq (.int .i64 (0 : Int)))]]) rfl rfl rfl (M_alloc rfl zero114) fun b20 => ?_
            refine RegL.stepN (γ := Unit) (p := fun _ => pAny) (Ω' := fun _ => [oBlk b20 [(pEq (.int .i64 (GScaled.mk v17 (0 : Int)).number)), (pEq (.int .i64 (GScaled.mk v17 (0 : Int)).exponent))]]) rfl rfl (M_storeA rfl sz114 (Opd.tmp rfl) (Opd.tmp rfl) (fun _ _ _ h => ones_of ((OneCs.cons OneC.int (OneCs.cons OneC.int OneCs.nil))) h) rfl rfl) fun g21 => ?_
            refine RegL.freeze (s := 5) rfl ?_
            refine RegL.nil ?_
            refine Ct.then_tr ?_
            refine Tr.weak (Γ' := [(3, (pEq (.int .i64 v16))), (5, (pPtr (cGScaled (GScaled.mk v17 (0 : Int))))), (31, (pEq (.int .i64 v18))), (99999, (pTab 1 .u64 Lib.pow10Tab))]) ⟨rfl, rfl, rfl, rfl, trivial⟩ ?_
            refine Tr.seq ?_
            refine Tr.region ?_
            refine RegL.pure (p := (pAgg (cGScaled (GScaled.mk v17 (0 : Int))))) rfl rfl rfl (J_loadA rfl Tryd.isAgg114 sz114 (Opd.tmp rfl) rfl) ?_
            refine RegL.pure (p := (pAgg (cGScaled (GScaled.mk v17 (0 : Int))))) rfl rfl rfl (J_loadA rfl Tryd.isAgg114 sz114 (Opd.tmp rfl) rfl) ?_
            replace h := bind_some h; obtain ⟨x22, hx22, h⟩ := h
            refine RegL.pure (p := (pAgg (cGScaled x22))) rfl rfl rfl (J_call rfl Tryd.call112 (c_impl_scaled_times hx22) (Opds.cons (Opd.tmp rfl) (Opds.cons (Opd.tmp rfl) Opds.nil))) ?_
            refine RegL.step (γ := Nat) (p := fun b => pEq (.pointer (some ⟨b, 0, none⟩))) (Ω' := fun b => [oBlk b [(pEq (.int .i64 (0 : Int))), (pEq (.int .i64 (0 : Int)))]]) rfl rfl rfl (M_alloc rfl zero114) fun b23 => ?_
            refine RegL.stepN (γ := Unit) (p := fun _ => pAny) (Ω' := fun _ => [oBlk b23 [(pEq (.int .i64 x22.number)), (pEq (.int .i64 x22.exponent))]]) rfl rfl (M_storeA rfl sz114 (Opd.tmp rfl) (Opd.tmp rfl) (fun _ _ _ h => ones_of ((OneCs.cons OneC.int (OneCs.cons OneC.int OneCs.nil))) h) rfl rfl) fun g24 => ?_
            refine RegL.freeze (s := 6) rfl ?_
            refine RegL.nil ?_
            refine Ct.then_tr ?_
            refine Tr.weak (Γ' := [(3, (pEq (.int .i64 v16))), (5, (pPtr (cGScaled (GScaled.mk v17 (0 : Int))))), (6, (pPtr (cGScaled x22))), (31, (pEq (.int .i64 v18))), (99999, (pTab 1 .u64 Lib.pow10Tab))]) ⟨rfl, rfl, rfl, rfl, rfl, trivial⟩ ?_
            refine Tr.seq ?_
            replace h := bind_some h; obtain ⟨x25, hx25, h⟩ := h
            replace h := bind_some h; obtain ⟨x26, hx26, h⟩ := h
            refine Tr.drawD (n := 55) (m := 6) (es := [some (Ent.mk [(6, (pPtr (cGScaled x22)))] (pAgg (cGScaled x22)) true), some (Ent.mk [(6, (pPtr (cGScaled x22)))] (pAgg (cGScaled x22)) true), some (Ent.mk [(38, (pAgg (cGScaled x22))), (39, (pAgg (cGScaled x22)))] (pAgg (cGScaled x25)) true), some (Ent.mk [(5, (pPtr (cGScaled (GScaled.mk v17 (0 : Int)))))] (pAgg (cGScaled (GScaled.mk v17 (0 : Int)))) true), some (Ent.mk [(40, (pAgg (cGScaled x25))), (41, (pAgg (cGScaled (GScaled.mk v17 (0 : Int)))))] (pAgg (cGScaled x26)) true), none]) (rd := [[6], [6], [38, 39], [5], [40, 41], []]) rfl hmix (by kernel_rfl) fun hD => ?_
            refine RD.step hD (es := [some (Ent.mk [(6, (pPtr (cGScaled x22)))] (pAgg (cGScaled x22)) true), some (Ent.mk [(6, (pPtr (cGScaled x22)))] (pAgg (cGScaled x22)) true), some (Ent.mk [(38, (pAgg (cGScaled x22))), (39, (pAgg (cGScaled x22)))] (pAgg (cGScaled x25)) true), some (Ent.mk [(5, (pPtr (cGScaled (GScaled.mk v17 (0 : Int)))))] (pAgg (cGScaled (GScaled.mk v17 (0 : Int)))) true), some (Ent.mk [(40, (pAgg (cGScaled x25))), (41, (pAgg (cGScaled (GScaled.mk v17 (0 : Int)))))] (pAgg (cGScaled x26)) true), none]) (done := []) (mask := [true, true, true, true, true, false]) (γ := Nat) (p := fun b => pEq (.pointer (some ⟨b, 0, none⟩))) (Ω' := fun b => [oBlk b [(pEq (.int .i64 (0 : Int))), (pEq (.int .i64 (0 : Int)))]]) (es' := fun b27 => [some (Ent.mk [(6, (pPtr (cGScaled x22)))] (pAgg (cGScaled x22)) true), some (Ent.mk [(6, (pPtr (cGScaled x22)))] (pAgg (cGScaled x22)) true), some (Ent.mk [(38, (pAgg (cGScaled x22))), (39, (pAgg (cGScaled x22)))] (pAgg (cGScaled x25)) true), some (Ent.mk [(5, (pPtr (cGScaled (GScaled.mk v17 (0 : Int)))))] (pAgg (cGScaled (GScaled.mk v17 (0 : Int)))) true), some (Ent.mk [(40, (pAgg (cGScaled x25))), (41, (pAgg (cGScaled (GScaled.mk v17 (0 : Int)))))] (pAgg (cGScaled x26)) true), some (Ent.mk [] (pEq (.pointer (some ⟨b27, 0, none⟩))) true)]) (Γc := []) 5 rfl rfl rfl (by kernel_rfl) ⟨.inr ⟨(OpJ.w (J_loadA rfl Tryd.isAgg114 sz114 (Opd.tmp rfl) rfl)), ⟨rfl, trivial⟩, rfl, rfl⟩, ⟨.inr ⟨(OpJ.w (J_loadA rfl Tryd.isAgg114 sz114 (Opd.tmp rfl) rfl)), ⟨rfl, trivial⟩, rfl, rfl⟩, ⟨.inr ⟨(OpJ.w (J_call rfl Tryd.call112 (c_impl_scaled_times hx25) (Opds.cons (Opd.tmp rfl) (Opds.cons (Opd.tmp rfl) Opds.nil)))), ⟨rfl, rfl, trivial⟩, rfl, rfl⟩, ⟨.inr ⟨(OpJ.w (J_loadA rfl Tryd.isAgg114 sz114 (Opd.tmp rfl) rfl)), ⟨rfl, trivial⟩, rfl, rfl⟩, ⟨.inr ⟨(OpJ.w (J_call rfl Tryd.call112 (c_impl_scaled_times hx26) (Opds.cons (Opd.tmp rfl) (Opds.cons (Opd.tmp rfl) Opds.nil)))), ⟨rfl, rfl, trivial⟩, rfl, rfl⟩, trivial⟩⟩⟩⟩⟩ rfl rfl trivial (fun _ => M_alloc rfl zero114) (fun b27 => ⟨rfl, ⟨rfl, ⟨rfl, ⟨rfl, ⟨rfl, trivial⟩⟩⟩⟩⟩) (fun b27 => rfl) rfl fun b27 => ?_
            refine RD.fin (es := [Ent.mk [(6, (pPtr (cGScaled x22)))] (pAgg (cGScaled x22)) true, Ent.mk [(6, (pPtr (cGScaled x22)))] (pAgg (cGScaled x22)) true, Ent.mk [(38, (pAgg (cGScaled x22))), (39, (pAgg (cGScaled x22)))] (pAgg (cGScaled x25)) true, Ent.mk [(5, (pPtr (cGScaled (GScaled.mk v17 (0 : Int)))))] (pAgg (cGScaled (GScaled.mk v17 (0 : Int)))) true, Ent.mk [(40, (pAgg (cGScaled x25))), (41, (pAgg (cGScaled (GScaled.mk v17 (0 : Int)))))] (pAgg (cGScaled x26)) true, Ent.mk [] (pEq (.pointer (some ⟨b27, 0, none⟩))) true]) (done := [5]) hD ⟨.inr ⟨(OpJ.w (J_loadA rfl Tryd.isAgg114 sz114 (Opd.tmp rfl) rfl)), ⟨rfl, trivial⟩, rfl, rfl⟩, ⟨.inr ⟨(OpJ.w (J_loadA rfl Tryd.isAgg114 sz114 (Opd.tmp rfl) rfl)), ⟨rfl, trivial⟩, rfl, rfl⟩, ⟨.inr ⟨(OpJ.w (J_call rfl Tryd.call112 (c_impl_scaled_times hx25) (Opds.cons (Opd.tmp rfl) (Opds.cons (Opd.tmp rfl) Opds.nil)))), ⟨rfl, rfl, trivial⟩, rfl, rfl⟩, ⟨.inr ⟨(OpJ.w (J_loadA rfl Tryd.isAgg114 sz114 (Opd.tmp rfl) rfl)), ⟨rfl, trivial⟩, rfl, rfl⟩, ⟨.inr ⟨(OpJ.w (J_call rfl Tryd.call112 (c_impl_scaled_times hx26) (Opds.cons (Opd.tmp rfl) (Opds.cons (Opd.tmp rfl) Opds.nil)))), ⟨rfl, rfl, trivial⟩, rfl, rfl⟩, ⟨.inl rfl, trivial⟩⟩⟩⟩⟩⟩ ?_
            refine RegL.stepN (γ := Unit) (p := fun _ => pAny) (Ω' := fun _ => [oBlk b27 [(pEq (.int .i64 x26.number)), (pEq (.int .i64 x26.exponent))]]) rfl rfl (M_storeA rfl sz114 (Opd.tmp rfl) (Opd.tmp rfl) (fun _ _ _ h => ones_of ((OneCs.cons OneC.int (OneCs.cons OneC.int OneCs.nil))) h) rfl rfl) fun g28 => ?_
            refine RegL.nil ?_
            refine Ct.then_tr ?_
            refine Tr.weak (Γ' := [(3, (pEq (.int .i64 v16))), (7, (pEq (.pointer (some ⟨b27, 0, none⟩)))), (31, (pEq (.int .i64 v18))), (99999, (pTab 1 .u64 Lib.pow10Tab))]) ⟨rfl, rfl, rfl, rfl, trivial⟩ ?_
            refine Tr.seq ?_
            refine Tr.region ?_
            refine RegL.pureW (p := (pAgg (cGScaled x26))) rfl rfl rfl (W_loadA (i := 0) rfl Tryd.isAgg114 sz114 (Opd.tmp rfl) rfl rfl) ?_
            refine RegL.pureW (p := (pAgg (cGScaled x26))) rfl rfl rfl (W_loadA (i := 0) rfl Tryd.isAgg114 sz114 (Opd.tmp rfl) rfl rfl) ?_
            replace h := bind_some h; obtain ⟨x29, hx29, h⟩ := h
            refine RegL.pure (p := (pAgg (cGScaled x29))) rfl rfl rfl (J_call rfl Tryd.call112 (c_impl_scaled_times hx29) (Opds.cons (Opd.tmp rfl) (Opds.cons (Opd.tmp rfl) Opds.nil))) ?_
            refine RegL.stepN (γ := Unit) (p := fun _ => pAny) (Ω' := fun _ => [oBlk b27 [(pEq (.int .i64 x29.number)), (pEq (.int .i64 x29.exponent))]]) rfl rfl (M_storeA rfl sz114 (Opd.tmp rfl) (Opd.tmp rfl) (fun _ _ _ h => ones_of ((OneCs.cons OneC.int (OneCs.cons OneC.int OneCs.nil))) h) rfl rfl) fun g30 => ?_
            refine RegL.nil ?_
            refine Ct.then_tr ?_
            refine Tr.weak (Γ' := [(3, (pEq (.int .i64 v16))), (7, (pEq (.pointer (some ⟨b27, 0, none⟩)))), (31, (pEq (.int .i64 v18))), (99999, (pTab 1 .u64 Lib.pow10Tab))]) ⟨rfl, rfl, rfl, rfl, trivial⟩ ?_
            refine Tr.drawD (n := 55) (m := 8) (es := [some (Ent.mk [(7, (pEq (.pointer (some ⟨b27, 0, none⟩))))] (pEq (.pointer (some ⟨b27, 0, none⟩))) true), some (Ent.mk [(46, (pEq (.pointer (some ⟨b27, 0, none⟩))))] (pEq (.int .i64 x29.number)) true), some (Ent.mk [(3, (pEq (.int .i64 v16)))] (pEq (.int .i64 v16)) true), some (Ent.mk [(48, (pEq (.int .i64 v16)))] (pEq (.int .i64 (w64 ((10 : Int) * v16)))) true), some (Ent.mk [(7, (pEq (.pointer (some ⟨b27, 0, none⟩))))] (pEq (.pointer (some ⟨b27, 1, none⟩))) true), some (Ent.mk [(50, (pEq (.pointer (some ⟨b27, 1, none⟩))))] (pEq (.int .i64 x29.exponent)) true), some (Ent.mk [(49, (pEq (.int .i64 (w64 ((10 : Int) * v16))))), (51, (pEq (.int .i64 x29.exponent)))] (pEq (.int .i64 (w64 ((w64 ((10 : Int) * v16)) + x29.exponent)))) true), some (Ent.mk [(47, (pEq (.int .i64 x29.number)))] (pEq (.int .i64 x29.number)) true)]) (rd := [[7], [46], [3], [48], [7], [50], [49, 51], [47]]) rfl hmix (by kernel_rfl) fun hD => ?_
            refine RD.fin (es := [Ent.mk [(7, (pEq (.pointer (some ⟨b27, 0, none⟩))))] (pEq (.pointer (some ⟨b27, 0, none⟩))) true, Ent.mk [(46, (pEq (.pointer (some ⟨b27, 0, none⟩))))] (pEq (.int .i64 x29.number)) true, Ent.mk [(3, (pEq (.int .i64 v16)))] (pEq (.int .i64 v16)) true, Ent.mk [(48, (pEq (.int .i64 v16)))] (pEq (.int .i64 (w64 ((10 : Int) * v16)))) true, Ent.mk [(7, (pEq (.pointer (some ⟨b27, 0, none⟩))))] (pEq (.pointer (some ⟨b27, 1, none⟩))) true, Ent.mk [(50, (pEq (.pointer (some ⟨b27, 1, none⟩))))] (pEq (.int .i64 x29.exponent)) true, Ent.mk [(49, (pEq (.int .i64 (w64 ((10 : Int) * v16))))), (51, (pEq (.int .i64 x29.exponent)))] (pEq (.int .i64 (w64 ((w64 ((10 : Int) * v16)) + x29.exponent)))) true, Ent.mk [(47, (pEq (.int .i64 x29.number)))] (pEq (.int .i64 x29.number)) true]) (done := []) hD ⟨.inr ⟨(OpJ.w (J_fieldAddrE rfl Tryd.underlying114 rfl sz2 (by decide) (Opd.tmp rfl) rfl)), ⟨rfl, trivial⟩, rfl, rfl⟩, ⟨.inr ⟨(W_load (i := 0) rfl Tryd.isAgg2 (Opd.tmp rfl) rfl rfl), ⟨rfl, trivial⟩, rfl, rfl⟩, ⟨.inr ⟨(OpJ.w (J_move rfl (Opd.tmp rfl))), ⟨rfl, trivial⟩, rfl, rfl⟩, ⟨.inr ⟨(OpJ.w (J_bin rfl Opd.con (Opd.tmp rfl) B_mul)), ⟨rfl, trivial⟩, rfl, rfl⟩, ⟨.inr ⟨(OpJ.w (J_fieldAddrE rfl Tryd.underlying114 rfl sz2 (by decide) (Opd.tmp rfl) rfl)), ⟨rfl, trivial⟩, rfl, rfl⟩, ⟨.inr ⟨(W_load (i := 0) rfl Tryd.isAgg2 (Opd.tmp rfl) rfl rfl), ⟨rfl, trivial⟩, rfl, rfl⟩, ⟨.inr ⟨(OpJ.w (J_bin rfl (Opd.tmp rfl) (Opd.tmp rfl) B_add)), ⟨rfl, rfl, trivial⟩, rfl, rfl⟩, ⟨.inr ⟨(OpJ.w (J_assign rfl (Opd.tmp rfl))), ⟨rfl, trivial⟩, rfl, rfl⟩, trivial⟩⟩⟩⟩⟩⟩⟩⟩ ?_
            refine RegL.pure (p := (pEq (.int .i64 (w64 ((w64 ((10 : Int) * v16)) + x29.exponent))))) rfl rfl rfl (J_assign rfl (Opd.tmp rfl)) ?_
            refine RegL.nil ?_
            refine Ct.blk_normal ?_
            refine Ct.then_tr ?_
            refine Tr.weak (Γ' := [(3, (pEq (.int .i64 (w64 ((w64 ((10 : Int) * v16)) + x29.exponent))))), (4, (pEq (.int .i64 x29.number))), (31, (pEq (.int .i64 v18))), (99999, (pTab 1 .u64 Lib.pow10Tab))]) ⟨rfl, rfl, rfl, rfl, trivial⟩ ?_
            refine Tr.region ?_
            refine RegL.pure (p := (pEq (.int .i64 (w64 (v18 + (1 : Int)))))) rfl rfl rfl (J_bin rfl (Opd.tmp rfl) Opd.con B_add) ?_
            refine RegL.pure (p := (pEq (.int .i64 (w64 (v18 + (1 : Int)))))) rfl rfl rfl (J_move rfl (Opd.tmp rfl)) ?_
            refine RegL.nil ?_
            refine Ct.re (Ω2 := []) (fun h => SatO.rest h) ?_
            replace h := Option.some.inj h; subst h
            exact Ct.again () rfl ⟨rfl, rfl, rfl, rfl, trivial⟩
          · replace h := bif_f hc h
            refine Tr.exit ?_
            refine Ct.then_exit ?_
            replace h := map_some h; obtain ⟨r1, h, rfl⟩ := h
            refine Ct.out_exit fun e => ?_
            subst e
            refine Ct.blk_exit ?_
            replace h := Option.some.inj h; subst h
            exact Ct.mid () rfl ⟨rfl, rfl, trivial⟩
        · clear hx14
          refine Ct.then_tr ?_
          refine Tr.weak (Γ' := [(3, (pEq (.int .i64 x14))), (99999, (pTab 1 .u64 Lib.pow10Tab))]) ⟨rfl, rfl, trivial⟩ ?_
          refine Tr.seq ?_
          refine Tr.region ?_
          refine RegL.pure (p := (pEq (.int .i64 x14))) rfl rfl rfl (J_move rfl (Opd.tmp rfl)) ?_
          refine RegL.pure (p := (pEq (.int .i64 x14))) rfl rfl rfl (J_assign rfl (Opd.tmp rfl)) ?_
          refine RegL.nil ?_
          refine Ct.then_tr ?_
          refine Tr.weak (Γ' := [(2, (pEq (.int .i64 x14))), (99999, (pTab 1 .u64 Lib.pow10Tab))]) ⟨rfl, rfl, trivial⟩ ?_
          refine Tr.ret ?_
          replace h := Option.some.inj h; subst h
          exact Ct.retH1 (Ωx := []) () rfl (RvOk.tmp rfl) rfl

theorem c_impl_PowDb {v_0 : Int} {r : Int} (h : m_impl_PowDb v_0 = some r) : CallJ Tryd.prog 111 [(pG (pTab 1 .u64 Lib.pow10Tab) (pEq (.int .i64 v_0)))] (pEq (.int .i64 r)) := by
  unfold m_impl_PowDb at h
  refine CallJ.enterH Tryd.func111 rfl Tryd.ntmps111 rfl fun W I0 H => ?_
  refine Tr.tab (s := 0) (k := 99999) rfl ?_; refine Tr.weak (Γ' := [(0, (pEq (.int .i64 v_0))), (99999, (pTab 1 .u64 Lib.pow10Tab))]) ⟨rfl, rfl, trivial⟩ ?_
  refine Tr.seq ?_
  refine Tr.region ?_
  refine RegL.pure (p := (pEq (.int .i64 (0 : Int)))) rfl rfl rfl (J_assign rfl Opd.con) ?_
  refine RegL.nil ?_
  refine Ct.then_tr ?_
  refine Tr.weak (Γ' := [(0, (pEq (.int .i64 v_0))), (99999, (pTab 1 .u64 Lib.pow10Tab))]) ⟨rfl, rfl, trivial⟩ ?_
  refine Tr.seq ?_
  refine Tr.seq ?_
  refine Tr.region ?_
  refine RegL.pure (p := (pEq (.int .i64 v_0))) rfl rfl rfl (J_move rfl (Opd.tmp rfl)) ?_
  replace h := bind_some h; obtain ⟨x1, hx1, h⟩ := h
  refine RegL.pure (p := (pEq (.bool x1))) rfl rfl rfl (J_call rfl Tryd.call57 (c_impl_within hx1) (Opds.cons (Opd.tmp rfl) (Opds.cons Opd.con (Opds.cons Opd.con Opds.nil)))) ?_
  refine RegL.pure (p := (pEq (.bool (!x1)))) rfl rfl rfl (J_not rfl (Opd.tmp rfl)) ?_
  refine RegL.nil ?_
  refine Ct.then_tr ?_
  refine Tr.weak (Γ' := [(0, (pEq (.int .i64 v_0))), (8, (pEq (.bool (!x1)))), (99999, (pTab 1 .u64 Lib.pow10Tab))]) ⟨rfl, rfl, rfl, trivial⟩ ?_
  refine Tr.cond (Opd.tmp rfl) (fun hc => ?_) (fun hc => ?_)
  · replace h := bif_t hc h
    refine Tr.seq ?_
    refine Tr.region ?_
    refine RegL.pure (p := (pEq (.int .i64 (0 : Int)))) rfl rfl rfl (J_assign rfl Opd.con) ?_
    refine RegL.nil ?_
    refine Ct.then_tr ?_
    refine Tr.weak (Γ' := [(2, (pEq (.int .i64 (0 : Int)))), (99999, (pTab 1 .u64 Lib.pow10Tab))]) ⟨rfl, rfl, trivial⟩ ?_
    refine Tr.ret ?_
    refine Ct.then_ret ?_
    replace h := Option.some.inj h; subst h
    exact Ct.retH1 (Ωx := []) () rfl (RvOk.tmp rfl) rfl
  · replace h := bif_f hc h
    refine Tr.skip ?_
    refine Ct.then_tr ?_
    refine Tr.weak (Γ' := [(0, (pEq (.int .i64 v_0))), (99999, (pTab 1 .u64 Lib.pow10Tab))]) ⟨rfl, rfl, trivial⟩ ?_
    refine Tr.seq ?_
    refine Tr.region ?_
    refine RegL.pure (p := (pEq (.int .i64 (1 : Int)))) rfl rfl rfl (J_assign rfl Opd.con) ?_
    refine RegL.pure (p := (pEq (.int .i64 (1000000000000000000 : Int)))) rfl rfl rfl (J_assign rfl Opd.con) ?_
    refine RegL.nil ?_
    refine Ct.then_tr ?_
    refine Tr.weak (Γ' := [(0, (pEq (.int .i64 v_0))), (3, (pEq (.int .i64 (1 : Int)))), (4, (pEq (.int .i64 (1000000000000000000 : Int)))), (99999, (pTab 1 .u64 Lib.pow10Tab))]) ⟨rfl, rfl, rfl, rfl, trivial⟩ ?_
    refine Tr.seq ?_
    replace h := bind_some h; obtain ⟨x2, hx2, h⟩ := h
    refine Tr.cut (γ := Unit) (Γm := fun g => [(3, (pEq (.int .i64 x2))), (99999, (pTab 1 .u64 Lib.pow10Tab))]) (Ωm := fun g => []) ?_ (fun g10 => ?_)
    · clear h
      have h := hx2
      clear hx2
      refine Tr.block ?_
      refine Tr.weak (Γ' := [(0, (pEq (.int .i64 v_0))), (3, (pEq (.int .i64 (1 : Int)))), (4, (pEq (.int .i64 (1000000000000000000 : Int)))), (99999, (pTab 1 .u64 Lib.pow10Tab))]) ⟨rfl, rfl, rfl, rfl, trivial⟩ ?_
      refine Tr.loop (γ := Unit) (σ := (Int × Int)) (Γσ := fun s g => [(0, (pEq (.int .i64 v_0))), (3, (pEq (.int .i64 s.1))), (4, (pEq (.int .i64 s.2))), (99999, (pTab 1 .u64 Lib.pow10Tab))]) (Ωσ := fun s g => []) (g := ()) h ?_
      clear h
      rintro ⟨v4, v5⟩ g6 t h
      replace h : m_impl_PowDb_B3 v_0 v4 v5 = some t := h
      unfold m_impl_PowDb_B3 at h
      refine Tr.weakO (Γ' := [(0, (pEq (.int .i64 v_0))), (3, (pEq (.int .i64 v4))), (4, (pEq (.int .i64 v5))), (99999, (pTab 1 .u64 Lib.pow10Tab))]) (Ω' := []) rfl ⟨rfl, rfl, rfl, rfl, trivial⟩ ?_
      refine Tr.seq ?_
      refine Tr.seq ?_
      refine Tr.region ?_
      refine RegL.pure (p := (pEq (.int .i64 v4))) rfl rfl rfl (J_move rfl (Opd.tmp rfl)) ?_
      refine RegL.pure (p := (pEq (.int .i64 v5))) rfl rfl rfl (J_move rfl (Opd.tmp rfl)) ?_
      refine RegL.pure (p := (pEq (.bool (decide (v4 < v5))))) rfl rfl rfl (J_bin rfl (Opd.tmp rfl) (Opd.tmp rfl) B_lss) ?_
      refine RegL.nil ?_
      refine Ct.then_tr ?_
      refine Tr.weak (Γ' := [(0, (pEq (.int .i64 v_0))), (3, (pEq (.int .i64 v4))), (4, (pEq (.int .i64 v5))), (11, (pEq (.bool (decide (v4 < v5))))), (99999, (pTab 1 .u64 Lib.pow10Tab))]) ⟨rfl, rfl, rfl, rfl, rfl, trivial⟩ ?_
      refine Tr.cond (Opd.tmp rfl) (fun hc => ?_) (fun hc => ?_)
      · replace h := bif_t hc h
        refine Tr.skip ?_
        refine Ct.then_tr ?_
        refine Tr.weak (Γ' := [(0, (pEq (.int .i64 v_0))), (3, (pEq (.int .i64 v4))), (4, (pEq (.int .i64 v5))), (99999, (pTab 1 .u64 Lib.pow10Tab))]) ⟨rfl, rfl, rfl, rfl, trivial⟩ ?_
        refine Tr.block ?_
        refine Tr.seq ?_
        refine Tr.region ?_
        refine RegL.pure (p := (pEq (.int .i64 v4))) rfl rfl rfl (J_move rfl (Opd.tmp rfl)) ?_
        refine RegL.pure (p := (pEq (.int .i64 v5))) rfl rfl rfl (J_move rfl (Opd.tmp rfl)) ?_
        refine RegL.pure (p := (pEq (.int .i64 v4))) rfl rfl rfl (J_move rfl (Opd.tmp rfl)) ?_
        refine RegL.pure (p := (pEq (.int .i64 (w64 (v5 - v4))))) rfl rfl rfl (J_bin rfl (Opd.tmp rfl) (Opd.tmp rfl) B_sub) ?_
        refine RegL.pure (p := (pEq (.int .i64 (w64 ((w64 (v5 - v4)).tdiv (2 : Int)))))) rfl rfl rfl (J_bin rfl (Opd.tmp rfl) Opd.con (B_quo (n := (2 : Int)) (by decide))) ?_
        refine RegL.pure (p := (pEq (.int .i64 (w64 (v4 + (w64 ((w64 (v5 - v4)).tdiv (2 : Int)))))))) rfl rfl rfl (J_bin rfl (Opd.tmp rfl) (Opd.tmp rfl) B_add) ?_
        refine RegL.pure (p := (pEq (.int .i64 (w64 (v4 + (w64 ((w64 (v5 - v4)).tdiv (2 : Int)))))))) rfl rfl rfl (J_assign rfl (Opd.tmp rfl)) ?_
        refine RegL.nil ?_
        refine Ct.then_tr ?_
        refine Tr.weak (Γ' := [(0, (pEq (.int .i64 v_0))), (3, (pEq (.int .i64 v4))), (4, (pEq (.int .i64 v5))), (5, (pEq (.int .i64 (w64 (v4 + (w64 ((w64 (v5 - v4)).tdiv (2 : Int)))))))), (99999, (pTab 1 .u64 Lib.pow10Tab))]) ⟨rfl, rfl, rfl, rfl, rfl, trivial⟩ ?_
        refine Tr.seq ?_
        refine Tr.region ?_
        refine RegL.pure (p := (pEq (.int .i64 (w64 (v4 + (w64 ((w64 (v5 - v4)).tdiv (2 : Int)))))))) rfl rfl rfl (J_move rfl (Opd.tmp rfl)) ?_
        replace h := bind_some h; obtain ⟨x7, hx7, h⟩ := h
        refine RegL.pure (p := (pEq (.int .i64 x7))) rfl rfl rfl (J_call rfl Tryd.call89 (c_impl_LogDb hx7) (Opds.cons (Opd.tab (Opd.tmp rfl) 99999 rfl) Opds.nil)) ?_
        refine RegL.pure (p := (pEq (.int .i64 v_0))) rfl rfl rfl (J_move rfl (Opd.tmp rfl)) ?_
        refine RegL.pure (p := (pEq (.bool (decide (v_0 ≤ x7))))) rfl rfl rfl (J_bin rfl (Opd.tmp rfl) (Opd.tmp rfl) B_geq) ?_
        refine RegL.nil ?_
        refine Ct.then_tr ?_
        refine Tr.weak (Γ' := [(0, (pEq (.int .i64 v_0))), (3, (pEq (.int .i64 v4))), (4, (pEq (.int .i64 v5))), (5, (pEq (.int .i64 (w64 (v4 + (w64 ((w64 (v5 - v4)).tdiv (2 : Int)))))))), (21, (pEq (.bool (decide (v_0 ≤ x7))))), (99999, (pTab 1 .u64 Lib.pow10Tab))]) ⟨rfl, rfl, rfl, rfl, rfl, rfl, trivial⟩ ?_
        replace h := bind_some h; obtain ⟨x8, hx8, h⟩ := h
        refine Tr.cut (γ := Unit) (Γm := fun g => [(0, (pEq (.int .i64 v_0))), (3, (pEq (.int .i64 x8.1))), (4, (pEq (.int .i64 x8.2))), (99999, (pTab 1 .u64 Lib.pow10Tab))]) (Ωm := fun g => []) ?_ (fun g9 => ?_)
        · clear h
          have h := hx8
          clear hx8
          refine Tr.cond (Opd.tmp rfl) (fun hc => ?_) (fun hc => ?_)
          · replace h := bif_t hc h
            refine Tr.region ?_
            refine RegL.pure (p := (pEq (.int .i64 (w64 (v4 + (w64 ((w64 (v5 - v4)).tdiv (2 : Int)))))))) rfl rfl rfl (J_move rfl (Opd.tmp rfl)) ?_
            refine RegL.pure (p := (pEq (.int .i64 (w64 (v4 + (w64 ((w64 (v5 - v4)).tdiv (2 : Int)))))))) rfl rfl rfl (J_assign rfl (Opd.tmp rfl)) ?_
            refine RegL.nil ?_
            replace h := Option.some.inj h; subst h
            exact Ct.mid () rfl ⟨rfl, rfl, rfl, rfl, trivial⟩
          · replace h := bif_f hc h
            refine Tr.region ?_
            refine RegL.pure (p := (pEq (.int .i64 (w64 (v4 + (w64 ((w64 (v5 - v4)).tdiv (2 : Int)))))))) rfl rfl rfl (J_move rfl (Opd.tmp rfl)) ?_
            refine RegL.pure (p := (pEq (.int .i64 (w64 ((w64 (v4 + (w64 ((w64 (v5 - v4)).tdiv (2 : Int))))) + (1 : Int)))))) rfl rfl rfl (J_bin rfl (Opd.tmp rfl) Opd.con B_add) ?_
            refine RegL.pure (p := (pEq (.int .i64 (w64 ((w64 (v4 + (w64 ((w64 (v5 - v4)).tdiv (2 : Int))))) + (1 : Int)))))) rfl rfl rfl (J_assign rfl (Opd.tmp rfl)) ?_
            refine RegL.nil ?_
            replace h := Option.some.inj h; subst h
            exact Ct.mid () rfl ⟨rfl, rfl, rfl, rfl, trivial⟩
        · clear hx8
          refine Ct.blk_normal ?_
          replace h := Option.some.inj h; subst h
          exact Ct.again () rfl ⟨rfl, rfl, rfl, rfl, trivial⟩
      · replace h := bif_f hc h
        refine Tr.exit ?_
        refine Ct.then_exit ?_
        replace h := map_some h; obtain ⟨r1, h, rfl⟩ := h
        refine Ct.out_exit fun e => ?_
        subst e
        refine Ct.blk_exit ?_
        replace h := Option.some.inj h; subst h
        exact Ct.mid () rfl ⟨rfl, rfl, trivial⟩
    · clear hx2
      refine Ct.then_tr ?_
      refine Tr.weak (Γ' := [(3, (pEq (.int .i64 x2))), (99999, (pTab 1 .u64 Lib.pow10Tab))]) ⟨rfl, rfl, trivial⟩ ?_
      refine Tr.seq ?_
      refine Tr.region ?_
      refine RegL.pure (p := (pEq (.int .i64 x2))) rfl rfl rfl (J_move rfl (Opd.tmp rfl)) ?_
      refine RegL.pure (p := (pEq (.int .i64 x2))) rfl rfl rfl (J_assign rfl (Opd.tmp rfl)) ?_
      refine RegL.nil ?_
      refine Ct.then_tr ?_
      refine Tr.weak (Γ' := [(2, (pEq (.int .i64 x2))), (99999, (pTab 1 .u64 Lib.pow10Tab))]) ⟨rfl, rfl, trivial⟩ ?_
      refine Tr.ret ?_
      replace h := Option.some.inj h; subst h
      exact Ct.retH1 (Ωx := []) () rfl (RvOk.tmp rfl) rfl

theorem c_impl_partOf {v_0 : Int} {r : Int} (h : m_impl_partOf v_0 = some r) : CallJ Tryd.prog 88 [(pG (pTab 1 .u64 Lib.pow10Tab) (pEq (.int .i64 v_0)))] (pEq (.int .i64 r)) := by
  unfold m_impl_partOf at h
  refine CallJ.enterH Tryd.func88 rfl Tryd.ntmps88 rfl fun W I0 H => ?_
  refine Tr.tab (s := 0) (k := 99999) rfl ?_; refine Tr.weak (Γ' := [(0, (pEq (.int .i64 v_0))), (99999, (pTab 1 .u64 Lib.pow10Tab))]) ⟨rfl, rfl, trivial⟩ ?_
  refine Tr.seq ?_
  refine Tr.region ?_
  refine RegL.pure (p := (pEq (.int .i64 (0 : Int)))) rfl rfl rfl (J_assign rfl Opd.con) ?_
  refine RegL.nil ?_
  refine Ct.then_tr ?_
  refine Tr.weak (Γ' := [(0, (pEq (.int .i64 v_0))), (99999, (pTab 1 .u64 Lib.pow10Tab))]) ⟨rfl, rfl, trivial⟩ ?_
  refine Tr.seq ?_
  refine Tr.seq ?_
  refine Tr.region ?_
  refine RegL.pure (p := (pEq (.int .i64 v_0))) rfl rfl rfl (J_move rfl (Opd.tmp rfl)) ?_
  refine RegL.pure (p := (pEq (.bool (decide (v_0 < (-90000 : Int)))))) rfl rfl rfl (J_bin rfl (Opd.tmp rfl) Opd.con B_lss) ?_
  refine RegL.nil ?_
  refine Ct.then_tr ?_
  refine Tr.weak (Γ' := [(0, (pEq (.int .i64 v_0))), (4, (pEq (.bool (decide (v_0 < (-90000 : Int)))))), (99999, (pTab 1 .u64 Lib.pow10Tab))]) ⟨rfl, rfl, rfl, trivial⟩ ?_
  refine Tr.cond (Opd.tmp rfl) (fun hc => ?_) (fun hc => ?_)
  · replace h := bif_t hc h
    refine Tr.seq ?_
    refine Tr.region ?_
    refine RegL.pure (p := (pEq (.int .i64 (0 : Int)))) rfl rfl rfl (J_assign rfl Opd.con) ?_
    refine RegL.nil ?_
    refine Ct.then_tr ?_
    refine Tr.weak (Γ' := [(2, (pEq (.int .i64 (0 : Int)))), (99999, (pTab 1 .u64 Lib.pow10Tab))]) ⟨rfl, rfl, trivial⟩ ?_
    refine Tr.ret ?_
    refine Ct.then_ret ?_
    replace h := Option.some.inj h; subst h
    exact Ct.retH1 (Ωx := []) () rfl (RvOk.tmp rfl) rfl
  · replace h := bif_f hc h
    refine Tr.skip ?_
    refine Ct.then_tr ?_
    refine Tr.weak (Γ' := [(0, (pEq (.int .i64 v_0))), (99999, (pTab 1 .u64 Lib.pow10Tab))]) ⟨rfl, rfl, trivial⟩ ?_
    refine Tr.seq ?_
    refine Tr.region ?_
    refine RegL.pure (p := (pEq (.int .i64 v_0))) rfl rfl rfl (J_move rfl (Opd.tmp rfl)) ?_
    refine RegL.pure (p := (pEq (.int .i64 (w64 ((90000 : Int) + v_0))))) rfl rfl rfl (J_bin rfl Opd.con (Opd.tmp rfl) B_add) ?_
    replace h := bind_some h; obtain ⟨x1, hx1, h⟩ := h
    refine RegL.pure (p := (pEq (.int .i64 x1))) rfl rfl rfl (J_call rfl Tryd.call111 (c_impl_PowDb hx1) (Opds.cons (Opd.tab (Opd.tmp rfl) 99999 rfl) Opds.nil)) ?_
    refine RegL.pure (p := (pEq (.int .i64 x1))) rfl rfl rfl (J_assign rfl (Opd.tmp rfl)) ?_
    refine RegL.nil ?_
    refine Ct.then_tr ?_
    refine Tr.weak (Γ' := [(2, (pEq (.int .i64 x1))), (99999, (pTab 1 .u64 Lib.pow10Tab))]) ⟨rfl, rfl, trivial⟩ ?_
    refine Tr.ret ?_
    replace h := Option.some.inj h; subst h
    exact Ct.retH1 (Ωx := []) () rfl (RvOk.tmp rfl) rfl

theorem c_impl_sumDb {list_0 : (List Int)} {r : Int} (h : m_impl_sumDb list_0 = some r) : CallJ Tryd.prog 74 [(pG (pTab 1 .u64 Lib.pow10Tab) (pSl 1 (cK .i64) list_0))] (pEq (.int .i64 r)) := by
  unfold m_impl_sumDb at h
  refine CallJ.enterH Tryd.func74 rfl Tryd.ntmps74 rfl fun W I0 H => ?_
  refine Tr.tab (s := 0) (k := 99999) rfl ?_; refine Tr.weak (Γ' := [(0, (pSl 1 (cK .i64) list_0)), (99999, (pTab 1 .u64 Lib.pow10Tab))]) ⟨rfl, rfl, trivial⟩ ?_
  refine Tr.seq ?_
  refine Tr.region ?_
  refine RegL.pure (p := (pEq (.int .i64 (0 : Int)))) rfl rfl rfl (J_assign rfl Opd.con) ?_
  refine RegL.nil ?_
  refine Ct.then_tr ?_
  refine Tr.weak (Γ' := [(0, (pSl 1 (cK .i64) list_0)), (99999, (pTab 1 .u64 Lib.pow10Tab))]) ⟨rfl, rfl, trivial⟩ ?_
  refine Tr.seq ?_
  refine Tr.region ?_
  refine RegL.pure (p := (pSl 1 (cK .i64) list_0)) rfl rfl rfl (J_move rfl (Opd.tmp rfl)) ?_
  replace h := bind_some h; obtain ⟨x1, hx1, h⟩ := h
  refine RegL.pure (p := (pEq (.int .i64 x1))) rfl rfl rfl (J_call rfl Tryd.call78 (c_slices_Max_int64_int64 hx1) (Opds.cons (Opd.tmp rfl) Opds.nil)) ?_
  refine RegL.pure (p := (pEq (.int .i64 x1))) rfl rfl rfl (J_assign rfl (Opd.tmp rfl)) ?_
  refine RegL.pure (p := (pEq (.int .i64 (0 : Int)))) rfl rfl rfl (J_assign rfl Opd.con) ?_
  refine RegL.nil ?_
  refine Ct.then_tr ?_
  refine Tr.weak (Γ' := [(0, (pSl 1 (cK .i64) list_0)), (3, (pEq (.int .i64 x1))), (4, (pEq (.int .i64 (0 : Int)))), (99999, (pTab 1 .u64 Lib.pow10Tab))]) ⟨rfl, rfl, rfl, rfl, trivial⟩ ?_
  refine Tr.seq ?_
  refine Tr.seq ?_
  refine Tr.region ?_
  refine RegL.pure (p := (pSl 1 (cK .i64) list_0)) rfl rfl rfl (J_move rfl (Opd.tmp rfl)) ?_
  refine RegL.pure (p := (pEq (.int .i64 (list_0.length : Int)))) rfl rfl rfl (J_len rfl Tryd.underlying22 (Opd.tmp rfl) rfl) ?_
  refine RegL.pure (p := (pEq (.int .i64 (0 : Int)))) rfl rfl rfl (J_move rfl Opd.con) ?_
  refine RegL.nil ?_
  refine Ct.then_tr ?_
  refine Tr.weak (Γ' := [(3, (pEq (.int .i64 x1))), (4, (pEq (.int .i64 (0 : Int)))), (9, (pSl 1 (cK .i64) list_0)), (10, (pEq (.int .i64 (list_0.length : Int)))), (11, (pEq (.int .i64 (0 : Int)))), (99999, (pTab 1 .u64 Lib.pow10Tab))]) ⟨rfl, rfl, rfl, rfl, rfl, rfl, trivial⟩ ?_
  replace h := bind_some h; obtain ⟨x2, hx2, h⟩ := h
  refine Tr.cut (γ := Unit) (Γm := fun g => [(3, (pEq (.int .i64 x1))), (4, (pEq (.int .i64 x2))), (99999, (pTab 1 .u64 Lib.pow10Tab))]) (Ωm := fun g => []) ?_ (fun g9 => ?_)
  · clear h
    have h := hx2
    clear hx2
    refine Tr.block ?_
    refine Tr.weak (Γ' := [(3, (pEq (.int .i64 x1))), (4, (pEq (.int .i64 (0 : Int)))), (9, (pSl 1 (cK .i64) list_0)), (10, (pEq (.int .i64 (list_0.length : Int)))), (11, (pEq (.int .i64 (0 : Int)))), (99999, (pTab 1 .u64 Lib.pow10Tab))]) ⟨rfl, rfl, rfl, rfl, rfl, rfl, trivial⟩ ?_
    refine Tr.loop (γ := Unit) (σ := (Int × Int)) (Γσ := fun s g => [(3, (pEq (.int .i64 x1))), (4, (pEq (.int .i64 s.1))), (9, (pSl 1 (cK .i64) list_0)), (10, (pEq (.int .i64 (list_0.length : Int)))), (11, (pEq (.int .i64 s.2))), (99999, (pTab 1 .u64 Lib.pow10Tab))]) (Ωσ := fun s g => []) (g := ()) h ?_
    clear h
    rintro ⟨v4, v5⟩ g6 t h
    replace h : m_impl_sumDb_B3 list_0 x1 v4 v5 = some t := h
    unfold m_impl_sumDb_B3 at h
    refine Tr.weakO (Γ' := [(3, (pEq (.int .i64 x1))), (4, (pEq (.int .i64 v4))), (9, (pSl 1 (cK .i64) list_0)), (10, (pEq (.int .i64 (list_0.length : Int)))), (11, (pEq (.int .i64 v5))), (99999, (pTab 1 .u64 Lib.pow10Tab))]) (Ω' := []) rfl ⟨rfl, rfl, rfl, rfl, rfl, rfl, trivial⟩ ?_
    refine Tr.seq ?_
    refine Tr.region ?_
    refine RegL.pure (p := (pEq (.bool (decide (v5 < (list_0.length : Int)))))) rfl rfl rfl (J_bin rfl (Opd.tmp rfl) (Opd.tmp rfl) B_lss) ?_
    refine RegL.nil ?_
    refine Ct.then_tr ?_
    refine Tr.weak (Γ' := [(3, (pEq (.int .i64 x1))), (4, (pEq (.int .i64 v4))), (9, (pSl 1 (cK .i64) list_0)), (10, (pEq (.int .i64 (list_0.length : Int)))), (11, (pEq (.int .i64 v5))), (12, (pEq (.bool (decide (v5 < (list_0.length : Int)))))), (99999, (pTab 1 .u64 Lib.pow10Tab))]) ⟨rfl, rfl, rfl, rfl, rfl, rfl, rfl, trivial⟩ ?_
    refine Tr.seq ?_
    refine Tr.cond (Opd.tmp rfl) (fun hc => ?_) (fun hc => ?_)
    · replace h := bif_t hc h
      refine Tr.skip ?_
      refine Ct.then_tr ?_
      refine Tr.weak (Γ' := [(3, (pEq (.int .i64 x1))), (4, (pEq (.int .i64 v4))), (9, (pSl 1 (cK .i64) list_0)), (10, (pEq (.int .i64 (list_0.length : Int)))), (11, (pEq (.int .i64 v5))), (99999, (pTab 1 .u64 Lib.pow10Tab))]) ⟨rfl, rfl, rfl, rfl, rfl, rfl, trivial⟩ ?_
      refine Tr.seq ?_
      refine Tr.block ?_
      refine Tr.seq ?_
      refine Tr.region ?_
      replace h := bind_some h; obtain ⟨x7, hx7, h⟩ := h
      refine RegL.pure (p := (pPtr ((cK .i64) x7))) rfl rfl rfl (J_idx rfl Tryd.underlying22 sz2 (Opd.tmp rfl) (Opd.tmp rfl) hx7) ?_
      refine RegL.pure (p := (pEq (.int .i64 x7))) rfl rfl rfl (J_load rfl Tryd.isAgg2 (Opd.tmp rfl)) ?_
      refine RegL.pure (p := (pEq (.int .i64 x7))) rfl rfl rfl (J_assign rfl (Opd.tmp rfl)) ?_
      refine RegL.nil ?_
      refine Ct.then_tr ?_
      refine Tr.weak (Γ' := [(3, (pEq (.int .i64 x1))), (4, (pEq (.int .i64 v4))), (6, (pEq (.int .i64 x7))), (9, (pSl 1 (cK .i64) list_0)), (10, (pEq (.int .i64 (list_0.length : Int)))), (11, (pEq (.int .i64 v5))), (99999, (pTab 1 .u64 Lib.pow10Tab))]) ⟨rfl, rfl, rfl, rfl, rfl, rfl, rfl, trivial⟩ ?_
      refine Tr.region ?_
      refine RegL.pure (p := (pEq (.int .i64 v4))) rfl rfl rfl (J_move rfl (Opd.tmp rfl)) ?_
      refine RegL.pure (p := (pEq (.int .i64 x7))) rfl rfl rfl (J_move rfl (Opd.tmp rfl)) ?_
      refine RegL.pure (p := (pEq (.int .i64 x1))) rfl rfl rfl (J_move rfl (Opd.tmp rfl)) ?_
      refine RegL.pure (p := (pEq (.int .i64 (w64 (x7 - x1))))) rfl rfl rfl (J_bin rfl (Opd.tmp rfl) (Opd.tmp rfl) B_sub) ?_
      replace h := bind_some h; obtain ⟨x8, hx8, h⟩ := h
      refine RegL.pure (p := (pEq (.int .i64 x8))) rfl rfl rfl (J_call rfl Tryd.call88 (c_impl_partOf hx8) (Opds.cons (Opd.tab (Opd.tmp rfl) 99999 rfl) Opds.nil)) ?_
      refine RegL.pure (p := (pEq (.int .i64 (w64 (v4 + x8))))) rfl rfl rfl (J_bin rfl (Opd.tmp rfl) (Opd.tmp rfl) B_add) ?_
      refine RegL.pure (p := (pEq (.int .i64 (w64 (v4 + x8))))) rfl rfl rfl (J_assign rfl (Opd.tmp rfl)) ?_
      refine RegL.nil ?_
      refine Ct.blk_normal ?_
      refine Ct.then_tr ?_
      refine Tr.weak (Γ' := [(3, (pEq (.int .i64 x1))), (4, (pEq (.int .i64 (w64 (v4 + x8))))), (9, (pSl 1 (cK .i64) list_0)), (10, (pEq (.int .i64 (list_0.length : Int)))), (11, (pEq (.int .i64 v5))), (99999, (pTab 1 .u64 Lib.pow10Tab))]) ⟨rfl, rfl, rfl, rfl, rfl, rfl, trivial⟩ ?_
      refine Tr.region ?_
      refine RegL.pure (p := (pEq (.int .i64 (w64 (v5 + (1 : Int)))))) rfl rfl rfl (J_bin rfl (Opd.tmp rfl) Opd.con B_add) ?_
      refine RegL.pure (p := (pEq (.int .i64 (w64 (v5 + (1 : Int)))))) rfl rfl rfl (J_move rfl (Opd.tmp rfl)) ?_
      refine RegL.nil ?_
      replace h := Option.some.inj h; subst h
      exact Ct.again () rfl ⟨rfl, rfl, rfl, rfl, rfl, rfl, trivial⟩
    · replace h := bif_f hc h
      refine Tr.exit ?_
      refine Ct.then_exit ?_
      replace h := map_some h; obtain ⟨r1, h, rfl⟩ := h
      refine Ct.out_exit fun e => ?_
      subst e
      refine Ct.blk_exit ?_
      replace h := Option.some.inj h; subst h
      exact Ct.mid () rfl ⟨rfl, rfl, rfl, trivial⟩
  · clear hx2
    refine Ct.then_tr ?_
    refine Tr.weak (Γ' := [(3, (pEq (.int .i64 x1))), (4, (pEq (.int .i64 x2))), (99999, (pTab 1 .u64 Lib.pow10Tab))]) ⟨rfl, rfl, rfl, trivial⟩ ?_
    refine Tr.seq ?_
    refine Tr.region ?_
    refine RegL.pure (p := (pEq (.int .i64 x1))) rfl rfl rfl (J_move rfl (Opd.tmp rfl)) ?_
    refine RegL.pure (p := (pEq (.int .i64 (w64 (x1 - (90000 : Int)))))) rfl rfl rfl (J_bin rfl (Opd.tmp rfl) Opd.con B_sub) ?_
    refine RegL.pure (p := (pEq (.int .i64 x2))) rfl rfl rfl (J_move rfl (Opd.tmp rfl)) ?_
    replace h := bind_some h; obtain ⟨x10, hx10, h⟩ := h
    refine RegL.pure (p := (pEq (.int .i64 x10))) rfl rfl rfl (J_call rfl Tryd.call89 (c_impl_LogDb hx10) (Opds.cons (Opd.tab (Opd.tmp rfl) 99999 rfl) Opds.nil)) ?_
    refine RegL.pure (p := (pEq (.int .i64 (w64 ((w64 (x1 - (90000 : Int))) + x10))))) rfl rfl rfl (J_bin rfl (Opd.tmp rfl) (Opd.tmp rfl) B_add) ?_
    refine RegL.pure (p := (pEq (.int .i64 (w64 ((w64 (x1 - (90000 : Int))) + x10))))) rfl rfl rfl (J_assign rfl (Opd.tmp rfl)) ?_
    refine RegL.nil ?_
    refine Ct.then_tr ?_
    refine Tr.weak (Γ' := [(2, (pEq (.int .i64 (w64 ((w64 (x1 - (90000 : Int))) + x10))))), (99999, (pTab 1 .u64 Lib.pow10Tab))]) ⟨rfl, rfl, trivial⟩ ?_
    refine Tr.ret ?_
    replace h := Option.some.inj h; subst h
    exact Ct.retH1 (Ωx := []) () rfl (RvOk.tmp rfl) rfl

theorem c_impl_signalRatio {a_0 : (List Int)} {a_1 : (List Int)} {a_2 : (List Int)} {a_3 : Int} {r : Int} (h : m_impl_signalRatio a_0 a_1 a_2 a_3 = some r) : CallJ Tryd.prog 44 [(pSl 1 (cK .i64) a_0), (pSl 1 (cK .i64) a_1), (pSl 1 (cK .i64) a_2), (pG (pTab 1 .u64 Lib.pow10Tab) (pEq (.int .i64 a_3)))] (pEq (.int .i64 r)) := by
  unfold m_impl_signalRatio at h
  refine CallJ.enterH Tryd.func44 rfl Tryd.ntmps44 rfl fun W I0 H => ?_
  refine Tr.tab (s := 3) (k := 99999) rfl ?_; refine Tr.weak (Γ' := [(0, (pSl 1 (cK .i64) a_0)), (1, (pSl 1 (cK .i64) a_1)), (2, (pSl 1 (cK .i64) a_2)), (3, (pEq (.int .i64 a_3))), (99999, (pTab 1 .u64 Lib.pow10Tab))]) ⟨rfl, rfl, rfl, rfl, rfl, trivial⟩ ?_
  refine Tr.seq ?_
  refine Tr.region ?_
  refine RegL.pure (p := (pEq (.int .i64 (0 : Int)))) rfl rfl rfl (J_assign rfl Opd.con) ?_
  refine RegL.nil ?_
  refine Ct.then_tr ?_
  refine Tr.weak (Γ' := [(0, (pSl 1 (cK .i64) a_0)), (1, (pSl 1 (cK .i64) a_1)), (2, (pSl 1 (cK .i64) a_2)), (3, (pEq (.int .i64 a_3))), (99999, (pTab 1 .u64 Lib.pow10Tab))]) ⟨rfl, rfl, rfl, rfl, rfl, trivial⟩ ?_
  refine Tr.seq ?_
  refine Tr.region ?_
  refine RegL.pure (p := (pEq (.slice none 0 0))) rfl rfl rfl (J_assign rfl Opd.con) ?_
  refine RegL.nil ?_
  refine Ct.then_tr ?_
  refine Tr.weak (Γ' := [(0, (pSl 1 (cK .i64) a_0)), (1, (pSl 1 (cK .i64) a_1)), (2, (pSl 1 (cK .i64) a_2)), (3, (pEq (.int .i64 a_3))), (9, (pEq (.slice none 0 0))), (99999, (pTab 1 .u64 Lib.pow10Tab))]) ⟨rfl, rfl, rfl, rfl, rfl, rfl, trivial⟩ ?_
  refine Tr.seq ?_
  refine Tr.seq ?_
  refine Tr.region ?_
  refine RegL.pure (p := (pSl 1 (cK .i64) a_0)) rfl rfl rfl (J_move rfl (Opd.tmp rfl)) ?_
  refine RegL.pure (p := (pEq (.int .i64 (a_0.length : Int)))) rfl rfl rfl (J_len rfl Tryd.underlying22 (Opd.tmp rfl) rfl) ?_
  refine RegL.pure (p := (pEq (.int .i64 (0 : Int)))) rfl rfl rfl (J_move rfl Opd.con) ?_
  refine RegL.nil ?_
  refine Ct.then_tr ?_
  refine Tr.weak (Γ' := [(0, (pSl 1 (cK .i64) a_0)), (1, (pSl 1 (cK .i64) a_1)), (2, (pSl 1 (cK .i64) a_2)), (3, (pEq (.int .i64 a_3))), (9, (pEq (.slice none 0 0))), (13, (pSl 1 (cK .i64) a_0)), (14, (pEq (.int .i64 (a_0.length : Int)))), (15, (pEq (.int .i64 (0 : Int)))), (99999, (pTab 1 .u64 Lib.pow10Tab))]) ⟨rfl, rfl, rfl, rfl, rfl, rfl, rfl, rfl, rfl, trivial⟩ ?_
  refine Tr.re (Ω2 := [oSl 2 1 (cK .i64) none 0 0 ([] : (List Int))]) (fun h => SatO.nilRow h) ?_
  refine Tr.fact (φ := (([] : (List Int)) = [] → (none : Option Addr) = none)) 80009 (fun _ => rfl) ?_
  replace h := bind_some h; obtain ⟨x2, hx2, h⟩ := h
  refine Tr.cut (γ := G3) (Γm := fun g => [(0, (pSl 1 (cK .i64) a_0)), (3, (pEq (.int .i64 a_3))), (9, (pEq (.slice g.1 g.2.1 g.2.2))), (80009, (pFact (x2 = [] → g.1 = none))), (99999, (pTab 1 .u64 Lib.pow10Tab))]) (Ωm := fun g => [oSl 2 1 (cK .i64) g.1 g.2.1 g.2.2 x2]) ?_ (fun g22 => ?_)
  · clear h
    have h := hx2
    clear hx2
    refine Tr.block ?_
    refine Tr.weak (Γ' := [(0, (pSl 1 (cK .i64) a_0)), (1, (pSl 1 (cK .i64) a_1)), (2, (pSl 1 (cK .i64) a_2)), (3, (pEq (.int .i64 a_3))), (9, (pEq (.slice none 0 0))), (13, (pSl 1 (cK .i64) a_0)), (14, (pEq (.int .i64 (a_0.length : Int)))), (15, (pEq (.int .i64 (0 : Int)))), (80009, (pFact (([] : (List Int)) = [] → (none : Option Addr) = none))), (99999, (pTab 1 .u64 Lib.pow10Tab))]) ⟨rfl, rfl, rfl, rfl, rfl, rfl, rfl, rfl, rfl, rfl, trivial⟩ ?_
    refine Tr.loop (γ := G3) (σ := (Int × (List Int))) (Γσ := fun s g => [(0, (pSl 1 (cK .i64) a_0)), (1, (pSl 1 (cK .i64) a_1)), (2, (pSl 1 (cK .i64) a_2)), (3, (pEq (.int .i64 a_3))), (9, (pEq (.slice g.1 g.2.1 g.2.2))), (13, (pSl 1 (cK .i64) a_0)), (14, (pEq (.int .i64 (a_0.length : Int)))), (15, (pEq (.int .i64 s.1))), (80009, (pFact (s.2 = [] → g.1 = none))), (99999, (pTab 1 .u64 Lib.pow10Tab))]) (Ωσ := fun s g => [oSl 2 1 (cK .i64) g.1 g.2.1 g.2.2 s.2]) (g := (none, 0, 0)) h ?_
    clear h
    rintro ⟨v4, v5⟩ g6 t h
    replace h : m_impl_signalRatio_B3 a_0 a_1 a_2 a_3 v4 v5 = some t := h
    unfold m_impl_signalRatio_B3 at h
    refine Tr.weakO (Γ' := [(0, (pSl 1 (cK .i64) a_0)), (1, (pSl 1 (cK .i64) a_1)), (2, (pSl 1 (cK .i64) a_2)), (3, (pEq (.int .i64 a_3))), (9, (pEq (.slice g6.1 g6.2.1 g6.2.2))), (13, (pSl 1 (cK .i64) a_0)), (14, (pEq (.int .i64 (a_0.length : Int)))), (15, (pEq (.int .i64 v4))), (80009, (pFact (v5 = [] → g6.1 = none))), (99999, (pTab 1 .u64 Lib.pow10Tab))]) (Ω' := [oSl 2 1 (cK .i64) g6.1 g6.2.1 g6.2.2 v5]) rfl ⟨rfl, rfl, rfl, rfl, rfl, rfl, rfl, rfl, rfl, rfl, trivial⟩ ?_
    refine Tr.seq ?_
    refine Tr.region ?_
    refine RegL.pure (p := (pEq (.bool (decide (v4 < (a_0.length : Int)))))) rfl rfl rfl (J_bin rfl (Opd.tmp rfl) (Opd.tmp rfl) B_lss) ?_
    refine RegL.nil ?_
    refine Ct.then_tr ?_
    refine Tr.weak (Γ' := [(0, (pSl 1 (cK .i64) a_0)), (1, (pSl 1 (cK .i64) a_1)), (2, (pSl 1 (cK .i64) a_2)), (3, (pEq (.int .i64 a_3))), (9, (pEq (.slice g6.1 g6.2.1 g6.2.2))), (13, (pSl 1 (cK .i64) a_0)), (14, (pEq (.int .i64 (a_0.length : Int)))), (15, (pEq (.int .i64 v4))), (16, (pEq (.bool (decide (v4 < (a_0.length : Int)))))), (80009, (pFact (v5 = [] → g6.1 = none))), (99999, (pTab 1 .u64 Lib.pow10Tab))]) ⟨rfl, rfl, rfl, rfl, rfl, rfl, rfl, rfl, rfl, rfl, rfl, trivial⟩ ?_
    refine Tr.seq ?_
    refine Tr.cond (Opd.tmp rfl) (fun hc => ?_) (fun hc => ?_)
    · replace h := bif_t hc h
      refine Tr.skip ?_
      refine Ct.then_tr ?_
      refine Tr.weak (Γ' := [(0, (pSl 1 (cK .i64) a_0)), (1, (pSl 1 (cK .i64) a_1)), (2, (pSl 1 (cK .i64) a_2)), (3, (pEq (.int .i64 a_3))), (9, (pEq (.slice g6.1 g6.2.1 g6.2.2))), (13, (pSl 1 (cK .i64) a_0)), (14, (pEq (.int .i64 (a_0.length : Int)))), (15, (pEq (.int .i64 v4))), (80009, (pFact (v5 = [] → g6.1 = none))), (99999, (pTab 1 .u64 Lib.pow10Tab))]) ⟨rfl, rfl, rfl, rfl, rfl, rfl, rfl, rfl, rfl, rfl, trivial⟩ ?_
      refine Tr.seq ?_
      refine Tr.block ?_
      refine Tr.seq ?_
      refine Tr.region ?_
      refine RegL.pure (p := (pEq (.int .i64 v4))) rfl rfl rfl (J_move rfl (Opd.tmp rfl)) ?_
      replace h := bind_some h; obtain ⟨x7, hx7, h⟩ := h
      refine RegL.pure (p := (pPtr ((cK .i64) x7))) rfl rfl rfl (J_idx rfl Tryd.underlying22 sz2 (Opd.tmp rfl) (Opd.tmp rfl) hx7) ?_
      refine RegL.pure (p := (pEq (.int .i64 x7))) rfl rfl rfl (J_load rfl Tryd.isAgg2 (Opd.tmp rfl)) ?_
      refine RegL.pure (p := (pEq (.int .i64 v4))) rfl rfl rfl (J_assign rfl (Opd.tmp rfl)) ?_
      refine RegL.pure (p := (pEq (.int .i64 x7))) rfl rfl rfl (J_assign rfl (Opd.tmp rfl)) ?_
      refine RegL.nil ?_
      refine Ct.then_tr ?_
      refine Tr.weak (Γ' := [(0, (pSl 1 (cK .i64) a_0)), (1, (pSl 1 (cK .i64) a_1)), (2, (pSl 1 (cK .i64) a_2)), (3, (pEq (.int .i64 a_3))), (9, (pEq (.slice g6.1 g6.2.1 g6.2.2))), (10, (pEq (.int .i64 v4))), (11, (pEq (.int .i64 x7))), (13, (pSl 1 (cK .i64) a_0)), (14, (pEq (.int .i64 (a_0.length : Int)))), (15, (pEq (.int .i64 v4))), (80009, (pFact (v5 = [] → g6.1 = none))), (99999, (pTab 1 .u64 Lib.pow10Tab))]) ⟨rfl, rfl, rfl, rfl, rfl, rfl, rfl, rfl, rfl, rfl, rfl, rfl, trivial⟩ ?_
      refine Tr.seq ?_
      replace h := bind_some h; obtain ⟨x8, hx8, h⟩ := h
      replace h := bind_some h; obtain ⟨x9, hx9, h⟩ := h
      replace h := bind_some h; obtain ⟨x10, hx10, h⟩ := h
      refine Tr.drawD (n := 67) (m := 10) (es := [some (Ent.mk [(1, (pSl 1 (cK .i64) a_1))] (pSl 1 (cK .i64) a_1) true), some (Ent.mk [(10, (pEq (.int .i64 v4)))] (pEq (.int .i64 v4)) true), some (Ent.mk [(20, (pSl 1 (cK .i64) a_1)), (21, (pEq (.int .i64 v4)))] (pPtr ((cK .i64) x8)) true), some (Ent.mk [(22, (pPtr ((cK .i64) x8)))] (pEq (.int .i64 x8)) true), some (Ent.mk [(1, (pSl 1 (cK .i64) a_1))] (pSl 1 (cK .i64) a_1) true), some (Ent.mk [(3, (pEq (.int .i64 a_3)))] (pEq (.int .i64 a_3)) true), some (Ent.mk [(24, (pSl 1 (cK .i64) a_1)), (25, (pEq (.int .i64 a_3)))] (pPtr ((cK .i64) x9)) true), some (Ent.mk [(26, (pPtr ((cK .i64) x9)))] (pEq (.int .i64 x9)) true), some (Ent.mk [(23, (pEq (.int .i64 x8))), (27, (pEq (.int .i64 x9)))] (pEq (.int .i64 (w64 (x8 - x9)))) true), some (Ent.mk [(28, (pEq (.int .i64 (w64 (x8 - x9)))))] (pEq (.int .i64 x10)) true)]) (rd := [[1], [10], [20, 21], [22], [1], [3], [24, 25], [26], [23, 27], [28]]) rfl hmix (by kernel_rfl) fun hD => ?_
      refine RD.fin (es := [Ent.mk [(1, (pSl 1 (cK .i64) a_1))] (pSl 1 (cK .i64) a_1) true, Ent.mk [(10, (pEq (.int .i64 v4)))] (pEq (.int .i64 v4)) true, Ent.mk [(20, (pSl 1 (cK .i64) a_1)), (21, (pEq (.int .i64 v4)))] (pPtr ((cK .i64) x8)) true, Ent.mk [(22, (pPtr ((cK .i64) x8)))] (pEq (.int .i64 x8)) true, Ent.mk [(1, (pSl 1 (cK .i64) a_1))] (pSl 1 (cK .i64) a_1) true, Ent.mk [(3, (pEq (.int .i64 a_3)))] (pEq (.int .i64 a_3)) true, Ent.mk [(24, (pSl 1 (cK .i64) a_1)), (25, (pEq (.int .i64 a_3)))] (pPtr ((cK .i64) x9)) true, Ent.mk [(26, (pPtr ((cK .i64) x9)))] (pEq (.int .i64 x9)) true, Ent.mk [(23, (pEq (.int .i64 x8))), (27, (pEq (.int .i64 x9)))] (pEq (.int .i64 (w64 (x8 - x9)))) true, Ent.mk [(28, (pEq (.int .i64 (w64 (x8 - x9)))))] (pEq (.int .i64 x10)) true]) (done := []) hD ⟨.inr ⟨(OpJ.w (J_move rfl (Opd.tmp rfl))), ⟨rfl, trivial⟩, rfl, rfl⟩, ⟨.inr ⟨(OpJ.w (J_move rfl (Opd.tmp rfl))), ⟨rfl, trivial⟩, rfl, rfl⟩, ⟨.inr ⟨(OpJ.w (J_idx rfl Tryd.underlying22 sz2 (Opd.tmp rfl) (Opd.tmp rfl) hx8)), ⟨rfl, rfl, trivial⟩, rfl, rfl⟩, ⟨.inr ⟨(OpJ.w (J_load rfl Tryd.isAgg2 (Opd.tmp rfl))), ⟨rfl, trivial⟩, rfl, rfl⟩, ⟨.inr ⟨(OpJ.w (J_move rfl (Opd.tmp rfl))), ⟨rfl, trivial⟩, rfl, rfl⟩, ⟨.inr ⟨(OpJ.w (J_move rfl (Opd.tmp rfl))), ⟨rfl, trivial⟩, rfl, rfl⟩, ⟨.inr ⟨(OpJ.w (J_idx rfl Tryd.underlying22 sz2 (Opd.tmp rfl) (Opd.tmp rfl) hx9)), ⟨rfl, rfl, trivial⟩, rfl, rfl⟩, ⟨.inr ⟨(OpJ.w (J_load rfl Tryd.isAgg2 (Opd.tmp rfl))), ⟨rfl, trivial⟩, rfl, rfl⟩, ⟨.inr ⟨(OpJ.w (J_bin rfl (Opd.tmp rfl) (Opd.tmp rfl) B_sub)), ⟨rfl, rfl, trivial⟩, rfl, rfl⟩, ⟨.inr ⟨(OpJ.w (J_call rfl Tryd.call73 (c_impl_abs hx10) (Opds.cons (Opd.tmp rfl) Opds.nil))), ⟨rfl, trivial⟩, rfl, rfl⟩, trivial⟩⟩⟩⟩⟩⟩⟩⟩⟩⟩ ?_
      refine RegL.pure (p := (pEq (.int .i64 x10))) rfl rfl rfl (J_assign rfl (Opd.tmp rfl)) ?_
      refine RegL.nil ?_
      refine Ct.then_tr ?_
      refine Tr.weak (Γ' := [(0, (pSl 1 (cK .i64) a_0)), (1, (pSl 1 (cK .i64) a_1)), (2, (pSl 1 (cK .i64) a_2)), (3, (pEq (.int .i64 a_3))), (9, (pEq (.slice g6.1 g6.2.1 g6.2.2))), (10, (pEq (.int .i64 v4))), (11, (pEq (.int .i64 x7))), (12, (pEq (.int .i64 x10))), (13, (pSl 1 (cK .i64) a_0)), (14, (pEq (.int .i64 (a_0.length : Int)))), (15, (pEq (.int .i64 v4))), (80009, (pFact (v5 = [] → g6.1 = none))), (99999, (pTab 1 .u64 Lib.pow10Tab))]) ⟨rfl, rfl, rfl, rfl, rfl, rfl, rfl, rfl, rfl, rfl, rfl, rfl, rfl, trivial⟩ ?_
      refine Tr.seq ?_
      replace h := bind_some h; obtain ⟨x11, hx11, h⟩ := h
      refine Tr.cut (γ := Unit) (Γm := fun g => [(0, (pSl 1 (cK .i64) a_0)), (1, (pSl 1 (cK .i64) a_1)), (2, (pSl 1 (cK .i64) a_2)), (3, (pEq (.int .i64 a_3))), (9, (pEq (.slice g6.1 g6.2.1 g6.2.2))), (11, (pEq (.int .i64 x7))), (12, (pEq (.int .i64 x10))), (13, (pSl 1 (cK .i64) a_0)), (14, (pEq (.int .i64 (a_0.length : Int)))), (15, (pEq (.int .i64 v4))), (44, (pEq (.bool x11))), (80009, (pFact (v5 = [] → g6.1 = none))), (99999, (pTab 1 .u64 Lib.pow10Tab))]) (Ωm := fun g => [oSl 2 1 (cK .i64) g6.1 g6.2.1 g6.2.2 v5]) ?_ (fun g16 => ?_)
      · clear h
        have h := hx11
        clear hx11
        refine Tr.region ?_
        refine RegL.pure (p := (pEq (.int .i64 v4))) rfl rfl rfl (J_move rfl (Opd.tmp rfl)) ?_
        refine RegL.pure (p := (pEq (.int .i64 a_3))) rfl rfl rfl (J_move rfl (Opd.tmp rfl)) ?_
        refine RegL.pure (p := (pEq (.bool (v4 != a_3)))) rfl rfl rfl (J_bin rfl (Opd.tmp rfl) (Opd.tmp rfl) B_neq) ?_
        refine RegL.pure (p := (pEq (.bool (v4 != a_3)))) rfl rfl rfl (J_move rfl (Opd.tmp rfl)) ?_
        rcases Bool.eq_false_or_eq_true (v4 != a_3) with hc12 | hc12
        · replace h := bif_t hc12 h
          refine RegL.pureG (p := (pSl 1 (cK .i64) a_1)) rfl rfl rfl hc12 rfl rfl (J_move rfl (Opd.tmp rfl)) ?_
          refine RegL.pureG (p := (pEq (.int .i64 v4))) rfl rfl rfl hc12 rfl rfl (J_move rfl (Opd.tmp rfl)) ?_
          replace h := bind_some h; obtain ⟨x13, hx13, h⟩ := h
          refine RegL.pureG (p := (pPtr ((cK .i64) x13))) rfl rfl rfl hc12 rfl rfl (J_idx rfl Tryd.underlying22 sz2 (Opd.tmp rfl) (Opd.tmp rfl) hx13) ?_
          refine RegL.pureG (p := (pEq (.int .i64 x13))) rfl rfl rfl hc12 rfl rfl (J_load rfl Tryd.isAgg2 (Opd.tmp rfl)) ?_
          refine RegL.pureG (p := (pEq (.bool (decide ((0 : Int) ≤ x13))))) rfl rfl rfl hc12 rfl rfl (J_bin rfl (Opd.tmp rfl) Opd.con B_geq) ?_
          refine RegL.pure (p := (pEq (.bool (decide ((0 : Int) ≤ x13))))) rfl rfl rfl (J_pick rfl (Opd.tmp rfl) (fun _ => (Opd.tmp rfl)) (fun hf => absurd (hc12.symm.trans hf) (by decide))) ?_
          refine RegL.pure (p := (pEq (.bool (decide ((0 : Int) ≤ x13))))) rfl rfl rfl (J_move rfl (Opd.tmp rfl)) ?_
          rcases Bool.eq_false_or_eq_true (decide ((0 : Int) ≤ x13)) with hc14 | hc14
          · replace h := bif_t hc14 h
            refine RegL.pureG (p := (pSl 1 (cK .i64) a_2)) rfl rfl rfl hc14 rfl rfl (J_move rfl (Opd.tmp rfl)) ?_
            refine RegL.pureG (p := (pEq (.int .i64 x10))) rfl rfl rfl hc14 rfl rfl (J_move rfl (Opd.tmp rfl)) ?_
            replace h := bind_some h; obtain ⟨x15, hx15, h⟩ := h
            refine RegL.pureG (p := (pEq (.bool x15))) rfl rfl rfl hc14 rfl rfl (J_call rfl Tryd.call43 (c_impl_indexValid_int64 hx15) (Opds.cons (Opd.tmp rfl) (Opds.cons (Opd.tmp rfl) Opds.nil))) ?_
            refine RegL.pure (p := (pEq (.bool x15))) rfl rfl rfl (J_pick rfl (Opd.tmp rfl) (fun _ => (Opd.tmp rfl)) (fun hf => absurd (hc14.symm.trans hf) (by decide))) ?_
            refine RegL.nil ?_
            replace h := Option.some.inj h; subst h
            exact Ct.mid () rfl ⟨rfl, rfl, rfl, rfl, rfl, rfl, rfl, rfl, rfl, rfl, rfl, rfl, rfl, trivial⟩
          · replace h := bif_f hc14 h
            refine RegL.skipG rfl rfl rfl hc14 rfl rfl ?_
            refine RegL.skipG rfl rfl rfl hc14 rfl rfl ?_
            refine RegL.skipG rfl rfl rfl hc14 rfl rfl ?_
            refine RegL.pure (p := (pEq (.bool false))) rfl rfl rfl (J_pick rfl (Opd.tmp rfl) (fun hf => absurd (hc14.symm.trans hf) (by decide)) (fun _ => Opd.con)) ?_
            refine RegL.nil ?_
            replace h := Option.some.inj h; subst h
            exact Ct.mid () rfl ⟨rfl, rfl, rfl, rfl, rfl, rfl, rfl, rfl, rfl, rfl, rfl, rfl, rfl, trivial⟩
        · replace h := bif_f hc12 h
          refine RegL.skipG rfl rfl rfl hc12 rfl rfl ?_
          refine RegL.skipG rfl rfl rfl hc12 rfl rfl ?_
          refine RegL.skipG rfl rfl rfl hc12 rfl rfl ?_
          refine RegL.skipG rfl rfl rfl hc12 rfl rfl ?_
          refine RegL.skipG rfl rfl rfl hc12 rfl rfl ?_
          refine RegL.pure (p := (pEq (.bool false))) rfl rfl rfl (J_pick rfl (Opd.tmp rfl) (fun hf => absurd (hc12.symm.trans hf) (by decide)) (fun _ => Opd.con)) ?_
          refine RegL.pure (p := (pEq (.bool false))) rfl rfl rfl (J_move rfl (Opd.tmp rfl)) ?_
          refine RegL.skipG rfl rfl rfl rfl rfl rfl ?_
          refine RegL.skipG rfl rfl rfl rfl rfl rfl ?_
          refine RegL.skipG rfl rfl rfl rfl rfl rfl ?_
          refine RegL.pure (p := (pEq (.bool false))) rfl rfl rfl (J_pick rfl (Opd.tmp rfl) (fun hf => absurd hf (by decide)) (fun _ => Opd.con)) ?_
          refine RegL.nil ?_
          replace h := Option.some.inj h; subst h
          exact Ct.mid () rfl ⟨rfl, rfl, rfl, rfl, rfl, rfl, rfl, rfl, rfl, rfl, rfl, rfl, rfl, trivial⟩
      · clear hx11
        refine Ct.then_tr ?_
        refine Tr.weak (Γ' := [(0, (pSl 1 (cK .i64) a_0)), (1, (pSl 1 (cK .i64) a_1)), (2, (pSl 1 (cK .i64) a_2)), (3, (pEq (.int .i64 a_3))), (9, (pEq (.slice g6.1 g6.2.1 g6.2.2))), (11, (pEq (.int .i64 x7))), (12, (pEq (.int .i64 x10))), (13, (pSl 1 (cK .i64) a_0)), (14, (pEq (.int .i64 (a_0.length : Int)))), (15, (pEq (.int .i64 v4))), (44, (pEq (.bool x11))), (80009, (pFact (v5 = [] → g6.1 = none))), (99999, (pTab 1 .u64 Lib.pow10Tab))]) ⟨rfl, rfl, rfl, rfl, rfl, rfl, rfl, rfl, rfl, rfl, rfl, rfl, rfl, trivial⟩ ?_
        replace h := bind_some h; obtain ⟨x17, hx17, h⟩ := h
        refine Tr.cut (γ := G3) (Γm := fun g => [(0, (pSl 1 (cK .i64) a_0)), (1, (pSl 1 (cK .i64) a_1)), (2, (pSl 1 (cK .i64) a_2)), (3, (pEq (.int .i64 a_3))), (9, (pEq (.slice g.1 g.2.1 g.2.2))), (13, (pSl 1 (cK .i64) a_0)), (14, (pEq (.int .i64 (a_0.length : Int)))), (15, (pEq (.int .i64 v4))), (80009, (pFact (x17 = [] → g.1 = none))), (99999, (pTab 1 .u64 Lib.pow10Tab))]) (Ωm := fun g => [oSl 2 1 (cK .i64) g.1 g.2.1 g.2.2 x17]) ?_ (fun g21 => ?_)
        · clear h
          have h := hx17
          clear hx17
          refine Tr.cond (Opd.tmp rfl) (fun hc => ?_) (fun hc => ?_)
          · replace h := bif_t hc h
            refine Tr.region ?_
            refine RegL.pure (p := (pEq (.slice g6.1 g6.2.1 g6.2.2))) rfl rfl rfl (J_move rfl (Opd.tmp rfl)) ?_
            refine RegL.pure (p := (pEq (.int .i64 x7))) rfl rfl rfl (J_move rfl (Opd.tmp rfl)) ?_
            refine RegL.pure (p := (pSl 1 (cK .i64) a_2)) rfl rfl rfl (J_move rfl (Opd.tmp rfl)) ?_
            refine RegL.pure (p := (pEq (.int .i64 x10))) rfl rfl rfl (J_move rfl (Opd.tmp rfl)) ?_
            replace h := bind_some h; obtain ⟨x18, hx18, h⟩ := h
            refine RegL.pure (p := (pPtr ((cK .i64) x18))) rfl rfl rfl (J_idx rfl Tryd.underlying22 sz2 (Opd.tmp rfl) (Opd.tmp rfl) hx18) ?_
            refine RegL.pure (p := (pEq (.int .i64 x18))) rfl rfl rfl (J_load rfl Tryd.isAgg2 (Opd.tmp rfl)) ?_
            refine RegL.pure (p := (pEq (.int .i64 (w64 (x7 - x18))))) rfl rfl rfl (J_bin rfl (Opd.tmp rfl) (Opd.tmp rfl) B_sub) ?_
            refine RegL.pure (p := (pEq (.int .i64 (if (-300000 : Int) > (w64 (x7 - x18)) then (-300000 : Int) else (w64 (x7 - x18)))))) rfl rfl rfl (J_max2 rfl (Opd.tmp rfl) Opd.con) ?_
            refine RegL.pure (p := (pSl 1 (cK .i64) ([(if (-300000 : Int) > (w64 (x7 - x18)) then (-300000 : Int) else (w64 (x7 - x18)))] : (List Int)))) rfl rfl rfl (J_buildSlice (l := ([(if (-300000 : Int) > (w64 (x7 - x18)) then (-300000 : Int) else (w64 (x7 - x18)))] : (List Int))) (qss := [(0, (cK .i64) (if (-300000 : Int) > (w64 (x7 - x18)) then (-300000 : Int) else (w64 (x7 - x18))))]) rfl Tryd.underlying22 el2 rfl (Parts.cons (Part.one (Opd.tmp rfl) OneC.int) Parts.nil) rfl rfl) ?_
            replace h := bind_some h; obtain ⟨x19, hx19, h⟩ := h
            refine RegL.step (γ := Option Addr × Nat) (p := fun g => pEq (.slice g.1 x19.length g.2)) (Ω' := fun g => [oSl 2 1 (cK .i64) g.1 x19.length g.2 x19]) rfl rfl rfl (M_appendI rfl Tryd.underlying22 el2 (Opd.tmp rfl) (Opd.tmp rfl) hx19) fun g20 => ?_
            refine RegL.fact (φ := (x19 = [] → g20.1 = none)) 80009 (app_ne (a := g20.1) hx19) ?_
            refine RegL.pure (p := (pEq (.slice g20.1 x19.length g20.2))) rfl rfl rfl (J_assign rfl (Opd.tmp rfl)) ?_
            refine RegL.nil ?_
            replace h := Option.some.inj h; subst h
            exact Ct.mid (g20.1, x19.length, g20.2) rfl ⟨rfl, rfl, rfl, rfl, rfl, rfl, rfl, rfl, rfl, rfl, trivial⟩
          · replace h := bif_f hc h
            refine Tr.skip ?_
            replace h := Option.some.inj h; subst h
            exact Ct.mid (g6.1, g6.2.1, g6.2.2) rfl ⟨rfl, rfl, rfl, rfl, rfl, rfl, rfl, rfl, rfl, rfl, trivial⟩
        · clear hx17
          refine Ct.blk_normal ?_
          refine Ct.then_tr ?_
          refine Tr.weak (Γ' := [(0, (pSl 1 (cK .i64) a_0)), (1, (pSl 1 (cK .i64) a_1)), (2, (pSl 1 (cK .i64) a_2)), (3, (pEq (.int .i64 a_3))), (9, (pEq (.slice g21.1 g21.2.1 g21.2.2))), (13, (pSl 1 (cK .i64) a_0)), (14, (pEq (.int .i64 (a_0.length : Int)))), (15, (pEq (.int .i64 v4))), (80009, (pFact (x17 = [] → g21.1 = none))), (99999, (pTab 1 .u64 Lib.pow10Tab))]) ⟨rfl, rfl, rfl, rfl, rfl, rfl, rfl, rfl, rfl, rfl, trivial⟩ ?_
          refine Tr.region ?_
          refine RegL.pure (p := (pEq (.int .i64 (w64 (v4 + (1 : Int)))))) rfl rfl rfl (J_bin rfl (Opd.tmp rfl) Opd.con B_add) ?_
          refine RegL.pure (p := (pEq (.int .i64 (w64 (v4 + (1 : Int)))))) rfl rfl rfl (J_move rfl (Opd.tmp rfl)) ?_
          refine RegL.nil ?_
          replace h := Option.some.inj h; subst h
          exact Ct.again (g21.1, g21.2.1, g21.2.2) rfl ⟨rfl, rfl, rfl, rfl, rfl, rfl, rfl, rfl, rfl, rfl, trivial⟩
    · replace h := bif_f hc h
      refine Tr.exit ?_
      refine Ct.then_exit ?_
      replace h := map_some h; obtain ⟨r1, h, rfl⟩ := h
      refine Ct.out_exit fun e => ?_
      subst e
      refine Ct.blk_exit ?_
      replace h := Option.some.inj h; subst h
      exact Ct.mid (g6.1, g6.2.1, g6.2.2) rfl ⟨rfl, rfl, rfl, rfl, rfl, trivial⟩
  · clear hx2
    refine Ct.then_tr ?_
    refine Tr.weak (Γ' := [(0, (pSl 1 (cK .i64) a_0)), (3, (pEq (.int .i64 a_3))), (9, (pEq (.slice g22.1 g22.2.1 g22.2.2))), (80009, (pFact (x2 = [] → g22.1 = none))), (99999, (pTab 1 .u64 Lib.pow10Tab))]) ⟨rfl, rfl, rfl, rfl, rfl, trivial⟩ ?_
    refine Tr.seq ?_
    refine Tr.seq ?_
    refine Tr.region ?_
    refine RegL.pure (p := (pEq (.slice g22.1 g22.2.1 g22.2.2))) rfl rfl rfl (J_move rfl (Opd.tmp rfl)) ?_
    refine RegL.pureW (p := (pEq (.bool (x2.isEmpty)))) rfl rfl rfl (W_rowNil (j := 0) 80009 rfl Tryd.underlying22 (Opd.tmp rfl) rfl rfl) ?_
    refine RegL.nil ?_
    refine Ct.then_tr ?_
    refine Tr.weak (Γ' := [(0, (pSl 1 (cK .i64) a_0)), (3, (pEq (.int .i64 a_3))), (9, (pEq (.slice g22.1 g22.2.1 g22.2.2))), (57, (pEq (.bool (x2.isEmpty)))), (80009, (pFact (x2 = [] → g22.1 = none))), (99999, (pTab 1 .u64 Lib.pow10Tab))]) ⟨rfl, rfl, rfl, rfl, rfl, rfl, trivial⟩ ?_
    refine Tr.cond (Opd.tmp rfl) (fun hc => ?_) (fun hc => ?_)
    · replace h := bif_t hc h
      refine Tr.seq ?_
      refine Tr.region ?_
      refine RegL.pure (p := (pEq (.int .i64 (200000 : Int)))) rfl rfl rfl (J_assign rfl Opd.con) ?_
      refine RegL.nil ?_
      refine Ct.then_tr ?_
      refine Tr.weak (Γ' := [(8, (pEq (.int .i64 (200000 : Int)))), (80009, (pFact (x2 = [] → g22.1 = none))), (99999, (pTab 1 .u64 Lib.pow10Tab))]) ⟨rfl, rfl, rfl, trivial⟩ ?_
      refine Tr.ret ?_
      refine Ct.then_ret ?_
      replace h := Option.some.inj h; subst h
      exact Ct.retH1 (Ωx := [oSl 2 1 (cK .i64) g22.1 g22.2.1 g22.2.2 x2]) () rfl (RvOk.tmp rfl) rfl
    · replace h := bif_f hc h
      refine Tr.skip ?_
      refine Ct.then_tr ?_
      refine Tr.weak (Γ' := [(0, (pSl 1 (cK .i64) a_0)), (3, (pEq (.int .i64 a_3))), (9, (pEq (.slice g22.1 g22.2.1 g22.2.2))), (80009, (pFact (x2 = [] → g22.1 = none))), (99999, (pTab 1 .u64 Lib.pow10Tab))]) ⟨rfl, rfl, rfl, rfl, rfl, trivial⟩ ?_
      refine Tr.seq ?_
      replace h := bind_some h; obtain ⟨x23, hx23, h⟩ := h
      replace h := bind_some h; obtain ⟨x24, hx24, h⟩ := h
      refine Tr.drawD (n := 67) (m := 9) (es := [some (Ent.mk [(0, (pSl 1 (cK .i64) a_0))] (pSl 1 (cK .i64) a_0) true), some (Ent.mk [(3, (pEq (.int .i64 a_3)))] (pEq (.int .i64 a_3)) true), some (Ent.mk [(58, (pSl 1 (cK .i64) a_0)), (59, (pEq (.int .i64 a_3)))] (pPtr ((cK .i64) x23)) true), some (Ent.mk [(60, (pPtr ((cK .i64) x23)))] (pEq (.int .i64 x23)) true), some (Ent.mk [(9, (pEq (.slice g22.1 g22.2.1 g22.2.2)))] (pEq (.slice g22.1 g22.2.1 g22.2.2)) true), some (Ent.mk [(62, (pEq (.slice g22.1 g22.2.1 g22.2.2))), (99999, (pTab 1 .u64 Lib.pow10Tab))] (pEq (.int .i64 x24)) true), some (Ent.mk [(61, (pEq (.int .i64 x23))), (63, (pEq (.int .i64 x24)))] (pEq (.int .i64 (w64 (x23 - x24)))) true), some (Ent.mk [(64, (pEq (.int .i64 (w64 (x23 - x24)))))] (pEq (.int .i64 (if (-200000 : Int) > (w64 (x23 - x24)) then (-200000 : Int) else (w64 (x23 - x24))))) true), some (Ent.mk [(65, (pEq (.int .i64 (if (-200000 : Int) > (w64 (x23 - x24)) then (-200000 : Int) else (w64 (x23 - x24))))))] (pEq (.int .i64 (if (200000 : Int) < (if (-200000 : Int) > (w64 (x23 - x24)) then (-200000 : Int) else (w64 (x23 - x24))) then (200000 : Int) else (if (-200000 : Int) > (w64 (x23 - x24)) then (-200000 : Int) else (w64 (x23 - x24)))))) true)]) (rd := [[0], [3], [58, 59], [60], [9], [62, 99999], [61, 63], [64], [65]]) rfl hmix (by kernel_rfl) fun hD => ?_
      refine RD.fin (es := [Ent.mk [(0, (pSl 1 (cK .i64) a_0))] (pSl 1 (cK .i64) a_0) true, Ent.mk [(3, (pEq (.int .i64 a_3)))] (pEq (.int .i64 a_3)) true, Ent.mk [(58, (pSl 1 (cK .i64) a_0)), (59, (pEq (.int .i64 a_3)))] (pPtr ((cK .i64) x23)) true, Ent.mk [(60, (pPtr ((cK .i64) x23)))] (pEq (.int .i64 x23)) true, Ent.mk [(9, (pEq (.slice g22.1 g22.2.1 g22.2.2)))] (pEq (.slice g22.1 g22.2.1 g22.2.2)) true, Ent.mk [(62, (pEq (.slice g22.1 g22.2.1 g22.2.2))), (99999, (pTab 1 .u64 Lib.pow10Tab))] (pEq (.int .i64 x24)) true, Ent.mk [(61, (pEq (.int .i64 x23))), (63, (pEq (.int .i64 x24)))] (pEq (.int .i64 (w64 (x23 - x24)))) true, Ent.mk [(64, (pEq (.int .i64 (w64 (x23 - x24)))))] (pEq (.int .i64 (if (-200000 : Int) > (w64 (x23 - x24)) then (-200000 : Int) else (w64 (x23 - x24))))) true, Ent.mk [(65, (pEq (.int .i64 (if (-200000 : Int) > (w64 (x23 - x24)) then (-200000 : Int) else (w64 (x23 - x24))))))] (pEq (.int .i64 (if (200000 : Int) < (if (-200000 : Int) > (w64 (x23 - x24)) then (-200000 : Int) else (w64 (x23 - x24))) then (200000 : Int) else (if (-200000 : Int) > (w64 (x23 - x24)) then (-200000 : Int) else (w64 (x23 - x24)))))) true]) (done := []) hD ⟨.inr ⟨(OpJ.w (J_move rfl (Opd.tmp rfl))), ⟨rfl, trivial⟩, rfl, rfl⟩, ⟨.inr ⟨(OpJ.w (J_move rfl (Opd.tmp rfl))), ⟨rfl, trivial⟩, rfl, rfl⟩, ⟨.inr ⟨(OpJ.w (J_idx rfl Tryd.underlying22 sz2 (Opd.tmp rfl) (Opd.tmp rfl) hx23)), ⟨rfl, rfl, trivial⟩, rfl, rfl⟩, ⟨.inr ⟨(OpJ.w (J_load rfl Tryd.isAgg2 (Opd.tmp rfl))), ⟨rfl, trivial⟩, rfl, rfl⟩, ⟨.inr ⟨(OpJ.w (J_move rfl (Opd.tmp rfl))), ⟨rfl, trivial⟩, rfl, rfl⟩, ⟨.inr ⟨(W_call rfl Tryd.call74 (c_impl_sumDb hx24) (OpdsA.cons (OpdA.tab (OpdA.conv rfl (Conv.row (f := (cK .i64)) 0 (fun _ => rfl) rfl)) 99999 rfl) OpdsA.nil) FreeP.eq), ⟨rfl, rfl, trivial⟩, rfl, rfl⟩, ⟨.inr ⟨(OpJ.w (J_bin rfl (Opd.tmp rfl) (Opd.tmp rfl) B_sub)), ⟨rfl, rfl, trivial⟩, rfl, rfl⟩, ⟨.inr ⟨(OpJ.w (J_max2 rfl (Opd.tmp rfl) Opd.con)), ⟨rfl, trivial⟩, rfl, rfl⟩, ⟨.inr ⟨(OpJ.w (J_min2 rfl (Opd.tmp rfl) Opd.con)), ⟨rfl, trivial⟩, rfl, rfl⟩, trivial⟩⟩⟩⟩⟩⟩⟩⟩⟩ ?_
      refine RegL.pure (p := (pEq (.int .i64 (if (200000 : Int) < (if (-200000 : Int) > (w64 (x23 - x24)) then (-200000 : Int) else (w64 (x23 - x24))) then (200000 : Int) else (if (-200000 : Int) > (w64 (x23 - x24)) then (-200000 : Int) else (w64 (x23 - x24))))))) rfl rfl rfl (J_assign rfl (Opd.tmp rfl)) ?_
      refine RegL.nil ?_
      refine Ct.then_tr ?_
      refine Tr.weak (Γ' := [(8, (pEq (.int .i64 (if (200000 : Int) < (if (-200000 : Int) > (w64 (x23 - x24)) then (-200000 : Int) else (w64 (x23 - x24))) then (200000 : Int) else (if (-200000 : Int) > (w64 (x23 - x24)) then (-200000 : Int) else (w64 (x23 - x24))))))), (80009, (pFact (x2 = [] → g22.1 = none))), (99999, (pTab 1 .u64 Lib.pow10Tab))]) ⟨rfl, rfl, rfl, trivial⟩ ?_
      refine Tr.ret ?_
      replace h := Option.some.inj h; subst h
      exact Ct.retH1 (Ωx := [oSl 2 1 (cK .i64) g22.1 g22.2.1 g22.2.2 x2]) () rfl (RvOk.tmp rfl) rfl

theorem c_impl_WorstRatio {rows_0 : (List (List Int))} {channels_1 : (List Int)} {table_2 : (List Int)} {r : (Int × Int × Int)} (h : m_impl_WorstRatio rows_0 channels_1 table_2 = some r) : CallJ Tryd.prog 16 [(pG (pTab 1 .u64 Lib.pow10Tab) (pSl 1 (cSl 1 (cK .i64)) rows_0)), (pSl 1 (cK .i64) channels_1), (pSl 1 (cK .i64) table_2)] (pTup [(pEq (.int .i64 r.1)), (pEq (.int .i64 r.2.1)), (pEq (.int .i64 r.2.2))]) := by
  unfold m_impl_WorstRatio at h
  refine CallJ.enterH Tryd.func16 rfl Tryd.ntmps16 rfl fun W I0 H => ?_
  refine Tr.tab (s := 0) (k := 99999) rfl ?_; refine Tr.weak (Γ' := [(0, (pSl 1 (cSl 1 (cK .i64)) rows_0)), (1, (pSl 1 (cK .i64) channels_1)), (2, (pSl 1 (cK .i64) table_2)), (99999, (pTab 1 .u64 Lib.pow10Tab))]) ⟨rfl, rfl, rfl, rfl, trivial⟩ ?_
  refine Tr.seq ?_
  refine Tr.region ?_
  refine RegL.pure (p := (pEq (.int .i64 (0 : Int)))) rfl rfl rfl (J_assign rfl Opd.con) ?_
  refine RegL.pure (p := (pEq (.int .i64 (0 : Int)))) rfl rfl rfl (J_assign rfl Opd.con) ?_
  refine RegL.pure (p := (pEq (.int .i64 (0 : Int)))) rfl rfl rfl (J_assign rfl Opd.con) ?_
  refine RegL.nil ?_
  refine Ct.then_tr ?_
  refine Tr.weak (Γ' := [(0, (pSl 1 (cSl 1 (cK .i64)) rows_0)), (1, (pSl 1 (cK .i64) channels_1)), (2, (pSl 1 (cK .i64) table_2)), (99999, (pTab 1 .u64 Lib.pow10Tab))]) ⟨rfl, rfl, rfl, rfl, trivial⟩ ?_
  refine Tr.seq ?_
  refine Tr.seq ?_
  replace h := bind_some h; obtain ⟨x1, hx1, h⟩ := h
  refine Tr.cut (γ := Unit) (Γm := fun g => [(0, (pSl 1 (cSl 1 (cK .i64)) rows_0)), (1, (pSl 1 (cK .i64) channels_1)), (2, (pSl 1 (cK .i64) table_2)), (31, (pEq (.bool x1))), (99999, (pTab 1 .u64 Lib.pow10Tab))]) (Ωm := fun g => []) ?_ (fun g8 => ?_)
  · clear h
    have h := hx1
    clear hx1
    refine Tr.region ?_
    refine RegL.pure (p := (pSl 1 (cSl 1 (cK .i64)) rows_0)) rfl rfl rfl (J_move rfl (Opd.tmp rfl)) ?_
    replace h := bind_some h; obtain ⟨x2, hx2, h⟩ := h
    refine RegL.pure (p := (pEq (.bool x2))) rfl rfl rfl (J_call rfl Tryd.call48 (c_impl_ValidRows hx2) (Opds.cons (Opd.tmp rfl) Opds.nil)) ?_
    refine RegL.pure (p := (pEq (.bool (!x2)))) rfl rfl rfl (J_not rfl (Opd.tmp rfl)) ?_
    refine RegL.pure (p := (pEq (.bool (!x2)))) rfl rfl rfl (J_move rfl (Opd.tmp rfl)) ?_
    rcases Bool.eq_false_or_eq_true (!x2) with hc3 | hc3
    · replace h := bif_t hc3 h
      refine RegL.skipG rfl rfl rfl hc3 rfl rfl ?_
      refine RegL.skipG rfl rfl rfl hc3 rfl rfl ?_
      refine RegL.skipG rfl rfl rfl hc3 rfl rfl ?_
      refine RegL.pure (p := (pEq (.bool true))) rfl rfl rfl (J_pick rfl (Opd.tmp rfl) (fun _ => Opd.con) (fun hf => absurd (hc3.symm.trans hf) (by decide))) ?_
      refine RegL.pure (p := (pEq (.bool true))) rfl rfl rfl (J_move rfl (Opd.tmp rfl)) ?_
      refine RegL.skipG rfl rfl rfl rfl rfl rfl ?_
      refine RegL.skipG rfl rfl rfl rfl rfl rfl ?_
      refine RegL.skipG rfl rfl rfl rfl rfl rfl ?_
      refine RegL.skipG rfl rfl rfl rfl rfl rfl ?_
      refine RegL.skipG rfl rfl rfl rfl rfl rfl ?_
      refine RegL.skipG rfl rfl rfl rfl rfl rfl ?_
      refine RegL.skipG rfl rfl rfl rfl rfl rfl ?_
      refine RegL.pure (p := (pEq (.bool true))) rfl rfl rfl (J_pick rfl (Opd.tmp rfl) (fun _ => Opd.con) (fun hf => absurd hf (by decide))) ?_
      refine RegL.nil ?_
      replace h := Option.some.inj h; subst h
      exact Ct.mid () rfl ⟨rfl, rfl, rfl, rfl, rfl, trivial⟩
    · replace h := bif_f hc3 h
      refine RegL.pureG (p := (pSl 1 (cK .i64) table_2)) rfl rfl rfl hc3 rfl rfl (J_move rfl (Opd.tmp rfl)) ?_
      replace h := bind_some h; obtain ⟨x4, hx4, h⟩ := h
      refine RegL.pureG (p := (pEq (.bool x4))) rfl rfl rfl hc3 rfl rfl (J_call rfl Tryd.call41 (c_impl_tableOk hx4) (Opds.cons (Opd.tmp rfl) Opds.nil)) ?_
      refine RegL.pureG (p := (pEq (.bool (!x4)))) rfl rfl rfl hc3 rfl rfl (J_not rfl (Opd.tmp rfl)) ?_
      refine RegL.pure (p := (pEq (.bool (!x4)))) rfl rfl rfl (J_pick rfl (Opd.tmp rfl) (fun hf => absurd (hc3.symm.trans hf) (by decide)) (fun _ => (Opd.tmp rfl))) ?_
      refine RegL.pure (p := (pEq (.bool (!x4)))) rfl rfl rfl (J_move rfl (Opd.tmp rfl)) ?_
      rcases Bool.eq_false_or_eq_true (!x4) with hc5 | hc5
      · replace h := bif_t hc5 h
        refine RegL.skipG rfl rfl rfl hc5 rfl rfl ?_
        refine RegL.skipG rfl rfl rfl hc5 rfl rfl ?_
        refine RegL.skipG rfl rfl rfl hc5 rfl rfl ?_
        refine RegL.skipG rfl rfl rfl hc5 rfl rfl ?_
        refine RegL.skipG rfl rfl rfl hc5 rfl rfl ?_
        refine RegL.skipG rfl rfl rfl hc5 rfl rfl ?_
        refine RegL.skipG rfl rfl rfl hc5 rfl rfl ?_
        refine RegL.pure (p := (pEq (.bool true))) rfl rfl rfl (J_pick rfl (Opd.tmp rfl) (fun _ => Opd.con) (fun hf => absurd (hc5.symm.trans hf) (by decide))) ?_
        refine RegL.nil ?_
        replace h := Option.some.inj h; subst h
        exact Ct.mid () rfl ⟨rfl, rfl, rfl, rfl, rfl, trivial⟩
      · replace h := bif_f hc5 h
        refine RegL.pureG (p := (pSl 1 (cK .i64) channels_1)) rfl rfl rfl hc5 rfl rfl (J_move rfl (Opd.tmp rfl)) ?_
        refine RegL.pureG (p := (pSl 1 (cSl 1 (cK .i64)) rows_0)) rfl rfl rfl hc5 rfl rfl (J_move rfl (Opd.tmp rfl)) ?_
        replace h := bind_some h; obtain ⟨x6, hx6, h⟩ := h
        refine RegL.pureG (p := (pPtr ((cSl 1 (cK .i64)) x6))) rfl rfl rfl hc5 rfl rfl (J_idx rfl Tryd.underlying28 sz22 (Opd.tmp rfl) Opd.con hx6) ?_
        refine RegL.pureG (p := (pSl 1 (cK .i64) x6)) rfl rfl rfl hc5 rfl rfl (J_load rfl Tryd.isAgg22 (Opd.tmp rfl)) ?_
        refine RegL.pureG (p := (pEq (.int .i64 (x6.length : Int)))) rfl rfl rfl hc5 rfl rfl (J_len rfl Tryd.underlying22 (Opd.tmp rfl) rfl) ?_
        replace h := bind_some h; obtain ⟨x7, hx7, h⟩ := h
        refine RegL.pureG (p := (pEq (.bool x7))) rfl rfl rfl hc5 rfl rfl (J_call rfl Tryd.call42 (c_impl_channelsOk hx7) (Opds.cons (Opd.tmp rfl) (Opds.cons (Opd.tmp rfl) Opds.nil))) ?_
        refine RegL.pureG (p := (pEq (.bool (!x7)))) rfl rfl rfl hc5 rfl rfl (J_not rfl (Opd.tmp rfl)) ?_
        refine RegL.pure (p := (pEq (.bool (!x7)))) rfl rfl rfl (J_pick rfl (Opd.tmp rfl) (fun hf => absurd (hc5.symm.trans hf) (by decide)) (fun _ => (Opd.tmp rfl))) ?_
        refine RegL.nil ?_
        replace h := Option.some.inj h; subst h
        exact Ct.mid () rfl ⟨rfl, rfl, rfl, rfl, rfl, trivial⟩
  · clear hx1
    refine Ct.then_tr ?_
    refine Tr.weak (Γ' := [(0, (pSl 1 (cSl 1 (cK .i64)) rows_0)), (1, (pSl 1 (cK .i64) channels_1)), (2, (pSl 1 (cK .i64) table_2)), (31, (pEq (.bool x1))), (99999, (pTab 1 .u64 Lib.pow10Tab))]) ⟨rfl, rfl, rfl, rfl, rfl, trivial⟩ ?_
    refine Tr.cond (Opd.tmp rfl) (fun hc => ?_) (fun hc => ?_)
    · replace h := bif_t hc h
      refine Tr.seq ?_
      refine Tr.region ?_
      refine RegL.pure (p := (pEq (.int .i64 (0 : Int)))) rfl rfl rfl (J_assign rfl Opd.con) ?_
      refine RegL.pure (p := (pEq (.int .i64 (0 : Int)))) rfl rfl rfl (J_assign rfl Opd.con) ?_
      refine RegL.pure (p := (pEq (.int .i64 (1 : Int)))) rfl rfl rfl (J_assign rfl Opd.con) ?_
      refine RegL.nil ?_
      refine Ct.then_tr ?_
      refine Tr.weak (Γ' := [(6, (pEq (.int .i64 (0 : Int)))), (7, (pEq (.int .i64 (0 : Int)))), (8, (pEq (.int .i64 (1 : Int)))), (99999, (pTab 1 .u64 Lib.pow10Tab))]) ⟨rfl, rfl, rfl, rfl, trivial⟩ ?_
      refine Tr.ret ?_
      refine Ct.then_ret ?_
      replace h := Option.some.inj h; subst h
      exact Ct.retH3 (Ωx := []) () rfl (RvOk.tmp rfl) (RvOk.tmp rfl) (RvOk.tmp rfl) rfl rfl
    · replace h := bif_f hc h
      refine Tr.skip ?_
      refine Ct.then_tr ?_
      refine Tr.weak (Γ' := [(0, (pSl 1 (cSl 1 (cK .i64)) rows_0)), (1, (pSl 1 (cK .i64) channels_1)), (2, (pSl 1 (cK .i64) table_2)), (99999, (pTab 1 .u64 Lib.pow10Tab))]) ⟨rfl, rfl, rfl, rfl, trivial⟩ ?_
      refine Tr.seq ?_
      refine Tr.region ?_
      refine RegL.pure (p := (pEq (.int .i64 (-1 : Int)))) rfl rfl rfl (J_assign rfl Opd.con) ?_
      refine RegL.pure (p := (pEq (.int .i64 (0 : Int)))) rfl rfl rfl (J_assign rfl Opd.con) ?_
      refine RegL.nil ?_
      refine Ct.then_tr ?_
      refine Tr.weak (Γ' := [(0, (pSl 1 (cSl 1 (cK .i64)) rows_0)), (1, (pSl 1 (cK .i64) channels_1)), (2, (pSl 1 (cK .i64) table_2)), (9, (pEq (.int .i64 (-1 : Int)))), (10, (pEq (.int .i64 (0 : Int)))), (99999, (pTab 1 .u64 Lib.pow10Tab))]) ⟨rfl, rfl, rfl, rfl, rfl, rfl, trivial⟩ ?_
      refine Tr.seq ?_
      refine Tr.seq ?_
      refine Tr.region ?_
      refine RegL.pure (p := (pSl 1 (cSl 1 (cK .i64)) rows_0)) rfl rfl rfl (J_move rfl (Opd.tmp rfl)) ?_
      refine RegL.pure (p := (pEq (.int .i64 (rows_0.length : Int)))) rfl rfl rfl (J_len rfl Tryd.underlying28 (Opd.tmp rfl) rfl) ?_
      refine RegL.pure (p := (pEq (.int .i64 (0 : Int)))) rfl rfl rfl (J_move rfl Opd.con) ?_
      refine RegL.nil ?_
      refine Ct.then_tr ?_
      refine Tr.weak (Γ' := [(1, (pSl 1 (cK .i64) channels_1)), (2, (pSl 1 (cK .i64) table_2)), (9, (pEq (.int .i64 (-1 : Int)))), (10, (pEq (.int .i64 (0 : Int)))), (32, (pSl 1 (cSl 1 (cK .i64)) rows_0)), (33, (pEq (.int .i64 (rows_0.length : Int)))), (34, (pEq (.int .i64 (0 : Int)))), (99999, (pTab 1 .u64 Lib.pow10Tab))]) ⟨rfl, rfl, rfl, rfl, rfl, rfl, rfl, rfl, trivial⟩ ?_
      refine Tr.block ?_
      refine Tr.weak (Γ' := [(1, (pSl 1 (cK .i64) channels_1)), (2, (pSl 1 (cK .i64) table_2)), (9, (pEq (.int .i64 (-1 : Int)))), (10, (pEq (.int .i64 (0 : Int)))), (32, (pSl 1 (cSl 1 (cK .i64)) rows_0)), (33, (pEq (.int .i64 (rows_0.length : Int)))), (34, (pEq (.int .i64 (0 : Int)))), (99999, (pTab 1 .u64 Lib.pow10Tab))]) ⟨rfl, rfl, rfl, rfl, rfl, rfl, rfl, rfl, trivial⟩ ?_
      refine Tr.loop (γ := Unit) (σ := (Int × Int × Int)) (Γσ := fun s g => [(1, (pSl 1 (cK .i64) channels_1)), (2, (pSl 1 (cK .i64) table_2)), (9, (pEq (.int .i64 s.1))), (10, (pEq (.int .i64 s.2.1))), (32, (pSl 1 (cSl 1 (cK .i64)) rows_0)), (33, (pEq (.int .i64 (rows_0.length : Int)))), (34, (pEq (.int .i64 s.2.2))), (99999, (pTab 1 .u64 Lib.pow10Tab))]) (Ωσ := fun s g => []) (g := ()) h ?_
      clear h
      rintro ⟨v10, v11, v12⟩ g13 t h
      replace h : m_impl_WorstRatio_B9 rows_0 channels_1 table_2 v10 v11 v12 = some t := h
      unfold m_impl_WorstRatio_B9 at h
      refine Tr.weakO (Γ' := [(1, (pSl 1 (cK .i64) channels_1)), (2, (pSl 1 (cK .i64) table_2)), (9, (pEq (.int .i64 v10))), (10, (pEq (.int .i64 v11))), (32, (pSl 1 (cSl 1 (cK .i64)) rows_0)), (33, (pEq (.int .i64 (rows_0.length : Int)))), (34, (pEq (.int .i64 v12))), (99999, (pTab 1 .u64 Lib.pow10Tab))]) (Ω' := []) rfl ⟨rfl, rfl, rfl, rfl, rfl, rfl, rfl, rfl, trivial⟩ ?_
      refine Tr.seq ?_
      refine Tr.region ?_
      refine RegL.pure (p := (pEq (.bool (decide (v12 < (rows_0.length : Int)))))) rfl rfl rfl (J_bin rfl (Opd.tmp rfl) (Opd.tmp rfl) B_lss) ?_
      refine RegL.nil ?_
      refine Ct.then_tr ?_
      refine Tr.weak (Γ' := [(1, (pSl 1 (cK .i64) channels_1)), (2, (pSl 1 (cK .i64) table_2)), (9, (pEq (.int .i64 v10))), (10, (pEq (.int .i64 v11))), (32, (pSl 1 (cSl 1 (cK .i64)) rows_0)), (33, (pEq (.int .i64 (rows_0.length : Int)))), (34, (pEq (.int .i64 v12))), (35, (pEq (.bool (decide (v12 < (rows_0.length : Int)))))), (99999, (pTab 1 .u64 Lib.pow10Tab))]) ⟨rfl, rfl, rfl, rfl, rfl, rfl, rfl, rfl, rfl, trivial⟩ ?_
      refine Tr.seq ?_
      refine Tr.cond (Opd.tmp rfl) (fun hc => ?_) (fun hc => ?_)
      · replace h := bif_t hc h
        refine Tr.skip ?_
        refine Ct.then_tr ?_
        refine Tr.weak (Γ' := [(1, (pSl 1 (cK .i64) channels_1)), (2, (pSl 1 (cK .i64) table_2)), (9, (pEq (.int .i64 v10))), (10, (pEq (.int .i64 v11))), (32, (pSl 1 (cSl 1 (cK .i64)) rows_0)), (33, (pEq (.int .i64 (rows_0.length : Int)))), (34, (pEq (.int .i64 v12))), (99999, (pTab 1 .u64 Lib.pow10Tab))]) ⟨rfl, rfl, rfl, rfl, rfl, rfl, rfl, rfl, trivial⟩ ?_
        refine Tr.seq ?_
        refine Tr.block ?_
        refine Tr.seq ?_
        refine Tr.region ?_
        refine RegL.pure (p := (pEq (.int .i64 v12))) rfl rfl rfl (J_move rfl (Opd.tmp rfl)) ?_
        replace h := bind_some h; obtain ⟨x14, hx14, h⟩ := h
        refine RegL.pure (p := (pPtr ((cSl 1 (cK .i64)) x14))) rfl rfl rfl (J_idx rfl Tryd.underlying28 sz22 (Opd.tmp rfl) (Opd.tmp rfl) hx14) ?_
        refine RegL.pure (p := (pSl 1 (cK .i64) x14)) rfl rfl rfl (J_load rfl Tryd.isAgg22 (Opd.tmp rfl)) ?_
        refine RegL.pure (p := (pEq (.int .i64 v12))) rfl rfl rfl (J_assign rfl (Opd.tmp rfl)) ?_
        refine RegL.pure (p := (pSl 1 (cK .i64) x14)) rfl rfl rfl (J_assign rfl (Opd.tmp rfl)) ?_
        refine RegL.nil ?_
        refine Ct.then_tr ?_
        refine Tr.weak (Γ' := [(1, (pSl 1 (cK .i64) channels_1)), (2, (pSl 1 (cK .i64) table_2)), (9, (pEq (.int .i64 v10))), (10, (pEq (.int .i64 v11))), (11, (pEq (.int .i64 v12))), (12, (pSl 1 (cK .i64) x14)), (32, (pSl 1 (cSl 1 (cK .i64)) rows_0)), (33, (pEq (.int .i64 (rows_0.length : Int)))), (34, (pEq (.int .i64 v12))), (99999, (pTab 1 .u64 Lib.pow10Tab))]) ⟨rfl, rfl, rfl, rfl, rfl, rfl, rfl, rfl, rfl, rfl, trivial⟩ ?_
        refine Tr.seq ?_
        refine Tr.region ?_
        refine RegL.pure (p := (pSl 1 (cK .i64) x14)) rfl rfl rfl (J_move rfl (Opd.tmp rfl)) ?_
        replace h := bind_some h; obtain ⟨x15, hx15, h⟩ := h
        refine RegL.pure (p := (pEq (.int .i64 x15))) rfl rfl rfl (J_call rfl Tryd.call49 (c_impl_serverOf hx15) (Opds.cons (Opd.tmp rfl) Opds.nil)) ?_
        refine RegL.pure (p := (pEq (.int .i64 x15))) rfl rfl rfl (J_assign rfl (Opd.tmp rfl)) ?_
        refine RegL.nil ?_
        refine Ct.then_tr ?_
        refine Tr.weak (Γ' := [(1, (pSl 1 (cK .i64) channels_1)), (2, (pSl 1 (cK .i64) table_2)), (9, (pEq (.int .i64 v10))), (10, (pEq (.int .i64 v11))), (11, (pEq (.int .i64 v12))), (12, (pSl 1 (cK .i64) x14)), (13, (pEq (.int .i64 x15))), (32, (pSl 1 (cSl 1 (cK .i64)) rows_0)), (33, (pEq (.int .i64 (rows_0.length : Int)))), (34, (pEq (.int .i64 v12))), (99999, (pTab 1 .u64 Lib.pow10Tab))]) ⟨rfl, rfl, rfl, rfl, rfl, rfl, rfl, rfl, rfl, rfl, rfl, trivial⟩ ?_
        refine Tr.seq ?_
        refine Tr.seq ?_
        refine Tr.region ?_
        refine RegL.pure (p := (pSl 1 (cK .i64) channels_1)) rfl rfl rfl (J_move rfl (Opd.tmp rfl)) ?_
        refine RegL.pure (p := (pEq (.int .i64 x15))) rfl rfl rfl (J_move rfl (Opd.tmp rfl)) ?_
        replace h := bind_some h; obtain ⟨x16, hx16, h⟩ := h
        refine RegL.pure (p := (pPtr ((cK .i64) x16))) rfl rfl rfl (J_idx rfl Tryd.underlying22 sz2 (Opd.tmp rfl) (Opd.tmp rfl) hx16) ?_
        refine RegL.pure (p := (pEq (.int .i64 x16))) rfl rfl rfl (J_load rfl Tryd.isAgg2 (Opd.tmp rfl)) ?_
        refine RegL.pure (p := (pEq (.bool (decide (x16 < (0 : Int)))))) rfl rfl rfl (J_bin rfl (Opd.tmp rfl) Opd.con B_lss) ?_
        refine RegL.nil ?_
        refine Ct.then_tr ?_
        refine Tr.weak (Γ' := [(1, (pSl 1 (cK .i64) channels_1)), (2, (pSl 1 (cK .i64) table_2)), (9, (pEq (.int .i64 v10))), (10, (pEq (.int .i64 v11))), (11, (pEq (.int .i64 v12))), (12, (pSl 1 (cK .i64) x14)), (13, (pEq (.int .i64 x15))), (32, (pSl 1 (cSl 1 (cK .i64)) rows_0)), (33, (pEq (.int .i64 (rows_0.length : Int)))), (34, (pEq (.int .i64 v12))), (45, (pEq (.bool (decide (x16 < (0 : Int)))))), (99999, (pTab 1 .u64 Lib.pow10Tab))]) ⟨rfl, rfl, rfl, rfl, rfl, rfl, rfl, rfl, rfl, rfl, rfl, rfl, trivial⟩ ?_
        refine Tr.cond (Opd.tmp rfl) (fun hc => ?_) (fun hc => ?_)
        · replace h := bif_t hc h
          refine Tr.seq ?_
          refine Tr.region ?_
          refine RegL.pure (p := (pEq (.int .i64 (0 : Int)))) rfl rfl rfl (J_assign rfl Opd.con) ?_
          refine RegL.pure (p := (pEq (.int .i64 (0 : Int)))) rfl rfl rfl (J_assign rfl Opd.con) ?_
          refine RegL.pure (p := (pEq (.int .i64 (6 : Int)))) rfl rfl rfl (J_assign rfl Opd.con) ?_
          refine RegL.nil ?_
          refine Ct.then_tr ?_
          refine Tr.weak (Γ' := [(6, (pEq (.int .i64 (0 : Int)))), (7, (pEq (.int .i64 (0 : Int)))), (8, (pEq (.int .i64 (6 : Int)))), (99999, (pTab 1 .u64 Lib.pow10Tab))]) ⟨rfl, rfl, rfl, rfl, trivial⟩ ?_
          refine Tr.ret ?_
          refine Ct.then_ret ?_
          refine Ct.blk_ret ?_
          refine Ct.then_ret ?_
          replace h := map_some h; obtain ⟨r1, h, rfl⟩ := h
          refine Ct.out_ret fun e => ?_
          subst e
          refine Ct.blk_ret ?_
          refine Ct.then_ret ?_
          replace h := Option.some.inj h; subst h
          exact Ct.retH3 (Ωx := []) () rfl (RvOk.tmp rfl) (RvOk.tmp rfl) (RvOk.tmp rfl) rfl rfl
        · replace h := bif_f hc h
          refine Tr.skip ?_
          refine Ct.then_tr ?_
          refine Tr.weak (Γ' := [(1, (pSl 1 (cK .i64) channels_1)), (2, (pSl 1 (cK .i64) table_2)), (9, (pEq (.int .i64 v10))), (10, (pEq (.int .i64 v11))), (11, (pEq (.int .i64 v12))), (12, (pSl 1 (cK .i64) x14)), (13, (pEq (.int .i64 x15))), (32, (pSl 1 (cSl 1 (cK .i64)) rows_0)), (33, (pEq (.int .i64 (rows_0.length : Int)))), (34, (pEq (.int .i64 v12))), (99999, (pTab 1 .u64 Lib.pow10Tab))]) ⟨rfl, rfl, rfl, rfl, rfl, rfl, rfl, rfl, rfl, rfl, rfl, trivial⟩ ?_
          refine Tr.seq ?_
          refine Tr.region ?_
          refine RegL.pure (p := (pSl 1 (cK .i64) x14)) rfl rfl rfl (J_move rfl (Opd.tmp rfl)) ?_
          refine RegL.pure (p := (pSl 1 (cK .i64) channels_1)) rfl rfl rfl (J_move rfl (Opd.tmp rfl)) ?_
          refine RegL.pure (p := (pSl 1 (cK .i64) table_2)) rfl rfl rfl (J_move rfl (Opd.tmp rfl)) ?_
          refine RegL.pure (p := (pEq (.int .i64 x15))) rfl rfl rfl (J_move rfl (Opd.tmp rfl)) ?_
          replace h := bind_some h; obtain ⟨x17, hx17, h⟩ := h
          refine RegL.pure (p := (pEq (.int .i64 x17))) rfl rfl rfl (J_call rfl Tryd.call44 (c_impl_signalRatio hx17) (Opds.cons (Opd.tmp rfl) (Opds.cons (Opd.tmp rfl) (Opds.cons (Opd.tmp rfl) (Opds.cons (Opd.tab (Opd.tmp rfl) 99999 rfl) Opds.nil))))) ?_
          refine RegL.pure (p := (pEq (.int .i64 x17))) rfl rfl rfl (J_assign rfl (Opd.tmp rfl)) ?_
          refine RegL.nil ?_
          refine Ct.then_tr ?_
          refine Tr.weak (Γ' := [(1, (pSl 1 (cK .i64) channels_1)), (2, (pSl 1 (cK .i64) table_2)), (9, (pEq (.int .i64 v10))), (10, (pEq (.int .i64 v11))), (11, (pEq (.int .i64 v12))), (14, (pEq (.int .i64 x17))), (32, (pSl 1 (cSl 1 (cK .i64)) rows_0)), (33, (pEq (.int .i64 (rows_0.length : Int)))), (34, (pEq (.int .i64 v12))), (99999, (pTab 1 .u64 Lib.pow10Tab))]) ⟨rfl, rfl, rfl, rfl, rfl, rfl, rfl, rfl, rfl, rfl, trivial⟩ ?_
          refine Tr.seq ?_
          replace h := bind_some h; obtain ⟨x18, hx18, h⟩ := h
          refine Tr.cut (γ := Unit) (Γm := fun g => [(1, (pSl 1 (cK .i64) channels_1)), (2, (pSl 1 (cK .i64) table_2)), (9, (pEq (.int .i64 v10))), (10, (pEq (.int .i64 v11))), (11, (pEq (.int .i64 v12))), (14, (pEq (.int .i64 x17))), (32, (pSl 1 (cSl 1 (cK .i64)) rows_0)), (33, (pEq (.int .i64 (rows_0.length : Int)))), (34, (pEq (.int .i64 v12))), (57, (pEq (.bool x18))), (99999, (pTab 1 .u64 Lib.pow10Tab))]) (Ωm := fun g => []) ?_ (fun g20 => ?_)
          · clear h
            have h := hx18
            clear hx18
            refine Tr.region ?_
            refine RegL.pure (p := (pEq (.int .i64 v10))) rfl rfl rfl (J_move rfl (Opd.tmp rfl)) ?_
            refine RegL.pure (p := (pEq (.bool (decide (v10 < (0 : Int)))))) rfl rfl rfl (J_bin rfl (Opd.tmp rfl) Opd.con B_lss) ?_
            refine RegL.pure (p := (pEq (.bool (decide (v10 < (0 : Int)))))) rfl rfl rfl (J_move rfl (Opd.tmp rfl)) ?_
            rcases Bool.eq_false_or_eq_true (decide (v10 < (0 : Int))) with hc19 | hc19
            · replace h := bif_t hc19 h
              refine RegL.skipG rfl rfl rfl hc19 rfl rfl ?_
              refine RegL.skipG rfl rfl rfl hc19 rfl rfl ?_
              refine RegL.skipG rfl rfl rfl hc19 rfl rfl ?_
              refine RegL.pure (p := (pEq (.bool true))) rfl rfl rfl (J_pick rfl (Opd.tmp rfl) (fun _ => Opd.con) (fun hf => absurd (hc19.symm.trans hf) (by decide))) ?_
              refine RegL.nil ?_
              replace h := Option.some.inj h; subst h
              exact Ct.mid () rfl ⟨rfl, rfl, rfl, rfl, rfl, rfl, rfl, rfl, rfl, rfl, rfl, trivial⟩
            · replace h := bif_f hc19 h
              refine RegL.pureG (p := (pEq (.int .i64 x17))) rfl rfl rfl hc19 rfl rfl (J_move rfl (Opd.tmp rfl)) ?_
              refine RegL.pureG (p := (pEq (.int .i64 v11))) rfl rfl rfl hc19 rfl rfl (J_move rfl (Opd.tmp rfl)) ?_
              refine RegL.pureG (p := (pEq (.bool (decide (x17 < v11))))) rfl rfl rfl hc19 rfl rfl (J_bin rfl (Opd.tmp rfl) (Opd.tmp rfl) B_lss) ?_
              refine RegL.pure (p := (pEq (.bool (decide (x17 < v11))))) rfl rfl rfl (J_pick rfl (Opd.tmp rfl) (fun hf => absurd (hc19.symm.trans hf) (by decide)) (fun _ => (Opd.tmp rfl))) ?_
              refine RegL.nil ?_
              replace h := Option.some.inj h; subst h
              exact Ct.mid () rfl ⟨rfl, rfl, rfl, rfl, rfl, rfl, rfl, rfl, rfl, rfl, rfl, trivial⟩
          · clear hx18
            refine Ct.then_tr ?_
            refine Tr.weak (Γ' := [(1, (pSl 1 (cK .i64) channels_1)), (2, (pSl 1 (cK .i64) table_2)), (9, (pEq (.int .i64 v10))), (10, (pEq (.int .i64 v11))), (11, (pEq (.int .i64 v12))), (14, (pEq (.int .i64 x17))), (32, (pSl 1 (cSl 1 (cK .i64)) rows_0)), (33, (pEq (.int .i64 (rows_0.length : Int)))), (34, (pEq (.int .i64 v12))), (57, (pEq (.bool x18))), (99999, (pTab 1 .u64 Lib.pow10Tab))]) ⟨rfl, rfl, rfl, rfl, rfl, rfl, rfl, rfl, rfl, rfl, rfl, trivial⟩ ?_
            replace h := bind_some h; obtain ⟨x21, hx21, h⟩ := h
            refine Tr.cut (γ := Unit) (Γm := fun g => [(1, (pSl 1 (cK .i64) channels_1)), (2, (pSl 1 (cK .i64) table_2)), (9, (pEq (.int .i64 x21.1))), (10, (pEq (.int .i64 x21.2))), (32, (pSl 1 (cSl 1 (cK .i64)) rows_0)), (33, (pEq (.int .i64 (rows_0.length : Int)))), (34, (pEq (.int .i64 v12))), (99999, (pTab 1 .u64 Lib.pow10Tab))]) (Ωm := fun g => []) ?_ (fun g22 => ?_)
            · clear h
              have h := hx21
              clear hx21
              refine Tr.cond (Opd.tmp rfl) (fun hc => ?_) (fun hc => ?_)
              · replace h := bif_t hc h
                refine Tr.region ?_
                refine RegL.pure (p := (pEq (.int .i64 v12))) rfl rfl rfl (J_move rfl (Opd.tmp rfl)) ?_
                refine RegL.pure (p := (pEq (.int .i64 x17))) rfl rfl rfl (J_move rfl (Opd.tmp rfl)) ?_
                refine RegL.pure (p := (pEq (.int .i64 v12))) rfl rfl rfl (J_assign rfl (Opd.tmp rfl)) ?_
                refine RegL.pure (p := (pEq (.int .i64 x17))) rfl rfl rfl (J_assign rfl (Opd.tmp rfl)) ?_
                refine RegL.nil ?_
                replace h := Option.some.inj h; subst h
                exact Ct.mid () rfl ⟨rfl, rfl, rfl, rfl, rfl, rfl, rfl, rfl, trivial⟩
              · replace h := bif_f hc h
                refine Tr.skip ?_
                replace h := Option.some.inj h; subst h
                exact Ct.mid () rfl ⟨rfl, rfl, rfl, rfl, rfl, rfl, rfl, rfl, trivial⟩
            · clear hx21
              refine Ct.blk_normal ?_
              refine Ct.then_tr ?_
              refine Tr.weak (Γ' := [(1, (pSl 1 (cK .i64) channels_1)), (2, (pSl 1 (cK .i64) table_2)), (9, (pEq (.int .i64 x21.1))), (10, (pEq (.int .i64 x21.2))), (32, (pSl 1 (cSl 1 (cK .i64)) rows_0)), (33, (pEq (.int .i64 (rows_0.length : Int)))), (34, (pEq (.int .i64 v12))), (99999, (pTab 1 .u64 Lib.pow10Tab))]) ⟨rfl, rfl, rfl, rfl, rfl, rfl, rfl, rfl, trivial⟩ ?_
              refine Tr.region ?_
              refine RegL.pure (p := (pEq (.int .i64 (w64 (v12 + (1 : Int)))))) rfl rfl rfl (J_bin rfl (Opd.tmp rfl) Opd.con B_add) ?_
              refine RegL.pure (p := (pEq (.int .i64 (w64 (v12 + (1 : Int)))))) rfl rfl rfl (J_move rfl (Opd.tmp rfl)) ?_
              refine RegL.nil ?_
              replace h := Option.some.inj h; subst h
              exact Ct.again () rfl ⟨rfl, rfl, rfl, rfl, rfl, rfl, rfl, rfl, trivial⟩
      · replace h := bif_f hc h
        refine Tr.exit ?_
        refine Ct.then_exit ?_
        replace h := map_some h; obtain ⟨r1, h, rfl⟩ := h
        refine Ct.out_exit fun e => ?_
        subst e
        refine Ct.blk_exit ?_
        refine Ct.then_tr ?_
        refine Tr.weak (Γ' := [(9, (pEq (.int .i64 v10))), (10, (pEq (.int .i64 v11))), (99999, (pTab 1 .u64 Lib.pow10Tab))]) ⟨rfl, rfl, rfl, trivial⟩ ?_
        refine Tr.seq ?_
        refine Tr.region ?_
        refine RegL.pure (p := (pEq (.int .i64 v10))) rfl rfl rfl (J_move rfl (Opd.tmp rfl)) ?_
        refine RegL.pure (p := (pEq (.int .i64 v11))) rfl rfl rfl (J_move rfl (Opd.tmp rfl)) ?_
        refine RegL.pure (p := (pEq (.int .i64 v10))) rfl rfl rfl (J_assign rfl (Opd.tmp rfl)) ?_
        refine RegL.pure (p := (pEq (.int .i64 v11))) rfl rfl rfl (J_assign rfl (Opd.tmp rfl)) ?_
        refine RegL.pure (p := (pEq (.int .i64 (0 : Int)))) rfl rfl rfl (J_assign rfl Opd.con) ?_
        refine RegL.nil ?_
        refine Ct.then_tr ?_
        refine Tr.weak (Γ' := [(6, (pEq (.int .i64 v10))), (7, (pEq (.int .i64 v11))), (8, (pEq (.int .i64 (0 : Int)))), (99999, (pTab 1 .u64 Lib.pow10Tab))]) ⟨rfl, rfl, rfl, rfl, trivial⟩ ?_
        refine Tr.ret ?_
        replace h := Option.some.inj h; subst h
        exact Ct.retH3 (Ωx := []) () rfl (RvOk.tmp rfl) (RvOk.tmp rfl) (RvOk.tmp rfl) rfl rfl

theorem c_laws_eqInt64S {a_0 : (List Int)} {b_1 : (List Int)} {r : Bool} (h : m_laws_eqInt64S a_0 b_1 = some r) : CallJ Tryd.prog 12 [(pSl 1 (cK .i64) a_0), (pSl 1 (cK .i64) b_1)] (pEq (.bool r)) := by
  unfold m_laws_eqInt64S at h
  refine CallJ.enterH Tryd.func12 rfl Tryd.ntmps12 rfl fun W I0 H => ?_
  refine Tr.weak (Γ' := [(0, (pSl 1 (cK .i64) a_0)), (1, (pSl 1 (cK .i64) b_1))]) ⟨rfl, rfl, trivial⟩ ?_
  refine Tr.seq ?_
  refine Tr.region ?_
  refine RegL.pure (p := (pEq (.bool false))) rfl rfl rfl (J_assign rfl Opd.con) ?_
  refine RegL.nil ?_
  refine Ct.then_tr ?_
  refine Tr.weak (Γ' := [(0, (pSl 1 (cK .i64) a_0)), (1, (pSl 1 (cK .i64) b_1))]) ⟨rfl, rfl, trivial⟩ ?_
  refine Tr.seq ?_
  refine Tr.seq ?_
  refine Tr.region ?_
  refine RegL.pure (p := (pSl 1 (cK .i64) a_0)) rfl rfl rfl (J_move rfl (Opd.tmp rfl)) ?_
  refine RegL.pure (p := (pEq (.int .i64 (a_0.length : Int)))) rfl rfl rfl (J_len rfl Tryd.underlying22 (Opd.tmp rfl) rfl) ?_
  refine RegL.pure (p := (pSl 1 (cK .i64) b_1)) rfl rfl rfl (J_move rfl (Opd.tmp rfl)) ?_
  refine RegL.pure (p := (pEq (.int .i64 (b_1.length : Int)))) rfl rfl rfl (J_len rfl Tryd.underlying22 (Opd.tmp rfl) rfl) ?_
  refine RegL.pure (p := (pEq (.bool ((a_0.length : Int) != (b_1.length : Int))))) rfl rfl rfl (J_bin rfl (Opd.tmp rfl) (Opd.tmp rfl) B_neq) ?_
  refine RegL.nil ?_
  refine Ct.then_tr ?_
  refine Tr.weak (Γ' := [(0, (pSl 1 (cK .i64) a_0)), (1, (pSl 1 (cK .i64) b_1)), (10, (pEq (.bool ((a_0.length : Int) != (b_1.length : Int)))))]) ⟨rfl, rfl, rfl, trivial⟩ ?_
  refine Tr.cond (Opd.tmp rfl) (fun hc => ?_) (fun hc => ?_)
  · replace h := bif_t hc h
    refine Tr.seq ?_
    refine Tr.region ?_
    refine RegL.pure (p := (pEq (.bool false))) rfl rfl rfl (J_assign rfl Opd.con) ?_
    refine RegL.nil ?_
    refine Ct.then_tr ?_
    refine Tr.weak (Γ' := [(4, (pEq (.bool false)))]) ⟨rfl, trivial⟩ ?_
    refine Tr.ret ?_
    refine Ct.then_ret ?_
    replace h := Option.some.inj h; subst h
    exact Ct.retH1 (Ωx := []) () rfl (RvOk.tmp rfl) rfl
  · replace h := bif_f hc h
    refine Tr.skip ?_
    refine Ct.then_tr ?_
    refine Tr.weak (Γ' := [(0, (pSl 1 (cK .i64) a_0)), (1, (pSl 1 (cK .i64) b_1))]) ⟨rfl, rfl, trivial⟩ ?_
    refine Tr.seq ?_
    refine Tr.seq ?_
    refine Tr.region ?_
    refine RegL.pure (p := (pEq (.int .i64 (0 : Int)))) rfl rfl rfl (J_assign rfl Opd.con) ?_
    refine RegL.nil ?_
    refine Ct.then_tr ?_
    refine Tr.weak (Γ' := [(0, (pSl 1 (cK .i64) a_0)), (1, (pSl 1 (cK .i64) b_1)), (5, (pEq (.int .i64 (0 : Int))))]) ⟨rfl, rfl, rfl, trivial⟩ ?_
    refine Tr.block ?_
    refine Tr.weak (Γ' := [(0, (pSl 1 (cK .i64) a_0)), (1, (pSl 1 (cK .i64) b_1)), (5, (pEq (.int .i64 (0 : Int))))]) ⟨rfl, rfl, rfl, trivial⟩ ?_
    refine Tr.loop (γ := Unit) (σ := Int) (Γσ := fun s g => [(0, (pSl 1 (cK .i64) a_0)), (1, (pSl 1 (cK .i64) b_1)), (5, (pEq (.int .i64 s)))]) (Ωσ := fun s g => []) (g := ()) h ?_
    clear h
    rintro v2 g3 t h
    replace h : m_laws_eqInt64S_B1 a_0 b_1 v2 = some t := h
    unfold m_laws_eqInt64S_B1 at h
    refine Tr.weakO (Γ' := [(0, (pSl 1 (cK .i64) a_0)), (1, (pSl 1 (cK .i64) b_1)), (5, (pEq (.int .i64 v2)))]) (Ω' := []) rfl ⟨rfl, rfl, rfl, trivial⟩ ?_
    refine Tr.seq ?_
    refine Tr.seq ?_
    refine Tr.region ?_
    refine RegL.pure (p := (pEq (.int .i64 v2))) rfl rfl rfl (J_move rfl (Opd.tmp rfl)) ?_
    refine RegL.pure (p := (pSl 1 (cK .i64) a_0)) rfl rfl rfl (J_move rfl (Opd.tmp rfl)) ?_
    refine RegL.pure (p := (pEq (.int .i64 (a_0.length : Int)))) rfl rfl rfl (J_len rfl Tryd.underlying22 (Opd.tmp rfl) rfl) ?_
    refine RegL.pure (p := (pEq (.bool (decide (v2 < (a_0.length : Int)))))) rfl rfl rfl (J_bin rfl (Opd.tmp rfl) (Opd.tmp rfl) B_lss) ?_
    refine RegL.nil ?_
    refine Ct.then_tr ?_
    refine Tr.weak (Γ' := [(0, (pSl 1 (cK .i64) a_0)), (1, (pSl 1 (cK .i64) b_1)), (5, (pEq (.int .i64 v2))), (14, (pEq (.bool (decide (v2 < (a_0.length : Int))))))]) ⟨rfl, rfl, rfl, rfl, trivial⟩ ?_
    refine Tr.cond (Opd.tmp rfl) (fun hc => ?_) (fun hc => ?_)
    · replace h := bif_t hc h
      refine Tr.skip ?_
      refine Ct.then_tr ?_
      refine Tr.weak (Γ' := [(0, (pSl 1 (cK .i64) a_0)), (1, (pSl 1 (cK .i64) b_1)), (5, (pEq (.int .i64 v2)))]) ⟨rfl, rfl, rfl, trivial⟩ ?_
      refine Tr.seq ?_
      refine Tr.block ?_
      refine Tr.seq ?_
      replace h := bind_some h; obtain ⟨x4, hx4, h⟩ := h
      replace h := bind_some h; obtain ⟨x5, hx5, h⟩ := h
      refine Tr.drawD (n := 26) (m := 9) (es := [some (Ent.mk [(0, (pSl 1 (cK .i64) a_0))] (pSl 1 (cK .i64) a_0) true), some (Ent.mk [(5, (pEq (.int .i64 v2)))] (pEq (.int .i64 v2)) true), some (Ent.mk [(17, (pSl 1 (cK .i64) a_0)), (18, (pEq (.int .i64 v2)))] (pPtr ((cK .i64) x4)) true), some (Ent.mk [(19, (pPtr ((cK .i64) x4)))] (pEq (.int .i64 x4)) true), some (Ent.mk [(1, (pSl 1 (cK .i64) b_1))] (pSl 1 (cK .i64) b_1) true), some (Ent.mk [(5, (pEq (.int .i64 v2)))] (pEq (.int .i64 v2)) true), some (Ent.mk [(21, (pSl 1 (cK .i64) b_1)), (22, (pEq (.int .i64 v2)))] (pPtr ((cK .i64) x5)) true), some (Ent.mk [(23, (pPtr ((cK .i64) x5)))] (pEq (.int .i64 x5)) true), some (Ent.mk [(20, (pEq (.int .i64 x4))), (24, (pEq (.int .i64 x5)))] (pEq (.bool (x4 != x5))) true)]) (rd := [[0], [5], [17, 18], [19], [1], [5], [21, 22], [23], [20, 24]]) rfl hmix (by kernel_rfl) fun hD => ?_
      refine RD.fin (es := [Ent.mk [(0, (pSl 1 (cK .i64) a_0))] (pSl 1 (cK .i64) a_0) true, Ent.mk [(5, (pEq (.int .i64 v2)))] (pEq (.int .i64 v2)) true, Ent.mk [(17, (pSl 1 (cK .i64) a_0)), (18, (pEq (.int .i64 v2)))] (pPtr ((cK .i64) x4)) true, Ent.mk [(19, (pPtr ((cK .i64) x4)))] (pEq (.int .i64 x4)) true, Ent.mk [(1, (pSl 1 (cK .i64) b_1))] (pSl 1 (cK .i64) b_1) true, Ent.mk [(5, (pEq (.int .i64 v2)))] (pEq (.int .i64 v2)) true, Ent.mk [(21, (pSl 1 (cK .i64) b_1)), (22, (pEq (.int .i64 v2)))] (pPtr ((cK .i64) x5)) true, Ent.mk [(23, (pPtr ((cK .i64) x5)))] (pEq (.int .i64 x5)) true, Ent.mk [(20, (pEq (.int .i64 x4))), (24, (pEq (.int .i64 x5)))] (pEq (.bool (x4 != x5))) true]) (done := []) hD ⟨.inr ⟨(OpJ.w (J_move rfl (Opd.tmp rfl))), ⟨rfl, trivial⟩, rfl, rfl⟩, ⟨.inr ⟨(OpJ.w (J_move rfl (Opd.tmp rfl))), ⟨rfl, trivial⟩, rfl, rfl⟩, ⟨.inr ⟨(OpJ.w (J_idx rfl Tryd.underlying22 sz2 (Opd.tmp rfl) (Opd.tmp rfl) hx4)), ⟨rfl, rfl, trivial⟩, rfl, rfl⟩, ⟨.inr ⟨(OpJ.w (J_load rfl Tryd.isAgg2 (Opd.tmp rfl))), ⟨rfl, trivial⟩, rfl, rfl⟩, ⟨.inr ⟨(OpJ.w (J_move rfl (Opd.tmp rfl))), ⟨rfl, trivial⟩, rfl, rfl⟩, ⟨.inr ⟨(OpJ.w (J_move rfl (Opd.tmp rfl))), ⟨rfl, trivial⟩, rfl, rfl⟩, ⟨.inr ⟨(OpJ.w (J_idx rfl Tryd.underlying22 sz2 (Opd.tmp rfl) (Opd.tmp rfl) hx5)), ⟨rfl, rfl, trivial⟩, rfl, rfl⟩, ⟨.inr ⟨(OpJ.w (J_load rfl Tryd.isAgg2 (Opd.tmp rfl))), ⟨rfl, trivial⟩, rfl, rfl⟩, ⟨.inr ⟨(OpJ.w (J_bin rfl (Opd.tmp rfl) (Opd.tmp rfl) B_neq)), ⟨rfl, rfl, trivial⟩, rfl, rfl⟩, trivial⟩⟩⟩⟩⟩⟩⟩⟩⟩ ?_
      refine RegL.nil ?_
      refine Ct.then_tr ?_
      refine Tr.weak (Γ' := [(0, (pSl 1 (cK .i64) a_0)), (1, (pSl 1 (cK .i64) b_1)), (5, (pEq (.int .i64 v2))), (25, (pEq (.bool (x4 != x5))))]) ⟨rfl, rfl, rfl, rfl, trivial⟩ ?_
      refine Tr.cond (Opd.tmp rfl) (fun hc => ?_) (fun hc => ?_)
      · replace h := bif_t hc h
        refine Tr.seq ?_
        refine Tr.region ?_
        refine RegL.pure (p := (pEq (.bool false))) rfl rfl rfl (J_assign rfl Opd.con) ?_
        refine RegL.nil ?_
        refine Ct.then_tr ?_
        refine Tr.weak (Γ' := [(4, (pEq (.bool false)))]) ⟨rfl, trivial⟩ ?_
        refine Tr.ret ?_
        refine Ct.blk_ret ?_
        refine Ct.then_ret ?_
        replace h := map_some h; obtain ⟨r1, h, rfl⟩ := h
        refine Ct.out_ret fun e => ?_
        subst e
        refine Ct.blk_ret ?_
        refine Ct.then_ret ?_
        replace h := Option.some.inj h; subst h
        exact Ct.retH1 (Ωx := []) () rfl (RvOk.tmp rfl) rfl
      · replace h := bif_f hc h
        refine Tr.skip ?_
        refine Ct.blk_normal ?_
        refine Ct.then_tr ?_
        refine Tr.weak (Γ' := [(0, (pSl 1 (cK .i64) a_0)), (1, (pSl 1 (cK .i64) b_1)), (5, (pEq (.int .i64 v2)))]) ⟨rfl, rfl, rfl, trivial⟩ ?_
        refine Tr.region ?_
        refine RegL.pure (p := (pEq (.int .i64 v2))) rfl rfl rfl (J_move rfl (Opd.tmp rfl)) ?_
        refine RegL.pure (p := (pEq (.int .i64 (w64 (v2 + (1 : Int)))))) rfl rfl rfl (J_bin rfl (Opd.tmp rfl) Opd.con B_add) ?_
        refine RegL.pure (p := (pEq (.int .i64 (w64 (v2 + (1 : Int)))))) rfl rfl rfl (J_assign rfl (Opd.tmp rfl)) ?_
        refine RegL.nil ?_
        replace h := Option.some.inj h; subst h
        exact Ct.again () rfl ⟨rfl, rfl, rfl, trivial⟩
    · replace h := bif_f hc h
      refine Tr.exit ?_
      refine Ct.then_exit ?_
      replace h := map_some h; obtain ⟨r1, h, rfl⟩ := h
      refine Ct.out_exit fun e => ?_
      subst e
      refine Ct.blk_exit ?_
      refine Ct.then_tr ?_
      refine Tr.weak (Γ' := []) trivial ?_
      refine Tr.seq ?_
      refine Tr.region ?_
      refine RegL.pure (p := (pEq (.bool true))) rfl rfl rfl (J_assign rfl Opd.con) ?_
      refine RegL.nil ?_
      refine Ct.then_tr ?_
      refine Tr.weak (Γ' := [(4, (pEq (.bool true)))]) ⟨rfl, trivial⟩ ?_
      refine Tr.ret ?_
      replace h := Option.some.inj h; subst h
      exact Ct.retH1 (Ωx := []) () rfl (RvOk.tmp rfl) rfl

theorem c_laws_eqInt64SS {a_0 : (List (List Int))} {b_1 : (List (List Int))} {r : Bool} (h : m_laws_eqInt64SS a_0 b_1 = some r) : CallJ Tryd.prog 17 [(pSl 1 (cSl 1 (cK .i64)) a_0), (pSl 1 (cSl 1 (cK .i64)) b_1)] (pEq (.bool r)) := by
  unfold m_laws_eqInt64SS at h
  refine CallJ.enterH Tryd.func17 rfl Tryd.ntmps17 rfl fun W I0 H => ?_
  refine Tr.weak (Γ' := [(0, (pSl 1 (cSl 1 (cK .i64)) a_0)), (1, (pSl 1 (cSl 1 (cK .i64)) b_1))]) ⟨rfl, rfl, trivial⟩ ?_
  refine Tr.seq ?_
  refine Tr.region ?_
  refine RegL.pure (p := (pEq (.bool false))) rfl rfl rfl (J_assign rfl Opd.con) ?_
  refine RegL.nil ?_
  refine Ct.then_tr ?_
  refine Tr.weak (Γ' := [(0, (pSl 1 (cSl 1 (cK .i64)) a_0)), (1, (pSl 1 (cSl 1 (cK .i64)) b_1))]) ⟨rfl, rfl, trivial⟩ ?_
  refine Tr.seq ?_
  refine Tr.seq ?_
  refine Tr.region ?_
  refine RegL.pure (p := (pSl 1 (cSl 1 (cK .i64)) a_0)) rfl rfl rfl (J_move rfl (Opd.tmp rfl)) ?_
  refine RegL.pure (p := (pEq (.int .i64 (a_0.length : Int)))) rfl rfl rfl (J_len rfl Tryd.underlying28 (Opd.tmp rfl) rfl) ?_
  refine RegL.pure (p := (pSl 1 (cSl 1 (cK .i64)) b_1)) rfl rfl rfl (J_move rfl (Opd.tmp rfl)) ?_
  refine RegL.pure (p := (pEq (.int .i64 (b_1.length : Int)))) rfl rfl rfl (J_len rfl Tryd.underlying28 (Opd.tmp rfl) rfl) ?_
  refine RegL.pure (p := (pEq (.bool ((a_0.length : Int) != (b_1.length : Int))))) rfl rfl rfl (J_bin rfl (Opd.tmp rfl) (Opd.tmp rfl) B_neq) ?_
  refine RegL.nil ?_
  refine Ct.then_tr ?_
  refine Tr.weak (Γ' := [(0, (pSl 1 (cSl 1 (cK .i64)) a_0)), (1, (pSl 1 (cSl 1 (cK .i64)) b_1)), (10, (pEq (.bool ((a_0.length : Int) != (b_1.length : Int)))))]) ⟨rfl, rfl, rfl, trivial⟩ ?_
  refine Tr.cond (Opd.tmp rfl) (fun hc => ?_) (fun hc => ?_)
  · replace h := bif_t hc h
    refine Tr.seq ?_
    refine Tr.region ?_
    refine RegL.pure (p := (pEq (.bool false))) rfl rfl rfl (J_assign rfl Opd.con) ?_
    refine RegL.nil ?_
    refine Ct.then_tr ?_
    refine Tr.weak (Γ' := [(4, (pEq (.bool false)))]) ⟨rfl, trivial⟩ ?_
    refine Tr.ret ?_
    refine Ct.then_ret ?_
    replace h := Option.some.inj h; subst h
    exact Ct.retH1 (Ωx := []) () rfl (RvOk.tmp rfl) rfl
  · replace h := bif_f hc h
    refine Tr.skip ?_
    refine Ct.then_tr ?_
    refine Tr.weak (Γ' := [(0, (pSl 1 (cSl 1 (cK .i64)) a_0)), (1, (pSl 1 (cSl 1 (cK .i64)) b_1))]) ⟨rfl, rfl, trivial⟩ ?_
    refine Tr.seq ?_
    refine Tr.seq ?_
    refine Tr.region ?_
    refine RegL.pure (p := (pEq (.int .i64 (0 : Int)))) rfl rfl rfl (J_assign rfl Opd.con) ?_
    refine RegL.nil ?_
    refine Ct.then_tr ?_
    refine Tr.weak (Γ' := [(0, (pSl 1 (cSl 1 (cK .i64)) a_0)), (1, (pSl 1 (cSl 1 (cK .i64)) b_1)), (5, (pEq (.int .i64 (0 : Int))))]) ⟨rfl, rfl, rfl, trivial⟩ ?_
    refine Tr.block ?_
    refine Tr.weak (Γ' := [(0, (pSl 1 (cSl 1 (cK .i64)) a_0)), (1, (pSl 1 (cSl 1 (cK .i64)) b_1)), (5, (pEq (.int .i64 (0 : Int))))]) ⟨rfl, rfl, rfl, trivial⟩ ?_
    refine Tr.loop (γ := Unit) (σ := Int) (Γσ := fun s g => [(0, (pSl 1 (cSl 1 (cK .i64)) a_0)), (1, (pSl 1 (cSl 1 (cK .i64)) b_1)), (5, (pEq (.int .i64 s)))]) (Ωσ := fun s g => []) (g := ()) h ?_
    clear h
    rintro v2 g3 t h
    replace h : m_laws_eqInt64SS_B1 a_0 b_1 v2 = some t := h
    unfold m_laws_eqInt64SS_B1 at h
    refine Tr.weakO (Γ' := [(0, (pSl 1 (cSl 1 (cK .i64)) a_0)), (1, (pSl 1 (cSl 1 (cK .i64)) b_1)), (5, (pEq (.int .i64 v2)))]) (Ω' := []) rfl ⟨rfl, rfl, rfl, trivial⟩ ?_
    refine Tr.seq ?_
    refine Tr.seq ?_
    refine Tr.region ?_
    refine RegL.pure (p := (pEq (.int .i64 v2))) rfl rfl rfl (J_move rfl (Opd.tmp rfl)) ?_
    refine RegL.pure (p := (pSl 1 (cSl 1 (cK .i64)) a_0)) rfl rfl rfl (J_move rfl (Opd.tmp rfl)) ?_
    refine RegL.pure (p := (pEq (.int .i64 (a_0.length : Int)))) rfl rfl rfl (J_len rfl Tryd.underlying28 (Opd.tmp rfl) rfl) ?_
    refine RegL.pure (p := (pEq (.bool (decide (v2 < (a_0.length : Int)))))) rfl rfl rfl (J_bin rfl (Opd.tmp rfl) (Opd.tmp rfl) B_lss) ?_
    refine RegL.nil ?_
    refine Ct.then_tr ?_
    refine Tr.weak (Γ' := [(0, (pSl 1 (cSl 1 (cK .i64)) a_0)), (1, (pSl 1 (cSl 1 (cK .i64)) b_1)), (5, (pEq (.int .i64 v2))), (14, (pEq (.bool (decide (v2 < (a_0.length : Int))))))]) ⟨rfl, rfl, rfl, rfl, trivial⟩ ?_
    refine Tr.cond (Opd.tmp rfl) (fun hc => ?_) (fun hc => ?_)
    · replace h := bif_t hc h
      refine Tr.skip ?_
      refine Ct.then_tr ?_
      refine Tr.weak (Γ' := [(0, (pSl 1 (cSl 1 (cK .i64)) a_0)), (1, (pSl 1 (cSl 1 (cK .i64)) b_1)), (5, (pEq (.int .i64 v2)))]) ⟨rfl, rfl, rfl, trivial⟩ ?_
      refine Tr.seq ?_
      refine Tr.block ?_
      refine Tr.seq ?_
      replace h := bind_some h; obtain ⟨x4, hx4, h⟩ := h
      replace h := bind_some h; obtain ⟨x5, hx5, h⟩ := h
      replace h := bind_some h; obtain ⟨x6, hx6, h⟩ := h
      refine Tr.drawD (n := 27) (m := 10) (es := [some (Ent.mk [(0, (pSl 1 (cSl 1 (cK .i64)) a_0))] (pSl 1 (cSl 1 (cK .i64)) a_0) true), some (Ent.mk [(5, (pEq (.int .i64 v2)))] (pEq (.int .i64 v2)) true), some (Ent.mk [(17, (pSl 1 (cSl 1 (cK .i64)) a_0)), (18, (pEq (.int .i64 v2)))] (pPtr ((cSl 1 (cK .i64)) x4)) true), some (Ent.mk [(19, (pPtr ((cSl 1 (cK .i64)) x4)))] (pSl 1 (cK .i64) x4) true), some (Ent.mk [(1, (pSl 1 (cSl 1 (cK .i64)) b_1))] (pSl 1 (cSl 1 (cK .i64)) b_1) true), some (Ent.mk [(5, (pEq (.int .i64 v2)))] (pEq (.int .i64 v2)) true), some (Ent.mk [(21, (pSl 1 (cSl 1 (cK .i64)) b_1)), (22, (pEq (.int .i64 v2)))] (pPtr ((cSl 1 (cK .i64)) x5)) true), some (Ent.mk [(23, (pPtr ((cSl 1 (cK .i64)) x5)))] (pSl 1 (cK .i64) x5) true), some (Ent.mk [(20, (pSl 1 (cK .i64) x4)), (24, (pSl 1 (cK .i64) x5))] (pEq (.bool x6)) true), some (Ent.mk [(25, (pEq (.bool x6)))] (pEq (.bool (!x6))) true)]) (rd := [[0], [5], [17, 18], [19], [1], [5], [21, 22], [23], [20, 24], [25]]) rfl hmix (by kernel_rfl) fun hD => ?_
      refine RD.fin (es := [Ent.mk [(0, (pSl 1 (cSl 1 (cK .i64)) a_0))] (pSl 1 (cSl 1 (cK .i64)) a_0) true, Ent.mk [(5, (pEq (.int .i64 v2)))] (pEq (.int .i64 v2)) true, Ent.mk [(17, (pSl 1 (cSl 1 (cK .i64)) a_0)), (18, (pEq (.int .i64 v2)))] (pPtr ((cSl 1 (cK .i64)) x4)) true, Ent.mk [(19, (pPtr ((cSl 1 (cK .i64)) x4)))] (pSl 1 (cK .i64) x4) true, Ent.mk [(1, (pSl 1 (cSl 1 (cK .i64)) b_1))] (pSl 1 (cSl 1 (cK .i64)) b_1) true, Ent.mk [(5, (pEq (.int .i64 v2)))] (pEq (.int .i64 v2)) true, Ent.mk [(21, (pSl 1 (cSl 1 (cK .i64)) b_1)), (22, (pEq (.int .i64 v2)))] (pPtr ((cSl 1 (cK .i64)) x5)) true, Ent.mk [(23, (pPtr ((cSl 1 (cK .i64)) x5)))] (pSl 1 (cK .i64) x5) true, Ent.mk [(20, (pSl 1 (cK .i64) x4)), (24, (pSl 1 (cK .i64) x5))] (pEq (.bool x6)) true, Ent.mk [(25, (pEq (.bool x6)))] (pEq (.bool (!x6))) true]) (done := []) hD ⟨.inr ⟨(OpJ.w (J_move rfl (Opd.tmp rfl))), ⟨rfl, trivial⟩, rfl, rfl⟩, ⟨.inr ⟨(OpJ.w (J_move rfl (Opd.tmp rfl))), ⟨rfl, trivial⟩, rfl, rfl⟩, ⟨.inr ⟨(OpJ.w (J_idx rfl Tryd.underlying28 sz22 (Opd.tmp rfl) (Opd.tmp rfl) hx4)), ⟨rfl, rfl, trivial⟩, rfl, rfl⟩, ⟨.inr ⟨(OpJ.w (J_load rfl Tryd.isAgg22 (Opd.tmp rfl))), ⟨rfl, trivial⟩, rfl, rfl⟩, ⟨.inr ⟨(OpJ.w (J_move rfl (Opd.tmp rfl))), ⟨rfl, trivial⟩, rfl, rfl⟩, ⟨.inr ⟨(OpJ.w (J_move rfl (Opd.tmp rfl))), ⟨rfl, trivial⟩, rfl, rfl⟩, ⟨.inr ⟨(OpJ.w (J_idx rfl Tryd.underlying28 sz22 (Opd.tmp rfl) (Opd.tmp rfl) hx5)), ⟨rfl, rfl, trivial⟩, rfl, rfl⟩, ⟨.inr ⟨(OpJ.w (J_load rfl Tryd.isAgg22 (Opd.tmp rfl))), ⟨rfl, trivial⟩, rfl, rfl⟩, ⟨.inr ⟨(OpJ.w (J_call rfl Tryd.call12 (c_laws_eqInt64S hx6) (Opds.cons (Opd.tmp rfl) (Opds.cons (Opd.tmp rfl) Opds.nil)))), ⟨rfl, rfl, trivial⟩, rfl, rfl⟩, ⟨.inr ⟨(OpJ.w (J_not rfl (Opd.tmp rfl))), ⟨rfl, trivial⟩, rfl, rfl⟩, trivial⟩⟩⟩⟩⟩⟩⟩⟩⟩⟩ ?_
      refine RegL.nil ?_
      refine Ct.then_tr ?_
      refine Tr.weak (Γ' := [(0, (pSl 1 (cSl 1 (cK .i64)) a_0)), (1, (pSl 1 (cSl 1 (cK .i64)) b_1)), (5, (pEq (.int .i64 v2))), (26, (pEq (.bool (!x6))))]) ⟨rfl, rfl, rfl, rfl, trivial⟩ ?_
      refine Tr.cond (Opd.tmp rfl) (fun hc => ?_) (fun hc => ?_)
      · replace h := bif_t hc h
        refine Tr.seq ?_
        refine Tr.region ?_
        refine RegL.pure (p := (pEq (.bool false))) rfl rfl rfl (J_assign rfl Opd.con) ?_
        refine RegL.nil ?_
        refine Ct.then_tr ?_
        refine Tr.weak (Γ' := [(4, (pEq (.bool false)))]) ⟨rfl, trivial⟩ ?_
        refine Tr.ret ?_
        refine Ct.blk_ret ?_
        refine Ct.then_ret ?_
        replace h := map_some h; obtain ⟨r1, h, rfl⟩ := h
        refine Ct.out_ret fun e => ?_
        subst e
        refine Ct.blk_ret ?_
        refine Ct.then_ret ?_
        replace h := Option.some.inj h; subst h
        exact Ct.retH1 (Ωx := []) () rfl (RvOk.tmp rfl) rfl
      · replace h := bif_f hc h
        refine Tr.skip ?_
        refine Ct.blk_normal ?_
        refine Ct.then_tr ?_
        refine Tr.weak (Γ' := [(0, (pSl 1 (cSl 1 (cK .i64)) a_0)), (1, (pSl 1 (cSl 1 (cK .i64)) b_1)), (5, (pEq (.int .i64 v2)))]) ⟨rfl, rfl, rfl, trivial⟩ ?_
        refine Tr.region ?_
        refine RegL.pure (p := (pEq (.int .i64 v2))) rfl rfl rfl (J_move rfl (Opd.tmp rfl)) ?_
        refine RegL.pure (p := (pEq (.int .i64 (w64 (v2 + (1 : Int)))))) rfl rfl rfl (J_bin rfl (Opd.tmp rfl) Opd.con B_add) ?_
        refine RegL.pure (p := (pEq (.int .i64 (w64 (v2 + (1 : Int)))))) rfl rfl rfl (J_assign rfl (Opd.tmp rfl)) ?_
        refine RegL.nil ?_
        replace h := Option.some.inj h; subst h
        exact Ct.again () rfl ⟨rfl, rfl, rfl, trivial⟩
    · replace h := bif_f hc h
      refine Tr.exit ?_
      refine Ct.then_exit ?_
      replace h := map_some h; obtain ⟨r1, h, rfl⟩ := h
      refine Ct.out_exit fun e => ?_
      subst e
      refine Ct.blk_exit ?_
      refine Ct.then_tr ?_
      refine Tr.weak (Γ' := []) trivial ?_
      refine Tr.seq ?_
      refine Tr.region ?_
      refine RegL.pure (p := (pEq (.bool true))) rfl rfl rfl (J_assign rfl Opd.con) ?_
      refine RegL.nil ?_
      refine Ct.then_tr ?_
      refine Tr.weak (Γ' := [(4, (pEq (.bool true)))]) ⟨rfl, trivial⟩ ?_
      refine Tr.ret ?_
      replace h := Option.some.inj h; subst h
      exact Ct.retH1 (Ωx := []) () rfl (RvOk.tmp rfl) rfl

theorem c_laws_FnExactWorstRatio {a_0 : (List (List Int))} {a_1 : (List Int)} {a_2 : (List Int)} {r : Bool} (h : m_laws_FnExactWorstRatio a_0 a_1 a_2 = some r) : CallJ Tryd.prog 4 [(pG (pTab 1 .u64 Lib.pow10Tab) (pSl 1 (cSl 1 (cK .i64)) a_0)), (pSl 1 (cK .i64) a_1), (pSl 1 (cK .i64) a_2)] (pEq (.bool r)) := by
  unfold m_laws_FnExactWorstRatio at h
  refine CallJ.enterH Tryd.func4 rfl Tryd.ntmps4 rfl fun W I0 H => ?_
  refine Tr.tab (s := 0) (k := 99999) rfl ?_; refine Tr.weak (Γ' := [(0, (pSl 1 (cSl 1 (cK .i64)) a_0)), (1, (pSl 1 (cK .i64) a_1)), (2, (pSl 1 (cK .i64) a_2)), (99999, (pTab 1 .u64 Lib.pow10Tab))]) ⟨rfl, rfl, rfl, rfl, trivial⟩ ?_
  refine Tr.seq ?_
  refine Tr.region ?_
  refine RegL.pure (p := (pEq (.bool false))) rfl rfl rfl (J_assign rfl Opd.con) ?_
  refine RegL.nil ?_
  refine Ct.then_tr ?_
  refine Tr.weak (Γ' := [(0, (pSl 1 (cSl 1 (cK .i64)) a_0)), (1, (pSl 1 (cK .i64) a_1)), (2, (pSl 1 (cK .i64) a_2)), (99999, (pTab 1 .u64 Lib.pow10Tab))]) ⟨rfl, rfl, rfl, rfl, trivial⟩ ?_
  refine Tr.seq ?_
  refine Tr.seq ?_
  refine Tr.region ?_
  refine RegL.pure (p := (pSl 1 (cK .i64) a_1)) rfl rfl rfl (J_move rfl (Opd.tmp rfl)) ?_
  refine RegL.pure (p := (pEq (.int .i64 (a_1.length : Int)))) rfl rfl rfl (J_len rfl Tryd.underlying22 (Opd.tmp rfl) rfl) ?_
  refine RegL.pure (p := (pEq (.bool (decide ((1048576 : Int) < (a_1.length : Int)))))) rfl rfl rfl (J_bin rfl (Opd.tmp rfl) Opd.con B_gtr) ?_
  refine RegL.nil ?_
  refine Ct.then_tr ?_
  refine Tr.weak (Γ' := [(0, (pSl 1 (cSl 1 (cK .i64)) a_0)), (1, (pSl 1 (cK .i64) a_1)), (2, (pSl 1 (cK .i64) a_2)), (19, (pEq (.bool (decide ((1048576 : Int) < (a_1.length : Int)))))), (99999, (pTab 1 .u64 Lib.pow10Tab))]) ⟨rfl, rfl, rfl, rfl, rfl, trivial⟩ ?_
  refine Tr.cond (Opd.tmp rfl) (fun hc => ?_) (fun hc => ?_)
  · replace h := bif_t hc h
    refine Tr.seq ?_
    refine Tr.region ?_
    refine RegL.pure (p := (pEq (.bool true))) rfl rfl rfl (J_assign rfl Opd.con) ?_
    refine RegL.nil ?_
    refine Ct.then_tr ?_
    refine Tr.weak (Γ' := [(6, (pEq (.bool true))), (99999, (pTab 1 .u64 Lib.pow10Tab))]) ⟨rfl, rfl, trivial⟩ ?_
    refine Tr.ret ?_
    refine Ct.then_ret ?_
    replace h := Option.some.inj h; subst h
    exact Ct.retH1 (Ωx := []) () rfl (RvOk.tmp rfl) rfl
  · replace h := bif_f hc h
    refine Tr.skip ?_
    refine Ct.then_tr ?_
    refine Tr.weak (Γ' := [(0, (pSl 1 (cSl 1 (cK .i64)) a_0)), (1, (pSl 1 (cK .i64) a_1)), (2, (pSl 1 (cK .i64) a_2)), (99999, (pTab 1 .u64 Lib.pow10Tab))]) ⟨rfl, rfl, rfl, rfl, trivial⟩ ?_
    refine Tr.seq ?_
    refine Tr.seq ?_
    refine Tr.region ?_
    refine RegL.pure (p := (pSl 1 (cK .i64) a_2)) rfl rfl rfl (J_move rfl (Opd.tmp rfl)) ?_
    refine RegL.pure (p := (pEq (.int .i64 (a_2.length : Int)))) rfl rfl rfl (J_len rfl Tryd.underlying22 (Opd.tmp rfl) rfl) ?_
    refine RegL.pure (p := (pEq (.bool (decide ((1048576 : Int) < (a_2.length : Int)))))) rfl rfl rfl (J_bin rfl (Opd.tmp rfl) Opd.con B_gtr) ?_
    refine RegL.nil ?_
    refine Ct.then_tr ?_
    refine Tr.weak (Γ' := [(0, (pSl 1 (cSl 1 (cK .i64)) a_0)), (1, (pSl 1 (cK .i64) a_1)), (2, (pSl 1 (cK .i64) a_2)), (22, (pEq (.bool (decide ((1048576 : Int) < (a_2.length : Int)))))), (99999, (pTab 1 .u64 Lib.pow10Tab))]) ⟨rfl, rfl, rfl, rfl, rfl, trivial⟩ ?_
    refine Tr.cond (Opd.tmp rfl) (fun hc => ?_) (fun hc => ?_)
    · replace h := bif_t hc h
      refine Tr.seq ?_
      refine Tr.region ?_
      refine RegL.pure (p := (pEq (.bool true))) rfl rfl rfl (J_assign rfl Opd.con) ?_
      refine RegL.nil ?_
      refine Ct.then_tr ?_
      refine Tr.weak (Γ' := [(6, (pEq (.bool true))), (99999, (pTab 1 .u64 Lib.pow10Tab))]) ⟨rfl, rfl, trivial⟩ ?_
      refine Tr.ret ?_
      refine Ct.then_ret ?_
      replace h := Option.some.inj h; subst h
      exact Ct.retH1 (Ωx := []) () rfl (RvOk.tmp rfl) rfl
    · replace h := bif_f hc h
      refine Tr.skip ?_
      refine Ct.then_tr ?_
      refine Tr.weak (Γ' := [(0, (pSl 1 (cSl 1 (cK .i64)) a_0)), (1, (pSl 1 (cK .i64) a_1)), (2, (pSl 1 (cK .i64) a_2)), (99999, (pTab 1 .u64 Lib.pow10Tab))]) ⟨rfl, rfl, rfl, rfl, trivial⟩ ?_
      refine Tr.seq ?_
      refine Tr.region ?_
      refine RegL.pure (p := (pEq (.int .i64 (1048576 : Int)))) rfl rfl rfl (J_assign rfl Opd.con) ?_
      refine RegL.nil ?_
      refine Ct.then_tr ?_
      refine Tr.weak (Γ' := [(0, (pSl 1 (cSl 1 (cK .i64)) a_0)), (1, (pSl 1 (cK .i64) a_1)), (2, (pSl 1 (cK .i64) a_2)), (7, (pEq (.int .i64 (1048576 : Int)))), (99999, (pTab 1 .u64 Lib.pow10Tab))]) ⟨rfl, rfl, rfl, rfl, rfl, trivial⟩ ?_
      refine Tr.seq ?_
      refine Tr.region ?_
      refine RegL.pure (p := (pSl 1 (cSl 1 (cK .i64)) a_0)) rfl rfl rfl (J_move rfl (Opd.tmp rfl)) ?_
      refine RegL.pure (p := (pEq (.int .i64 (1048576 : Int)))) rfl rfl rfl (J_move rfl (Opd.tmp rfl)) ?_
      replace h := bind_some h; obtain ⟨x1, hx1, h⟩ := h
      refine RegL.pure (p := (pEq (.int .i64 x1))) rfl rfl rfl (J_call rfl Tryd.call13 (c_laws_szInt64SS hx1) (Opds.cons (Opd.tmp rfl) (Opds.cons (Opd.tmp rfl) Opds.nil))) ?_
      refine RegL.pure (p := (pEq (.int .i64 x1))) rfl rfl rfl (J_assign rfl (Opd.tmp rfl)) ?_
      refine RegL.nil ?_
      refine Ct.then_tr ?_
      refine Tr.weak (Γ' := [(0, (pSl 1 (cSl 1 (cK .i64)) a_0)), (1, (pSl 1 (cK .i64) a_1)), (2, (pSl 1 (cK .i64) a_2)), (7, (pEq (.int .i64 x1))), (99999, (pTab 1 .u64 Lib.pow10Tab))]) ⟨rfl, rfl, rfl, rfl, rfl, trivial⟩ ?_
      refine Tr.seq ?_
      refine Tr.seq ?_
      refine Tr.region ?_
      refine RegL.pure (p := (pEq (.int .i64 x1))) rfl rfl rfl (J_move rfl (Opd.tmp rfl)) ?_
      refine RegL.pure (p := (pEq (.bool (decide (x1 < (0 : Int)))))) rfl rfl rfl (J_bin rfl (Opd.tmp rfl) Opd.con B_lss) ?_
      refine RegL.nil ?_
      refine Ct.then_tr ?_
      refine Tr.weak (Γ' := [(0, (pSl 1 (cSl 1 (cK .i64)) a_0)), (1, (pSl 1 (cK .i64) a_1)), (2, (pSl 1 (cK .i64) a_2)), (27, (pEq (.bool (decide (x1 < (0 : Int)))))), (99999, (pTab 1 .u64 Lib.pow10Tab))]) ⟨rfl, rfl, rfl, rfl, rfl, trivial⟩ ?_
      refine Tr.cond (Opd.tmp rfl) (fun hc => ?_) (fun hc => ?_)
      · replace h := bif_t hc h
        refine Tr.seq ?_
        refine Tr.region ?_
        refine RegL.pure (p := (pEq (.bool true))) rfl rfl rfl (J_assign rfl Opd.con) ?_
        refine RegL.nil ?_
        refine Ct.then_tr ?_
        refine Tr.weak (Γ' := [(6, (pEq (.bool true))), (99999, (pTab 1 .u64 Lib.pow10Tab))]) ⟨rfl, rfl, trivial⟩ ?_
        refine Tr.ret ?_
        refine Ct.then_ret ?_
        replace h := Option.some.inj h; subst h
        exact Ct.retH1 (Ωx := []) () rfl (RvOk.tmp rfl) rfl
      · replace h := bif_f hc h
        refine Tr.skip ?_
        refine Ct.then_tr ?_
        refine Tr.weak (Γ' := [(0, (pSl 1 (cSl 1 (cK .i64)) a_0)), (1, (pSl 1 (cK .i64) a_1)), (2, (pSl 1 (cK .i64) a_2)), (99999, (pTab 1 .u64 Lib.pow10Tab))]) ⟨rfl, rfl, rfl, rfl, trivial⟩ ?_
        refine Tr.seq ?_
        refine Tr.region ?_
        refine RegL.pure (p := (pSl 1 (cSl 1 (cK .i64)) a_0)) rfl rfl rfl (J_move rfl (Opd.tmp rfl)) ?_
        replace h := bind_some h; obtain ⟨x2, hx2, h⟩ := h
        refine RegL.pure (p := (pSl 1 (cSl 1 (cK .i64)) x2)) rfl rfl rfl (J_call rfl Tryd.call15 (c_laws_toInt64SS hx2) (Opds.cons (Opd.tmp rfl) Opds.nil)) ?_
        refine RegL.pure (p := (pSl 1 (cK .i64) a_1)) rfl rfl rfl (J_move rfl (Opd.tmp rfl)) ?_
        replace h := bind_some h; obtain ⟨x3, hx3, h⟩ := h
        refine RegL.pure (p := (pSl 1 (cK .i64) x3)) rfl rfl rfl (J_call rfl Tryd.call10 (c_laws_toInt64S hx3) (Opds.cons (Opd.tmp rfl) Opds.nil)) ?_
        refine RegL.pure (p := (pSl 1 (cK .i64) a_2)) rfl rfl rfl (J_move rfl (Opd.tmp rfl)) ?_
        replace h := bind_some h; obtain ⟨x4, hx4, h⟩ := h
        refine RegL.pure (p := (pSl 1 (cK .i64) x4)) rfl rfl rfl (J_call rfl Tryd.call10 (c_laws_toInt64S hx4) (Opds.cons (Opd.tmp rfl) Opds.nil)) ?_
        replace h := bind_some h; obtain ⟨x5, hx5, h⟩ := h
        refine RegL.pure (p := (pTup [(pEq (.int .i64 x5.1)), (pEq (.int .i64 x5.2.1)), (pEq (.int .i64 x5.2.2))])) rfl rfl rfl (J_call rfl Tryd.call14 (c_spec_WorstRatio hx5) (Opds.cons (Opd.tmp rfl) (Opds.cons (Opd.tmp rfl) (Opds.cons (Opd.tmp rfl) Opds.nil)))) ?_
        refine RegL.pure (p := (pTup [(pEq (.int .i64 x5.1)), (pEq (.int .i64 x5.2.1)), (pEq (.int .i64 x5.2.2))])) rfl rfl rfl (J_move rfl (Opd.tmp rfl)) ?_
        refine RegL.pure (p := (pEq (.int .i64 x5.1))) rfl rfl rfl (J_extract rfl (Opd.tmp rfl) rfl) ?_
        refine RegL.pure (p := (pEq (.int .i64 x5.2.1))) rfl rfl rfl (J_extract rfl (Opd.tmp rfl) rfl) ?_
        refine RegL.pure (p := (pEq (.int .i64 x5.2.2))) rfl rfl rfl (J_extract rfl (Opd.tmp rfl) rfl) ?_
        refine RegL.pure (p := (pEq (.int .i64 x5.1))) rfl rfl rfl (J_assign rfl (Opd.tmp rfl)) ?_
        refine RegL.pure (p := (pEq (.int .i64 x5.2.1))) rfl rfl rfl (J_assign rfl (Opd.tmp rfl)) ?_
        refine RegL.pure (p := (pEq (.int .i64 x5.2.2))) rfl rfl rfl (J_assign rfl (Opd.tmp rfl)) ?_
        refine RegL.nil ?_
        refine Ct.then_tr ?_
        refine Tr.weak (Γ' := [(0, (pSl 1 (cSl 1 (cK .i64)) a_0)), (1, (pSl 1 (cK .i64) a_1)), (2, (pSl 1 (cK .i64) a_2)), (8, (pEq (.int .i64 x5.1))), (9, (pEq (.int .i64 x5.2.1))), (10, (pEq (.int .i64 x5.2.2))), (99999, (pTab 1 .u64 Lib.pow10Tab))]) ⟨rfl, rfl, rfl, rfl, rfl, rfl, rfl, trivial⟩ ?_
        refine Tr.seq ?_
        refine Tr.region ?_
        refine RegL.pure (p := (pSl 1 (cSl 1 (cK .i64)) a_0)) rfl rfl rfl (J_move rfl (Opd.tmp rfl)) ?_
        replace h := bind_some h; obtain ⟨x6, hx6, h⟩ := h
        refine RegL.pure (p := (pSl 1 (cSl 1 (cK .i64)) x6)) rfl rfl rfl (J_call rfl Tryd.call15 (c_laws_toInt64SS hx6) (Opds.cons (Opd.tmp rfl) Opds.nil)) ?_
        refine RegL.pure (p := (pSl 1 (cSl 1 (cK .i64)) x6)) rfl rfl rfl (J_assign rfl (Opd.tmp rfl)) ?_
        refine RegL.nil ?_
        refine Ct.then_tr ?_
        refine Tr.weak (Γ' := [(0, (pSl 1 (cSl 1 (cK .i64)) a_0)), (1, (pSl 1 (cK .i64) a_1)), (2, (pSl 1 (cK .i64) a_2)), (8, (pEq (.int .i64 x5.1))), (9, (pEq (.int .i64 x5.2.1))), (10, (pEq (.int .i64 x5.2.2))), (11, (pSl 1 (cSl 1 (cK .i64)) x6)), (99999, (pTab 1 .u64 Lib.pow10Tab))]) ⟨rfl, rfl, rfl, rfl, rfl, rfl, rfl, rfl, trivial⟩ ?_
        refine Tr.seq ?_
        refine Tr.region ?_
        refine RegL.pure (p := (pSl 1 (cK .i64) a_1)) rfl rfl rfl (J_move rfl (Opd.tmp rfl)) ?_
        replace h := bind_some h; obtain ⟨x7, hx7, h⟩ := h
        refine RegL.pure (p := (pSl 1 (cK .i64) x7)) rfl rfl rfl (J_call rfl Tryd.call10 (c_laws_toInt64S hx7) (Opds.cons (Opd.tmp rfl) Opds.nil)) ?_
        refine RegL.pure (p := (pSl 1 (cK .i64) x7)) rfl rfl rfl (J_assign rfl (Opd.tmp rfl)) ?_
        refine RegL.nil ?_
        refine Ct.then_tr ?_
        refine Tr.weak (Γ' := [(0, (pSl 1 (cSl 1 (cK .i64)) a_0)), (1, (pSl 1 (cK .i64) a_1)), (2, (pSl 1 (cK .i64) a_2)), (8, (pEq (.int .i64 x5.1))), (9, (pEq (.int .i64 x5.2.1))), (10, (pEq (.int .i64 x5.2.2))), (11, (pSl 1 (cSl 1 (cK .i64)) x6)), (12, (pSl 1 (cK .i64) x7)), (99999, (pTab 1 .u64 Lib.pow10Tab))]) ⟨rfl, rfl, rfl, rfl, rfl, rfl, rfl, rfl, rfl, trivial⟩ ?_
        refine Tr.seq ?_
        refine Tr.region ?_
        refine RegL.pure (p := (pSl 1 (cK .i64) a_2)) rfl rfl rfl (J_move rfl (Opd.tmp rfl)) ?_
        replace h := bind_some h; obtain ⟨x8, hx8, h⟩ := h
        refine RegL.pure (p := (pSl 1 (cK .i64) x8)) rfl rfl rfl (J_call rfl Tryd.call10 (c_laws_toInt64S hx8) (Opds.cons (Opd.tmp rfl) Opds.nil)) ?_
        refine RegL.pure (p := (pSl 1 (cK .i64) x8)) rfl rfl rfl (J_assign rfl (Opd.tmp rfl)) ?_
        refine RegL.nil ?_
        refine Ct.then_tr ?_
        refine Tr.weak (Γ' := [(0, (pSl 1 (cSl 1 (cK .i64)) a_0)), (1, (pSl 1 (cK .i64) a_1)), (2, (pSl 1 (cK .i64) a_2)), (8, (pEq (.int .i64 x5.1))), (9, (pEq (.int .i64 x5.2.1))), (10, (pEq (.int .i64 x5.2.2))), (11, (pSl 1 (cSl 1 (cK .i64)) x6)), (12, (pSl 1 (cK .i64) x7)), (13, (pSl 1 (cK .i64) x8)), (99999, (pTab 1 .u64 Lib.pow10Tab))]) ⟨rfl, rfl, rfl, rfl, rfl, rfl, rfl, rfl, rfl, rfl, trivial⟩ ?_
        refine Tr.seq ?_
        refine Tr.region ?_
        refine RegL.pure (p := (pSl 1 (cSl 1 (cK .i64)) x6)) rfl rfl rfl (J_move rfl (Opd.tmp rfl)) ?_
        refine RegL.pure (p := (pSl 1 (cK .i64) x7)) rfl rfl rfl (J_move rfl (Opd.tmp rfl)) ?_
        refine RegL.pure (p := (pSl 1 (cK .i64) x8)) rfl rfl rfl (J_move rfl (Opd.tmp rfl)) ?_
        replace h := bind_some h; obtain ⟨x9, hx9, h⟩ := h
        refine RegL.pure (p := (pTup [(pEq (.int .i64 x9.1)), (pEq (.int .i64 x9.2.1)), (pEq (.int .i64 x9.2.2))])) rfl rfl rfl (J_call rfl Tryd.call16 (c_impl_WorstRatio hx9) (Opds.cons (Opd.tab (Opd.tmp rfl) 99999 rfl) (Opds.cons (Opd.tmp rfl) (Opds.cons (Opd.tmp rfl) Opds.nil)))) ?_
        refine RegL.pure (p := (pTup [(pEq (.int .i64 x9.1)), (pEq (.int .i64 x9.2.1)), (pEq (.int .i64 x9.2.2))])) rfl rfl rfl (J_move rfl (Opd.tmp rfl)) ?_
        refine RegL.pure (p := (pEq (.int .i64 x9.1))) rfl rfl rfl (J_extract rfl (Opd.tmp rfl) rfl) ?_
        refine RegL.pure (p := (pEq (.int .i64 x9.2.1))) rfl rfl rfl (J_extract rfl (Opd.tmp rfl) rfl) ?_
        refine RegL.pure (p := (pEq (.int .i64 x9.2.2))) rfl rfl rfl (J_extract rfl (Opd.tmp rfl) rfl) ?_
        refine RegL.pure (p := (pEq (.int .i64 x9.1))) rfl rfl rfl (J_assign rfl (Opd.tmp rfl)) ?_
        refine RegL.pure (p := (pEq (.int .i64 x9.2.1))) rfl rfl rfl (J_assign rfl (Opd.tmp rfl)) ?_
        refine RegL.pure (p := (pEq (.int .i64 x9.2.2))) rfl rfl rfl (J_assign rfl (Opd.tmp rfl)) ?_
        refine RegL.nil ?_
        refine Ct.then_tr ?_
        refine Tr.weak (Γ' := [(0, (pSl 1 (cSl 1 (cK .i64)) a_0)), (1, (pSl 1 (cK .i64) a_1)), (2, (pSl 1 (cK .i64) a_2)), (8, (pEq (.int .i64 x5.1))), (9, (pEq (.int .i64 x5.2.1))), (10, (pEq (.int .i64 x5.2.2))), (11, (pSl 1 (cSl 1 (cK .i64)) x6)), (12, (pSl 1 (cK .i64) x7)), (13, (pSl 1 (cK .i64) x8)), (14, (pEq (.int .i64 x9.1))), (15, (pEq (.int .i64 x9.2.1))), (16, (pEq (.int .i64 x9.2.2))), (99999, (pTab 1 .u64 Lib.pow10Tab))]) ⟨rfl, rfl, rfl, rfl, rfl, rfl, rfl, rfl, rfl, rfl, rfl, rfl, rfl, trivial⟩ ?_
        refine Tr.seq ?_
        refine Tr.seq ?_
        replace h := bind_some h; obtain ⟨x10, hx10, h⟩ := h
        refine Tr.cut (γ := Unit) (Γm := fun g => [(0, (pSl 1 (cSl 1 (cK .i64)) a_0)), (1, (pSl 1 (cK .i64) a_1)), (2, (pSl 1 (cK .i64) a_2)), (11, (pSl 1 (cSl 1 (cK .i64)) x6)), (12, (pSl 1 (cK .i64) x7)), (13, (pSl 1 (cK .i64) x8)), (65, (pEq (.bool x10))), (99999, (pTab 1 .u64 Lib.pow10Tab))]) (Ωm := fun g => []) ?_ (fun g13 => ?_)
        · clear h
          have h := hx10
          clear hx10
          refine Tr.region ?_
          refine RegL.pure (p := (pEq (.int .i64 x9.1))) rfl rfl rfl (J_move rfl (Opd.tmp rfl)) ?_
          refine RegL.pure (p := (pEq (.int .i64 x5.1))) rfl rfl rfl (J_move rfl (Opd.tmp rfl)) ?_
          refine RegL.pure (p := (pEq (.bool (x9.1 != x5.1)))) rfl rfl rfl (J_bin rfl (Opd.tmp rfl) (Opd.tmp rfl) B_neq) ?_
          refine RegL.pure (p := (pEq (.bool (x9.1 != x5.1)))) rfl rfl rfl (J_move rfl (Opd.tmp rfl)) ?_
          rcases Bool.eq_false_or_eq_true (x9.1 != x5.1) with hc11 | hc11
          · replace h := bif_t hc11 h
            refine RegL.skipG rfl rfl rfl hc11 rfl rfl ?_
            refine RegL.skipG rfl rfl rfl hc11 rfl rfl ?_
            refine RegL.skipG rfl rfl rfl hc11 rfl rfl ?_
            refine RegL.pure (p := (pEq (.bool true))) rfl rfl rfl (J_pick rfl (Opd.tmp rfl) (fun _ => Opd.con) (fun hf => absurd (hc11.symm.trans hf) (by decide))) ?_
            refine RegL.pure (p := (pEq (.bool true))) rfl rfl rfl (J_move rfl (Opd.tmp rfl)) ?_
            refine RegL.skipG rfl rfl rfl rfl rfl rfl ?_
            refine RegL.skipG rfl rfl rfl rfl rfl rfl ?_
            refine RegL.skipG rfl rfl rfl rfl rfl rfl ?_
            refine RegL.pure (p := (pEq (.bool true))) rfl rfl rfl (J_pick rfl (Opd.tmp rfl) (fun _ => Opd.con) (fun hf => absurd hf (by decide))) ?_
            refine RegL.nil ?_
            replace h := Option.some.inj h; subst h
            exact Ct.mid () rfl ⟨rfl, rfl, rfl, rfl, rfl, rfl, rfl, rfl, trivial⟩
          · replace h := bif_f hc11 h
            refine RegL.pureG (p := (pEq (.int .i64 x9.2.1))) rfl rfl rfl hc11 rfl rfl (J_move rfl (Opd.tmp rfl)) ?_
            refine RegL.pureG (p := (pEq (.int .i64 x5.2.1))) rfl rfl rfl hc11 rfl rfl (J_move rfl (Opd.tmp rfl)) ?_
            refine RegL.pureG (p := (pEq (.bool (x9.2.1 != x5.2.1)))) rfl rfl rfl hc11 rfl rfl (J_bin rfl (Opd.tmp rfl) (Opd.tmp rfl) B_neq) ?_
            refine RegL.pure (p := (pEq (.bool (x9.2.1 != x5.2.1)))) rfl rfl rfl (J_pick rfl (Opd.tmp rfl) (fun hf => absurd (hc11.symm.trans hf) (by decide)) (fun _ => (Opd.tmp rfl))) ?_
            refine RegL.pure (p := (pEq (.bool (x9.2.1 != x5.2.1)))) rfl rfl rfl (J_move rfl (Opd.tmp rfl)) ?_
            rcases Bool.eq_false_or_eq_true (x9.2.1 != x5.2.1) with hc12 | hc12
            · replace h := bif_t hc12 h
              refine RegL.skipG rfl rfl rfl hc12 rfl rfl ?_
              refine RegL.skipG rfl rfl rfl hc12 rfl rfl ?_
              refine RegL.skipG rfl rfl rfl hc12 rfl rfl ?_
              refine RegL.pure (p := (pEq (.bool true))) rfl rfl rfl (J_pick rfl (Opd.tmp rfl) (fun _ => Opd.con) (fun hf => absurd (hc12.symm.trans hf) (by decide))) ?_
              refine RegL.nil ?_
              replace h := Option.some.inj h; subst h
              exact Ct.mid () rfl ⟨rfl, rfl, rfl, rfl, rfl, rfl, rfl, rfl, trivial⟩
            · replace h := bif_f hc12 h
              refine RegL.pureG (p := (pEq (.int .i64 x9.2.2))) rfl rfl rfl hc12 rfl rfl (J_move rfl (Opd.tmp rfl)) ?_
              refine RegL.pureG (p := (pEq (.int .i64 x5.2.2))) rfl rfl rfl hc12 rfl rfl (J_move rfl (Opd.tmp rfl)) ?_
              refine RegL.pureG (p := (pEq (.bool (x9.2.2 != x5.2.2)))) rfl rfl rfl hc12 rfl rfl (J_bin rfl (Opd.tmp rfl) (Opd.tmp rfl) B_neq) ?_
              refine RegL.pure (p := (pEq (.bool (x9.2.2 != x5.2.2)))) rfl rfl rfl (J_pick rfl (Opd.tmp rfl) (fun hf => absurd (hc12.symm.trans hf) (by decide)) (fun _ => (Opd.tmp rfl))) ?_
              refine RegL.nil ?_
              replace h := Option.some.inj h; subst h
              exact Ct.mid () rfl ⟨rfl, rfl, rfl, rfl, rfl, rfl, rfl, rfl, trivial⟩
        · clear hx10
          refine Ct.then_tr ?_
          refine Tr.weak (Γ' := [(0, (pSl 1 (cSl 1 (cK .i64)) a_0)), (1, (pSl 1 (cK .i64) a_1)), (2, (pSl 1 (cK .i64) a_2)), (11, (pSl 1 (cSl 1 (cK .i64)) x6)), (12, (pSl 1 (cK .i64) x7)), (13, (pSl 1 (cK .i64) x8)), (65, (pEq (.bool x10))), (99999, (pTab 1 .u64 Lib.pow10Tab))]) ⟨rfl, rfl, rfl, rfl, rfl, rfl, rfl, rfl, trivial⟩ ?_
          refine Tr.cond (Opd.tmp rfl) (fun hc => ?_) (fun hc => ?_)
          · replace h := bif_t hc h
            refine Tr.seq ?_
            refine Tr.region ?_
            refine RegL.pure (p := (pEq (.bool false))) rfl rfl rfl (J_assign rfl Opd.con) ?_
            refine RegL.nil ?_
            refine Ct.then_tr ?_
            refine Tr.weak (Γ' := [(6, (pEq (.bool false))), (99999, (pTab 1 .u64 Lib.pow10Tab))]) ⟨rfl, rfl, trivial⟩ ?_
            refine Tr.ret ?_
            refine Ct.then_ret ?_
            replace h := Option.some.inj h; subst h
            exact Ct.retH1 (Ωx := []) () rfl (RvOk.tmp rfl) rfl
          · replace h := bif_f hc h
            refine Tr.skip ?_
            refine Ct.then_tr ?_
            refine Tr.weak (Γ' := [(0, (pSl 1 (cSl 1 (cK .i64)) a_0)), (1, (pSl 1 (cK .i64) a_1)), (2, (pSl 1 (cK .i64) a_2)), (11, (pSl 1 (cSl 1 (cK .i64)) x6)), (12, (pSl 1 (cK .i64) x7)), (13, (pSl 1 (cK .i64) x8)), (99999, (pTab 1 .u64 Lib.pow10Tab))]) ⟨rfl, rfl, rfl, rfl, rfl, rfl, rfl, trivial⟩ ?_
            refine Tr.seq ?_
            refine Tr.seq ?_
            refine Tr.region ?_
            refine RegL.pure (p := (pSl 1 (cSl 1 (cK .i64)) x6)) rfl rfl rfl (J_move rfl (Opd.tmp rfl)) ?_
            refine RegL.pure (p := (pSl 1 (cSl 1 (cK .i64)) a_0)) rfl rfl rfl (J_move rfl (Opd.tmp rfl)) ?_
            replace h := bind_some h; obtain ⟨x14, hx14, h⟩ := h
            refine RegL.pure (p := (pSl 1 (cSl 1 (cK .i64)) x14)) rfl rfl rfl (J_call rfl Tryd.call15 (c_laws_toInt64SS hx14) (Opds.cons (Opd.tmp rfl) Opds.nil)) ?_
            replace h := bind_some h; obtain ⟨x15, hx15, h⟩ := h
            refine RegL.pure (p := (pEq (.bool x15))) rfl rfl rfl (J_call rfl Tryd.call17 (c_laws_eqInt64SS hx15) (Opds.cons (Opd.tmp rfl) (Opds.cons (Opd.tmp rfl) Opds.nil))) ?_
            refine RegL.pure (p := (pEq (.bool (!x15)))) rfl rfl rfl (J_not rfl (Opd.tmp rfl)) ?_
            refine RegL.nil ?_
            refine Ct.then_tr ?_
            refine Tr.weak (Γ' := [(1, (pSl 1 (cK .i64) a_1)), (2, (pSl 1 (cK .i64) a_2)), (12, (pSl 1 (cK .i64) x7)), (13, (pSl 1 (cK .i64) x8)), (70, (pEq (.bool (!x15)))), (99999, (pTab 1 .u64 Lib.pow10Tab))]) ⟨rfl, rfl, rfl, rfl, rfl, rfl, trivial⟩ ?_
            refine Tr.cond (Opd.tmp rfl) (fun hc => ?_) (fun hc => ?_)
            · replace h := bif_t hc h
              refine Tr.seq ?_
              refine Tr.region ?_
              refine RegL.pure (p := (pEq (.bool false))) rfl rfl rfl (J_assign rfl Opd.con) ?_
              refine RegL.nil ?_
              refine Ct.then_tr ?_
              refine Tr.weak (Γ' := [(6, (pEq (.bool false))), (99999, (pTab 1 .u64 Lib.pow10Tab))]) ⟨rfl, rfl, trivial⟩ ?_
              refine Tr.ret ?_
              refine Ct.then_ret ?_
              replace h := Option.some.inj h; subst h
              exact Ct.retH1 (Ωx := []) () rfl (RvOk.tmp rfl) rfl
            · replace h := bif_f hc h
              refine Tr.skip ?_
              refine Ct.then_tr ?_
              refine Tr.weak (Γ' := [(1, (pSl 1 (cK .i64) a_1)), (2, (pSl 1 (cK .i64) a_2)), (12, (pSl 1 (cK .i64) x7)), (13, (pSl 1 (cK .i64) x8)), (99999, (pTab 1 .u64 Lib.pow10Tab))]) ⟨rfl, rfl, rfl, rfl, rfl, trivial⟩ ?_
              refine Tr.seq ?_
              refine Tr.seq ?_
              refine Tr.region ?_
              refine RegL.pure (p := (pSl 1 (cK .i64) x7)) rfl rfl rfl (J_move rfl (Opd.tmp rfl)) ?_
              refine RegL.pure (p := (pSl 1 (cK .i64) a_1)) rfl rfl rfl (J_move rfl (Opd.tmp rfl)) ?_
              replace h := bind_some h; obtain ⟨x16, hx16, h⟩ := h
              refine RegL.pure (p := (pSl 1 (cK .i64) x16)) rfl rfl rfl (J_call rfl Tryd.call10 (c_laws_toInt64S hx16) (Opds.cons (Opd.tmp rfl) Opds.nil)) ?_
              replace h := bind_some h; obtain ⟨x17, hx17, h⟩ := h
              refine RegL.pure (p := (pEq (.bool x17))) rfl rfl rfl (J_call rfl Tryd.call12 (c_laws_eqInt64S hx17) (Opds.cons (Opd.tmp rfl) (Opds.cons (Opd.tmp rfl) Opds.nil))) ?_
              refine RegL.pure (p := (pEq (.bool (!x17)))) rfl rfl rfl (J_not rfl (Opd.tmp rfl)) ?_
              refine RegL.nil ?_
              refine Ct.then_tr ?_
              refine Tr.weak (Γ' := [(2, (pSl 1 (cK .i64) a_2)), (13, (pSl 1 (cK .i64) x8)), (75, (pEq (.bool (!x17)))), (99999, (pTab 1 .u64 Lib.pow10Tab))]) ⟨rfl, rfl, rfl, rfl, trivial⟩ ?_
              refine Tr.cond (Opd.tmp rfl) (fun hc => ?_) (fun hc => ?_)
              · replace h := bif_t hc h
                refine Tr.seq ?_
                refine Tr.region ?_
                refine RegL.pure (p := (pEq (.bool false))) rfl rfl rfl (J_assign rfl Opd.con) ?_
                refine RegL.nil ?_
                refine Ct.then_tr ?_
                refine Tr.weak (Γ' := [(6, (pEq (.bool false))), (99999, (pTab 1 .u64 Lib.pow10Tab))]) ⟨rfl, rfl, trivial⟩ ?_
                refine Tr.ret ?_
                refine Ct.then_ret ?_
                replace h := Option.some.inj h; subst h
                exact Ct.retH1 (Ωx := []) () rfl (RvOk.tmp rfl) rfl
              · replace h := bif_f hc h
                refine Tr.skip ?_
                refine Ct.then_tr ?_
                refine Tr.weak (Γ' := [(2, (pSl 1 (cK .i64) a_2)), (13, (pSl 1 (cK .i64) x8)), (99999, (pTab 1 .u64 Lib.pow10Tab))]) ⟨rfl, rfl, rfl, trivial⟩ ?_
                refine Tr.seq ?_
                refine Tr.seq ?_
                refine Tr.region ?_
                refine RegL.pure (p := (pSl 1 (cK .i64) x8)) rfl rfl rfl (J_move rfl (Opd.tmp rfl)) ?_
                refine RegL.pure (p := (pSl 1 (cK .i64) a_2)) rfl rfl rfl (J_move rfl (Opd.tmp rfl)) ?_
                replace h := bind_some h; obtain ⟨x18, hx18, h⟩ := h
                refine RegL.pure (p := (pSl 1 (cK .i64) x18)) rfl rfl rfl (J_call rfl Tryd.call10 (c_laws_toInt64S hx18) (Opds.cons (Opd.tmp rfl) Opds.nil)) ?_
                replace h := bind_some h; obtain ⟨x19, hx19, h⟩ := h
                refine RegL.pure (p := (pEq (.bool x19))) rfl rfl rfl (J_call rfl Tryd.call12 (c_laws_eqInt64S hx19) (Opds.cons (Opd.tmp rfl) (Opds.cons (Opd.tmp rfl) Opds.nil))) ?_
                refine RegL.pure (p := (pEq (.bool (!x19)))) rfl rfl rfl (J_not rfl (Opd.tmp rfl)) ?_
                refine RegL.nil ?_
                refine Ct.then_tr ?_
                refine Tr.weak (Γ' := [(80, (pEq (.bool (!x19)))), (99999, (pTab 1 .u64 Lib.pow10Tab))]) ⟨rfl, rfl, trivial⟩ ?_
                refine Tr.cond (Opd.tmp rfl) (fun hc => ?_) (fun hc => ?_)
                · replace h := bif_t hc h
                  refine Tr.seq ?_
                  refine Tr.region ?_
                  refine RegL.pure (p := (pEq (.bool false))) rfl rfl rfl (J_assign rfl Opd.con) ?_
                  refine RegL.nil ?_
                  refine Ct.then_tr ?_
                  refine Tr.weak (Γ' := [(6, (pEq (.bool false))), (99999, (pTab 1 .u64 Lib.pow10Tab))]) ⟨rfl, rfl, trivial⟩ ?_
                  refine Tr.ret ?_
                  refine Ct.then_ret ?_
                  replace h := Option.some.inj h; subst h
                  exact Ct.retH1 (Ωx := []) () rfl (RvOk.tmp rfl) rfl
                · replace h := bif_f hc h
                  refine Tr.skip ?_
                  refine Ct.then_tr ?_
                  refine Tr.weak (Γ' := [(99999, (pTab 1 .u64 Lib.pow10Tab))]) ⟨rfl, trivial⟩ ?_
                  refine Tr.seq ?_
                  refine Tr.region ?_
                  refine RegL.pure (p := (pEq (.bool true))) rfl rfl rfl (J_assign rfl Opd.con) ?_
                  refine RegL.nil ?_
                  refine Ct.then_tr ?_
                  refine Tr.weak (Γ' := [(6, (pEq (.bool true))), (99999, (pTab 1 .u64 Lib.pow10Tab))]) ⟨rfl, rfl, trivial⟩ ?_
                  refine Tr.ret ?_
                  replace h := Option.some.inj h; subst h
                  exact Ct.retH1 (Ωx := []) () rfl (RvOk.tmp rfl) rfl

end Go.Proofs.YtbhegklilcpbmaaDoor.fnExactWorstRatioW
