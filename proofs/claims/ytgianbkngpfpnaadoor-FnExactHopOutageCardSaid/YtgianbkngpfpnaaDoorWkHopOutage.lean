/-
  The walks that the law FnExactHopOutage reaches: each function computes its model. Printed by our own program.
-/
import Derived.Test.YtgianbkngpfpnaaDoorProg
import Derived.Test.YtgianbkngpfpnaaDoorMod
import Derived.Test.YtgianbkngpfpnaaDoorZero
import Derived.KernelRfl
import Derived.Test.YtgianbkngpfpnaaDoorWkHopOutagea
namespace Go.Proofs.YtgianbkngpfpnaaDoor.fnExactHopOutageW
open Go Go.RowKit Go.Wk
set_option linter.unusedVariables false
set_option maxRecDepth 100000


theorem c_impl_rainOutage_1 {n_0 : Int} {a_1 : Int} {a_2 : Int} {a_3 : Int} {r : Bool} (h : m_impl_rainOutage_1 n_0 a_1 a_2 a_3 = some r) : CallJ Tryd.prog 46 [(pEq (.int .i64 n_0)), (pG (pTab 0 .u64 Lib.pow10Tab) (pPtr ((cK .i64) a_1))), (pPtr ((cK .i64) a_2)), (pPtr ((cK .i64) a_3))] (pEq (.bool r)) := by
  unfold m_impl_rainOutage_1 at h
  refine CallJ.enterH Tryd.func46 rfl Tryd.ntmps46 rfl fun W I0 H => ?_
  refine Tr.tab (s := 1) (k := 99999) rfl ?_; refine Tr.weak (Γ' := [(0, (pEq (.int .i64 n_0))), (1, (pPtr ((cK .i64) a_1))), (2, (pPtr ((cK .i64) a_2))), (3, (pPtr ((cK .i64) a_3))), (99999, (pTab 0 .u64 Lib.pow10Tab))]) ⟨rfl, rfl, rfl, rfl, rfl, trivial⟩ ?_
  refine Tr.seq ?_
  refine Tr.region ?_
  refine RegL.pure (p := (pEq (.bool false))) rfl rfl rfl (J_assign rfl Opd.con) ?_
  refine RegL.nil ?_
  refine Ct.then_tr ?_
  refine Tr.weak (Γ' := [(0, (pEq (.int .i64 n_0))), (1, (pPtr ((cK .i64) a_1))), (2, (pPtr ((cK .i64) a_2))), (3, (pPtr ((cK .i64) a_3))), (99999, (pTab 0 .u64 Lib.pow10Tab))]) ⟨rfl, rfl, rfl, rfl, rfl, trivial⟩ ?_
  refine Tr.seq ?_
  replace h := bind_some h; obtain ⟨x1, hx1, h⟩ := h
  refine Tr.drawD (n := 12) (m := 6) (es := [some (Ent.mk [(1, (pPtr ((cK .i64) a_1)))] (pEq (.int .i64 a_1)) true), some (Ent.mk [(0, (pEq (.int .i64 n_0)))] (pEq (.int .i64 n_0)) true), some (Ent.mk [(2, (pPtr ((cK .i64) a_2)))] (pEq (.int .i64 a_2)) true), some (Ent.mk [(6, (pEq (.int .i64 a_1))), (7, (pEq (.int .i64 n_0))), (8, (pEq (.int .i64 a_2))), (99999, (pTab 0 .u64 Lib.pow10Tab))] (pEq (.int .i64 x1)) true), some (Ent.mk [(3, (pPtr ((cK .i64) a_3)))] (pEq (.int .i64 a_3)) true), some (Ent.mk [(9, (pEq (.int .i64 x1))), (10, (pEq (.int .i64 a_3)))] (pEq (.bool (decide (a_3 < x1)))) true)]) (rd := [[1], [0], [2], [6, 7, 8, 99999], [3], [9, 10]]) rfl hmix (by kernel_rfl) fun hD => ?_
  refine RD.fin (es := [Ent.mk [(1, (pPtr ((cK .i64) a_1)))] (pEq (.int .i64 a_1)) true, Ent.mk [(0, (pEq (.int .i64 n_0)))] (pEq (.int .i64 n_0)) true, Ent.mk [(2, (pPtr ((cK .i64) a_2)))] (pEq (.int .i64 a_2)) true, Ent.mk [(6, (pEq (.int .i64 a_1))), (7, (pEq (.int .i64 n_0))), (8, (pEq (.int .i64 a_2))), (99999, (pTab 0 .u64 Lib.pow10Tab))] (pEq (.int .i64 x1)) true, Ent.mk [(3, (pPtr ((cK .i64) a_3)))] (pEq (.int .i64 a_3)) true, Ent.mk [(9, (pEq (.int .i64 x1))), (10, (pEq (.int .i64 a_3)))] (pEq (.bool (decide (a_3 < x1)))) true]) (done := []) hD ⟨.inr ⟨(OpJ.w (J_load rfl Tryd.isAgg2 (Opd.tmp rfl))), ⟨rfl, trivial⟩, rfl, rfl⟩, ⟨.inr ⟨(OpJ.w (J_move rfl (Opd.tmp rfl))), ⟨rfl, trivial⟩, rfl, rfl⟩, ⟨.inr ⟨(OpJ.w (J_load rfl Tryd.isAgg2 (Opd.tmp rfl))), ⟨rfl, trivial⟩, rfl, rfl⟩, ⟨.inr ⟨(OpJ.w (J_call rfl Tryd.call47 (c_impl_rainLoss hx1) (Opds.cons (Opd.tab (Opd.tmp rfl) 99999 rfl) (Opds.cons (Opd.tmp rfl) (Opds.cons (Opd.tmp rfl) Opds.nil))))), ⟨rfl, rfl, rfl, rfl, trivial⟩, rfl, rfl⟩, ⟨.inr ⟨(OpJ.w (J_load rfl Tryd.isAgg2 (Opd.tmp rfl))), ⟨rfl, trivial⟩, rfl, rfl⟩, ⟨.inr ⟨(OpJ.w (J_bin rfl (Opd.tmp rfl) (Opd.tmp rfl) B_gtr)), ⟨rfl, rfl, trivial⟩, rfl, rfl⟩, trivial⟩⟩⟩⟩⟩⟩ ?_
  refine RegL.pure (p := (pEq (.bool (decide (a_3 < x1))))) rfl rfl rfl (J_assign rfl (Opd.tmp rfl)) ?_
  refine RegL.nil ?_
  refine Ct.then_tr ?_
  refine Tr.weak (Γ' := [(5, (pEq (.bool (decide (a_3 < x1))))), (99999, (pTab 0 .u64 Lib.pow10Tab))]) ⟨rfl, rfl, trivial⟩ ?_
  refine Tr.ret ?_
  replace h := Option.some.inj h; subst h
  exact Ct.retH1 (Ωx := []) () rfl (RvOk.tmp rfl) rfl

theorem c_impl_least {low_0 : Int} {high_1 : Int} {has_2 : (Int → Option Bool)} {r : (Int × Bool)} (h : m_impl_least low_0 high_1 has_2 = some r) : CallJ Tryd.prog 45 [(pEq (.int .i64 low_0)), (pEq (.int .i64 high_1)), (pFn Tryd.prog (fun x => [(pEq (.int .i64 x))]) has_2 (fun y => (pEq (.bool y))))] (pTup [(pEq (.int .i64 r.1)), (pEq (.bool r.2))]) := by
  unfold m_impl_least at h
  refine CallJ.enterH Tryd.func45 rfl Tryd.ntmps45 rfl fun W I0 H => ?_
  refine Tr.weak (Γ' := [(0, (pEq (.int .i64 low_0))), (1, (pEq (.int .i64 high_1))), (2, (pFn Tryd.prog (fun x => [(pEq (.int .i64 x))]) has_2 (fun y => (pEq (.bool y)))))]) ⟨rfl, rfl, rfl, trivial⟩ ?_
  refine Tr.seq ?_
  refine Tr.region ?_
  refine RegL.pure (p := (pEq (.int .i64 (0 : Int)))) rfl rfl rfl (J_assign rfl Opd.con) ?_
  refine RegL.pure (p := (pEq (.bool false))) rfl rfl rfl (J_assign rfl Opd.con) ?_
  refine RegL.nil ?_
  refine Ct.then_tr ?_
  refine Tr.weak (Γ' := [(0, (pEq (.int .i64 low_0))), (1, (pEq (.int .i64 high_1))), (2, (pFn Tryd.prog (fun x => [(pEq (.int .i64 x))]) has_2 (fun y => (pEq (.bool y)))))]) ⟨rfl, rfl, rfl, trivial⟩ ?_
  refine Tr.seq ?_
  refine Tr.seq ?_
  refine Tr.region ?_
  refine RegL.pure (p := (pEq (.int .i64 low_0))) rfl rfl rfl (J_move rfl (Opd.tmp rfl)) ?_
  refine RegL.pure (p := (pEq (.int .i64 low_0))) rfl rfl rfl (J_assign rfl (Opd.tmp rfl)) ?_
  refine RegL.nil ?_
  refine Ct.then_tr ?_
  refine Tr.weak (Γ' := [(1, (pEq (.int .i64 high_1))), (2, (pFn Tryd.prog (fun x => [(pEq (.int .i64 x))]) has_2 (fun y => (pEq (.bool y))))), (8, (pEq (.int .i64 low_0)))]) ⟨rfl, rfl, rfl, trivial⟩ ?_
  refine Tr.block ?_
  refine Tr.weak (Γ' := [(1, (pEq (.int .i64 high_1))), (2, (pFn Tryd.prog (fun x => [(pEq (.int .i64 x))]) has_2 (fun y => (pEq (.bool y))))), (8, (pEq (.int .i64 low_0)))]) ⟨rfl, rfl, rfl, trivial⟩ ?_
  refine Tr.loop (γ := Unit) (σ := Int) (Γσ := fun s g => [(1, (pEq (.int .i64 high_1))), (2, (pFn Tryd.prog (fun x => [(pEq (.int .i64 x))]) has_2 (fun y => (pEq (.bool y))))), (8, (pEq (.int .i64 s)))]) (Ωσ := fun s g => []) (g := ()) h ?_
  clear h
  rintro v2 g3 t h
  replace h : m_impl_least_B1 high_1 has_2 v2 = some t := h
  unfold m_impl_least_B1 at h
  refine Tr.weakO (Γ' := [(1, (pEq (.int .i64 high_1))), (2, (pFn Tryd.prog (fun x => [(pEq (.int .i64 x))]) has_2 (fun y => (pEq (.bool y))))), (8, (pEq (.int .i64 v2)))]) (Ω' := []) rfl ⟨rfl, rfl, rfl, trivial⟩ ?_
  refine Tr.seq ?_
  refine Tr.seq ?_
  refine Tr.region ?_
  refine RegL.pure (p := (pEq (.int .i64 v2))) rfl rfl rfl (J_move rfl (Opd.tmp rfl)) ?_
  refine RegL.pure (p := (pEq (.int .i64 high_1))) rfl rfl rfl (J_move rfl (Opd.tmp rfl)) ?_
  refine RegL.pure (p := (pEq (.bool (decide (v2 ≤ high_1))))) rfl rfl rfl (J_bin rfl (Opd.tmp rfl) (Opd.tmp rfl) B_leq) ?_
  refine RegL.nil ?_
  refine Ct.then_tr ?_
  refine Tr.weak (Γ' := [(1, (pEq (.int .i64 high_1))), (2, (pFn Tryd.prog (fun x => [(pEq (.int .i64 x))]) has_2 (fun y => (pEq (.bool y))))), (8, (pEq (.int .i64 v2))), (12, (pEq (.bool (decide (v2 ≤ high_1)))))]) ⟨rfl, rfl, rfl, rfl, trivial⟩ ?_
  refine Tr.cond (Opd.tmp rfl) (fun hc => ?_) (fun hc => ?_)
  · replace h := bif_t hc h
    refine Tr.skip ?_
    refine Ct.then_tr ?_
    refine Tr.weak (Γ' := [(1, (pEq (.int .i64 high_1))), (2, (pFn Tryd.prog (fun x => [(pEq (.int .i64 x))]) has_2 (fun y => (pEq (.bool y))))), (8, (pEq (.int .i64 v2)))]) ⟨rfl, rfl, rfl, trivial⟩ ?_
    refine Tr.seq ?_
    refine Tr.block ?_
    refine Tr.seq ?_
    refine Tr.region ?_
    refine RegL.pure (p := (pFn Tryd.prog (fun x => [(pEq (.int .i64 x))]) has_2 (fun y => (pEq (.bool y))))) rfl rfl rfl (J_move rfl (Opd.tmp rfl)) ?_
    refine RegL.pure (p := (pEq (.int .i64 v2))) rfl rfl rfl (J_move rfl (Opd.tmp rfl)) ?_
    replace h := bind_some h; obtain ⟨x4, hx4, h⟩ := h
    refine RegL.pure (p := (pEq (.bool x4))) rfl rfl rfl (J_callv (x := v2) rfl (Opd.tmp rfl) rfl (Opds.cons (Opd.tmp rfl) Opds.nil) hx4 rfl) ?_
    refine RegL.nil ?_
    refine Ct.then_tr ?_
    refine Tr.weak (Γ' := [(1, (pEq (.int .i64 high_1))), (2, (pFn Tryd.prog (fun x => [(pEq (.int .i64 x))]) has_2 (fun y => (pEq (.bool y))))), (8, (pEq (.int .i64 v2))), (17, (pEq (.bool x4)))]) ⟨rfl, rfl, rfl, rfl, trivial⟩ ?_
    refine Tr.cond (Opd.tmp rfl) (fun hc => ?_) (fun hc => ?_)
    · replace h := bif_t hc h
      refine Tr.seq ?_
      refine Tr.region ?_
      refine RegL.pure (p := (pEq (.int .i64 v2))) rfl rfl rfl (J_move rfl (Opd.tmp rfl)) ?_
      refine RegL.pure (p := (pEq (.int .i64 v2))) rfl rfl rfl (J_assign rfl (Opd.tmp rfl)) ?_
      refine RegL.pure (p := (pEq (.bool true))) rfl rfl rfl (J_assign rfl Opd.con) ?_
      refine RegL.nil ?_
      refine Ct.then_tr ?_
      refine Tr.weak (Γ' := [(6, (pEq (.int .i64 v2))), (7, (pEq (.bool true)))]) ⟨rfl, rfl, trivial⟩ ?_
      refine Tr.ret ?_
      refine Ct.blk_ret ?_
      refine Ct.then_ret ?_
      replace h := map_some h; obtain ⟨r1, h, rfl⟩ := h
      refine Ct.out_ret fun e => ?_
      subst e
      refine Ct.blk_ret ?_
      refine Ct.then_ret ?_
      replace h := Option.some.inj h; subst h
      exact Ct.retH2 (Ωx := []) () rfl (RvOk.tmp rfl) (RvOk.tmp rfl) rfl rfl
    · replace h := bif_f hc h
      refine Tr.skip ?_
      refine Ct.blk_normal ?_
      refine Ct.then_tr ?_
      refine Tr.weak (Γ' := [(1, (pEq (.int .i64 high_1))), (2, (pFn Tryd.prog (fun x => [(pEq (.int .i64 x))]) has_2 (fun y => (pEq (.bool y))))), (8, (pEq (.int .i64 v2)))]) ⟨rfl, rfl, rfl, trivial⟩ ?_
      refine Tr.region ?_
      refine RegL.pure (p := (pEq (.int .i64 v2))) rfl rfl rfl (J_move rfl (Opd.tmp rfl)) ?_
      refine RegL.pure (p := (pEq (.int .i64 (w64 (v2 + (1 : Int)))))) rfl rfl rfl (J_bin rfl (Opd.tmp rfl) Opd.con B_add) ?_
      refine RegL.pure (p := (pEq (.int .i64 (w64 (v2 + (1 : Int)))))) rfl rfl rfl (J_assign rfl (Opd.tmp rfl)) ?_
      refine RegL.nil ?_
      replace h := Option.some.inj h; subst h
      exact Ct.again () rfl ⟨rfl, rfl, rfl, trivial⟩
  · replace h := bif_f hc h
    refine Tr.exit ?_
    refine Ct.then_exit ?_
    replace h := map_some h; obtain ⟨r1, h, rfl⟩ := h
    refine Ct.out_exit fun e => ?_
    subst e
    refine Ct.blk_exit ?_
    refine Ct.then_tr ?_
    refine Tr.weak (Γ' := []) trivial ?_
    refine Tr.seq ?_
    refine Tr.region ?_
    refine RegL.pure (p := (pEq (.int .i64 (0 : Int)))) rfl rfl rfl (J_assign rfl Opd.con) ?_
    refine RegL.pure (p := (pEq (.bool false))) rfl rfl rfl (J_assign rfl Opd.con) ?_
    refine RegL.nil ?_
    refine Ct.then_tr ?_
    refine Tr.weak (Γ' := [(6, (pEq (.int .i64 (0 : Int)))), (7, (pEq (.bool false)))]) ⟨rfl, rfl, trivial⟩ ?_
    refine Tr.ret ?_
    replace h := Option.some.inj h; subst h
    exact Ct.retH2 (Ωx := []) () rfl (RvOk.tmp rfl) (RvOk.tmp rfl) rfl rfl

theorem c_impl_exceedanceOf {rain_0 : Int} {r : Int} (h : m_impl_exceedanceOf rain_0 = some r) : CallJ Tryd.prog 48 [(pEq (.int .i64 rain_0))] (pEq (.int .i64 r)) := by
  unfold m_impl_exceedanceOf at h
  refine CallJ.enterH Tryd.func48 rfl Tryd.ntmps48 rfl fun W I0 H => ?_
  refine Tr.weak (Γ' := [(0, (pEq (.int .i64 rain_0)))]) ⟨rfl, trivial⟩ ?_
  refine Tr.seq ?_
  refine Tr.region ?_
  refine RegL.pure (p := (pEq (.int .i64 (0 : Int)))) rfl rfl rfl (J_assign rfl Opd.con) ?_
  refine RegL.nil ?_
  refine Ct.then_tr ?_
  refine Tr.weak (Γ' := [(0, (pEq (.int .i64 rain_0)))]) ⟨rfl, trivial⟩ ?_
  refine Tr.seq ?_
  refine Tr.region ?_
  refine RegL.pure (p := (pAgg (cArr (cK .i64) ([(0 : Int), (50000 : Int)] : (List Int))))) rfl rfl rfl (J_build (qss := [(0, (cK .i64) (0 : Int)), (1, (cK .i64) (50000 : Int))]) rfl bl46 bz46 (Parts.cons (Part.one Opd.con OneC.int) (Parts.cons (Part.one Opd.con OneC.int) Parts.nil)) rfl) ?_
  refine RegL.pure (p := (pAgg (cArr (cK .i64) ([(8 : Int), (10000 : Int)] : (List Int))))) rfl rfl rfl (J_build (qss := [(0, (cK .i64) (8 : Int)), (1, (cK .i64) (10000 : Int))]) rfl bl46 bz46 (Parts.cons (Part.one Opd.con OneC.int) (Parts.cons (Part.one Opd.con OneC.int) Parts.nil)) rfl) ?_
  refine RegL.pure (p := (pAgg (cArr (cK .i64) ([(30 : Int), (1000 : Int)] : (List Int))))) rfl rfl rfl (J_build (qss := [(0, (cK .i64) (30 : Int)), (1, (cK .i64) (1000 : Int))]) rfl bl46 bz46 (Parts.cons (Part.one Opd.con OneC.int) (Parts.cons (Part.one Opd.con OneC.int) Parts.nil)) rfl) ?_
  refine RegL.pure (p := (pAgg (cArr (cK .i64) ([(60 : Int), (100 : Int)] : (List Int))))) rfl rfl rfl (J_build (qss := [(0, (cK .i64) (60 : Int)), (1, (cK .i64) (100 : Int))]) rfl bl46 bz46 (Parts.cons (Part.one Opd.con OneC.int) (Parts.cons (Part.one Opd.con OneC.int) Parts.nil)) rfl) ?_
  refine RegL.pure (p := (pAgg (cArr (cK .i64) ([(100 : Int), (10 : Int)] : (List Int))))) rfl rfl rfl (J_build (qss := [(0, (cK .i64) (100 : Int)), (1, (cK .i64) (10 : Int))]) rfl bl46 bz46 (Parts.cons (Part.one Opd.con OneC.int) (Parts.cons (Part.one Opd.con OneC.int) Parts.nil)) rfl) ?_
  refine RegL.pure (p := (pAgg (cArr (cK .i64) ([(150 : Int), (1 : Int)] : (List Int))))) rfl rfl rfl (J_build (qss := [(0, (cK .i64) (150 : Int)), (1, (cK .i64) (1 : Int))]) rfl bl46 bz46 (Parts.cons (Part.one Opd.con OneC.int) (Parts.cons (Part.one Opd.con OneC.int) Parts.nil)) rfl) ?_
  refine RegL.pure (p := (pAgg (cArr (cK .i64) ([(200 : Int), (0 : Int)] : (List Int))))) rfl rfl rfl (J_build (qss := [(0, (cK .i64) (200 : Int)), (1, (cK .i64) (0 : Int))]) rfl bl46 bz46 (Parts.cons (Part.one Opd.con OneC.int) (Parts.cons (Part.one Opd.con OneC.int) Parts.nil)) rfl) ?_
  refine RegL.pure (p := (pAgg (cArr (cArr (cK .i64)) ([([(0 : Int), (50000 : Int)] : (List Int)), ([(8 : Int), (10000 : Int)] : (List Int)), ([(30 : Int), (1000 : Int)] : (List Int)), ([(60 : Int), (100 : Int)] : (List Int)), ([(100 : Int), (10 : Int)] : (List Int)), ([(150 : Int), (1 : Int)] : (List Int)), ([(200 : Int), (0 : Int)] : (List Int))] : (List (List Int)))))) rfl rfl rfl (J_build (qss := [(0, (cArr (cK .i64)) ([(0 : Int), (50000 : Int)] : (List Int))), (1, (cArr (cK .i64)) ([(8 : Int), (10000 : Int)] : (List Int))), (2, (cArr (cK .i64)) ([(30 : Int), (1000 : Int)] : (List Int))), (3, (cArr (cK .i64)) ([(60 : Int), (100 : Int)] : (List Int))), (4, (cArr (cK .i64)) ([(100 : Int), (10 : Int)] : (List Int))), (5, (cArr (cK .i64)) ([(150 : Int), (1 : Int)] : (List Int))), (6, (cArr (cK .i64)) ([(200 : Int), (0 : Int)] : (List Int)))]) rfl bl47 bz47 (Parts.cons (Part.agg (Opd.tmp rfl)) (Parts.cons (Part.agg (Opd.tmp rfl)) (Parts.cons (Part.agg (Opd.tmp rfl)) (Parts.cons (Part.agg (Opd.tmp rfl)) (Parts.cons (Part.agg (Opd.tmp rfl)) (Parts.cons (Part.agg (Opd.tmp rfl)) (Parts.cons (Part.agg (Opd.tmp rfl)) Parts.nil))))))) rfl) ?_
  refine RegL.step (γ := Nat) (p := fun b => pEq (.pointer (some ⟨b, 0, none⟩))) (Ω' := fun b => [oBlk b ((cArr (cArr (cK .i64))) (List.replicate 7 (List.replicate 2 (0 : Int))))]) rfl rfl rfl (M_alloc rfl zero47) fun b1 => ?_
  refine RegL.stepN (γ := Unit) (p := fun _ => pAny) (Ω' := fun _ => [oBlk b1 ((cArr (cArr (cK .i64))) ([([(0 : Int), (50000 : Int)] : (List Int)), ([(8 : Int), (10000 : Int)] : (List Int)), ([(30 : Int), (1000 : Int)] : (List Int)), ([(60 : Int), (100 : Int)] : (List Int)), ([(100 : Int), (10 : Int)] : (List Int)), ([(150 : Int), (1 : Int)] : (List Int)), ([(200 : Int), (0 : Int)] : (List Int))] : (List (List Int))))]) rfl rfl (M_storeA rfl sz47 (Opd.tmp rfl) (Opd.tmp rfl) (fun _ _ _ h => ones_of ((OneCs.cons OneC.int (OneCs.cons OneC.int (OneCs.cons OneC.int (OneCs.cons OneC.int (OneCs.cons OneC.int (OneCs.cons OneC.int (OneCs.cons OneC.int (OneCs.cons OneC.int (OneCs.cons OneC.int (OneCs.cons OneC.int (OneCs.cons OneC.int (OneCs.cons OneC.int (OneCs.cons OneC.int (OneCs.cons OneC.int OneCs.nil))))))))))))))) h) rfl rfl) fun g2 => ?_
  refine RegL.freeze (s := 3) rfl ?_
  refine RegL.nil ?_
  refine Ct.then_tr ?_
  refine Tr.weak (Γ' := [(0, (pEq (.int .i64 rain_0))), (3, (pPtr ((cArr (cArr (cK .i64))) ([([(0 : Int), (50000 : Int)] : (List Int)), ([(8 : Int), (10000 : Int)] : (List Int)), ([(30 : Int), (1000 : Int)] : (List Int)), ([(60 : Int), (100 : Int)] : (List Int)), ([(100 : Int), (10 : Int)] : (List Int)), ([(150 : Int), (1 : Int)] : (List Int)), ([(200 : Int), (0 : Int)] : (List Int))] : (List (List Int))))))]) ⟨rfl, rfl, trivial⟩ ?_
  refine Tr.seq ?_
  refine Tr.region ?_
  refine RegL.pure (p := (pEq (.int .i64 (1 : Int)))) rfl rfl rfl (J_assign rfl Opd.con) ?_
  refine RegL.nil ?_
  refine Ct.then_tr ?_
  refine Tr.weak (Γ' := [(0, (pEq (.int .i64 rain_0))), (3, (pPtr ((cArr (cArr (cK .i64))) ([([(0 : Int), (50000 : Int)] : (List Int)), ([(8 : Int), (10000 : Int)] : (List Int)), ([(30 : Int), (1000 : Int)] : (List Int)), ([(60 : Int), (100 : Int)] : (List Int)), ([(100 : Int), (10 : Int)] : (List Int)), ([(150 : Int), (1 : Int)] : (List Int)), ([(200 : Int), (0 : Int)] : (List Int))] : (List (List Int)))))), (4, (pEq (.int .i64 (1 : Int))))]) ⟨rfl, rfl, rfl, trivial⟩ ?_
  refine Tr.seq ?_
  replace h := bind_some h; obtain ⟨x3, hx3, h⟩ := h
  refine Tr.cut (γ := Unit) (Γm := fun g => [(0, (pEq (.int .i64 rain_0))), (3, (pPtr ((cArr (cArr (cK .i64))) ([([(0 : Int), (50000 : Int)] : (List Int)), ([(8 : Int), (10000 : Int)] : (List Int)), ([(30 : Int), (1000 : Int)] : (List Int)), ([(60 : Int), (100 : Int)] : (List Int)), ([(100 : Int), (10 : Int)] : (List Int)), ([(150 : Int), (1 : Int)] : (List Int)), ([(200 : Int), (0 : Int)] : (List Int))] : (List (List Int)))))), (4, (pEq (.int .i64 x3)))]) (Ωm := fun g => []) ?_ (fun g12 => ?_)
  · clear h
    have h := hx3
    clear hx3
    refine Tr.block ?_
    refine Tr.weak (Γ' := [(0, (pEq (.int .i64 rain_0))), (3, (pPtr ((cArr (cArr (cK .i64))) ([([(0 : Int), (50000 : Int)] : (List Int)), ([(8 : Int), (10000 : Int)] : (List Int)), ([(30 : Int), (1000 : Int)] : (List Int)), ([(60 : Int), (100 : Int)] : (List Int)), ([(100 : Int), (10 : Int)] : (List Int)), ([(150 : Int), (1 : Int)] : (List Int)), ([(200 : Int), (0 : Int)] : (List Int))] : (List (List Int)))))), (4, (pEq (.int .i64 (1 : Int))))]) ⟨rfl, rfl, rfl, trivial⟩ ?_
    refine Tr.loop (γ := Unit) (σ := Int) (Γσ := fun s g => [(0, (pEq (.int .i64 rain_0))), (3, (pPtr ((cArr (cArr (cK .i64))) ([([(0 : Int), (50000 : Int)] : (List Int)), ([(8 : Int), (10000 : Int)] : (List Int)), ([(30 : Int), (1000 : Int)] : (List Int)), ([(60 : Int), (100 : Int)] : (List Int)), ([(100 : Int), (10 : Int)] : (List Int)), ([(150 : Int), (1 : Int)] : (List Int)), ([(200 : Int), (0 : Int)] : (List Int))] : (List (List Int)))))), (4, (pEq (.int .i64 s)))]) (Ωσ := fun s g => []) (g := ()) h ?_
    clear h
    rintro v5 g6 t h
    replace h : m_impl_exceedanceOf_B4 rain_0 v5 = some t := h
    unfold m_impl_exceedanceOf_B4 at h
    refine Tr.weakO (Γ' := [(0, (pEq (.int .i64 rain_0))), (3, (pPtr ((cArr (cArr (cK .i64))) ([([(0 : Int), (50000 : Int)] : (List Int)), ([(8 : Int), (10000 : Int)] : (List Int)), ([(30 : Int), (1000 : Int)] : (List Int)), ([(60 : Int), (100 : Int)] : (List Int)), ([(100 : Int), (10 : Int)] : (List Int)), ([(150 : Int), (1 : Int)] : (List Int)), ([(200 : Int), (0 : Int)] : (List Int))] : (List (List Int)))))), (4, (pEq (.int .i64 v5)))]) (Ω' := []) rfl ⟨rfl, rfl, rfl, trivial⟩ ?_
    refine Tr.seq ?_
    refine Tr.seq ?_
    replace h := bind_some h; obtain ⟨x7, hx7, h⟩ := h
    refine Tr.cut (γ := Unit) (Γm := fun g => [(0, (pEq (.int .i64 rain_0))), (3, (pPtr ((cArr (cArr (cK .i64))) ([([(0 : Int), (50000 : Int)] : (List Int)), ([(8 : Int), (10000 : Int)] : (List Int)), ([(30 : Int), (1000 : Int)] : (List Int)), ([(60 : Int), (100 : Int)] : (List Int)), ([(100 : Int), (10 : Int)] : (List Int)), ([(150 : Int), (1 : Int)] : (List Int)), ([(200 : Int), (0 : Int)] : (List Int))] : (List (List Int)))))), (4, (pEq (.int .i64 v5))), (22, (pEq (.bool x7)))]) (Ωm := fun g => []) ?_ (fun g11 => ?_)
    · clear h
      have h := hx7
      clear hx7
      refine Tr.region ?_
      refine RegL.pure (p := (pEq (.int .i64 v5))) rfl rfl rfl (J_move rfl (Opd.tmp rfl)) ?_
      refine RegL.pure (p := (pEq (.bool (decide (v5 < (6 : Int)))))) rfl rfl rfl (J_bin rfl (Opd.tmp rfl) Opd.con B_lss) ?_
      refine RegL.pure (p := (pEq (.bool (decide (v5 < (6 : Int)))))) rfl rfl rfl (J_move rfl (Opd.tmp rfl)) ?_
      rcases Bool.eq_false_or_eq_true (decide (v5 < (6 : Int))) with hc8 | hc8
      · replace h := bif_t hc8 h
        refine RegL.pureG (p := (pEq (.int .i64 v5))) rfl rfl rfl hc8 rfl rfl (J_move rfl (Opd.tmp rfl)) ?_
        replace h := bind_some h; obtain ⟨x9, hx9, h⟩ := h
        refine RegL.pureG (p := (pPtr ((cArr (cK .i64)) x9))) rfl rfl rfl hc8 rfl rfl (J_aidxAddr rfl Tryd.underlying47 sz46 (Opd.tmp rfl) (Opd.tmp rfl) rfl rfl hx9) ?_
        replace h := bind_some h; obtain ⟨x10, hx10, h⟩ := h
        refine RegL.pureG (p := (pPtr ((cK .i64) x10))) rfl rfl rfl hc8 rfl rfl (J_aidxAddr rfl Tryd.underlying46 sz2 (Opd.tmp rfl) Opd.con (idx_len (n := 2) rfl hx9) (all_of (f := (cK .i64)) (k := 1) fun _ => rfl) hx10) ?_
        refine RegL.pureG (p := (pEq (.int .i64 x10))) rfl rfl rfl hc8 rfl rfl (J_load rfl Tryd.isAgg2 (Opd.tmp rfl)) ?_
        refine RegL.pureG (p := (pEq (.int .i64 rain_0))) rfl rfl rfl hc8 rfl rfl (J_move rfl (Opd.tmp rfl)) ?_
        refine RegL.pureG (p := (pEq (.bool (decide (x10 < rain_0))))) rfl rfl rfl hc8 rfl rfl (J_bin rfl (Opd.tmp rfl) (Opd.tmp rfl) B_lss) ?_
        refine RegL.pure (p := (pEq (.bool (decide (x10 < rain_0))))) rfl rfl rfl (J_pick rfl (Opd.tmp rfl) (fun _ => (Opd.tmp rfl)) (fun hf => absurd (hc8.symm.trans hf) (by decide))) ?_
        refine RegL.nil ?_
        replace h := Option.some.inj h; subst h
        exact Ct.mid () rfl ⟨rfl, rfl, rfl, rfl, trivial⟩
      · replace h := bif_f hc8 h
        refine RegL.skipG rfl rfl rfl hc8 rfl rfl ?_
        refine RegL.skipG rfl rfl rfl hc8 rfl rfl ?_
        refine RegL.skipG rfl rfl rfl hc8 rfl rfl ?_
        refine RegL.skipG rfl rfl rfl hc8 rfl rfl ?_
        refine RegL.skipG rfl rfl rfl hc8 rfl rfl ?_
        refine RegL.skipG rfl rfl rfl hc8 rfl rfl ?_
        refine RegL.pure (p := (pEq (.bool false))) rfl rfl rfl (J_pick rfl (Opd.tmp rfl) (fun hf => absurd (hc8.symm.trans hf) (by decide)) (fun _ => Opd.con)) ?_
        refine RegL.nil ?_
        replace h := Option.some.inj h; subst h
        exact Ct.mid () rfl ⟨rfl, rfl, rfl, rfl, trivial⟩
    · clear hx7
      refine Ct.then_tr ?_
      refine Tr.weak (Γ' := [(0, (pEq (.int .i64 rain_0))), (3, (pPtr ((cArr (cArr (cK .i64))) ([([(0 : Int), (50000 : Int)] : (List Int)), ([(8 : Int), (10000 : Int)] : (List Int)), ([(30 : Int), (1000 : Int)] : (List Int)), ([(60 : Int), (100 : Int)] : (List Int)), ([(100 : Int), (10 : Int)] : (List Int)), ([(150 : Int), (1 : Int)] : (List Int)), ([(200 : Int), (0 : Int)] : (List Int))] : (List (List Int)))))), (4, (pEq (.int .i64 v5))), (22, (pEq (.bool x7)))]) ⟨rfl, rfl, rfl, rfl, trivial⟩ ?_
      refine Tr.cond (Opd.tmp rfl) (fun hc => ?_) (fun hc => ?_)
      · replace h := bif_t hc h
        refine Tr.skip ?_
        refine Ct.then_tr ?_
        refine Tr.weak (Γ' := [(0, (pEq (.int .i64 rain_0))), (3, (pPtr ((cArr (cArr (cK .i64))) ([([(0 : Int), (50000 : Int)] : (List Int)), ([(8 : Int), (10000 : Int)] : (List Int)), ([(30 : Int), (1000 : Int)] : (List Int)), ([(60 : Int), (100 : Int)] : (List Int)), ([(100 : Int), (10 : Int)] : (List Int)), ([(150 : Int), (1 : Int)] : (List Int)), ([(200 : Int), (0 : Int)] : (List Int))] : (List (List Int)))))), (4, (pEq (.int .i64 v5)))]) ⟨rfl, rfl, rfl, trivial⟩ ?_
        refine Tr.block ?_
        refine Tr.region ?_
        refine RegL.pure (p := (pEq (.int .i64 v5))) rfl rfl rfl (J_move rfl (Opd.tmp rfl)) ?_
        refine RegL.pure (p := (pEq (.int .i64 (w64 (v5 + (1 : Int)))))) rfl rfl rfl (J_bin rfl (Opd.tmp rfl) Opd.con B_add) ?_
        refine RegL.pure (p := (pEq (.int .i64 (w64 (v5 + (1 : Int)))))) rfl rfl rfl (J_assign rfl (Opd.tmp rfl)) ?_
        refine RegL.nil ?_
        refine Ct.blk_normal ?_
        replace h := Option.some.inj h; subst h
        exact Ct.again () rfl ⟨rfl, rfl, rfl, trivial⟩
      · replace h := bif_f hc h
        refine Tr.exit ?_
        refine Ct.then_exit ?_
        replace h := map_some h; obtain ⟨r1, h, rfl⟩ := h
        refine Ct.out_exit fun e => ?_
        subst e
        refine Ct.blk_exit ?_
        replace h := Option.some.inj h; subst h
        exact Ct.mid () rfl ⟨rfl, rfl, rfl, trivial⟩
  · clear hx3
    refine Ct.then_tr ?_
    refine Tr.weak (Γ' := [(0, (pEq (.int .i64 rain_0))), (3, (pPtr ((cArr (cArr (cK .i64))) ([([(0 : Int), (50000 : Int)] : (List Int)), ([(8 : Int), (10000 : Int)] : (List Int)), ([(30 : Int), (1000 : Int)] : (List Int)), ([(60 : Int), (100 : Int)] : (List Int)), ([(100 : Int), (10 : Int)] : (List Int)), ([(150 : Int), (1 : Int)] : (List Int)), ([(200 : Int), (0 : Int)] : (List Int))] : (List (List Int)))))), (4, (pEq (.int .i64 x3)))]) ⟨rfl, rfl, rfl, trivial⟩ ?_
    refine Tr.seq ?_
    replace h := bind_some h; obtain ⟨x13, hx13, h⟩ := h
    replace h := bind_some h; obtain ⟨x14, hx14, h⟩ := h
    replace h := bind_some h; obtain ⟨x15, hx15, h⟩ := h
    replace h := bind_some h; obtain ⟨x16, hx16, h⟩ := h
    replace h := bind_some h; obtain ⟨x17, hx17, h⟩ := h
    replace h := bind_some h; obtain ⟨x18, hx18, h⟩ := h
    replace h := bind_some h; obtain ⟨x19, hx19, h⟩ := h
    replace h := bind_some h; obtain ⟨x20, hx20, h⟩ := h
    replace h := bind_some h; obtain ⟨x21, hx21, h⟩ := h
    refine Tr.drawD (n := 45) (m := 20) (es := [some (Ent.mk [(4, (pEq (.int .i64 x3)))] (pEq (.int .i64 x3)) true), some (Ent.mk [(25, (pEq (.int .i64 x3)))] (pEq (.int .i64 (w64 (x3 - (1 : Int))))) true), some (Ent.mk [(3, (pPtr ((cArr (cArr (cK .i64))) ([([(0 : Int), (50000 : Int)] : (List Int)), ([(8 : Int), (10000 : Int)] : (List Int)), ([(30 : Int), (1000 : Int)] : (List Int)), ([(60 : Int), (100 : Int)] : (List Int)), ([(100 : Int), (10 : Int)] : (List Int)), ([(150 : Int), (1 : Int)] : (List Int)), ([(200 : Int), (0 : Int)] : (List Int))] : (List (List Int)))))), (26, (pEq (.int .i64 (w64 (x3 - (1 : Int))))))] (pPtr ((cArr (cK .i64)) x13)) true), some (Ent.mk [(27, (pPtr ((cArr (cK .i64)) x13)))] (pPtr ((cK .i64) x14)) true), some (Ent.mk [(28, (pPtr ((cK .i64) x14)))] (pEq (.int .i64 x14)) true), some (Ent.mk [(4, (pEq (.int .i64 x3)))] (pEq (.int .i64 x3)) true), some (Ent.mk [(30, (pEq (.int .i64 x3)))] (pEq (.int .i64 (w64 (x3 - (1 : Int))))) true), some (Ent.mk [(3, (pPtr ((cArr (cArr (cK .i64))) ([([(0 : Int), (50000 : Int)] : (List Int)), ([(8 : Int), (10000 : Int)] : (List Int)), ([(30 : Int), (1000 : Int)] : (List Int)), ([(60 : Int), (100 : Int)] : (List Int)), ([(100 : Int), (10 : Int)] : (List Int)), ([(150 : Int), (1 : Int)] : (List Int)), ([(200 : Int), (0 : Int)] : (List Int))] : (List (List Int)))))), (31, (pEq (.int .i64 (w64 (x3 - (1 : Int))))))] (pPtr ((cArr (cK .i64)) x15)) true), some (Ent.mk [(32, (pPtr ((cArr (cK .i64)) x15)))] (pPtr ((cK .i64) x16)) true), some (Ent.mk [(33, (pPtr ((cK .i64) x16)))] (pEq (.int .i64 x16)) true), some (Ent.mk [(4, (pEq (.int .i64 x3)))] (pEq (.int .i64 x3)) true), some (Ent.mk [(3, (pPtr ((cArr (cArr (cK .i64))) ([([(0 : Int), (50000 : Int)] : (List Int)), ([(8 : Int), (10000 : Int)] : (List Int)), ([(30 : Int), (1000 : Int)] : (List Int)), ([(60 : Int), (100 : Int)] : (List Int)), ([(100 : Int), (10 : Int)] : (List Int)), ([(150 : Int), (1 : Int)] : (List Int)), ([(200 : Int), (0 : Int)] : (List Int))] : (List (List Int)))))), (35, (pEq (.int .i64 x3)))] (pPtr ((cArr (cK .i64)) x17)) true), some (Ent.mk [(36, (pPtr ((cArr (cK .i64)) x17)))] (pPtr ((cK .i64) x18)) true), some (Ent.mk [(37, (pPtr ((cK .i64) x18)))] (pEq (.int .i64 x18)) true), some (Ent.mk [(4, (pEq (.int .i64 x3)))] (pEq (.int .i64 x3)) true), some (Ent.mk [(3, (pPtr ((cArr (cArr (cK .i64))) ([([(0 : Int), (50000 : Int)] : (List Int)), ([(8 : Int), (10000 : Int)] : (List Int)), ([(30 : Int), (1000 : Int)] : (List Int)), ([(60 : Int), (100 : Int)] : (List Int)), ([(100 : Int), (10 : Int)] : (List Int)), ([(150 : Int), (1 : Int)] : (List Int)), ([(200 : Int), (0 : Int)] : (List Int))] : (List (List Int)))))), (39, (pEq (.int .i64 x3)))] (pPtr ((cArr (cK .i64)) x19)) true), some (Ent.mk [(40, (pPtr ((cArr (cK .i64)) x19)))] (pPtr ((cK .i64) x20)) true), some (Ent.mk [(41, (pPtr ((cK .i64) x20)))] (pEq (.int .i64 x20)) true), some (Ent.mk [(0, (pEq (.int .i64 rain_0)))] (pEq (.int .i64 rain_0)) true), some (Ent.mk [(29, (pEq (.int .i64 x14))), (34, (pEq (.int .i64 x16))), (38, (pEq (.int .i64 x18))), (42, (pEq (.int .i64 x20))), (43, (pEq (.int .i64 rain_0)))] (pEq (.int .i64 x21)) true)]) (rd := [[4], [25], [3, 26], [27], [28], [4], [30], [3, 31], [32], [33], [4], [3, 35], [36], [37], [4], [3, 39], [40], [41], [0], [29, 34, 38, 42, 43]]) rfl hmix (by kernel_rfl) fun hD => ?_
    refine RD.fin (es := [Ent.mk [(4, (pEq (.int .i64 x3)))] (pEq (.int .i64 x3)) true, Ent.mk [(25, (pEq (.int .i64 x3)))] (pEq (.int .i64 (w64 (x3 - (1 : Int))))) true, Ent.mk [(3, (pPtr ((cArr (cArr (cK .i64))) ([([(0 : Int), (50000 : Int)] : (List Int)), ([(8 : Int), (10000 : Int)] : (List Int)), ([(30 : Int), (1000 : Int)] : (List Int)), ([(60 : Int), (100 : Int)] : (List Int)), ([(100 : Int), (10 : Int)] : (List Int)), ([(150 : Int), (1 : Int)] : (List Int)), ([(200 : Int), (0 : Int)] : (List Int))] : (List (List Int)))))), (26, (pEq (.int .i64 (w64 (x3 - (1 : Int))))))] (pPtr ((cArr (cK .i64)) x13)) true, Ent.mk [(27, (pPtr ((cArr (cK .i64)) x13)))] (pPtr ((cK .i64) x14)) true, Ent.mk [(28, (pPtr ((cK .i64) x14)))] (pEq (.int .i64 x14)) true, Ent.mk [(4, (pEq (.int .i64 x3)))] (pEq (.int .i64 x3)) true, Ent.mk [(30, (pEq (.int .i64 x3)))] (pEq (.int .i64 (w64 (x3 - (1 : Int))))) true, Ent.mk [(3, (pPtr ((cArr (cArr (cK .i64))) ([([(0 : Int), (50000 : Int)] : (List Int)), ([(8 : Int), (10000 : Int)] : (List Int)), ([(30 : Int), (1000 : Int)] : (List Int)), ([(60 : Int), (100 : Int)] : (List Int)), ([(100 : Int), (10 : Int)] : (List Int)), ([(150 : Int), (1 : Int)] : (List Int)), ([(200 : Int), (0 : Int)] : (List Int))] : (List (List Int)))))), (31, (pEq (.int .i64 (w64 (x3 - (1 : Int))))))] (pPtr ((cArr (cK .i64)) x15)) true, Ent.mk [(32, (pPtr ((cArr (cK .i64)) x15)))] (pPtr ((cK .i64) x16)) true, Ent.mk [(33, (pPtr ((cK .i64) x16)))] (pEq (.int .i64 x16)) true, Ent.mk [(4, (pEq (.int .i64 x3)))] (pEq (.int .i64 x3)) true, Ent.mk [(3, (pPtr ((cArr (cArr (cK .i64))) ([([(0 : Int), (50000 : Int)] : (List Int)), ([(8 : Int), (10000 : Int)] : (List Int)), ([(30 : Int), (1000 : Int)] : (List Int)), ([(60 : Int), (100 : Int)] : (List Int)), ([(100 : Int), (10 : Int)] : (List Int)), ([(150 : Int), (1 : Int)] : (List Int)), ([(200 : Int), (0 : Int)] : (List Int))] : (List (List Int)))))), (35, (pEq (.int .i64 x3)))] (pPtr ((cArr (cK .i64)) x17)) true, Ent.mk [(36, (pPtr ((cArr (cK .i64)) x17)))] (pPtr ((cK .i64) x18)) true, Ent.mk [(37, (pPtr ((cK .i64) x18)))] (pEq (.int .i64 x18)) true, Ent.mk [(4, (pEq (.int .i64 x3)))] (pEq (.int .i64 x3)) true, Ent.mk [(3, (pPtr ((cArr (cArr (cK .i64))) ([([(0 : Int), (50000 : Int)] : (List Int)), ([(8 : Int), (10000 : Int)] : (List Int)), ([(30 : Int), (1000 : Int)] : (List Int)), ([(60 : Int), (100 : Int)] : (List Int)), ([(100 : Int), (10 : Int)] : (List Int)), ([(150 : Int), (1 : Int)] : (List Int)), ([(200 : Int), (0 : Int)] : (List Int))] : (List (List Int)))))), (39, (pEq (.int .i64 x3)))] (pPtr ((cArr (cK .i64)) x19)) true, Ent.mk [(40, (pPtr ((cArr (cK .i64)) x19)))] (pPtr ((cK .i64) x20)) true, Ent.mk [(41, (pPtr ((cK .i64) x20)))] (pEq (.int .i64 x20)) true, Ent.mk [(0, (pEq (.int .i64 rain_0)))] (pEq (.int .i64 rain_0)) true, Ent.mk [(29, (pEq (.int .i64 x14))), (34, (pEq (.int .i64 x16))), (38, (pEq (.int .i64 x18))), (42, (pEq (.int .i64 x20))), (43, (pEq (.int .i64 rain_0)))] (pEq (.int .i64 x21)) true]) (done := []) hD ⟨.inr ⟨(OpJ.w (J_move rfl (Opd.tmp rfl))), ⟨rfl, trivial⟩, rfl, rfl⟩, ⟨.inr ⟨(OpJ.w (J_bin rfl (Opd.tmp rfl) Opd.con B_sub)), ⟨rfl, trivial⟩, rfl, rfl⟩, ⟨.inr ⟨(OpJ.w (J_aidxAddr rfl Tryd.underlying47 sz46 (Opd.tmp rfl) (Opd.tmp rfl) rfl rfl hx13)), ⟨rfl, rfl, trivial⟩, rfl, rfl⟩, ⟨.inr ⟨(OpJ.w (J_aidxAddr rfl Tryd.underlying46 sz2 (Opd.tmp rfl) Opd.con (idx_len (n := 2) rfl hx13) (all_of (f := (cK .i64)) (k := 1) fun _ => rfl) hx14)), ⟨rfl, trivial⟩, rfl, rfl⟩, ⟨.inr ⟨(OpJ.w (J_load rfl Tryd.isAgg2 (Opd.tmp rfl))), ⟨rfl, trivial⟩, rfl, rfl⟩, ⟨.inr ⟨(OpJ.w (J_move rfl (Opd.tmp rfl))), ⟨rfl, trivial⟩, rfl, rfl⟩, ⟨.inr ⟨(OpJ.w (J_bin rfl (Opd.tmp rfl) Opd.con B_sub)), ⟨rfl, trivial⟩, rfl, rfl⟩, ⟨.inr ⟨(OpJ.w (J_aidxAddr rfl Tryd.underlying47 sz46 (Opd.tmp rfl) (Opd.tmp rfl) rfl rfl hx15)), ⟨rfl, rfl, trivial⟩, rfl, rfl⟩, ⟨.inr ⟨(OpJ.w (J_aidxAddr rfl Tryd.underlying46 sz2 (Opd.tmp rfl) Opd.con (idx_len (n := 2) rfl hx15) (all_of (f := (cK .i64)) (k := 1) fun _ => rfl) hx16)), ⟨rfl, trivial⟩, rfl, rfl⟩, ⟨.inr ⟨(OpJ.w (J_load rfl Tryd.isAgg2 (Opd.tmp rfl))), ⟨rfl, trivial⟩, rfl, rfl⟩, ⟨.inr ⟨(OpJ.w (J_move rfl (Opd.tmp rfl))), ⟨rfl, trivial⟩, rfl, rfl⟩, ⟨.inr ⟨(OpJ.w (J_aidxAddr rfl Tryd.underlying47 sz46 (Opd.tmp rfl) (Opd.tmp rfl) rfl rfl hx17)), ⟨rfl, rfl, trivial⟩, rfl, rfl⟩, ⟨.inr ⟨(OpJ.w (J_aidxAddr rfl Tryd.underlying46 sz2 (Opd.tmp rfl) Opd.con (idx_len (n := 2) rfl hx17) (all_of (f := (cK .i64)) (k := 1) fun _ => rfl) hx18)), ⟨rfl, trivial⟩, rfl, rfl⟩, ⟨.inr ⟨(OpJ.w (J_load rfl Tryd.isAgg2 (Opd.tmp rfl))), ⟨rfl, trivial⟩, rfl, rfl⟩, ⟨.inr ⟨(OpJ.w (J_move rfl (Opd.tmp rfl))), ⟨rfl, trivial⟩, rfl, rfl⟩, ⟨.inr ⟨(OpJ.w (J_aidxAddr rfl Tryd.underlying47 sz46 (Opd.tmp rfl) (Opd.tmp rfl) rfl rfl hx19)), ⟨rfl, rfl, trivial⟩, rfl, rfl⟩, ⟨.inr ⟨(OpJ.w (J_aidxAddr rfl Tryd.underlying46 sz2 (Opd.tmp rfl) Opd.con (idx_len (n := 2) rfl hx19) (all_of (f := (cK .i64)) (k := 1) fun _ => rfl) hx20)), ⟨rfl, trivial⟩, rfl, rfl⟩, ⟨.inr ⟨(OpJ.w (J_load rfl Tryd.isAgg2 (Opd.tmp rfl))), ⟨rfl, trivial⟩, rfl, rfl⟩, ⟨.inr ⟨(OpJ.w (J_move rfl (Opd.tmp rfl))), ⟨rfl, trivial⟩, rfl, rfl⟩, ⟨.inr ⟨(OpJ.w (J_call rfl Tryd.call59 (c_impl_blend hx21) (Opds.cons (Opd.tmp rfl) (Opds.cons (Opd.tmp rfl) (Opds.cons (Opd.tmp rfl) (Opds.cons (Opd.tmp rfl) (Opds.cons (Opd.tmp rfl) Opds.nil))))))), ⟨rfl, rfl, rfl, rfl, rfl, trivial⟩, rfl, rfl⟩, trivial⟩⟩⟩⟩⟩⟩⟩⟩⟩⟩⟩⟩⟩⟩⟩⟩⟩⟩⟩⟩ ?_
    refine RegL.pure (p := (pEq (.int .i64 x21))) rfl rfl rfl (J_assign rfl (Opd.tmp rfl)) ?_
    refine RegL.nil ?_
    refine Ct.then_tr ?_
    refine Tr.weak (Γ' := [(2, (pEq (.int .i64 x21)))]) ⟨rfl, trivial⟩ ?_
    refine Tr.ret ?_
    replace h := Option.some.inj h; subst h
    exact Ct.retH1 (Ωx := []) () rfl (RvOk.tmp rfl) rfl

theorem c_impl_rainOutage {f_0 : Int} {d_1 : Int} {margin_2 : Int} {r : Int} (h : m_impl_rainOutage f_0 d_1 margin_2 = some r) : CallJ Tryd.prog 31 [(pG (pTab 0 .u64 Lib.pow10Tab) (pEq (.int .i64 f_0))), (pEq (.int .i64 d_1)), (pEq (.int .i64 margin_2))] (pEq (.int .i64 r)) := by
  unfold m_impl_rainOutage at h
  refine CallJ.enterH Tryd.func31 rfl Tryd.ntmps31 rfl fun W I0 H => ?_
  refine Tr.tab (s := 0) (k := 99999) rfl ?_; refine Tr.weak (Γ' := [(0, (pEq (.int .i64 f_0))), (1, (pEq (.int .i64 d_1))), (2, (pEq (.int .i64 margin_2))), (99999, (pTab 0 .u64 Lib.pow10Tab))]) ⟨rfl, rfl, rfl, rfl, trivial⟩ ?_
  refine Tr.seq ?_
  refine Tr.region ?_
  refine RegL.pure (p := (pPtr ((cK .i64) f_0))) rfl rfl rfl (J_box rfl (Opd.tmp rfl) OneC.int) ?_
  refine RegL.pure (p := (pPtr ((cK .i64) d_1))) rfl rfl rfl (J_box rfl (Opd.tmp rfl) OneC.int) ?_
  refine RegL.pure (p := (pPtr ((cK .i64) margin_2))) rfl rfl rfl (J_box rfl (Opd.tmp rfl) OneC.int) ?_
  refine RegL.pure (p := (pEq (.int .i64 (0 : Int)))) rfl rfl rfl (J_assign rfl Opd.con) ?_
  refine RegL.nil ?_
  refine Ct.then_tr ?_
  refine Tr.weak (Γ' := [(3, (pPtr ((cK .i64) f_0))), (4, (pPtr ((cK .i64) d_1))), (5, (pPtr ((cK .i64) margin_2))), (99999, (pTab 0 .u64 Lib.pow10Tab))]) ⟨rfl, rfl, rfl, rfl, trivial⟩ ?_
  refine Tr.seq ?_
  refine Tr.region ?_
  refine RegL.pure (p := (pFn Tryd.prog (fun x => [(pEq (.int .i64 x))]) (fun x => m_impl_rainOutage_1 x f_0 d_1 margin_2) (fun y => (pEq (.bool y))))) rfl rfl rfl (J_makeFn rfl Tryd.call46 (Opds.cons (Opd.tab (Opd.tmp rfl) 99999 rfl) (Opds.cons (Opd.tmp rfl) (Opds.cons (Opd.tmp rfl) Opds.nil))) (fun _ _ h => c_impl_rainOutage_1 h)) ?_
  replace h := bind_some h; obtain ⟨x1, hx1, h⟩ := h
  refine RegL.pure (p := (pTup [(pEq (.int .i64 x1.1)), (pEq (.bool x1.2))])) rfl rfl rfl (J_call rfl Tryd.call45 (c_impl_least hx1) (Opds.cons Opd.con (Opds.cons Opd.con (Opds.cons (Opd.tmp rfl) Opds.nil)))) ?_
  refine RegL.pure (p := (pTup [(pEq (.int .i64 x1.1)), (pEq (.bool x1.2))])) rfl rfl rfl (J_move rfl (Opd.tmp rfl)) ?_
  refine RegL.pure (p := (pEq (.int .i64 x1.1))) rfl rfl rfl (J_extract rfl (Opd.tmp rfl) rfl) ?_
  refine RegL.pure (p := (pEq (.bool x1.2))) rfl rfl rfl (J_extract rfl (Opd.tmp rfl) rfl) ?_
  refine RegL.pure (p := (pEq (.int .i64 x1.1))) rfl rfl rfl (J_assign rfl (Opd.tmp rfl)) ?_
  refine RegL.pure (p := (pEq (.bool x1.2))) rfl rfl rfl (J_assign rfl (Opd.tmp rfl)) ?_
  refine RegL.nil ?_
  refine Ct.then_tr ?_
  refine Tr.weak (Γ' := [(7, (pEq (.int .i64 x1.1))), (8, (pEq (.bool x1.2))), (99999, (pTab 0 .u64 Lib.pow10Tab))]) ⟨rfl, rfl, rfl, trivial⟩ ?_
  refine Tr.seq ?_
  refine Tr.seq ?_
  refine Tr.region ?_
  refine RegL.pure (p := (pEq (.bool x1.2))) rfl rfl rfl (J_move rfl (Opd.tmp rfl)) ?_
  refine RegL.pure (p := (pEq (.bool (!x1.2)))) rfl rfl rfl (J_not rfl (Opd.tmp rfl)) ?_
  refine RegL.nil ?_
  refine Ct.then_tr ?_
  refine Tr.weak (Γ' := [(7, (pEq (.int .i64 x1.1))), (15, (pEq (.bool (!x1.2)))), (99999, (pTab 0 .u64 Lib.pow10Tab))]) ⟨rfl, rfl, rfl, trivial⟩ ?_
  refine Tr.cond (Opd.tmp rfl) (fun hc => ?_) (fun hc => ?_)
  · replace h := bif_t hc h
    refine Tr.seq ?_
    refine Tr.region ?_
    refine RegL.pure (p := (pEq (.int .i64 (0 : Int)))) rfl rfl rfl (J_assign rfl Opd.con) ?_
    refine RegL.nil ?_
    refine Ct.then_tr ?_
    refine Tr.weak (Γ' := [(6, (pEq (.int .i64 (0 : Int)))), (99999, (pTab 0 .u64 Lib.pow10Tab))]) ⟨rfl, rfl, trivial⟩ ?_
    refine Tr.ret ?_
    refine Ct.then_ret ?_
    replace h := Option.some.inj h; subst h
    exact Ct.retH1 (Ωx := []) () rfl (RvOk.tmp rfl) rfl
  · replace h := bif_f hc h
    refine Tr.skip ?_
    refine Ct.then_tr ?_
    refine Tr.weak (Γ' := [(7, (pEq (.int .i64 x1.1))), (99999, (pTab 0 .u64 Lib.pow10Tab))]) ⟨rfl, rfl, trivial⟩ ?_
    refine Tr.seq ?_
    refine Tr.region ?_
    refine RegL.pure (p := (pEq (.int .i64 x1.1))) rfl rfl rfl (J_move rfl (Opd.tmp rfl)) ?_
    replace h := bind_some h; obtain ⟨x2, hx2, h⟩ := h
    refine RegL.pure (p := (pEq (.int .i64 x2))) rfl rfl rfl (J_call rfl Tryd.call48 (c_impl_exceedanceOf hx2) (Opds.cons (Opd.tmp rfl) Opds.nil)) ?_
    refine RegL.pure (p := (pEq (.int .i64 x2))) rfl rfl rfl (J_assign rfl (Opd.tmp rfl)) ?_
    refine RegL.nil ?_
    refine Ct.then_tr ?_
    refine Tr.weak (Γ' := [(6, (pEq (.int .i64 x2))), (99999, (pTab 0 .u64 Lib.pow10Tab))]) ⟨rfl, rfl, trivial⟩ ?_
    refine Tr.ret ?_
    replace h := Option.some.inj h; subst h
    exact Ct.retH1 (Ωx := []) () rfl (RvOk.tmp rfl) rfl

theorem c_impl_seriesOutage {list_0 : (List Int)} {r : Int} (h : m_impl_seriesOutage list_0 = some r) : CallJ Tryd.prog 50 [(pSl 1 (cK .i64) list_0)] (pEq (.int .i64 r)) := by
  unfold m_impl_seriesOutage at h
  refine CallJ.enterH Tryd.func50 rfl Tryd.ntmps50 rfl fun W I0 H => ?_
  refine Tr.weak (Γ' := [(0, (pSl 1 (cK .i64) list_0))]) ⟨rfl, trivial⟩ ?_
  refine Tr.seq ?_
  refine Tr.region ?_
  refine RegL.pure (p := (pEq (.int .i64 (0 : Int)))) rfl rfl rfl (J_assign rfl Opd.con) ?_
  refine RegL.nil ?_
  refine Ct.then_tr ?_
  refine Tr.weak (Γ' := [(0, (pSl 1 (cK .i64) list_0))]) ⟨rfl, trivial⟩ ?_
  refine Tr.seq ?_
  refine Tr.region ?_
  refine RegL.pure (p := (pEq (.int .i64 (1000000 : Int)))) rfl rfl rfl (J_assign rfl Opd.con) ?_
  refine RegL.nil ?_
  refine Ct.then_tr ?_
  refine Tr.weak (Γ' := [(0, (pSl 1 (cK .i64) list_0)), (3, (pEq (.int .i64 (1000000 : Int))))]) ⟨rfl, rfl, trivial⟩ ?_
  refine Tr.seq ?_
  refine Tr.seq ?_
  refine Tr.region ?_
  refine RegL.pure (p := (pSl 1 (cK .i64) list_0)) rfl rfl rfl (J_move rfl (Opd.tmp rfl)) ?_
  refine RegL.pure (p := (pEq (.int .i64 (list_0.length : Int)))) rfl rfl rfl (J_len rfl Tryd.underlying38 (Opd.tmp rfl) rfl) ?_
  refine RegL.pure (p := (pEq (.int .i64 (0 : Int)))) rfl rfl rfl (J_move rfl Opd.con) ?_
  refine RegL.nil ?_
  refine Ct.then_tr ?_
  refine Tr.weak (Γ' := [(3, (pEq (.int .i64 (1000000 : Int)))), (6, (pSl 1 (cK .i64) list_0)), (7, (pEq (.int .i64 (list_0.length : Int)))), (8, (pEq (.int .i64 (0 : Int))))]) ⟨rfl, rfl, rfl, rfl, trivial⟩ ?_
  replace h := bind_some h; obtain ⟨x1, hx1, h⟩ := h
  refine Tr.cut (γ := Unit) (Γm := fun g => [(3, (pEq (.int .i64 x1)))]) (Ωm := fun g => []) ?_ (fun g7 => ?_)
  · clear h
    have h := hx1
    clear hx1
    refine Tr.block ?_
    refine Tr.weak (Γ' := [(3, (pEq (.int .i64 (1000000 : Int)))), (6, (pSl 1 (cK .i64) list_0)), (7, (pEq (.int .i64 (list_0.length : Int)))), (8, (pEq (.int .i64 (0 : Int))))]) ⟨rfl, rfl, rfl, rfl, trivial⟩ ?_
    refine Tr.loop (γ := Unit) (σ := (Int × Int)) (Γσ := fun s g => [(3, (pEq (.int .i64 s.1))), (6, (pSl 1 (cK .i64) list_0)), (7, (pEq (.int .i64 (list_0.length : Int)))), (8, (pEq (.int .i64 s.2)))]) (Ωσ := fun s g => []) (g := ()) h ?_
    clear h
    rintro ⟨v3, v4⟩ g5 t h
    replace h : m_impl_seriesOutage_B2 list_0 v3 v4 = some t := h
    unfold m_impl_seriesOutage_B2 at h
    refine Tr.weakO (Γ' := [(3, (pEq (.int .i64 v3))), (6, (pSl 1 (cK .i64) list_0)), (7, (pEq (.int .i64 (list_0.length : Int)))), (8, (pEq (.int .i64 v4)))]) (Ω' := []) rfl ⟨rfl, rfl, rfl, rfl, trivial⟩ ?_
    refine Tr.seq ?_
    refine Tr.region ?_
    refine RegL.pure (p := (pEq (.bool (decide (v4 < (list_0.length : Int)))))) rfl rfl rfl (J_bin rfl (Opd.tmp rfl) (Opd.tmp rfl) B_lss) ?_
    refine RegL.nil ?_
    refine Ct.then_tr ?_
    refine Tr.weak (Γ' := [(3, (pEq (.int .i64 v3))), (6, (pSl 1 (cK .i64) list_0)), (7, (pEq (.int .i64 (list_0.length : Int)))), (8, (pEq (.int .i64 v4))), (9, (pEq (.bool (decide (v4 < (list_0.length : Int))))))]) ⟨rfl, rfl, rfl, rfl, rfl, trivial⟩ ?_
    refine Tr.seq ?_
    refine Tr.cond (Opd.tmp rfl) (fun hc => ?_) (fun hc => ?_)
    · replace h := bif_t hc h
      refine Tr.skip ?_
      refine Ct.then_tr ?_
      refine Tr.weak (Γ' := [(3, (pEq (.int .i64 v3))), (6, (pSl 1 (cK .i64) list_0)), (7, (pEq (.int .i64 (list_0.length : Int)))), (8, (pEq (.int .i64 v4)))]) ⟨rfl, rfl, rfl, rfl, trivial⟩ ?_
      refine Tr.seq ?_
      refine Tr.block ?_
      refine Tr.seq ?_
      refine Tr.region ?_
      replace h := bind_some h; obtain ⟨x6, hx6, h⟩ := h
      refine RegL.pure (p := (pPtr ((cK .i64) x6))) rfl rfl rfl (J_idx rfl Tryd.underlying38 sz2 (Opd.tmp rfl) (Opd.tmp rfl) hx6) ?_
      refine RegL.pure (p := (pEq (.int .i64 x6))) rfl rfl rfl (J_load rfl Tryd.isAgg2 (Opd.tmp rfl)) ?_
      refine RegL.pure (p := (pEq (.int .i64 x6))) rfl rfl rfl (J_assign rfl (Opd.tmp rfl)) ?_
      refine RegL.nil ?_
      refine Ct.then_tr ?_
      refine Tr.weak (Γ' := [(3, (pEq (.int .i64 v3))), (5, (pEq (.int .i64 x6))), (6, (pSl 1 (cK .i64) list_0)), (7, (pEq (.int .i64 (list_0.length : Int)))), (8, (pEq (.int .i64 v4)))]) ⟨rfl, rfl, rfl, rfl, rfl, trivial⟩ ?_
      refine Tr.region ?_
      refine RegL.pure (p := (pEq (.int .i64 v3))) rfl rfl rfl (J_move rfl (Opd.tmp rfl)) ?_
      refine RegL.pure (p := (pEq (.int .i64 x6))) rfl rfl rfl (J_move rfl (Opd.tmp rfl)) ?_
      refine RegL.pure (p := (pEq (.int .i64 (w64 ((1000000 : Int) - x6))))) rfl rfl rfl (J_bin rfl Opd.con (Opd.tmp rfl) B_sub) ?_
      refine RegL.pure (p := (pEq (.int .i64 (w64 (v3 * (w64 ((1000000 : Int) - x6))))))) rfl rfl rfl (J_bin rfl (Opd.tmp rfl) (Opd.tmp rfl) B_mul) ?_
      refine RegL.pure (p := (pEq (.int .i64 (w64 ((w64 (v3 * (w64 ((1000000 : Int) - x6)))).tdiv (1000000 : Int)))))) rfl rfl rfl (J_bin rfl (Opd.tmp rfl) Opd.con (B_quo (n := (1000000 : Int)) (by decide))) ?_
      refine RegL.pure (p := (pEq (.int .i64 (w64 ((w64 (v3 * (w64 ((1000000 : Int) - x6)))).tdiv (1000000 : Int)))))) rfl rfl rfl (J_assign rfl (Opd.tmp rfl)) ?_
      refine RegL.nil ?_
      refine Ct.blk_normal ?_
      refine Ct.then_tr ?_
      refine Tr.weak (Γ' := [(3, (pEq (.int .i64 (w64 ((w64 (v3 * (w64 ((1000000 : Int) - x6)))).tdiv (1000000 : Int)))))), (6, (pSl 1 (cK .i64) list_0)), (7, (pEq (.int .i64 (list_0.length : Int)))), (8, (pEq (.int .i64 v4)))]) ⟨rfl, rfl, rfl, rfl, trivial⟩ ?_
      refine Tr.region ?_
      refine RegL.pure (p := (pEq (.int .i64 (w64 (v4 + (1 : Int)))))) rfl rfl rfl (J_bin rfl (Opd.tmp rfl) Opd.con B_add) ?_
      refine RegL.pure (p := (pEq (.int .i64 (w64 (v4 + (1 : Int)))))) rfl rfl rfl (J_move rfl (Opd.tmp rfl)) ?_
      refine RegL.nil ?_
      replace h := Option.some.inj h; subst h
      exact Ct.again () rfl ⟨rfl, rfl, rfl, rfl, trivial⟩
    · replace h := bif_f hc h
      refine Tr.exit ?_
      refine Ct.then_exit ?_
      replace h := map_some h; obtain ⟨r1, h, rfl⟩ := h
      refine Ct.out_exit fun e => ?_
      subst e
      refine Ct.blk_exit ?_
      replace h := Option.some.inj h; subst h
      exact Ct.mid () rfl ⟨rfl, trivial⟩
  · clear hx1
    refine Ct.then_tr ?_
    refine Tr.weak (Γ' := [(3, (pEq (.int .i64 x1)))]) ⟨rfl, trivial⟩ ?_
    refine Tr.seq ?_
    refine Tr.region ?_
    refine RegL.pure (p := (pEq (.int .i64 x1))) rfl rfl rfl (J_move rfl (Opd.tmp rfl)) ?_
    refine RegL.pure (p := (pEq (.int .i64 (w64 ((1000000 : Int) - x1))))) rfl rfl rfl (J_bin rfl Opd.con (Opd.tmp rfl) B_sub) ?_
    refine RegL.pure (p := (pEq (.int .i64 (w64 ((1000000 : Int) - x1))))) rfl rfl rfl (J_assign rfl (Opd.tmp rfl)) ?_
    refine RegL.nil ?_
    refine Ct.then_tr ?_
    refine Tr.weak (Γ' := [(2, (pEq (.int .i64 (w64 ((1000000 : Int) - x1)))))]) ⟨rfl, trivial⟩ ?_
    refine Tr.ret ?_
    replace h := Option.some.inj h; subst h
    exact Ct.retH1 (Ωx := []) () rfl (RvOk.tmp rfl) rfl

theorem c_impl_hopOutage {f_0 : Int} {d_1 : Int} {climate_2 : Int} {margin_3 : Int} {r : Int} (h : m_impl_hopOutage f_0 d_1 climate_2 margin_3 = some r) : CallJ Tryd.prog 33 [(pG (pTab 0 .u64 Lib.pow10Tab) (pEq (.int .i64 f_0))), (pEq (.int .i64 d_1)), (pEq (.int .i64 climate_2)), (pEq (.int .i64 margin_3))] (pEq (.int .i64 r)) := by
  unfold m_impl_hopOutage at h
  refine CallJ.enterH Tryd.func33 rfl Tryd.ntmps33 rfl fun W I0 H => ?_
  refine Tr.tab (s := 0) (k := 99999) rfl ?_; refine Tr.weak (Γ' := [(0, (pEq (.int .i64 f_0))), (1, (pEq (.int .i64 d_1))), (2, (pEq (.int .i64 climate_2))), (3, (pEq (.int .i64 margin_3))), (99999, (pTab 0 .u64 Lib.pow10Tab))]) ⟨rfl, rfl, rfl, rfl, rfl, trivial⟩ ?_
  refine Tr.seq ?_
  refine Tr.region ?_
  refine RegL.pure (p := (pEq (.int .i64 (0 : Int)))) rfl rfl rfl (J_assign rfl Opd.con) ?_
  refine RegL.nil ?_
  refine Ct.then_tr ?_
  refine Tr.weak (Γ' := [(0, (pEq (.int .i64 f_0))), (1, (pEq (.int .i64 d_1))), (2, (pEq (.int .i64 climate_2))), (3, (pEq (.int .i64 margin_3))), (99999, (pTab 0 .u64 Lib.pow10Tab))]) ⟨rfl, rfl, rfl, rfl, rfl, trivial⟩ ?_
  refine Tr.seq ?_
  refine Tr.region ?_
  refine RegL.pure (p := (pEq (.int .i64 f_0))) rfl rfl rfl (J_move rfl (Opd.tmp rfl)) ?_
  refine RegL.pure (p := (pEq (.int .i64 d_1))) rfl rfl rfl (J_move rfl (Opd.tmp rfl)) ?_
  refine RegL.pure (p := (pEq (.int .i64 climate_2))) rfl rfl rfl (J_move rfl (Opd.tmp rfl)) ?_
  refine RegL.pure (p := (pEq (.int .i64 margin_3))) rfl rfl rfl (J_move rfl (Opd.tmp rfl)) ?_
  replace h := bind_some h; obtain ⟨x1, hx1, h⟩ := h
  refine RegL.pure (p := (pEq (.int .i64 x1))) rfl rfl rfl (J_call rfl Tryd.call22 (c_impl_outageOf hx1) (Opds.cons (Opd.tab (Opd.tmp rfl) 99999 rfl) (Opds.cons (Opd.tmp rfl) (Opds.cons (Opd.tmp rfl) (Opds.cons (Opd.tmp rfl) Opds.nil))))) ?_
  refine RegL.pure (p := (pEq (.int .i64 f_0))) rfl rfl rfl (J_move rfl (Opd.tmp rfl)) ?_
  refine RegL.pure (p := (pEq (.int .i64 d_1))) rfl rfl rfl (J_move rfl (Opd.tmp rfl)) ?_
  refine RegL.pure (p := (pEq (.int .i64 margin_3))) rfl rfl rfl (J_move rfl (Opd.tmp rfl)) ?_
  replace h := bind_some h; obtain ⟨x2, hx2, h⟩ := h
  refine RegL.pure (p := (pEq (.int .i64 x2))) rfl rfl rfl (J_call rfl Tryd.call31 (c_impl_rainOutage hx2) (Opds.cons (Opd.tab (Opd.tmp rfl) 99999 rfl) (Opds.cons (Opd.tmp rfl) (Opds.cons (Opd.tmp rfl) Opds.nil)))) ?_
  refine RegL.pure (p := (pSl 1 (cK .i64) ([x1, x2] : (List Int)))) rfl rfl rfl (J_buildSlice (l := ([x1, x2] : (List Int))) (qss := [(0, (cK .i64) x1), (1, (cK .i64) x2)]) rfl Tryd.underlying38 el2 rfl (Parts.cons (Part.one (Opd.tmp rfl) OneC.int) (Parts.cons (Part.one (Opd.tmp rfl) OneC.int) Parts.nil)) rfl rfl) ?_
  replace h := bind_some h; obtain ⟨x3, hx3, h⟩ := h
  refine RegL.pure (p := (pEq (.int .i64 x3))) rfl rfl rfl (J_call rfl Tryd.call50 (c_impl_seriesOutage hx3) (Opds.cons (Opd.tmp rfl) Opds.nil)) ?_
  refine RegL.pure (p := (pEq (.int .i64 x3))) rfl rfl rfl (J_assign rfl (Opd.tmp rfl)) ?_
  refine RegL.nil ?_
  refine Ct.then_tr ?_
  refine Tr.weak (Γ' := [(8, (pEq (.int .i64 x3))), (99999, (pTab 0 .u64 Lib.pow10Tab))]) ⟨rfl, rfl, trivial⟩ ?_
  refine Tr.ret ?_
  replace h := Option.some.inj h; subst h
  exact Ct.retH1 (Ωx := []) () rfl (RvOk.tmp rfl) rfl

theorem c_impl_HopOutage {f_0 : Int} {d_1 : Int} {climate_2 : Int} {margin_3 : Int} {r : (Int × Int)} (h : m_impl_HopOutage f_0 d_1 climate_2 margin_3 = some r) : CallJ Tryd.prog 14 [(pG (pTab 0 .u64 Lib.pow10Tab) (pEq (.int .i64 f_0))), (pEq (.int .i64 d_1)), (pEq (.int .i64 climate_2)), (pEq (.int .i64 margin_3))] (pTup [(pEq (.int .i64 r.1)), (pEq (.int .i64 r.2))]) := by
  unfold m_impl_HopOutage at h
  refine CallJ.enterH Tryd.func14 rfl Tryd.ntmps14 rfl fun W I0 H => ?_
  refine Tr.tab (s := 0) (k := 99999) rfl ?_; refine Tr.weak (Γ' := [(0, (pEq (.int .i64 f_0))), (1, (pEq (.int .i64 d_1))), (2, (pEq (.int .i64 climate_2))), (3, (pEq (.int .i64 margin_3))), (99999, (pTab 0 .u64 Lib.pow10Tab))]) ⟨rfl, rfl, rfl, rfl, rfl, trivial⟩ ?_
  refine Tr.seq ?_
  refine Tr.region ?_
  refine RegL.pure (p := (pEq (.int .i64 (0 : Int)))) rfl rfl rfl (J_assign rfl Opd.con) ?_
  refine RegL.pure (p := (pEq (.int .i64 (0 : Int)))) rfl rfl rfl (J_assign rfl Opd.con) ?_
  refine RegL.nil ?_
  refine Ct.then_tr ?_
  refine Tr.weak (Γ' := [(0, (pEq (.int .i64 f_0))), (1, (pEq (.int .i64 d_1))), (2, (pEq (.int .i64 climate_2))), (3, (pEq (.int .i64 margin_3))), (99999, (pTab 0 .u64 Lib.pow10Tab))]) ⟨rfl, rfl, rfl, rfl, rfl, trivial⟩ ?_
  refine Tr.seq ?_
  refine Tr.seq ?_
  replace h := bind_some h; obtain ⟨x1, hx1, h⟩ := h
  refine Tr.cut (γ := Unit) (Γm := fun g => [(0, (pEq (.int .i64 f_0))), (1, (pEq (.int .i64 d_1))), (2, (pEq (.int .i64 climate_2))), (3, (pEq (.int .i64 margin_3))), (19, (pEq (.bool x1))), (99999, (pTab 0 .u64 Lib.pow10Tab))]) (Ωm := fun g => []) ?_ (fun g5 => ?_)
  · clear h
    have h := hx1
    clear hx1
    refine Tr.region ?_
    refine RegL.pure (p := (pEq (.int .i64 f_0))) rfl rfl rfl (J_move rfl (Opd.tmp rfl)) ?_
    refine RegL.pure (p := (pEq (.int .i64 d_1))) rfl rfl rfl (J_move rfl (Opd.tmp rfl)) ?_
    refine RegL.pure (p := (pEq (.int .i64 climate_2))) rfl rfl rfl (J_move rfl (Opd.tmp rfl)) ?_
    replace h := bind_some h; obtain ⟨x2, hx2, h⟩ := h
    refine RegL.pure (p := (pEq (.bool x2))) rfl rfl rfl (J_call rfl Tryd.call20 (c_impl_fadingOk hx2) (Opds.cons (Opd.tmp rfl) (Opds.cons (Opd.tmp rfl) (Opds.cons (Opd.tmp rfl) Opds.nil)))) ?_
    refine RegL.pure (p := (pEq (.bool (!x2)))) rfl rfl rfl (J_not rfl (Opd.tmp rfl)) ?_
    refine RegL.pure (p := (pEq (.bool (!x2)))) rfl rfl rfl (J_move rfl (Opd.tmp rfl)) ?_
    rcases Bool.eq_false_or_eq_true (!x2) with hc3 | hc3
    · replace h := bif_t hc3 h
      refine RegL.skipG rfl rfl rfl hc3 rfl rfl ?_
      refine RegL.skipG rfl rfl rfl hc3 rfl rfl ?_
      refine RegL.skipG rfl rfl rfl hc3 rfl rfl ?_
      refine RegL.pure (p := (pEq (.bool true))) rfl rfl rfl (J_pick rfl (Opd.tmp rfl) (fun _ => Opd.con) (fun hf => absurd (hc3.symm.trans hf) (by decide))) ?_
      refine RegL.nil ?_
      replace h := Option.some.inj h; subst h
      exact Ct.mid () rfl ⟨rfl, rfl, rfl, rfl, rfl, rfl, trivial⟩
    · replace h := bif_f hc3 h
      refine RegL.pureG (p := (pEq (.int .i64 margin_3))) rfl rfl rfl hc3 rfl rfl (J_move rfl (Opd.tmp rfl)) ?_
      replace h := bind_some h; obtain ⟨x4, hx4, h⟩ := h
      refine RegL.pureG (p := (pEq (.bool x4))) rfl rfl rfl hc3 rfl rfl (J_call rfl Tryd.call21 (c_impl_marginOk hx4) (Opds.cons (Opd.tmp rfl) Opds.nil)) ?_
      refine RegL.pureG (p := (pEq (.bool (!x4)))) rfl rfl rfl hc3 rfl rfl (J_not rfl (Opd.tmp rfl)) ?_
      refine RegL.pure (p := (pEq (.bool (!x4)))) rfl rfl rfl (J_pick rfl (Opd.tmp rfl) (fun hf => absurd (hc3.symm.trans hf) (by decide)) (fun _ => (Opd.tmp rfl))) ?_
      refine RegL.nil ?_
      replace h := Option.some.inj h; subst h
      exact Ct.mid () rfl ⟨rfl, rfl, rfl, rfl, rfl, rfl, trivial⟩
  · clear hx1
    refine Ct.then_tr ?_
    refine Tr.weak (Γ' := [(0, (pEq (.int .i64 f_0))), (1, (pEq (.int .i64 d_1))), (2, (pEq (.int .i64 climate_2))), (3, (pEq (.int .i64 margin_3))), (19, (pEq (.bool x1))), (99999, (pTab 0 .u64 Lib.pow10Tab))]) ⟨rfl, rfl, rfl, rfl, rfl, rfl, trivial⟩ ?_
    refine Tr.cond (Opd.tmp rfl) (fun hc => ?_) (fun hc => ?_)
    · replace h := bif_t hc h
      refine Tr.seq ?_
      refine Tr.region ?_
      refine RegL.pure (p := (pEq (.int .i64 (0 : Int)))) rfl rfl rfl (J_assign rfl Opd.con) ?_
      refine RegL.pure (p := (pEq (.int .i64 (2 : Int)))) rfl rfl rfl (J_assign rfl Opd.con) ?_
      refine RegL.nil ?_
      refine Ct.then_tr ?_
      refine Tr.weak (Γ' := [(8, (pEq (.int .i64 (0 : Int)))), (9, (pEq (.int .i64 (2 : Int)))), (99999, (pTab 0 .u64 Lib.pow10Tab))]) ⟨rfl, rfl, rfl, trivial⟩ ?_
      refine Tr.ret ?_
      refine Ct.then_ret ?_
      replace h := Option.some.inj h; subst h
      exact Ct.retH2 (Ωx := []) () rfl (RvOk.tmp rfl) (RvOk.tmp rfl) rfl rfl
    · replace h := bif_f hc h
      refine Tr.skip ?_
      refine Ct.then_tr ?_
      refine Tr.weak (Γ' := [(0, (pEq (.int .i64 f_0))), (1, (pEq (.int .i64 d_1))), (2, (pEq (.int .i64 climate_2))), (3, (pEq (.int .i64 margin_3))), (99999, (pTab 0 .u64 Lib.pow10Tab))]) ⟨rfl, rfl, rfl, rfl, rfl, trivial⟩ ?_
      refine Tr.seq ?_
      refine Tr.region ?_
      refine RegL.pure (p := (pEq (.int .i64 f_0))) rfl rfl rfl (J_move rfl (Opd.tmp rfl)) ?_
      refine RegL.pure (p := (pEq (.int .i64 d_1))) rfl rfl rfl (J_move rfl (Opd.tmp rfl)) ?_
      refine RegL.pure (p := (pEq (.int .i64 climate_2))) rfl rfl rfl (J_move rfl (Opd.tmp rfl)) ?_
      refine RegL.pure (p := (pEq (.int .i64 margin_3))) rfl rfl rfl (J_move rfl (Opd.tmp rfl)) ?_
      replace h := bind_some h; obtain ⟨x6, hx6, h⟩ := h
      refine RegL.pure (p := (pEq (.int .i64 x6))) rfl rfl rfl (J_call rfl Tryd.call33 (c_impl_hopOutage hx6) (Opds.cons (Opd.tab (Opd.tmp rfl) 99999 rfl) (Opds.cons (Opd.tmp rfl) (Opds.cons (Opd.tmp rfl) (Opds.cons (Opd.tmp rfl) Opds.nil))))) ?_
      refine RegL.pure (p := (pEq (.int .i64 x6))) rfl rfl rfl (J_assign rfl (Opd.tmp rfl)) ?_
      refine RegL.pure (p := (pEq (.int .i64 (0 : Int)))) rfl rfl rfl (J_assign rfl Opd.con) ?_
      refine RegL.nil ?_
      refine Ct.then_tr ?_
      refine Tr.weak (Γ' := [(8, (pEq (.int .i64 x6))), (9, (pEq (.int .i64 (0 : Int)))), (99999, (pTab 0 .u64 Lib.pow10Tab))]) ⟨rfl, rfl, rfl, trivial⟩ ?_
      refine Tr.ret ?_
      replace h := Option.some.inj h; subst h
      exact Ct.retH2 (Ωx := []) () rfl (RvOk.tmp rfl) (RvOk.tmp rfl) rfl rfl

theorem c_laws_FnExactHopOutage {aF_0 : Int} {aD_1 : Int} {aClimate_2 : Int} {aMargin_3 : Int} {r : Bool} (h : m_laws_FnExactHopOutage aF_0 aD_1 aClimate_2 aMargin_3 = some r) : CallJ Tryd.prog 6 [(pG (pTab 0 .u64 Lib.pow10Tab) (pEq (.int .i64 aF_0))), (pEq (.int .i64 aD_1)), (pEq (.int .i64 aClimate_2)), (pEq (.int .i64 aMargin_3))] (pEq (.bool r)) := by
  unfold m_laws_FnExactHopOutage at h
  refine CallJ.enterH Tryd.func6 rfl Tryd.ntmps6 rfl fun W I0 H => ?_
  refine Tr.tab (s := 0) (k := 99999) rfl ?_; refine Tr.weak (Γ' := [(0, (pEq (.int .i64 aF_0))), (1, (pEq (.int .i64 aD_1))), (2, (pEq (.int .i64 aClimate_2))), (3, (pEq (.int .i64 aMargin_3))), (99999, (pTab 0 .u64 Lib.pow10Tab))]) ⟨rfl, rfl, rfl, rfl, rfl, trivial⟩ ?_
  refine Tr.seq ?_
  refine Tr.region ?_
  refine RegL.pure (p := (pEq (.bool false))) rfl rfl rfl (J_assign rfl Opd.con) ?_
  refine RegL.nil ?_
  refine Ct.then_tr ?_
  refine Tr.weak (Γ' := [(0, (pEq (.int .i64 aF_0))), (1, (pEq (.int .i64 aD_1))), (2, (pEq (.int .i64 aClimate_2))), (3, (pEq (.int .i64 aMargin_3))), (99999, (pTab 0 .u64 Lib.pow10Tab))]) ⟨rfl, rfl, rfl, rfl, rfl, trivial⟩ ?_
  refine Tr.seq ?_
  refine Tr.region ?_
  refine RegL.pure (p := (pEq (.int .i64 aF_0))) rfl rfl rfl (J_move rfl (Opd.tmp rfl)) ?_
  refine RegL.pure (p := (pEq (.int .i64 aD_1))) rfl rfl rfl (J_move rfl (Opd.tmp rfl)) ?_
  refine RegL.pure (p := (pEq (.int .i64 aClimate_2))) rfl rfl rfl (J_move rfl (Opd.tmp rfl)) ?_
  refine RegL.pure (p := (pEq (.int .i64 aMargin_3))) rfl rfl rfl (J_move rfl (Opd.tmp rfl)) ?_
  replace h := bind_some h; obtain ⟨x1, hx1, h⟩ := h
  refine RegL.pure (p := (pTup [(pEq (.int .i64 x1.1)), (pEq (.int .i64 x1.2))])) rfl rfl rfl (J_call rfl Tryd.call13 (c_spec_HopOutage hx1) (Opds.cons (Opd.tmp rfl) (Opds.cons (Opd.tmp rfl) (Opds.cons (Opd.tmp rfl) (Opds.cons (Opd.tmp rfl) Opds.nil))))) ?_
  refine RegL.pure (p := (pTup [(pEq (.int .i64 x1.1)), (pEq (.int .i64 x1.2))])) rfl rfl rfl (J_move rfl (Opd.tmp rfl)) ?_
  refine RegL.pure (p := (pEq (.int .i64 x1.1))) rfl rfl rfl (J_extract rfl (Opd.tmp rfl) rfl) ?_
  refine RegL.pure (p := (pEq (.int .i64 x1.2))) rfl rfl rfl (J_extract rfl (Opd.tmp rfl) rfl) ?_
  refine RegL.pure (p := (pEq (.int .i64 x1.1))) rfl rfl rfl (J_assign rfl (Opd.tmp rfl)) ?_
  refine RegL.pure (p := (pEq (.int .i64 x1.2))) rfl rfl rfl (J_assign rfl (Opd.tmp rfl)) ?_
  refine RegL.nil ?_
  refine Ct.then_tr ?_
  refine Tr.weak (Γ' := [(0, (pEq (.int .i64 aF_0))), (1, (pEq (.int .i64 aD_1))), (2, (pEq (.int .i64 aClimate_2))), (3, (pEq (.int .i64 aMargin_3))), (9, (pEq (.int .i64 x1.1))), (10, (pEq (.int .i64 x1.2))), (99999, (pTab 0 .u64 Lib.pow10Tab))]) ⟨rfl, rfl, rfl, rfl, rfl, rfl, rfl, trivial⟩ ?_
  refine Tr.seq ?_
  refine Tr.region ?_
  refine RegL.pure (p := (pEq (.int .i64 aF_0))) rfl rfl rfl (J_move rfl (Opd.tmp rfl)) ?_
  refine RegL.pure (p := (pEq (.int .i64 aD_1))) rfl rfl rfl (J_move rfl (Opd.tmp rfl)) ?_
  refine RegL.pure (p := (pEq (.int .i64 aClimate_2))) rfl rfl rfl (J_move rfl (Opd.tmp rfl)) ?_
  refine RegL.pure (p := (pEq (.int .i64 aMargin_3))) rfl rfl rfl (J_move rfl (Opd.tmp rfl)) ?_
  replace h := bind_some h; obtain ⟨x2, hx2, h⟩ := h
  refine RegL.pure (p := (pTup [(pEq (.int .i64 x2.1)), (pEq (.int .i64 x2.2))])) rfl rfl rfl (J_call rfl Tryd.call14 (c_impl_HopOutage hx2) (Opds.cons (Opd.tab (Opd.tmp rfl) 99999 rfl) (Opds.cons (Opd.tmp rfl) (Opds.cons (Opd.tmp rfl) (Opds.cons (Opd.tmp rfl) Opds.nil))))) ?_
  refine RegL.pure (p := (pTup [(pEq (.int .i64 x2.1)), (pEq (.int .i64 x2.2))])) rfl rfl rfl (J_move rfl (Opd.tmp rfl)) ?_
  refine RegL.pure (p := (pEq (.int .i64 x2.1))) rfl rfl rfl (J_extract rfl (Opd.tmp rfl) rfl) ?_
  refine RegL.pure (p := (pEq (.int .i64 x2.2))) rfl rfl rfl (J_extract rfl (Opd.tmp rfl) rfl) ?_
  refine RegL.pure (p := (pEq (.int .i64 x2.1))) rfl rfl rfl (J_assign rfl (Opd.tmp rfl)) ?_
  refine RegL.pure (p := (pEq (.int .i64 x2.2))) rfl rfl rfl (J_assign rfl (Opd.tmp rfl)) ?_
  refine RegL.nil ?_
  refine Ct.then_tr ?_
  refine Tr.weak (Γ' := [(9, (pEq (.int .i64 x1.1))), (10, (pEq (.int .i64 x1.2))), (11, (pEq (.int .i64 x2.1))), (12, (pEq (.int .i64 x2.2))), (99999, (pTab 0 .u64 Lib.pow10Tab))]) ⟨rfl, rfl, rfl, rfl, rfl, trivial⟩ ?_
  refine Tr.seq ?_
  refine Tr.seq ?_
  replace h := bind_some h; obtain ⟨x3, hx3, h⟩ := h
  refine Tr.cut (γ := Unit) (Γm := fun g => [(36, (pEq (.bool x3))), (99999, (pTab 0 .u64 Lib.pow10Tab))]) (Ωm := fun g => []) ?_ (fun g5 => ?_)
  · clear h
    have h := hx3
    clear hx3
    refine Tr.region ?_
    refine RegL.pure (p := (pEq (.int .i64 x2.1))) rfl rfl rfl (J_move rfl (Opd.tmp rfl)) ?_
    refine RegL.pure (p := (pEq (.int .i64 x1.1))) rfl rfl rfl (J_move rfl (Opd.tmp rfl)) ?_
    refine RegL.pure (p := (pEq (.bool (x2.1 != x1.1)))) rfl rfl rfl (J_bin rfl (Opd.tmp rfl) (Opd.tmp rfl) B_neq) ?_
    refine RegL.pure (p := (pEq (.bool (x2.1 != x1.1)))) rfl rfl rfl (J_move rfl (Opd.tmp rfl)) ?_
    rcases Bool.eq_false_or_eq_true (x2.1 != x1.1) with hc4 | hc4
    · replace h := bif_t hc4 h
      refine RegL.skipG rfl rfl rfl hc4 rfl rfl ?_
      refine RegL.skipG rfl rfl rfl hc4 rfl rfl ?_
      refine RegL.skipG rfl rfl rfl hc4 rfl rfl ?_
      refine RegL.pure (p := (pEq (.bool true))) rfl rfl rfl (J_pick rfl (Opd.tmp rfl) (fun _ => Opd.con) (fun hf => absurd (hc4.symm.trans hf) (by decide))) ?_
      refine RegL.nil ?_
      replace h := Option.some.inj h; subst h
      exact Ct.mid () rfl ⟨rfl, rfl, trivial⟩
    · replace h := bif_f hc4 h
      refine RegL.pureG (p := (pEq (.int .i64 x2.2))) rfl rfl rfl hc4 rfl rfl (J_move rfl (Opd.tmp rfl)) ?_
      refine RegL.pureG (p := (pEq (.int .i64 x1.2))) rfl rfl rfl hc4 rfl rfl (J_move rfl (Opd.tmp rfl)) ?_
      refine RegL.pureG (p := (pEq (.bool (x2.2 != x1.2)))) rfl rfl rfl hc4 rfl rfl (J_bin rfl (Opd.tmp rfl) (Opd.tmp rfl) B_neq) ?_
      refine RegL.pure (p := (pEq (.bool (x2.2 != x1.2)))) rfl rfl rfl (J_pick rfl (Opd.tmp rfl) (fun hf => absurd (hc4.symm.trans hf) (by decide)) (fun _ => (Opd.tmp rfl))) ?_
      refine RegL.nil ?_
      replace h := Option.some.inj h; subst h
      exact Ct.mid () rfl ⟨rfl, rfl, trivial⟩
  · clear hx3
    refine Ct.then_tr ?_
    refine Tr.weak (Γ' := [(36, (pEq (.bool x3))), (99999, (pTab 0 .u64 Lib.pow10Tab))]) ⟨rfl, rfl, trivial⟩ ?_
    refine Tr.cond (Opd.tmp rfl) (fun hc => ?_) (fun hc => ?_)
    · replace h := bif_t hc h
      refine Tr.seq ?_
      refine Tr.region ?_
      refine RegL.pure (p := (pEq (.bool false))) rfl rfl rfl (J_assign rfl Opd.con) ?_
      refine RegL.nil ?_
      refine Ct.then_tr ?_
      refine Tr.weak (Γ' := [(8, (pEq (.bool false))), (99999, (pTab 0 .u64 Lib.pow10Tab))]) ⟨rfl, rfl, trivial⟩ ?_
      refine Tr.ret ?_
      refine Ct.then_ret ?_
      replace h := Option.some.inj h; subst h
      exact Ct.retH1 (Ωx := []) () rfl (RvOk.tmp rfl) rfl
    · replace h := bif_f hc h
      refine Tr.skip ?_
      refine Ct.then_tr ?_
      refine Tr.weak (Γ' := [(99999, (pTab 0 .u64 Lib.pow10Tab))]) ⟨rfl, trivial⟩ ?_
      refine Tr.seq ?_
      refine Tr.region ?_
      refine RegL.pure (p := (pEq (.bool true))) rfl rfl rfl (J_assign rfl Opd.con) ?_
      refine RegL.nil ?_
      refine Ct.then_tr ?_
      refine Tr.weak (Γ' := [(8, (pEq (.bool true))), (99999, (pTab 0 .u64 Lib.pow10Tab))]) ⟨rfl, rfl, trivial⟩ ?_
      refine Tr.ret ?_
      replace h := Option.some.inj h; subst h
      exact Ct.retH1 (Ωx := []) () rfl (RvOk.tmp rfl) rfl

end Go.Proofs.YtgianbkngpfpnaaDoor.fnExactHopOutageW
