/-
  The walks that the law FnExactGreedyAssign reaches: each function computes its model. Printed by our own program.
-/
import Derived.Test.YtfadnbelnfofbaaProg
import Derived.Test.YtfadnbelnfofbaaMod
import Derived.Test.YtfadnbelnfofbaaZero
import Derived.KernelRfl
import Derived.Test.YtfadnbelnfofbaaWkGreedyAssigna
namespace Go.Proofs.Ytfadnbelnfofbaa.fnExactGreedyAssignW
open Go Go.RowKit Go.Wk
set_option linter.unusedVariables false
set_option maxRecDepth 100000


theorem c_impl_within {n_0 : Int} {low_1 : Int} {high_2 : Int} {r : Bool} (h : m_impl_within n_0 low_1 high_2 = some r) : CallJ Try.prog 80 [(pEq (.int .i64 n_0)), (pEq (.int .i64 low_1)), (pEq (.int .i64 high_2))] (pEq (.bool r)) := by
  unfold m_impl_within at h
  refine CallJ.enterH Try.func80 rfl Try.ntmps80 rfl fun W I0 H => ?_
  refine Tr.weak (Γ' := [(0, (pEq (.int .i64 n_0))), (1, (pEq (.int .i64 low_1))), (2, (pEq (.int .i64 high_2)))]) ⟨rfl, rfl, rfl, trivial⟩ ?_
  refine Tr.seq ?_
  refine Tr.region ?_
  refine RegL.pure (p := (pEq (.bool false))) rfl rfl rfl (J_assign rfl Opd.con) ?_
  refine RegL.nil ?_
  refine Ct.then_tr ?_
  refine Tr.weak (Γ' := [(0, (pEq (.int .i64 n_0))), (1, (pEq (.int .i64 low_1))), (2, (pEq (.int .i64 high_2)))]) ⟨rfl, rfl, rfl, trivial⟩ ?_
  refine Tr.seq ?_
  replace h := bind_some h; obtain ⟨x1, hx1, h⟩ := h
  refine Tr.cut (γ := Unit) (Γm := fun g => [(6, (pEq (.bool x1)))]) (Ωm := fun g => []) ?_ (fun g3 => ?_)
  · clear h
    have h := hx1
    clear hx1
    refine Tr.region ?_
    refine RegL.pure (p := (pEq (.int .i64 n_0))) rfl rfl rfl (J_move rfl (Opd.tmp rfl)) ?_
    refine RegL.pure (p := (pEq (.int .i64 low_1))) rfl rfl rfl (J_move rfl (Opd.tmp rfl)) ?_
    refine RegL.pure (p := (pEq (.bool (decide (low_1 ≤ n_0))))) rfl rfl rfl (J_bin rfl (Opd.tmp rfl) (Opd.tmp rfl) B_geq) ?_
    refine RegL.pure (p := (pEq (.bool (decide (low_1 ≤ n_0))))) rfl rfl rfl (J_move rfl (Opd.tmp rfl)) ?_
    rcases Bool.eq_false_or_eq_true (decide (low_1 ≤ n_0)) with hc2 | hc2
    · replace h := bif_t hc2 h
      refine RegL.pureG (p := (pEq (.int .i64 n_0))) rfl rfl rfl hc2 rfl rfl (J_move rfl (Opd.tmp rfl)) ?_
      refine RegL.pureG (p := (pEq (.int .i64 high_2))) rfl rfl rfl hc2 rfl rfl (J_move rfl (Opd.tmp rfl)) ?_
      refine RegL.pureG (p := (pEq (.bool (decide (n_0 ≤ high_2))))) rfl rfl rfl hc2 rfl rfl (J_bin rfl (Opd.tmp rfl) (Opd.tmp rfl) B_leq) ?_
      refine RegL.pure (p := (pEq (.bool (decide (n_0 ≤ high_2))))) rfl rfl rfl (J_pick rfl (Opd.tmp rfl) (fun _ => (Opd.tmp rfl)) (fun hf => absurd (hc2.symm.trans hf) (by decide))) ?_
      refine RegL.pure (p := (pEq (.bool (decide (n_0 ≤ high_2))))) rfl rfl rfl (J_assign rfl (Opd.tmp rfl)) ?_
      refine RegL.nil ?_
      replace h := Option.some.inj h; subst h
      exact Ct.mid () rfl ⟨rfl, trivial⟩
    · replace h := bif_f hc2 h
      refine RegL.skipG rfl rfl rfl hc2 rfl rfl ?_
      refine RegL.skipG rfl rfl rfl hc2 rfl rfl ?_
      refine RegL.skipG rfl rfl rfl hc2 rfl rfl ?_
      refine RegL.pure (p := (pEq (.bool false))) rfl rfl rfl (J_pick rfl (Opd.tmp rfl) (fun hf => absurd (hc2.symm.trans hf) (by decide)) (fun _ => Opd.con)) ?_
      refine RegL.pure (p := (pEq (.bool false))) rfl rfl rfl (J_assign rfl (Opd.tmp rfl)) ?_
      refine RegL.nil ?_
      replace h := Option.some.inj h; subst h
      exact Ct.mid () rfl ⟨rfl, trivial⟩
  · clear hx1
    refine Ct.then_tr ?_
    refine Tr.weak (Γ' := [(6, (pEq (.bool x1)))]) ⟨rfl, trivial⟩ ?_
    refine Tr.ret ?_
    replace h := Option.some.inj h; subst h
    exact Ct.retH1 (Ωx := []) () rfl (RvOk.tmp rfl) rfl

theorem c_impl_allWithin_1 {n_0 : Int} {a_1 : Int} {a_2 : Int} {r : Bool} (h : m_impl_allWithin_1 n_0 a_1 a_2 = some r) : CallJ Try.prog 94 [(pEq (.int .i64 n_0)), (pPtr ((cK .i64) a_1)), (pPtr ((cK .i64) a_2))] (pEq (.bool r)) := by
  unfold m_impl_allWithin_1 at h
  refine CallJ.enterH Try.func94 rfl Try.ntmps94 rfl fun W I0 H => ?_
  refine Tr.weak (Γ' := [(0, (pEq (.int .i64 n_0))), (1, (pPtr ((cK .i64) a_1))), (2, (pPtr ((cK .i64) a_2)))]) ⟨rfl, rfl, rfl, trivial⟩ ?_
  refine Tr.seq ?_
  refine Tr.region ?_
  refine RegL.pure (p := (pEq (.bool false))) rfl rfl rfl (J_assign rfl Opd.con) ?_
  refine RegL.nil ?_
  refine Ct.then_tr ?_
  refine Tr.weak (Γ' := [(0, (pEq (.int .i64 n_0))), (1, (pPtr ((cK .i64) a_1))), (2, (pPtr ((cK .i64) a_2)))]) ⟨rfl, rfl, rfl, trivial⟩ ?_
  refine Tr.seq ?_
  refine Tr.region ?_
  refine RegL.pure (p := (pEq (.int .i64 n_0))) rfl rfl rfl (J_move rfl (Opd.tmp rfl)) ?_
  refine RegL.pure (p := (pEq (.int .i64 a_1))) rfl rfl rfl (J_load rfl Try.isAgg2 (Opd.tmp rfl)) ?_
  refine RegL.pure (p := (pEq (.int .i64 a_2))) rfl rfl rfl (J_load rfl Try.isAgg2 (Opd.tmp rfl)) ?_
  replace h := bind_some h; obtain ⟨x1, hx1, h⟩ := h
  refine RegL.pure (p := (pEq (.bool x1))) rfl rfl rfl (J_call rfl Try.call80 (c_impl_within hx1) (Opds.cons (Opd.tmp rfl) (Opds.cons (Opd.tmp rfl) (Opds.cons (Opd.tmp rfl) Opds.nil)))) ?_
  refine RegL.pure (p := (pEq (.bool (!x1)))) rfl rfl rfl (J_not rfl (Opd.tmp rfl)) ?_
  refine RegL.pure (p := (pEq (.bool (!x1)))) rfl rfl rfl (J_assign rfl (Opd.tmp rfl)) ?_
  refine RegL.nil ?_
  refine Ct.then_tr ?_
  refine Tr.weak (Γ' := [(4, (pEq (.bool (!x1))))]) ⟨rfl, trivial⟩ ?_
  refine Tr.ret ?_
  replace h := Option.some.inj h; subst h
  exact Ct.retH1 (Ωx := []) () rfl (RvOk.tmp rfl) rfl

theorem c_slices_IndexFunc_int64_int64 {s_0 : (List Int)} {f_1 : (Int → Option Bool)} {r : Int} (h : m_slices_IndexFunc_int64_int64 s_0 f_1 = some r) : CallJ Try.prog 118 [(pSl 1 (cK .i64) s_0), (pFn Try.prog (fun x => [(pEq (.int .i64 x))]) f_1 (fun y => (pEq (.bool y))))] (pEq (.int .i64 r)) := by
  unfold m_slices_IndexFunc_int64_int64 at h
  refine CallJ.enterH Try.func118 rfl Try.ntmps118 rfl fun W I0 H => ?_
  refine Tr.weak (Γ' := [(0, (pSl 1 (cK .i64) s_0)), (1, (pFn Try.prog (fun x => [(pEq (.int .i64 x))]) f_1 (fun y => (pEq (.bool y)))))]) ⟨rfl, rfl, trivial⟩ ?_
  refine Tr.seq ?_
  refine Tr.region ?_
  refine RegL.pure (p := (pEq (.int .i64 (0 : Int)))) rfl rfl rfl (J_assign rfl Opd.con) ?_
  refine RegL.nil ?_
  refine Ct.then_tr ?_
  refine Tr.weak (Γ' := [(0, (pSl 1 (cK .i64) s_0)), (1, (pFn Try.prog (fun x => [(pEq (.int .i64 x))]) f_1 (fun y => (pEq (.bool y)))))]) ⟨rfl, rfl, trivial⟩ ?_
  refine Tr.seq ?_
  refine Tr.seq ?_
  refine Tr.region ?_
  refine RegL.pure (p := (pSl 1 (cK .i64) s_0)) rfl rfl rfl (J_move rfl (Opd.tmp rfl)) ?_
  refine RegL.pure (p := (pEq (.int .i64 (s_0.length : Int)))) rfl rfl rfl (J_len rfl Try.underlying26 (Opd.tmp rfl) rfl) ?_
  refine RegL.pure (p := (pEq (.int .i64 (0 : Int)))) rfl rfl rfl (J_move rfl Opd.con) ?_
  refine RegL.nil ?_
  refine Ct.then_tr ?_
  refine Tr.weak (Γ' := [(0, (pSl 1 (cK .i64) s_0)), (1, (pFn Try.prog (fun x => [(pEq (.int .i64 x))]) f_1 (fun y => (pEq (.bool y))))), (7, (pEq (.int .i64 (s_0.length : Int)))), (8, (pEq (.int .i64 (0 : Int))))]) ⟨rfl, rfl, rfl, rfl, trivial⟩ ?_
  refine Tr.block ?_
  refine Tr.weak (Γ' := [(0, (pSl 1 (cK .i64) s_0)), (1, (pFn Try.prog (fun x => [(pEq (.int .i64 x))]) f_1 (fun y => (pEq (.bool y))))), (7, (pEq (.int .i64 (s_0.length : Int)))), (8, (pEq (.int .i64 (0 : Int))))]) ⟨rfl, rfl, rfl, rfl, trivial⟩ ?_
  refine Tr.loop (γ := Unit) (σ := Int) (Γσ := fun s g => [(0, (pSl 1 (cK .i64) s_0)), (1, (pFn Try.prog (fun x => [(pEq (.int .i64 x))]) f_1 (fun y => (pEq (.bool y))))), (7, (pEq (.int .i64 (s_0.length : Int)))), (8, (pEq (.int .i64 s)))]) (Ωσ := fun s g => []) (g := ()) h ?_
  clear h
  rintro v2 g3 t h
  replace h : m_slices_IndexFunc_int64_int64_B1 s_0 f_1 v2 = some t := h
  unfold m_slices_IndexFunc_int64_int64_B1 at h
  refine Tr.weakO (Γ' := [(0, (pSl 1 (cK .i64) s_0)), (1, (pFn Try.prog (fun x => [(pEq (.int .i64 x))]) f_1 (fun y => (pEq (.bool y))))), (7, (pEq (.int .i64 (s_0.length : Int)))), (8, (pEq (.int .i64 v2)))]) (Ω' := []) rfl ⟨rfl, rfl, rfl, rfl, trivial⟩ ?_
  refine Tr.seq ?_
  refine Tr.region ?_
  refine RegL.pure (p := (pEq (.bool (decide (v2 < (s_0.length : Int)))))) rfl rfl rfl (J_bin rfl (Opd.tmp rfl) (Opd.tmp rfl) B_lss) ?_
  refine RegL.nil ?_
  refine Ct.then_tr ?_
  refine Tr.weak (Γ' := [(0, (pSl 1 (cK .i64) s_0)), (1, (pFn Try.prog (fun x => [(pEq (.int .i64 x))]) f_1 (fun y => (pEq (.bool y))))), (7, (pEq (.int .i64 (s_0.length : Int)))), (8, (pEq (.int .i64 v2))), (9, (pEq (.bool (decide (v2 < (s_0.length : Int))))))]) ⟨rfl, rfl, rfl, rfl, rfl, trivial⟩ ?_
  refine Tr.seq ?_
  refine Tr.cond (Opd.tmp rfl) (fun hc => ?_) (fun hc => ?_)
  · replace h := bif_t hc h
    refine Tr.skip ?_
    refine Ct.then_tr ?_
    refine Tr.weak (Γ' := [(0, (pSl 1 (cK .i64) s_0)), (1, (pFn Try.prog (fun x => [(pEq (.int .i64 x))]) f_1 (fun y => (pEq (.bool y))))), (7, (pEq (.int .i64 (s_0.length : Int)))), (8, (pEq (.int .i64 v2)))]) ⟨rfl, rfl, rfl, rfl, trivial⟩ ?_
    refine Tr.seq ?_
    refine Tr.block ?_
    refine Tr.seq ?_
    refine Tr.region ?_
    refine RegL.pure (p := (pEq (.int .i64 v2))) rfl rfl rfl (J_move rfl (Opd.tmp rfl)) ?_
    refine RegL.pure (p := (pEq (.int .i64 v2))) rfl rfl rfl (J_assign rfl (Opd.tmp rfl)) ?_
    refine RegL.nil ?_
    refine Ct.then_tr ?_
    refine Tr.weak (Γ' := [(0, (pSl 1 (cK .i64) s_0)), (1, (pFn Try.prog (fun x => [(pEq (.int .i64 x))]) f_1 (fun y => (pEq (.bool y))))), (5, (pEq (.int .i64 v2))), (7, (pEq (.int .i64 (s_0.length : Int)))), (8, (pEq (.int .i64 v2)))]) ⟨rfl, rfl, rfl, rfl, rfl, trivial⟩ ?_
    refine Tr.seq ?_
    refine Tr.region ?_
    refine RegL.pure (p := (pFn Try.prog (fun x => [(pEq (.int .i64 x))]) f_1 (fun y => (pEq (.bool y))))) rfl rfl rfl (J_move rfl (Opd.tmp rfl)) ?_
    refine RegL.pure (p := (pSl 1 (cK .i64) s_0)) rfl rfl rfl (J_move rfl (Opd.tmp rfl)) ?_
    refine RegL.pure (p := (pEq (.int .i64 v2))) rfl rfl rfl (J_move rfl (Opd.tmp rfl)) ?_
    replace h := bind_some h; obtain ⟨x4, hx4, h⟩ := h
    refine RegL.pure (p := (pPtr ((cK .i64) x4))) rfl rfl rfl (J_idx rfl Try.underlying26 sz2 (Opd.tmp rfl) (Opd.tmp rfl) hx4) ?_
    refine RegL.pure (p := (pEq (.int .i64 x4))) rfl rfl rfl (J_load rfl Try.isAgg2 (Opd.tmp rfl)) ?_
    replace h := bind_some h; obtain ⟨x5, hx5, h⟩ := h
    refine RegL.pure (p := (pEq (.bool x5))) rfl rfl rfl (J_callv (x := x4) rfl (Opd.tmp rfl) rfl (Opds.cons (Opd.tmp rfl) Opds.nil) hx5 rfl) ?_
    refine RegL.nil ?_
    refine Ct.then_tr ?_
    refine Tr.weak (Γ' := [(0, (pSl 1 (cK .i64) s_0)), (1, (pFn Try.prog (fun x => [(pEq (.int .i64 x))]) f_1 (fun y => (pEq (.bool y))))), (5, (pEq (.int .i64 v2))), (7, (pEq (.int .i64 (s_0.length : Int)))), (8, (pEq (.int .i64 v2))), (16, (pEq (.bool x5)))]) ⟨rfl, rfl, rfl, rfl, rfl, rfl, trivial⟩ ?_
    refine Tr.cond (Opd.tmp rfl) (fun hc => ?_) (fun hc => ?_)
    · replace h := bif_t hc h
      refine Tr.seq ?_
      refine Tr.region ?_
      refine RegL.pure (p := (pEq (.int .i64 v2))) rfl rfl rfl (J_move rfl (Opd.tmp rfl)) ?_
      refine RegL.pure (p := (pEq (.int .i64 v2))) rfl rfl rfl (J_assign rfl (Opd.tmp rfl)) ?_
      refine RegL.nil ?_
      refine Ct.then_tr ?_
      refine Tr.weak (Γ' := [(4, (pEq (.int .i64 v2)))]) ⟨rfl, trivial⟩ ?_
      refine Tr.ret ?_
      refine Ct.blk_ret ?_
      refine Ct.then_ret ?_
      replace h := map_some h; obtain ⟨r1, h, rfl⟩ := h
      refine Ct.out_ret fun e => ?_
      subst e
      refine Ct.blk_ret ?_
      refine Ct.then_ret ?_
      replace h := Option.some.inj h; subst h
      exact Ct.retH1 (Ωx := []) () rfl (RvOk.tmp rfl) rfl
    · replace h := bif_f hc h
      refine Tr.skip ?_
      refine Ct.blk_normal ?_
      refine Ct.then_tr ?_
      refine Tr.weak (Γ' := [(0, (pSl 1 (cK .i64) s_0)), (1, (pFn Try.prog (fun x => [(pEq (.int .i64 x))]) f_1 (fun y => (pEq (.bool y))))), (7, (pEq (.int .i64 (s_0.length : Int)))), (8, (pEq (.int .i64 v2)))]) ⟨rfl, rfl, rfl, rfl, trivial⟩ ?_
      refine Tr.region ?_
      refine RegL.pure (p := (pEq (.int .i64 (w64 (v2 + (1 : Int)))))) rfl rfl rfl (J_bin rfl (Opd.tmp rfl) Opd.con B_add) ?_
      refine RegL.pure (p := (pEq (.int .i64 (w64 (v2 + (1 : Int)))))) rfl rfl rfl (J_move rfl (Opd.tmp rfl)) ?_
      refine RegL.nil ?_
      replace h := Option.some.inj h; subst h
      exact Ct.again () rfl ⟨rfl, rfl, rfl, rfl, trivial⟩
  · replace h := bif_f hc h
    refine Tr.exit ?_
    refine Ct.then_exit ?_
    replace h := map_some h; obtain ⟨r1, h, rfl⟩ := h
    refine Ct.out_exit fun e => ?_
    subst e
    refine Ct.blk_exit ?_
    refine Ct.then_tr ?_
    refine Tr.weak (Γ' := []) trivial ?_
    refine Tr.seq ?_
    refine Tr.region ?_
    refine RegL.pure (p := (pEq (.int .i64 (-1 : Int)))) rfl rfl rfl (J_assign rfl Opd.con) ?_
    refine RegL.nil ?_
    refine Ct.then_tr ?_
    refine Tr.weak (Γ' := [(4, (pEq (.int .i64 (-1 : Int))))]) ⟨rfl, trivial⟩ ?_
    refine Tr.ret ?_
    replace h := Option.some.inj h; subst h
    exact Ct.retH1 (Ωx := []) () rfl (RvOk.tmp rfl) rfl

theorem c_slices_ContainsFunc_int64_int64 {s_0 : (List Int)} {f_1 : (Int → Option Bool)} {r : Bool} (h : m_slices_ContainsFunc_int64_int64 s_0 f_1 = some r) : CallJ Try.prog 93 [(pSl 1 (cK .i64) s_0), (pFn Try.prog (fun x => [(pEq (.int .i64 x))]) f_1 (fun y => (pEq (.bool y))))] (pEq (.bool r)) := by
  unfold m_slices_ContainsFunc_int64_int64 at h
  refine CallJ.enterH Try.func93 rfl Try.ntmps93 rfl fun W I0 H => ?_
  refine Tr.weak (Γ' := [(0, (pSl 1 (cK .i64) s_0)), (1, (pFn Try.prog (fun x => [(pEq (.int .i64 x))]) f_1 (fun y => (pEq (.bool y)))))]) ⟨rfl, rfl, trivial⟩ ?_
  refine Tr.seq ?_
  refine Tr.region ?_
  refine RegL.pure (p := (pEq (.bool false))) rfl rfl rfl (J_assign rfl Opd.con) ?_
  refine RegL.nil ?_
  refine Ct.then_tr ?_
  refine Tr.weak (Γ' := [(0, (pSl 1 (cK .i64) s_0)), (1, (pFn Try.prog (fun x => [(pEq (.int .i64 x))]) f_1 (fun y => (pEq (.bool y)))))]) ⟨rfl, rfl, trivial⟩ ?_
  refine Tr.seq ?_
  refine Tr.region ?_
  refine RegL.pure (p := (pSl 1 (cK .i64) s_0)) rfl rfl rfl (J_move rfl (Opd.tmp rfl)) ?_
  refine RegL.pure (p := (pFn Try.prog (fun x => [(pEq (.int .i64 x))]) f_1 (fun y => (pEq (.bool y))))) rfl rfl rfl (J_move rfl (Opd.tmp rfl)) ?_
  replace h := bind_some h; obtain ⟨x1, hx1, h⟩ := h
  refine RegL.pure (p := (pEq (.int .i64 x1))) rfl rfl rfl (J_call rfl Try.call118 (c_slices_IndexFunc_int64_int64 hx1) (Opds.cons (Opd.tmp rfl) (Opds.cons (Opd.tmp rfl) Opds.nil))) ?_
  refine RegL.pure (p := (pEq (.bool (decide ((0 : Int) ≤ x1))))) rfl rfl rfl (J_bin rfl (Opd.tmp rfl) Opd.con B_geq) ?_
  refine RegL.pure (p := (pEq (.bool (decide ((0 : Int) ≤ x1))))) rfl rfl rfl (J_assign rfl (Opd.tmp rfl)) ?_
  refine RegL.nil ?_
  refine Ct.then_tr ?_
  refine Tr.weak (Γ' := [(4, (pEq (.bool (decide ((0 : Int) ≤ x1)))))]) ⟨rfl, trivial⟩ ?_
  refine Tr.ret ?_
  replace h := Option.some.inj h; subst h
  exact Ct.retH1 (Ωx := []) () rfl (RvOk.tmp rfl) rfl

theorem c_impl_allWithin {list_0 : (List Int)} {low_1 : Int} {high_2 : Int} {r : Bool} (h : m_impl_allWithin list_0 low_1 high_2 = some r) : CallJ Try.prog 69 [(pSl 1 (cK .i64) list_0), (pEq (.int .i64 low_1)), (pEq (.int .i64 high_2))] (pEq (.bool r)) := by
  unfold m_impl_allWithin at h
  refine CallJ.enterH Try.func69 rfl Try.ntmps69 rfl fun W I0 H => ?_
  refine Tr.weak (Γ' := [(0, (pSl 1 (cK .i64) list_0)), (1, (pEq (.int .i64 low_1))), (2, (pEq (.int .i64 high_2)))]) ⟨rfl, rfl, rfl, trivial⟩ ?_
  refine Tr.seq ?_
  refine Tr.region ?_
  refine RegL.pure (p := (pPtr ((cK .i64) low_1))) rfl rfl rfl (J_box rfl (Opd.tmp rfl) OneC.int) ?_
  refine RegL.pure (p := (pPtr ((cK .i64) high_2))) rfl rfl rfl (J_box rfl (Opd.tmp rfl) OneC.int) ?_
  refine RegL.pure (p := (pEq (.bool false))) rfl rfl rfl (J_assign rfl Opd.con) ?_
  refine RegL.nil ?_
  refine Ct.then_tr ?_
  refine Tr.weak (Γ' := [(0, (pSl 1 (cK .i64) list_0)), (4, (pPtr ((cK .i64) low_1))), (5, (pPtr ((cK .i64) high_2)))]) ⟨rfl, rfl, rfl, trivial⟩ ?_
  refine Tr.seq ?_
  refine Tr.region ?_
  refine RegL.pure (p := (pSl 1 (cK .i64) list_0)) rfl rfl rfl (J_move rfl (Opd.tmp rfl)) ?_
  refine RegL.pure (p := (pFn Try.prog (fun x => [(pEq (.int .i64 x))]) (fun x => m_impl_allWithin_1 x low_1 high_2) (fun y => (pEq (.bool y))))) rfl rfl rfl (J_makeFn rfl Try.call94 (Opds.cons (Opd.tmp rfl) (Opds.cons (Opd.tmp rfl) Opds.nil)) (fun _ _ h => c_impl_allWithin_1 h)) ?_
  replace h := bind_some h; obtain ⟨x1, hx1, h⟩ := h
  refine RegL.pure (p := (pEq (.bool x1))) rfl rfl rfl (J_call rfl Try.call93 (c_slices_ContainsFunc_int64_int64 hx1) (Opds.cons (Opd.tmp rfl) (Opds.cons (Opd.tmp rfl) Opds.nil))) ?_
  refine RegL.pure (p := (pEq (.bool (!x1)))) rfl rfl rfl (J_not rfl (Opd.tmp rfl)) ?_
  refine RegL.pure (p := (pEq (.bool (!x1)))) rfl rfl rfl (J_assign rfl (Opd.tmp rfl)) ?_
  refine RegL.nil ?_
  refine Ct.then_tr ?_
  refine Tr.weak (Γ' := [(6, (pEq (.bool (!x1))))]) ⟨rfl, trivial⟩ ?_
  refine Tr.ret ?_
  replace h := Option.some.inj h; subst h
  exact Ct.retH1 (Ωx := []) () rfl (RvOk.tmp rfl) rfl

theorem c_impl_domainOk {domain_0 : (List Int)} {r : Bool} (h : m_impl_domainOk domain_0 = some r) : CallJ Try.prog 92 [(pSl 1 (cK .i64) domain_0)] (pEq (.bool r)) := by
  unfold m_impl_domainOk at h
  refine CallJ.enterH Try.func92 rfl Try.ntmps92 rfl fun W I0 H => ?_
  refine Tr.weak (Γ' := [(0, (pSl 1 (cK .i64) domain_0))]) ⟨rfl, trivial⟩ ?_
  refine Tr.seq ?_
  refine Tr.region ?_
  refine RegL.pure (p := (pEq (.bool false))) rfl rfl rfl (J_assign rfl Opd.con) ?_
  refine RegL.nil ?_
  refine Ct.then_tr ?_
  refine Tr.weak (Γ' := [(0, (pSl 1 (cK .i64) domain_0))]) ⟨rfl, trivial⟩ ?_
  refine Tr.seq ?_
  replace h := bind_some h; obtain ⟨x1, hx1, h⟩ := h
  refine Tr.cut (γ := Unit) (Γm := fun g => [(2, (pEq (.bool x1)))]) (Ωm := fun g => []) ?_ (fun g7 => ?_)
  · clear h
    have h := hx1
    clear hx1
    refine Tr.region ?_
    refine RegL.pure (p := (pSl 1 (cK .i64) domain_0)) rfl rfl rfl (J_move rfl (Opd.tmp rfl)) ?_
    refine RegL.pure (p := (pEq (.int .i64 (domain_0.length : Int)))) rfl rfl rfl (J_len rfl Try.underlying26 (Opd.tmp rfl) rfl) ?_
    refine RegL.pure (p := (pEq (.bool (decide ((1 : Int) ≤ (domain_0.length : Int)))))) rfl rfl rfl (J_bin rfl (Opd.tmp rfl) Opd.con B_geq) ?_
    refine RegL.pure (p := (pEq (.bool (decide ((1 : Int) ≤ (domain_0.length : Int)))))) rfl rfl rfl (J_move rfl (Opd.tmp rfl)) ?_
    rcases Bool.eq_false_or_eq_true (decide ((1 : Int) ≤ (domain_0.length : Int))) with hc2 | hc2
    · replace h := bif_t hc2 h
      refine RegL.pureG (p := (pSl 1 (cK .i64) domain_0)) rfl rfl rfl hc2 rfl rfl (J_move rfl (Opd.tmp rfl)) ?_
      refine RegL.pureG (p := (pEq (.int .i64 (domain_0.length : Int)))) rfl rfl rfl hc2 rfl rfl (J_len rfl Try.underlying26 (Opd.tmp rfl) rfl) ?_
      refine RegL.pureG (p := (pEq (.bool (decide ((domain_0.length : Int) ≤ (32 : Int)))))) rfl rfl rfl hc2 rfl rfl (J_bin rfl (Opd.tmp rfl) Opd.con B_leq) ?_
      refine RegL.pure (p := (pEq (.bool (decide ((domain_0.length : Int) ≤ (32 : Int)))))) rfl rfl rfl (J_pick rfl (Opd.tmp rfl) (fun _ => (Opd.tmp rfl)) (fun hf => absurd (hc2.symm.trans hf) (by decide))) ?_
      refine RegL.pure (p := (pEq (.bool (decide ((domain_0.length : Int) ≤ (32 : Int)))))) rfl rfl rfl (J_move rfl (Opd.tmp rfl)) ?_
      rcases Bool.eq_false_or_eq_true (decide ((domain_0.length : Int) ≤ (32 : Int))) with hc3 | hc3
      · replace h := bif_t hc3 h
        refine RegL.pureG (p := (pSl 1 (cK .i64) domain_0)) rfl rfl rfl hc3 rfl rfl (J_move rfl (Opd.tmp rfl)) ?_
        replace h := bind_some h; obtain ⟨x4, hx4, h⟩ := h
        refine RegL.pureG (p := (pEq (.bool x4))) rfl rfl rfl hc3 rfl rfl (J_call rfl Try.call117 (c_impl_increasing hx4) (Opds.cons (Opd.tmp rfl) Opds.nil)) ?_
        refine RegL.pure (p := (pEq (.bool x4))) rfl rfl rfl (J_pick rfl (Opd.tmp rfl) (fun _ => (Opd.tmp rfl)) (fun hf => absurd (hc3.symm.trans hf) (by decide))) ?_
        refine RegL.pure (p := (pEq (.bool x4))) rfl rfl rfl (J_move rfl (Opd.tmp rfl)) ?_
        rcases Bool.eq_false_or_eq_true x4 with hc5 | hc5
        · replace h := bif_t hc5 h
          refine RegL.pureG (p := (pSl 1 (cK .i64) domain_0)) rfl rfl rfl hc5 rfl rfl (J_move rfl (Opd.tmp rfl)) ?_
          replace h := bind_some h; obtain ⟨x6, hx6, h⟩ := h
          refine RegL.pureG (p := (pEq (.bool x6))) rfl rfl rfl hc5 rfl rfl (J_call rfl Try.call69 (c_impl_allWithin hx6) (Opds.cons (Opd.tmp rfl) (Opds.cons Opd.con (Opds.cons Opd.con Opds.nil)))) ?_
          refine RegL.pure (p := (pEq (.bool x6))) rfl rfl rfl (J_pick rfl (Opd.tmp rfl) (fun _ => (Opd.tmp rfl)) (fun hf => absurd (hc5.symm.trans hf) (by decide))) ?_
          refine RegL.pure (p := (pEq (.bool x6))) rfl rfl rfl (J_assign rfl (Opd.tmp rfl)) ?_
          refine RegL.nil ?_
          replace h := Option.some.inj h; subst h
          exact Ct.mid () rfl ⟨rfl, trivial⟩
        · replace h := bif_f hc5 h
          refine RegL.skipG rfl rfl rfl hc5 rfl rfl ?_
          refine RegL.skipG rfl rfl rfl hc5 rfl rfl ?_
          refine RegL.pure (p := (pEq (.bool false))) rfl rfl rfl (J_pick rfl (Opd.tmp rfl) (fun hf => absurd (hc5.symm.trans hf) (by decide)) (fun _ => Opd.con)) ?_
          refine RegL.pure (p := (pEq (.bool false))) rfl rfl rfl (J_assign rfl (Opd.tmp rfl)) ?_
          refine RegL.nil ?_
          replace h := Option.some.inj h; subst h
          exact Ct.mid () rfl ⟨rfl, trivial⟩
      · replace h := bif_f hc3 h
        refine RegL.skipG rfl rfl rfl hc3 rfl rfl ?_
        refine RegL.skipG rfl rfl rfl hc3 rfl rfl ?_
        refine RegL.pure (p := (pEq (.bool false))) rfl rfl rfl (J_pick rfl (Opd.tmp rfl) (fun hf => absurd (hc3.symm.trans hf) (by decide)) (fun _ => Opd.con)) ?_
        refine RegL.pure (p := (pEq (.bool false))) rfl rfl rfl (J_move rfl (Opd.tmp rfl)) ?_
        refine RegL.skipG rfl rfl rfl rfl rfl rfl ?_
        refine RegL.skipG rfl rfl rfl rfl rfl rfl ?_
        refine RegL.pure (p := (pEq (.bool false))) rfl rfl rfl (J_pick rfl (Opd.tmp rfl) (fun hf => absurd hf (by decide)) (fun _ => Opd.con)) ?_
        refine RegL.pure (p := (pEq (.bool false))) rfl rfl rfl (J_assign rfl (Opd.tmp rfl)) ?_
        refine RegL.nil ?_
        replace h := Option.some.inj h; subst h
        exact Ct.mid () rfl ⟨rfl, trivial⟩
    · replace h := bif_f hc2 h
      refine RegL.skipG rfl rfl rfl hc2 rfl rfl ?_
      refine RegL.skipG rfl rfl rfl hc2 rfl rfl ?_
      refine RegL.skipG rfl rfl rfl hc2 rfl rfl ?_
      refine RegL.pure (p := (pEq (.bool false))) rfl rfl rfl (J_pick rfl (Opd.tmp rfl) (fun hf => absurd (hc2.symm.trans hf) (by decide)) (fun _ => Opd.con)) ?_
      refine RegL.pure (p := (pEq (.bool false))) rfl rfl rfl (J_move rfl (Opd.tmp rfl)) ?_
      refine RegL.skipG rfl rfl rfl rfl rfl rfl ?_
      refine RegL.skipG rfl rfl rfl rfl rfl rfl ?_
      refine RegL.pure (p := (pEq (.bool false))) rfl rfl rfl (J_pick rfl (Opd.tmp rfl) (fun hf => absurd hf (by decide)) (fun _ => Opd.con)) ?_
      refine RegL.pure (p := (pEq (.bool false))) rfl rfl rfl (J_move rfl (Opd.tmp rfl)) ?_
      refine RegL.skipG rfl rfl rfl rfl rfl rfl ?_
      refine RegL.skipG rfl rfl rfl rfl rfl rfl ?_
      refine RegL.pure (p := (pEq (.bool false))) rfl rfl rfl (J_pick rfl (Opd.tmp rfl) (fun hf => absurd hf (by decide)) (fun _ => Opd.con)) ?_
      refine RegL.pure (p := (pEq (.bool false))) rfl rfl rfl (J_assign rfl (Opd.tmp rfl)) ?_
      refine RegL.nil ?_
      replace h := Option.some.inj h; subst h
      exact Ct.mid () rfl ⟨rfl, trivial⟩
  · clear hx1
    refine Ct.then_tr ?_
    refine Tr.weak (Γ' := [(2, (pEq (.bool x1)))]) ⟨rfl, trivial⟩ ?_
    refine Tr.ret ?_
    replace h := Option.some.inj h; subst h
    exact Ct.retH1 (Ωx := []) () rfl (RvOk.tmp rfl) rfl

theorem c_impl_domainsOk_1 {d_0 : (List Int)} {r : Bool} (h : m_impl_domainsOk_1 d_0 = some r) : CallJ Try.prog 91 [(pSl 1 (cK .i64) d_0)] (pEq (.bool r)) := by
  unfold m_impl_domainsOk_1 at h
  refine CallJ.enterH Try.func91 rfl Try.ntmps91 rfl fun W I0 H => ?_
  refine Tr.weak (Γ' := [(0, (pSl 1 (cK .i64) d_0))]) ⟨rfl, trivial⟩ ?_
  refine Tr.seq ?_
  refine Tr.region ?_
  refine RegL.pure (p := (pEq (.bool false))) rfl rfl rfl (J_assign rfl Opd.con) ?_
  refine RegL.nil ?_
  refine Ct.then_tr ?_
  refine Tr.weak (Γ' := [(0, (pSl 1 (cK .i64) d_0))]) ⟨rfl, trivial⟩ ?_
  refine Tr.seq ?_
  refine Tr.region ?_
  refine RegL.pure (p := (pSl 1 (cK .i64) d_0)) rfl rfl rfl (J_move rfl (Opd.tmp rfl)) ?_
  replace h := bind_some h; obtain ⟨x1, hx1, h⟩ := h
  refine RegL.pure (p := (pEq (.bool x1))) rfl rfl rfl (J_call rfl Try.call92 (c_impl_domainOk hx1) (Opds.cons (Opd.tmp rfl) Opds.nil)) ?_
  refine RegL.pure (p := (pEq (.bool (!x1)))) rfl rfl rfl (J_not rfl (Opd.tmp rfl)) ?_
  refine RegL.pure (p := (pEq (.bool (!x1)))) rfl rfl rfl (J_assign rfl (Opd.tmp rfl)) ?_
  refine RegL.nil ?_
  refine Ct.then_tr ?_
  refine Tr.weak (Γ' := [(2, (pEq (.bool (!x1))))]) ⟨rfl, trivial⟩ ?_
  refine Tr.ret ?_
  replace h := Option.some.inj h; subst h
  exact Ct.retH1 (Ωx := []) () rfl (RvOk.tmp rfl) rfl

theorem c_impl_domainsOk {domains_0 : (List (List Int))} {r : Bool} (h : m_impl_domainsOk domains_0 = some r) : CallJ Try.prog 68 [(pSl 1 (cSl 1 (cK .i64)) domains_0)] (pEq (.bool r)) := by
  unfold m_impl_domainsOk at h
  refine CallJ.enterH Try.func68 rfl Try.ntmps68 rfl fun W I0 H => ?_
  refine Tr.weak (Γ' := [(0, (pSl 1 (cSl 1 (cK .i64)) domains_0))]) ⟨rfl, trivial⟩ ?_
  refine Tr.seq ?_
  refine Tr.region ?_
  refine RegL.pure (p := (pEq (.bool false))) rfl rfl rfl (J_assign rfl Opd.con) ?_
  refine RegL.nil ?_
  refine Ct.then_tr ?_
  refine Tr.weak (Γ' := [(0, (pSl 1 (cSl 1 (cK .i64)) domains_0))]) ⟨rfl, trivial⟩ ?_
  refine Tr.seq ?_
  replace h := bind_some h; obtain ⟨x1, hx1, h⟩ := h
  refine Tr.cut (γ := Unit) (Γm := fun g => [(2, (pEq (.bool x1)))]) (Ωm := fun g => []) ?_ (fun g5 => ?_)
  · clear h
    have h := hx1
    clear hx1
    refine Tr.region ?_
    refine RegL.pure (p := (pSl 1 (cSl 1 (cK .i64)) domains_0)) rfl rfl rfl (J_move rfl (Opd.tmp rfl)) ?_
    refine RegL.pure (p := (pEq (.int .i64 (domains_0.length : Int)))) rfl rfl rfl (J_len rfl Try.underlying22 (Opd.tmp rfl) rfl) ?_
    refine RegL.pure (p := (pEq (.bool (decide ((1 : Int) ≤ (domains_0.length : Int)))))) rfl rfl rfl (J_bin rfl (Opd.tmp rfl) Opd.con B_geq) ?_
    refine RegL.pure (p := (pEq (.bool (decide ((1 : Int) ≤ (domains_0.length : Int)))))) rfl rfl rfl (J_move rfl (Opd.tmp rfl)) ?_
    rcases Bool.eq_false_or_eq_true (decide ((1 : Int) ≤ (domains_0.length : Int))) with hc2 | hc2
    · replace h := bif_t hc2 h
      refine RegL.pureG (p := (pSl 1 (cSl 1 (cK .i64)) domains_0)) rfl rfl rfl hc2 rfl rfl (J_move rfl (Opd.tmp rfl)) ?_
      refine RegL.pureG (p := (pEq (.int .i64 (domains_0.length : Int)))) rfl rfl rfl hc2 rfl rfl (J_len rfl Try.underlying22 (Opd.tmp rfl) rfl) ?_
      refine RegL.pureG (p := (pEq (.bool (decide ((domains_0.length : Int) ≤ (24 : Int)))))) rfl rfl rfl hc2 rfl rfl (J_bin rfl (Opd.tmp rfl) Opd.con B_leq) ?_
      refine RegL.pure (p := (pEq (.bool (decide ((domains_0.length : Int) ≤ (24 : Int)))))) rfl rfl rfl (J_pick rfl (Opd.tmp rfl) (fun _ => (Opd.tmp rfl)) (fun hf => absurd (hc2.symm.trans hf) (by decide))) ?_
      refine RegL.pure (p := (pEq (.bool (decide ((domains_0.length : Int) ≤ (24 : Int)))))) rfl rfl rfl (J_move rfl (Opd.tmp rfl)) ?_
      rcases Bool.eq_false_or_eq_true (decide ((domains_0.length : Int) ≤ (24 : Int))) with hc3 | hc3
      · replace h := bif_t hc3 h
        refine RegL.pureG (p := (pSl 1 (cSl 1 (cK .i64)) domains_0)) rfl rfl rfl hc3 rfl rfl (J_move rfl (Opd.tmp rfl)) ?_
        replace h := bind_some h; obtain ⟨x4, hx4, h⟩ := h
        refine RegL.pureG (p := (pEq (.bool x4))) rfl rfl rfl hc3 rfl rfl (J_call rfl Try.call90 (c_slices_ContainsFunc_SSint64_int64 hx4) (Opds.cons (Opd.tmp rfl) (Opds.cons (Opd.fnv Try.call91 (fun _ _ h => c_impl_domainsOk_1 h)) Opds.nil))) ?_
        refine RegL.pureG (p := (pEq (.bool (!x4)))) rfl rfl rfl hc3 rfl rfl (J_not rfl (Opd.tmp rfl)) ?_
        refine RegL.pure (p := (pEq (.bool (!x4)))) rfl rfl rfl (J_pick rfl (Opd.tmp rfl) (fun _ => (Opd.tmp rfl)) (fun hf => absurd (hc3.symm.trans hf) (by decide))) ?_
        refine RegL.pure (p := (pEq (.bool (!x4)))) rfl rfl rfl (J_assign rfl (Opd.tmp rfl)) ?_
        refine RegL.nil ?_
        replace h := Option.some.inj h; subst h
        exact Ct.mid () rfl ⟨rfl, trivial⟩
      · replace h := bif_f hc3 h
        refine RegL.skipG rfl rfl rfl hc3 rfl rfl ?_
        refine RegL.skipG rfl rfl rfl hc3 rfl rfl ?_
        refine RegL.skipG rfl rfl rfl hc3 rfl rfl ?_
        refine RegL.pure (p := (pEq (.bool false))) rfl rfl rfl (J_pick rfl (Opd.tmp rfl) (fun hf => absurd (hc3.symm.trans hf) (by decide)) (fun _ => Opd.con)) ?_
        refine RegL.pure (p := (pEq (.bool false))) rfl rfl rfl (J_assign rfl (Opd.tmp rfl)) ?_
        refine RegL.nil ?_
        replace h := Option.some.inj h; subst h
        exact Ct.mid () rfl ⟨rfl, trivial⟩
    · replace h := bif_f hc2 h
      refine RegL.skipG rfl rfl rfl hc2 rfl rfl ?_
      refine RegL.skipG rfl rfl rfl hc2 rfl rfl ?_
      refine RegL.skipG rfl rfl rfl hc2 rfl rfl ?_
      refine RegL.pure (p := (pEq (.bool false))) rfl rfl rfl (J_pick rfl (Opd.tmp rfl) (fun hf => absurd (hc2.symm.trans hf) (by decide)) (fun _ => Opd.con)) ?_
      refine RegL.pure (p := (pEq (.bool false))) rfl rfl rfl (J_move rfl (Opd.tmp rfl)) ?_
      refine RegL.skipG rfl rfl rfl rfl rfl rfl ?_
      refine RegL.skipG rfl rfl rfl rfl rfl rfl ?_
      refine RegL.skipG rfl rfl rfl rfl rfl rfl ?_
      refine RegL.pure (p := (pEq (.bool false))) rfl rfl rfl (J_pick rfl (Opd.tmp rfl) (fun hf => absurd hf (by decide)) (fun _ => Opd.con)) ?_
      refine RegL.pure (p := (pEq (.bool false))) rfl rfl rfl (J_assign rfl (Opd.tmp rfl)) ?_
      refine RegL.nil ?_
      replace h := Option.some.inj h; subst h
      exact Ct.mid () rfl ⟨rfl, trivial⟩
  · clear hx1
    refine Ct.then_tr ?_
    refine Tr.weak (Γ' := [(2, (pEq (.bool x1)))]) ⟨rfl, trivial⟩ ?_
    refine Tr.ret ?_
    replace h := Option.some.inj h; subst h
    exact Ct.retH1 (Ωx := []) () rfl (RvOk.tmp rfl) rfl

theorem c_impl_ValidProblem {p_0 : GProblem} {r : Bool} (h : m_impl_ValidProblem p_0 = some r) : CallJ Try.prog 30 [(pAgg (cGProblem p_0))] (pEq (.bool r)) := by
  unfold m_impl_ValidProblem at h
  refine CallJ.enterH Try.func30 rfl Try.ntmps30 rfl fun W I0 H => ?_
  refine Tr.weak (Γ' := [(0, (pAgg (cGProblem p_0)))]) ⟨rfl, trivial⟩ ?_
  refine Tr.seq ?_
  refine Tr.region ?_
  refine RegL.pure (p := (pPtr (cGProblem p_0))) rfl rfl rfl (J_boxA rfl (Opd.tmp rfl)) ?_
  refine RegL.pure (p := (pEq (.bool false))) rfl rfl rfl (J_assign rfl Opd.con) ?_
  refine RegL.nil ?_
  refine Ct.then_tr ?_
  refine Tr.weak (Γ' := [(1, (pPtr (cGProblem p_0)))]) ⟨rfl, trivial⟩ ?_
  refine Tr.seq ?_
  refine Tr.seq ?_
  replace h := bind_some h; obtain ⟨x1, hx1, h⟩ := h
  refine Tr.cut (γ := Unit) (Γm := fun g => [(1, (pPtr (cGProblem p_0))), (18, (pEq (.bool x1)))]) (Ωm := fun g => []) ?_ (fun g4 => ?_)
  · clear h
    have h := hx1
    clear hx1
    refine Tr.region ?_
    refine RegL.pure (p := (pPtr ((cSl 1 (cSl 1 (cK .i64))) p_0.Domains))) rfl rfl rfl (J_fieldAddr rfl Try.underlying29 rfl sz22 (by decide) (Opd.tmp rfl) rfl) ?_
    refine RegL.pure (p := (pSl 1 (cSl 1 (cK .i64)) p_0.Domains)) rfl rfl rfl (J_load rfl Try.isAgg22 (Opd.tmp rfl)) ?_
    replace h := bind_some h; obtain ⟨x2, hx2, h⟩ := h
    refine RegL.pure (p := (pEq (.bool x2))) rfl rfl rfl (J_call rfl Try.call68 (c_impl_domainsOk hx2) (Opds.cons (Opd.tmp rfl) Opds.nil)) ?_
    refine RegL.pure (p := (pEq (.bool (!x2)))) rfl rfl rfl (J_not rfl (Opd.tmp rfl)) ?_
    refine RegL.pure (p := (pEq (.bool (!x2)))) rfl rfl rfl (J_move rfl (Opd.tmp rfl)) ?_
    rcases Bool.eq_false_or_eq_true (!x2) with hc3 | hc3
    · replace h := bif_t hc3 h
      refine RegL.skipG rfl rfl rfl hc3 rfl rfl ?_
      refine RegL.skipG rfl rfl rfl hc3 rfl rfl ?_
      refine RegL.skipG rfl rfl rfl hc3 rfl rfl ?_
      refine RegL.skipG rfl rfl rfl hc3 rfl rfl ?_
      refine RegL.skipG rfl rfl rfl hc3 rfl rfl ?_
      refine RegL.skipG rfl rfl rfl hc3 rfl rfl ?_
      refine RegL.skipG rfl rfl rfl hc3 rfl rfl ?_
      refine RegL.pure (p := (pEq (.bool true))) rfl rfl rfl (J_pick rfl (Opd.tmp rfl) (fun _ => Opd.con) (fun hf => absurd (hc3.symm.trans hf) (by decide))) ?_
      refine RegL.nil ?_
      replace h := Option.some.inj h; subst h
      exact Ct.mid () rfl ⟨rfl, rfl, trivial⟩
    · replace h := bif_f hc3 h
      refine RegL.pureG (p := (pPtr ((cSl 1 (cSl 1 (cK .i64))) p_0.Apart))) rfl rfl rfl hc3 rfl rfl (J_fieldAddr rfl Try.underlying29 rfl sz22 (by decide) (Opd.tmp rfl) rfl) ?_
      refine RegL.pureG (p := (pSl 1 (cSl 1 (cK .i64)) p_0.Apart)) rfl rfl rfl hc3 rfl rfl (J_load rfl Try.isAgg22 (Opd.tmp rfl)) ?_
      refine RegL.pureG (p := (pEq (.int .i64 (p_0.Apart.length : Int)))) rfl rfl rfl hc3 rfl rfl (J_len rfl Try.underlying22 (Opd.tmp rfl) rfl) ?_
      refine RegL.pureG (p := (pPtr ((cSl 1 (cSl 1 (cK .i64))) p_0.Domains))) rfl rfl rfl hc3 rfl rfl (J_fieldAddr rfl Try.underlying29 rfl sz22 (by decide) (Opd.tmp rfl) rfl) ?_
      refine RegL.pureG (p := (pSl 1 (cSl 1 (cK .i64)) p_0.Domains)) rfl rfl rfl hc3 rfl rfl (J_load rfl Try.isAgg22 (Opd.tmp rfl)) ?_
      refine RegL.pureG (p := (pEq (.int .i64 (p_0.Domains.length : Int)))) rfl rfl rfl hc3 rfl rfl (J_len rfl Try.underlying22 (Opd.tmp rfl) rfl) ?_
      refine RegL.pureG (p := (pEq (.bool ((p_0.Apart.length : Int) != (p_0.Domains.length : Int))))) rfl rfl rfl hc3 rfl rfl (J_bin rfl (Opd.tmp rfl) (Opd.tmp rfl) B_neq) ?_
      refine RegL.pure (p := (pEq (.bool ((p_0.Apart.length : Int) != (p_0.Domains.length : Int))))) rfl rfl rfl (J_pick rfl (Opd.tmp rfl) (fun hf => absurd (hc3.symm.trans hf) (by decide)) (fun _ => (Opd.tmp rfl))) ?_
      refine RegL.nil ?_
      replace h := Option.some.inj h; subst h
      exact Ct.mid () rfl ⟨rfl, rfl, trivial⟩
  · clear hx1
    refine Ct.then_tr ?_
    refine Tr.weak (Γ' := [(1, (pPtr (cGProblem p_0))), (18, (pEq (.bool x1)))]) ⟨rfl, rfl, trivial⟩ ?_
    refine Tr.cond (Opd.tmp rfl) (fun hc => ?_) (fun hc => ?_)
    · replace h := bif_t hc h
      refine Tr.seq ?_
      refine Tr.region ?_
      refine RegL.pure (p := (pEq (.bool false))) rfl rfl rfl (J_assign rfl Opd.con) ?_
      refine RegL.nil ?_
      refine Ct.then_tr ?_
      refine Tr.weak (Γ' := [(2, (pEq (.bool false)))]) ⟨rfl, trivial⟩ ?_
      refine Tr.ret ?_
      refine Ct.then_ret ?_
      replace h := Option.some.inj h; subst h
      exact Ct.retH1 (Ωx := []) () rfl (RvOk.tmp rfl) rfl
    · replace h := bif_f hc h
      refine Tr.skip ?_
      refine Ct.then_tr ?_
      refine Tr.weak (Γ' := [(1, (pPtr (cGProblem p_0)))]) ⟨rfl, trivial⟩ ?_
      refine Tr.seq ?_
      refine Tr.seq ?_
      refine Tr.region ?_
      refine RegL.pure (p := (pPtr ((cSl 1 (cSl 1 (cK .i64))) p_0.Apart))) rfl rfl rfl (J_fieldAddr rfl Try.underlying29 rfl sz22 (by decide) (Opd.tmp rfl) rfl) ?_
      refine RegL.pure (p := (pSl 1 (cSl 1 (cK .i64)) p_0.Apart)) rfl rfl rfl (J_load rfl Try.isAgg22 (Opd.tmp rfl)) ?_
      refine RegL.pure (p := (pEq (.int .i64 (p_0.Apart.length : Int)))) rfl rfl rfl (J_len rfl Try.underlying22 (Opd.tmp rfl) rfl) ?_
      refine RegL.pure (p := (pEq (.int .i64 (0 : Int)))) rfl rfl rfl (J_move rfl Opd.con) ?_
      refine RegL.nil ?_
      refine Ct.then_tr ?_
      refine Tr.weak (Γ' := [(1, (pPtr (cGProblem p_0))), (20, (pSl 1 (cSl 1 (cK .i64)) p_0.Apart)), (21, (pEq (.int .i64 (p_0.Apart.length : Int)))), (22, (pEq (.int .i64 (0 : Int))))]) ⟨rfl, rfl, rfl, rfl, trivial⟩ ?_
      refine Tr.block ?_
      refine Tr.weak (Γ' := [(1, (pPtr (cGProblem p_0))), (20, (pSl 1 (cSl 1 (cK .i64)) p_0.Apart)), (21, (pEq (.int .i64 (p_0.Apart.length : Int)))), (22, (pEq (.int .i64 (0 : Int))))]) ⟨rfl, rfl, rfl, rfl, trivial⟩ ?_
      refine Tr.loop (γ := Unit) (σ := Int) (Γσ := fun s g => [(1, (pPtr (cGProblem p_0))), (20, (pSl 1 (cSl 1 (cK .i64)) p_0.Apart)), (21, (pEq (.int .i64 (p_0.Apart.length : Int)))), (22, (pEq (.int .i64 s)))]) (Ωσ := fun s g => []) (g := ()) h ?_
      clear h
      rintro v6 g7 t h
      replace h : m_impl_ValidProblem_B5 p_0 v6 = some t := h
      unfold m_impl_ValidProblem_B5 at h
      refine Tr.weakO (Γ' := [(1, (pPtr (cGProblem p_0))), (20, (pSl 1 (cSl 1 (cK .i64)) p_0.Apart)), (21, (pEq (.int .i64 (p_0.Apart.length : Int)))), (22, (pEq (.int .i64 v6)))]) (Ω' := []) rfl ⟨rfl, rfl, rfl, rfl, trivial⟩ ?_
      refine Tr.seq ?_
      refine Tr.region ?_
      refine RegL.pure (p := (pEq (.bool (decide (v6 < (p_0.Apart.length : Int)))))) rfl rfl rfl (J_bin rfl (Opd.tmp rfl) (Opd.tmp rfl) B_lss) ?_
      refine RegL.nil ?_
      refine Ct.then_tr ?_
      refine Tr.weak (Γ' := [(1, (pPtr (cGProblem p_0))), (20, (pSl 1 (cSl 1 (cK .i64)) p_0.Apart)), (21, (pEq (.int .i64 (p_0.Apart.length : Int)))), (22, (pEq (.int .i64 v6))), (23, (pEq (.bool (decide (v6 < (p_0.Apart.length : Int))))))]) ⟨rfl, rfl, rfl, rfl, rfl, trivial⟩ ?_
      refine Tr.seq ?_
      refine Tr.cond (Opd.tmp rfl) (fun hc => ?_) (fun hc => ?_)
      · replace h := bif_t hc h
        refine Tr.skip ?_
        refine Ct.then_tr ?_
        refine Tr.weak (Γ' := [(1, (pPtr (cGProblem p_0))), (20, (pSl 1 (cSl 1 (cK .i64)) p_0.Apart)), (21, (pEq (.int .i64 (p_0.Apart.length : Int)))), (22, (pEq (.int .i64 v6)))]) ⟨rfl, rfl, rfl, rfl, trivial⟩ ?_
        refine Tr.seq ?_
        refine Tr.block ?_
        refine Tr.seq ?_
        refine Tr.region ?_
        refine RegL.pure (p := (pEq (.int .i64 v6))) rfl rfl rfl (J_move rfl (Opd.tmp rfl)) ?_
        replace h := bind_some h; obtain ⟨x8, hx8, h⟩ := h
        refine RegL.pure (p := (pPtr ((cSl 1 (cK .i64)) x8))) rfl rfl rfl (J_idx rfl Try.underlying22 sz26 (Opd.tmp rfl) (Opd.tmp rfl) hx8) ?_
        refine RegL.pure (p := (pSl 1 (cK .i64) x8)) rfl rfl rfl (J_load rfl Try.isAgg26 (Opd.tmp rfl)) ?_
        refine RegL.pure (p := (pEq (.int .i64 v6))) rfl rfl rfl (J_assign rfl (Opd.tmp rfl)) ?_
        refine RegL.pure (p := (pSl 1 (cK .i64) x8)) rfl rfl rfl (J_assign rfl (Opd.tmp rfl)) ?_
        refine RegL.nil ?_
        refine Ct.then_tr ?_
        refine Tr.weak (Γ' := [(1, (pPtr (cGProblem p_0))), (3, (pEq (.int .i64 v6))), (4, (pSl 1 (cK .i64) x8)), (20, (pSl 1 (cSl 1 (cK .i64)) p_0.Apart)), (21, (pEq (.int .i64 (p_0.Apart.length : Int)))), (22, (pEq (.int .i64 v6)))]) ⟨rfl, rfl, rfl, rfl, rfl, rfl, trivial⟩ ?_
        refine Tr.seq ?_
        refine Tr.seq ?_
        replace h := bind_some h; obtain ⟨x9, hx9, h⟩ := h
        refine Tr.cut (γ := Unit) (Γm := fun g => [(1, (pPtr (cGProblem p_0))), (3, (pEq (.int .i64 v6))), (4, (pSl 1 (cK .i64) x8)), (20, (pSl 1 (cSl 1 (cK .i64)) p_0.Apart)), (21, (pEq (.int .i64 (p_0.Apart.length : Int)))), (22, (pEq (.int .i64 v6))), (44, (pEq (.bool x9)))]) (Ωm := fun g => []) ?_ (fun g14 => ?_)
        · clear h
          have h := hx9
          clear hx9
          refine Tr.region ?_
          refine RegL.pure (p := (pSl 1 (cK .i64) x8)) rfl rfl rfl (J_move rfl (Opd.tmp rfl)) ?_
          refine RegL.pure (p := (pEq (.int .i64 (x8.length : Int)))) rfl rfl rfl (J_len rfl Try.underlying26 (Opd.tmp rfl) rfl) ?_
          refine RegL.pure (p := (pPtr ((cSl 1 (cSl 1 (cK .i64))) p_0.Domains))) rfl rfl rfl (J_fieldAddr rfl Try.underlying29 rfl sz22 (by decide) (Opd.tmp rfl) rfl) ?_
          refine RegL.pure (p := (pSl 1 (cSl 1 (cK .i64)) p_0.Domains)) rfl rfl rfl (J_load rfl Try.isAgg22 (Opd.tmp rfl)) ?_
          refine RegL.pure (p := (pEq (.int .i64 (p_0.Domains.length : Int)))) rfl rfl rfl (J_len rfl Try.underlying22 (Opd.tmp rfl) rfl) ?_
          refine RegL.pure (p := (pEq (.bool ((x8.length : Int) != (p_0.Domains.length : Int))))) rfl rfl rfl (J_bin rfl (Opd.tmp rfl) (Opd.tmp rfl) B_neq) ?_
          refine RegL.pure (p := (pEq (.bool ((x8.length : Int) != (p_0.Domains.length : Int))))) rfl rfl rfl (J_move rfl (Opd.tmp rfl)) ?_
          rcases Bool.eq_false_or_eq_true ((x8.length : Int) != (p_0.Domains.length : Int)) with hc10 | hc10
          · replace h := bif_t hc10 h
            refine RegL.skipG rfl rfl rfl hc10 rfl rfl ?_
            refine RegL.skipG rfl rfl rfl hc10 rfl rfl ?_
            refine RegL.skipG rfl rfl rfl hc10 rfl rfl ?_
            refine RegL.pure (p := (pEq (.bool true))) rfl rfl rfl (J_pick rfl (Opd.tmp rfl) (fun _ => Opd.con) (fun hf => absurd (hc10.symm.trans hf) (by decide))) ?_
            refine RegL.pure (p := (pEq (.bool true))) rfl rfl rfl (J_move rfl (Opd.tmp rfl)) ?_
            refine RegL.skipG rfl rfl rfl rfl rfl rfl ?_
            refine RegL.skipG rfl rfl rfl rfl rfl rfl ?_
            refine RegL.skipG rfl rfl rfl rfl rfl rfl ?_
            refine RegL.skipG rfl rfl rfl rfl rfl rfl ?_
            refine RegL.skipG rfl rfl rfl rfl rfl rfl ?_
            refine RegL.pure (p := (pEq (.bool true))) rfl rfl rfl (J_pick rfl (Opd.tmp rfl) (fun _ => Opd.con) (fun hf => absurd hf (by decide))) ?_
            refine RegL.nil ?_
            replace h := Option.some.inj h; subst h
            exact Ct.mid () rfl ⟨rfl, rfl, rfl, rfl, rfl, rfl, rfl, trivial⟩
          · replace h := bif_f hc10 h
            refine RegL.pureG (p := (pSl 1 (cK .i64) x8)) rfl rfl rfl hc10 rfl rfl (J_move rfl (Opd.tmp rfl)) ?_
            replace h := bind_some h; obtain ⟨x11, hx11, h⟩ := h
            refine RegL.pureG (p := (pEq (.bool x11))) rfl rfl rfl hc10 rfl rfl (J_call rfl Try.call69 (c_impl_allWithin hx11) (Opds.cons (Opd.tmp rfl) (Opds.cons Opd.con (Opds.cons Opd.con Opds.nil)))) ?_
            refine RegL.pureG (p := (pEq (.bool (!x11)))) rfl rfl rfl hc10 rfl rfl (J_not rfl (Opd.tmp rfl)) ?_
            refine RegL.pure (p := (pEq (.bool (!x11)))) rfl rfl rfl (J_pick rfl (Opd.tmp rfl) (fun hf => absurd (hc10.symm.trans hf) (by decide)) (fun _ => (Opd.tmp rfl))) ?_
            refine RegL.pure (p := (pEq (.bool (!x11)))) rfl rfl rfl (J_move rfl (Opd.tmp rfl)) ?_
            rcases Bool.eq_false_or_eq_true (!x11) with hc12 | hc12
            · replace h := bif_t hc12 h
              refine RegL.skipG rfl rfl rfl hc12 rfl rfl ?_
              refine RegL.skipG rfl rfl rfl hc12 rfl rfl ?_
              refine RegL.skipG rfl rfl rfl hc12 rfl rfl ?_
              refine RegL.skipG rfl rfl rfl hc12 rfl rfl ?_
              refine RegL.skipG rfl rfl rfl hc12 rfl rfl ?_
              refine RegL.pure (p := (pEq (.bool true))) rfl rfl rfl (J_pick rfl (Opd.tmp rfl) (fun _ => Opd.con) (fun hf => absurd (hc12.symm.trans hf) (by decide))) ?_
              refine RegL.nil ?_
              replace h := Option.some.inj h; subst h
              exact Ct.mid () rfl ⟨rfl, rfl, rfl, rfl, rfl, rfl, rfl, trivial⟩
            · replace h := bif_f hc12 h
              refine RegL.pureG (p := (pSl 1 (cK .i64) x8)) rfl rfl rfl hc12 rfl rfl (J_move rfl (Opd.tmp rfl)) ?_
              refine RegL.pureG (p := (pEq (.int .i64 v6))) rfl rfl rfl hc12 rfl rfl (J_move rfl (Opd.tmp rfl)) ?_
              replace h := bind_some h; obtain ⟨x13, hx13, h⟩ := h
              refine RegL.pureG (p := (pPtr ((cK .i64) x13))) rfl rfl rfl hc12 rfl rfl (J_idx rfl Try.underlying26 sz2 (Opd.tmp rfl) (Opd.tmp rfl) hx13) ?_
              refine RegL.pureG (p := (pEq (.int .i64 x13))) rfl rfl rfl hc12 rfl rfl (J_load rfl Try.isAgg2 (Opd.tmp rfl)) ?_
              refine RegL.pureG (p := (pEq (.bool (x13 != (0 : Int))))) rfl rfl rfl hc12 rfl rfl (J_bin rfl (Opd.tmp rfl) Opd.con B_neq) ?_
              refine RegL.pure (p := (pEq (.bool (x13 != (0 : Int))))) rfl rfl rfl (J_pick rfl (Opd.tmp rfl) (fun hf => absurd (hc12.symm.trans hf) (by decide)) (fun _ => (Opd.tmp rfl))) ?_
              refine RegL.nil ?_
              replace h := Option.some.inj h; subst h
              exact Ct.mid () rfl ⟨rfl, rfl, rfl, rfl, rfl, rfl, rfl, trivial⟩
        · clear hx9
          refine Ct.then_tr ?_
          refine Tr.weak (Γ' := [(1, (pPtr (cGProblem p_0))), (3, (pEq (.int .i64 v6))), (4, (pSl 1 (cK .i64) x8)), (20, (pSl 1 (cSl 1 (cK .i64)) p_0.Apart)), (21, (pEq (.int .i64 (p_0.Apart.length : Int)))), (22, (pEq (.int .i64 v6))), (44, (pEq (.bool x9)))]) ⟨rfl, rfl, rfl, rfl, rfl, rfl, rfl, trivial⟩ ?_
          refine Tr.cond (Opd.tmp rfl) (fun hc => ?_) (fun hc => ?_)
          · replace h := bif_t hc h
            refine Tr.seq ?_
            refine Tr.region ?_
            refine RegL.pure (p := (pEq (.bool false))) rfl rfl rfl (J_assign rfl Opd.con) ?_
            refine RegL.nil ?_
            refine Ct.then_tr ?_
            refine Tr.weak (Γ' := [(2, (pEq (.bool false)))]) ⟨rfl, trivial⟩ ?_
            refine Tr.ret ?_
            refine Ct.then_ret ?_
            refine Ct.blk_ret ?_
            refine Ct.then_ret ?_
            replace h := map_some h; obtain ⟨r1, h, rfl⟩ := h
            refine Ct.out_ret fun e => ?_
            subst e
            refine Ct.blk_ret ?_
            refine Ct.then_ret ?_
            replace h := Option.some.inj h; subst h
            exact Ct.retH1 (Ωx := []) () rfl (RvOk.tmp rfl) rfl
          · replace h := bif_f hc h
            refine Tr.skip ?_
            refine Ct.then_tr ?_
            refine Tr.weak (Γ' := [(1, (pPtr (cGProblem p_0))), (3, (pEq (.int .i64 v6))), (4, (pSl 1 (cK .i64) x8)), (20, (pSl 1 (cSl 1 (cK .i64)) p_0.Apart)), (21, (pEq (.int .i64 (p_0.Apart.length : Int)))), (22, (pEq (.int .i64 v6)))]) ⟨rfl, rfl, rfl, rfl, rfl, rfl, trivial⟩ ?_
            refine Tr.seq ?_
            refine Tr.region ?_
            refine RegL.pure (p := (pEq (.int .i64 v6))) rfl rfl rfl (J_move rfl (Opd.tmp rfl)) ?_
            refine RegL.pure (p := (pEq (.int .i64 (0 : Int)))) rfl rfl rfl (J_move rfl Opd.con) ?_
            refine RegL.nil ?_
            refine Ct.then_tr ?_
            refine Tr.weak (Γ' := [(1, (pPtr (cGProblem p_0))), (3, (pEq (.int .i64 v6))), (4, (pSl 1 (cK .i64) x8)), (20, (pSl 1 (cSl 1 (cK .i64)) p_0.Apart)), (21, (pEq (.int .i64 (p_0.Apart.length : Int)))), (22, (pEq (.int .i64 v6))), (45, (pEq (.int .i64 v6))), (46, (pEq (.int .i64 (0 : Int))))]) ⟨rfl, rfl, rfl, rfl, rfl, rfl, rfl, rfl, trivial⟩ ?_
            refine Tr.block ?_
            refine Tr.weak (Γ' := [(1, (pPtr (cGProblem p_0))), (3, (pEq (.int .i64 v6))), (4, (pSl 1 (cK .i64) x8)), (20, (pSl 1 (cSl 1 (cK .i64)) p_0.Apart)), (21, (pEq (.int .i64 (p_0.Apart.length : Int)))), (22, (pEq (.int .i64 v6))), (45, (pEq (.int .i64 v6))), (46, (pEq (.int .i64 (0 : Int))))]) ⟨rfl, rfl, rfl, rfl, rfl, rfl, rfl, rfl, trivial⟩ ?_
            refine Tr.loop (γ := Unit) (σ := Int) (Γσ := fun s g => [(1, (pPtr (cGProblem p_0))), (3, (pEq (.int .i64 v6))), (4, (pSl 1 (cK .i64) x8)), (20, (pSl 1 (cSl 1 (cK .i64)) p_0.Apart)), (21, (pEq (.int .i64 (p_0.Apart.length : Int)))), (22, (pEq (.int .i64 v6))), (45, (pEq (.int .i64 v6))), (46, (pEq (.int .i64 s)))]) (Ωσ := fun s g => []) (g := ()) h ?_
            clear h
            rintro v16 g17 t h
            replace h : m_impl_ValidProblem_B15 p_0 v6 x8 v16 = some t := h
            unfold m_impl_ValidProblem_B15 at h
            refine Tr.weakO (Γ' := [(1, (pPtr (cGProblem p_0))), (3, (pEq (.int .i64 v6))), (4, (pSl 1 (cK .i64) x8)), (20, (pSl 1 (cSl 1 (cK .i64)) p_0.Apart)), (21, (pEq (.int .i64 (p_0.Apart.length : Int)))), (22, (pEq (.int .i64 v6))), (45, (pEq (.int .i64 v6))), (46, (pEq (.int .i64 v16)))]) (Ω' := []) rfl ⟨rfl, rfl, rfl, rfl, rfl, rfl, rfl, rfl, trivial⟩ ?_
            refine Tr.seq ?_
            refine Tr.region ?_
            refine RegL.pure (p := (pEq (.bool (decide (v16 < v6))))) rfl rfl rfl (J_bin rfl (Opd.tmp rfl) (Opd.tmp rfl) B_lss) ?_
            refine RegL.nil ?_
            refine Ct.then_tr ?_
            refine Tr.weak (Γ' := [(1, (pPtr (cGProblem p_0))), (3, (pEq (.int .i64 v6))), (4, (pSl 1 (cK .i64) x8)), (20, (pSl 1 (cSl 1 (cK .i64)) p_0.Apart)), (21, (pEq (.int .i64 (p_0.Apart.length : Int)))), (22, (pEq (.int .i64 v6))), (45, (pEq (.int .i64 v6))), (46, (pEq (.int .i64 v16))), (47, (pEq (.bool (decide (v16 < v6)))))]) ⟨rfl, rfl, rfl, rfl, rfl, rfl, rfl, rfl, rfl, trivial⟩ ?_
            refine Tr.seq ?_
            refine Tr.cond (Opd.tmp rfl) (fun hc => ?_) (fun hc => ?_)
            · replace h := bif_t hc h
              refine Tr.skip ?_
              refine Ct.then_tr ?_
              refine Tr.weak (Γ' := [(1, (pPtr (cGProblem p_0))), (3, (pEq (.int .i64 v6))), (4, (pSl 1 (cK .i64) x8)), (20, (pSl 1 (cSl 1 (cK .i64)) p_0.Apart)), (21, (pEq (.int .i64 (p_0.Apart.length : Int)))), (22, (pEq (.int .i64 v6))), (45, (pEq (.int .i64 v6))), (46, (pEq (.int .i64 v16)))]) ⟨rfl, rfl, rfl, rfl, rfl, rfl, rfl, rfl, trivial⟩ ?_
              refine Tr.seq ?_
              refine Tr.block ?_
              refine Tr.seq ?_
              refine Tr.region ?_
              refine RegL.pure (p := (pEq (.int .i64 v16))) rfl rfl rfl (J_move rfl (Opd.tmp rfl)) ?_
              refine RegL.pure (p := (pEq (.int .i64 v16))) rfl rfl rfl (J_assign rfl (Opd.tmp rfl)) ?_
              refine RegL.nil ?_
              refine Ct.then_tr ?_
              refine Tr.weak (Γ' := [(1, (pPtr (cGProblem p_0))), (3, (pEq (.int .i64 v6))), (4, (pSl 1 (cK .i64) x8)), (5, (pEq (.int .i64 v16))), (20, (pSl 1 (cSl 1 (cK .i64)) p_0.Apart)), (21, (pEq (.int .i64 (p_0.Apart.length : Int)))), (22, (pEq (.int .i64 v6))), (45, (pEq (.int .i64 v6))), (46, (pEq (.int .i64 v16)))]) ⟨rfl, rfl, rfl, rfl, rfl, rfl, rfl, rfl, rfl, trivial⟩ ?_
              refine Tr.seq ?_
              replace h := bind_some h; obtain ⟨x18, hx18, h⟩ := h
              replace h := bind_some h; obtain ⟨x19, hx19, h⟩ := h
              replace h := bind_some h; obtain ⟨x20, hx20, h⟩ := h
              refine Tr.drawD (n := 64) (m := 13) (es := [some (Ent.mk [(4, (pSl 1 (cK .i64) x8))] (pSl 1 (cK .i64) x8) true), some (Ent.mk [(5, (pEq (.int .i64 v16)))] (pEq (.int .i64 v16)) true), some (Ent.mk [(49, (pSl 1 (cK .i64) x8)), (50, (pEq (.int .i64 v16)))] (pPtr ((cK .i64) x18)) true), some (Ent.mk [(51, (pPtr ((cK .i64) x18)))] (pEq (.int .i64 x18)) true), some (Ent.mk [(1, (pPtr (cGProblem p_0)))] (pPtr ((cSl 1 (cSl 1 (cK .i64))) p_0.Apart)) true), some (Ent.mk [(53, (pPtr ((cSl 1 (cSl 1 (cK .i64))) p_0.Apart)))] (pSl 1 (cSl 1 (cK .i64)) p_0.Apart) true), some (Ent.mk [(5, (pEq (.int .i64 v16)))] (pEq (.int .i64 v16)) true), some (Ent.mk [(54, (pSl 1 (cSl 1 (cK .i64)) p_0.Apart)), (55, (pEq (.int .i64 v16)))] (pPtr ((cSl 1 (cK .i64)) x19)) true), some (Ent.mk [(56, (pPtr ((cSl 1 (cK .i64)) x19)))] (pSl 1 (cK .i64) x19) true), some (Ent.mk [(3, (pEq (.int .i64 v6)))] (pEq (.int .i64 v6)) true), some (Ent.mk [(57, (pSl 1 (cK .i64) x19)), (58, (pEq (.int .i64 v6)))] (pPtr ((cK .i64) x20)) true), some (Ent.mk [(59, (pPtr ((cK .i64) x20)))] (pEq (.int .i64 x20)) true), some (Ent.mk [(52, (pEq (.int .i64 x18))), (60, (pEq (.int .i64 x20)))] (pEq (.bool (x18 != x20))) true)]) (rd := [[4], [5], [49, 50], [51], [1], [53], [5], [54, 55], [56], [3], [57, 58], [59], [52, 60]]) rfl hmix (by kernel_rfl) fun hD => ?_
              refine RD.fin (es := [Ent.mk [(4, (pSl 1 (cK .i64) x8))] (pSl 1 (cK .i64) x8) true, Ent.mk [(5, (pEq (.int .i64 v16)))] (pEq (.int .i64 v16)) true, Ent.mk [(49, (pSl 1 (cK .i64) x8)), (50, (pEq (.int .i64 v16)))] (pPtr ((cK .i64) x18)) true, Ent.mk [(51, (pPtr ((cK .i64) x18)))] (pEq (.int .i64 x18)) true, Ent.mk [(1, (pPtr (cGProblem p_0)))] (pPtr ((cSl 1 (cSl 1 (cK .i64))) p_0.Apart)) true, Ent.mk [(53, (pPtr ((cSl 1 (cSl 1 (cK .i64))) p_0.Apart)))] (pSl 1 (cSl 1 (cK .i64)) p_0.Apart) true, Ent.mk [(5, (pEq (.int .i64 v16)))] (pEq (.int .i64 v16)) true, Ent.mk [(54, (pSl 1 (cSl 1 (cK .i64)) p_0.Apart)), (55, (pEq (.int .i64 v16)))] (pPtr ((cSl 1 (cK .i64)) x19)) true, Ent.mk [(56, (pPtr ((cSl 1 (cK .i64)) x19)))] (pSl 1 (cK .i64) x19) true, Ent.mk [(3, (pEq (.int .i64 v6)))] (pEq (.int .i64 v6)) true, Ent.mk [(57, (pSl 1 (cK .i64) x19)), (58, (pEq (.int .i64 v6)))] (pPtr ((cK .i64) x20)) true, Ent.mk [(59, (pPtr ((cK .i64) x20)))] (pEq (.int .i64 x20)) true, Ent.mk [(52, (pEq (.int .i64 x18))), (60, (pEq (.int .i64 x20)))] (pEq (.bool (x18 != x20))) true]) (done := []) hD ⟨.inr ⟨(OpJ.w (J_move rfl (Opd.tmp rfl))), ⟨rfl, trivial⟩, rfl, rfl⟩, ⟨.inr ⟨(OpJ.w (J_move rfl (Opd.tmp rfl))), ⟨rfl, trivial⟩, rfl, rfl⟩, ⟨.inr ⟨(OpJ.w (J_idx rfl Try.underlying26 sz2 (Opd.tmp rfl) (Opd.tmp rfl) hx18)), ⟨rfl, rfl, trivial⟩, rfl, rfl⟩, ⟨.inr ⟨(OpJ.w (J_load rfl Try.isAgg2 (Opd.tmp rfl))), ⟨rfl, trivial⟩, rfl, rfl⟩, ⟨.inr ⟨(OpJ.w (J_fieldAddr rfl Try.underlying29 rfl sz22 (by decide) (Opd.tmp rfl) rfl)), ⟨rfl, trivial⟩, rfl, rfl⟩, ⟨.inr ⟨(OpJ.w (J_load rfl Try.isAgg22 (Opd.tmp rfl))), ⟨rfl, trivial⟩, rfl, rfl⟩, ⟨.inr ⟨(OpJ.w (J_move rfl (Opd.tmp rfl))), ⟨rfl, trivial⟩, rfl, rfl⟩, ⟨.inr ⟨(OpJ.w (J_idx rfl Try.underlying22 sz26 (Opd.tmp rfl) (Opd.tmp rfl) hx19)), ⟨rfl, rfl, trivial⟩, rfl, rfl⟩, ⟨.inr ⟨(OpJ.w (J_load rfl Try.isAgg26 (Opd.tmp rfl))), ⟨rfl, trivial⟩, rfl, rfl⟩, ⟨.inr ⟨(OpJ.w (J_move rfl (Opd.tmp rfl))), ⟨rfl, trivial⟩, rfl, rfl⟩, ⟨.inr ⟨(OpJ.w (J_idx rfl Try.underlying26 sz2 (Opd.tmp rfl) (Opd.tmp rfl) hx20)), ⟨rfl, rfl, trivial⟩, rfl, rfl⟩, ⟨.inr ⟨(OpJ.w (J_load rfl Try.isAgg2 (Opd.tmp rfl))), ⟨rfl, trivial⟩, rfl, rfl⟩, ⟨.inr ⟨(OpJ.w (J_bin rfl (Opd.tmp rfl) (Opd.tmp rfl) B_neq)), ⟨rfl, rfl, trivial⟩, rfl, rfl⟩, trivial⟩⟩⟩⟩⟩⟩⟩⟩⟩⟩⟩⟩⟩ ?_
              refine RegL.nil ?_
              refine Ct.then_tr ?_
              refine Tr.weak (Γ' := [(1, (pPtr (cGProblem p_0))), (3, (pEq (.int .i64 v6))), (4, (pSl 1 (cK .i64) x8)), (20, (pSl 1 (cSl 1 (cK .i64)) p_0.Apart)), (21, (pEq (.int .i64 (p_0.Apart.length : Int)))), (22, (pEq (.int .i64 v6))), (45, (pEq (.int .i64 v6))), (46, (pEq (.int .i64 v16))), (61, (pEq (.bool (x18 != x20))))]) ⟨rfl, rfl, rfl, rfl, rfl, rfl, rfl, rfl, rfl, trivial⟩ ?_
              refine Tr.cond (Opd.tmp rfl) (fun hc => ?_) (fun hc => ?_)
              · replace h := bif_t hc h
                refine Tr.seq ?_
                refine Tr.region ?_
                refine RegL.pure (p := (pEq (.bool false))) rfl rfl rfl (J_assign rfl Opd.con) ?_
                refine RegL.nil ?_
                refine Ct.then_tr ?_
                refine Tr.weak (Γ' := [(2, (pEq (.bool false)))]) ⟨rfl, trivial⟩ ?_
                refine Tr.ret ?_
                refine Ct.blk_ret ?_
                refine Ct.then_ret ?_
                replace h := map_some h; obtain ⟨r1, h, rfl⟩ := h
                refine Ct.out_ret fun e => ?_
                subst e
                refine Ct.blk_ret ?_
                refine Ct.blk_ret ?_
                refine Ct.then_ret ?_
                replace h := map_some h; obtain ⟨r1, h, rfl⟩ := h
                refine Ct.out_ret fun e => ?_
                subst e
                refine Ct.blk_ret ?_
                refine Ct.then_ret ?_
                replace h := Option.some.inj h; subst h
                exact Ct.retH1 (Ωx := []) () rfl (RvOk.tmp rfl) rfl
              · replace h := bif_f hc h
                refine Tr.skip ?_
                refine Ct.blk_normal ?_
                refine Ct.then_tr ?_
                refine Tr.weak (Γ' := [(1, (pPtr (cGProblem p_0))), (3, (pEq (.int .i64 v6))), (4, (pSl 1 (cK .i64) x8)), (20, (pSl 1 (cSl 1 (cK .i64)) p_0.Apart)), (21, (pEq (.int .i64 (p_0.Apart.length : Int)))), (22, (pEq (.int .i64 v6))), (45, (pEq (.int .i64 v6))), (46, (pEq (.int .i64 v16)))]) ⟨rfl, rfl, rfl, rfl, rfl, rfl, rfl, rfl, trivial⟩ ?_
                refine Tr.region ?_
                refine RegL.pure (p := (pEq (.int .i64 (w64 (v16 + (1 : Int)))))) rfl rfl rfl (J_bin rfl (Opd.tmp rfl) Opd.con B_add) ?_
                refine RegL.pure (p := (pEq (.int .i64 (w64 (v16 + (1 : Int)))))) rfl rfl rfl (J_move rfl (Opd.tmp rfl)) ?_
                refine RegL.nil ?_
                replace h := Option.some.inj h; subst h
                exact Ct.again () rfl ⟨rfl, rfl, rfl, rfl, rfl, rfl, rfl, rfl, trivial⟩
            · replace h := bif_f hc h
              refine Tr.exit ?_
              refine Ct.then_exit ?_
              replace h := map_some h; obtain ⟨r1, h, rfl⟩ := h
              refine Ct.out_exit fun e => ?_
              subst e
              refine Ct.blk_exit ?_
              refine Ct.blk_normal ?_
              refine Ct.then_tr ?_
              refine Tr.weak (Γ' := [(1, (pPtr (cGProblem p_0))), (20, (pSl 1 (cSl 1 (cK .i64)) p_0.Apart)), (21, (pEq (.int .i64 (p_0.Apart.length : Int)))), (22, (pEq (.int .i64 v6)))]) ⟨rfl, rfl, rfl, rfl, trivial⟩ ?_
              refine Tr.region ?_
              refine RegL.pure (p := (pEq (.int .i64 (w64 (v6 + (1 : Int)))))) rfl rfl rfl (J_bin rfl (Opd.tmp rfl) Opd.con B_add) ?_
              refine RegL.pure (p := (pEq (.int .i64 (w64 (v6 + (1 : Int)))))) rfl rfl rfl (J_move rfl (Opd.tmp rfl)) ?_
              refine RegL.nil ?_
              replace h := Option.some.inj h; subst h
              exact Ct.again () rfl ⟨rfl, rfl, rfl, rfl, trivial⟩
      · replace h := bif_f hc h
        refine Tr.exit ?_
        refine Ct.then_exit ?_
        replace h := map_some h; obtain ⟨r1, h, rfl⟩ := h
        refine Ct.out_exit fun e => ?_
        subst e
        refine Ct.blk_exit ?_
        refine Ct.then_tr ?_
        refine Tr.weak (Γ' := []) trivial ?_
        refine Tr.seq ?_
        refine Tr.region ?_
        refine RegL.pure (p := (pEq (.bool true))) rfl rfl rfl (J_assign rfl Opd.con) ?_
        refine RegL.nil ?_
        refine Ct.then_tr ?_
        refine Tr.weak (Γ' := [(2, (pEq (.bool true)))]) ⟨rfl, trivial⟩ ?_
        refine Tr.ret ?_
        replace h := Option.some.inj h; subst h
        exact Ct.retH1 (Ωx := []) () rfl (RvOk.tmp rfl) rfl

theorem c_slices_Values_int64_int64 {s_0 r : List Int} (h : m_slices_Values_int64_int64 s_0 = some r) : CallJ Try.prog 45 [(pSl 1 (cK .i64) s_0)] (pSeq 74 r) :=
  vals_contract valsAt45 h

theorem o_slices_Sorted_int64 {q_0 r : List Int} (h : m_slices_Sorted_int64 q_0 = some r) : CallH Try.prog 44 [(pSeq 74 q_0)] [] (fun g : (Option Addr × Nat × Nat) => (pEq (.slice g.1 g.2.1 g.2.2))) (fun g : (Option Addr × Nat × Nat) => [oSl 2 1 (cK .i64) g.1 g.2.1 g.2.2 r]) :=
  sorted_contract seq44 rfl rfl seqSorts44 (Go.Proofs.enters_of Try.func63 (by kernel_rfl) rfl) (Go.Proofs.enters_of Try.func74 (by kernel_rfl) rfl) seqAt74 h

theorem o_slices_Compact_int64_int64 {x_0 : List Int} {ho0 : Option Addr} {hn0 hc0 : Nat} {r : List Int} (h : m_slices_Compact_int64_int64 x_0 = some r) : CallH Try.prog 43 [(pEq (.slice ho0 hn0 hc0))] [oSl 2 1 (cK .i64) ho0 hn0 hc0 x_0] (fun g : (Option Addr × Nat × Nat) => (pEq (.slice g.1 g.2.1 g.2.2))) (fun g : (Option Addr × Nat × Nat) => [oSl 2 1 (cK .i64) g.1 g.2.1 g.2.2 r]) :=
  compact_contract compAt43 compNone43 h

theorem o_impl_Problem_items {p_0 : GProblem}  {r : (List Int)} (h : m_impl_Problem_items p_0 = some r) : CallH Try.prog 46 [(pAgg (cGProblem p_0))] [] (fun g : G3 => (pEq (.slice g.1 g.2.1 g.2.2))) (fun g : G3 => [oSl 2 1 (cK .i64) g.1 g.2.1 g.2.2 r]) := by
  unfold m_impl_Problem_items at h
  refine CallH.enter Try.func46 rfl Try.ntmps46 rfl fun W I0 H => ?_
  refine Tr.weak (Γ' := [(0, (pAgg (cGProblem p_0)))]) ⟨rfl, trivial⟩ ?_
  refine Tr.seq ?_
  refine Tr.region ?_
  refine RegL.pure (p := (pPtr (cGProblem p_0))) rfl rfl rfl (J_boxA rfl (Opd.tmp rfl)) ?_
  refine RegL.pure (p := (pEq (.slice none 0 0))) rfl rfl rfl (J_assign rfl Opd.con) ?_
  refine RegL.nil ?_
  refine Ct.then_tr ?_
  refine Tr.weak (Γ' := [(1, (pPtr (cGProblem p_0)))]) ⟨rfl, trivial⟩ ?_
  refine Tr.seq ?_
  refine Tr.region ?_
  refine RegL.pure (p := (pPtr ((cSl 1 (cSl 1 (cK .i64))) p_0.Domains))) rfl rfl rfl (J_fieldAddr rfl Try.underlying29 rfl sz22 (by decide) (Opd.tmp rfl) rfl) ?_
  refine RegL.pure (p := (pSl 1 (cSl 1 (cK .i64)) p_0.Domains)) rfl rfl rfl (J_load rfl Try.isAgg22 (Opd.tmp rfl)) ?_
  refine RegL.pure (p := (pEq (.int .i64 (p_0.Domains.length : Int)))) rfl rfl rfl (J_len rfl Try.underlying22 (Opd.tmp rfl) rfl) ?_
  replace h := bind_some h; obtain ⟨x1, hx1, h⟩ := h
  refine RegL.step (γ := Option Addr) (p := fun a => pEq (.slice a ((p_0.Domains.length : Int)).toNat ((p_0.Domains.length : Int)).toNat)) (Ω' := fun a => [oSl 2 1 (cK .i64) a ((p_0.Domains.length : Int)).toNat ((p_0.Domains.length : Int)).toNat x1]) rfl rfl rfl (M_make rfl Try.underlying26 el2 (by decide) (Opd.tmp rfl) hx1) fun o2 => ?_
  refine RegL.pure (p := (pEq (.slice o2 ((p_0.Domains.length : Int)).toNat ((p_0.Domains.length : Int)).toNat))) rfl rfl rfl (J_assign rfl (Opd.tmp rfl)) ?_
  refine RegL.nil ?_
  refine Ct.then_tr ?_
  refine Tr.weak (Γ' := [(3, (pEq (.slice o2 ((p_0.Domains.length : Int)).toNat ((p_0.Domains.length : Int)).toNat)))]) ⟨rfl, trivial⟩ ?_
  refine Tr.seq ?_
  refine Tr.seq ?_
  refine Tr.region ?_
  refine RegL.pure (p := (pEq (.slice o2 ((p_0.Domains.length : Int)).toNat ((p_0.Domains.length : Int)).toNat))) rfl rfl rfl (J_move rfl (Opd.tmp rfl)) ?_
  refine RegL.pureW (p := (pEq (.int .i64 (x1.length : Int)))) rfl rfl rfl (W_rowLen (j := 0) rfl Try.underlying26 (Opd.tmp rfl) rfl) ?_
  refine RegL.pure (p := (pEq (.int .i64 (0 : Int)))) rfl rfl rfl (J_move rfl Opd.con) ?_
  refine RegL.nil ?_
  refine Ct.then_tr ?_
  refine Tr.weak (Γ' := [(3, (pEq (.slice o2 ((p_0.Domains.length : Int)).toNat ((p_0.Domains.length : Int)).toNat))), (10, (pEq (.int .i64 (x1.length : Int)))), (11, (pEq (.int .i64 (0 : Int))))]) ⟨rfl, rfl, rfl, trivial⟩ ?_
  replace h := bind_some h; obtain ⟨x4, hx4, h⟩ := h
  refine Tr.cut (γ := G3) (Γm := fun g => [(3, (pEq (.slice g.1 g.2.1 g.2.2)))]) (Ωm := fun g => [oSl 2 1 (cK .i64) g.1 g.2.1 g.2.2 x4]) ?_ (fun g11 => ?_)
  · clear h
    have h := hx4
    clear hx4
    refine Tr.block ?_
    refine Tr.weak (Γ' := [(3, (pEq (.slice o2 ((p_0.Domains.length : Int)).toNat ((p_0.Domains.length : Int)).toNat))), (10, (pEq (.int .i64 (x1.length : Int)))), (11, (pEq (.int .i64 (0 : Int))))]) ⟨rfl, rfl, rfl, trivial⟩ ?_
    refine Tr.loop (γ := G3) (σ := (Int × (List Int))) (Γσ := fun s g => [(3, (pEq (.slice g.1 g.2.1 g.2.2))), (10, (pEq (.int .i64 (x1.length : Int)))), (11, (pEq (.int .i64 s.1)))]) (Ωσ := fun s g => [oSl 2 1 (cK .i64) g.1 g.2.1 g.2.2 s.2]) (g := (o2, ((p_0.Domains.length : Int)).toNat, ((p_0.Domains.length : Int)).toNat)) h ?_
    clear h
    rintro ⟨v6, v7⟩ g8 t h
    replace h : m_impl_Problem_items_B5 x1 v6 v7 = some t := h
    unfold m_impl_Problem_items_B5 at h
    refine Tr.weakO (Γ' := [(3, (pEq (.slice g8.1 g8.2.1 g8.2.2))), (10, (pEq (.int .i64 (x1.length : Int)))), (11, (pEq (.int .i64 v6)))]) (Ω' := [oSl 2 1 (cK .i64) g8.1 g8.2.1 g8.2.2 v7]) rfl ⟨rfl, rfl, rfl, trivial⟩ ?_
    refine Tr.seq ?_
    refine Tr.region ?_
    refine RegL.pure (p := (pEq (.bool (decide (v6 < (x1.length : Int)))))) rfl rfl rfl (J_bin rfl (Opd.tmp rfl) (Opd.tmp rfl) B_lss) ?_
    refine RegL.nil ?_
    refine Ct.then_tr ?_
    refine Tr.weak (Γ' := [(3, (pEq (.slice g8.1 g8.2.1 g8.2.2))), (10, (pEq (.int .i64 (x1.length : Int)))), (11, (pEq (.int .i64 v6))), (12, (pEq (.bool (decide (v6 < (x1.length : Int))))))]) ⟨rfl, rfl, rfl, rfl, trivial⟩ ?_
    refine Tr.seq ?_
    refine Tr.cond (Opd.tmp rfl) (fun hc => ?_) (fun hc => ?_)
    · replace h := bif_t hc h
      refine Tr.skip ?_
      refine Ct.then_tr ?_
      refine Tr.weak (Γ' := [(3, (pEq (.slice g8.1 g8.2.1 g8.2.2))), (10, (pEq (.int .i64 (x1.length : Int)))), (11, (pEq (.int .i64 v6)))]) ⟨rfl, rfl, rfl, trivial⟩ ?_
      refine Tr.seq ?_
      refine Tr.block ?_
      refine Tr.seq ?_
      refine Tr.region ?_
      refine RegL.pure (p := (pEq (.int .i64 v6))) rfl rfl rfl (J_move rfl (Opd.tmp rfl)) ?_
      refine RegL.pure (p := (pEq (.int .i64 v6))) rfl rfl rfl (J_assign rfl (Opd.tmp rfl)) ?_
      refine RegL.nil ?_
      refine Ct.then_tr ?_
      refine Tr.weak (Γ' := [(3, (pEq (.slice g8.1 g8.2.1 g8.2.2))), (4, (pEq (.int .i64 v6))), (10, (pEq (.int .i64 (x1.length : Int)))), (11, (pEq (.int .i64 v6)))]) ⟨rfl, rfl, rfl, rfl, trivial⟩ ?_
      refine Tr.region ?_
      refine RegL.pure (p := (pEq (.slice g8.1 g8.2.1 g8.2.2))) rfl rfl rfl (J_move rfl (Opd.tmp rfl)) ?_
      refine RegL.pure (p := (pEq (.int .i64 v6))) rfl rfl rfl (J_move rfl (Opd.tmp rfl)) ?_
      refine RegL.pure (p := (pEq (.int .i64 v6))) rfl rfl rfl (J_move rfl (Opd.tmp rfl)) ?_
      replace h := bind_some h; obtain ⟨u9, hu9, h⟩ := h
      refine RegL.pureW (p := (pEq (.pointer (some ⟨blk g8.1, (v6).toNat * 1, none⟩)))) rfl rfl rfl (W_rowIdx (j := 0) rfl Try.underlying26 sz2 (Opd.tmp rfl) (Opd.tmp rfl) rfl (inB_some hu9)) ?_
      refine RegL.stepN (γ := Unit) (p := fun _ => pAny) (Ω' := fun _ => [oSl 2 1 (cK .i64) g8.1 g8.2.1 g8.2.2 (v7.set (v6).toNat v6)]) rfl rfl (M_rowStore rfl sz2 (fun _ => rfl) (Opd.tmp rfl) (Opd.tmp rfl) rfl OneC.int (setL_of (inB_some hu9))) fun g10 => ?_
      refine RegL.nil ?_
      refine Ct.blk_normal ?_
      refine Ct.then_tr ?_
      refine Tr.weak (Γ' := [(3, (pEq (.slice g8.1 g8.2.1 g8.2.2))), (10, (pEq (.int .i64 (x1.length : Int)))), (11, (pEq (.int .i64 v6)))]) ⟨rfl, rfl, rfl, trivial⟩ ?_
      refine Tr.region ?_
      refine RegL.pure (p := (pEq (.int .i64 (w64 (v6 + (1 : Int)))))) rfl rfl rfl (J_bin rfl (Opd.tmp rfl) Opd.con B_add) ?_
      refine RegL.pure (p := (pEq (.int .i64 (w64 (v6 + (1 : Int)))))) rfl rfl rfl (J_move rfl (Opd.tmp rfl)) ?_
      refine RegL.nil ?_
      replace h := Option.some.inj h; subst h
      exact Ct.again (g8.1, g8.2.1, g8.2.2) rfl ⟨rfl, rfl, rfl, trivial⟩
    · replace h := bif_f hc h
      refine Tr.exit ?_
      refine Ct.then_exit ?_
      replace h := map_some h; obtain ⟨r1, h, rfl⟩ := h
      refine Ct.out_exit fun e => ?_
      subst e
      refine Ct.blk_exit ?_
      replace h := Option.some.inj h; subst h
      exact Ct.mid (g8.1, g8.2.1, g8.2.2) rfl ⟨rfl, trivial⟩
  · clear hx4
    refine Ct.then_tr ?_
    refine Tr.weak (Γ' := [(3, (pEq (.slice g11.1 g11.2.1 g11.2.2)))]) ⟨rfl, trivial⟩ ?_
    refine Tr.seq ?_
    refine Tr.region ?_
    refine RegL.pure (p := (pEq (.slice g11.1 g11.2.1 g11.2.2))) rfl rfl rfl (J_move rfl (Opd.tmp rfl)) ?_
    refine RegL.pure (p := (pEq (.slice g11.1 g11.2.1 g11.2.2))) rfl rfl rfl (J_assign rfl (Opd.tmp rfl)) ?_
    refine RegL.nil ?_
    refine Ct.then_tr ?_
    refine Tr.weak (Γ' := [(2, (pEq (.slice g11.1 g11.2.1 g11.2.2)))]) ⟨rfl, trivial⟩ ?_
    refine Tr.ret ?_
    replace h := Option.some.inj h; subst h
    exact Ct.retH1 (Ωx := []) (g11.1, g11.2.1, g11.2.2) rfl (RvOk.tmp rfl) rfl

theorem c_impl_Problem_items {p_0 : GProblem} {r : (List Int)} (h : m_impl_Problem_items p_0 = some r) : CallJ Try.prog 46 [(pAgg (cGProblem p_0))] (pSl 1 (cK .i64) r) :=
  CallH.frozen (o_impl_Problem_items h) (fun g => (Conv.row (f := (cK .i64)) 0 (fun _ => rfl) rfl))

theorem c_slices_Equal_int64_int64 {s1_0 : (List Int)} {s2_1 : (List Int)} {r : Bool} (h : m_slices_Equal_int64_int64 s1_0 s2_1 = some r) : CallJ Try.prog 42 [(pSl 1 (cK .i64) s1_0), (pSl 1 (cK .i64) s2_1)] (pEq (.bool r)) := by
  unfold m_slices_Equal_int64_int64 at h
  refine CallJ.enterH Try.func42 rfl Try.ntmps42 rfl fun W I0 H => ?_
  refine Tr.weak (Γ' := [(0, (pSl 1 (cK .i64) s1_0)), (1, (pSl 1 (cK .i64) s2_1))]) ⟨rfl, rfl, trivial⟩ ?_
  refine Tr.seq ?_
  refine Tr.region ?_
  refine RegL.pure (p := (pEq (.bool false))) rfl rfl rfl (J_assign rfl Opd.con) ?_
  refine RegL.nil ?_
  refine Ct.then_tr ?_
  refine Tr.weak (Γ' := [(0, (pSl 1 (cK .i64) s1_0)), (1, (pSl 1 (cK .i64) s2_1))]) ⟨rfl, rfl, trivial⟩ ?_
  refine Tr.seq ?_
  refine Tr.seq ?_
  refine Tr.region ?_
  refine RegL.pure (p := (pSl 1 (cK .i64) s1_0)) rfl rfl rfl (J_move rfl (Opd.tmp rfl)) ?_
  refine RegL.pure (p := (pEq (.int .i64 (s1_0.length : Int)))) rfl rfl rfl (J_len rfl Try.underlying26 (Opd.tmp rfl) rfl) ?_
  refine RegL.pure (p := (pSl 1 (cK .i64) s2_1)) rfl rfl rfl (J_move rfl (Opd.tmp rfl)) ?_
  refine RegL.pure (p := (pEq (.int .i64 (s2_1.length : Int)))) rfl rfl rfl (J_len rfl Try.underlying26 (Opd.tmp rfl) rfl) ?_
  refine RegL.pure (p := (pEq (.bool ((s1_0.length : Int) != (s2_1.length : Int))))) rfl rfl rfl (J_bin rfl (Opd.tmp rfl) (Opd.tmp rfl) B_neq) ?_
  refine RegL.nil ?_
  refine Ct.then_tr ?_
  refine Tr.weak (Γ' := [(0, (pSl 1 (cK .i64) s1_0)), (1, (pSl 1 (cK .i64) s2_1)), (10, (pEq (.bool ((s1_0.length : Int) != (s2_1.length : Int)))))]) ⟨rfl, rfl, rfl, trivial⟩ ?_
  refine Tr.cond (Opd.tmp rfl) (fun hc => ?_) (fun hc => ?_)
  · replace h := bif_t hc h
    refine Tr.seq ?_
    refine Tr.region ?_
    refine RegL.pure (p := (pEq (.bool false))) rfl rfl rfl (J_assign rfl Opd.con) ?_
    refine RegL.nil ?_
    refine Ct.then_tr ?_
    refine Tr.weak (Γ' := [(4, (pEq (.bool false)))]) ⟨rfl, trivial⟩ ?_
    refine Tr.ret ?_
    refine Ct.then_ret ?_
    replace h := Option.some.inj h; subst h
    exact Ct.retH1 (Ωx := []) () rfl (RvOk.tmp rfl) rfl
  · replace h := bif_f hc h
    refine Tr.skip ?_
    refine Ct.then_tr ?_
    refine Tr.weak (Γ' := [(0, (pSl 1 (cK .i64) s1_0)), (1, (pSl 1 (cK .i64) s2_1))]) ⟨rfl, rfl, trivial⟩ ?_
    refine Tr.seq ?_
    refine Tr.seq ?_
    refine Tr.region ?_
    refine RegL.pure (p := (pSl 1 (cK .i64) s1_0)) rfl rfl rfl (J_move rfl (Opd.tmp rfl)) ?_
    refine RegL.pure (p := (pEq (.int .i64 (s1_0.length : Int)))) rfl rfl rfl (J_len rfl Try.underlying26 (Opd.tmp rfl) rfl) ?_
    refine RegL.pure (p := (pEq (.int .i64 (0 : Int)))) rfl rfl rfl (J_move rfl Opd.con) ?_
    refine RegL.nil ?_
    refine Ct.then_tr ?_
    refine Tr.weak (Γ' := [(0, (pSl 1 (cK .i64) s1_0)), (1, (pSl 1 (cK .i64) s2_1)), (12, (pEq (.int .i64 (s1_0.length : Int)))), (13, (pEq (.int .i64 (0 : Int))))]) ⟨rfl, rfl, rfl, rfl, trivial⟩ ?_
    refine Tr.block ?_
    refine Tr.weak (Γ' := [(0, (pSl 1 (cK .i64) s1_0)), (1, (pSl 1 (cK .i64) s2_1)), (12, (pEq (.int .i64 (s1_0.length : Int)))), (13, (pEq (.int .i64 (0 : Int))))]) ⟨rfl, rfl, rfl, rfl, trivial⟩ ?_
    refine Tr.loop (γ := Unit) (σ := Int) (Γσ := fun s g => [(0, (pSl 1 (cK .i64) s1_0)), (1, (pSl 1 (cK .i64) s2_1)), (12, (pEq (.int .i64 (s1_0.length : Int)))), (13, (pEq (.int .i64 s)))]) (Ωσ := fun s g => []) (g := ()) h ?_
    clear h
    rintro v2 g3 t h
    replace h : m_slices_Equal_int64_int64_B1 s1_0 s2_1 v2 = some t := h
    unfold m_slices_Equal_int64_int64_B1 at h
    refine Tr.weakO (Γ' := [(0, (pSl 1 (cK .i64) s1_0)), (1, (pSl 1 (cK .i64) s2_1)), (12, (pEq (.int .i64 (s1_0.length : Int)))), (13, (pEq (.int .i64 v2)))]) (Ω' := []) rfl ⟨rfl, rfl, rfl, rfl, trivial⟩ ?_
    refine Tr.seq ?_
    refine Tr.region ?_
    refine RegL.pure (p := (pEq (.bool (decide (v2 < (s1_0.length : Int)))))) rfl rfl rfl (J_bin rfl (Opd.tmp rfl) (Opd.tmp rfl) B_lss) ?_
    refine RegL.nil ?_
    refine Ct.then_tr ?_
    refine Tr.weak (Γ' := [(0, (pSl 1 (cK .i64) s1_0)), (1, (pSl 1 (cK .i64) s2_1)), (12, (pEq (.int .i64 (s1_0.length : Int)))), (13, (pEq (.int .i64 v2))), (14, (pEq (.bool (decide (v2 < (s1_0.length : Int))))))]) ⟨rfl, rfl, rfl, rfl, rfl, trivial⟩ ?_
    refine Tr.seq ?_
    refine Tr.cond (Opd.tmp rfl) (fun hc => ?_) (fun hc => ?_)
    · replace h := bif_t hc h
      refine Tr.skip ?_
      refine Ct.then_tr ?_
      refine Tr.weak (Γ' := [(0, (pSl 1 (cK .i64) s1_0)), (1, (pSl 1 (cK .i64) s2_1)), (12, (pEq (.int .i64 (s1_0.length : Int)))), (13, (pEq (.int .i64 v2)))]) ⟨rfl, rfl, rfl, rfl, trivial⟩ ?_
      refine Tr.seq ?_
      refine Tr.block ?_
      refine Tr.seq ?_
      refine Tr.region ?_
      refine RegL.pure (p := (pEq (.int .i64 v2))) rfl rfl rfl (J_move rfl (Opd.tmp rfl)) ?_
      refine RegL.pure (p := (pEq (.int .i64 v2))) rfl rfl rfl (J_assign rfl (Opd.tmp rfl)) ?_
      refine RegL.nil ?_
      refine Ct.then_tr ?_
      refine Tr.weak (Γ' := [(0, (pSl 1 (cK .i64) s1_0)), (1, (pSl 1 (cK .i64) s2_1)), (5, (pEq (.int .i64 v2))), (12, (pEq (.int .i64 (s1_0.length : Int)))), (13, (pEq (.int .i64 v2)))]) ⟨rfl, rfl, rfl, rfl, rfl, trivial⟩ ?_
      refine Tr.seq ?_
      replace h := bind_some h; obtain ⟨x4, hx4, h⟩ := h
      replace h := bind_some h; obtain ⟨x5, hx5, h⟩ := h
      refine Tr.drawD (n := 26) (m := 9) (es := [some (Ent.mk [(0, (pSl 1 (cK .i64) s1_0))] (pSl 1 (cK .i64) s1_0) true), some (Ent.mk [(5, (pEq (.int .i64 v2)))] (pEq (.int .i64 v2)) true), some (Ent.mk [(16, (pSl 1 (cK .i64) s1_0)), (17, (pEq (.int .i64 v2)))] (pPtr ((cK .i64) x4)) true), some (Ent.mk [(18, (pPtr ((cK .i64) x4)))] (pEq (.int .i64 x4)) true), some (Ent.mk [(1, (pSl 1 (cK .i64) s2_1))] (pSl 1 (cK .i64) s2_1) true), some (Ent.mk [(5, (pEq (.int .i64 v2)))] (pEq (.int .i64 v2)) true), some (Ent.mk [(20, (pSl 1 (cK .i64) s2_1)), (21, (pEq (.int .i64 v2)))] (pPtr ((cK .i64) x5)) true), some (Ent.mk [(22, (pPtr ((cK .i64) x5)))] (pEq (.int .i64 x5)) true), some (Ent.mk [(19, (pEq (.int .i64 x4))), (23, (pEq (.int .i64 x5)))] (pEq (.bool (x4 != x5))) true)]) (rd := [[0], [5], [16, 17], [18], [1], [5], [20, 21], [22], [19, 23]]) rfl hmix (by kernel_rfl) fun hD => ?_
      refine RD.fin (es := [Ent.mk [(0, (pSl 1 (cK .i64) s1_0))] (pSl 1 (cK .i64) s1_0) true, Ent.mk [(5, (pEq (.int .i64 v2)))] (pEq (.int .i64 v2)) true, Ent.mk [(16, (pSl 1 (cK .i64) s1_0)), (17, (pEq (.int .i64 v2)))] (pPtr ((cK .i64) x4)) true, Ent.mk [(18, (pPtr ((cK .i64) x4)))] (pEq (.int .i64 x4)) true, Ent.mk [(1, (pSl 1 (cK .i64) s2_1))] (pSl 1 (cK .i64) s2_1) true, Ent.mk [(5, (pEq (.int .i64 v2)))] (pEq (.int .i64 v2)) true, Ent.mk [(20, (pSl 1 (cK .i64) s2_1)), (21, (pEq (.int .i64 v2)))] (pPtr ((cK .i64) x5)) true, Ent.mk [(22, (pPtr ((cK .i64) x5)))] (pEq (.int .i64 x5)) true, Ent.mk [(19, (pEq (.int .i64 x4))), (23, (pEq (.int .i64 x5)))] (pEq (.bool (x4 != x5))) true]) (done := []) hD ⟨.inr ⟨(OpJ.w (J_move rfl (Opd.tmp rfl))), ⟨rfl, trivial⟩, rfl, rfl⟩, ⟨.inr ⟨(OpJ.w (J_move rfl (Opd.tmp rfl))), ⟨rfl, trivial⟩, rfl, rfl⟩, ⟨.inr ⟨(OpJ.w (J_idx rfl Try.underlying26 sz2 (Opd.tmp rfl) (Opd.tmp rfl) hx4)), ⟨rfl, rfl, trivial⟩, rfl, rfl⟩, ⟨.inr ⟨(OpJ.w (J_load rfl Try.isAgg2 (Opd.tmp rfl))), ⟨rfl, trivial⟩, rfl, rfl⟩, ⟨.inr ⟨(OpJ.w (J_move rfl (Opd.tmp rfl))), ⟨rfl, trivial⟩, rfl, rfl⟩, ⟨.inr ⟨(OpJ.w (J_move rfl (Opd.tmp rfl))), ⟨rfl, trivial⟩, rfl, rfl⟩, ⟨.inr ⟨(OpJ.w (J_idx rfl Try.underlying26 sz2 (Opd.tmp rfl) (Opd.tmp rfl) hx5)), ⟨rfl, rfl, trivial⟩, rfl, rfl⟩, ⟨.inr ⟨(OpJ.w (J_load rfl Try.isAgg2 (Opd.tmp rfl))), ⟨rfl, trivial⟩, rfl, rfl⟩, ⟨.inr ⟨(OpJ.w (J_bin rfl (Opd.tmp rfl) (Opd.tmp rfl) B_neq)), ⟨rfl, rfl, trivial⟩, rfl, rfl⟩, trivial⟩⟩⟩⟩⟩⟩⟩⟩⟩ ?_
      refine RegL.nil ?_
      refine Ct.then_tr ?_
      refine Tr.weak (Γ' := [(0, (pSl 1 (cK .i64) s1_0)), (1, (pSl 1 (cK .i64) s2_1)), (12, (pEq (.int .i64 (s1_0.length : Int)))), (13, (pEq (.int .i64 v2))), (24, (pEq (.bool (x4 != x5))))]) ⟨rfl, rfl, rfl, rfl, rfl, trivial⟩ ?_
      refine Tr.cond (Opd.tmp rfl) (fun hc => ?_) (fun hc => ?_)
      · replace h := bif_t hc h
        refine Tr.seq ?_
        refine Tr.region ?_
        refine RegL.pure (p := (pEq (.bool false))) rfl rfl rfl (J_assign rfl Opd.con) ?_
        refine RegL.nil ?_
        refine Ct.then_tr ?_
        refine Tr.weak (Γ' := [(4, (pEq (.bool false)))]) ⟨rfl, trivial⟩ ?_
        refine Tr.ret ?_
        refine Ct.blk_ret ?_
        refine Ct.then_ret ?_
        replace h := map_some h; obtain ⟨r1, h, rfl⟩ := h
        refine Ct.out_ret fun e => ?_
        subst e
        refine Ct.blk_ret ?_
        refine Ct.then_ret ?_
        replace h := Option.some.inj h; subst h
        exact Ct.retH1 (Ωx := []) () rfl (RvOk.tmp rfl) rfl
      · replace h := bif_f hc h
        refine Tr.skip ?_
        refine Ct.blk_normal ?_
        refine Ct.then_tr ?_
        refine Tr.weak (Γ' := [(0, (pSl 1 (cK .i64) s1_0)), (1, (pSl 1 (cK .i64) s2_1)), (12, (pEq (.int .i64 (s1_0.length : Int)))), (13, (pEq (.int .i64 v2)))]) ⟨rfl, rfl, rfl, rfl, trivial⟩ ?_
        refine Tr.region ?_
        refine RegL.pure (p := (pEq (.int .i64 (w64 (v2 + (1 : Int)))))) rfl rfl rfl (J_bin rfl (Opd.tmp rfl) Opd.con B_add) ?_
        refine RegL.pure (p := (pEq (.int .i64 (w64 (v2 + (1 : Int)))))) rfl rfl rfl (J_move rfl (Opd.tmp rfl)) ?_
        refine RegL.nil ?_
        replace h := Option.some.inj h; subst h
        exact Ct.again () rfl ⟨rfl, rfl, rfl, rfl, trivial⟩
    · replace h := bif_f hc h
      refine Tr.exit ?_
      refine Ct.then_exit ?_
      replace h := map_some h; obtain ⟨r1, h, rfl⟩ := h
      refine Ct.out_exit fun e => ?_
      subst e
      refine Ct.blk_exit ?_
      refine Ct.then_tr ?_
      refine Tr.weak (Γ' := []) trivial ?_
      refine Tr.seq ?_
      refine Tr.region ?_
      refine RegL.pure (p := (pEq (.bool true))) rfl rfl rfl (J_assign rfl Opd.con) ?_
      refine RegL.nil ?_
      refine Ct.then_tr ?_
      refine Tr.weak (Γ' := [(4, (pEq (.bool true)))]) ⟨rfl, trivial⟩ ?_
      refine Tr.ret ?_
      replace h := Option.some.inj h; subst h
      exact Ct.retH1 (Ωx := []) () rfl (RvOk.tmp rfl) rfl

theorem c_math_bits_Mul64 {x_0 : Int} {y_1 : Int} {r : (Int × Int)} (h : m_math_bits_Mul64 x_0 y_1 = some r) : CallJ Try.prog 121 [(pEq (.int .u64 x_0)), (pEq (.int .u64 y_1))] (pTup [(pEq (.int .u64 r.1)), (pEq (.int .u64 r.2))]) := by
  unfold m_math_bits_Mul64 at h
  refine CallJ.enterH Try.func121 rfl Try.ntmps121 rfl fun W I0 H => ?_
  refine Tr.weak (Γ' := [(0, (pEq (.int .u64 x_0))), (1, (pEq (.int .u64 y_1)))]) ⟨rfl, rfl, trivial⟩ ?_
  refine Tr.seq ?_
  refine Tr.region ?_
  refine RegL.pure (p := (pEq (.int .u64 (0 : Int)))) rfl rfl rfl (J_assign rfl Opd.con) ?_
  refine RegL.pure (p := (pEq (.int .u64 (0 : Int)))) rfl rfl rfl (J_assign rfl Opd.con) ?_
  refine RegL.nil ?_
  refine Ct.then_tr ?_
  refine Tr.weak (Γ' := [(0, (pEq (.int .u64 x_0))), (1, (pEq (.int .u64 y_1)))]) ⟨rfl, rfl, trivial⟩ ?_
  refine Tr.seq ?_
  refine Tr.region ?_
  refine RegL.pure (p := (pEq (.int .u64 x_0))) rfl rfl rfl (J_move rfl (Opd.tmp rfl)) ?_
  replace h := bind_some h; obtain ⟨x1, hx1, h⟩ := h
  refine RegL.pure (p := (pEq (.int .u64 x1))) rfl rfl rfl (J_bin rfl (Opd.tmp rfl) Opd.con (B_bitand hx1)) ?_
  refine RegL.pure (p := (pEq (.int .u64 x1))) rfl rfl rfl (J_assign rfl (Opd.tmp rfl)) ?_
  refine RegL.nil ?_
  refine Ct.then_tr ?_
  refine Tr.weak (Γ' := [(0, (pEq (.int .u64 x_0))), (1, (pEq (.int .u64 y_1))), (6, (pEq (.int .u64 x1)))]) ⟨rfl, rfl, rfl, trivial⟩ ?_
  refine Tr.seq ?_
  refine Tr.region ?_
  refine RegL.pure (p := (pEq (.int .u64 x_0))) rfl rfl rfl (J_move rfl (Opd.tmp rfl)) ?_
  replace h := bind_some h; obtain ⟨x2, hx2, h⟩ := h
  refine RegL.pure (p := (pEq (.int .u64 x2))) rfl rfl rfl (J_bin rfl (Opd.tmp rfl) Opd.con (B_bitshr hx2)) ?_
  refine RegL.pure (p := (pEq (.int .u64 x2))) rfl rfl rfl (J_assign rfl (Opd.tmp rfl)) ?_
  refine RegL.nil ?_
  refine Ct.then_tr ?_
  refine Tr.weak (Γ' := [(0, (pEq (.int .u64 x_0))), (1, (pEq (.int .u64 y_1))), (6, (pEq (.int .u64 x1))), (7, (pEq (.int .u64 x2)))]) ⟨rfl, rfl, rfl, rfl, trivial⟩ ?_
  refine Tr.seq ?_
  refine Tr.region ?_
  refine RegL.pure (p := (pEq (.int .u64 y_1))) rfl rfl rfl (J_move rfl (Opd.tmp rfl)) ?_
  replace h := bind_some h; obtain ⟨x3, hx3, h⟩ := h
  refine RegL.pure (p := (pEq (.int .u64 x3))) rfl rfl rfl (J_bin rfl (Opd.tmp rfl) Opd.con (B_bitand hx3)) ?_
  refine RegL.pure (p := (pEq (.int .u64 x3))) rfl rfl rfl (J_assign rfl (Opd.tmp rfl)) ?_
  refine RegL.nil ?_
  refine Ct.then_tr ?_
  refine Tr.weak (Γ' := [(0, (pEq (.int .u64 x_0))), (1, (pEq (.int .u64 y_1))), (6, (pEq (.int .u64 x1))), (7, (pEq (.int .u64 x2))), (8, (pEq (.int .u64 x3)))]) ⟨rfl, rfl, rfl, rfl, rfl, trivial⟩ ?_
  refine Tr.seq ?_
  refine Tr.region ?_
  refine RegL.pure (p := (pEq (.int .u64 y_1))) rfl rfl rfl (J_move rfl (Opd.tmp rfl)) ?_
  replace h := bind_some h; obtain ⟨x4, hx4, h⟩ := h
  refine RegL.pure (p := (pEq (.int .u64 x4))) rfl rfl rfl (J_bin rfl (Opd.tmp rfl) Opd.con (B_bitshr hx4)) ?_
  refine RegL.pure (p := (pEq (.int .u64 x4))) rfl rfl rfl (J_assign rfl (Opd.tmp rfl)) ?_
  refine RegL.nil ?_
  refine Ct.then_tr ?_
  refine Tr.weak (Γ' := [(0, (pEq (.int .u64 x_0))), (1, (pEq (.int .u64 y_1))), (6, (pEq (.int .u64 x1))), (7, (pEq (.int .u64 x2))), (8, (pEq (.int .u64 x3))), (9, (pEq (.int .u64 x4)))]) ⟨rfl, rfl, rfl, rfl, rfl, rfl, trivial⟩ ?_
  refine Tr.seq ?_
  refine Tr.region ?_
  refine RegL.pure (p := (pEq (.int .u64 x1))) rfl rfl rfl (J_move rfl (Opd.tmp rfl)) ?_
  refine RegL.pure (p := (pEq (.int .u64 x3))) rfl rfl rfl (J_move rfl (Opd.tmp rfl)) ?_
  refine RegL.pure (p := (pEq (.int .u64 (IntKind.wrap .u64 (x1 * x3))))) rfl rfl rfl (J_bin rfl (Opd.tmp rfl) (Opd.tmp rfl) B_mul) ?_
  refine RegL.pure (p := (pEq (.int .u64 (IntKind.wrap .u64 (x1 * x3))))) rfl rfl rfl (J_assign rfl (Opd.tmp rfl)) ?_
  refine RegL.nil ?_
  refine Ct.then_tr ?_
  refine Tr.weak (Γ' := [(0, (pEq (.int .u64 x_0))), (1, (pEq (.int .u64 y_1))), (6, (pEq (.int .u64 x1))), (7, (pEq (.int .u64 x2))), (8, (pEq (.int .u64 x3))), (9, (pEq (.int .u64 x4))), (10, (pEq (.int .u64 (IntKind.wrap .u64 (x1 * x3)))))]) ⟨rfl, rfl, rfl, rfl, rfl, rfl, rfl, trivial⟩ ?_
  refine Tr.seq ?_
  refine Tr.region ?_
  refine RegL.pure (p := (pEq (.int .u64 x2))) rfl rfl rfl (J_move rfl (Opd.tmp rfl)) ?_
  refine RegL.pure (p := (pEq (.int .u64 x3))) rfl rfl rfl (J_move rfl (Opd.tmp rfl)) ?_
  refine RegL.pure (p := (pEq (.int .u64 (IntKind.wrap .u64 (x2 * x3))))) rfl rfl rfl (J_bin rfl (Opd.tmp rfl) (Opd.tmp rfl) B_mul) ?_
  refine RegL.pure (p := (pEq (.int .u64 (IntKind.wrap .u64 (x1 * x3))))) rfl rfl rfl (J_move rfl (Opd.tmp rfl)) ?_
  replace h := bind_some h; obtain ⟨x5, hx5, h⟩ := h
  refine RegL.pure (p := (pEq (.int .u64 x5))) rfl rfl rfl (J_bin rfl (Opd.tmp rfl) Opd.con (B_bitshr hx5)) ?_
  refine RegL.pure (p := (pEq (.int .u64 (IntKind.wrap .u64 ((IntKind.wrap .u64 (x2 * x3)) + x5))))) rfl rfl rfl (J_bin rfl (Opd.tmp rfl) (Opd.tmp rfl) B_add) ?_
  refine RegL.pure (p := (pEq (.int .u64 (IntKind.wrap .u64 ((IntKind.wrap .u64 (x2 * x3)) + x5))))) rfl rfl rfl (J_assign rfl (Opd.tmp rfl)) ?_
  refine RegL.nil ?_
  refine Ct.then_tr ?_
  refine Tr.weak (Γ' := [(0, (pEq (.int .u64 x_0))), (1, (pEq (.int .u64 y_1))), (6, (pEq (.int .u64 x1))), (7, (pEq (.int .u64 x2))), (9, (pEq (.int .u64 x4))), (11, (pEq (.int .u64 (IntKind.wrap .u64 ((IntKind.wrap .u64 (x2 * x3)) + x5)))))]) ⟨rfl, rfl, rfl, rfl, rfl, rfl, trivial⟩ ?_
  refine Tr.seq ?_
  refine Tr.region ?_
  refine RegL.pure (p := (pEq (.int .u64 (IntKind.wrap .u64 ((IntKind.wrap .u64 (x2 * x3)) + x5))))) rfl rfl rfl (J_move rfl (Opd.tmp rfl)) ?_
  replace h := bind_some h; obtain ⟨x6, hx6, h⟩ := h
  refine RegL.pure (p := (pEq (.int .u64 x6))) rfl rfl rfl (J_bin rfl (Opd.tmp rfl) Opd.con (B_bitand hx6)) ?_
  refine RegL.pure (p := (pEq (.int .u64 x6))) rfl rfl rfl (J_assign rfl (Opd.tmp rfl)) ?_
  refine RegL.nil ?_
  refine Ct.then_tr ?_
  refine Tr.weak (Γ' := [(0, (pEq (.int .u64 x_0))), (1, (pEq (.int .u64 y_1))), (6, (pEq (.int .u64 x1))), (7, (pEq (.int .u64 x2))), (9, (pEq (.int .u64 x4))), (11, (pEq (.int .u64 (IntKind.wrap .u64 ((IntKind.wrap .u64 (x2 * x3)) + x5))))), (12, (pEq (.int .u64 x6)))]) ⟨rfl, rfl, rfl, rfl, rfl, rfl, rfl, trivial⟩ ?_
  refine Tr.seq ?_
  refine Tr.region ?_
  refine RegL.pure (p := (pEq (.int .u64 (IntKind.wrap .u64 ((IntKind.wrap .u64 (x2 * x3)) + x5))))) rfl rfl rfl (J_move rfl (Opd.tmp rfl)) ?_
  replace h := bind_some h; obtain ⟨x7, hx7, h⟩ := h
  refine RegL.pure (p := (pEq (.int .u64 x7))) rfl rfl rfl (J_bin rfl (Opd.tmp rfl) Opd.con (B_bitshr hx7)) ?_
  refine RegL.pure (p := (pEq (.int .u64 x7))) rfl rfl rfl (J_assign rfl (Opd.tmp rfl)) ?_
  refine RegL.nil ?_
  refine Ct.then_tr ?_
  refine Tr.weak (Γ' := [(0, (pEq (.int .u64 x_0))), (1, (pEq (.int .u64 y_1))), (6, (pEq (.int .u64 x1))), (7, (pEq (.int .u64 x2))), (9, (pEq (.int .u64 x4))), (12, (pEq (.int .u64 x6))), (13, (pEq (.int .u64 x7)))]) ⟨rfl, rfl, rfl, rfl, rfl, rfl, rfl, trivial⟩ ?_
  refine Tr.seq ?_
  refine Tr.region ?_
  refine RegL.pure (p := (pEq (.int .u64 x6))) rfl rfl rfl (J_move rfl (Opd.tmp rfl)) ?_
  refine RegL.pure (p := (pEq (.int .u64 x1))) rfl rfl rfl (J_move rfl (Opd.tmp rfl)) ?_
  refine RegL.pure (p := (pEq (.int .u64 x4))) rfl rfl rfl (J_move rfl (Opd.tmp rfl)) ?_
  refine RegL.pure (p := (pEq (.int .u64 (IntKind.wrap .u64 (x1 * x4))))) rfl rfl rfl (J_bin rfl (Opd.tmp rfl) (Opd.tmp rfl) B_mul) ?_
  refine RegL.pure (p := (pEq (.int .u64 (IntKind.wrap .u64 (x6 + (IntKind.wrap .u64 (x1 * x4))))))) rfl rfl rfl (J_bin rfl (Opd.tmp rfl) (Opd.tmp rfl) B_add) ?_
  refine RegL.pure (p := (pEq (.int .u64 (IntKind.wrap .u64 (x6 + (IntKind.wrap .u64 (x1 * x4))))))) rfl rfl rfl (J_assign rfl (Opd.tmp rfl)) ?_
  refine RegL.nil ?_
  refine Ct.then_tr ?_
  refine Tr.weak (Γ' := [(0, (pEq (.int .u64 x_0))), (1, (pEq (.int .u64 y_1))), (7, (pEq (.int .u64 x2))), (9, (pEq (.int .u64 x4))), (12, (pEq (.int .u64 (IntKind.wrap .u64 (x6 + (IntKind.wrap .u64 (x1 * x4))))))), (13, (pEq (.int .u64 x7)))]) ⟨rfl, rfl, rfl, rfl, rfl, rfl, trivial⟩ ?_
  refine Tr.seq ?_
  refine Tr.region ?_
  refine RegL.pure (p := (pEq (.int .u64 x2))) rfl rfl rfl (J_move rfl (Opd.tmp rfl)) ?_
  refine RegL.pure (p := (pEq (.int .u64 x4))) rfl rfl rfl (J_move rfl (Opd.tmp rfl)) ?_
  refine RegL.pure (p := (pEq (.int .u64 (IntKind.wrap .u64 (x2 * x4))))) rfl rfl rfl (J_bin rfl (Opd.tmp rfl) (Opd.tmp rfl) B_mul) ?_
  refine RegL.pure (p := (pEq (.int .u64 x7))) rfl rfl rfl (J_move rfl (Opd.tmp rfl)) ?_
  refine RegL.pure (p := (pEq (.int .u64 (IntKind.wrap .u64 ((IntKind.wrap .u64 (x2 * x4)) + x7))))) rfl rfl rfl (J_bin rfl (Opd.tmp rfl) (Opd.tmp rfl) B_add) ?_
  refine RegL.pure (p := (pEq (.int .u64 (IntKind.wrap .u64 (x6 + (IntKind.wrap .u64 (x1 * x4))))))) rfl rfl rfl (J_move rfl (Opd.tmp rfl)) ?_
  replace h := bind_some h; obtain ⟨x8, hx8, h⟩ := h
  refine RegL.pure (p := (pEq (.int .u64 x8))) rfl rfl rfl (J_bin rfl (Opd.tmp rfl) Opd.con (B_bitshr hx8)) ?_
  refine RegL.pure (p := (pEq (.int .u64 (IntKind.wrap .u64 ((IntKind.wrap .u64 ((IntKind.wrap .u64 (x2 * x4)) + x7)) + x8))))) rfl rfl rfl (J_bin rfl (Opd.tmp rfl) (Opd.tmp rfl) B_add) ?_
  refine RegL.pure (p := (pEq (.int .u64 (IntKind.wrap .u64 ((IntKind.wrap .u64 ((IntKind.wrap .u64 (x2 * x4)) + x7)) + x8))))) rfl rfl rfl (J_assign rfl (Opd.tmp rfl)) ?_
  refine RegL.nil ?_
  refine Ct.then_tr ?_
  refine Tr.weak (Γ' := [(0, (pEq (.int .u64 x_0))), (1, (pEq (.int .u64 y_1))), (4, (pEq (.int .u64 (IntKind.wrap .u64 ((IntKind.wrap .u64 ((IntKind.wrap .u64 (x2 * x4)) + x7)) + x8)))))]) ⟨rfl, rfl, rfl, trivial⟩ ?_
  refine Tr.seq ?_
  refine Tr.region ?_
  refine RegL.pure (p := (pEq (.int .u64 x_0))) rfl rfl rfl (J_move rfl (Opd.tmp rfl)) ?_
  refine RegL.pure (p := (pEq (.int .u64 y_1))) rfl rfl rfl (J_move rfl (Opd.tmp rfl)) ?_
  refine RegL.pure (p := (pEq (.int .u64 (IntKind.wrap .u64 (x_0 * y_1))))) rfl rfl rfl (J_bin rfl (Opd.tmp rfl) (Opd.tmp rfl) B_mul) ?_
  refine RegL.pure (p := (pEq (.int .u64 (IntKind.wrap .u64 (x_0 * y_1))))) rfl rfl rfl (J_assign rfl (Opd.tmp rfl)) ?_
  refine RegL.nil ?_
  refine Ct.then_tr ?_
  refine Tr.weak (Γ' := [(4, (pEq (.int .u64 (IntKind.wrap .u64 ((IntKind.wrap .u64 ((IntKind.wrap .u64 (x2 * x4)) + x7)) + x8))))), (5, (pEq (.int .u64 (IntKind.wrap .u64 (x_0 * y_1)))))]) ⟨rfl, rfl, trivial⟩ ?_
  refine Tr.ret ?_
  replace h := Option.some.inj h; subst h
  exact Ct.retH2 (Ωx := []) () rfl (RvOk.tmp rfl) (RvOk.tmp rfl) rfl rfl

theorem c_math_bits_Mul {x_0 : Int} {y_1 : Int} {r : (Int × Int)} (h : m_math_bits_Mul x_0 y_1 = some r) : CallJ Try.prog 99 [(pEq (.int .u64 x_0)), (pEq (.int .u64 y_1))] (pTup [(pEq (.int .u64 r.1)), (pEq (.int .u64 r.2))]) := by
  unfold m_math_bits_Mul at h
  refine CallJ.enterH Try.func99 rfl Try.ntmps99 rfl fun W I0 H => ?_
  refine Tr.weak (Γ' := [(0, (pEq (.int .u64 x_0))), (1, (pEq (.int .u64 y_1)))]) ⟨rfl, rfl, trivial⟩ ?_
  refine Tr.seq ?_
  refine Tr.region ?_
  refine RegL.pure (p := (pEq (.int .u64 (0 : Int)))) rfl rfl rfl (J_assign rfl Opd.con) ?_
  refine RegL.pure (p := (pEq (.int .u64 (0 : Int)))) rfl rfl rfl (J_assign rfl Opd.con) ?_
  refine RegL.nil ?_
  refine Ct.then_tr ?_
  refine Tr.weak (Γ' := [(0, (pEq (.int .u64 x_0))), (1, (pEq (.int .u64 y_1)))]) ⟨rfl, rfl, trivial⟩ ?_
  refine Tr.seq ?_
  refine Tr.cond_f Opd.con rfl ?_
  refine Tr.skip ?_
  refine Ct.then_tr ?_
  refine Tr.weak (Γ' := [(0, (pEq (.int .u64 x_0))), (1, (pEq (.int .u64 y_1)))]) ⟨rfl, rfl, trivial⟩ ?_
  refine Tr.seq ?_
  refine Tr.region ?_
  refine RegL.pure (p := (pEq (.int .u64 x_0))) rfl rfl rfl (J_move rfl (Opd.tmp rfl)) ?_
  refine RegL.pure (p := (pEq (.int .u64 y_1))) rfl rfl rfl (J_move rfl (Opd.tmp rfl)) ?_
  replace h := bind_some h; obtain ⟨x1, hx1, h⟩ := h
  refine RegL.pure (p := (pTup [(pEq (.int .u64 x1.1)), (pEq (.int .u64 x1.2))])) rfl rfl rfl (J_call rfl Try.call121 (c_math_bits_Mul64 hx1) (Opds.cons (Opd.tmp rfl) (Opds.cons (Opd.tmp rfl) Opds.nil))) ?_
  refine RegL.pure (p := (pTup [(pEq (.int .u64 x1.1)), (pEq (.int .u64 x1.2))])) rfl rfl rfl (J_move rfl (Opd.tmp rfl)) ?_
  refine RegL.pure (p := (pEq (.int .u64 x1.1))) rfl rfl rfl (J_extract rfl (Opd.tmp rfl) rfl) ?_
  refine RegL.pure (p := (pEq (.int .u64 x1.2))) rfl rfl rfl (J_extract rfl (Opd.tmp rfl) rfl) ?_
  refine RegL.pure (p := (pEq (.int .u64 x1.1))) rfl rfl rfl (J_assign rfl (Opd.tmp rfl)) ?_
  refine RegL.pure (p := (pEq (.int .u64 x1.2))) rfl rfl rfl (J_assign rfl (Opd.tmp rfl)) ?_
  refine RegL.nil ?_
  refine Ct.then_tr ?_
  refine Tr.weak (Γ' := [(8, (pEq (.int .u64 x1.1))), (9, (pEq (.int .u64 x1.2)))]) ⟨rfl, rfl, trivial⟩ ?_
  refine Tr.seq ?_
  refine Tr.region ?_
  refine RegL.pure (p := (pEq (.int .u64 x1.1))) rfl rfl rfl (J_move rfl (Opd.tmp rfl)) ?_
  refine RegL.pure (p := (pEq (.int .u64 x1.2))) rfl rfl rfl (J_move rfl (Opd.tmp rfl)) ?_
  refine RegL.pure (p := (pEq (.int .u64 x1.1))) rfl rfl rfl (J_assign rfl (Opd.tmp rfl)) ?_
  refine RegL.pure (p := (pEq (.int .u64 x1.2))) rfl rfl rfl (J_assign rfl (Opd.tmp rfl)) ?_
  refine RegL.nil ?_
  refine Ct.then_tr ?_
  refine Tr.weak (Γ' := [(4, (pEq (.int .u64 x1.1))), (5, (pEq (.int .u64 x1.2)))]) ⟨rfl, rfl, trivial⟩ ?_
  refine Tr.ret ?_
  replace h := Option.some.inj h; subst h
  exact Ct.retH2 (Ωx := []) () rfl (RvOk.tmp rfl) (RvOk.tmp rfl) rfl rfl

theorem o_slices_Repeat_int64_int64 {x_0 : (List Int)} {count_1 : Int}  {r : (List Int)} (h : m_slices_Repeat_int64_int64 x_0 count_1 = some r) : CallH Try.prog 75 [(pSl 1 (cK .i64) x_0), (pEq (.int .i64 count_1))] [] (fun g : G3 => (pEq (.slice g.1 g.2.1 g.2.2))) (fun g : G3 => [oSl 2 1 (cK .i64) g.1 g.2.1 g.2.2 r]) := by
  unfold m_slices_Repeat_int64_int64 at h
  refine CallH.enter Try.func75 rfl Try.ntmps75 rfl fun W I0 H => ?_
  refine Tr.weak (Γ' := [(0, (pSl 1 (cK .i64) x_0)), (1, (pEq (.int .i64 count_1)))]) ⟨rfl, rfl, trivial⟩ ?_
  refine Tr.seq ?_
  refine Tr.region ?_
  refine RegL.pure (p := (pEq (.slice none 0 0))) rfl rfl rfl (J_assign rfl Opd.con) ?_
  refine RegL.nil ?_
  refine Ct.then_tr ?_
  refine Tr.weak (Γ' := [(0, (pSl 1 (cK .i64) x_0)), (1, (pEq (.int .i64 count_1)))]) ⟨rfl, rfl, trivial⟩ ?_
  refine Tr.seq ?_
  refine Tr.seq ?_
  refine Tr.region ?_
  refine RegL.pure (p := (pEq (.int .i64 count_1))) rfl rfl rfl (J_move rfl (Opd.tmp rfl)) ?_
  refine RegL.pure (p := (pEq (.bool (decide (count_1 < (0 : Int)))))) rfl rfl rfl (J_bin rfl (Opd.tmp rfl) Opd.con B_lss) ?_
  refine RegL.nil ?_
  refine Ct.then_tr ?_
  refine Tr.weak (Γ' := [(0, (pSl 1 (cK .i64) x_0)), (1, (pEq (.int .i64 count_1))), (10, (pEq (.bool (decide (count_1 < (0 : Int))))))]) ⟨rfl, rfl, rfl, trivial⟩ ?_
  replace h := bind_some h; obtain ⟨x1, hx1, h⟩ := h
  refine Tr.cut (γ := Unit) (Γm := fun g => [(0, (pSl 1 (cK .i64) x_0)), (1, (pEq (.int .i64 count_1)))]) (Ωm := fun g => []) ?_ (fun g2 => ?_)
  · clear h
    have h := hx1
    clear hx1
    refine Tr.cond (Opd.tmp rfl) (fun hc => ?_) (fun hc => ?_)
    · replace h := bif_t hc h
      refine Tr.region ?_
      exact absurd h (by simp)
    · replace h := bif_f hc h
      refine Tr.skip ?_
      replace h := Option.some.inj h; subst h
      exact Ct.mid () rfl ⟨rfl, rfl, trivial⟩
  · clear hx1
    refine Ct.then_tr ?_
    refine Tr.weak (Γ' := [(0, (pSl 1 (cK .i64) x_0)), (1, (pEq (.int .i64 count_1)))]) ⟨rfl, rfl, trivial⟩ ?_
    refine Tr.seq ?_
    refine Tr.region ?_
    refine RegL.pure (p := (pSl 1 (cK .i64) x_0)) rfl rfl rfl (J_move rfl (Opd.tmp rfl)) ?_
    refine RegL.pure (p := (pEq (.int .i64 (x_0.length : Int)))) rfl rfl rfl (J_len rfl Try.underlying26 (Opd.tmp rfl) rfl) ?_
    refine RegL.pure (p := (pEq (.int .u64 (IntKind.wrap .u64 ((x_0.length : Int)))))) rfl rfl rfl (J_conv rfl Try.underlying3 Try.underlying92 (Opd.tmp rfl)) ?_
    refine RegL.pure (p := (pEq (.int .i64 count_1))) rfl rfl rfl (J_move rfl (Opd.tmp rfl)) ?_
    refine RegL.pure (p := (pEq (.int .u64 (IntKind.wrap .u64 (count_1))))) rfl rfl rfl (J_conv rfl Try.underlying3 Try.underlying92 (Opd.tmp rfl)) ?_
    replace h := bind_some h; obtain ⟨x3, hx3, h⟩ := h
    refine RegL.pure (p := (pTup [(pEq (.int .u64 x3.1)), (pEq (.int .u64 x3.2))])) rfl rfl rfl (J_call rfl Try.call99 (c_math_bits_Mul hx3) (Opds.cons (Opd.tmp rfl) (Opds.cons (Opd.tmp rfl) Opds.nil))) ?_
    refine RegL.pure (p := (pTup [(pEq (.int .u64 x3.1)), (pEq (.int .u64 x3.2))])) rfl rfl rfl (J_move rfl (Opd.tmp rfl)) ?_
    refine RegL.pure (p := (pEq (.int .u64 x3.1))) rfl rfl rfl (J_extract rfl (Opd.tmp rfl) rfl) ?_
    refine RegL.pure (p := (pEq (.int .u64 x3.2))) rfl rfl rfl (J_extract rfl (Opd.tmp rfl) rfl) ?_
    refine RegL.pure (p := (pEq (.int .u64 x3.1))) rfl rfl rfl (J_assign rfl (Opd.tmp rfl)) ?_
    refine RegL.pure (p := (pEq (.int .u64 x3.2))) rfl rfl rfl (J_assign rfl (Opd.tmp rfl)) ?_
    refine RegL.nil ?_
    refine Ct.then_tr ?_
    refine Tr.weak (Γ' := [(0, (pSl 1 (cK .i64) x_0)), (5, (pEq (.int .u64 x3.1))), (6, (pEq (.int .u64 x3.2)))]) ⟨rfl, rfl, rfl, trivial⟩ ?_
    refine Tr.seq ?_
    refine Tr.seq ?_
    replace h := bind_some h; obtain ⟨x4, hx4, h⟩ := h
    refine Tr.cut (γ := Unit) (Γm := fun g => [(0, (pSl 1 (cK .i64) x_0)), (6, (pEq (.int .u64 x3.2))), (26, (pEq (.bool x4)))]) (Ωm := fun g => []) ?_ (fun g6 => ?_)
    · clear h
      have h := hx4
      clear hx4
      refine Tr.region ?_
      refine RegL.pure (p := (pEq (.int .u64 x3.1))) rfl rfl rfl (J_move rfl (Opd.tmp rfl)) ?_
      refine RegL.pure (p := (pEq (.bool (decide ((0 : Int) < x3.1))))) rfl rfl rfl (J_bin rfl (Opd.tmp rfl) Opd.con B_gtr) ?_
      refine RegL.pure (p := (pEq (.bool (decide ((0 : Int) < x3.1))))) rfl rfl rfl (J_move rfl (Opd.tmp rfl)) ?_
      rcases Bool.eq_false_or_eq_true (decide ((0 : Int) < x3.1)) with hc5 | hc5
      · replace h := bif_t hc5 h
        refine RegL.skipG rfl rfl rfl hc5 rfl rfl ?_
        refine RegL.skipG rfl rfl rfl hc5 rfl rfl ?_
        refine RegL.pure (p := (pEq (.bool true))) rfl rfl rfl (J_pick rfl (Opd.tmp rfl) (fun _ => Opd.con) (fun hf => absurd (hc5.symm.trans hf) (by decide))) ?_
        refine RegL.nil ?_
        replace h := Option.some.inj h; subst h
        exact Ct.mid () rfl ⟨rfl, rfl, rfl, trivial⟩
      · replace h := bif_f hc5 h
        refine RegL.pureG (p := (pEq (.int .u64 x3.2))) rfl rfl rfl hc5 rfl rfl (J_move rfl (Opd.tmp rfl)) ?_
        refine RegL.pureG (p := (pEq (.bool (decide ((9223372036854775807 : Int) < x3.2))))) rfl rfl rfl hc5 rfl rfl (J_bin rfl (Opd.tmp rfl) Opd.con B_gtr) ?_
        refine RegL.pure (p := (pEq (.bool (decide ((9223372036854775807 : Int) < x3.2))))) rfl rfl rfl (J_pick rfl (Opd.tmp rfl) (fun hf => absurd (hc5.symm.trans hf) (by decide)) (fun _ => (Opd.tmp rfl))) ?_
        refine RegL.nil ?_
        replace h := Option.some.inj h; subst h
        exact Ct.mid () rfl ⟨rfl, rfl, rfl, trivial⟩
    · clear hx4
      refine Ct.then_tr ?_
      refine Tr.weak (Γ' := [(0, (pSl 1 (cK .i64) x_0)), (6, (pEq (.int .u64 x3.2))), (26, (pEq (.bool x4)))]) ⟨rfl, rfl, rfl, trivial⟩ ?_
      replace h := bind_some h; obtain ⟨x7, hx7, h⟩ := h
      refine Tr.cut (γ := Unit) (Γm := fun g => [(0, (pSl 1 (cK .i64) x_0)), (6, (pEq (.int .u64 x3.2)))]) (Ωm := fun g => []) ?_ (fun g8 => ?_)
      · clear h
        have h := hx7
        clear hx7
        refine Tr.cond (Opd.tmp rfl) (fun hc => ?_) (fun hc => ?_)
        · replace h := bif_t hc h
          refine Tr.region ?_
          exact absurd h (by simp)
        · replace h := bif_f hc h
          refine Tr.skip ?_
          replace h := Option.some.inj h; subst h
          exact Ct.mid () rfl ⟨rfl, rfl, trivial⟩
      · clear hx7
        refine Ct.then_tr ?_
        refine Tr.weak (Γ' := [(0, (pSl 1 (cK .i64) x_0)), (6, (pEq (.int .u64 x3.2)))]) ⟨rfl, rfl, trivial⟩ ?_
        refine Tr.seq ?_
        refine Tr.region ?_
        refine RegL.pure (p := (pEq (.int .u64 x3.2))) rfl rfl rfl (J_move rfl (Opd.tmp rfl)) ?_
        refine RegL.pure (p := (pEq (.int .i64 (w64 (x3.2))))) rfl rfl rfl (J_conv rfl Try.underlying92 Try.underlying3 (Opd.tmp rfl)) ?_
        replace h := bind_some h; obtain ⟨x9, hx9, h⟩ := h
        refine RegL.step (γ := Option Addr) (p := fun a => pEq (.slice a ((w64 (x3.2))).toNat ((w64 (x3.2))).toNat)) (Ω' := fun a => [oSl 2 1 (cK .i64) a ((w64 (x3.2))).toNat ((w64 (x3.2))).toNat x9]) rfl rfl rfl (M_make rfl Try.underlying26 el2 (by decide) (Opd.tmp rfl) hx9) fun o10 => ?_
        refine RegL.pure (p := (pEq (.slice o10 ((w64 (x3.2))).toNat ((w64 (x3.2))).toNat))) rfl rfl rfl (J_assign rfl (Opd.tmp rfl)) ?_
        refine RegL.nil ?_
        refine Ct.then_tr ?_
        refine Tr.weak (Γ' := [(0, (pSl 1 (cK .i64) x_0)), (7, (pEq (.slice o10 ((w64 (x3.2))).toNat ((w64 (x3.2))).toNat)))]) ⟨rfl, rfl, trivial⟩ ?_
        refine Tr.seq ?_
        refine Tr.region ?_
        refine RegL.pure (p := (pEq (.slice o10 ((w64 (x3.2))).toNat ((w64 (x3.2))).toNat))) rfl rfl rfl (J_move rfl (Opd.tmp rfl)) ?_
        refine RegL.pure (p := (pSl 1 (cK .i64) x_0)) rfl rfl rfl (J_move rfl (Opd.tmp rfl)) ?_
        refine RegL.step (γ := Unit) (p := fun _ => pEq (.int .i64 ((min x_0.length (x9.length - 0) : Nat) : Int))) (Ω' := fun _ => [oSl 2 1 (cK .i64) o10 ((w64 (x3.2))).toNat ((w64 (x3.2))).toNat (over x9 0 (x_0.take (x9.length - 0)))]) rfl rfl rfl (M_copyAt (p := 0) rfl Try.underlying26 sz2 el2 (Opd.tmp rfl) (.inr ⟨rfl, rfl, rfl⟩) (Nat.zero_le _) (OpdA.of (Opd.tmp rfl)) (fun _ => ⟨FreeP.eq, trivial⟩)) fun g12 => ?_
        refine RegL.pure (p := (pEq (.int .i64 ((min x_0.length (x9.length - 0) : Nat) : Int)))) rfl rfl rfl (J_assign rfl (Opd.tmp rfl)) ?_
        refine RegL.nil ?_
        refine Ct.then_tr ?_
        refine Tr.weak (Γ' := [(7, (pEq (.slice o10 ((w64 (x3.2))).toNat ((w64 (x3.2))).toNat))), (8, (pEq (.int .i64 ((min x_0.length (x9.length - 0) : Nat) : Int))))]) ⟨rfl, rfl, trivial⟩ ?_
        refine Tr.seq ?_
        replace h := bind_some h; obtain ⟨x13, hx13, h⟩ := h
        refine Tr.cut (γ := G3) (Γm := fun g => [(7, (pEq (.slice g.1 g.2.1 g.2.2)))]) (Ωm := fun g => [oSl 2 1 (cK .i64) g.1 g.2.1 g.2.2 x13]) ?_ (fun g21 => ?_)
        · clear h
          have h := hx13
          clear hx13
          refine Tr.block ?_
          refine Tr.weak (Γ' := [(7, (pEq (.slice o10 ((w64 (x3.2))).toNat ((w64 (x3.2))).toNat))), (8, (pEq (.int .i64 ((min x_0.length (x9.length - 0) : Nat) : Int))))]) ⟨rfl, rfl, trivial⟩ ?_
          refine Tr.loop (γ := G3) (σ := (Int × (List Int))) (Γσ := fun s g => [(7, (pEq (.slice g.1 g.2.1 g.2.2))), (8, (pEq (.int .i64 s.1)))]) (Ωσ := fun s g => [oSl 2 1 (cK .i64) g.1 g.2.1 g.2.2 s.2]) (g := (o10, ((w64 (x3.2))).toNat, ((w64 (x3.2))).toNat)) h ?_
          clear h
          rintro ⟨v15, v16⟩ g17 t h
          replace h : m_slices_Repeat_int64_int64_B14  v15 v16 = some t := h
          unfold m_slices_Repeat_int64_int64_B14 at h
          refine Tr.weakO (Γ' := [(7, (pEq (.slice g17.1 g17.2.1 g17.2.2))), (8, (pEq (.int .i64 v15)))]) (Ω' := [oSl 2 1 (cK .i64) g17.1 g17.2.1 g17.2.2 v16]) rfl ⟨rfl, rfl, trivial⟩ ?_
          refine Tr.seq ?_
          refine Tr.seq ?_
          refine Tr.region ?_
          refine RegL.pure (p := (pEq (.int .i64 v15))) rfl rfl rfl (J_move rfl (Opd.tmp rfl)) ?_
          refine RegL.pure (p := (pEq (.slice g17.1 g17.2.1 g17.2.2))) rfl rfl rfl (J_move rfl (Opd.tmp rfl)) ?_
          refine RegL.pureW (p := (pEq (.int .i64 (v16.length : Int)))) rfl rfl rfl (W_rowLen (j := 0) rfl Try.underlying26 (Opd.tmp rfl) rfl) ?_
          refine RegL.pure (p := (pEq (.bool (decide (v15 < (v16.length : Int)))))) rfl rfl rfl (J_bin rfl (Opd.tmp rfl) (Opd.tmp rfl) B_lss) ?_
          refine RegL.nil ?_
          refine Ct.then_tr ?_
          refine Tr.weak (Γ' := [(7, (pEq (.slice g17.1 g17.2.1 g17.2.2))), (8, (pEq (.int .i64 v15))), (37, (pEq (.bool (decide (v15 < (v16.length : Int))))))]) ⟨rfl, rfl, rfl, trivial⟩ ?_
          refine Tr.cond (Opd.tmp rfl) (fun hc => ?_) (fun hc => ?_)
          · replace h := bif_t hc h
            refine Tr.skip ?_
            refine Ct.then_tr ?_
            refine Tr.weak (Γ' := [(7, (pEq (.slice g17.1 g17.2.1 g17.2.2))), (8, (pEq (.int .i64 v15)))]) ⟨rfl, rfl, trivial⟩ ?_
            refine Tr.block ?_
            replace h := bind_some h; obtain ⟨u18, hu18, h⟩ := h
            replace h := bind_some h; obtain ⟨u19, hu19, h⟩ := h
            refine Tr.drawD (n := 48) (m := 9) (es := [some (Ent.mk [(8, (pEq (.int .i64 v15)))] (pEq (.int .i64 v15)) true), some (Ent.mk [(7, (pEq (.slice g17.1 g17.2.1 g17.2.2)))] (pEq (.slice g17.1 g17.2.1 g17.2.2)) true), some (Ent.mk [(8, (pEq (.int .i64 v15)))] (pEq (.int .i64 v15)) true), some (Ent.mk [(39, (pEq (.slice g17.1 g17.2.1 g17.2.2))), (40, (pEq (.int .i64 v15)))] (pEq (.slice (offA g17.1 1 g17.2.2 (v15).toNat) (g17.2.1 - (v15).toNat) (g17.2.2 - (v15).toNat))) true), some (Ent.mk [(7, (pEq (.slice g17.1 g17.2.1 g17.2.2)))] (pEq (.slice g17.1 g17.2.1 g17.2.2)) true), some (Ent.mk [(8, (pEq (.int .i64 v15)))] (pEq (.int .i64 v15)) true), some (Ent.mk [(42, (pEq (.slice g17.1 g17.2.1 g17.2.2))), (43, (pEq (.int .i64 v15)))] (pEq (.slice g17.1 (v15).toNat g17.2.2)) true), none, none]) (rd := [[8], [7], [8], [39, 40], [7], [8], [42, 43], [41, 44], [38, 45]]) rfl hmix (by kernel_rfl) fun hD => ?_
            refine RD.step hD (es := [some (Ent.mk [(8, (pEq (.int .i64 v15)))] (pEq (.int .i64 v15)) true), some (Ent.mk [(7, (pEq (.slice g17.1 g17.2.1 g17.2.2)))] (pEq (.slice g17.1 g17.2.1 g17.2.2)) true), some (Ent.mk [(8, (pEq (.int .i64 v15)))] (pEq (.int .i64 v15)) true), some (Ent.mk [(39, (pEq (.slice g17.1 g17.2.1 g17.2.2))), (40, (pEq (.int .i64 v15)))] (pEq (.slice (offA g17.1 1 g17.2.2 (v15).toNat) (g17.2.1 - (v15).toNat) (g17.2.2 - (v15).toNat))) true), some (Ent.mk [(7, (pEq (.slice g17.1 g17.2.1 g17.2.2)))] (pEq (.slice g17.1 g17.2.1 g17.2.2)) true), some (Ent.mk [(8, (pEq (.int .i64 v15)))] (pEq (.int .i64 v15)) true), some (Ent.mk [(42, (pEq (.slice g17.1 g17.2.1 g17.2.2))), (43, (pEq (.int .i64 v15)))] (pEq (.slice g17.1 (v15).toNat g17.2.2)) true), none, none]) (done := []) (mask := [true, true, true, true, true, true, true, false, false]) (γ := Unit) (p := fun _ => pEq (.int .i64 ((min (v16.take (v15).toNat).length (v16.length - (v15).toNat) : Nat) : Int))) (Ω' := fun _ => [oSl 2 1 (cK .i64) g17.1 g17.2.1 g17.2.2 (over v16 (v15).toNat ((v16.take (v15).toNat).take (v16.length - (v15).toNat)))]) (es' := fun g20 => [some (Ent.mk [(8, (pEq (.int .i64 v15)))] (pEq (.int .i64 v15)) true), some (Ent.mk [(7, (pEq (.slice g17.1 g17.2.1 g17.2.2)))] (pEq (.slice g17.1 g17.2.1 g17.2.2)) true), some (Ent.mk [(8, (pEq (.int .i64 v15)))] (pEq (.int .i64 v15)) true), some (Ent.mk [(39, (pEq (.slice g17.1 g17.2.1 g17.2.2))), (40, (pEq (.int .i64 v15)))] (pEq (.slice (offA g17.1 1 g17.2.2 (v15).toNat) (g17.2.1 - (v15).toNat) (g17.2.2 - (v15).toNat))) true), some (Ent.mk [(7, (pEq (.slice g17.1 g17.2.1 g17.2.2)))] (pEq (.slice g17.1 g17.2.1 g17.2.2)) true), some (Ent.mk [(8, (pEq (.int .i64 v15)))] (pEq (.int .i64 v15)) true), some (Ent.mk [(42, (pEq (.slice g17.1 g17.2.1 g17.2.2))), (43, (pEq (.int .i64 v15)))] (pEq (.slice g17.1 (v15).toNat g17.2.2)) true), some (Ent.mk [(41, (pEq (.slice (offA g17.1 1 g17.2.2 (v15).toNat) (g17.2.1 - (v15).toNat) (g17.2.2 - (v15).toNat)))), (44, (pEq (.slice g17.1 (v15).toNat g17.2.2)))] (pEq (.int .i64 ((min (v16.take (v15).toNat).length (v16.length - (v15).toNat) : Nat) : Int))) true), none]) (Γc := [(41, (pEq (.slice (offA g17.1 1 g17.2.2 (v15).toNat) (g17.2.1 - (v15).toNat) (g17.2.2 - (v15).toNat)))), (44, (pEq (.slice g17.1 (v15).toNat g17.2.2)))]) 7 rfl rfl rfl (by kernel_rfl) ⟨.inr ⟨(OpJ.w (J_move rfl (Opd.tmp rfl))), ⟨rfl, trivial⟩, rfl, rfl⟩, ⟨.inr ⟨(OpJ.w (J_move rfl (Opd.tmp rfl))), ⟨rfl, trivial⟩, rfl, rfl⟩, ⟨.inr ⟨(OpJ.w (J_move rfl (Opd.tmp rfl))), ⟨rfl, trivial⟩, rfl, rfl⟩, ⟨.inr ⟨(W_rowOff (j := 0) rfl Try.underlying26 sz2 (Opd.tmp rfl) (Opd.tmp rfl) rfl hu18), ⟨rfl, rfl, trivial⟩, rfl, rfl⟩, ⟨.inr ⟨(OpJ.w (J_move rfl (Opd.tmp rfl))), ⟨rfl, trivial⟩, rfl, rfl⟩, ⟨.inr ⟨(OpJ.w (J_move rfl (Opd.tmp rfl))), ⟨rfl, trivial⟩, rfl, rfl⟩, ⟨.inr ⟨(W_rowCut (j := 0) rfl Try.underlying26 sz2 (Opd.tmp rfl) SOpd.none (SOpd.some (Opd.tmp rfl)) rfl hu19), ⟨rfl, rfl, trivial⟩, rfl, rfl⟩, trivial⟩⟩⟩⟩⟩⟩⟩ rfl rfl ⟨rfl, rfl, trivial⟩ (fun _ => M_copyAt (p := (v15).toNat) rfl Try.underlying26 sz2 el2 (Opd.tmp rfl) (.inl ⟨rfl, rfl⟩) (cutB_le hu18) (OpdA.conv rfl (Conv.sub (f := (cK .i64)) 0 (fun _ => rfl) rfl (cutB_le hu19))) (fun _ => ⟨FreeP.eq, trivial⟩)) (fun g20 => ⟨rfl, ⟨rfl, ⟨rfl, ⟨rfl, ⟨rfl, ⟨rfl, ⟨rfl, trivial⟩⟩⟩⟩⟩⟩⟩) (fun g20 => rfl) rfl fun g20 => ?_
            refine RD.add 7 3 rfl ?_
            refine RD.add 7 6 rfl ?_
            refine RD.add 3 1 rfl ?_
            refine RD.add 3 2 rfl ?_
            refine RD.add 6 4 rfl ?_
            refine RD.add 6 5 rfl ?_
            refine RD.ext (es' := [some (Ent.mk [(8, (pEq (.int .i64 v15)))] (pEq (.int .i64 v15)) true), some (Ent.mk [(7, (pEq (.slice g17.1 g17.2.1 g17.2.2)))] (pEq (.slice g17.1 g17.2.1 g17.2.2)) true), some (Ent.mk [(8, (pEq (.int .i64 v15)))] (pEq (.int .i64 v15)) true), some (Ent.mk [(39, (pEq (.slice g17.1 g17.2.1 g17.2.2))), (40, (pEq (.int .i64 v15)))] (pEq (.slice (offA g17.1 1 g17.2.2 (v15).toNat) (g17.2.1 - (v15).toNat) (g17.2.2 - (v15).toNat))) true), some (Ent.mk [(7, (pEq (.slice g17.1 g17.2.1 g17.2.2)))] (pEq (.slice g17.1 g17.2.1 g17.2.2)) true), some (Ent.mk [(8, (pEq (.int .i64 v15)))] (pEq (.int .i64 v15)) true), some (Ent.mk [(42, (pEq (.slice g17.1 g17.2.1 g17.2.2))), (43, (pEq (.int .i64 v15)))] (pEq (.slice g17.1 (v15).toNat g17.2.2)) true), some (Ent.mk [(41, (pEq (.slice (offA g17.1 1 g17.2.2 (v15).toNat) (g17.2.1 - (v15).toNat) (g17.2.2 - (v15).toNat)))), (44, (pEq (.slice g17.1 (v15).toNat g17.2.2)))] (pEq (.int .i64 ((min (v16.take (v15).toNat).length (v16.length - (v15).toNat) : Nat) : Int))) true), some (Ent.mk [(38, (pEq (.int .i64 v15))), (45, (pEq (.int .i64 ((min (v16.take (v15).toNat).length (v16.length - (v15).toNat) : Nat) : Int))))] (pEq (.int .i64 (w64 (v15 + ((min (v16.take (v15).toNat).length (v16.length - (v15).toNat) : Nat) : Int))))) true)]) ⟨rfl, ⟨rfl, ⟨rfl, ⟨rfl, ⟨rfl, ⟨rfl, ⟨rfl, ⟨rfl, trivial⟩⟩⟩⟩⟩⟩⟩⟩ ?_
            refine RD.fin (es := [Ent.mk [(8, (pEq (.int .i64 v15)))] (pEq (.int .i64 v15)) true, Ent.mk [(7, (pEq (.slice g17.1 g17.2.1 g17.2.2)))] (pEq (.slice g17.1 g17.2.1 g17.2.2)) true, Ent.mk [(8, (pEq (.int .i64 v15)))] (pEq (.int .i64 v15)) true, Ent.mk [(39, (pEq (.slice g17.1 g17.2.1 g17.2.2))), (40, (pEq (.int .i64 v15)))] (pEq (.slice (offA g17.1 1 g17.2.2 (v15).toNat) (g17.2.1 - (v15).toNat) (g17.2.2 - (v15).toNat))) true, Ent.mk [(7, (pEq (.slice g17.1 g17.2.1 g17.2.2)))] (pEq (.slice g17.1 g17.2.1 g17.2.2)) true, Ent.mk [(8, (pEq (.int .i64 v15)))] (pEq (.int .i64 v15)) true, Ent.mk [(42, (pEq (.slice g17.1 g17.2.1 g17.2.2))), (43, (pEq (.int .i64 v15)))] (pEq (.slice g17.1 (v15).toNat g17.2.2)) true, Ent.mk [(41, (pEq (.slice (offA g17.1 1 g17.2.2 (v15).toNat) (g17.2.1 - (v15).toNat) (g17.2.2 - (v15).toNat)))), (44, (pEq (.slice g17.1 (v15).toNat g17.2.2)))] (pEq (.int .i64 ((min (v16.take (v15).toNat).length (v16.length - (v15).toNat) : Nat) : Int))) true, Ent.mk [(38, (pEq (.int .i64 v15))), (45, (pEq (.int .i64 ((min (v16.take (v15).toNat).length (v16.length - (v15).toNat) : Nat) : Int))))] (pEq (.int .i64 (w64 (v15 + ((min (v16.take (v15).toNat).length (v16.length - (v15).toNat) : Nat) : Int))))) true]) (done := [5, 4, 2, 1, 6, 3, 7]) hD ⟨.inr ⟨(OpJ.w (J_move rfl (Opd.tmp rfl))), ⟨rfl, trivial⟩, rfl, rfl⟩, ⟨.inl rfl, ⟨.inl rfl, ⟨.inl rfl, ⟨.inl rfl, ⟨.inl rfl, ⟨.inl rfl, ⟨.inl rfl, ⟨.inr ⟨(OpJ.w (J_bin rfl (Opd.tmp rfl) (Opd.tmp rfl) B_add)), ⟨rfl, rfl, trivial⟩, rfl, rfl⟩, trivial⟩⟩⟩⟩⟩⟩⟩⟩⟩ ?_
            refine RegL.pure (p := (pEq (.int .i64 (w64 (v15 + ((min (v16.take (v15).toNat).length (v16.length - (v15).toNat) : Nat) : Int)))))) rfl rfl rfl (J_assign rfl (Opd.tmp rfl)) ?_
            refine RegL.nil ?_
            refine Ct.blk_normal ?_
            replace h := Option.some.inj h; subst h
            exact Ct.again (g17.1, g17.2.1, g17.2.2) rfl ⟨rfl, rfl, trivial⟩
          · replace h := bif_f hc h
            refine Tr.exit ?_
            refine Ct.then_exit ?_
            replace h := map_some h; obtain ⟨r1, h, rfl⟩ := h
            refine Ct.out_exit fun e => ?_
            subst e
            refine Ct.blk_exit ?_
            replace h := Option.some.inj h; subst h
            exact Ct.mid (g17.1, g17.2.1, g17.2.2) rfl ⟨rfl, trivial⟩
        · clear hx13
          refine Ct.then_tr ?_
          refine Tr.weak (Γ' := [(7, (pEq (.slice g21.1 g21.2.1 g21.2.2)))]) ⟨rfl, trivial⟩ ?_
          refine Tr.seq ?_
          refine Tr.region ?_
          refine RegL.pure (p := (pEq (.slice g21.1 g21.2.1 g21.2.2))) rfl rfl rfl (J_move rfl (Opd.tmp rfl)) ?_
          refine RegL.pure (p := (pEq (.slice g21.1 g21.2.1 g21.2.2))) rfl rfl rfl (J_assign rfl (Opd.tmp rfl)) ?_
          refine RegL.nil ?_
          refine Ct.then_tr ?_
          refine Tr.weak (Γ' := [(4, (pEq (.slice g21.1 g21.2.1 g21.2.2)))]) ⟨rfl, trivial⟩ ?_
          refine Tr.ret ?_
          replace h := Option.some.inj h; subst h
          exact Ct.retH1 (Ωx := []) (g21.1, g21.2.1, g21.2.2) rfl (RvOk.tmp rfl) rfl

theorem c_slices_Repeat_int64_int64 {x_0 : (List Int)} {count_1 : Int} {r : (List Int)} (h : m_slices_Repeat_int64_int64 x_0 count_1 = some r) : CallJ Try.prog 75 [(pSl 1 (cK .i64) x_0), (pEq (.int .i64 count_1))] (pSl 1 (cK .i64) r) :=
  CallH.frozen (o_slices_Repeat_int64_int64 h) (fun g => (Conv.row (f := (cK .i64)) 0 (fun _ => rfl) rfl))

theorem o_impl_Problem_unassigned {p_0 : GProblem}  {r : (List Int)} (h : m_impl_Problem_unassigned p_0 = some r) : CallH Try.prog 47 [(pAgg (cGProblem p_0))] [] (fun g : G3 => (pEq (.slice g.1 g.2.1 g.2.2))) (fun g : G3 => [oSl 2 1 (cK .i64) g.1 g.2.1 g.2.2 r]) := by
  unfold m_impl_Problem_unassigned at h
  refine CallH.enter Try.func47 rfl Try.ntmps47 rfl fun W I0 H => ?_
  refine Tr.weak (Γ' := [(0, (pAgg (cGProblem p_0)))]) ⟨rfl, trivial⟩ ?_
  refine Tr.seq ?_
  refine Tr.region ?_
  refine RegL.pure (p := (pPtr (cGProblem p_0))) rfl rfl rfl (J_boxA rfl (Opd.tmp rfl)) ?_
  refine RegL.pure (p := (pEq (.slice none 0 0))) rfl rfl rfl (J_assign rfl Opd.con) ?_
  refine RegL.nil ?_
  refine Ct.then_tr ?_
  refine Tr.weak (Γ' := [(1, (pPtr (cGProblem p_0)))]) ⟨rfl, trivial⟩ ?_
  refine Tr.seq ?_
  refine Tr.region ?_
  refine RegL.pure (p := (pSl 1 (cK .i64) ([(-1 : Int)] : (List Int)))) rfl rfl rfl (J_buildSlice (l := ([(-1 : Int)] : (List Int))) (qss := [(0, (cK .i64) (-1 : Int))]) rfl Try.underlying26 el2 rfl (Parts.cons (Part.one Opd.con OneC.int) Parts.nil) rfl rfl) ?_
  refine RegL.pure (p := (pPtr ((cSl 1 (cSl 1 (cK .i64))) p_0.Domains))) rfl rfl rfl (J_fieldAddr rfl Try.underlying29 rfl sz22 (by decide) (Opd.tmp rfl) rfl) ?_
  refine RegL.pure (p := (pSl 1 (cSl 1 (cK .i64)) p_0.Domains)) rfl rfl rfl (J_load rfl Try.isAgg22 (Opd.tmp rfl)) ?_
  refine RegL.pure (p := (pEq (.int .i64 (p_0.Domains.length : Int)))) rfl rfl rfl (J_len rfl Try.underlying22 (Opd.tmp rfl) rfl) ?_
  replace h := bind_some h; obtain ⟨x1, hx1, h⟩ := h
  refine RegL.step (γ := G3) (p := fun g => (pEq (.slice g.1 g.2.1 g.2.2))) (Ω' := fun g => [oSl 2 1 (cK .i64) g.1 g.2.1 g.2.2 x1]) rfl rfl rfl (M_callH (Ωi := []) rfl Try.call75 (o_slices_Repeat_int64_int64 hx1) (Opds.cons (Opd.tmp rfl) (Opds.cons (Opd.tmp rfl) Opds.nil))) fun g2 => ?_
  refine RegL.pure (p := (pEq (.slice g2.1 g2.2.1 g2.2.2))) rfl rfl rfl (J_assign rfl (Opd.tmp rfl)) ?_
  refine RegL.nil ?_
  refine Ct.then_tr ?_
  refine Tr.weak (Γ' := [(2, (pEq (.slice g2.1 g2.2.1 g2.2.2)))]) ⟨rfl, trivial⟩ ?_
  refine Tr.ret ?_
  replace h := Option.some.inj h; subst h
  exact Ct.retH1 (Ωx := []) (g2.1, g2.2.1, g2.2.2) rfl (RvOk.tmp rfl) rfl

theorem c_impl_Problem_unassigned {p_0 : GProblem} {r : (List Int)} (h : m_impl_Problem_unassigned p_0 = some r) : CallJ Try.prog 47 [(pAgg (cGProblem p_0))] (pSl 1 (cK .i64) r) :=
  CallH.frozen (o_impl_Problem_unassigned h) (fun g => (Conv.row (f := (cK .i64)) 0 (fun _ => rfl) rfl))

theorem c_impl_abs {n_0 : Int} {r : Int} (h : m_impl_abs n_0 = some r) : CallJ Try.prog 76 [(pEq (.int .i64 n_0))] (pEq (.int .i64 r)) := by
  unfold m_impl_abs at h
  refine CallJ.enterH Try.func76 rfl Try.ntmps76 rfl fun W I0 H => ?_
  refine Tr.weak (Γ' := [(0, (pEq (.int .i64 n_0)))]) ⟨rfl, trivial⟩ ?_
  refine Tr.seq ?_
  refine Tr.region ?_
  refine RegL.pure (p := (pEq (.int .i64 (0 : Int)))) rfl rfl rfl (J_assign rfl Opd.con) ?_
  refine RegL.nil ?_
  refine Ct.then_tr ?_
  refine Tr.weak (Γ' := [(0, (pEq (.int .i64 n_0)))]) ⟨rfl, trivial⟩ ?_
  refine Tr.seq ?_
  refine Tr.region ?_
  refine RegL.pure (p := (pEq (.int .i64 n_0))) rfl rfl rfl (J_move rfl (Opd.tmp rfl)) ?_
  refine RegL.pure (p := (pEq (.int .i64 n_0))) rfl rfl rfl (J_move rfl (Opd.tmp rfl)) ?_
  refine RegL.pure (p := (pEq (.int .i64 (w64 (0 - n_0))))) rfl rfl rfl (J_neg rfl (Opd.tmp rfl)) ?_
  refine RegL.pure (p := (pEq (.int .i64 (if (w64 (0 - n_0)) > n_0 then (w64 (0 - n_0)) else n_0)))) rfl rfl rfl (J_max2 rfl (Opd.tmp rfl) (Opd.tmp rfl)) ?_
  refine RegL.pure (p := (pEq (.int .i64 (if (w64 (0 - n_0)) > n_0 then (w64 (0 - n_0)) else n_0)))) rfl rfl rfl (J_assign rfl (Opd.tmp rfl)) ?_
  refine RegL.nil ?_
  refine Ct.then_tr ?_
  refine Tr.weak (Γ' := [(2, (pEq (.int .i64 (if (w64 (0 - n_0)) > n_0 then (w64 (0 - n_0)) else n_0))))]) ⟨rfl, trivial⟩ ?_
  refine Tr.ret ?_
  replace h := Option.some.inj h; subst h
  exact Ct.retH1 (Ωx := []) () rfl (RvOk.tmp rfl) rfl

theorem o_impl_Problem_choices {p_0 : GProblem} {list_1 : (List Int)} {item_2 : Int}  {r : (List Int)} (h : m_impl_Problem_choices p_0 list_1 item_2 = some r) : CallH Try.prog 48 [(pAgg (cGProblem p_0)), (pSl 1 (cK .i64) list_1), (pEq (.int .i64 item_2))] [] (fun g : G3 => (pEq (.slice g.1 g.2.1 g.2.2))) (fun g : G3 => [oSl 2 1 (cK .i64) g.1 g.2.1 g.2.2 r]) := by
  unfold m_impl_Problem_choices at h
  refine CallH.enter Try.func48 rfl Try.ntmps48 rfl fun W I0 H => ?_
  refine Tr.weak (Γ' := [(0, (pAgg (cGProblem p_0))), (1, (pSl 1 (cK .i64) list_1)), (2, (pEq (.int .i64 item_2)))]) ⟨rfl, rfl, rfl, trivial⟩ ?_
  refine Tr.seq ?_
  refine Tr.region ?_
  refine RegL.pure (p := (pPtr (cGProblem p_0))) rfl rfl rfl (J_boxA rfl (Opd.tmp rfl)) ?_
  refine RegL.pure (p := (pEq (.slice none 0 0))) rfl rfl rfl (J_assign rfl Opd.con) ?_
  refine RegL.nil ?_
  refine Ct.then_tr ?_
  refine Tr.weak (Γ' := [(1, (pSl 1 (cK .i64) list_1)), (2, (pEq (.int .i64 item_2))), (3, (pPtr (cGProblem p_0)))]) ⟨rfl, rfl, rfl, trivial⟩ ?_
  refine Tr.seq ?_
  refine Tr.region ?_
  refine RegL.pure (p := (pEq (.slice none 0 0))) rfl rfl rfl (J_assign rfl Opd.con) ?_
  refine RegL.nil ?_
  refine Ct.then_tr ?_
  refine Tr.weak (Γ' := [(1, (pSl 1 (cK .i64) list_1)), (2, (pEq (.int .i64 item_2))), (3, (pPtr (cGProblem p_0))), (7, (pEq (.slice none 0 0)))]) ⟨rfl, rfl, rfl, rfl, trivial⟩ ?_
  refine Tr.seq ?_
  refine Tr.seq ?_
  refine Tr.region ?_
  refine RegL.pure (p := (pPtr ((cSl 1 (cSl 1 (cK .i64))) p_0.Domains))) rfl rfl rfl (J_fieldAddr rfl Try.underlying29 rfl sz22 (by decide) (Opd.tmp rfl) rfl) ?_
  refine RegL.pure (p := (pSl 1 (cSl 1 (cK .i64)) p_0.Domains)) rfl rfl rfl (J_load rfl Try.isAgg22 (Opd.tmp rfl)) ?_
  refine RegL.pure (p := (pEq (.int .i64 item_2))) rfl rfl rfl (J_move rfl (Opd.tmp rfl)) ?_
  replace h := bind_some h; obtain ⟨x1, hx1, h⟩ := h
  refine RegL.pure (p := (pPtr ((cSl 1 (cK .i64)) x1))) rfl rfl rfl (J_idx rfl Try.underlying22 sz26 (Opd.tmp rfl) (Opd.tmp rfl) hx1) ?_
  refine RegL.pure (p := (pSl 1 (cK .i64) x1)) rfl rfl rfl (J_load rfl Try.isAgg26 (Opd.tmp rfl)) ?_
  refine RegL.pure (p := (pEq (.int .i64 (x1.length : Int)))) rfl rfl rfl (J_len rfl Try.underlying26 (Opd.tmp rfl) rfl) ?_
  refine RegL.pure (p := (pEq (.int .i64 (0 : Int)))) rfl rfl rfl (J_move rfl Opd.con) ?_
  refine RegL.nil ?_
  refine Ct.then_tr ?_
  refine Tr.weak (Γ' := [(1, (pSl 1 (cK .i64) list_1)), (2, (pEq (.int .i64 item_2))), (3, (pPtr (cGProblem p_0))), (7, (pEq (.slice none 0 0))), (17, (pSl 1 (cK .i64) x1)), (18, (pEq (.int .i64 (x1.length : Int)))), (19, (pEq (.int .i64 (0 : Int))))]) ⟨rfl, rfl, rfl, rfl, rfl, rfl, rfl, trivial⟩ ?_
  refine Tr.re (Ω2 := [oSl 2 1 (cK .i64) none 0 0 ([] : (List Int))]) (fun h => SatO.nilRow h) ?_
  replace h := bind_some h; obtain ⟨x3, hx3, h⟩ := h
  refine Tr.cut (γ := G3) (Γm := fun g => [(7, (pEq (.slice g.1 g.2.1 g.2.2)))]) (Ωm := fun g => [oSl 2 1 (cK .i64) g.1 g.2.1 g.2.2 x3]) ?_ (fun g29 => ?_)
  · clear h
    have h := hx3
    clear hx3
    refine Tr.block ?_
    refine Tr.weak (Γ' := [(1, (pSl 1 (cK .i64) list_1)), (2, (pEq (.int .i64 item_2))), (3, (pPtr (cGProblem p_0))), (7, (pEq (.slice none 0 0))), (17, (pSl 1 (cK .i64) x1)), (18, (pEq (.int .i64 (x1.length : Int)))), (19, (pEq (.int .i64 (0 : Int))))]) ⟨rfl, rfl, rfl, rfl, rfl, rfl, rfl, trivial⟩ ?_
    refine Tr.loop (γ := G3) (σ := (Int × (List Int))) (Γσ := fun s g => [(1, (pSl 1 (cK .i64) list_1)), (2, (pEq (.int .i64 item_2))), (3, (pPtr (cGProblem p_0))), (7, (pEq (.slice g.1 g.2.1 g.2.2))), (17, (pSl 1 (cK .i64) x1)), (18, (pEq (.int .i64 (x1.length : Int)))), (19, (pEq (.int .i64 s.1)))]) (Ωσ := fun s g => [oSl 2 1 (cK .i64) g.1 g.2.1 g.2.2 s.2]) (g := (none, 0, 0)) h ?_
    clear h
    rintro ⟨v5, v6⟩ g7 t h
    replace h : m_impl_Problem_choices_B4 p_0 list_1 item_2 x1 v5 v6 = some t := h
    unfold m_impl_Problem_choices_B4 at h
    refine Tr.weakO (Γ' := [(1, (pSl 1 (cK .i64) list_1)), (2, (pEq (.int .i64 item_2))), (3, (pPtr (cGProblem p_0))), (7, (pEq (.slice g7.1 g7.2.1 g7.2.2))), (17, (pSl 1 (cK .i64) x1)), (18, (pEq (.int .i64 (x1.length : Int)))), (19, (pEq (.int .i64 v5)))]) (Ω' := [oSl 2 1 (cK .i64) g7.1 g7.2.1 g7.2.2 v6]) rfl ⟨rfl, rfl, rfl, rfl, rfl, rfl, rfl, trivial⟩ ?_
    refine Tr.seq ?_
    refine Tr.region ?_
    refine RegL.pure (p := (pEq (.bool (decide (v5 < (x1.length : Int)))))) rfl rfl rfl (J_bin rfl (Opd.tmp rfl) (Opd.tmp rfl) B_lss) ?_
    refine RegL.nil ?_
    refine Ct.then_tr ?_
    refine Tr.weak (Γ' := [(1, (pSl 1 (cK .i64) list_1)), (2, (pEq (.int .i64 item_2))), (3, (pPtr (cGProblem p_0))), (7, (pEq (.slice g7.1 g7.2.1 g7.2.2))), (17, (pSl 1 (cK .i64) x1)), (18, (pEq (.int .i64 (x1.length : Int)))), (19, (pEq (.int .i64 v5))), (20, (pEq (.bool (decide (v5 < (x1.length : Int))))))]) ⟨rfl, rfl, rfl, rfl, rfl, rfl, rfl, rfl, trivial⟩ ?_
    refine Tr.seq ?_
    refine Tr.cond (Opd.tmp rfl) (fun hc => ?_) (fun hc => ?_)
    · replace h := bif_t hc h
      refine Tr.skip ?_
      refine Ct.then_tr ?_
      refine Tr.weak (Γ' := [(1, (pSl 1 (cK .i64) list_1)), (2, (pEq (.int .i64 item_2))), (3, (pPtr (cGProblem p_0))), (7, (pEq (.slice g7.1 g7.2.1 g7.2.2))), (17, (pSl 1 (cK .i64) x1)), (18, (pEq (.int .i64 (x1.length : Int)))), (19, (pEq (.int .i64 v5)))]) ⟨rfl, rfl, rfl, rfl, rfl, rfl, rfl, trivial⟩ ?_
      refine Tr.seq ?_
      refine Tr.block ?_
      refine Tr.seq ?_
      refine Tr.region ?_
      replace h := bind_some h; obtain ⟨x8, hx8, h⟩ := h
      refine RegL.pure (p := (pPtr ((cK .i64) x8))) rfl rfl rfl (J_idx rfl Try.underlying26 sz2 (Opd.tmp rfl) (Opd.tmp rfl) hx8) ?_
      refine RegL.pure (p := (pEq (.int .i64 x8))) rfl rfl rfl (J_load rfl Try.isAgg2 (Opd.tmp rfl)) ?_
      refine RegL.pure (p := (pEq (.int .i64 x8))) rfl rfl rfl (J_assign rfl (Opd.tmp rfl)) ?_
      refine RegL.nil ?_
      refine Ct.then_tr ?_
      refine Tr.weak (Γ' := [(1, (pSl 1 (cK .i64) list_1)), (2, (pEq (.int .i64 item_2))), (3, (pPtr (cGProblem p_0))), (7, (pEq (.slice g7.1 g7.2.1 g7.2.2))), (9, (pEq (.int .i64 x8))), (17, (pSl 1 (cK .i64) x1)), (18, (pEq (.int .i64 (x1.length : Int)))), (19, (pEq (.int .i64 v5)))]) ⟨rfl, rfl, rfl, rfl, rfl, rfl, rfl, rfl, trivial⟩ ?_
      refine Tr.seq ?_
      refine Tr.region ?_
      refine RegL.pure (p := (pEq (.bool false))) rfl rfl rfl (J_assign rfl Opd.con) ?_
      refine RegL.nil ?_
      refine Ct.then_tr ?_
      refine Tr.weak (Γ' := [(1, (pSl 1 (cK .i64) list_1)), (2, (pEq (.int .i64 item_2))), (3, (pPtr (cGProblem p_0))), (7, (pEq (.slice g7.1 g7.2.1 g7.2.2))), (9, (pEq (.int .i64 x8))), (10, (pEq (.bool false))), (17, (pSl 1 (cK .i64) x1)), (18, (pEq (.int .i64 (x1.length : Int)))), (19, (pEq (.int .i64 v5)))]) ⟨rfl, rfl, rfl, rfl, rfl, rfl, rfl, rfl, rfl, trivial⟩ ?_
      refine Tr.seq ?_
      refine Tr.seq ?_
      refine Tr.region ?_
      refine RegL.pure (p := (pSl 1 (cK .i64) list_1)) rfl rfl rfl (J_move rfl (Opd.tmp rfl)) ?_
      refine RegL.pure (p := (pEq (.int .i64 (list_1.length : Int)))) rfl rfl rfl (J_len rfl Try.underlying26 (Opd.tmp rfl) rfl) ?_
      refine RegL.pure (p := (pEq (.int .i64 (0 : Int)))) rfl rfl rfl (J_move rfl Opd.con) ?_
      refine RegL.nil ?_
      refine Ct.then_tr ?_
      refine Tr.weak (Γ' := [(1, (pSl 1 (cK .i64) list_1)), (2, (pEq (.int .i64 item_2))), (3, (pPtr (cGProblem p_0))), (7, (pEq (.slice g7.1 g7.2.1 g7.2.2))), (9, (pEq (.int .i64 x8))), (10, (pEq (.bool false))), (17, (pSl 1 (cK .i64) x1)), (18, (pEq (.int .i64 (x1.length : Int)))), (19, (pEq (.int .i64 v5))), (23, (pSl 1 (cK .i64) list_1)), (24, (pEq (.int .i64 (list_1.length : Int)))), (25, (pEq (.int .i64 (0 : Int))))]) ⟨rfl, rfl, rfl, rfl, rfl, rfl, rfl, rfl, rfl, rfl, rfl, rfl, trivial⟩ ?_
      replace h := bind_some h; obtain ⟨x9, hx9, h⟩ := h
      refine Tr.cut (γ := Unit) (Γm := fun g => [(1, (pSl 1 (cK .i64) list_1)), (2, (pEq (.int .i64 item_2))), (3, (pPtr (cGProblem p_0))), (7, (pEq (.slice g7.1 g7.2.1 g7.2.2))), (9, (pEq (.int .i64 x8))), (10, (pEq (.bool x9))), (17, (pSl 1 (cK .i64) x1)), (18, (pEq (.int .i64 (x1.length : Int)))), (19, (pEq (.int .i64 v5)))]) (Ωm := fun g => [oSl 2 1 (cK .i64) g7.1 g7.2.1 g7.2.2 v6]) ?_ (fun g24 => ?_)
      · clear h
        have h := hx9
        clear hx9
        refine Tr.block ?_
        refine Tr.weak (Γ' := [(1, (pSl 1 (cK .i64) list_1)), (2, (pEq (.int .i64 item_2))), (3, (pPtr (cGProblem p_0))), (7, (pEq (.slice g7.1 g7.2.1 g7.2.2))), (9, (pEq (.int .i64 x8))), (10, (pEq (.bool false))), (17, (pSl 1 (cK .i64) x1)), (18, (pEq (.int .i64 (x1.length : Int)))), (19, (pEq (.int .i64 v5))), (23, (pSl 1 (cK .i64) list_1)), (24, (pEq (.int .i64 (list_1.length : Int)))), (25, (pEq (.int .i64 (0 : Int))))]) ⟨rfl, rfl, rfl, rfl, rfl, rfl, rfl, rfl, rfl, rfl, rfl, rfl, trivial⟩ ?_
        refine Tr.loop (γ := Unit) (σ := (Bool × Int)) (Γσ := fun s g => [(1, (pSl 1 (cK .i64) list_1)), (2, (pEq (.int .i64 item_2))), (3, (pPtr (cGProblem p_0))), (7, (pEq (.slice g7.1 g7.2.1 g7.2.2))), (9, (pEq (.int .i64 x8))), (10, (pEq (.bool s.1))), (17, (pSl 1 (cK .i64) x1)), (18, (pEq (.int .i64 (x1.length : Int)))), (19, (pEq (.int .i64 v5))), (23, (pSl 1 (cK .i64) list_1)), (24, (pEq (.int .i64 (list_1.length : Int)))), (25, (pEq (.int .i64 s.2)))]) (Ωσ := fun s g => [oSl 2 1 (cK .i64) g7.1 g7.2.1 g7.2.2 v6]) (g := ()) h ?_
        clear h
        rintro ⟨v11, v12⟩ g13 t h
        replace h : m_impl_Problem_choices_B10 p_0 list_1 item_2 x8 v11 v12 = some t := h
        unfold m_impl_Problem_choices_B10 at h
        refine Tr.weakO (Γ' := [(1, (pSl 1 (cK .i64) list_1)), (2, (pEq (.int .i64 item_2))), (3, (pPtr (cGProblem p_0))), (7, (pEq (.slice g7.1 g7.2.1 g7.2.2))), (9, (pEq (.int .i64 x8))), (10, (pEq (.bool v11))), (17, (pSl 1 (cK .i64) x1)), (18, (pEq (.int .i64 (x1.length : Int)))), (19, (pEq (.int .i64 v5))), (23, (pSl 1 (cK .i64) list_1)), (24, (pEq (.int .i64 (list_1.length : Int)))), (25, (pEq (.int .i64 v12)))]) (Ω' := [oSl 2 1 (cK .i64) g7.1 g7.2.1 g7.2.2 v6]) rfl ⟨rfl, rfl, rfl, rfl, rfl, rfl, rfl, rfl, rfl, rfl, rfl, rfl, trivial⟩ ?_
        refine Tr.seq ?_
        refine Tr.region ?_
        refine RegL.pure (p := (pEq (.bool (decide (v12 < (list_1.length : Int)))))) rfl rfl rfl (J_bin rfl (Opd.tmp rfl) (Opd.tmp rfl) B_lss) ?_
        refine RegL.nil ?_
        refine Ct.then_tr ?_
        refine Tr.weak (Γ' := [(1, (pSl 1 (cK .i64) list_1)), (2, (pEq (.int .i64 item_2))), (3, (pPtr (cGProblem p_0))), (7, (pEq (.slice g7.1 g7.2.1 g7.2.2))), (9, (pEq (.int .i64 x8))), (10, (pEq (.bool v11))), (17, (pSl 1 (cK .i64) x1)), (18, (pEq (.int .i64 (x1.length : Int)))), (19, (pEq (.int .i64 v5))), (23, (pSl 1 (cK .i64) list_1)), (24, (pEq (.int .i64 (list_1.length : Int)))), (25, (pEq (.int .i64 v12))), (26, (pEq (.bool (decide (v12 < (list_1.length : Int))))))]) ⟨rfl, rfl, rfl, rfl, rfl, rfl, rfl, rfl, rfl, rfl, rfl, rfl, rfl, trivial⟩ ?_
        refine Tr.seq ?_
        refine Tr.cond (Opd.tmp rfl) (fun hc => ?_) (fun hc => ?_)
        · replace h := bif_t hc h
          refine Tr.skip ?_
          refine Ct.then_tr ?_
          refine Tr.weak (Γ' := [(1, (pSl 1 (cK .i64) list_1)), (2, (pEq (.int .i64 item_2))), (3, (pPtr (cGProblem p_0))), (7, (pEq (.slice g7.1 g7.2.1 g7.2.2))), (9, (pEq (.int .i64 x8))), (10, (pEq (.bool v11))), (17, (pSl 1 (cK .i64) x1)), (18, (pEq (.int .i64 (x1.length : Int)))), (19, (pEq (.int .i64 v5))), (23, (pSl 1 (cK .i64) list_1)), (24, (pEq (.int .i64 (list_1.length : Int)))), (25, (pEq (.int .i64 v12)))]) ⟨rfl, rfl, rfl, rfl, rfl, rfl, rfl, rfl, rfl, rfl, rfl, rfl, trivial⟩ ?_
          refine Tr.seq ?_
          refine Tr.block ?_
          refine Tr.seq ?_
          refine Tr.region ?_
          refine RegL.pure (p := (pEq (.int .i64 v12))) rfl rfl rfl (J_move rfl (Opd.tmp rfl)) ?_
          replace h := bind_some h; obtain ⟨x14, hx14, h⟩ := h
          refine RegL.pure (p := (pPtr ((cK .i64) x14))) rfl rfl rfl (J_idx rfl Try.underlying26 sz2 (Opd.tmp rfl) (Opd.tmp rfl) hx14) ?_
          refine RegL.pure (p := (pEq (.int .i64 x14))) rfl rfl rfl (J_load rfl Try.isAgg2 (Opd.tmp rfl)) ?_
          refine RegL.pure (p := (pEq (.int .i64 v12))) rfl rfl rfl (J_assign rfl (Opd.tmp rfl)) ?_
          refine RegL.pure (p := (pEq (.int .i64 x14))) rfl rfl rfl (J_assign rfl (Opd.tmp rfl)) ?_
          refine RegL.nil ?_
          refine Ct.then_tr ?_
          refine Tr.weak (Γ' := [(1, (pSl 1 (cK .i64) list_1)), (2, (pEq (.int .i64 item_2))), (3, (pPtr (cGProblem p_0))), (7, (pEq (.slice g7.1 g7.2.1 g7.2.2))), (9, (pEq (.int .i64 x8))), (10, (pEq (.bool v11))), (11, (pEq (.int .i64 v12))), (12, (pEq (.int .i64 x14))), (17, (pSl 1 (cK .i64) x1)), (18, (pEq (.int .i64 (x1.length : Int)))), (19, (pEq (.int .i64 v5))), (23, (pSl 1 (cK .i64) list_1)), (24, (pEq (.int .i64 (list_1.length : Int)))), (25, (pEq (.int .i64 v12)))]) ⟨rfl, rfl, rfl, rfl, rfl, rfl, rfl, rfl, rfl, rfl, rfl, rfl, rfl, rfl, trivial⟩ ?_
          refine Tr.seq ?_
          replace h := bind_some h; obtain ⟨x15, hx15, h⟩ := h
          refine Tr.cut (γ := Unit) (Γm := fun g => [(1, (pSl 1 (cK .i64) list_1)), (2, (pEq (.int .i64 item_2))), (3, (pPtr (cGProblem p_0))), (7, (pEq (.slice g7.1 g7.2.1 g7.2.2))), (9, (pEq (.int .i64 x8))), (10, (pEq (.bool v11))), (17, (pSl 1 (cK .i64) x1)), (18, (pEq (.int .i64 (x1.length : Int)))), (19, (pEq (.int .i64 v5))), (23, (pSl 1 (cK .i64) list_1)), (24, (pEq (.int .i64 (list_1.length : Int)))), (25, (pEq (.int .i64 v12))), (51, (pEq (.bool x15)))]) (Ωm := fun g => [oSl 2 1 (cK .i64) g7.1 g7.2.1 g7.2.2 v6]) ?_ (fun g21 => ?_)
          · clear h
            have h := hx15
            clear hx15
            rcases Bool.eq_false_or_eq_true (v12 != item_2) with hc16 | hc16
            · replace h := bif_t hc16 h
              rcases Bool.eq_false_or_eq_true (decide ((0 : Int) ≤ x14)) with hc17 | hc17
              · replace h := bif_t hc17 h
                replace h := bind_some h; obtain ⟨x18, hx18, h⟩ := h
                replace h := bind_some h; obtain ⟨x19, hx19, h⟩ := h
                replace h := bind_some h; obtain ⟨x20, hx20, h⟩ := h
                refine Tr.drawD (n := 61) (m := 22) (es := [some (Ent.mk [(11, (pEq (.int .i64 v12)))] (pEq (.int .i64 v12)) true), some (Ent.mk [(2, (pEq (.int .i64 item_2)))] (pEq (.int .i64 item_2)) true), some (Ent.mk [(30, (pEq (.int .i64 v12))), (31, (pEq (.int .i64 item_2)))] (pEq (.bool (v12 != item_2))) true), some (Ent.mk [(32, (pEq (.bool (v12 != item_2))))] (pEq (.bool (v12 != item_2))) true), some (Ent.mk [(12, (pEq (.int .i64 x14)))] (pEq (.int .i64 x14)) true), some (Ent.mk [(34, (pEq (.int .i64 x14)))] (pEq (.bool (decide ((0 : Int) ≤ x14)))) true), some (Ent.mk [(33, (pEq (.bool (v12 != item_2)))), (35, (pEq (.bool (decide ((0 : Int) ≤ x14)))))] (pEq (.bool (decide ((0 : Int) ≤ x14)))) true), some (Ent.mk [(36, (pEq (.bool (decide ((0 : Int) ≤ x14)))))] (pEq (.bool (decide ((0 : Int) ≤ x14)))) true), some (Ent.mk [(9, (pEq (.int .i64 x8)))] (pEq (.int .i64 x8)) true), some (Ent.mk [(12, (pEq (.int .i64 x14)))] (pEq (.int .i64 x14)) true), some (Ent.mk [(38, (pEq (.int .i64 x8))), (39, (pEq (.int .i64 x14)))] (pEq (.int .i64 (w64 (x8 - x14)))) true), some (Ent.mk [(40, (pEq (.int .i64 (w64 (x8 - x14)))))] (pEq (.int .i64 x18)) true), some (Ent.mk [(3, (pPtr (cGProblem p_0)))] (pPtr ((cSl 1 (cSl 1 (cK .i64))) p_0.Apart)) true), some (Ent.mk [(42, (pPtr ((cSl 1 (cSl 1 (cK .i64))) p_0.Apart)))] (pSl 1 (cSl 1 (cK .i64)) p_0.Apart) true), some (Ent.mk [(2, (pEq (.int .i64 item_2)))] (pEq (.int .i64 item_2)) true), some (Ent.mk [(43, (pSl 1 (cSl 1 (cK .i64)) p_0.Apart)), (44, (pEq (.int .i64 item_2)))] (pPtr ((cSl 1 (cK .i64)) x19)) true), some (Ent.mk [(45, (pPtr ((cSl 1 (cK .i64)) x19)))] (pSl 1 (cK .i64) x19) true), some (Ent.mk [(11, (pEq (.int .i64 v12)))] (pEq (.int .i64 v12)) true), some (Ent.mk [(46, (pSl 1 (cK .i64) x19)), (47, (pEq (.int .i64 v12)))] (pPtr ((cK .i64) x20)) true), some (Ent.mk [(48, (pPtr ((cK .i64) x20)))] (pEq (.int .i64 x20)) true), some (Ent.mk [(41, (pEq (.int .i64 x18))), (49, (pEq (.int .i64 x20)))] (pEq (.bool (decide (x18 < x20)))) true), some (Ent.mk [(37, (pEq (.bool (decide ((0 : Int) ≤ x14))))), (50, (pEq (.bool (decide (x18 < x20)))))] (pEq (.bool (decide (x18 < x20)))) true)]) (rd := [[11], [2], [30, 31], [32], [12], [34], [33, 35], [36], [9], [12], [38, 39], [40], [3], [42], [2], [43, 44], [45], [11], [46, 47], [48], [41, 49], [37, 50]]) rfl hmix (by kernel_rfl) fun hD => ?_
                refine RD.fin (es := [Ent.mk [(11, (pEq (.int .i64 v12)))] (pEq (.int .i64 v12)) true, Ent.mk [(2, (pEq (.int .i64 item_2)))] (pEq (.int .i64 item_2)) true, Ent.mk [(30, (pEq (.int .i64 v12))), (31, (pEq (.int .i64 item_2)))] (pEq (.bool (v12 != item_2))) true, Ent.mk [(32, (pEq (.bool (v12 != item_2))))] (pEq (.bool (v12 != item_2))) true, Ent.mk [(12, (pEq (.int .i64 x14)))] (pEq (.int .i64 x14)) true, Ent.mk [(34, (pEq (.int .i64 x14)))] (pEq (.bool (decide ((0 : Int) ≤ x14)))) true, Ent.mk [(33, (pEq (.bool (v12 != item_2)))), (35, (pEq (.bool (decide ((0 : Int) ≤ x14)))))] (pEq (.bool (decide ((0 : Int) ≤ x14)))) true, Ent.mk [(36, (pEq (.bool (decide ((0 : Int) ≤ x14)))))] (pEq (.bool (decide ((0 : Int) ≤ x14)))) true, Ent.mk [(9, (pEq (.int .i64 x8)))] (pEq (.int .i64 x8)) true, Ent.mk [(12, (pEq (.int .i64 x14)))] (pEq (.int .i64 x14)) true, Ent.mk [(38, (pEq (.int .i64 x8))), (39, (pEq (.int .i64 x14)))] (pEq (.int .i64 (w64 (x8 - x14)))) true, Ent.mk [(40, (pEq (.int .i64 (w64 (x8 - x14)))))] (pEq (.int .i64 x18)) true, Ent.mk [(3, (pPtr (cGProblem p_0)))] (pPtr ((cSl 1 (cSl 1 (cK .i64))) p_0.Apart)) true, Ent.mk [(42, (pPtr ((cSl 1 (cSl 1 (cK .i64))) p_0.Apart)))] (pSl 1 (cSl 1 (cK .i64)) p_0.Apart) true, Ent.mk [(2, (pEq (.int .i64 item_2)))] (pEq (.int .i64 item_2)) true, Ent.mk [(43, (pSl 1 (cSl 1 (cK .i64)) p_0.Apart)), (44, (pEq (.int .i64 item_2)))] (pPtr ((cSl 1 (cK .i64)) x19)) true, Ent.mk [(45, (pPtr ((cSl 1 (cK .i64)) x19)))] (pSl 1 (cK .i64) x19) true, Ent.mk [(11, (pEq (.int .i64 v12)))] (pEq (.int .i64 v12)) true, Ent.mk [(46, (pSl 1 (cK .i64) x19)), (47, (pEq (.int .i64 v12)))] (pPtr ((cK .i64) x20)) true, Ent.mk [(48, (pPtr ((cK .i64) x20)))] (pEq (.int .i64 x20)) true, Ent.mk [(41, (pEq (.int .i64 x18))), (49, (pEq (.int .i64 x20)))] (pEq (.bool (decide (x18 < x20)))) true, Ent.mk [(37, (pEq (.bool (decide ((0 : Int) ≤ x14))))), (50, (pEq (.bool (decide (x18 < x20)))))] (pEq (.bool (decide (x18 < x20)))) true]) (done := []) hD ⟨.inr ⟨(OpJ.w (J_move rfl (Opd.tmp rfl))), ⟨rfl, trivial⟩, rfl, rfl⟩, ⟨.inr ⟨(OpJ.w (J_move rfl (Opd.tmp rfl))), ⟨rfl, trivial⟩, rfl, rfl⟩, ⟨.inr ⟨(OpJ.w (J_bin rfl (Opd.tmp rfl) (Opd.tmp rfl) B_neq)), ⟨rfl, rfl, trivial⟩, rfl, rfl⟩, ⟨.inr ⟨(OpJ.w (J_move rfl (Opd.tmp rfl))), ⟨rfl, trivial⟩, rfl, rfl⟩, ⟨.inr ⟨(OpJ.w (J_move rfl (Opd.tmp rfl))), ⟨rfl, trivial⟩, (.inl ⟨_, rfl, by simp [hc16]⟩), rfl⟩, ⟨.inr ⟨(OpJ.w (J_bin rfl (Opd.tmp rfl) Opd.con B_geq)), ⟨rfl, trivial⟩, (.inl ⟨_, rfl, by simp [hc16]⟩), rfl⟩, ⟨.inr ⟨(OpJ.w (J_pick rfl (Opd.tmp rfl) (fun _ => (Opd.tmp rfl)) (fun hf => absurd (hc16.symm.trans hf) (by decide)))), ⟨rfl, rfl, trivial⟩, rfl, rfl⟩, ⟨.inr ⟨(OpJ.w (J_move rfl (Opd.tmp rfl))), ⟨rfl, trivial⟩, rfl, rfl⟩, ⟨.inr ⟨(OpJ.w (J_move rfl (Opd.tmp rfl))), ⟨rfl, trivial⟩, (.inl ⟨_, rfl, by simp [hc17]⟩), rfl⟩, ⟨.inr ⟨(OpJ.w (J_move rfl (Opd.tmp rfl))), ⟨rfl, trivial⟩, (.inl ⟨_, rfl, by simp [hc17]⟩), rfl⟩, ⟨.inr ⟨(OpJ.w (J_bin rfl (Opd.tmp rfl) (Opd.tmp rfl) B_sub)), ⟨rfl, rfl, trivial⟩, (.inl ⟨_, rfl, by simp [hc17]⟩), rfl⟩, ⟨.inr ⟨(OpJ.w (J_call rfl Try.call76 (c_impl_abs hx18) (Opds.cons (Opd.tmp rfl) Opds.nil))), ⟨rfl, trivial⟩, (.inl ⟨_, rfl, by simp [hc17]⟩), rfl⟩, ⟨.inr ⟨(OpJ.w (J_fieldAddr rfl Try.underlying29 rfl sz22 (by decide) (Opd.tmp rfl) rfl)), ⟨rfl, trivial⟩, (.inl ⟨_, rfl, by simp [hc17]⟩), rfl⟩, ⟨.inr ⟨(OpJ.w (J_load rfl Try.isAgg22 (Opd.tmp rfl))), ⟨rfl, trivial⟩, (.inl ⟨_, rfl, by simp [hc17]⟩), rfl⟩, ⟨.inr ⟨(OpJ.w (J_move rfl (Opd.tmp rfl))), ⟨rfl, trivial⟩, (.inl ⟨_, rfl, by simp [hc17]⟩), rfl⟩, ⟨.inr ⟨(OpJ.w (J_idx rfl Try.underlying22 sz26 (Opd.tmp rfl) (Opd.tmp rfl) hx19)), ⟨rfl, rfl, trivial⟩, (.inl ⟨_, rfl, by simp [hc17]⟩), rfl⟩, ⟨.inr ⟨(OpJ.w (J_load rfl Try.isAgg26 (Opd.tmp rfl))), ⟨rfl, trivial⟩, (.inl ⟨_, rfl, by simp [hc17]⟩), rfl⟩, ⟨.inr ⟨(OpJ.w (J_move rfl (Opd.tmp rfl))), ⟨rfl, trivial⟩, (.inl ⟨_, rfl, by simp [hc17]⟩), rfl⟩, ⟨.inr ⟨(OpJ.w (J_idx rfl Try.underlying26 sz2 (Opd.tmp rfl) (Opd.tmp rfl) hx20)), ⟨rfl, rfl, trivial⟩, (.inl ⟨_, rfl, by simp [hc17]⟩), rfl⟩, ⟨.inr ⟨(OpJ.w (J_load rfl Try.isAgg2 (Opd.tmp rfl))), ⟨rfl, trivial⟩, (.inl ⟨_, rfl, by simp [hc17]⟩), rfl⟩, ⟨.inr ⟨(OpJ.w (J_bin rfl (Opd.tmp rfl) (Opd.tmp rfl) B_lss)), ⟨rfl, rfl, trivial⟩, (.inl ⟨_, rfl, by simp [hc17]⟩), rfl⟩, ⟨.inr ⟨(OpJ.w (J_pick rfl (Opd.tmp rfl) (fun _ => (Opd.tmp rfl)) (fun hf => absurd (hc17.symm.trans hf) (by decide)))), ⟨rfl, rfl, trivial⟩, rfl, rfl⟩, trivial⟩⟩⟩⟩⟩⟩⟩⟩⟩⟩⟩⟩⟩⟩⟩⟩⟩⟩⟩⟩⟩⟩ ?_
                refine RegL.nil ?_
                replace h := Option.some.inj h; subst h
                exact Ct.mid () rfl ⟨rfl, rfl, rfl, rfl, rfl, rfl, rfl, rfl, rfl, rfl, rfl, rfl, rfl, trivial⟩
              · replace h := bif_f hc17 h
                refine Tr.drawD (n := 61) (m := 22) (es := [some (Ent.mk [(11, (pEq (.int .i64 v12)))] (pEq (.int .i64 v12)) true), some (Ent.mk [(2, (pEq (.int .i64 item_2)))] (pEq (.int .i64 item_2)) true), some (Ent.mk [(30, (pEq (.int .i64 v12))), (31, (pEq (.int .i64 item_2)))] (pEq (.bool (v12 != item_2))) true), some (Ent.mk [(32, (pEq (.bool (v12 != item_2))))] (pEq (.bool (v12 != item_2))) true), some (Ent.mk [(12, (pEq (.int .i64 x14)))] (pEq (.int .i64 x14)) true), some (Ent.mk [(34, (pEq (.int .i64 x14)))] (pEq (.bool (decide ((0 : Int) ≤ x14)))) true), some (Ent.mk [(33, (pEq (.bool (v12 != item_2)))), (35, (pEq (.bool (decide ((0 : Int) ≤ x14)))))] (pEq (.bool (decide ((0 : Int) ≤ x14)))) true), some (Ent.mk [(36, (pEq (.bool (decide ((0 : Int) ≤ x14)))))] (pEq (.bool (decide ((0 : Int) ≤ x14)))) true), some (Ent.mk [(9, (pEq (.int .i64 x8)))] (pEq undef) false), some (Ent.mk [(12, (pEq (.int .i64 x14)))] (pEq undef) false), some (Ent.mk [(38, (pEq undef)), (39, (pEq undef))] (pEq undef) false), some (Ent.mk [(40, (pEq undef))] (pEq undef) false), some (Ent.mk [(3, (pPtr (cGProblem p_0)))] (pEq undef) false), some (Ent.mk [(42, (pEq undef))] (pEq undef) false), some (Ent.mk [(2, (pEq (.int .i64 item_2)))] (pEq undef) false), some (Ent.mk [(43, (pEq undef)), (44, (pEq undef))] (pEq undef) false), some (Ent.mk [(45, (pEq undef))] (pEq undef) false), some (Ent.mk [(11, (pEq (.int .i64 v12)))] (pEq undef) false), some (Ent.mk [(46, (pEq undef)), (47, (pEq undef))] (pEq undef) false), some (Ent.mk [(48, (pEq undef))] (pEq undef) false), some (Ent.mk [(41, (pEq undef)), (49, (pEq undef))] (pEq undef) false), some (Ent.mk [(37, (pEq (.bool (decide ((0 : Int) ≤ x14))))), (50, (pEq undef))] (pEq (.bool false)) true)]) (rd := [[11], [2], [30, 31], [32], [12], [34], [33, 35], [36], [9], [12], [38, 39], [40], [3], [42], [2], [43, 44], [45], [11], [46, 47], [48], [41, 49], [37, 50]]) rfl hmix (by kernel_rfl) fun hD => ?_
                refine RD.fin (es := [Ent.mk [(11, (pEq (.int .i64 v12)))] (pEq (.int .i64 v12)) true, Ent.mk [(2, (pEq (.int .i64 item_2)))] (pEq (.int .i64 item_2)) true, Ent.mk [(30, (pEq (.int .i64 v12))), (31, (pEq (.int .i64 item_2)))] (pEq (.bool (v12 != item_2))) true, Ent.mk [(32, (pEq (.bool (v12 != item_2))))] (pEq (.bool (v12 != item_2))) true, Ent.mk [(12, (pEq (.int .i64 x14)))] (pEq (.int .i64 x14)) true, Ent.mk [(34, (pEq (.int .i64 x14)))] (pEq (.bool (decide ((0 : Int) ≤ x14)))) true, Ent.mk [(33, (pEq (.bool (v12 != item_2)))), (35, (pEq (.bool (decide ((0 : Int) ≤ x14)))))] (pEq (.bool (decide ((0 : Int) ≤ x14)))) true, Ent.mk [(36, (pEq (.bool (decide ((0 : Int) ≤ x14)))))] (pEq (.bool (decide ((0 : Int) ≤ x14)))) true, Ent.mk [(9, (pEq (.int .i64 x8)))] (pEq undef) false, Ent.mk [(12, (pEq (.int .i64 x14)))] (pEq undef) false, Ent.mk [(38, (pEq undef)), (39, (pEq undef))] (pEq undef) false, Ent.mk [(40, (pEq undef))] (pEq undef) false, Ent.mk [(3, (pPtr (cGProblem p_0)))] (pEq undef) false, Ent.mk [(42, (pEq undef))] (pEq undef) false, Ent.mk [(2, (pEq (.int .i64 item_2)))] (pEq undef) false, Ent.mk [(43, (pEq undef)), (44, (pEq undef))] (pEq undef) false, Ent.mk [(45, (pEq undef))] (pEq undef) false, Ent.mk [(11, (pEq (.int .i64 v12)))] (pEq undef) false, Ent.mk [(46, (pEq undef)), (47, (pEq undef))] (pEq undef) false, Ent.mk [(48, (pEq undef))] (pEq undef) false, Ent.mk [(41, (pEq undef)), (49, (pEq undef))] (pEq undef) false, Ent.mk [(37, (pEq (.bool (decide ((0 : Int) ≤ x14))))), (50, (pEq undef))] (pEq (.bool false)) true]) (done := []) hD ⟨.inr ⟨(OpJ.w (J_move rfl (Opd.tmp rfl))), ⟨rfl, trivial⟩, rfl, rfl⟩, ⟨.inr ⟨(OpJ.w (J_move rfl (Opd.tmp rfl))), ⟨rfl, trivial⟩, rfl, rfl⟩, ⟨.inr ⟨(OpJ.w (J_bin rfl (Opd.tmp rfl) (Opd.tmp rfl) B_neq)), ⟨rfl, rfl, trivial⟩, rfl, rfl⟩, ⟨.inr ⟨(OpJ.w (J_move rfl (Opd.tmp rfl))), ⟨rfl, trivial⟩, rfl, rfl⟩, ⟨.inr ⟨(OpJ.w (J_move rfl (Opd.tmp rfl))), ⟨rfl, trivial⟩, (.inl ⟨_, rfl, by simp [hc16]⟩), rfl⟩, ⟨.inr ⟨(OpJ.w (J_bin rfl (Opd.tmp rfl) Opd.con B_geq)), ⟨rfl, trivial⟩, (.inl ⟨_, rfl, by simp [hc16]⟩), rfl⟩, ⟨.inr ⟨(OpJ.w (J_pick rfl (Opd.tmp rfl) (fun _ => (Opd.tmp rfl)) (fun hf => absurd (hc16.symm.trans hf) (by decide)))), ⟨rfl, rfl, trivial⟩, rfl, rfl⟩, ⟨.inr ⟨(OpJ.w (J_move rfl (Opd.tmp rfl))), ⟨rfl, trivial⟩, rfl, rfl⟩, ⟨.inr ⟨rfl, ⟨rfl, trivial⟩, (.inl ⟨_, rfl, by simp [hc17]⟩), rfl⟩, ⟨.inr ⟨rfl, ⟨rfl, trivial⟩, (.inl ⟨_, rfl, by simp [hc17]⟩), rfl⟩, ⟨.inr ⟨rfl, ⟨rfl, rfl, trivial⟩, (.inl ⟨_, rfl, by simp [hc17]⟩), rfl⟩, ⟨.inr ⟨rfl, ⟨rfl, trivial⟩, (.inl ⟨_, rfl, by simp [hc17]⟩), rfl⟩, ⟨.inr ⟨rfl, ⟨rfl, trivial⟩, (.inl ⟨_, rfl, by simp [hc17]⟩), rfl⟩, ⟨.inr ⟨rfl, ⟨rfl, trivial⟩, (.inl ⟨_, rfl, by simp [hc17]⟩), rfl⟩, ⟨.inr ⟨rfl, ⟨rfl, trivial⟩, (.inl ⟨_, rfl, by simp [hc17]⟩), rfl⟩, ⟨.inr ⟨rfl, ⟨rfl, rfl, trivial⟩, (.inl ⟨_, rfl, by simp [hc17]⟩), rfl⟩, ⟨.inr ⟨rfl, ⟨rfl, trivial⟩, (.inl ⟨_, rfl, by simp [hc17]⟩), rfl⟩, ⟨.inr ⟨rfl, ⟨rfl, trivial⟩, (.inl ⟨_, rfl, by simp [hc17]⟩), rfl⟩, ⟨.inr ⟨rfl, ⟨rfl, rfl, trivial⟩, (.inl ⟨_, rfl, by simp [hc17]⟩), rfl⟩, ⟨.inr ⟨rfl, ⟨rfl, trivial⟩, (.inl ⟨_, rfl, by simp [hc17]⟩), rfl⟩, ⟨.inr ⟨rfl, ⟨rfl, rfl, trivial⟩, (.inl ⟨_, rfl, by simp [hc17]⟩), rfl⟩, ⟨.inr ⟨(OpJ.w (J_pick rfl (Opd.tmp rfl) (fun hf => absurd (hc17.symm.trans hf) (by decide)) (fun _ => Opd.con))), ⟨rfl, rfl, trivial⟩, rfl, rfl⟩, trivial⟩⟩⟩⟩⟩⟩⟩⟩⟩⟩⟩⟩⟩⟩⟩⟩⟩⟩⟩⟩⟩⟩ ?_
                refine RegL.nil ?_
                replace h := Option.some.inj h; subst h
                exact Ct.mid () rfl ⟨rfl, rfl, rfl, rfl, rfl, rfl, rfl, rfl, rfl, rfl, rfl, rfl, rfl, trivial⟩
            · replace h := bif_f hc16 h
              refine Tr.drawD (n := 61) (m := 22) (es := [some (Ent.mk [(11, (pEq (.int .i64 v12)))] (pEq (.int .i64 v12)) true), some (Ent.mk [(2, (pEq (.int .i64 item_2)))] (pEq (.int .i64 item_2)) true), some (Ent.mk [(30, (pEq (.int .i64 v12))), (31, (pEq (.int .i64 item_2)))] (pEq (.bool (v12 != item_2))) true), some (Ent.mk [(32, (pEq (.bool (v12 != item_2))))] (pEq (.bool (v12 != item_2))) true), some (Ent.mk [(12, (pEq (.int .i64 x14)))] (pEq undef) false), some (Ent.mk [(34, (pEq undef))] (pEq undef) false), some (Ent.mk [(33, (pEq (.bool (v12 != item_2)))), (35, (pEq undef))] (pEq (.bool false)) true), some (Ent.mk [(36, (pEq (.bool false)))] (pEq (.bool false)) true), some (Ent.mk [(9, (pEq (.int .i64 x8)))] (pEq undef) false), some (Ent.mk [(12, (pEq (.int .i64 x14)))] (pEq undef) false), some (Ent.mk [(38, (pEq undef)), (39, (pEq undef))] (pEq undef) false), some (Ent.mk [(40, (pEq undef))] (pEq undef) false), some (Ent.mk [(3, (pPtr (cGProblem p_0)))] (pEq undef) false), some (Ent.mk [(42, (pEq undef))] (pEq undef) false), some (Ent.mk [(2, (pEq (.int .i64 item_2)))] (pEq undef) false), some (Ent.mk [(43, (pEq undef)), (44, (pEq undef))] (pEq undef) false), some (Ent.mk [(45, (pEq undef))] (pEq undef) false), some (Ent.mk [(11, (pEq (.int .i64 v12)))] (pEq undef) false), some (Ent.mk [(46, (pEq undef)), (47, (pEq undef))] (pEq undef) false), some (Ent.mk [(48, (pEq undef))] (pEq undef) false), some (Ent.mk [(41, (pEq undef)), (49, (pEq undef))] (pEq undef) false), some (Ent.mk [(37, (pEq (.bool false))), (50, (pEq undef))] (pEq (.bool false)) true)]) (rd := [[11], [2], [30, 31], [32], [12], [34], [33, 35], [36], [9], [12], [38, 39], [40], [3], [42], [2], [43, 44], [45], [11], [46, 47], [48], [41, 49], [37, 50]]) rfl hmix (by kernel_rfl) fun hD => ?_
              refine RD.fin (es := [Ent.mk [(11, (pEq (.int .i64 v12)))] (pEq (.int .i64 v12)) true, Ent.mk [(2, (pEq (.int .i64 item_2)))] (pEq (.int .i64 item_2)) true, Ent.mk [(30, (pEq (.int .i64 v12))), (31, (pEq (.int .i64 item_2)))] (pEq (.bool (v12 != item_2))) true, Ent.mk [(32, (pEq (.bool (v12 != item_2))))] (pEq (.bool (v12 != item_2))) true, Ent.mk [(12, (pEq (.int .i64 x14)))] (pEq undef) false, Ent.mk [(34, (pEq undef))] (pEq undef) false, Ent.mk [(33, (pEq (.bool (v12 != item_2)))), (35, (pEq undef))] (pEq (.bool false)) true, Ent.mk [(36, (pEq (.bool false)))] (pEq (.bool false)) true, Ent.mk [(9, (pEq (.int .i64 x8)))] (pEq undef) false, Ent.mk [(12, (pEq (.int .i64 x14)))] (pEq undef) false, Ent.mk [(38, (pEq undef)), (39, (pEq undef))] (pEq undef) false, Ent.mk [(40, (pEq undef))] (pEq undef) false, Ent.mk [(3, (pPtr (cGProblem p_0)))] (pEq undef) false, Ent.mk [(42, (pEq undef))] (pEq undef) false, Ent.mk [(2, (pEq (.int .i64 item_2)))] (pEq undef) false, Ent.mk [(43, (pEq undef)), (44, (pEq undef))] (pEq undef) false, Ent.mk [(45, (pEq undef))] (pEq undef) false, Ent.mk [(11, (pEq (.int .i64 v12)))] (pEq undef) false, Ent.mk [(46, (pEq undef)), (47, (pEq undef))] (pEq undef) false, Ent.mk [(48, (pEq undef))] (pEq undef) false, Ent.mk [(41, (pEq undef)), (49, (pEq undef))] (pEq undef) false, Ent.mk [(37, (pEq (.bool false))), (50, (pEq undef))] (pEq (.bool false)) true]) (done := []) hD ⟨.inr ⟨(OpJ.w (J_move rfl (Opd.tmp rfl))), ⟨rfl, trivial⟩, rfl, rfl⟩, ⟨.inr ⟨(OpJ.w (J_move rfl (Opd.tmp rfl))), ⟨rfl, trivial⟩, rfl, rfl⟩, ⟨.inr ⟨(OpJ.w (J_bin rfl (Opd.tmp rfl) (Opd.tmp rfl) B_neq)), ⟨rfl, rfl, trivial⟩, rfl, rfl⟩, ⟨.inr ⟨(OpJ.w (J_move rfl (Opd.tmp rfl))), ⟨rfl, trivial⟩, rfl, rfl⟩, ⟨.inr ⟨rfl, ⟨rfl, trivial⟩, (.inl ⟨_, rfl, by simp [hc16]⟩), rfl⟩, ⟨.inr ⟨rfl, ⟨rfl, trivial⟩, (.inl ⟨_, rfl, by simp [hc16]⟩), rfl⟩, ⟨.inr ⟨(OpJ.w (J_pick rfl (Opd.tmp rfl) (fun hf => absurd (hc16.symm.trans hf) (by decide)) (fun _ => Opd.con))), ⟨rfl, rfl, trivial⟩, rfl, rfl⟩, ⟨.inr ⟨(OpJ.w (J_move rfl (Opd.tmp rfl))), ⟨rfl, trivial⟩, rfl, rfl⟩, ⟨.inr ⟨rfl, ⟨rfl, trivial⟩, (.inl ⟨_, rfl, rfl⟩), rfl⟩, ⟨.inr ⟨rfl, ⟨rfl, trivial⟩, (.inl ⟨_, rfl, rfl⟩), rfl⟩, ⟨.inr ⟨rfl, ⟨rfl, rfl, trivial⟩, (.inl ⟨_, rfl, rfl⟩), rfl⟩, ⟨.inr ⟨rfl, ⟨rfl, trivial⟩, (.inl ⟨_, rfl, rfl⟩), rfl⟩, ⟨.inr ⟨rfl, ⟨rfl, trivial⟩, (.inl ⟨_, rfl, rfl⟩), rfl⟩, ⟨.inr ⟨rfl, ⟨rfl, trivial⟩, (.inl ⟨_, rfl, rfl⟩), rfl⟩, ⟨.inr ⟨rfl, ⟨rfl, trivial⟩, (.inl ⟨_, rfl, rfl⟩), rfl⟩, ⟨.inr ⟨rfl, ⟨rfl, rfl, trivial⟩, (.inl ⟨_, rfl, rfl⟩), rfl⟩, ⟨.inr ⟨rfl, ⟨rfl, trivial⟩, (.inl ⟨_, rfl, rfl⟩), rfl⟩, ⟨.inr ⟨rfl, ⟨rfl, trivial⟩, (.inl ⟨_, rfl, rfl⟩), rfl⟩, ⟨.inr ⟨rfl, ⟨rfl, rfl, trivial⟩, (.inl ⟨_, rfl, rfl⟩), rfl⟩, ⟨.inr ⟨rfl, ⟨rfl, trivial⟩, (.inl ⟨_, rfl, rfl⟩), rfl⟩, ⟨.inr ⟨rfl, ⟨rfl, rfl, trivial⟩, (.inl ⟨_, rfl, rfl⟩), rfl⟩, ⟨.inr ⟨(OpJ.w (J_pick rfl (Opd.tmp rfl) (fun hf => absurd hf (by decide)) (fun _ => Opd.con))), ⟨rfl, rfl, trivial⟩, rfl, rfl⟩, trivial⟩⟩⟩⟩⟩⟩⟩⟩⟩⟩⟩⟩⟩⟩⟩⟩⟩⟩⟩⟩⟩⟩ ?_
              refine RegL.nil ?_
              replace h := Option.some.inj h; subst h
              exact Ct.mid () rfl ⟨rfl, rfl, rfl, rfl, rfl, rfl, rfl, rfl, rfl, rfl, rfl, rfl, rfl, trivial⟩
          · clear hx15
            refine Ct.then_tr ?_
            refine Tr.weak (Γ' := [(1, (pSl 1 (cK .i64) list_1)), (2, (pEq (.int .i64 item_2))), (3, (pPtr (cGProblem p_0))), (7, (pEq (.slice g7.1 g7.2.1 g7.2.2))), (9, (pEq (.int .i64 x8))), (10, (pEq (.bool v11))), (17, (pSl 1 (cK .i64) x1)), (18, (pEq (.int .i64 (x1.length : Int)))), (19, (pEq (.int .i64 v5))), (23, (pSl 1 (cK .i64) list_1)), (24, (pEq (.int .i64 (list_1.length : Int)))), (25, (pEq (.int .i64 v12))), (51, (pEq (.bool x15)))]) ⟨rfl, rfl, rfl, rfl, rfl, rfl, rfl, rfl, rfl, rfl, rfl, rfl, rfl, trivial⟩ ?_
            replace h := bind_some h; obtain ⟨x22, hx22, h⟩ := h
            refine Tr.cut (γ := Unit) (Γm := fun g => [(1, (pSl 1 (cK .i64) list_1)), (2, (pEq (.int .i64 item_2))), (3, (pPtr (cGProblem p_0))), (7, (pEq (.slice g7.1 g7.2.1 g7.2.2))), (9, (pEq (.int .i64 x8))), (10, (pEq (.bool x22))), (17, (pSl 1 (cK .i64) x1)), (18, (pEq (.int .i64 (x1.length : Int)))), (19, (pEq (.int .i64 v5))), (23, (pSl 1 (cK .i64) list_1)), (24, (pEq (.int .i64 (list_1.length : Int)))), (25, (pEq (.int .i64 v12)))]) (Ωm := fun g => [oSl 2 1 (cK .i64) g7.1 g7.2.1 g7.2.2 v6]) ?_ (fun g23 => ?_)
            · clear h
              have h := hx22
              clear hx22
              refine Tr.cond (Opd.tmp rfl) (fun hc => ?_) (fun hc => ?_)
              · replace h := bif_t hc h
                refine Tr.region ?_
                refine RegL.pure (p := (pEq (.bool true))) rfl rfl rfl (J_assign rfl Opd.con) ?_
                refine RegL.nil ?_
                replace h := Option.some.inj h; subst h
                exact Ct.mid () rfl ⟨rfl, rfl, rfl, rfl, rfl, rfl, rfl, rfl, rfl, rfl, rfl, rfl, trivial⟩
              · replace h := bif_f hc h
                refine Tr.skip ?_
                replace h := Option.some.inj h; subst h
                exact Ct.mid () rfl ⟨rfl, rfl, rfl, rfl, rfl, rfl, rfl, rfl, rfl, rfl, rfl, rfl, trivial⟩
            · clear hx22
              refine Ct.blk_normal ?_
              refine Ct.then_tr ?_
              refine Tr.weak (Γ' := [(1, (pSl 1 (cK .i64) list_1)), (2, (pEq (.int .i64 item_2))), (3, (pPtr (cGProblem p_0))), (7, (pEq (.slice g7.1 g7.2.1 g7.2.2))), (9, (pEq (.int .i64 x8))), (10, (pEq (.bool x22))), (17, (pSl 1 (cK .i64) x1)), (18, (pEq (.int .i64 (x1.length : Int)))), (19, (pEq (.int .i64 v5))), (23, (pSl 1 (cK .i64) list_1)), (24, (pEq (.int .i64 (list_1.length : Int)))), (25, (pEq (.int .i64 v12)))]) ⟨rfl, rfl, rfl, rfl, rfl, rfl, rfl, rfl, rfl, rfl, rfl, rfl, trivial⟩ ?_
              refine Tr.region ?_
              refine RegL.pure (p := (pEq (.int .i64 (w64 (v12 + (1 : Int)))))) rfl rfl rfl (J_bin rfl (Opd.tmp rfl) Opd.con B_add) ?_
              refine RegL.pure (p := (pEq (.int .i64 (w64 (v12 + (1 : Int)))))) rfl rfl rfl (J_move rfl (Opd.tmp rfl)) ?_
              refine RegL.nil ?_
              replace h := Option.some.inj h; subst h
              exact Ct.again () rfl ⟨rfl, rfl, rfl, rfl, rfl, rfl, rfl, rfl, rfl, rfl, rfl, rfl, trivial⟩
        · replace h := bif_f hc h
          refine Tr.exit ?_
          refine Ct.then_exit ?_
          replace h := map_some h; obtain ⟨r1, h, rfl⟩ := h
          refine Ct.out_exit fun e => ?_
          subst e
          refine Ct.blk_exit ?_
          replace h := Option.some.inj h; subst h
          exact Ct.mid () rfl ⟨rfl, rfl, rfl, rfl, rfl, rfl, rfl, rfl, rfl, trivial⟩
      · clear hx9
        refine Ct.then_tr ?_
        refine Tr.weak (Γ' := [(1, (pSl 1 (cK .i64) list_1)), (2, (pEq (.int .i64 item_2))), (3, (pPtr (cGProblem p_0))), (7, (pEq (.slice g7.1 g7.2.1 g7.2.2))), (9, (pEq (.int .i64 x8))), (10, (pEq (.bool x9))), (17, (pSl 1 (cK .i64) x1)), (18, (pEq (.int .i64 (x1.length : Int)))), (19, (pEq (.int .i64 v5)))]) ⟨rfl, rfl, rfl, rfl, rfl, rfl, rfl, rfl, rfl, trivial⟩ ?_
        refine Tr.seq ?_
        refine Tr.region ?_
        refine RegL.pure (p := (pEq (.bool x9))) rfl rfl rfl (J_move rfl (Opd.tmp rfl)) ?_
        refine RegL.pure (p := (pEq (.bool (!x9)))) rfl rfl rfl (J_not rfl (Opd.tmp rfl)) ?_
        refine RegL.nil ?_
        refine Ct.then_tr ?_
        refine Tr.weak (Γ' := [(1, (pSl 1 (cK .i64) list_1)), (2, (pEq (.int .i64 item_2))), (3, (pPtr (cGProblem p_0))), (7, (pEq (.slice g7.1 g7.2.1 g7.2.2))), (9, (pEq (.int .i64 x8))), (17, (pSl 1 (cK .i64) x1)), (18, (pEq (.int .i64 (x1.length : Int)))), (19, (pEq (.int .i64 v5))), (54, (pEq (.bool (!x9))))]) ⟨rfl, rfl, rfl, rfl, rfl, rfl, rfl, rfl, rfl, trivial⟩ ?_
        replace h := bind_some h; obtain ⟨x25, hx25, h⟩ := h
        refine Tr.cut (γ := G3) (Γm := fun g => [(1, (pSl 1 (cK .i64) list_1)), (2, (pEq (.int .i64 item_2))), (3, (pPtr (cGProblem p_0))), (7, (pEq (.slice g.1 g.2.1 g.2.2))), (17, (pSl 1 (cK .i64) x1)), (18, (pEq (.int .i64 (x1.length : Int)))), (19, (pEq (.int .i64 v5)))]) (Ωm := fun g => [oSl 2 1 (cK .i64) g.1 g.2.1 g.2.2 x25]) ?_ (fun g28 => ?_)
        · clear h
          have h := hx25
          clear hx25
          refine Tr.cond (Opd.tmp rfl) (fun hc => ?_) (fun hc => ?_)
          · replace h := bif_t hc h
            refine Tr.region ?_
            refine RegL.pure (p := (pEq (.slice g7.1 g7.2.1 g7.2.2))) rfl rfl rfl (J_move rfl (Opd.tmp rfl)) ?_
            refine RegL.pure (p := (pEq (.int .i64 x8))) rfl rfl rfl (J_move rfl (Opd.tmp rfl)) ?_
            refine RegL.pure (p := (pSl 1 (cK .i64) ([x8] : (List Int)))) rfl rfl rfl (J_buildSlice (l := ([x8] : (List Int))) (qss := [(0, (cK .i64) x8)]) rfl Try.underlying26 el2 rfl (Parts.cons (Part.one (Opd.tmp rfl) OneC.int) Parts.nil) rfl rfl) ?_
            replace h := bind_some h; obtain ⟨x26, hx26, h⟩ := h
            refine RegL.step (γ := Option Addr × Nat) (p := fun g => pEq (.slice g.1 x26.length g.2)) (Ω' := fun g => [oSl 2 1 (cK .i64) g.1 x26.length g.2 x26]) rfl rfl rfl (M_appendI rfl Try.underlying26 el2 (Opd.tmp rfl) (Opd.tmp rfl) hx26) fun g27 => ?_
            refine RegL.pure (p := (pEq (.slice g27.1 x26.length g27.2))) rfl rfl rfl (J_assign rfl (Opd.tmp rfl)) ?_
            refine RegL.nil ?_
            replace h := Option.some.inj h; subst h
            exact Ct.mid (g27.1, x26.length, g27.2) rfl ⟨rfl, rfl, rfl, rfl, rfl, rfl, rfl, trivial⟩
          · replace h := bif_f hc h
            refine Tr.skip ?_
            replace h := Option.some.inj h; subst h
            exact Ct.mid (g7.1, g7.2.1, g7.2.2) rfl ⟨rfl, rfl, rfl, rfl, rfl, rfl, rfl, trivial⟩
        · clear hx25
          refine Ct.blk_normal ?_
          refine Ct.then_tr ?_
          refine Tr.weak (Γ' := [(1, (pSl 1 (cK .i64) list_1)), (2, (pEq (.int .i64 item_2))), (3, (pPtr (cGProblem p_0))), (7, (pEq (.slice g28.1 g28.2.1 g28.2.2))), (17, (pSl 1 (cK .i64) x1)), (18, (pEq (.int .i64 (x1.length : Int)))), (19, (pEq (.int .i64 v5)))]) ⟨rfl, rfl, rfl, rfl, rfl, rfl, rfl, trivial⟩ ?_
          refine Tr.region ?_
          refine RegL.pure (p := (pEq (.int .i64 (w64 (v5 + (1 : Int)))))) rfl rfl rfl (J_bin rfl (Opd.tmp rfl) Opd.con B_add) ?_
          refine RegL.pure (p := (pEq (.int .i64 (w64 (v5 + (1 : Int)))))) rfl rfl rfl (J_move rfl (Opd.tmp rfl)) ?_
          refine RegL.nil ?_
          replace h := Option.some.inj h; subst h
          exact Ct.again (g28.1, g28.2.1, g28.2.2) rfl ⟨rfl, rfl, rfl, rfl, rfl, rfl, rfl, trivial⟩
    · replace h := bif_f hc h
      refine Tr.exit ?_
      refine Ct.then_exit ?_
      replace h := map_some h; obtain ⟨r1, h, rfl⟩ := h
      refine Ct.out_exit fun e => ?_
      subst e
      refine Ct.blk_exit ?_
      replace h := Option.some.inj h; subst h
      exact Ct.mid (g7.1, g7.2.1, g7.2.2) rfl ⟨rfl, trivial⟩
  · clear hx3
    refine Ct.then_tr ?_
    refine Tr.weak (Γ' := [(7, (pEq (.slice g29.1 g29.2.1 g29.2.2)))]) ⟨rfl, trivial⟩ ?_
    refine Tr.seq ?_
    refine Tr.region ?_
    refine RegL.pure (p := (pEq (.slice g29.1 g29.2.1 g29.2.2))) rfl rfl rfl (J_move rfl (Opd.tmp rfl)) ?_
    refine RegL.pure (p := (pEq (.slice g29.1 g29.2.1 g29.2.2))) rfl rfl rfl (J_assign rfl (Opd.tmp rfl)) ?_
    refine RegL.nil ?_
    refine Ct.then_tr ?_
    refine Tr.weak (Γ' := [(6, (pEq (.slice g29.1 g29.2.1 g29.2.2)))]) ⟨rfl, trivial⟩ ?_
    refine Tr.ret ?_
    replace h := Option.some.inj h; subst h
    exact Ct.retH1 (Ωx := []) (g29.1, g29.2.1, g29.2.2) rfl (RvOk.tmp rfl) rfl

theorem c_impl_Problem_choices {p_0 : GProblem} {list_1 : (List Int)} {item_2 : Int} {r : (List Int)} (h : m_impl_Problem_choices p_0 list_1 item_2 = some r) : CallJ Try.prog 48 [(pAgg (cGProblem p_0)), (pSl 1 (cK .i64) list_1), (pEq (.int .i64 item_2))] (pSl 1 (cK .i64) r) :=
  CallH.frozen (o_impl_Problem_choices h) (fun g => (Conv.row (f := (cK .i64)) 0 (fun _ => rfl) rfl))

theorem o_impl_GreedyAssign {p_0 : GProblem} {order_1 : (List Int)}  {r : ((List Int) × Int)} (h : m_impl_GreedyAssign p_0 order_1 = some r) : CallH Try.prog 19 [(pAgg (cGProblem p_0)), (pSl 1 (cK .i64) order_1)] [] (fun g : G3 => (pTup [(pEq (.slice g.1 g.2.1 g.2.2)), (pEq (.int .i64 r.2))])) (fun g : G3 => [oSl 2 1 (cK .i64) g.1 g.2.1 g.2.2 r.1]) := by
  unfold m_impl_GreedyAssign at h
  refine CallH.enter Try.func19 rfl Try.ntmps19 rfl fun W I0 H => ?_
  refine Tr.weak (Γ' := [(0, (pAgg (cGProblem p_0))), (1, (pSl 1 (cK .i64) order_1))]) ⟨rfl, rfl, trivial⟩ ?_
  refine Tr.seq ?_
  refine Tr.region ?_
  refine RegL.pure (p := (pPtr (cGProblem p_0))) rfl rfl rfl (J_boxA rfl (Opd.tmp rfl)) ?_
  refine RegL.pure (p := (pEq (.slice none 0 0))) rfl rfl rfl (J_assign rfl Opd.con) ?_
  refine RegL.pure (p := (pEq (.int .i64 (0 : Int)))) rfl rfl rfl (J_assign rfl Opd.con) ?_
  refine RegL.nil ?_
  refine Ct.then_tr ?_
  refine Tr.weak (Γ' := [(1, (pSl 1 (cK .i64) order_1)), (2, (pPtr (cGProblem p_0)))]) ⟨rfl, rfl, trivial⟩ ?_
  refine Tr.seq ?_
  refine Tr.block ?_
  refine Tr.seq ?_
  refine Tr.region ?_
  refine RegL.pure (p := (pAgg (cGProblem p_0))) rfl rfl rfl (J_loadA rfl Try.isAgg29 sz29 (Opd.tmp rfl) rfl) ?_
  replace h := bind_some h; obtain ⟨x1, hx1, h⟩ := h
  refine RegL.pure (p := (pEq (.bool x1))) rfl rfl rfl (J_call rfl Try.call30 (c_impl_ValidProblem hx1) (Opds.cons (Opd.tmp rfl) Opds.nil)) ?_
  refine RegL.pure (p := (pEq (.bool (!x1)))) rfl rfl rfl (J_not rfl (Opd.tmp rfl)) ?_
  refine RegL.pure (p := (pEq (.bool (!x1)))) rfl rfl rfl (J_assign rfl (Opd.tmp rfl)) ?_
  refine RegL.nil ?_
  refine Ct.then_tr ?_
  refine Tr.weak (Γ' := [(1, (pSl 1 (cK .i64) order_1)), (2, (pPtr (cGProblem p_0))), (10, (pEq (.bool (!x1))))]) ⟨rfl, rfl, rfl, trivial⟩ ?_
  refine Tr.cond (Opd.tmp rfl) (fun hc => ?_) (fun hc => ?_)
  · replace h := bif_t hc h
    refine Tr.seq ?_
    refine Tr.region ?_
    refine RegL.pure (p := (pEq (.slice none 0 0))) rfl rfl rfl (J_assign rfl Opd.con) ?_
    refine RegL.pure (p := (pEq (.int .i64 (1 : Int)))) rfl rfl rfl (J_assign rfl Opd.con) ?_
    refine RegL.nil ?_
    refine Ct.then_tr ?_
    refine Tr.weak (Γ' := [(4, (pEq (.slice none 0 0))), (5, (pEq (.int .i64 (1 : Int))))]) ⟨rfl, rfl, trivial⟩ ?_
    refine Tr.ret ?_
    refine Ct.blk_ret ?_
    refine Ct.then_ret ?_
    refine Ct.re (Ω2 := [oSl 2 1 (cK .i64) none 0 0 ([] : (List Int))]) (fun h => SatO.nilRow h) ?_
    replace h := Option.some.inj h; subst h
    exact Ct.retH2 (Ωx := []) (none, 0, 0) rfl (RvOk.tmp rfl) (RvOk.tmp rfl) rfl rfl
  · replace h := bif_f hc h
    refine Tr.seq ?_
    replace h := bind_some h; obtain ⟨x3, hx3, h⟩ := h
    refine Tr.cut (γ := Unit) (Γm := fun g => [(1, (pSl 1 (cK .i64) order_1)), (2, (pPtr (cGProblem p_0))), (14, (pEq (.bool x3)))]) (Ωm := fun g => []) ?_ (fun g14 => ?_)
    · clear h
      have h := hx3
      clear hx3
      rcases Bool.eq_false_or_eq_true ((order_1.length : Int) != (p_0.Domains.length : Int)) with hc4 | hc4
      · replace h := bif_t hc4 h
        refine Tr.drawD (n := 54) (m := 17) (es := [some (Ent.mk [(1, (pSl 1 (cK .i64) order_1))] (pSl 1 (cK .i64) order_1) true), some (Ent.mk [(15, (pSl 1 (cK .i64) order_1))] (pEq (.int .i64 (order_1.length : Int))) true), some (Ent.mk [(2, (pPtr (cGProblem p_0)))] (pPtr ((cSl 1 (cSl 1 (cK .i64))) p_0.Domains)) true), some (Ent.mk [(17, (pPtr ((cSl 1 (cSl 1 (cK .i64))) p_0.Domains)))] (pSl 1 (cSl 1 (cK .i64)) p_0.Domains) true), some (Ent.mk [(18, (pSl 1 (cSl 1 (cK .i64)) p_0.Domains))] (pEq (.int .i64 (p_0.Domains.length : Int))) true), some (Ent.mk [(16, (pEq (.int .i64 (order_1.length : Int)))), (19, (pEq (.int .i64 (p_0.Domains.length : Int))))] (pEq (.bool ((order_1.length : Int) != (p_0.Domains.length : Int)))) true), some (Ent.mk [(20, (pEq (.bool ((order_1.length : Int) != (p_0.Domains.length : Int)))))] (pEq (.bool ((order_1.length : Int) != (p_0.Domains.length : Int)))) true), some (Ent.mk [(1, (pSl 1 (cK .i64) order_1))] (pEq undef) false), some (Ent.mk [(22, (pEq undef))] (pEq undef) false), some (Ent.mk [(23, (pEq undef))] (pEq undef) false), some (Ent.mk [(24, (pEq undef))] (pEq undef) false), some (Ent.mk [(2, (pPtr (cGProblem p_0)))] (pEq undef) false), some (Ent.mk [(26, (pEq undef))] (pEq undef) false), some (Ent.mk [(25, (pEq undef)), (27, (pEq undef))] (pEq undef) false), some (Ent.mk [(28, (pEq undef))] (pEq undef) false), some (Ent.mk [(21, (pEq (.bool ((order_1.length : Int) != (p_0.Domains.length : Int))))), (29, (pEq undef))] (pEq (.bool true)) true), some (Ent.mk [(30, (pEq (.bool true)))] (pEq (.bool true)) true)]) (rd := [[1], [15], [2], [17], [18], [16, 19], [20], [1], [22], [23], [24], [2], [26], [25, 27], [28], [21, 29], [30]]) rfl hmix (by kernel_rfl) fun hD => ?_
        refine RD.fin (es := [Ent.mk [(1, (pSl 1 (cK .i64) order_1))] (pSl 1 (cK .i64) order_1) true, Ent.mk [(15, (pSl 1 (cK .i64) order_1))] (pEq (.int .i64 (order_1.length : Int))) true, Ent.mk [(2, (pPtr (cGProblem p_0)))] (pPtr ((cSl 1 (cSl 1 (cK .i64))) p_0.Domains)) true, Ent.mk [(17, (pPtr ((cSl 1 (cSl 1 (cK .i64))) p_0.Domains)))] (pSl 1 (cSl 1 (cK .i64)) p_0.Domains) true, Ent.mk [(18, (pSl 1 (cSl 1 (cK .i64)) p_0.Domains))] (pEq (.int .i64 (p_0.Domains.length : Int))) true, Ent.mk [(16, (pEq (.int .i64 (order_1.length : Int)))), (19, (pEq (.int .i64 (p_0.Domains.length : Int))))] (pEq (.bool ((order_1.length : Int) != (p_0.Domains.length : Int)))) true, Ent.mk [(20, (pEq (.bool ((order_1.length : Int) != (p_0.Domains.length : Int)))))] (pEq (.bool ((order_1.length : Int) != (p_0.Domains.length : Int)))) true, Ent.mk [(1, (pSl 1 (cK .i64) order_1))] (pEq undef) false, Ent.mk [(22, (pEq undef))] (pEq undef) false, Ent.mk [(23, (pEq undef))] (pEq undef) false, Ent.mk [(24, (pEq undef))] (pEq undef) false, Ent.mk [(2, (pPtr (cGProblem p_0)))] (pEq undef) false, Ent.mk [(26, (pEq undef))] (pEq undef) false, Ent.mk [(25, (pEq undef)), (27, (pEq undef))] (pEq undef) false, Ent.mk [(28, (pEq undef))] (pEq undef) false, Ent.mk [(21, (pEq (.bool ((order_1.length : Int) != (p_0.Domains.length : Int))))), (29, (pEq undef))] (pEq (.bool true)) true, Ent.mk [(30, (pEq (.bool true)))] (pEq (.bool true)) true]) (done := []) hD ⟨.inr ⟨(OpJ.w (J_move rfl (Opd.tmp rfl))), ⟨rfl, trivial⟩, rfl, rfl⟩, ⟨.inr ⟨(OpJ.w (J_len rfl Try.underlying26 (Opd.tmp rfl) rfl)), ⟨rfl, trivial⟩, rfl, rfl⟩, ⟨.inr ⟨(OpJ.w (J_fieldAddr rfl Try.underlying29 rfl sz22 (by decide) (Opd.tmp rfl) rfl)), ⟨rfl, trivial⟩, rfl, rfl⟩, ⟨.inr ⟨(OpJ.w (J_load rfl Try.isAgg22 (Opd.tmp rfl))), ⟨rfl, trivial⟩, rfl, rfl⟩, ⟨.inr ⟨(OpJ.w (J_len rfl Try.underlying22 (Opd.tmp rfl) rfl)), ⟨rfl, trivial⟩, rfl, rfl⟩, ⟨.inr ⟨(OpJ.w (J_bin rfl (Opd.tmp rfl) (Opd.tmp rfl) B_neq)), ⟨rfl, rfl, trivial⟩, rfl, rfl⟩, ⟨.inr ⟨(OpJ.w (J_move rfl (Opd.tmp rfl))), ⟨rfl, trivial⟩, rfl, rfl⟩, ⟨.inr ⟨rfl, ⟨rfl, trivial⟩, (.inl ⟨_, rfl, by simp [hc4]⟩), rfl⟩, ⟨.inr ⟨rfl, ⟨rfl, trivial⟩, (.inl ⟨_, rfl, by simp [hc4]⟩), rfl⟩, ⟨.inr ⟨rfl, ⟨rfl, trivial⟩, (.inl ⟨_, rfl, by simp [hc4]⟩), rfl⟩, ⟨.inr ⟨rfl, ⟨rfl, trivial⟩, (.inl ⟨_, rfl, by simp [hc4]⟩), rfl⟩, ⟨.inr ⟨rfl, ⟨rfl, trivial⟩, (.inl ⟨_, rfl, by simp [hc4]⟩), rfl⟩, ⟨.inr ⟨rfl, ⟨rfl, trivial⟩, (.inl ⟨_, rfl, by simp [hc4]⟩), rfl⟩, ⟨.inr ⟨rfl, ⟨rfl, rfl, trivial⟩, (.inl ⟨_, rfl, by simp [hc4]⟩), rfl⟩, ⟨.inr ⟨rfl, ⟨rfl, trivial⟩, (.inl ⟨_, rfl, by simp [hc4]⟩), rfl⟩, ⟨.inr ⟨(OpJ.w (J_pick rfl (Opd.tmp rfl) (fun _ => Opd.con) (fun hf => absurd (hc4.symm.trans hf) (by decide)))), ⟨rfl, rfl, trivial⟩, rfl, rfl⟩, ⟨.inr ⟨(OpJ.w (J_assign rfl (Opd.tmp rfl))), ⟨rfl, trivial⟩, rfl, rfl⟩, trivial⟩⟩⟩⟩⟩⟩⟩⟩⟩⟩⟩⟩⟩⟩⟩⟩⟩ ?_
        refine RegL.nil ?_
        replace h := Option.some.inj h; subst h
        exact Ct.mid () rfl ⟨rfl, rfl, rfl, trivial⟩
      · replace h := bif_f hc4 h
        replace h := bind_some h; obtain ⟨x5, hx5, h⟩ := h
        refine Tr.drawD (n := 54) (m := 17) (es := [some (Ent.mk [(1, (pSl 1 (cK .i64) order_1))] (pSl 1 (cK .i64) order_1) true), some (Ent.mk [(15, (pSl 1 (cK .i64) order_1))] (pEq (.int .i64 (order_1.length : Int))) true), some (Ent.mk [(2, (pPtr (cGProblem p_0)))] (pPtr ((cSl 1 (cSl 1 (cK .i64))) p_0.Domains)) true), some (Ent.mk [(17, (pPtr ((cSl 1 (cSl 1 (cK .i64))) p_0.Domains)))] (pSl 1 (cSl 1 (cK .i64)) p_0.Domains) true), some (Ent.mk [(18, (pSl 1 (cSl 1 (cK .i64)) p_0.Domains))] (pEq (.int .i64 (p_0.Domains.length : Int))) true), some (Ent.mk [(16, (pEq (.int .i64 (order_1.length : Int)))), (19, (pEq (.int .i64 (p_0.Domains.length : Int))))] (pEq (.bool ((order_1.length : Int) != (p_0.Domains.length : Int)))) true), some (Ent.mk [(20, (pEq (.bool ((order_1.length : Int) != (p_0.Domains.length : Int)))))] (pEq (.bool ((order_1.length : Int) != (p_0.Domains.length : Int)))) true), some (Ent.mk [(1, (pSl 1 (cK .i64) order_1))] (pSl 1 (cK .i64) order_1) true), some (Ent.mk [(22, (pSl 1 (cK .i64) order_1))] (pSeq 74 x5) true), none, none, some (Ent.mk [(2, (pPtr (cGProblem p_0)))] (pAgg (cGProblem p_0)) true), none, none, none, none, none]) (rd := [[1], [15], [2], [17], [18], [16, 19], [20], [1], [22], [23], [24], [2], [26], [25, 27], [28], [21, 29], [30]]) rfl hmix (by kernel_rfl) fun hD => ?_
        replace h := bind_some h; obtain ⟨x6, hx6, h⟩ := h
        refine RD.step hD (es := [some (Ent.mk [(1, (pSl 1 (cK .i64) order_1))] (pSl 1 (cK .i64) order_1) true), some (Ent.mk [(15, (pSl 1 (cK .i64) order_1))] (pEq (.int .i64 (order_1.length : Int))) true), some (Ent.mk [(2, (pPtr (cGProblem p_0)))] (pPtr ((cSl 1 (cSl 1 (cK .i64))) p_0.Domains)) true), some (Ent.mk [(17, (pPtr ((cSl 1 (cSl 1 (cK .i64))) p_0.Domains)))] (pSl 1 (cSl 1 (cK .i64)) p_0.Domains) true), some (Ent.mk [(18, (pSl 1 (cSl 1 (cK .i64)) p_0.Domains))] (pEq (.int .i64 (p_0.Domains.length : Int))) true), some (Ent.mk [(16, (pEq (.int .i64 (order_1.length : Int)))), (19, (pEq (.int .i64 (p_0.Domains.length : Int))))] (pEq (.bool ((order_1.length : Int) != (p_0.Domains.length : Int)))) true), some (Ent.mk [(20, (pEq (.bool ((order_1.length : Int) != (p_0.Domains.length : Int)))))] (pEq (.bool ((order_1.length : Int) != (p_0.Domains.length : Int)))) true), some (Ent.mk [(1, (pSl 1 (cK .i64) order_1))] (pSl 1 (cK .i64) order_1) true), some (Ent.mk [(22, (pSl 1 (cK .i64) order_1))] (pSeq 74 x5) true), none, none, some (Ent.mk [(2, (pPtr (cGProblem p_0)))] (pAgg (cGProblem p_0)) true), none, none, none, none, none]) (done := []) (mask := [true, true, true, true, true, true, true, true, true, false, false, true, false, false, false, false, false]) (γ := G3) (p := fun g => (pEq (.slice g.1 g.2.1 g.2.2))) (Ω' := fun g => [oSl 2 1 (cK .i64) g.1 g.2.1 g.2.2 x6]) (es' := fun g7 => [some (Ent.mk [(1, (pSl 1 (cK .i64) order_1))] (pSl 1 (cK .i64) order_1) true), some (Ent.mk [(15, (pSl 1 (cK .i64) order_1))] (pEq (.int .i64 (order_1.length : Int))) true), some (Ent.mk [(2, (pPtr (cGProblem p_0)))] (pPtr ((cSl 1 (cSl 1 (cK .i64))) p_0.Domains)) true), some (Ent.mk [(17, (pPtr ((cSl 1 (cSl 1 (cK .i64))) p_0.Domains)))] (pSl 1 (cSl 1 (cK .i64)) p_0.Domains) true), some (Ent.mk [(18, (pSl 1 (cSl 1 (cK .i64)) p_0.Domains))] (pEq (.int .i64 (p_0.Domains.length : Int))) true), some (Ent.mk [(16, (pEq (.int .i64 (order_1.length : Int)))), (19, (pEq (.int .i64 (p_0.Domains.length : Int))))] (pEq (.bool ((order_1.length : Int) != (p_0.Domains.length : Int)))) true), some (Ent.mk [(20, (pEq (.bool ((order_1.length : Int) != (p_0.Domains.length : Int)))))] (pEq (.bool ((order_1.length : Int) != (p_0.Domains.length : Int)))) true), some (Ent.mk [(1, (pSl 1 (cK .i64) order_1))] (pSl 1 (cK .i64) order_1) true), some (Ent.mk [(22, (pSl 1 (cK .i64) order_1))] (pSeq 74 x5) true), some (Ent.mk [(23, (pSeq 74 x5))] (pEq (.slice g7.1 g7.2.1 g7.2.2)) true), none, some (Ent.mk [(2, (pPtr (cGProblem p_0)))] (pAgg (cGProblem p_0)) true), none, none, none, none, none]) (Γc := [(23, (pSeq 74 x5))]) 9 rfl (.inl ⟨_, rfl, by simp [hc4]⟩) rfl (by kernel_rfl) ⟨.inr ⟨(OpJ.w (J_move rfl (Opd.tmp rfl))), ⟨rfl, trivial⟩, rfl, rfl⟩, ⟨.inr ⟨(OpJ.w (J_len rfl Try.underlying26 (Opd.tmp rfl) rfl)), ⟨rfl, trivial⟩, rfl, rfl⟩, ⟨.inr ⟨(OpJ.w (J_fieldAddr rfl Try.underlying29 rfl sz22 (by decide) (Opd.tmp rfl) rfl)), ⟨rfl, trivial⟩, rfl, rfl⟩, ⟨.inr ⟨(OpJ.w (J_load rfl Try.isAgg22 (Opd.tmp rfl))), ⟨rfl, trivial⟩, rfl, rfl⟩, ⟨.inr ⟨(OpJ.w (J_len rfl Try.underlying22 (Opd.tmp rfl) rfl)), ⟨rfl, trivial⟩, rfl, rfl⟩, ⟨.inr ⟨(OpJ.w (J_bin rfl (Opd.tmp rfl) (Opd.tmp rfl) B_neq)), ⟨rfl, rfl, trivial⟩, rfl, rfl⟩, ⟨.inr ⟨(OpJ.w (J_move rfl (Opd.tmp rfl))), ⟨rfl, trivial⟩, rfl, rfl⟩, ⟨.inr ⟨(OpJ.w (J_move rfl (Opd.tmp rfl))), ⟨rfl, trivial⟩, (.inl ⟨_, rfl, by simp [hc4]⟩), rfl⟩, ⟨.inr ⟨(OpJ.w (J_call rfl Try.call45 (c_slices_Values_int64_int64 hx5) (Opds.cons (Opd.tmp rfl) Opds.nil))), ⟨rfl, trivial⟩, (.inl ⟨_, rfl, by simp [hc4]⟩), rfl⟩, ⟨.inr ⟨(OpJ.w (J_loadA rfl Try.isAgg29 sz29 (Opd.tmp rfl) rfl)), ⟨rfl, trivial⟩, (.inl ⟨_, rfl, by simp [hc4]⟩), rfl⟩, trivial⟩⟩⟩⟩⟩⟩⟩⟩⟩⟩ rfl rfl ⟨rfl, trivial⟩ (fun _ => M_callH (Ωi := []) rfl Try.call44 (o_slices_Sorted_int64 hx6) (Opds.cons (Opd.tmp rfl) Opds.nil)) (fun g7 => ⟨rfl, ⟨rfl, ⟨rfl, ⟨rfl, ⟨rfl, ⟨rfl, ⟨rfl, ⟨rfl, ⟨rfl, ⟨rfl, trivial⟩⟩⟩⟩⟩⟩⟩⟩⟩⟩) (fun g7 => rfl) rfl fun g7 => ?_
        replace h := bind_some h; obtain ⟨x9, hx9, h⟩ := h
        refine RD.step hD (es := [some (Ent.mk [(1, (pSl 1 (cK .i64) order_1))] (pSl 1 (cK .i64) order_1) true), some (Ent.mk [(15, (pSl 1 (cK .i64) order_1))] (pEq (.int .i64 (order_1.length : Int))) true), some (Ent.mk [(2, (pPtr (cGProblem p_0)))] (pPtr ((cSl 1 (cSl 1 (cK .i64))) p_0.Domains)) true), some (Ent.mk [(17, (pPtr ((cSl 1 (cSl 1 (cK .i64))) p_0.Domains)))] (pSl 1 (cSl 1 (cK .i64)) p_0.Domains) true), some (Ent.mk [(18, (pSl 1 (cSl 1 (cK .i64)) p_0.Domains))] (pEq (.int .i64 (p_0.Domains.length : Int))) true), some (Ent.mk [(16, (pEq (.int .i64 (order_1.length : Int)))), (19, (pEq (.int .i64 (p_0.Domains.length : Int))))] (pEq (.bool ((order_1.length : Int) != (p_0.Domains.length : Int)))) true), some (Ent.mk [(20, (pEq (.bool ((order_1.length : Int) != (p_0.Domains.length : Int)))))] (pEq (.bool ((order_1.length : Int) != (p_0.Domains.length : Int)))) true), some (Ent.mk [(1, (pSl 1 (cK .i64) order_1))] (pSl 1 (cK .i64) order_1) true), some (Ent.mk [(22, (pSl 1 (cK .i64) order_1))] (pSeq 74 x5) true), some (Ent.mk [(23, (pSeq 74 x5))] (pEq (.slice g7.1 g7.2.1 g7.2.2)) true), none, some (Ent.mk [(2, (pPtr (cGProblem p_0)))] (pAgg (cGProblem p_0)) true), none, none, none, none, none]) (done := [9]) (mask := [true, true, true, true, true, true, true, true, true, true, false, true, false, false, false, false, false]) (γ := G3) (p := fun g => (pEq (.slice g.1 g.2.1 g.2.2))) (Ω' := fun g => [oSl 2 1 (cK .i64) g.1 g.2.1 g.2.2 x9]) (es' := fun g10 => [some (Ent.mk [(1, (pSl 1 (cK .i64) order_1))] (pSl 1 (cK .i64) order_1) true), some (Ent.mk [(15, (pSl 1 (cK .i64) order_1))] (pEq (.int .i64 (order_1.length : Int))) true), some (Ent.mk [(2, (pPtr (cGProblem p_0)))] (pPtr ((cSl 1 (cSl 1 (cK .i64))) p_0.Domains)) true), some (Ent.mk [(17, (pPtr ((cSl 1 (cSl 1 (cK .i64))) p_0.Domains)))] (pSl 1 (cSl 1 (cK .i64)) p_0.Domains) true), some (Ent.mk [(18, (pSl 1 (cSl 1 (cK .i64)) p_0.Domains))] (pEq (.int .i64 (p_0.Domains.length : Int))) true), some (Ent.mk [(16, (pEq (.int .i64 (order_1.length : Int)))), (19, (pEq (.int .i64 (p_0.Domains.length : Int))))] (pEq (.bool ((order_1.length : Int) != (p_0.Domains.length : Int)))) true), some (Ent.mk [(20, (pEq (.bool ((order_1.length : Int) != (p_0.Domains.length : Int)))))] (pEq (.bool ((order_1.length : Int) != (p_0.Domains.length : Int)))) true), some (Ent.mk [(1, (pSl 1 (cK .i64) order_1))] (pSl 1 (cK .i64) order_1) true), some (Ent.mk [(22, (pSl 1 (cK .i64) order_1))] (pSeq 74 x5) true), some (Ent.mk [(23, (pSeq 74 x5))] (pEq (.slice g7.1 g7.2.1 g7.2.2)) true), some (Ent.mk [(24, (pEq (.slice g7.1 g7.2.1 g7.2.2)))] (pEq (.slice g10.1 g10.2.1 g10.2.2)) true), some (Ent.mk [(2, (pPtr (cGProblem p_0)))] (pAgg (cGProblem p_0)) true), none, none, none, none, none]) (Γc := [(24, (pEq (.slice g7.1 g7.2.1 g7.2.2)))]) 10 rfl (.inl ⟨_, rfl, by simp [hc4]⟩) rfl (by kernel_rfl) ⟨.inr ⟨(OpJ.w (J_move rfl (Opd.tmp rfl))), ⟨rfl, trivial⟩, rfl, rfl⟩, ⟨.inr ⟨(OpJ.w (J_len rfl Try.underlying26 (Opd.tmp rfl) rfl)), ⟨rfl, trivial⟩, rfl, rfl⟩, ⟨.inr ⟨(OpJ.w (J_fieldAddr rfl Try.underlying29 rfl sz22 (by decide) (Opd.tmp rfl) rfl)), ⟨rfl, trivial⟩, rfl, rfl⟩, ⟨.inr ⟨(OpJ.w (J_load rfl Try.isAgg22 (Opd.tmp rfl))), ⟨rfl, trivial⟩, rfl, rfl⟩, ⟨.inr ⟨(OpJ.w (J_len rfl Try.underlying22 (Opd.tmp rfl) rfl)), ⟨rfl, trivial⟩, rfl, rfl⟩, ⟨.inr ⟨(OpJ.w (J_bin rfl (Opd.tmp rfl) (Opd.tmp rfl) B_neq)), ⟨rfl, rfl, trivial⟩, rfl, rfl⟩, ⟨.inr ⟨(OpJ.w (J_move rfl (Opd.tmp rfl))), ⟨rfl, trivial⟩, rfl, rfl⟩, ⟨.inr ⟨(OpJ.w (J_move rfl (Opd.tmp rfl))), ⟨rfl, trivial⟩, (.inl ⟨_, rfl, by simp [hc4]⟩), rfl⟩, ⟨.inr ⟨(OpJ.w (J_call rfl Try.call45 (c_slices_Values_int64_int64 hx5) (Opds.cons (Opd.tmp rfl) Opds.nil))), ⟨rfl, trivial⟩, (.inl ⟨_, rfl, by simp [hc4]⟩), rfl⟩, ⟨.inl rfl, ⟨.inr ⟨(OpJ.w (J_loadA rfl Try.isAgg29 sz29 (Opd.tmp rfl) rfl)), ⟨rfl, trivial⟩, (.inl ⟨_, rfl, by simp [hc4]⟩), rfl⟩, trivial⟩⟩⟩⟩⟩⟩⟩⟩⟩⟩⟩ rfl rfl ⟨rfl, trivial⟩ (fun _ => M_callH (Ωi := [oSl 2 1 (cK .i64) g7.1 g7.2.1 g7.2.2 x6]) rfl Try.call43 (o_slices_Compact_int64_int64 hx9) (Opds.cons (Opd.tmp rfl) Opds.nil)) (fun g10 => ⟨rfl, ⟨rfl, ⟨rfl, ⟨rfl, ⟨rfl, ⟨rfl, ⟨rfl, ⟨rfl, ⟨rfl, ⟨rfl, ⟨rfl, trivial⟩⟩⟩⟩⟩⟩⟩⟩⟩⟩⟩) (fun g10 => rfl) rfl fun g10 => ?_
        replace h := bind_some h; obtain ⟨x12, hx12, h⟩ := h
        replace h := bind_some h; obtain ⟨x13, hx13, h⟩ := h
        refine RD.ext (es' := [some (Ent.mk [(1, (pSl 1 (cK .i64) order_1))] (pSl 1 (cK .i64) order_1) true), some (Ent.mk [(15, (pSl 1 (cK .i64) order_1))] (pEq (.int .i64 (order_1.length : Int))) true), some (Ent.mk [(2, (pPtr (cGProblem p_0)))] (pPtr ((cSl 1 (cSl 1 (cK .i64))) p_0.Domains)) true), some (Ent.mk [(17, (pPtr ((cSl 1 (cSl 1 (cK .i64))) p_0.Domains)))] (pSl 1 (cSl 1 (cK .i64)) p_0.Domains) true), some (Ent.mk [(18, (pSl 1 (cSl 1 (cK .i64)) p_0.Domains))] (pEq (.int .i64 (p_0.Domains.length : Int))) true), some (Ent.mk [(16, (pEq (.int .i64 (order_1.length : Int)))), (19, (pEq (.int .i64 (p_0.Domains.length : Int))))] (pEq (.bool ((order_1.length : Int) != (p_0.Domains.length : Int)))) true), some (Ent.mk [(20, (pEq (.bool ((order_1.length : Int) != (p_0.Domains.length : Int)))))] (pEq (.bool ((order_1.length : Int) != (p_0.Domains.length : Int)))) true), some (Ent.mk [(1, (pSl 1 (cK .i64) order_1))] (pSl 1 (cK .i64) order_1) true), some (Ent.mk [(22, (pSl 1 (cK .i64) order_1))] (pSeq 74 x5) true), some (Ent.mk [(23, (pSeq 74 x5))] (pEq (.slice g7.1 g7.2.1 g7.2.2)) true), some (Ent.mk [(24, (pEq (.slice g7.1 g7.2.1 g7.2.2)))] (pEq (.slice g10.1 g10.2.1 g10.2.2)) true), some (Ent.mk [(2, (pPtr (cGProblem p_0)))] (pAgg (cGProblem p_0)) true), some (Ent.mk [(26, (pAgg (cGProblem p_0)))] (pSl 1 (cK .i64) x12) true), some (Ent.mk [(25, (pEq (.slice g10.1 g10.2.1 g10.2.2))), (27, (pSl 1 (cK .i64) x12))] (pEq (.bool x13)) true), some (Ent.mk [(28, (pEq (.bool x13)))] (pEq (.bool (!x13))) true), some (Ent.mk [(21, (pEq (.bool ((order_1.length : Int) != (p_0.Domains.length : Int))))), (29, (pEq (.bool (!x13))))] (pEq (.bool (!x13))) true), some (Ent.mk [(30, (pEq (.bool (!x13))))] (pEq (.bool (!x13))) true)]) ⟨rfl, ⟨rfl, ⟨rfl, ⟨rfl, ⟨rfl, ⟨rfl, ⟨rfl, ⟨rfl, ⟨rfl, ⟨rfl, ⟨rfl, ⟨rfl, trivial⟩⟩⟩⟩⟩⟩⟩⟩⟩⟩⟩⟩ ?_
        refine RD.fin (es := [Ent.mk [(1, (pSl 1 (cK .i64) order_1))] (pSl 1 (cK .i64) order_1) true, Ent.mk [(15, (pSl 1 (cK .i64) order_1))] (pEq (.int .i64 (order_1.length : Int))) true, Ent.mk [(2, (pPtr (cGProblem p_0)))] (pPtr ((cSl 1 (cSl 1 (cK .i64))) p_0.Domains)) true, Ent.mk [(17, (pPtr ((cSl 1 (cSl 1 (cK .i64))) p_0.Domains)))] (pSl 1 (cSl 1 (cK .i64)) p_0.Domains) true, Ent.mk [(18, (pSl 1 (cSl 1 (cK .i64)) p_0.Domains))] (pEq (.int .i64 (p_0.Domains.length : Int))) true, Ent.mk [(16, (pEq (.int .i64 (order_1.length : Int)))), (19, (pEq (.int .i64 (p_0.Domains.length : Int))))] (pEq (.bool ((order_1.length : Int) != (p_0.Domains.length : Int)))) true, Ent.mk [(20, (pEq (.bool ((order_1.length : Int) != (p_0.Domains.length : Int)))))] (pEq (.bool ((order_1.length : Int) != (p_0.Domains.length : Int)))) true, Ent.mk [(1, (pSl 1 (cK .i64) order_1))] (pSl 1 (cK .i64) order_1) true, Ent.mk [(22, (pSl 1 (cK .i64) order_1))] (pSeq 74 x5) true, Ent.mk [(23, (pSeq 74 x5))] (pEq (.slice g7.1 g7.2.1 g7.2.2)) true, Ent.mk [(24, (pEq (.slice g7.1 g7.2.1 g7.2.2)))] (pEq (.slice g10.1 g10.2.1 g10.2.2)) true, Ent.mk [(2, (pPtr (cGProblem p_0)))] (pAgg (cGProblem p_0)) true, Ent.mk [(26, (pAgg (cGProblem p_0)))] (pSl 1 (cK .i64) x12) true, Ent.mk [(25, (pEq (.slice g10.1 g10.2.1 g10.2.2))), (27, (pSl 1 (cK .i64) x12))] (pEq (.bool x13)) true, Ent.mk [(28, (pEq (.bool x13)))] (pEq (.bool (!x13))) true, Ent.mk [(21, (pEq (.bool ((order_1.length : Int) != (p_0.Domains.length : Int))))), (29, (pEq (.bool (!x13))))] (pEq (.bool (!x13))) true, Ent.mk [(30, (pEq (.bool (!x13))))] (pEq (.bool (!x13))) true]) (done := [10, 9]) hD ⟨.inr ⟨(OpJ.w (J_move rfl (Opd.tmp rfl))), ⟨rfl, trivial⟩, rfl, rfl⟩, ⟨.inr ⟨(OpJ.w (J_len rfl Try.underlying26 (Opd.tmp rfl) rfl)), ⟨rfl, trivial⟩, rfl, rfl⟩, ⟨.inr ⟨(OpJ.w (J_fieldAddr rfl Try.underlying29 rfl sz22 (by decide) (Opd.tmp rfl) rfl)), ⟨rfl, trivial⟩, rfl, rfl⟩, ⟨.inr ⟨(OpJ.w (J_load rfl Try.isAgg22 (Opd.tmp rfl))), ⟨rfl, trivial⟩, rfl, rfl⟩, ⟨.inr ⟨(OpJ.w (J_len rfl Try.underlying22 (Opd.tmp rfl) rfl)), ⟨rfl, trivial⟩, rfl, rfl⟩, ⟨.inr ⟨(OpJ.w (J_bin rfl (Opd.tmp rfl) (Opd.tmp rfl) B_neq)), ⟨rfl, rfl, trivial⟩, rfl, rfl⟩, ⟨.inr ⟨(OpJ.w (J_move rfl (Opd.tmp rfl))), ⟨rfl, trivial⟩, rfl, rfl⟩, ⟨.inr ⟨(OpJ.w (J_move rfl (Opd.tmp rfl))), ⟨rfl, trivial⟩, (.inl ⟨_, rfl, by simp [hc4]⟩), rfl⟩, ⟨.inr ⟨(OpJ.w (J_call rfl Try.call45 (c_slices_Values_int64_int64 hx5) (Opds.cons (Opd.tmp rfl) Opds.nil))), ⟨rfl, trivial⟩, (.inl ⟨_, rfl, by simp [hc4]⟩), rfl⟩, ⟨.inl rfl, ⟨.inl rfl, ⟨.inr ⟨(OpJ.w (J_loadA rfl Try.isAgg29 sz29 (Opd.tmp rfl) rfl)), ⟨rfl, trivial⟩, (.inl ⟨_, rfl, by simp [hc4]⟩), rfl⟩, ⟨.inr ⟨(OpJ.w (J_call rfl Try.call46 (c_impl_Problem_items hx12) (Opds.cons (Opd.tmp rfl) Opds.nil))), ⟨rfl, trivial⟩, (.inl ⟨_, rfl, by simp [hc4]⟩), rfl⟩, ⟨.inr ⟨(W_call rfl Try.call42 (c_slices_Equal_int64_int64 hx13) (OpdsA.cons (OpdA.conv rfl (Conv.row (f := (cK .i64)) 0 (fun _ => rfl) rfl)) (OpdsA.cons (OpdA.of (Opd.tmp rfl)) OpdsA.nil)) FreeP.eq), ⟨rfl, rfl, trivial⟩, (.inl ⟨_, rfl, by simp [hc4]⟩), rfl⟩, ⟨.inr ⟨(OpJ.w (J_not rfl (Opd.tmp rfl))), ⟨rfl, trivial⟩, (.inl ⟨_, rfl, by simp [hc4]⟩), rfl⟩, ⟨.inr ⟨(OpJ.w (J_pick rfl (Opd.tmp rfl) (fun hf => absurd (hc4.symm.trans hf) (by decide)) (fun _ => (Opd.tmp rfl)))), ⟨rfl, rfl, trivial⟩, rfl, rfl⟩, ⟨.inr ⟨(OpJ.w (J_assign rfl (Opd.tmp rfl))), ⟨rfl, trivial⟩, rfl, rfl⟩, trivial⟩⟩⟩⟩⟩⟩⟩⟩⟩⟩⟩⟩⟩⟩⟩⟩⟩ ?_
        refine RegL.nil ?_
        refine Ct.re (Ω2 := []) (fun h => SatO.rest h) ?_
        replace h := Option.some.inj h; subst h
        exact Ct.mid () rfl ⟨rfl, rfl, rfl, trivial⟩
    · clear hx3
      refine Ct.then_tr ?_
      refine Tr.weak (Γ' := [(1, (pSl 1 (cK .i64) order_1)), (2, (pPtr (cGProblem p_0))), (14, (pEq (.bool x3)))]) ⟨rfl, rfl, rfl, trivial⟩ ?_
      refine Tr.cond (Opd.tmp rfl) (fun hc => ?_) (fun hc => ?_)
      · replace h := bif_t hc h
        refine Tr.seq ?_
        refine Tr.region ?_
        refine RegL.pure (p := (pEq (.slice none 0 0))) rfl rfl rfl (J_assign rfl Opd.con) ?_
        refine RegL.pure (p := (pEq (.int .i64 (2 : Int)))) rfl rfl rfl (J_assign rfl Opd.con) ?_
        refine RegL.nil ?_
        refine Ct.then_tr ?_
        refine Tr.weak (Γ' := [(4, (pEq (.slice none 0 0))), (5, (pEq (.int .i64 (2 : Int))))]) ⟨rfl, rfl, trivial⟩ ?_
        refine Tr.ret ?_
        refine Ct.blk_ret ?_
        refine Ct.then_ret ?_
        refine Ct.re (Ω2 := [oSl 2 1 (cK .i64) none 0 0 ([] : (List Int))]) (fun h => SatO.nilRow h) ?_
        replace h := Option.some.inj h; subst h
        exact Ct.retH2 (Ωx := []) (none, 0, 0) rfl (RvOk.tmp rfl) (RvOk.tmp rfl) rfl rfl
      · replace h := bif_f hc h
        refine Tr.skip ?_
        refine Ct.blk_normal ?_
        refine Ct.then_tr ?_
        refine Tr.weak (Γ' := [(1, (pSl 1 (cK .i64) order_1)), (2, (pPtr (cGProblem p_0)))]) ⟨rfl, rfl, trivial⟩ ?_
        refine Tr.seq ?_
        refine Tr.region ?_
        refine RegL.pure (p := (pAgg (cGProblem p_0))) rfl rfl rfl (J_loadA rfl Try.isAgg29 sz29 (Opd.tmp rfl) rfl) ?_
        replace h := bind_some h; obtain ⟨x16, hx16, h⟩ := h
        refine RegL.step (γ := G3) (p := fun g => (pEq (.slice g.1 g.2.1 g.2.2))) (Ω' := fun g => [oSl 2 1 (cK .i64) g.1 g.2.1 g.2.2 x16]) rfl rfl rfl (M_callH (Ωi := []) rfl Try.call47 (o_impl_Problem_unassigned hx16) (Opds.cons (Opd.tmp rfl) Opds.nil)) fun g17 => ?_
        refine RegL.pure (p := (pEq (.slice g17.1 g17.2.1 g17.2.2))) rfl rfl rfl (J_assign rfl (Opd.tmp rfl)) ?_
        refine RegL.nil ?_
        refine Ct.then_tr ?_
        refine Tr.weak (Γ' := [(1, (pSl 1 (cK .i64) order_1)), (2, (pPtr (cGProblem p_0))), (6, (pEq (.slice g17.1 g17.2.1 g17.2.2)))]) ⟨rfl, rfl, rfl, trivial⟩ ?_
        refine Tr.seq ?_
        refine Tr.seq ?_
        refine Tr.region ?_
        refine RegL.pure (p := (pSl 1 (cK .i64) order_1)) rfl rfl rfl (J_move rfl (Opd.tmp rfl)) ?_
        refine RegL.pure (p := (pEq (.int .i64 (order_1.length : Int)))) rfl rfl rfl (J_len rfl Try.underlying26 (Opd.tmp rfl) rfl) ?_
        refine RegL.pure (p := (pEq (.int .i64 (0 : Int)))) rfl rfl rfl (J_move rfl Opd.con) ?_
        refine RegL.nil ?_
        refine Ct.then_tr ?_
        refine Tr.weak (Γ' := [(2, (pPtr (cGProblem p_0))), (6, (pEq (.slice g17.1 g17.2.1 g17.2.2))), (33, (pSl 1 (cK .i64) order_1)), (34, (pEq (.int .i64 (order_1.length : Int)))), (35, (pEq (.int .i64 (0 : Int))))]) ⟨rfl, rfl, rfl, rfl, rfl, trivial⟩ ?_
        refine Tr.block ?_
        refine Tr.weak (Γ' := [(2, (pPtr (cGProblem p_0))), (6, (pEq (.slice g17.1 g17.2.1 g17.2.2))), (33, (pSl 1 (cK .i64) order_1)), (34, (pEq (.int .i64 (order_1.length : Int)))), (35, (pEq (.int .i64 (0 : Int))))]) ⟨rfl, rfl, rfl, rfl, rfl, trivial⟩ ?_
        refine Tr.loop (γ := G3) (σ := (Int × (List Int))) (Γσ := fun s g => [(2, (pPtr (cGProblem p_0))), (6, (pEq (.slice g.1 g.2.1 g.2.2))), (33, (pSl 1 (cK .i64) order_1)), (34, (pEq (.int .i64 (order_1.length : Int)))), (35, (pEq (.int .i64 s.1)))]) (Ωσ := fun s g => [oSl 2 1 (cK .i64) g.1 g.2.1 g.2.2 s.2]) (g := (g17.1, g17.2.1, g17.2.2)) h ?_
        clear h
        rintro ⟨v20, v21⟩ g22 t h
        replace h : m_impl_GreedyAssign_B19 p_0 order_1 v20 v21 = some t := h
        unfold m_impl_GreedyAssign_B19 at h
        refine Tr.weakO (Γ' := [(2, (pPtr (cGProblem p_0))), (6, (pEq (.slice g22.1 g22.2.1 g22.2.2))), (33, (pSl 1 (cK .i64) order_1)), (34, (pEq (.int .i64 (order_1.length : Int)))), (35, (pEq (.int .i64 v20)))]) (Ω' := [oSl 2 1 (cK .i64) g22.1 g22.2.1 g22.2.2 v21]) rfl ⟨rfl, rfl, rfl, rfl, rfl, trivial⟩ ?_
        refine Tr.seq ?_
        refine Tr.region ?_
        refine RegL.pure (p := (pEq (.bool (decide (v20 < (order_1.length : Int)))))) rfl rfl rfl (J_bin rfl (Opd.tmp rfl) (Opd.tmp rfl) B_lss) ?_
        refine RegL.nil ?_
        refine Ct.then_tr ?_
        refine Tr.weak (Γ' := [(2, (pPtr (cGProblem p_0))), (6, (pEq (.slice g22.1 g22.2.1 g22.2.2))), (33, (pSl 1 (cK .i64) order_1)), (34, (pEq (.int .i64 (order_1.length : Int)))), (35, (pEq (.int .i64 v20))), (36, (pEq (.bool (decide (v20 < (order_1.length : Int))))))]) ⟨rfl, rfl, rfl, rfl, rfl, rfl, trivial⟩ ?_
        refine Tr.seq ?_
        refine Tr.cond (Opd.tmp rfl) (fun hc => ?_) (fun hc => ?_)
        · replace h := bif_t hc h
          refine Tr.skip ?_
          refine Ct.then_tr ?_
          refine Tr.weak (Γ' := [(2, (pPtr (cGProblem p_0))), (6, (pEq (.slice g22.1 g22.2.1 g22.2.2))), (33, (pSl 1 (cK .i64) order_1)), (34, (pEq (.int .i64 (order_1.length : Int)))), (35, (pEq (.int .i64 v20)))]) ⟨rfl, rfl, rfl, rfl, rfl, trivial⟩ ?_
          refine Tr.seq ?_
          refine Tr.block ?_
          refine Tr.seq ?_
          refine Tr.region ?_
          replace h := bind_some h; obtain ⟨x23, hx23, h⟩ := h
          refine RegL.pure (p := (pPtr ((cK .i64) x23))) rfl rfl rfl (J_idx rfl Try.underlying26 sz2 (Opd.tmp rfl) (Opd.tmp rfl) hx23) ?_
          refine RegL.pure (p := (pEq (.int .i64 x23))) rfl rfl rfl (J_load rfl Try.isAgg2 (Opd.tmp rfl)) ?_
          refine RegL.pure (p := (pEq (.int .i64 x23))) rfl rfl rfl (J_assign rfl (Opd.tmp rfl)) ?_
          refine RegL.nil ?_
          refine Ct.then_tr ?_
          refine Tr.weak (Γ' := [(2, (pPtr (cGProblem p_0))), (6, (pEq (.slice g22.1 g22.2.1 g22.2.2))), (8, (pEq (.int .i64 x23))), (33, (pSl 1 (cK .i64) order_1)), (34, (pEq (.int .i64 (order_1.length : Int)))), (35, (pEq (.int .i64 v20)))]) ⟨rfl, rfl, rfl, rfl, rfl, rfl, trivial⟩ ?_
          refine Tr.seq ?_
          refine Tr.region ?_
          refine RegL.pure (p := (pAgg (cGProblem p_0))) rfl rfl rfl (J_loadA rfl Try.isAgg29 sz29 (Opd.tmp rfl) rfl) ?_
          refine RegL.pure (p := (pEq (.slice g22.1 g22.2.1 g22.2.2))) rfl rfl rfl (J_move rfl (Opd.tmp rfl)) ?_
          refine RegL.pure (p := (pEq (.int .i64 x23))) rfl rfl rfl (J_move rfl (Opd.tmp rfl)) ?_
          replace h := bind_some h; obtain ⟨x24, hx24, h⟩ := h
          refine RegL.step (γ := G3) (p := fun g => (pEq (.slice g.1 g.2.1 g.2.2))) (Ω' := fun g => [oSl 2 1 (cK .i64) g.1 g.2.1 g.2.2 x24, oSl 2 1 (cK .i64) g22.1 g22.2.1 g22.2.2 v21]) rfl rfl rfl (M_callHB (Ωi := []) rfl Try.call48 (o_impl_Problem_choices hx24) (OpdsA.cons (OpdA.of (Opd.tmp rfl)) (OpdsA.cons (OpdA.conv rfl (Conv.row (f := (cK .i64)) 0 (fun _ => rfl) rfl)) (OpdsA.cons (OpdA.of (Opd.tmp rfl)) OpdsA.nil))) (fun _ => FreeP.eq) (fun _ => ⟨(FreeO.sl (fun _ => ⟨FreeP.eq, trivial⟩)), trivial⟩)) fun g25 => ?_
          refine RegL.pure (p := (pEq (.slice g25.1 g25.2.1 g25.2.2))) rfl rfl rfl (J_assign rfl (Opd.tmp rfl)) ?_
          refine RegL.nil ?_
          refine Ct.then_tr ?_
          refine Tr.weak (Γ' := [(2, (pPtr (cGProblem p_0))), (6, (pEq (.slice g22.1 g22.2.1 g22.2.2))), (8, (pEq (.int .i64 x23))), (9, (pEq (.slice g25.1 g25.2.1 g25.2.2))), (33, (pSl 1 (cK .i64) order_1)), (34, (pEq (.int .i64 (order_1.length : Int)))), (35, (pEq (.int .i64 v20)))]) ⟨rfl, rfl, rfl, rfl, rfl, rfl, rfl, trivial⟩ ?_
          refine Tr.seq ?_
          refine Tr.seq ?_
          refine Tr.region ?_
          refine RegL.pure (p := (pEq (.slice g25.1 g25.2.1 g25.2.2))) rfl rfl rfl (J_move rfl (Opd.tmp rfl)) ?_
          refine RegL.pureW (p := (pEq (.int .i64 (x24.length : Int)))) rfl rfl rfl (W_rowLen (j := 0) rfl Try.underlying26 (Opd.tmp rfl) rfl) ?_
          refine RegL.pure (p := (pEq (.bool ((x24.length : Int) == (0 : Int))))) rfl rfl rfl (J_bin rfl (Opd.tmp rfl) Opd.con B_eql) ?_
          refine RegL.nil ?_
          refine Ct.then_tr ?_
          refine Tr.weak (Γ' := [(2, (pPtr (cGProblem p_0))), (6, (pEq (.slice g22.1 g22.2.1 g22.2.2))), (8, (pEq (.int .i64 x23))), (9, (pEq (.slice g25.1 g25.2.1 g25.2.2))), (33, (pSl 1 (cK .i64) order_1)), (34, (pEq (.int .i64 (order_1.length : Int)))), (35, (pEq (.int .i64 v20))), (45, (pEq (.bool ((x24.length : Int) == (0 : Int)))))]) ⟨rfl, rfl, rfl, rfl, rfl, rfl, rfl, rfl, trivial⟩ ?_
          refine Tr.cond (Opd.tmp rfl) (fun hc => ?_) (fun hc => ?_)
          · replace h := bif_t hc h
            refine Tr.seq ?_
            refine Tr.region ?_
            refine RegL.pure (p := (pEq (.slice none 0 0))) rfl rfl rfl (J_assign rfl Opd.con) ?_
            refine RegL.pure (p := (pEq (.int .i64 (3 : Int)))) rfl rfl rfl (J_assign rfl Opd.con) ?_
            refine RegL.nil ?_
            refine Ct.then_tr ?_
            refine Tr.weak (Γ' := [(4, (pEq (.slice none 0 0))), (5, (pEq (.int .i64 (3 : Int))))]) ⟨rfl, rfl, trivial⟩ ?_
            refine Tr.ret ?_
            refine Ct.then_ret ?_
            refine Ct.blk_ret ?_
            refine Ct.then_ret ?_
            replace h := map_some h; obtain ⟨r1, h, rfl⟩ := h
            refine Ct.out_ret fun e => ?_
            subst e
            refine Ct.blk_ret ?_
            refine Ct.then_ret ?_
            refine Ct.re (Ω2 := [oSl 2 1 (cK .i64) none 0 0 ([] : (List Int)), oSl 2 1 (cK .i64) g25.1 g25.2.1 g25.2.2 x24, oSl 2 1 (cK .i64) g22.1 g22.2.1 g22.2.2 v21]) (fun h => SatO.nilRow h) ?_
            refine Ct.re (Ω2 := [oSl 2 1 (cK .i64) g22.1 g22.2.1 g22.2.2 v21, oSl 2 1 (cK .i64) none 0 0 ([] : (List Int)), oSl 2 1 (cK .i64) g25.1 g25.2.1 g25.2.2 x24]) (fun h => SatO.pick 2 h) ?_
            refine Ct.re (Ω2 := [oSl 2 1 (cK .i64) g25.1 g25.2.1 g25.2.2 x24, oSl 2 1 (cK .i64) g22.1 g22.2.1 g22.2.2 v21, oSl 2 1 (cK .i64) none 0 0 ([] : (List Int))]) (fun h => SatO.pick 2 h) ?_
            replace h := Option.some.inj h; subst h
            exact Ct.retH2 (Ωx := [oSl 2 1 (cK .i64) g25.1 g25.2.1 g25.2.2 x24, oSl 2 1 (cK .i64) g22.1 g22.2.1 g22.2.2 v21]) (none, 0, 0) rfl (RvOk.tmp rfl) (RvOk.tmp rfl) rfl rfl
          · replace h := bif_f hc h
            refine Tr.skip ?_
            refine Ct.then_tr ?_
            refine Tr.weak (Γ' := [(2, (pPtr (cGProblem p_0))), (6, (pEq (.slice g22.1 g22.2.1 g22.2.2))), (8, (pEq (.int .i64 x23))), (9, (pEq (.slice g25.1 g25.2.1 g25.2.2))), (33, (pSl 1 (cK .i64) order_1)), (34, (pEq (.int .i64 (order_1.length : Int)))), (35, (pEq (.int .i64 v20)))]) ⟨rfl, rfl, rfl, rfl, rfl, rfl, rfl, trivial⟩ ?_
            refine Tr.region ?_
            refine RegL.pure (p := (pEq (.slice g22.1 g22.2.1 g22.2.2))) rfl rfl rfl (J_move rfl (Opd.tmp rfl)) ?_
            refine RegL.pure (p := (pEq (.int .i64 x23))) rfl rfl rfl (J_move rfl (Opd.tmp rfl)) ?_
            refine RegL.pure (p := (pEq (.slice g25.1 g25.2.1 g25.2.2))) rfl rfl rfl (J_move rfl (Opd.tmp rfl)) ?_
            replace h := bind_some h; obtain ⟨x28, hx28, h⟩ := h
            refine RegL.pureW (p := (pEq (.pointer (some ⟨blk g25.1, ((0 : Int)).toNat * 1, none⟩)))) rfl rfl rfl (W_rowIdx (j := 0) rfl Try.underlying26 sz2 (Opd.tmp rfl) Opd.con rfl (idx_lt hx28)) ?_
            refine RegL.pureW (p := (pEq (.int .i64 x28))) rfl rfl rfl (W_rowLoad (j := 0) (f := (cK .i64)) rfl Try.isAgg2 (fun _ => rfl) (Opd.tmp rfl) rfl hx28 rfl) ?_
            replace h := bind_some h; obtain ⟨u29, hu29, h⟩ := h
            refine RegL.pureW (p := (pEq (.pointer (some ⟨blk g22.1, (x23).toNat * 1, none⟩)))) rfl rfl rfl (W_rowIdx (j := 1) rfl Try.underlying26 sz2 (Opd.tmp rfl) (Opd.tmp rfl) rfl (inB_some hu29)) ?_
            refine RegL.re (Ω2 := [oSl 2 1 (cK .i64) g22.1 g22.2.1 g22.2.2 v21, oSl 2 1 (cK .i64) g25.1 g25.2.1 g25.2.2 x24]) (fun h => SatO.pick 1 h) ?_
            refine RegL.stepN (γ := Unit) (p := fun _ => pAny) (Ω' := fun _ => [oSl 2 1 (cK .i64) g22.1 g22.2.1 g22.2.2 (v21.set (x23).toNat x28), oSl 2 1 (cK .i64) g25.1 g25.2.1 g25.2.2 x24]) rfl rfl (M_rowStore rfl sz2 (fun _ => rfl) (Opd.tmp rfl) (Opd.tmp rfl) rfl OneC.int (setL_of (inB_some hu29))) fun g30 => ?_
            refine RegL.nil ?_
            refine Ct.blk_normal ?_
            refine Ct.then_tr ?_
            refine Tr.weak (Γ' := [(2, (pPtr (cGProblem p_0))), (6, (pEq (.slice g22.1 g22.2.1 g22.2.2))), (33, (pSl 1 (cK .i64) order_1)), (34, (pEq (.int .i64 (order_1.length : Int)))), (35, (pEq (.int .i64 v20)))]) ⟨rfl, rfl, rfl, rfl, rfl, trivial⟩ ?_
            refine Tr.region ?_
            refine RegL.pure (p := (pEq (.int .i64 (w64 (v20 + (1 : Int)))))) rfl rfl rfl (J_bin rfl (Opd.tmp rfl) Opd.con B_add) ?_
            refine RegL.pure (p := (pEq (.int .i64 (w64 (v20 + (1 : Int)))))) rfl rfl rfl (J_move rfl (Opd.tmp rfl)) ?_
            refine RegL.nil ?_
            refine Ct.re (Ω2 := [oSl 2 1 (cK .i64) g25.1 g25.2.1 g25.2.2 x24, oSl 2 1 (cK .i64) g22.1 g22.2.1 g22.2.2 (v21.set (x23).toNat x28)]) (fun h => SatO.pick 1 h) ?_
            refine Ct.re (Ω2 := [oSl 2 1 (cK .i64) g22.1 g22.2.1 g22.2.2 (v21.set (x23).toNat x28)]) (fun h => SatO.rest h) ?_
            replace h := Option.some.inj h; subst h
            exact Ct.again (g22.1, g22.2.1, g22.2.2) rfl ⟨rfl, rfl, rfl, rfl, rfl, trivial⟩
        · replace h := bif_f hc h
          refine Tr.exit ?_
          refine Ct.then_exit ?_
          replace h := map_some h; obtain ⟨r1, h, rfl⟩ := h
          refine Ct.out_exit fun e => ?_
          subst e
          refine Ct.blk_exit ?_
          refine Ct.then_tr ?_
          refine Tr.weak (Γ' := [(6, (pEq (.slice g22.1 g22.2.1 g22.2.2)))]) ⟨rfl, trivial⟩ ?_
          refine Tr.seq ?_
          refine Tr.region ?_
          refine RegL.pure (p := (pEq (.slice g22.1 g22.2.1 g22.2.2))) rfl rfl rfl (J_move rfl (Opd.tmp rfl)) ?_
          refine RegL.pure (p := (pEq (.slice g22.1 g22.2.1 g22.2.2))) rfl rfl rfl (J_assign rfl (Opd.tmp rfl)) ?_
          refine RegL.pure (p := (pEq (.int .i64 (0 : Int)))) rfl rfl rfl (J_assign rfl Opd.con) ?_
          refine RegL.nil ?_
          refine Ct.then_tr ?_
          refine Tr.weak (Γ' := [(4, (pEq (.slice g22.1 g22.2.1 g22.2.2))), (5, (pEq (.int .i64 (0 : Int))))]) ⟨rfl, rfl, trivial⟩ ?_
          refine Tr.ret ?_
          replace h := Option.some.inj h; subst h
          exact Ct.retH2 (Ωx := []) (g22.1, g22.2.1, g22.2.2) rfl (RvOk.tmp rfl) (RvOk.tmp rfl) rfl rfl

theorem c_impl_GreedyAssign {p_0 : GProblem} {order_1 : (List Int)} {r : ((List Int) × Int)} (h : m_impl_GreedyAssign p_0 order_1 = some r) : CallJ Try.prog 19 [(pAgg (cGProblem p_0)), (pSl 1 (cK .i64) order_1)] (pTup [(pSl 1 (cK .i64) r.1), (pEq (.int .i64 r.2))]) :=
  CallH.frozen (o_impl_GreedyAssign h) (fun g => (Conv.tup (Convs.cons (Conv.row (f := (cK .i64)) 0 (fun _ => rfl) rfl) (Convs.cons Conv.refl Convs.nil))))

theorem c_laws_eqInt64S {a_0 : (List Int)} {b_1 : (List Int)} {r : Bool} (h : m_laws_eqInt64S a_0 b_1 = some r) : CallJ Try.prog 12 [(pSl 1 (cK .i64) a_0), (pSl 1 (cK .i64) b_1)] (pEq (.bool r)) := by
  unfold m_laws_eqInt64S at h
  refine CallJ.enterH Try.func12 rfl Try.ntmps12 rfl fun W I0 H => ?_
  refine Tr.weak (Γ' := [(0, (pSl 1 (cK .i64) a_0)), (1, (pSl 1 (cK .i64) b_1))]) ⟨rfl, rfl, trivial⟩ ?_
  refine Tr.seq ?_
  refine Tr.region ?_
  refine RegL.pure (p := (pEq (.bool false))) rfl rfl rfl (J_assign rfl Opd.con) ?_
  refine RegL.nil ?_
  refine Ct.then_tr ?_
  refine Tr.weak (Γ' := [(0, (pSl 1 (cK .i64) a_0)), (1, (pSl 1 (cK .i64) b_1))]) ⟨rfl, rfl, trivial⟩ ?_
  refine Tr.seq ?_
  refine Tr.seq ?_
  refine Tr.region ?_
  refine RegL.pure (p := (pSl 1 (cK .i64) a_0)) rfl rfl rfl (J_move rfl (Opd.tmp rfl)) ?_
  refine RegL.pure (p := (pEq (.int .i64 (a_0.length : Int)))) rfl rfl rfl (J_len rfl Try.underlying26 (Opd.tmp rfl) rfl) ?_
  refine RegL.pure (p := (pSl 1 (cK .i64) b_1)) rfl rfl rfl (J_move rfl (Opd.tmp rfl)) ?_
  refine RegL.pure (p := (pEq (.int .i64 (b_1.length : Int)))) rfl rfl rfl (J_len rfl Try.underlying26 (Opd.tmp rfl) rfl) ?_
  refine RegL.pure (p := (pEq (.bool ((a_0.length : Int) != (b_1.length : Int))))) rfl rfl rfl (J_bin rfl (Opd.tmp rfl) (Opd.tmp rfl) B_neq) ?_
  refine RegL.nil ?_
  refine Ct.then_tr ?_
  refine Tr.weak (Γ' := [(0, (pSl 1 (cK .i64) a_0)), (1, (pSl 1 (cK .i64) b_1)), (10, (pEq (.bool ((a_0.length : Int) != (b_1.length : Int)))))]) ⟨rfl, rfl, rfl, trivial⟩ ?_
  refine Tr.cond (Opd.tmp rfl) (fun hc => ?_) (fun hc => ?_)
  · replace h := bif_t hc h
    refine Tr.seq ?_
    refine Tr.region ?_
    refine RegL.pure (p := (pEq (.bool false))) rfl rfl rfl (J_assign rfl Opd.con) ?_
    refine RegL.nil ?_
    refine Ct.then_tr ?_
    refine Tr.weak (Γ' := [(4, (pEq (.bool false)))]) ⟨rfl, trivial⟩ ?_
    refine Tr.ret ?_
    refine Ct.then_ret ?_
    replace h := Option.some.inj h; subst h
    exact Ct.retH1 (Ωx := []) () rfl (RvOk.tmp rfl) rfl
  · replace h := bif_f hc h
    refine Tr.skip ?_
    refine Ct.then_tr ?_
    refine Tr.weak (Γ' := [(0, (pSl 1 (cK .i64) a_0)), (1, (pSl 1 (cK .i64) b_1))]) ⟨rfl, rfl, trivial⟩ ?_
    refine Tr.seq ?_
    refine Tr.seq ?_
    refine Tr.region ?_
    refine RegL.pure (p := (pEq (.int .i64 (0 : Int)))) rfl rfl rfl (J_assign rfl Opd.con) ?_
    refine RegL.nil ?_
    refine Ct.then_tr ?_
    refine Tr.weak (Γ' := [(0, (pSl 1 (cK .i64) a_0)), (1, (pSl 1 (cK .i64) b_1)), (5, (pEq (.int .i64 (0 : Int))))]) ⟨rfl, rfl, rfl, trivial⟩ ?_
    refine Tr.block ?_
    refine Tr.weak (Γ' := [(0, (pSl 1 (cK .i64) a_0)), (1, (pSl 1 (cK .i64) b_1)), (5, (pEq (.int .i64 (0 : Int))))]) ⟨rfl, rfl, rfl, trivial⟩ ?_
    refine Tr.loop (γ := Unit) (σ := Int) (Γσ := fun s g => [(0, (pSl 1 (cK .i64) a_0)), (1, (pSl 1 (cK .i64) b_1)), (5, (pEq (.int .i64 s)))]) (Ωσ := fun s g => []) (g := ()) h ?_
    clear h
    rintro v2 g3 t h
    replace h : m_laws_eqInt64S_B1 a_0 b_1 v2 = some t := h
    unfold m_laws_eqInt64S_B1 at h
    refine Tr.weakO (Γ' := [(0, (pSl 1 (cK .i64) a_0)), (1, (pSl 1 (cK .i64) b_1)), (5, (pEq (.int .i64 v2)))]) (Ω' := []) rfl ⟨rfl, rfl, rfl, trivial⟩ ?_
    refine Tr.seq ?_
    refine Tr.seq ?_
    refine Tr.region ?_
    refine RegL.pure (p := (pEq (.int .i64 v2))) rfl rfl rfl (J_move rfl (Opd.tmp rfl)) ?_
    refine RegL.pure (p := (pSl 1 (cK .i64) a_0)) rfl rfl rfl (J_move rfl (Opd.tmp rfl)) ?_
    refine RegL.pure (p := (pEq (.int .i64 (a_0.length : Int)))) rfl rfl rfl (J_len rfl Try.underlying26 (Opd.tmp rfl) rfl) ?_
    refine RegL.pure (p := (pEq (.bool (decide (v2 < (a_0.length : Int)))))) rfl rfl rfl (J_bin rfl (Opd.tmp rfl) (Opd.tmp rfl) B_lss) ?_
    refine RegL.nil ?_
    refine Ct.then_tr ?_
    refine Tr.weak (Γ' := [(0, (pSl 1 (cK .i64) a_0)), (1, (pSl 1 (cK .i64) b_1)), (5, (pEq (.int .i64 v2))), (14, (pEq (.bool (decide (v2 < (a_0.length : Int))))))]) ⟨rfl, rfl, rfl, rfl, trivial⟩ ?_
    refine Tr.cond (Opd.tmp rfl) (fun hc => ?_) (fun hc => ?_)
    · replace h := bif_t hc h
      refine Tr.skip ?_
      refine Ct.then_tr ?_
      refine Tr.weak (Γ' := [(0, (pSl 1 (cK .i64) a_0)), (1, (pSl 1 (cK .i64) b_1)), (5, (pEq (.int .i64 v2)))]) ⟨rfl, rfl, rfl, trivial⟩ ?_
      refine Tr.seq ?_
      refine Tr.block ?_
      refine Tr.seq ?_
      replace h := bind_some h; obtain ⟨x4, hx4, h⟩ := h
      replace h := bind_some h; obtain ⟨x5, hx5, h⟩ := h
      refine Tr.drawD (n := 26) (m := 9) (es := [some (Ent.mk [(0, (pSl 1 (cK .i64) a_0))] (pSl 1 (cK .i64) a_0) true), some (Ent.mk [(5, (pEq (.int .i64 v2)))] (pEq (.int .i64 v2)) true), some (Ent.mk [(17, (pSl 1 (cK .i64) a_0)), (18, (pEq (.int .i64 v2)))] (pPtr ((cK .i64) x4)) true), some (Ent.mk [(19, (pPtr ((cK .i64) x4)))] (pEq (.int .i64 x4)) true), some (Ent.mk [(1, (pSl 1 (cK .i64) b_1))] (pSl 1 (cK .i64) b_1) true), some (Ent.mk [(5, (pEq (.int .i64 v2)))] (pEq (.int .i64 v2)) true), some (Ent.mk [(21, (pSl 1 (cK .i64) b_1)), (22, (pEq (.int .i64 v2)))] (pPtr ((cK .i64) x5)) true), some (Ent.mk [(23, (pPtr ((cK .i64) x5)))] (pEq (.int .i64 x5)) true), some (Ent.mk [(20, (pEq (.int .i64 x4))), (24, (pEq (.int .i64 x5)))] (pEq (.bool (x4 != x5))) true)]) (rd := [[0], [5], [17, 18], [19], [1], [5], [21, 22], [23], [20, 24]]) rfl hmix (by kernel_rfl) fun hD => ?_
      refine RD.fin (es := [Ent.mk [(0, (pSl 1 (cK .i64) a_0))] (pSl 1 (cK .i64) a_0) true, Ent.mk [(5, (pEq (.int .i64 v2)))] (pEq (.int .i64 v2)) true, Ent.mk [(17, (pSl 1 (cK .i64) a_0)), (18, (pEq (.int .i64 v2)))] (pPtr ((cK .i64) x4)) true, Ent.mk [(19, (pPtr ((cK .i64) x4)))] (pEq (.int .i64 x4)) true, Ent.mk [(1, (pSl 1 (cK .i64) b_1))] (pSl 1 (cK .i64) b_1) true, Ent.mk [(5, (pEq (.int .i64 v2)))] (pEq (.int .i64 v2)) true, Ent.mk [(21, (pSl 1 (cK .i64) b_1)), (22, (pEq (.int .i64 v2)))] (pPtr ((cK .i64) x5)) true, Ent.mk [(23, (pPtr ((cK .i64) x5)))] (pEq (.int .i64 x5)) true, Ent.mk [(20, (pEq (.int .i64 x4))), (24, (pEq (.int .i64 x5)))] (pEq (.bool (x4 != x5))) true]) (done := []) hD ⟨.inr ⟨(OpJ.w (J_move rfl (Opd.tmp rfl))), ⟨rfl, trivial⟩, rfl, rfl⟩, ⟨.inr ⟨(OpJ.w (J_move rfl (Opd.tmp rfl))), ⟨rfl, trivial⟩, rfl, rfl⟩, ⟨.inr ⟨(OpJ.w (J_idx rfl Try.underlying26 sz2 (Opd.tmp rfl) (Opd.tmp rfl) hx4)), ⟨rfl, rfl, trivial⟩, rfl, rfl⟩, ⟨.inr ⟨(OpJ.w (J_load rfl Try.isAgg2 (Opd.tmp rfl))), ⟨rfl, trivial⟩, rfl, rfl⟩, ⟨.inr ⟨(OpJ.w (J_move rfl (Opd.tmp rfl))), ⟨rfl, trivial⟩, rfl, rfl⟩, ⟨.inr ⟨(OpJ.w (J_move rfl (Opd.tmp rfl))), ⟨rfl, trivial⟩, rfl, rfl⟩, ⟨.inr ⟨(OpJ.w (J_idx rfl Try.underlying26 sz2 (Opd.tmp rfl) (Opd.tmp rfl) hx5)), ⟨rfl, rfl, trivial⟩, rfl, rfl⟩, ⟨.inr ⟨(OpJ.w (J_load rfl Try.isAgg2 (Opd.tmp rfl))), ⟨rfl, trivial⟩, rfl, rfl⟩, ⟨.inr ⟨(OpJ.w (J_bin rfl (Opd.tmp rfl) (Opd.tmp rfl) B_neq)), ⟨rfl, rfl, trivial⟩, rfl, rfl⟩, trivial⟩⟩⟩⟩⟩⟩⟩⟩⟩ ?_
      refine RegL.nil ?_
      refine Ct.then_tr ?_
      refine Tr.weak (Γ' := [(0, (pSl 1 (cK .i64) a_0)), (1, (pSl 1 (cK .i64) b_1)), (5, (pEq (.int .i64 v2))), (25, (pEq (.bool (x4 != x5))))]) ⟨rfl, rfl, rfl, rfl, trivial⟩ ?_
      refine Tr.cond (Opd.tmp rfl) (fun hc => ?_) (fun hc => ?_)
      · replace h := bif_t hc h
        refine Tr.seq ?_
        refine Tr.region ?_
        refine RegL.pure (p := (pEq (.bool false))) rfl rfl rfl (J_assign rfl Opd.con) ?_
        refine RegL.nil ?_
        refine Ct.then_tr ?_
        refine Tr.weak (Γ' := [(4, (pEq (.bool false)))]) ⟨rfl, trivial⟩ ?_
        refine Tr.ret ?_
        refine Ct.blk_ret ?_
        refine Ct.then_ret ?_
        replace h := map_some h; obtain ⟨r1, h, rfl⟩ := h
        refine Ct.out_ret fun e => ?_
        subst e
        refine Ct.blk_ret ?_
        refine Ct.then_ret ?_
        replace h := Option.some.inj h; subst h
        exact Ct.retH1 (Ωx := []) () rfl (RvOk.tmp rfl) rfl
      · replace h := bif_f hc h
        refine Tr.skip ?_
        refine Ct.blk_normal ?_
        refine Ct.then_tr ?_
        refine Tr.weak (Γ' := [(0, (pSl 1 (cK .i64) a_0)), (1, (pSl 1 (cK .i64) b_1)), (5, (pEq (.int .i64 v2)))]) ⟨rfl, rfl, rfl, trivial⟩ ?_
        refine Tr.region ?_
        refine RegL.pure (p := (pEq (.int .i64 v2))) rfl rfl rfl (J_move rfl (Opd.tmp rfl)) ?_
        refine RegL.pure (p := (pEq (.int .i64 (w64 (v2 + (1 : Int)))))) rfl rfl rfl (J_bin rfl (Opd.tmp rfl) Opd.con B_add) ?_
        refine RegL.pure (p := (pEq (.int .i64 (w64 (v2 + (1 : Int)))))) rfl rfl rfl (J_assign rfl (Opd.tmp rfl)) ?_
        refine RegL.nil ?_
        replace h := Option.some.inj h; subst h
        exact Ct.again () rfl ⟨rfl, rfl, rfl, trivial⟩
    · replace h := bif_f hc h
      refine Tr.exit ?_
      refine Ct.then_exit ?_
      replace h := map_some h; obtain ⟨r1, h, rfl⟩ := h
      refine Ct.out_exit fun e => ?_
      subst e
      refine Ct.blk_exit ?_
      refine Ct.then_tr ?_
      refine Tr.weak (Γ' := []) trivial ?_
      refine Tr.seq ?_
      refine Tr.region ?_
      refine RegL.pure (p := (pEq (.bool true))) rfl rfl rfl (J_assign rfl Opd.con) ?_
      refine RegL.nil ?_
      refine Ct.then_tr ?_
      refine Tr.weak (Γ' := [(4, (pEq (.bool true)))]) ⟨rfl, trivial⟩ ?_
      refine Tr.ret ?_
      replace h := Option.some.inj h; subst h
      exact Ct.retH1 (Ωx := []) () rfl (RvOk.tmp rfl) rfl

theorem c_laws_eqInt64SS {a_0 : (List (List Int))} {b_1 : (List (List Int))} {r : Bool} (h : m_laws_eqInt64SS a_0 b_1 = some r) : CallJ Try.prog 35 [(pSl 1 (cSl 1 (cK .i64)) a_0), (pSl 1 (cSl 1 (cK .i64)) b_1)] (pEq (.bool r)) := by
  unfold m_laws_eqInt64SS at h
  refine CallJ.enterH Try.func35 rfl Try.ntmps35 rfl fun W I0 H => ?_
  refine Tr.weak (Γ' := [(0, (pSl 1 (cSl 1 (cK .i64)) a_0)), (1, (pSl 1 (cSl 1 (cK .i64)) b_1))]) ⟨rfl, rfl, trivial⟩ ?_
  refine Tr.seq ?_
  refine Tr.region ?_
  refine RegL.pure (p := (pEq (.bool false))) rfl rfl rfl (J_assign rfl Opd.con) ?_
  refine RegL.nil ?_
  refine Ct.then_tr ?_
  refine Tr.weak (Γ' := [(0, (pSl 1 (cSl 1 (cK .i64)) a_0)), (1, (pSl 1 (cSl 1 (cK .i64)) b_1))]) ⟨rfl, rfl, trivial⟩ ?_
  refine Tr.seq ?_
  refine Tr.seq ?_
  refine Tr.region ?_
  refine RegL.pure (p := (pSl 1 (cSl 1 (cK .i64)) a_0)) rfl rfl rfl (J_move rfl (Opd.tmp rfl)) ?_
  refine RegL.pure (p := (pEq (.int .i64 (a_0.length : Int)))) rfl rfl rfl (J_len rfl Try.underlying22 (Opd.tmp rfl) rfl) ?_
  refine RegL.pure (p := (pSl 1 (cSl 1 (cK .i64)) b_1)) rfl rfl rfl (J_move rfl (Opd.tmp rfl)) ?_
  refine RegL.pure (p := (pEq (.int .i64 (b_1.length : Int)))) rfl rfl rfl (J_len rfl Try.underlying22 (Opd.tmp rfl) rfl) ?_
  refine RegL.pure (p := (pEq (.bool ((a_0.length : Int) != (b_1.length : Int))))) rfl rfl rfl (J_bin rfl (Opd.tmp rfl) (Opd.tmp rfl) B_neq) ?_
  refine RegL.nil ?_
  refine Ct.then_tr ?_
  refine Tr.weak (Γ' := [(0, (pSl 1 (cSl 1 (cK .i64)) a_0)), (1, (pSl 1 (cSl 1 (cK .i64)) b_1)), (10, (pEq (.bool ((a_0.length : Int) != (b_1.length : Int)))))]) ⟨rfl, rfl, rfl, trivial⟩ ?_
  refine Tr.cond (Opd.tmp rfl) (fun hc => ?_) (fun hc => ?_)
  · replace h := bif_t hc h
    refine Tr.seq ?_
    refine Tr.region ?_
    refine RegL.pure (p := (pEq (.bool false))) rfl rfl rfl (J_assign rfl Opd.con) ?_
    refine RegL.nil ?_
    refine Ct.then_tr ?_
    refine Tr.weak (Γ' := [(4, (pEq (.bool false)))]) ⟨rfl, trivial⟩ ?_
    refine Tr.ret ?_
    refine Ct.then_ret ?_
    replace h := Option.some.inj h; subst h
    exact Ct.retH1 (Ωx := []) () rfl (RvOk.tmp rfl) rfl
  · replace h := bif_f hc h
    refine Tr.skip ?_
    refine Ct.then_tr ?_
    refine Tr.weak (Γ' := [(0, (pSl 1 (cSl 1 (cK .i64)) a_0)), (1, (pSl 1 (cSl 1 (cK .i64)) b_1))]) ⟨rfl, rfl, trivial⟩ ?_
    refine Tr.seq ?_
    refine Tr.seq ?_
    refine Tr.region ?_
    refine RegL.pure (p := (pEq (.int .i64 (0 : Int)))) rfl rfl rfl (J_assign rfl Opd.con) ?_
    refine RegL.nil ?_
    refine Ct.then_tr ?_
    refine Tr.weak (Γ' := [(0, (pSl 1 (cSl 1 (cK .i64)) a_0)), (1, (pSl 1 (cSl 1 (cK .i64)) b_1)), (5, (pEq (.int .i64 (0 : Int))))]) ⟨rfl, rfl, rfl, trivial⟩ ?_
    refine Tr.block ?_
    refine Tr.weak (Γ' := [(0, (pSl 1 (cSl 1 (cK .i64)) a_0)), (1, (pSl 1 (cSl 1 (cK .i64)) b_1)), (5, (pEq (.int .i64 (0 : Int))))]) ⟨rfl, rfl, rfl, trivial⟩ ?_
    refine Tr.loop (γ := Unit) (σ := Int) (Γσ := fun s g => [(0, (pSl 1 (cSl 1 (cK .i64)) a_0)), (1, (pSl 1 (cSl 1 (cK .i64)) b_1)), (5, (pEq (.int .i64 s)))]) (Ωσ := fun s g => []) (g := ()) h ?_
    clear h
    rintro v2 g3 t h
    replace h : m_laws_eqInt64SS_B1 a_0 b_1 v2 = some t := h
    unfold m_laws_eqInt64SS_B1 at h
    refine Tr.weakO (Γ' := [(0, (pSl 1 (cSl 1 (cK .i64)) a_0)), (1, (pSl 1 (cSl 1 (cK .i64)) b_1)), (5, (pEq (.int .i64 v2)))]) (Ω' := []) rfl ⟨rfl, rfl, rfl, trivial⟩ ?_
    refine Tr.seq ?_
    refine Tr.seq ?_
    refine Tr.region ?_
    refine RegL.pure (p := (pEq (.int .i64 v2))) rfl rfl rfl (J_move rfl (Opd.tmp rfl)) ?_
    refine RegL.pure (p := (pSl 1 (cSl 1 (cK .i64)) a_0)) rfl rfl rfl (J_move rfl (Opd.tmp rfl)) ?_
    refine RegL.pure (p := (pEq (.int .i64 (a_0.length : Int)))) rfl rfl rfl (J_len rfl Try.underlying22 (Opd.tmp rfl) rfl) ?_
    refine RegL.pure (p := (pEq (.bool (decide (v2 < (a_0.length : Int)))))) rfl rfl rfl (J_bin rfl (Opd.tmp rfl) (Opd.tmp rfl) B_lss) ?_
    refine RegL.nil ?_
    refine Ct.then_tr ?_
    refine Tr.weak (Γ' := [(0, (pSl 1 (cSl 1 (cK .i64)) a_0)), (1, (pSl 1 (cSl 1 (cK .i64)) b_1)), (5, (pEq (.int .i64 v2))), (14, (pEq (.bool (decide (v2 < (a_0.length : Int))))))]) ⟨rfl, rfl, rfl, rfl, trivial⟩ ?_
    refine Tr.cond (Opd.tmp rfl) (fun hc => ?_) (fun hc => ?_)
    · replace h := bif_t hc h
      refine Tr.skip ?_
      refine Ct.then_tr ?_
      refine Tr.weak (Γ' := [(0, (pSl 1 (cSl 1 (cK .i64)) a_0)), (1, (pSl 1 (cSl 1 (cK .i64)) b_1)), (5, (pEq (.int .i64 v2)))]) ⟨rfl, rfl, rfl, trivial⟩ ?_
      refine Tr.seq ?_
      refine Tr.block ?_
      refine Tr.seq ?_
      replace h := bind_some h; obtain ⟨x4, hx4, h⟩ := h
      replace h := bind_some h; obtain ⟨x5, hx5, h⟩ := h
      replace h := bind_some h; obtain ⟨x6, hx6, h⟩ := h
      refine Tr.drawD (n := 27) (m := 10) (es := [some (Ent.mk [(0, (pSl 1 (cSl 1 (cK .i64)) a_0))] (pSl 1 (cSl 1 (cK .i64)) a_0) true), some (Ent.mk [(5, (pEq (.int .i64 v2)))] (pEq (.int .i64 v2)) true), some (Ent.mk [(17, (pSl 1 (cSl 1 (cK .i64)) a_0)), (18, (pEq (.int .i64 v2)))] (pPtr ((cSl 1 (cK .i64)) x4)) true), some (Ent.mk [(19, (pPtr ((cSl 1 (cK .i64)) x4)))] (pSl 1 (cK .i64) x4) true), some (Ent.mk [(1, (pSl 1 (cSl 1 (cK .i64)) b_1))] (pSl 1 (cSl 1 (cK .i64)) b_1) true), some (Ent.mk [(5, (pEq (.int .i64 v2)))] (pEq (.int .i64 v2)) true), some (Ent.mk [(21, (pSl 1 (cSl 1 (cK .i64)) b_1)), (22, (pEq (.int .i64 v2)))] (pPtr ((cSl 1 (cK .i64)) x5)) true), some (Ent.mk [(23, (pPtr ((cSl 1 (cK .i64)) x5)))] (pSl 1 (cK .i64) x5) true), some (Ent.mk [(20, (pSl 1 (cK .i64) x4)), (24, (pSl 1 (cK .i64) x5))] (pEq (.bool x6)) true), some (Ent.mk [(25, (pEq (.bool x6)))] (pEq (.bool (!x6))) true)]) (rd := [[0], [5], [17, 18], [19], [1], [5], [21, 22], [23], [20, 24], [25]]) rfl hmix (by kernel_rfl) fun hD => ?_
      refine RD.fin (es := [Ent.mk [(0, (pSl 1 (cSl 1 (cK .i64)) a_0))] (pSl 1 (cSl 1 (cK .i64)) a_0) true, Ent.mk [(5, (pEq (.int .i64 v2)))] (pEq (.int .i64 v2)) true, Ent.mk [(17, (pSl 1 (cSl 1 (cK .i64)) a_0)), (18, (pEq (.int .i64 v2)))] (pPtr ((cSl 1 (cK .i64)) x4)) true, Ent.mk [(19, (pPtr ((cSl 1 (cK .i64)) x4)))] (pSl 1 (cK .i64) x4) true, Ent.mk [(1, (pSl 1 (cSl 1 (cK .i64)) b_1))] (pSl 1 (cSl 1 (cK .i64)) b_1) true, Ent.mk [(5, (pEq (.int .i64 v2)))] (pEq (.int .i64 v2)) true, Ent.mk [(21, (pSl 1 (cSl 1 (cK .i64)) b_1)), (22, (pEq (.int .i64 v2)))] (pPtr ((cSl 1 (cK .i64)) x5)) true, Ent.mk [(23, (pPtr ((cSl 1 (cK .i64)) x5)))] (pSl 1 (cK .i64) x5) true, Ent.mk [(20, (pSl 1 (cK .i64) x4)), (24, (pSl 1 (cK .i64) x5))] (pEq (.bool x6)) true, Ent.mk [(25, (pEq (.bool x6)))] (pEq (.bool (!x6))) true]) (done := []) hD ⟨.inr ⟨(OpJ.w (J_move rfl (Opd.tmp rfl))), ⟨rfl, trivial⟩, rfl, rfl⟩, ⟨.inr ⟨(OpJ.w (J_move rfl (Opd.tmp rfl))), ⟨rfl, trivial⟩, rfl, rfl⟩, ⟨.inr ⟨(OpJ.w (J_idx rfl Try.underlying22 sz26 (Opd.tmp rfl) (Opd.tmp rfl) hx4)), ⟨rfl, rfl, trivial⟩, rfl, rfl⟩, ⟨.inr ⟨(OpJ.w (J_load rfl Try.isAgg26 (Opd.tmp rfl))), ⟨rfl, trivial⟩, rfl, rfl⟩, ⟨.inr ⟨(OpJ.w (J_move rfl (Opd.tmp rfl))), ⟨rfl, trivial⟩, rfl, rfl⟩, ⟨.inr ⟨(OpJ.w (J_move rfl (Opd.tmp rfl))), ⟨rfl, trivial⟩, rfl, rfl⟩, ⟨.inr ⟨(OpJ.w (J_idx rfl Try.underlying22 sz26 (Opd.tmp rfl) (Opd.tmp rfl) hx5)), ⟨rfl, rfl, trivial⟩, rfl, rfl⟩, ⟨.inr ⟨(OpJ.w (J_load rfl Try.isAgg26 (Opd.tmp rfl))), ⟨rfl, trivial⟩, rfl, rfl⟩, ⟨.inr ⟨(OpJ.w (J_call rfl Try.call12 (c_laws_eqInt64S hx6) (Opds.cons (Opd.tmp rfl) (Opds.cons (Opd.tmp rfl) Opds.nil)))), ⟨rfl, rfl, trivial⟩, rfl, rfl⟩, ⟨.inr ⟨(OpJ.w (J_not rfl (Opd.tmp rfl))), ⟨rfl, trivial⟩, rfl, rfl⟩, trivial⟩⟩⟩⟩⟩⟩⟩⟩⟩⟩ ?_
      refine RegL.nil ?_
      refine Ct.then_tr ?_
      refine Tr.weak (Γ' := [(0, (pSl 1 (cSl 1 (cK .i64)) a_0)), (1, (pSl 1 (cSl 1 (cK .i64)) b_1)), (5, (pEq (.int .i64 v2))), (26, (pEq (.bool (!x6))))]) ⟨rfl, rfl, rfl, rfl, trivial⟩ ?_
      refine Tr.cond (Opd.tmp rfl) (fun hc => ?_) (fun hc => ?_)
      · replace h := bif_t hc h
        refine Tr.seq ?_
        refine Tr.region ?_
        refine RegL.pure (p := (pEq (.bool false))) rfl rfl rfl (J_assign rfl Opd.con) ?_
        refine RegL.nil ?_
        refine Ct.then_tr ?_
        refine Tr.weak (Γ' := [(4, (pEq (.bool false)))]) ⟨rfl, trivial⟩ ?_
        refine Tr.ret ?_
        refine Ct.blk_ret ?_
        refine Ct.then_ret ?_
        replace h := map_some h; obtain ⟨r1, h, rfl⟩ := h
        refine Ct.out_ret fun e => ?_
        subst e
        refine Ct.blk_ret ?_
        refine Ct.then_ret ?_
        replace h := Option.some.inj h; subst h
        exact Ct.retH1 (Ωx := []) () rfl (RvOk.tmp rfl) rfl
      · replace h := bif_f hc h
        refine Tr.skip ?_
        refine Ct.blk_normal ?_
        refine Ct.then_tr ?_
        refine Tr.weak (Γ' := [(0, (pSl 1 (cSl 1 (cK .i64)) a_0)), (1, (pSl 1 (cSl 1 (cK .i64)) b_1)), (5, (pEq (.int .i64 v2)))]) ⟨rfl, rfl, rfl, trivial⟩ ?_
        refine Tr.region ?_
        refine RegL.pure (p := (pEq (.int .i64 v2))) rfl rfl rfl (J_move rfl (Opd.tmp rfl)) ?_
        refine RegL.pure (p := (pEq (.int .i64 (w64 (v2 + (1 : Int)))))) rfl rfl rfl (J_bin rfl (Opd.tmp rfl) Opd.con B_add) ?_
        refine RegL.pure (p := (pEq (.int .i64 (w64 (v2 + (1 : Int)))))) rfl rfl rfl (J_assign rfl (Opd.tmp rfl)) ?_
        refine RegL.nil ?_
        replace h := Option.some.inj h; subst h
        exact Ct.again () rfl ⟨rfl, rfl, rfl, trivial⟩
    · replace h := bif_f hc h
      refine Tr.exit ?_
      refine Ct.then_exit ?_
      replace h := map_some h; obtain ⟨r1, h, rfl⟩ := h
      refine Ct.out_exit fun e => ?_
      subst e
      refine Ct.blk_exit ?_
      refine Ct.then_tr ?_
      refine Tr.weak (Γ' := []) trivial ?_
      refine Tr.seq ?_
      refine Tr.region ?_
      refine RegL.pure (p := (pEq (.bool true))) rfl rfl rfl (J_assign rfl Opd.con) ?_
      refine RegL.nil ?_
      refine Ct.then_tr ?_
      refine Tr.weak (Γ' := [(4, (pEq (.bool true)))]) ⟨rfl, trivial⟩ ?_
      refine Tr.ret ?_
      replace h := Option.some.inj h; subst h
      exact Ct.retH1 (Ωx := []) () rfl (RvOk.tmp rfl) rfl

theorem c_laws_eqProblem {a_0 : GProblem} {b_1 : GProblem} {r : Bool} (h : m_laws_eqProblem a_0 b_1 = some r) : CallJ Try.prog 13 [(pAgg (cGProblem a_0)), (pAgg (cGProblem b_1))] (pEq (.bool r)) := by
  unfold m_laws_eqProblem at h
  refine CallJ.enterH Try.func13 rfl Try.ntmps13 rfl fun W I0 H => ?_
  refine Tr.weak (Γ' := [(0, (pAgg (cGProblem a_0))), (1, (pAgg (cGProblem b_1)))]) ⟨rfl, rfl, trivial⟩ ?_
  refine Tr.seq ?_
  refine Tr.region ?_
  refine RegL.pure (p := (pPtr (cGProblem a_0))) rfl rfl rfl (J_boxA rfl (Opd.tmp rfl)) ?_
  refine RegL.pure (p := (pPtr (cGProblem b_1))) rfl rfl rfl (J_boxA rfl (Opd.tmp rfl)) ?_
  refine RegL.pure (p := (pEq (.bool false))) rfl rfl rfl (J_assign rfl Opd.con) ?_
  refine RegL.nil ?_
  refine Ct.then_tr ?_
  refine Tr.weak (Γ' := [(2, (pPtr (cGProblem a_0))), (3, (pPtr (cGProblem b_1)))]) ⟨rfl, rfl, trivial⟩ ?_
  refine Tr.seq ?_
  refine Tr.seq ?_
  refine Tr.region ?_
  refine RegL.pure (p := (pPtr ((cSl 1 (cSl 1 (cK .i64))) a_0.Domains))) rfl rfl rfl (J_fieldAddr rfl Try.underlying29 rfl sz22 (by decide) (Opd.tmp rfl) rfl) ?_
  refine RegL.pure (p := (pSl 1 (cSl 1 (cK .i64)) a_0.Domains)) rfl rfl rfl (J_load rfl Try.isAgg22 (Opd.tmp rfl)) ?_
  refine RegL.pure (p := (pPtr ((cSl 1 (cSl 1 (cK .i64))) b_1.Domains))) rfl rfl rfl (J_fieldAddr rfl Try.underlying29 rfl sz22 (by decide) (Opd.tmp rfl) rfl) ?_
  refine RegL.pure (p := (pSl 1 (cSl 1 (cK .i64)) b_1.Domains)) rfl rfl rfl (J_load rfl Try.isAgg22 (Opd.tmp rfl)) ?_
  replace h := bind_some h; obtain ⟨x1, hx1, h⟩ := h
  refine RegL.pure (p := (pEq (.bool x1))) rfl rfl rfl (J_call rfl Try.call35 (c_laws_eqInt64SS hx1) (Opds.cons (Opd.tmp rfl) (Opds.cons (Opd.tmp rfl) Opds.nil))) ?_
  refine RegL.pure (p := (pEq (.bool (!x1)))) rfl rfl rfl (J_not rfl (Opd.tmp rfl)) ?_
  refine RegL.nil ?_
  refine Ct.then_tr ?_
  refine Tr.weak (Γ' := [(2, (pPtr (cGProblem a_0))), (3, (pPtr (cGProblem b_1))), (10, (pEq (.bool (!x1))))]) ⟨rfl, rfl, rfl, trivial⟩ ?_
  refine Tr.cond (Opd.tmp rfl) (fun hc => ?_) (fun hc => ?_)
  · replace h := bif_t hc h
    refine Tr.seq ?_
    refine Tr.region ?_
    refine RegL.pure (p := (pEq (.bool false))) rfl rfl rfl (J_assign rfl Opd.con) ?_
    refine RegL.nil ?_
    refine Ct.then_tr ?_
    refine Tr.weak (Γ' := [(4, (pEq (.bool false)))]) ⟨rfl, trivial⟩ ?_
    refine Tr.ret ?_
    refine Ct.then_ret ?_
    replace h := Option.some.inj h; subst h
    exact Ct.retH1 (Ωx := []) () rfl (RvOk.tmp rfl) rfl
  · replace h := bif_f hc h
    refine Tr.skip ?_
    refine Ct.then_tr ?_
    refine Tr.weak (Γ' := [(2, (pPtr (cGProblem a_0))), (3, (pPtr (cGProblem b_1)))]) ⟨rfl, rfl, trivial⟩ ?_
    refine Tr.seq ?_
    refine Tr.seq ?_
    refine Tr.region ?_
    refine RegL.pure (p := (pPtr ((cSl 1 (cSl 1 (cK .i64))) a_0.Apart))) rfl rfl rfl (J_fieldAddr rfl Try.underlying29 rfl sz22 (by decide) (Opd.tmp rfl) rfl) ?_
    refine RegL.pure (p := (pSl 1 (cSl 1 (cK .i64)) a_0.Apart)) rfl rfl rfl (J_load rfl Try.isAgg22 (Opd.tmp rfl)) ?_
    refine RegL.pure (p := (pPtr ((cSl 1 (cSl 1 (cK .i64))) b_1.Apart))) rfl rfl rfl (J_fieldAddr rfl Try.underlying29 rfl sz22 (by decide) (Opd.tmp rfl) rfl) ?_
    refine RegL.pure (p := (pSl 1 (cSl 1 (cK .i64)) b_1.Apart)) rfl rfl rfl (J_load rfl Try.isAgg22 (Opd.tmp rfl)) ?_
    replace h := bind_some h; obtain ⟨x2, hx2, h⟩ := h
    refine RegL.pure (p := (pEq (.bool x2))) rfl rfl rfl (J_call rfl Try.call35 (c_laws_eqInt64SS hx2) (Opds.cons (Opd.tmp rfl) (Opds.cons (Opd.tmp rfl) Opds.nil))) ?_
    refine RegL.pure (p := (pEq (.bool (!x2)))) rfl rfl rfl (J_not rfl (Opd.tmp rfl)) ?_
    refine RegL.nil ?_
    refine Ct.then_tr ?_
    refine Tr.weak (Γ' := [(16, (pEq (.bool (!x2))))]) ⟨rfl, trivial⟩ ?_
    refine Tr.cond (Opd.tmp rfl) (fun hc => ?_) (fun hc => ?_)
    · replace h := bif_t hc h
      refine Tr.seq ?_
      refine Tr.region ?_
      refine RegL.pure (p := (pEq (.bool false))) rfl rfl rfl (J_assign rfl Opd.con) ?_
      refine RegL.nil ?_
      refine Ct.then_tr ?_
      refine Tr.weak (Γ' := [(4, (pEq (.bool false)))]) ⟨rfl, trivial⟩ ?_
      refine Tr.ret ?_
      refine Ct.then_ret ?_
      replace h := Option.some.inj h; subst h
      exact Ct.retH1 (Ωx := []) () rfl (RvOk.tmp rfl) rfl
    · replace h := bif_f hc h
      refine Tr.skip ?_
      refine Ct.then_tr ?_
      refine Tr.weak (Γ' := []) trivial ?_
      refine Tr.seq ?_
      refine Tr.region ?_
      refine RegL.pure (p := (pEq (.bool true))) rfl rfl rfl (J_assign rfl Opd.con) ?_
      refine RegL.nil ?_
      refine Ct.then_tr ?_
      refine Tr.weak (Γ' := [(4, (pEq (.bool true)))]) ⟨rfl, trivial⟩ ?_
      refine Tr.ret ?_
      replace h := Option.some.inj h; subst h
      exact Ct.retH1 (Ωx := []) () rfl (RvOk.tmp rfl) rfl

theorem o_laws_markInt64S {a_0 : (List Int)} {k_1 : Int} {ho0 : Option Addr} {hn0 hc0 : Nat} {r : (Int × (List Int))} (h : m_laws_markInt64S a_0 k_1 = some r) : CallH Try.prog 15 [(pEq (.slice ho0 hn0 hc0)), (pEq (.int .i64 k_1))] [oSl 2 1 (cK .i64) ho0 hn0 hc0 a_0] (fun g : Unit => (pEq (.int .i64 r.1))) (fun g : Unit => [oSl 2 1 (cK .i64) ho0 hn0 hc0 r.2]) := by
  unfold m_laws_markInt64S at h
  refine CallH.enter Try.func15 rfl Try.ntmps15 rfl fun W I0 H => ?_
  refine Tr.weak (Γ' := [(0, (pEq (.slice ho0 hn0 hc0))), (1, (pEq (.int .i64 k_1)))]) ⟨rfl, rfl, trivial⟩ ?_
  refine Tr.seq ?_
  refine Tr.region ?_
  refine RegL.pure (p := (pEq (.int .i64 (0 : Int)))) rfl rfl rfl (J_assign rfl Opd.con) ?_
  refine RegL.nil ?_
  refine Ct.then_tr ?_
  refine Tr.weak (Γ' := [(0, (pEq (.slice ho0 hn0 hc0))), (1, (pEq (.int .i64 k_1)))]) ⟨rfl, rfl, trivial⟩ ?_
  refine Tr.seq ?_
  refine Tr.seq ?_
  refine Tr.region ?_
  refine RegL.pure (p := (pEq (.int .i64 (0 : Int)))) rfl rfl rfl (J_assign rfl Opd.con) ?_
  refine RegL.nil ?_
  refine Ct.then_tr ?_
  refine Tr.weak (Γ' := [(0, (pEq (.slice ho0 hn0 hc0))), (1, (pEq (.int .i64 k_1))), (5, (pEq (.int .i64 (0 : Int))))]) ⟨rfl, rfl, rfl, trivial⟩ ?_
  replace h := bind_some h; obtain ⟨x2, hx2, h⟩ := h
  refine Tr.cut (γ := Unit) (Γm := fun g => [(1, (pEq (.int .i64 x2.1)))]) (Ωm := fun g => [oSl 2 1 (cK .i64) ho0 hn0 hc0 x2.2]) ?_ (fun g10 => ?_)
  · clear h
    have h := hx2
    clear hx2
    refine Tr.block ?_
    refine Tr.weak (Γ' := [(0, (pEq (.slice ho0 hn0 hc0))), (1, (pEq (.int .i64 k_1))), (5, (pEq (.int .i64 (0 : Int))))]) ⟨rfl, rfl, rfl, trivial⟩ ?_
    refine Tr.loop (γ := Unit) (σ := (Int × Int × (List Int))) (Γσ := fun s g => [(0, (pEq (.slice ho0 hn0 hc0))), (1, (pEq (.int .i64 s.1))), (5, (pEq (.int .i64 s.2.1)))]) (Ωσ := fun s g => [oSl 2 1 (cK .i64) ho0 hn0 hc0 s.2.2]) (g := ()) h ?_
    clear h
    rintro ⟨v4, v5, v6⟩ g7 t h
    replace h : m_laws_markInt64S_B3  v4 v5 v6 = some t := h
    unfold m_laws_markInt64S_B3 at h
    refine Tr.weakO (Γ' := [(0, (pEq (.slice ho0 hn0 hc0))), (1, (pEq (.int .i64 v4))), (5, (pEq (.int .i64 v5)))]) (Ω' := [oSl 2 1 (cK .i64) ho0 hn0 hc0 v6]) rfl ⟨rfl, rfl, rfl, trivial⟩ ?_
    refine Tr.seq ?_
    refine Tr.seq ?_
    refine Tr.region ?_
    refine RegL.pure (p := (pEq (.int .i64 v5))) rfl rfl rfl (J_move rfl (Opd.tmp rfl)) ?_
    refine RegL.pure (p := (pEq (.slice ho0 hn0 hc0))) rfl rfl rfl (J_move rfl (Opd.tmp rfl)) ?_
    refine RegL.pureW (p := (pEq (.int .i64 (v6.length : Int)))) rfl rfl rfl (W_rowLen (j := 0) rfl Try.underlying26 (Opd.tmp rfl) rfl) ?_
    refine RegL.pure (p := (pEq (.bool (decide (v5 < (v6.length : Int)))))) rfl rfl rfl (J_bin rfl (Opd.tmp rfl) (Opd.tmp rfl) B_lss) ?_
    refine RegL.nil ?_
    refine Ct.then_tr ?_
    refine Tr.weak (Γ' := [(0, (pEq (.slice ho0 hn0 hc0))), (1, (pEq (.int .i64 v4))), (5, (pEq (.int .i64 v5))), (9, (pEq (.bool (decide (v5 < (v6.length : Int))))))]) ⟨rfl, rfl, rfl, rfl, trivial⟩ ?_
    refine Tr.cond (Opd.tmp rfl) (fun hc => ?_) (fun hc => ?_)
    · replace h := bif_t hc h
      refine Tr.skip ?_
      refine Ct.then_tr ?_
      refine Tr.weak (Γ' := [(0, (pEq (.slice ho0 hn0 hc0))), (1, (pEq (.int .i64 v4))), (5, (pEq (.int .i64 v5)))]) ⟨rfl, rfl, rfl, trivial⟩ ?_
      refine Tr.seq ?_
      refine Tr.block ?_
      refine Tr.seq ?_
      refine Tr.region ?_
      refine RegL.pure (p := (pEq (.slice ho0 hn0 hc0))) rfl rfl rfl (J_move rfl (Opd.tmp rfl)) ?_
      refine RegL.pure (p := (pEq (.int .i64 v5))) rfl rfl rfl (J_move rfl (Opd.tmp rfl)) ?_
      refine RegL.pure (p := (pEq (.int .i64 v4))) rfl rfl rfl (J_move rfl (Opd.tmp rfl)) ?_
      replace h := bind_some h; obtain ⟨u8, hu8, h⟩ := h
      refine RegL.pureW (p := (pEq (.pointer (some ⟨blk ho0, (v5).toNat * 1, none⟩)))) rfl rfl rfl (W_rowIdx (j := 0) rfl Try.underlying26 sz2 (Opd.tmp rfl) (Opd.tmp rfl) rfl (inB_some hu8)) ?_
      refine RegL.stepN (γ := Unit) (p := fun _ => pAny) (Ω' := fun _ => [oSl 2 1 (cK .i64) ho0 hn0 hc0 (v6.set (v5).toNat v4)]) rfl rfl (M_rowStore rfl sz2 (fun _ => rfl) (Opd.tmp rfl) (Opd.tmp rfl) rfl OneC.int (setL_of (inB_some hu8))) fun g9 => ?_
      refine RegL.nil ?_
      refine Ct.then_tr ?_
      refine Tr.weak (Γ' := [(0, (pEq (.slice ho0 hn0 hc0))), (1, (pEq (.int .i64 v4))), (5, (pEq (.int .i64 v5)))]) ⟨rfl, rfl, rfl, trivial⟩ ?_
      refine Tr.region ?_
      refine RegL.pure (p := (pEq (.int .i64 v4))) rfl rfl rfl (J_move rfl (Opd.tmp rfl)) ?_
      refine RegL.pure (p := (pEq (.int .i64 (w64 (v4 + (1 : Int)))))) rfl rfl rfl (J_bin rfl (Opd.tmp rfl) Opd.con B_add) ?_
      refine RegL.pure (p := (pEq (.int .i64 (w64 (v4 + (1 : Int)))))) rfl rfl rfl (J_assign rfl (Opd.tmp rfl)) ?_
      refine RegL.nil ?_
      refine Ct.blk_normal ?_
      refine Ct.then_tr ?_
      refine Tr.weak (Γ' := [(0, (pEq (.slice ho0 hn0 hc0))), (1, (pEq (.int .i64 (w64 (v4 + (1 : Int)))))), (5, (pEq (.int .i64 v5)))]) ⟨rfl, rfl, rfl, trivial⟩ ?_
      refine Tr.region ?_
      refine RegL.pure (p := (pEq (.int .i64 v5))) rfl rfl rfl (J_move rfl (Opd.tmp rfl)) ?_
      refine RegL.pure (p := (pEq (.int .i64 (w64 (v5 + (1 : Int)))))) rfl rfl rfl (J_bin rfl (Opd.tmp rfl) Opd.con B_add) ?_
      refine RegL.pure (p := (pEq (.int .i64 (w64 (v5 + (1 : Int)))))) rfl rfl rfl (J_assign rfl (Opd.tmp rfl)) ?_
      refine RegL.nil ?_
      replace h := Option.some.inj h; subst h
      exact Ct.again () rfl ⟨rfl, rfl, rfl, trivial⟩
    · replace h := bif_f hc h
      refine Tr.exit ?_
      refine Ct.then_exit ?_
      replace h := map_some h; obtain ⟨r1, h, rfl⟩ := h
      refine Ct.out_exit fun e => ?_
      subst e
      refine Ct.blk_exit ?_
      replace h := Option.some.inj h; subst h
      exact Ct.mid () rfl ⟨rfl, trivial⟩
  · clear hx2
    refine Ct.then_tr ?_
    refine Tr.weak (Γ' := [(1, (pEq (.int .i64 x2.1)))]) ⟨rfl, trivial⟩ ?_
    refine Tr.seq ?_
    refine Tr.region ?_
    refine RegL.pure (p := (pEq (.int .i64 x2.1))) rfl rfl rfl (J_move rfl (Opd.tmp rfl)) ?_
    refine RegL.pure (p := (pEq (.int .i64 x2.1))) rfl rfl rfl (J_assign rfl (Opd.tmp rfl)) ?_
    refine RegL.nil ?_
    refine Ct.then_tr ?_
    refine Tr.weak (Γ' := [(4, (pEq (.int .i64 x2.1)))]) ⟨rfl, trivial⟩ ?_
    refine Tr.ret ?_
    replace h := Option.some.inj h; subst h
    exact Ct.retH1 (Ωx := []) () rfl (RvOk.tmp rfl) rfl

theorem o_laws_markInt64SS {a_0 : (List (List Int))} {k_1 : Int} {ho0 : Option Addr} {hn0 hc0 : Nat} {hh0 : List G3} {r : (Int × (List (List Int)))} (h : m_laws_markInt64SS a_0 k_1 = some r) : CallH Try.prog 36 [(pEq (.slice ho0 hn0 hc0)), (pEq (.int .i64 k_1))] [oSS 26 2 1 (cK .i64) ho0 hn0 hc0 hh0 a_0] (fun g : Unit => (pEq (.int .i64 r.1))) (fun g : Unit => [oSS 26 2 1 (cK .i64) ho0 hn0 hc0 hh0 r.2]) := by
  unfold m_laws_markInt64SS at h
  refine CallH.enter Try.func36 rfl Try.ntmps36 rfl fun W I0 H => ?_
  refine Tr.weak (Γ' := [(0, (pEq (.slice ho0 hn0 hc0))), (1, (pEq (.int .i64 k_1)))]) ⟨rfl, rfl, trivial⟩ ?_
  refine Tr.seq ?_
  refine Tr.region ?_
  refine RegL.pure (p := (pEq (.int .i64 (0 : Int)))) rfl rfl rfl (J_assign rfl Opd.con) ?_
  refine RegL.nil ?_
  refine Ct.then_tr ?_
  refine Tr.weak (Γ' := [(0, (pEq (.slice ho0 hn0 hc0))), (1, (pEq (.int .i64 k_1)))]) ⟨rfl, rfl, trivial⟩ ?_
  refine Tr.seq ?_
  refine Tr.seq ?_
  refine Tr.region ?_
  refine RegL.pure (p := (pEq (.int .i64 (0 : Int)))) rfl rfl rfl (J_assign rfl Opd.con) ?_
  refine RegL.nil ?_
  refine Ct.then_tr ?_
  refine Tr.weak (Γ' := [(0, (pEq (.slice ho0 hn0 hc0))), (1, (pEq (.int .i64 k_1))), (5, (pEq (.int .i64 (0 : Int))))]) ⟨rfl, rfl, rfl, trivial⟩ ?_
  replace h := bind_some h; obtain ⟨x2, hx2, h⟩ := h
  refine Tr.cut (γ := Unit) (Γm := fun g => [(1, (pEq (.int .i64 x2.1)))]) (Ωm := fun g => [oSS 26 2 1 (cK .i64) ho0 hn0 hc0 hh0 x2.2]) ?_ (fun g12 => ?_)
  · clear h
    have h := hx2
    clear hx2
    refine Tr.block ?_
    refine Tr.weak (Γ' := [(0, (pEq (.slice ho0 hn0 hc0))), (1, (pEq (.int .i64 k_1))), (5, (pEq (.int .i64 (0 : Int))))]) ⟨rfl, rfl, rfl, trivial⟩ ?_
    refine Tr.loop (γ := Unit) (σ := (Int × Int × (List (List Int)))) (Γσ := fun s g => [(0, (pEq (.slice ho0 hn0 hc0))), (1, (pEq (.int .i64 s.1))), (5, (pEq (.int .i64 s.2.1)))]) (Ωσ := fun s g => [oSS 26 2 1 (cK .i64) ho0 hn0 hc0 hh0 s.2.2]) (g := ()) h ?_
    clear h
    rintro ⟨v4, v5, v6⟩ g7 t h
    replace h : m_laws_markInt64SS_B3  v4 v5 v6 = some t := h
    unfold m_laws_markInt64SS_B3 at h
    refine Tr.weakO (Γ' := [(0, (pEq (.slice ho0 hn0 hc0))), (1, (pEq (.int .i64 v4))), (5, (pEq (.int .i64 v5)))]) (Ω' := [oSS 26 2 1 (cK .i64) ho0 hn0 hc0 hh0 v6]) rfl ⟨rfl, rfl, rfl, trivial⟩ ?_
    refine Tr.seq ?_
    refine Tr.seq ?_
    refine Tr.region ?_
    refine RegL.pure (p := (pEq (.int .i64 v5))) rfl rfl rfl (J_move rfl (Opd.tmp rfl)) ?_
    refine RegL.pure (p := (pEq (.slice ho0 hn0 hc0))) rfl rfl rfl (J_move rfl (Opd.tmp rfl)) ?_
    refine RegL.pureW (p := (pEq (.int .i64 (v6.length : Int)))) rfl rfl rfl (W_nestLen (j := 0) rfl Try.underlying22 (Opd.tmp rfl) rfl) ?_
    refine RegL.pure (p := (pEq (.bool (decide (v5 < (v6.length : Int)))))) rfl rfl rfl (J_bin rfl (Opd.tmp rfl) (Opd.tmp rfl) B_lss) ?_
    refine RegL.nil ?_
    refine Ct.then_tr ?_
    refine Tr.weak (Γ' := [(0, (pEq (.slice ho0 hn0 hc0))), (1, (pEq (.int .i64 v4))), (5, (pEq (.int .i64 v5))), (9, (pEq (.bool (decide (v5 < (v6.length : Int))))))]) ⟨rfl, rfl, rfl, rfl, trivial⟩ ?_
    refine Tr.cond (Opd.tmp rfl) (fun hc => ?_) (fun hc => ?_)
    · replace h := bif_t hc h
      refine Tr.skip ?_
      refine Ct.then_tr ?_
      refine Tr.weak (Γ' := [(0, (pEq (.slice ho0 hn0 hc0))), (1, (pEq (.int .i64 v4))), (5, (pEq (.int .i64 v5)))]) ⟨rfl, rfl, rfl, trivial⟩ ?_
      refine Tr.seq ?_
      refine Tr.block ?_
      refine Tr.region ?_
      refine RegL.pure (p := (pEq (.slice ho0 hn0 hc0))) rfl rfl rfl (J_move rfl (Opd.tmp rfl)) ?_
      refine RegL.pure (p := (pEq (.int .i64 v5))) rfl rfl rfl (J_move rfl (Opd.tmp rfl)) ?_
      replace h := bind_some h; obtain ⟨x8, hx8, h⟩ := h
      refine RegL.pureW (p := (pEq (.pointer (some ⟨blk ho0, (v5).toNat * 1, none⟩)))) rfl rfl rfl (W_nestIdx (j := 0) rfl Try.underlying22 sz26 (Opd.tmp rfl) (Opd.tmp rfl) rfl (idx_lt hx8)) ?_
      refine RegL.pureW (p := (pEq (hdrV (gd hh0 v5)))) rfl rfl rfl (W_nestLoad (j := 0) rfl Try.isAgg26 (Opd.tmp rfl) rfl hx8) ?_
      refine RegL.pure (p := (pEq (.int .i64 v4))) rfl rfl rfl (J_move rfl (Opd.tmp rfl)) ?_
      replace h := bind_some h; obtain ⟨x10, hx10, h⟩ := h
      refine RegL.re (Ω2 := [oSl 2 1 (cK .i64) (gd hh0 v5).1 (gd hh0 v5).2.1 (gd hh0 v5).2.2 x8, oHole 26 2 1 (cK .i64) ho0 hn0 hc0 hh0 v6 v5]) (fun h => nest_focus hx8 h) ?_
      refine RegL.step (γ := Unit) (p := fun g => (pEq (.int .i64 x10.1))) (Ω' := fun g => [oSl 2 1 (cK .i64) (gd hh0 v5).1 (gd hh0 v5).2.1 (gd hh0 v5).2.2 x10.2, oHole 26 2 1 (cK .i64) ho0 hn0 hc0 hh0 v6 v5]) rfl rfl rfl (M_callH (Ωi := [oSl 2 1 (cK .i64) (gd hh0 v5).1 (gd hh0 v5).2.1 (gd hh0 v5).2.2 x8]) rfl Try.call15 (o_laws_markInt64S hx10) (Opds.cons (Opd.tmp rfl) (Opds.cons (Opd.tmp rfl) Opds.nil))) fun g11 => ?_
      refine RegL.re (Ω2 := [oSS 26 2 1 (cK .i64) ho0 hn0 hc0 hh0 (v6.set (v5).toNat x10.2)]) (fun h => nest_unfocus hx8 h) ?_
      refine RegL.pure (p := (pEq (.int .i64 x10.1))) rfl rfl rfl (J_assign rfl (Opd.tmp rfl)) ?_
      refine RegL.nil ?_
      refine Ct.blk_normal ?_
      refine Ct.then_tr ?_
      refine Tr.weak (Γ' := [(0, (pEq (.slice ho0 hn0 hc0))), (1, (pEq (.int .i64 x10.1))), (5, (pEq (.int .i64 v5)))]) ⟨rfl, rfl, rfl, trivial⟩ ?_
      refine Tr.region ?_
      refine RegL.pure (p := (pEq (.int .i64 v5))) rfl rfl rfl (J_move rfl (Opd.tmp rfl)) ?_
      refine RegL.pure (p := (pEq (.int .i64 (w64 (v5 + (1 : Int)))))) rfl rfl rfl (J_bin rfl (Opd.tmp rfl) Opd.con B_add) ?_
      refine RegL.pure (p := (pEq (.int .i64 (w64 (v5 + (1 : Int)))))) rfl rfl rfl (J_assign rfl (Opd.tmp rfl)) ?_
      refine RegL.nil ?_
      replace h := Option.some.inj h; subst h
      exact Ct.again () rfl ⟨rfl, rfl, rfl, trivial⟩
    · replace h := bif_f hc h
      refine Tr.exit ?_
      refine Ct.then_exit ?_
      replace h := map_some h; obtain ⟨r1, h, rfl⟩ := h
      refine Ct.out_exit fun e => ?_
      subst e
      refine Ct.blk_exit ?_
      replace h := Option.some.inj h; subst h
      exact Ct.mid () rfl ⟨rfl, trivial⟩
  · clear hx2
    refine Ct.then_tr ?_
    refine Tr.weak (Γ' := [(1, (pEq (.int .i64 x2.1)))]) ⟨rfl, trivial⟩ ?_
    refine Tr.seq ?_
    refine Tr.region ?_
    refine RegL.pure (p := (pEq (.int .i64 x2.1))) rfl rfl rfl (J_move rfl (Opd.tmp rfl)) ?_
    refine RegL.pure (p := (pEq (.int .i64 x2.1))) rfl rfl rfl (J_assign rfl (Opd.tmp rfl)) ?_
    refine RegL.nil ?_
    refine Ct.then_tr ?_
    refine Tr.weak (Γ' := [(4, (pEq (.int .i64 x2.1)))]) ⟨rfl, trivial⟩ ?_
    refine Tr.ret ?_
    replace h := Option.some.inj h; subst h
    exact Ct.retH1 (Ωx := []) () rfl (RvOk.tmp rfl) rfl

theorem o_laws_markProblem {a_0 : GProblem} {k_1 : Int} {ho0_0 : Option Addr} {hn0_0 hc0_0 : Nat} {hh0_0 : List G3} {ho0_1 : Option Addr} {hn0_1 hc0_1 : Nat} {hh0_1 : List G3} {r : (Int × (List (List Int)) × (List (List Int)))} (h : m_laws_markProblem a_0 k_1 = some r) : CallH Try.prog 14 [(pAgg [(pEq (.slice ho0_0 hn0_0 hc0_0)), (pEq (.slice ho0_1 hn0_1 hc0_1))]), (pEq (.int .i64 k_1))] [oSS 26 2 1 (cK .i64) ho0_0 hn0_0 hc0_0 hh0_0 a_0.Domains, oSS 26 2 1 (cK .i64) ho0_1 hn0_1 hc0_1 hh0_1 a_0.Apart] (fun g : Unit => (pEq (.int .i64 r.1))) (fun g : Unit => [oSS 26 2 1 (cK .i64) ho0_0 hn0_0 hc0_0 hh0_0 r.2.1, oSS 26 2 1 (cK .i64) ho0_1 hn0_1 hc0_1 hh0_1 r.2.2]) := by
  unfold m_laws_markProblem at h
  refine CallH.enter Try.func14 rfl Try.ntmps14 rfl fun W I0 H => ?_
  refine Tr.weak (Γ' := [(0, (pAgg [(pEq (.slice ho0_0 hn0_0 hc0_0)), (pEq (.slice ho0_1 hn0_1 hc0_1))])), (1, (pEq (.int .i64 k_1)))]) ⟨rfl, rfl, trivial⟩ ?_
  refine Tr.seq ?_
  refine Tr.region ?_
  refine RegL.step (γ := Nat) (p := fun b => pEq (.pointer (some ⟨b, 0, none⟩))) (Ω' := fun b => [oBlk b [(pEq (.slice ho0_0 hn0_0 hc0_0)), (pEq (.slice ho0_1 hn0_1 hc0_1))], oSS 26 2 1 (cK .i64) ho0_0 hn0_0 hc0_0 hh0_0 a_0.Domains, oSS 26 2 1 (cK .i64) ho0_1 hn0_1 hc0_1 hh0_1 a_0.Apart]) rfl rfl rfl (M_boxA rfl (Opd.tmp rfl)) fun b3 => ?_
  refine RegL.pure (p := (pEq (.int .i64 (0 : Int)))) rfl rfl rfl (J_assign rfl Opd.con) ?_
  refine RegL.nil ?_
  refine Ct.then_tr ?_
  refine Tr.weak (Γ' := [(1, (pEq (.int .i64 k_1))), (2, (pEq (.pointer (some ⟨b3, 0, none⟩))))]) ⟨rfl, rfl, trivial⟩ ?_
  refine Tr.seq ?_
  refine Tr.region ?_
  refine RegL.pure (p := (pEq (.pointer (some ⟨b3, 0, none⟩)))) rfl rfl rfl (J_fieldAddrE rfl Try.underlying29 rfl sz22 (by decide) (Opd.tmp rfl) rfl) ?_
  refine RegL.pureW (p := (pEq (.slice ho0_0 hn0_0 hc0_0))) rfl rfl rfl (W_load (i := 0) rfl Try.isAgg22 (Opd.tmp rfl) rfl rfl) ?_
  refine RegL.pure (p := (pEq (.int .i64 k_1))) rfl rfl rfl (J_move rfl (Opd.tmp rfl)) ?_
  replace h := bind_some h; obtain ⟨x4, hx4, h⟩ := h
  refine RegL.re (Ω2 := [oSS 26 2 1 (cK .i64) ho0_0 hn0_0 hc0_0 hh0_0 a_0.Domains, oBlk b3 [(pEq (.slice ho0_0 hn0_0 hc0_0)), (pEq (.slice ho0_1 hn0_1 hc0_1))], oSS 26 2 1 (cK .i64) ho0_1 hn0_1 hc0_1 hh0_1 a_0.Apart]) (fun h => SatO.pick 1 h) ?_
  refine RegL.step (γ := Unit) (p := fun g => (pEq (.int .i64 x4.1))) (Ω' := fun g => [oSS 26 2 1 (cK .i64) ho0_0 hn0_0 hc0_0 hh0_0 x4.2, oBlk b3 [(pEq (.slice ho0_0 hn0_0 hc0_0)), (pEq (.slice ho0_1 hn0_1 hc0_1))], oSS 26 2 1 (cK .i64) ho0_1 hn0_1 hc0_1 hh0_1 a_0.Apart]) rfl rfl rfl (M_callH (Ωi := [oSS 26 2 1 (cK .i64) ho0_0 hn0_0 hc0_0 hh0_0 a_0.Domains]) rfl Try.call36 (o_laws_markInt64SS hx4) (Opds.cons (Opd.tmp rfl) (Opds.cons (Opd.tmp rfl) Opds.nil))) fun g5 => ?_
  refine RegL.pure (p := (pEq (.int .i64 x4.1))) rfl rfl rfl (J_assign rfl (Opd.tmp rfl)) ?_
  refine RegL.nil ?_
  refine Ct.then_tr ?_
  refine Tr.weak (Γ' := [(1, (pEq (.int .i64 x4.1))), (2, (pEq (.pointer (some ⟨b3, 0, none⟩))))]) ⟨rfl, rfl, trivial⟩ ?_
  refine Tr.seq ?_
  refine Tr.region ?_
  refine RegL.pure (p := (pEq (.pointer (some ⟨b3, 1, none⟩)))) rfl rfl rfl (J_fieldAddrE rfl Try.underlying29 rfl sz22 (by decide) (Opd.tmp rfl) rfl) ?_
  refine RegL.pureW (p := (pEq (.slice ho0_1 hn0_1 hc0_1))) rfl rfl rfl (W_load (i := 1) rfl Try.isAgg22 (Opd.tmp rfl) rfl rfl) ?_
  refine RegL.pure (p := (pEq (.int .i64 x4.1))) rfl rfl rfl (J_move rfl (Opd.tmp rfl)) ?_
  replace h := bind_some h; obtain ⟨x6, hx6, h⟩ := h
  refine RegL.re (Ω2 := [oSS 26 2 1 (cK .i64) ho0_1 hn0_1 hc0_1 hh0_1 a_0.Apart, oSS 26 2 1 (cK .i64) ho0_0 hn0_0 hc0_0 hh0_0 x4.2, oBlk b3 [(pEq (.slice ho0_0 hn0_0 hc0_0)), (pEq (.slice ho0_1 hn0_1 hc0_1))]]) (fun h => SatO.pick 2 h) ?_
  refine RegL.step (γ := Unit) (p := fun g => (pEq (.int .i64 x6.1))) (Ω' := fun g => [oSS 26 2 1 (cK .i64) ho0_1 hn0_1 hc0_1 hh0_1 x6.2, oSS 26 2 1 (cK .i64) ho0_0 hn0_0 hc0_0 hh0_0 x4.2, oBlk b3 [(pEq (.slice ho0_0 hn0_0 hc0_0)), (pEq (.slice ho0_1 hn0_1 hc0_1))]]) rfl rfl rfl (M_callH (Ωi := [oSS 26 2 1 (cK .i64) ho0_1 hn0_1 hc0_1 hh0_1 a_0.Apart]) rfl Try.call36 (o_laws_markInt64SS hx6) (Opds.cons (Opd.tmp rfl) (Opds.cons (Opd.tmp rfl) Opds.nil))) fun g7 => ?_
  refine RegL.pure (p := (pEq (.int .i64 x6.1))) rfl rfl rfl (J_assign rfl (Opd.tmp rfl)) ?_
  refine RegL.nil ?_
  refine Ct.then_tr ?_
  refine Tr.weak (Γ' := [(1, (pEq (.int .i64 x6.1)))]) ⟨rfl, trivial⟩ ?_
  refine Tr.seq ?_
  refine Tr.region ?_
  refine RegL.pure (p := (pEq (.int .i64 x6.1))) rfl rfl rfl (J_move rfl (Opd.tmp rfl)) ?_
  refine RegL.pure (p := (pEq (.int .i64 x6.1))) rfl rfl rfl (J_assign rfl (Opd.tmp rfl)) ?_
  refine RegL.nil ?_
  refine Ct.then_tr ?_
  refine Tr.weak (Γ' := [(4, (pEq (.int .i64 x6.1)))]) ⟨rfl, trivial⟩ ?_
  refine Tr.ret ?_
  refine Ct.re (Ω2 := [oSS 26 2 1 (cK .i64) ho0_0 hn0_0 hc0_0 hh0_0 x4.2, oSS 26 2 1 (cK .i64) ho0_1 hn0_1 hc0_1 hh0_1 x6.2, oBlk b3 [(pEq (.slice ho0_0 hn0_0 hc0_0)), (pEq (.slice ho0_1 hn0_1 hc0_1))]]) (fun h => SatO.pick 1 h) ?_
  refine Ct.re (Ω2 := [oBlk b3 [(pEq (.slice ho0_0 hn0_0 hc0_0)), (pEq (.slice ho0_1 hn0_1 hc0_1))], oSS 26 2 1 (cK .i64) ho0_0 hn0_0 hc0_0 hh0_0 x4.2, oSS 26 2 1 (cK .i64) ho0_1 hn0_1 hc0_1 hh0_1 x6.2]) (fun h => SatO.pick 2 h) ?_
  replace h := Option.some.inj h; subst h
  exact Ct.retH1 (Ωx := [oBlk b3 [(pEq (.slice ho0_0 hn0_0 hc0_0)), (pEq (.slice ho0_1 hn0_1 hc0_1))]]) () rfl (RvOk.tmp rfl) rfl

theorem c_laws_heldInt64S {a_0 : (List Int)} {k_1 : Int} {r : Int} (h : m_laws_heldInt64S a_0 k_1 = some r) : CallJ Try.prog 16 [(pSl 1 (cK .i64) a_0), (pEq (.int .i64 k_1))] (pEq (.int .i64 r)) := by
  unfold m_laws_heldInt64S at h
  refine CallJ.enterH Try.func16 rfl Try.ntmps16 rfl fun W I0 H => ?_
  refine Tr.weak (Γ' := [(0, (pSl 1 (cK .i64) a_0)), (1, (pEq (.int .i64 k_1)))]) ⟨rfl, rfl, trivial⟩ ?_
  refine Tr.seq ?_
  refine Tr.region ?_
  refine RegL.pure (p := (pEq (.int .i64 (0 : Int)))) rfl rfl rfl (J_assign rfl Opd.con) ?_
  refine RegL.nil ?_
  refine Ct.then_tr ?_
  refine Tr.weak (Γ' := [(0, (pSl 1 (cK .i64) a_0)), (1, (pEq (.int .i64 k_1)))]) ⟨rfl, rfl, trivial⟩ ?_
  refine Tr.seq ?_
  refine Tr.seq ?_
  refine Tr.region ?_
  refine RegL.pure (p := (pEq (.int .i64 (0 : Int)))) rfl rfl rfl (J_assign rfl Opd.con) ?_
  refine RegL.nil ?_
  refine Ct.then_tr ?_
  refine Tr.weak (Γ' := [(0, (pSl 1 (cK .i64) a_0)), (1, (pEq (.int .i64 k_1))), (5, (pEq (.int .i64 (0 : Int))))]) ⟨rfl, rfl, rfl, trivial⟩ ?_
  refine Tr.block ?_
  refine Tr.weak (Γ' := [(0, (pSl 1 (cK .i64) a_0)), (1, (pEq (.int .i64 k_1))), (5, (pEq (.int .i64 (0 : Int))))]) ⟨rfl, rfl, rfl, trivial⟩ ?_
  refine Tr.loop (γ := Unit) (σ := (Int × Int)) (Γσ := fun s g => [(0, (pSl 1 (cK .i64) a_0)), (1, (pEq (.int .i64 s.1))), (5, (pEq (.int .i64 s.2)))]) (Ωσ := fun s g => []) (g := ()) h ?_
  clear h
  rintro ⟨v2, v3⟩ g4 t h
  replace h : m_laws_heldInt64S_B1 a_0 v2 v3 = some t := h
  unfold m_laws_heldInt64S_B1 at h
  refine Tr.weakO (Γ' := [(0, (pSl 1 (cK .i64) a_0)), (1, (pEq (.int .i64 v2))), (5, (pEq (.int .i64 v3)))]) (Ω' := []) rfl ⟨rfl, rfl, rfl, trivial⟩ ?_
  refine Tr.seq ?_
  refine Tr.seq ?_
  refine Tr.region ?_
  refine RegL.pure (p := (pEq (.int .i64 v3))) rfl rfl rfl (J_move rfl (Opd.tmp rfl)) ?_
  refine RegL.pure (p := (pSl 1 (cK .i64) a_0)) rfl rfl rfl (J_move rfl (Opd.tmp rfl)) ?_
  refine RegL.pure (p := (pEq (.int .i64 (a_0.length : Int)))) rfl rfl rfl (J_len rfl Try.underlying26 (Opd.tmp rfl) rfl) ?_
  refine RegL.pure (p := (pEq (.bool (decide (v3 < (a_0.length : Int)))))) rfl rfl rfl (J_bin rfl (Opd.tmp rfl) (Opd.tmp rfl) B_lss) ?_
  refine RegL.nil ?_
  refine Ct.then_tr ?_
  refine Tr.weak (Γ' := [(0, (pSl 1 (cK .i64) a_0)), (1, (pEq (.int .i64 v2))), (5, (pEq (.int .i64 v3))), (9, (pEq (.bool (decide (v3 < (a_0.length : Int))))))]) ⟨rfl, rfl, rfl, rfl, trivial⟩ ?_
  refine Tr.cond (Opd.tmp rfl) (fun hc => ?_) (fun hc => ?_)
  · replace h := bif_t hc h
    refine Tr.skip ?_
    refine Ct.then_tr ?_
    refine Tr.weak (Γ' := [(0, (pSl 1 (cK .i64) a_0)), (1, (pEq (.int .i64 v2))), (5, (pEq (.int .i64 v3)))]) ⟨rfl, rfl, rfl, trivial⟩ ?_
    refine Tr.seq ?_
    refine Tr.block ?_
    refine Tr.seq ?_
    refine Tr.seq ?_
    refine Tr.region ?_
    refine RegL.pure (p := (pSl 1 (cK .i64) a_0)) rfl rfl rfl (J_move rfl (Opd.tmp rfl)) ?_
    refine RegL.pure (p := (pEq (.int .i64 v3))) rfl rfl rfl (J_move rfl (Opd.tmp rfl)) ?_
    replace h := bind_some h; obtain ⟨x5, hx5, h⟩ := h
    refine RegL.pure (p := (pPtr ((cK .i64) x5))) rfl rfl rfl (J_idx rfl Try.underlying26 sz2 (Opd.tmp rfl) (Opd.tmp rfl) hx5) ?_
    refine RegL.pure (p := (pEq (.int .i64 x5))) rfl rfl rfl (J_load rfl Try.isAgg2 (Opd.tmp rfl)) ?_
    refine RegL.pure (p := (pEq (.int .i64 v2))) rfl rfl rfl (J_move rfl (Opd.tmp rfl)) ?_
    refine RegL.pure (p := (pEq (.bool (x5 != v2)))) rfl rfl rfl (J_bin rfl (Opd.tmp rfl) (Opd.tmp rfl) B_neq) ?_
    refine RegL.nil ?_
    refine Ct.then_tr ?_
    refine Tr.weak (Γ' := [(0, (pSl 1 (cK .i64) a_0)), (1, (pEq (.int .i64 v2))), (5, (pEq (.int .i64 v3))), (17, (pEq (.bool (x5 != v2))))]) ⟨rfl, rfl, rfl, rfl, trivial⟩ ?_
    refine Tr.cond (Opd.tmp rfl) (fun hc => ?_) (fun hc => ?_)
    · replace h := bif_t hc h
      refine Tr.seq ?_
      refine Tr.region ?_
      refine RegL.pure (p := (pEq (.int .i64 (-1 : Int)))) rfl rfl rfl (J_assign rfl Opd.con) ?_
      refine RegL.nil ?_
      refine Ct.then_tr ?_
      refine Tr.weak (Γ' := [(4, (pEq (.int .i64 (-1 : Int))))]) ⟨rfl, trivial⟩ ?_
      refine Tr.ret ?_
      refine Ct.then_ret ?_
      refine Ct.blk_ret ?_
      refine Ct.then_ret ?_
      replace h := map_some h; obtain ⟨r1, h, rfl⟩ := h
      refine Ct.out_ret fun e => ?_
      subst e
      refine Ct.blk_ret ?_
      refine Ct.then_ret ?_
      replace h := Option.some.inj h; subst h
      exact Ct.retH1 (Ωx := []) () rfl (RvOk.tmp rfl) rfl
    · replace h := bif_f hc h
      refine Tr.skip ?_
      refine Ct.then_tr ?_
      refine Tr.weak (Γ' := [(0, (pSl 1 (cK .i64) a_0)), (1, (pEq (.int .i64 v2))), (5, (pEq (.int .i64 v3)))]) ⟨rfl, rfl, rfl, trivial⟩ ?_
      refine Tr.region ?_
      refine RegL.pure (p := (pEq (.int .i64 v2))) rfl rfl rfl (J_move rfl (Opd.tmp rfl)) ?_
      refine RegL.pure (p := (pEq (.int .i64 (w64 (v2 + (1 : Int)))))) rfl rfl rfl (J_bin rfl (Opd.tmp rfl) Opd.con B_add) ?_
      refine RegL.pure (p := (pEq (.int .i64 (w64 (v2 + (1 : Int)))))) rfl rfl rfl (J_assign rfl (Opd.tmp rfl)) ?_
      refine RegL.nil ?_
      refine Ct.blk_normal ?_
      refine Ct.then_tr ?_
      refine Tr.weak (Γ' := [(0, (pSl 1 (cK .i64) a_0)), (1, (pEq (.int .i64 (w64 (v2 + (1 : Int)))))), (5, (pEq (.int .i64 v3)))]) ⟨rfl, rfl, rfl, trivial⟩ ?_
      refine Tr.region ?_
      refine RegL.pure (p := (pEq (.int .i64 v3))) rfl rfl rfl (J_move rfl (Opd.tmp rfl)) ?_
      refine RegL.pure (p := (pEq (.int .i64 (w64 (v3 + (1 : Int)))))) rfl rfl rfl (J_bin rfl (Opd.tmp rfl) Opd.con B_add) ?_
      refine RegL.pure (p := (pEq (.int .i64 (w64 (v3 + (1 : Int)))))) rfl rfl rfl (J_assign rfl (Opd.tmp rfl)) ?_
      refine RegL.nil ?_
      replace h := Option.some.inj h; subst h
      exact Ct.again () rfl ⟨rfl, rfl, rfl, trivial⟩
  · replace h := bif_f hc h
    refine Tr.exit ?_
    refine Ct.then_exit ?_
    replace h := map_some h; obtain ⟨r1, h, rfl⟩ := h
    refine Ct.out_exit fun e => ?_
    subst e
    refine Ct.blk_exit ?_
    refine Ct.then_tr ?_
    refine Tr.weak (Γ' := [(1, (pEq (.int .i64 v2)))]) ⟨rfl, trivial⟩ ?_
    refine Tr.seq ?_
    refine Tr.region ?_
    refine RegL.pure (p := (pEq (.int .i64 v2))) rfl rfl rfl (J_move rfl (Opd.tmp rfl)) ?_
    refine RegL.pure (p := (pEq (.int .i64 v2))) rfl rfl rfl (J_assign rfl (Opd.tmp rfl)) ?_
    refine RegL.nil ?_
    refine Ct.then_tr ?_
    refine Tr.weak (Γ' := [(4, (pEq (.int .i64 v2)))]) ⟨rfl, trivial⟩ ?_
    refine Tr.ret ?_
    replace h := Option.some.inj h; subst h
    exact Ct.retH1 (Ωx := []) () rfl (RvOk.tmp rfl) rfl


end Go.Proofs.Ytfadnbelnfofbaa.fnExactGreedyAssignW
