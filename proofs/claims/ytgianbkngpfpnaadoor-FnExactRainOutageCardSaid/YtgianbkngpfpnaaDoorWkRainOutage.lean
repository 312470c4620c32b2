/-
  The walks that the law FnExactRainOutage reaches: each function computes its model. Printed by our own program.
-/
import Derived.Test.YtgianbkngpfpnaaDoorProg
import Derived.Test.YtgianbkngpfpnaaDoorMod
import Derived.Test.YtgianbkngpfpnaaDoorZero
import Derived.KernelRfl
import Derived.Test.YtgianbkngpfpnaaDoorWkRainOutagea
namespace Go.Proofs.YtgianbkngpfpnaaDoor.fnExactRainOutageW
open Go Go.RowKit Go.Wk
set_option linter.unusedVariables false
set_option maxRecDepth 100000


theorem c_impl_rainOutage {f_0 : Int} {d_1 : Int} {margin_2 : Int} {r : Int} (h : m_impl_rainOutage f_0 d_1 margin_2 = some r) : CallJ Tryd.prog 31 [(pG (pTab 0 .u64 Lib.pow10Tab) (pEq (.int .i64 f_0))), (pEq (.int .i64 d_1)), (pEq (.int .i64 margin_2))] (pEq (.int .i64 r)) := by
  unfold m_impl_rainOutage at h
  refine CallJ.enterH Tryd.func31 rfl Tryd.ntmps31 rfl fun W I0 H => ?_
  refine Tr.tab (s := 0) (k := 99999) rfl ?_; refine Tr.weak (Γ' := [(0, (pEq (.int .i64 f_0))), (1, (pEq (.int .i64 d_1))), (2, (pEq (.int .i64 margin_2))), (99999, (pTab 0 .u64 Lib.pow10Tab))]) ⟨rfl, rfl, rfl, rfl, trivial⟩ ?_
  refine Tr.seq ?_
  refine Tr.region ?_
  refine RegL.pure (p := (pPtr ((cK .i64) f_0))) rfl rfl rfl (J_box rfl (Opd.tmp rfl) OneC.int) ?_
  refine RegL.pure (p := (pPtr ((cK .i64) d_1))) rfl rfl rfl (J_box rfl (Opd.tmp rfl) OneC.int) ?_
  refine RegL.pure (p := (pPtr ((cK .i64) margin_2))) rfl rfl rfl (J_box rfl (Opd.tmp rfl) OneC.int) ?_
  refine RegL.pure (p := (pEq (.int .i64 (0 : Int)))) rfl rfl rfl (J_assign rfl Opd.con) ?_
  refine RegL.nil ?_
  refine Ct.then_tr ?_
  refine Tr.weak (Γ' := [(3, (pPtr ((cK .i64) f_0))), (4, (pPtr ((cK .i64) d_1))), (5, (pPtr ((cK .i64) margin_2))), (99999, (pTab 0 .u64 Lib.pow10Tab))]) ⟨rfl, rfl, rfl, rfl, trivial⟩ ?_
  refine Tr.seq ?_
  refine Tr.region ?_
  refine RegL.pure (p := (pFn Tryd.prog (fun x => [(pEq (.int .i64 x))]) (fun x => m_impl_rainOutage_1 x f_0 d_1 margin_2) (fun y => (pEq (.bool y))))) rfl rfl rfl (J_makeFn rfl Tryd.call46 (Opds.cons (Opd.tab (Opd.tmp rfl) 99999 rfl) (Opds.cons (Opd.tmp rfl) (Opds.cons (Opd.tmp rfl) Opds.nil))) (fun _ _ h => c_impl_rainOutage_1 h)) ?_
  replace h := bind_some h; obtain ⟨x1, hx1, h⟩ := h
  refine RegL.pure (p := (pTup [(pEq (.int .i64 x1.1)), (pEq (.bool x1.2))])) rfl rfl rfl (J_call rfl Tryd.call45 (c_impl_least hx1) (Opds.cons Opd.con (Opds.cons Opd.con (Opds.cons (Opd.tmp rfl) Opds.nil)))) ?_
  refine RegL.pure (p := (pTup [(pEq (.int .i64 x1.1)), (pEq (.bool x1.2))])) rfl rfl rfl (J_move rfl (Opd.tmp rfl)) ?_
  refine RegL.pure (p := (pEq (.int .i64 x1.1))) rfl rfl rfl (J_extract rfl (Opd.tmp rfl) rfl) ?_
  refine RegL.pure (p := (pEq (.bool x1.2))) rfl rfl rfl (J_extract rfl (Opd.tmp rfl) rfl) ?_
  refine RegL.pure (p := (pEq (.int .i64 x1.1))) rfl rfl rfl (J_assign rfl (Opd.tmp rfl)) ?_
  refine RegL.pure (p := (pEq (.bool x1.2))) rfl rfl rfl (J_assign rfl (Opd.tmp rfl)) ?_
  refine RegL.nil ?_
  refine Ct.then_tr ?_
  refine Tr.weak (Γ' := [(7, (pEq (.int .i64 x1.1))), (8, (pEq (.bool x1.2))), (99999, (pTab 0 .u64 Lib.pow10Tab))]) ⟨rfl, rfl, rfl, trivial⟩ ?_
  refine Tr.seq ?_
  refine Tr.seq ?_
  refine Tr.region ?_
  refine RegL.pure (p := (pEq (.bool x1.2))) rfl rfl rfl (J_move rfl (Opd.tmp rfl)) ?_
  refine RegL.pure (p := (pEq (.bool (!x1.2)))) rfl rfl rfl (J_not rfl (Opd.tmp rfl)) ?_
  refine RegL.nil ?_
  refine Ct.then_tr ?_
  refine Tr.weak (Γ' := [(7, (pEq (.int .i64 x1.1))), (15, (pEq (.bool (!x1.2)))), (99999, (pTab 0 .u64 Lib.pow10Tab))]) ⟨rfl, rfl, rfl, trivial⟩ ?_
  refine Tr.cond (Opd.tmp rfl) (fun hc => ?_) (fun hc => ?_)
  · replace h := bif_t hc h
    refine Tr.seq ?_
    refine Tr.region ?_
    refine RegL.pure (p := (pEq (.int .i64 (0 : Int)))) rfl rfl rfl (J_assign rfl Opd.con) ?_
    refine RegL.nil ?_
    refine Ct.then_tr ?_
    refine Tr.weak (Γ' := [(6, (pEq (.int .i64 (0 : Int)))), (99999, (pTab 0 .u64 Lib.pow10Tab))]) ⟨rfl, rfl, trivial⟩ ?_
    refine Tr.ret ?_
    refine Ct.then_ret ?_
    replace h := Option.some.inj h; subst h
    exact Ct.retH1 (Ωx := []) () rfl (RvOk.tmp rfl) rfl
  · replace h := bif_f hc h
    refine Tr.skip ?_
    refine Ct.then_tr ?_
    refine Tr.weak (Γ' := [(7, (pEq (.int .i64 x1.1))), (99999, (pTab 0 .u64 Lib.pow10Tab))]) ⟨rfl, rfl, trivial⟩ ?_
    refine Tr.seq ?_
    refine Tr.region ?_
    refine RegL.pure (p := (pEq (.int .i64 x1.1))) rfl rfl rfl (J_move rfl (Opd.tmp rfl)) ?_
    replace h := bind_some h; obtain ⟨x2, hx2, h⟩ := h
    refine RegL.pure (p := (pEq (.int .i64 x2))) rfl rfl rfl (J_call rfl Tryd.call48 (c_impl_exceedanceOf hx2) (Opds.cons (Opd.tmp rfl) Opds.nil)) ?_
    refine RegL.pure (p := (pEq (.int .i64 x2))) rfl rfl rfl (J_assign rfl (Opd.tmp rfl)) ?_
    refine RegL.nil ?_
    refine Ct.then_tr ?_
    refine Tr.weak (Γ' := [(6, (pEq (.int .i64 x2))), (99999, (pTab 0 .u64 Lib.pow10Tab))]) ⟨rfl, rfl, trivial⟩ ?_
    refine Tr.ret ?_
    replace h := Option.some.inj h; subst h
    exact Ct.retH1 (Ωx := []) () rfl (RvOk.tmp rfl) rfl

theorem c_impl_RainOutage {f_0 : Int} {d_1 : Int} {margin_2 : Int} {r : (Int × Int)} (h : m_impl_RainOutage f_0 d_1 margin_2 = some r) : CallJ Tryd.prog 12 [(pG (pTab 0 .u64 Lib.pow10Tab) (pEq (.int .i64 f_0))), (pEq (.int .i64 d_1)), (pEq (.int .i64 margin_2))] (pTup [(pEq (.int .i64 r.1)), (pEq (.int .i64 r.2))]) := by
  unfold m_impl_RainOutage at h
  refine CallJ.enterH Tryd.func12 rfl Tryd.ntmps12 rfl fun W I0 H => ?_
  refine Tr.tab (s := 0) (k := 99999) rfl ?_; refine Tr.weak (Γ' := [(0, (pEq (.int .i64 f_0))), (1, (pEq (.int .i64 d_1))), (2, (pEq (.int .i64 margin_2))), (99999, (pTab 0 .u64 Lib.pow10Tab))]) ⟨rfl, rfl, rfl, rfl, trivial⟩ ?_
  refine Tr.seq ?_
  refine Tr.region ?_
  refine RegL.pure (p := (pEq (.int .i64 (0 : Int)))) rfl rfl rfl (J_assign rfl Opd.con) ?_
  refine RegL.pure (p := (pEq (.int .i64 (0 : Int)))) rfl rfl rfl (J_assign rfl Opd.con) ?_
  refine RegL.nil ?_
  refine Ct.then_tr ?_
  refine Tr.weak (Γ' := [(0, (pEq (.int .i64 f_0))), (1, (pEq (.int .i64 d_1))), (2, (pEq (.int .i64 margin_2))), (99999, (pTab 0 .u64 Lib.pow10Tab))]) ⟨rfl, rfl, rfl, rfl, trivial⟩ ?_
  refine Tr.seq ?_
  refine Tr.seq ?_
  replace h := bind_some h; obtain ⟨x1, hx1, h⟩ := h
  refine Tr.cut (γ := Unit) (Γm := fun g => [(0, (pEq (.int .i64 f_0))), (1, (pEq (.int .i64 d_1))), (2, (pEq (.int .i64 margin_2))), (20, (pEq (.bool x1))), (99999, (pTab 0 .u64 Lib.pow10Tab))]) (Ωm := fun g => []) ?_ (fun g7 => ?_)
  · clear h
    have h := hx1
    clear hx1
    refine Tr.region ?_
    refine RegL.pure (p := (pEq (.int .i64 f_0))) rfl rfl rfl (J_move rfl (Opd.tmp rfl)) ?_
    replace h := bind_some h; obtain ⟨x2, hx2, h⟩ := h
    refine RegL.pure (p := (pEq (.bool x2))) rfl rfl rfl (J_call rfl Tryd.call29 (c_impl_frequencyOk hx2) (Opds.cons (Opd.tmp rfl) Opds.nil)) ?_
    refine RegL.pure (p := (pEq (.bool (!x2)))) rfl rfl rfl (J_not rfl (Opd.tmp rfl)) ?_
    refine RegL.pure (p := (pEq (.bool (!x2)))) rfl rfl rfl (J_move rfl (Opd.tmp rfl)) ?_
    rcases Bool.eq_false_or_eq_true (!x2) with hc3 | hc3
    · replace h := bif_t hc3 h
      refine RegL.skipG rfl rfl rfl hc3 rfl rfl ?_
      refine RegL.skipG rfl rfl rfl hc3 rfl rfl ?_
      refine RegL.skipG rfl rfl rfl hc3 rfl rfl ?_
      refine RegL.pure (p := (pEq (.bool true))) rfl rfl rfl (J_pick rfl (Opd.tmp rfl) (fun _ => Opd.con) (fun hf => absurd (hc3.symm.trans hf) (by decide))) ?_
      refine RegL.pure (p := (pEq (.bool true))) rfl rfl rfl (J_move rfl (Opd.tmp rfl)) ?_
      refine RegL.skipG rfl rfl rfl rfl rfl rfl ?_
      refine RegL.skipG rfl rfl rfl rfl rfl rfl ?_
      refine RegL.skipG rfl rfl rfl rfl rfl rfl ?_
      refine RegL.pure (p := (pEq (.bool true))) rfl rfl rfl (J_pick rfl (Opd.tmp rfl) (fun _ => Opd.con) (fun hf => absurd hf (by decide))) ?_
      refine RegL.nil ?_
      replace h := Option.some.inj h; subst h
      exact Ct.mid () rfl ⟨rfl, rfl, rfl, rfl, rfl, trivial⟩
    · replace h := bif_f hc3 h
      refine RegL.pureG (p := (pEq (.int .i64 d_1))) rfl rfl rfl hc3 rfl rfl (J_move rfl (Opd.tmp rfl)) ?_
      replace h := bind_some h; obtain ⟨x4, hx4, h⟩ := h
      refine RegL.pureG (p := (pEq (.bool x4))) rfl rfl rfl hc3 rfl rfl (J_call rfl Tryd.call30 (c_impl_distanceOk hx4) (Opds.cons (Opd.tmp rfl) Opds.nil)) ?_
      refine RegL.pureG (p := (pEq (.bool (!x4)))) rfl rfl rfl hc3 rfl rfl (J_not rfl (Opd.tmp rfl)) ?_
      refine RegL.pure (p := (pEq (.bool (!x4)))) rfl rfl rfl (J_pick rfl (Opd.tmp rfl) (fun hf => absurd (hc3.symm.trans hf) (by decide)) (fun _ => (Opd.tmp rfl))) ?_
      refine RegL.pure (p := (pEq (.bool (!x4)))) rfl rfl rfl (J_move rfl (Opd.tmp rfl)) ?_
      rcases Bool.eq_false_or_eq_true (!x4) with hc5 | hc5
      · replace h := bif_t hc5 h
        refine RegL.skipG rfl rfl rfl hc5 rfl rfl ?_
        refine RegL.skipG rfl rfl rfl hc5 rfl rfl ?_
        refine RegL.skipG rfl rfl rfl hc5 rfl rfl ?_
        refine RegL.pure (p := (pEq (.bool true))) rfl rfl rfl (J_pick rfl (Opd.tmp rfl) (fun _ => Opd.con) (fun hf => absurd (hc5.symm.trans hf) (by decide))) ?_
        refine RegL.nil ?_
        replace h := Option.some.inj h; subst h
        exact Ct.mid () rfl ⟨rfl, rfl, rfl, rfl, rfl, trivial⟩
      · replace h := bif_f hc5 h
        refine RegL.pureG (p := (pEq (.int .i64 margin_2))) rfl rfl rfl hc5 rfl rfl (J_move rfl (Opd.tmp rfl)) ?_
        replace h := bind_some h; obtain ⟨x6, hx6, h⟩ := h
        refine RegL.pureG (p := (pEq (.bool x6))) rfl rfl rfl hc5 rfl rfl (J_call rfl Tryd.call21 (c_impl_marginOk hx6) (Opds.cons (Opd.tmp rfl) Opds.nil)) ?_
        refine RegL.pureG (p := (pEq (.bool (!x6)))) rfl rfl rfl hc5 rfl rfl (J_not rfl (Opd.tmp rfl)) ?_
        refine RegL.pure (p := (pEq (.bool (!x6)))) rfl rfl rfl (J_pick rfl (Opd.tmp rfl) (fun hf => absurd (hc5.symm.trans hf) (by decide)) (fun _ => (Opd.tmp rfl))) ?_
        refine RegL.nil ?_
        replace h := Option.some.inj h; subst h
        exact Ct.mid () rfl ⟨rfl, rfl, rfl, rfl, rfl, trivial⟩
  · clear hx1
    refine Ct.then_tr ?_
    refine Tr.weak (Γ' := [(0, (pEq (.int .i64 f_0))), (1, (pEq (.int .i64 d_1))), (2, (pEq (.int .i64 margin_2))), (20, (pEq (.bool x1))), (99999, (pTab 0 .u64 Lib.pow10Tab))]) ⟨rfl, rfl, rfl, rfl, rfl, trivial⟩ ?_
    refine Tr.cond (Opd.tmp rfl) (fun hc => ?_) (fun hc => ?_)
    · replace h := bif_t hc h
      refine Tr.seq ?_
      refine Tr.region ?_
      refine RegL.pure (p := (pEq (.int .i64 (0 : Int)))) rfl rfl rfl (J_assign rfl Opd.con) ?_
      refine RegL.pure (p := (pEq (.int .i64 (2 : Int)))) rfl rfl rfl (J_assign rfl Opd.con) ?_
      refine RegL.nil ?_
      refine Ct.then_tr ?_
      refine Tr.weak (Γ' := [(6, (pEq (.int .i64 (0 : Int)))), (7, (pEq (.int .i64 (2 : Int)))), (99999, (pTab 0 .u64 Lib.pow10Tab))]) ⟨rfl, rfl, rfl, trivial⟩ ?_
      refine Tr.ret ?_
      refine Ct.then_ret ?_
      replace h := Option.some.inj h; subst h
      exact Ct.retH2 (Ωx := []) () rfl (RvOk.tmp rfl) (RvOk.tmp rfl) rfl rfl
    · replace h := bif_f hc h
      refine Tr.skip ?_
      refine Ct.then_tr ?_
      refine Tr.weak (Γ' := [(0, (pEq (.int .i64 f_0))), (1, (pEq (.int .i64 d_1))), (2, (pEq (.int .i64 margin_2))), (99999, (pTab 0 .u64 Lib.pow10Tab))]) ⟨rfl, rfl, rfl, rfl, trivial⟩ ?_
      refine Tr.seq ?_
      refine Tr.region ?_
      refine RegL.pure (p := (pEq (.int .i64 f_0))) rfl rfl rfl (J_move rfl (Opd.tmp rfl)) ?_
      refine RegL.pure (p := (pEq (.int .i64 d_1))) rfl rfl rfl (J_move rfl (Opd.tmp rfl)) ?_
      refine RegL.pure (p := (pEq (.int .i64 margin_2))) rfl rfl rfl (J_move rfl (Opd.tmp rfl)) ?_
      replace h := bind_some h; obtain ⟨x8, hx8, h⟩ := h
      refine RegL.pure (p := (pEq (.int .i64 x8))) rfl rfl rfl (J_call rfl Tryd.call31 (c_impl_rainOutage hx8) (Opds.cons (Opd.tab (Opd.tmp rfl) 99999 rfl) (Opds.cons (Opd.tmp rfl) (Opds.cons (Opd.tmp rfl) Opds.nil)))) ?_
      refine RegL.pure (p := (pEq (.int .i64 x8))) rfl rfl rfl (J_assign rfl (Opd.tmp rfl)) ?_
      refine RegL.pure (p := (pEq (.int .i64 (0 : Int)))) rfl rfl rfl (J_assign rfl Opd.con) ?_
      refine RegL.nil ?_
      refine Ct.then_tr ?_
      refine Tr.weak (Γ' := [(6, (pEq (.int .i64 x8))), (7, (pEq (.int .i64 (0 : Int)))), (99999, (pTab 0 .u64 Lib.pow10Tab))]) ⟨rfl, rfl, rfl, trivial⟩ ?_
      refine Tr.ret ?_
      replace h := Option.some.inj h; subst h
      exact Ct.retH2 (Ωx := []) () rfl (RvOk.tmp rfl) (RvOk.tmp rfl) rfl rfl

theorem c_laws_FnExactRainOutage {aF_0 : Int} {aD_1 : Int} {aMargin_2 : Int} {r : Bool} (h : m_laws_FnExactRainOutage aF_0 aD_1 aMargin_2 = some r) : CallJ Tryd.prog 5 [(pG (pTab 0 .u64 Lib.pow10Tab) (pEq (.int .i64 aF_0))), (pEq (.int .i64 aD_1)), (pEq (.int .i64 aMargin_2))] (pEq (.bool r)) := by
  unfold m_laws_FnExactRainOutage at h
  refine CallJ.enterH Tryd.func5 rfl Tryd.ntmps5 rfl fun W I0 H => ?_
  refine Tr.tab (s := 0) (k := 99999) rfl ?_; refine Tr.weak (Γ' := [(0, (pEq (.int .i64 aF_0))), (1, (pEq (.int .i64 aD_1))), (2, (pEq (.int .i64 aMargin_2))), (99999, (pTab 0 .u64 Lib.pow10Tab))]) ⟨rfl, rfl, rfl, rfl, trivial⟩ ?_
  refine Tr.seq ?_
  refine Tr.region ?_
  refine RegL.pure (p := (pEq (.bool false))) rfl rfl rfl (J_assign rfl Opd.con) ?_
  refine RegL.nil ?_
  refine Ct.then_tr ?_
  refine Tr.weak (Γ' := [(0, (pEq (.int .i64 aF_0))), (1, (pEq (.int .i64 aD_1))), (2, (pEq (.int .i64 aMargin_2))), (99999, (pTab 0 .u64 Lib.pow10Tab))]) ⟨rfl, rfl, rfl, rfl, trivial⟩ ?_
  refine Tr.seq ?_
  refine Tr.region ?_
  refine RegL.pure (p := (pEq (.int .i64 aF_0))) rfl rfl rfl (J_move rfl (Opd.tmp rfl)) ?_
  refine RegL.pure (p := (pEq (.int .i64 aD_1))) rfl rfl rfl (J_move rfl (Opd.tmp rfl)) ?_
  refine RegL.pure (p := (pEq (.int .i64 aMargin_2))) rfl rfl rfl (J_move rfl (Opd.tmp rfl)) ?_
  replace h := bind_some h; obtain ⟨x1, hx1, h⟩ := h
  refine RegL.pure (p := (pTup [(pEq (.int .i64 x1.1)), (pEq (.int .i64 x1.2))])) rfl rfl rfl (J_call rfl Tryd.call11 (c_spec_RainOutage hx1) (Opds.cons (Opd.tmp rfl) (Opds.cons (Opd.tmp rfl) (Opds.cons (Opd.tmp rfl) Opds.nil)))) ?_
  refine RegL.pure (p := (pTup [(pEq (.int .i64 x1.1)), (pEq (.int .i64 x1.2))])) rfl rfl rfl (J_move rfl (Opd.tmp rfl)) ?_
  refine RegL.pure (p := (pEq (.int .i64 x1.1))) rfl rfl rfl (J_extract rfl (Opd.tmp rfl) rfl) ?_
  refine RegL.pure (p := (pEq (.int .i64 x1.2))) rfl rfl rfl (J_extract rfl (Opd.tmp rfl) rfl) ?_
  refine RegL.pure (p := (pEq (.int .i64 x1.1))) rfl rfl rfl (J_assign rfl (Opd.tmp rfl)) ?_
  refine RegL.pure (p := (pEq (.int .i64 x1.2))) rfl rfl rfl (J_assign rfl (Opd.tmp rfl)) ?_
  refine RegL.nil ?_
  refine Ct.then_tr ?_
  refine Tr.weak (Γ' := [(0, (pEq (.int .i64 aF_0))), (1, (pEq (.int .i64 aD_1))), (2, (pEq (.int .i64 aMargin_2))), (7, (pEq (.int .i64 x1.1))), (8, (pEq (.int .i64 x1.2))), (99999, (pTab 0 .u64 Lib.pow10Tab))]) ⟨rfl, rfl, rfl, rfl, rfl, rfl, trivial⟩ ?_
  refine Tr.seq ?_
  refine Tr.region ?_
  refine RegL.pure (p := (pEq (.int .i64 aF_0))) rfl rfl rfl (J_move rfl (Opd.tmp rfl)) ?_
  refine RegL.pure (p := (pEq (.int .i64 aD_1))) rfl rfl rfl (J_move rfl (Opd.tmp rfl)) ?_
  refine RegL.pure (p := (pEq (.int .i64 aMargin_2))) rfl rfl rfl (J_move rfl (Opd.tmp rfl)) ?_
  replace h := bind_some h; obtain ⟨x2, hx2, h⟩ := h
  refine RegL.pure (p := (pTup [(pEq (.int .i64 x2.1)), (pEq (.int .i64 x2.2))])) rfl rfl rfl (J_call rfl Tryd.call12 (c_impl_RainOutage hx2) (Opds.cons (Opd.tab (Opd.tmp rfl) 99999 rfl) (Opds.cons (Opd.tmp rfl) (Opds.cons (Opd.tmp rfl) Opds.nil)))) ?_
  refine RegL.pure (p := (pTup [(pEq (.int .i64 x2.1)), (pEq (.int .i64 x2.2))])) rfl rfl rfl (J_move rfl (Opd.tmp rfl)) ?_
  refine RegL.pure (p := (pEq (.int .i64 x2.1))) rfl rfl rfl (J_extract rfl (Opd.tmp rfl) rfl) ?_
  refine RegL.pure (p := (pEq (.int .i64 x2.2))) rfl rfl rfl (J_extract rfl (Opd.tmp rfl) rfl) ?_
  refine RegL.pure (p := (pEq (.int .i64 x2.1))) rfl rfl rfl (J_assign rfl (Opd.tmp rfl)) ?_
  refine RegL.pure (p := (pEq (.int .i64 x2.2))) rfl rfl rfl (J_assign rfl (Opd.tmp rfl)) ?_
  refine RegL.nil ?_
  refine Ct.then_tr ?_
  refine Tr.weak (Γ' := [(7, (pEq (.int .i64 x1.1))), (8, (pEq (.int .i64 x1.2))), (9, (pEq (.int .i64 x2.1))), (10, (pEq (.int .i64 x2.2))), (99999, (pTab 0 .u64 Lib.pow10Tab))]) ⟨rfl, rfl, rfl, rfl, rfl, trivial⟩ ?_
  refine Tr.seq ?_
  refine Tr.seq ?_
  replace h := bind_some h; obtain ⟨x3, hx3, h⟩ := h
  refine Tr.cut (γ := Unit) (Γm := fun g => [(32, (pEq (.bool x3))), (99999, (pTab 0 .u64 Lib.pow10Tab))]) (Ωm := fun g => []) ?_ (fun g5 => ?_)
  · clear h
    have h := hx3
    clear hx3
    refine Tr.region ?_
    refine RegL.pure (p := (pEq (.int .i64 x2.1))) rfl rfl rfl (J_move rfl (Opd.tmp rfl)) ?_
    refine RegL.pure (p := (pEq (.int .i64 x1.1))) rfl rfl rfl (J_move rfl (Opd.tmp rfl)) ?_
    refine RegL.pure (p := (pEq (.bool (x2.1 != x1.1)))) rfl rfl rfl (J_bin rfl (Opd.tmp rfl) (Opd.tmp rfl) B_neq) ?_
    refine RegL.pure (p := (pEq (.bool (x2.1 != x1.1)))) rfl rfl rfl (J_move rfl (Opd.tmp rfl)) ?_
    rcases Bool.eq_false_or_eq_true (x2.1 != x1.1) with hc4 | hc4
    · replace h := bif_t hc4 h
      refine RegL.skipG rfl rfl rfl hc4 rfl rfl ?_
      refine RegL.skipG rfl rfl rfl hc4 rfl rfl ?_
      refine RegL.skipG rfl rfl rfl hc4 rfl rfl ?_
      refine RegL.pure (p := (pEq (.bool true))) rfl rfl rfl (J_pick rfl (Opd.tmp rfl) (fun _ => Opd.con) (fun hf => absurd (hc4.symm.trans hf) (by decide))) ?_
      refine RegL.nil ?_
      replace h := Option.some.inj h; subst h
      exact Ct.mid () rfl ⟨rfl, rfl, trivial⟩
    · replace h := bif_f hc4 h
      refine RegL.pureG (p := (pEq (.int .i64 x2.2))) rfl rfl rfl hc4 rfl rfl (J_move rfl (Opd.tmp rfl)) ?_
      refine RegL.pureG (p := (pEq (.int .i64 x1.2))) rfl rfl rfl hc4 rfl rfl (J_move rfl (Opd.tmp rfl)) ?_
      refine RegL.pureG (p := (pEq (.bool (x2.2 != x1.2)))) rfl rfl rfl hc4 rfl rfl (J_bin rfl (Opd.tmp rfl) (Opd.tmp rfl) B_neq) ?_
      refine RegL.pure (p := (pEq (.bool (x2.2 != x1.2)))) rfl rfl rfl (J_pick rfl (Opd.tmp rfl) (fun hf => absurd (hc4.symm.trans hf) (by decide)) (fun _ => (Opd.tmp rfl))) ?_
      refine RegL.nil ?_
      replace h := Option.some.inj h; subst h
      exact Ct.mid () rfl ⟨rfl, rfl, trivial⟩
  · clear hx3
    refine Ct.then_tr ?_
    refine Tr.weak (Γ' := [(32, (pEq (.bool x3))), (99999, (pTab 0 .u64 Lib.pow10Tab))]) ⟨rfl, rfl, trivial⟩ ?_
    refine Tr.cond (Opd.tmp rfl) (fun hc => ?_) (fun hc => ?_)
    · replace h := bif_t hc h
      refine Tr.seq ?_
      refine Tr.region ?_
      refine RegL.pure (p := (pEq (.bool false))) rfl rfl rfl (J_assign rfl Opd.con) ?_
      refine RegL.nil ?_
      refine Ct.then_tr ?_
      refine Tr.weak (Γ' := [(6, (pEq (.bool false))), (99999, (pTab 0 .u64 Lib.pow10Tab))]) ⟨rfl, rfl, trivial⟩ ?_
      refine Tr.ret ?_
      refine Ct.then_ret ?_
      replace h := Option.some.inj h; subst h
      exact Ct.retH1 (Ωx := []) () rfl (RvOk.tmp rfl) rfl
    · replace h := bif_f hc h
      refine Tr.skip ?_
      refine Ct.then_tr ?_
      refine Tr.weak (Γ' := [(99999, (pTab 0 .u64 Lib.pow10Tab))]) ⟨rfl, trivial⟩ ?_
      refine Tr.seq ?_
      refine Tr.region ?_
      refine RegL.pure (p := (pEq (.bool true))) rfl rfl rfl (J_assign rfl Opd.con) ?_
      refine RegL.nil ?_
      refine Ct.then_tr ?_
      refine Tr.weak (Γ' := [(6, (pEq (.bool true))), (99999, (pTab 0 .u64 Lib.pow10Tab))]) ⟨rfl, rfl, trivial⟩ ?_
      refine Tr.ret ?_
      replace h := Option.some.inj h; subst h
      exact Ct.retH1 (Ωx := []) () rfl (RvOk.tmp rfl) rfl

end Go.Proofs.YtgianbkngpfpnaaDoor.fnExactRainOutageW
