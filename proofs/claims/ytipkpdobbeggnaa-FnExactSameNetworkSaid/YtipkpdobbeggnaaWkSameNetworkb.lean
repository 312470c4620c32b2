/-
  The walks that the law FnExactSameNetwork reaches: each function computes its model. Printed by our own program.
-/
import Derived.Test.YtipkpdobbeggnaaProg
import Derived.Test.YtipkpdobbeggnaaMod
import Derived.Test.YtipkpdobbeggnaaCopy
import Derived.KernelRfl
import Derived.Test.YtipkpdobbeggnaaWkSameNetworka
namespace Go.Proofs.Ytipkpdobbeggnaa.fnExactSameNetworkW
open Go Go.RowKit Go.Wk
set_option linter.unusedVariables false
set_option maxRecDepth 100000


theorem c_spec_SameRadio {a_0 : GRadio} {a_1 : GRadio} {r : Bool} (h : m_spec_SameRadio a_0 a_1 = some r) : CallJ Try.prog 66 [(pAgg (cGRadio a_0)), (pAgg (cGRadio a_1))] (pEq (.bool r)) := by
  unfold m_spec_SameRadio at h
  refine CallJ.enterH Try.func66 rfl Try.ntmps66 rfl fun W I0 H => ?_
  refine Tr.weak (Γ' := [(0, (pAgg (cGRadio a_0))), (1, (pAgg (cGRadio a_1)))]) ⟨rfl, rfl, trivial⟩ ?_
  refine Tr.seq ?_
  refine Tr.region ?_
  refine RegL.pure (p := (pPtr (cGRadio a_0))) rfl rfl rfl (J_boxA rfl (Opd.tmp rfl)) ?_
  refine RegL.pure (p := (pPtr (cGRadio a_1))) rfl rfl rfl (J_boxA rfl (Opd.tmp rfl)) ?_
  refine RegL.pure (p := (pEq (.bool false))) rfl rfl rfl (J_assign rfl Opd.con) ?_
  refine RegL.nil ?_
  refine Ct.then_tr ?_
  refine Tr.weak (Γ' := [(2, (pPtr (cGRadio a_0))), (3, (pPtr (cGRadio a_1)))]) ⟨rfl, rfl, trivial⟩ ?_
  refine Tr.seq ?_
  refine Tr.seq ?_
  replace h := bind_some h; obtain ⟨x1, hx1, h⟩ := h
  refine Tr.cut (γ := Unit) (Γm := fun g => [(2, (pPtr (cGRadio a_0))), (3, (pPtr (cGRadio a_1))), (47, (pEq (.bool x1)))]) (Ωm := fun g => []) ?_ (fun g7 => ?_)
  · clear h
    have h := hx1
    clear hx1
    refine Tr.region ?_
    refine RegL.pure (p := (pPtr (cS a_0.Name))) rfl rfl rfl (J_fieldAddr rfl Try.underlying96 rfl sz9 (by decide) (Opd.tmp rfl) rfl) ?_
    refine RegL.pure (p := (pEq (.string a_0.Name))) rfl rfl rfl (J_load rfl Try.isAgg9 (Opd.tmp rfl)) ?_
    refine RegL.pure (p := (pPtr (cS a_1.Name))) rfl rfl rfl (J_fieldAddr rfl Try.underlying96 rfl sz9 (by decide) (Opd.tmp rfl) rfl) ?_
    refine RegL.pure (p := (pEq (.string a_1.Name))) rfl rfl rfl (J_load rfl Try.isAgg9 (Opd.tmp rfl)) ?_
    refine RegL.pure (p := (pEq (.bool (!(a_0.Name.toList == a_1.Name.toList))))) rfl rfl rfl (J_bin rfl (Opd.tmp rfl) (Opd.tmp rfl) B_sneq) ?_
    refine RegL.pure (p := (pEq (.bool (!(a_0.Name.toList == a_1.Name.toList))))) rfl rfl rfl (J_move rfl (Opd.tmp rfl)) ?_
    rcases Bool.eq_false_or_eq_true (!(a_0.Name.toList == a_1.Name.toList)) with hc2 | hc2
    · replace h := bif_t hc2 h
      refine RegL.skipG rfl rfl rfl hc2 rfl rfl ?_
      refine RegL.skipG rfl rfl rfl hc2 rfl rfl ?_
      refine RegL.skipG rfl rfl rfl hc2 rfl rfl ?_
      refine RegL.skipG rfl rfl rfl hc2 rfl rfl ?_
      refine RegL.skipG rfl rfl rfl hc2 rfl rfl ?_
      refine RegL.pure (p := (pEq (.bool true))) rfl rfl rfl (J_pick rfl (Opd.tmp rfl) (fun _ => Opd.con) (fun hf => absurd (hc2.symm.trans hf) (by decide))) ?_
      refine RegL.pure (p := (pEq (.bool true))) rfl rfl rfl (J_move rfl (Opd.tmp rfl)) ?_
      refine RegL.skipG rfl rfl rfl rfl rfl rfl ?_
      refine RegL.skipG rfl rfl rfl rfl rfl rfl ?_
      refine RegL.skipG rfl rfl rfl rfl rfl rfl ?_
      refine RegL.skipG rfl rfl rfl rfl rfl rfl ?_
      refine RegL.skipG rfl rfl rfl rfl rfl rfl ?_
      refine RegL.pure (p := (pEq (.bool true))) rfl rfl rfl (J_pick rfl (Opd.tmp rfl) (fun _ => Opd.con) (fun hf => absurd hf (by decide))) ?_
      refine RegL.pure (p := (pEq (.bool true))) rfl rfl rfl (J_move rfl (Opd.tmp rfl)) ?_
      refine RegL.skipG rfl rfl rfl rfl rfl rfl ?_
      refine RegL.skipG rfl rfl rfl rfl rfl rfl ?_
      refine RegL.skipG rfl rfl rfl rfl rfl rfl ?_
      refine RegL.skipG rfl rfl rfl rfl rfl rfl ?_
      refine RegL.skipG rfl rfl rfl rfl rfl rfl ?_
      refine RegL.pure (p := (pEq (.bool true))) rfl rfl rfl (J_pick rfl (Opd.tmp rfl) (fun _ => Opd.con) (fun hf => absurd hf (by decide))) ?_
      refine RegL.pure (p := (pEq (.bool true))) rfl rfl rfl (J_move rfl (Opd.tmp rfl)) ?_
      refine RegL.skipG rfl rfl rfl rfl rfl rfl ?_
      refine RegL.skipG rfl rfl rfl rfl rfl rfl ?_
      refine RegL.skipG rfl rfl rfl rfl rfl rfl ?_
      refine RegL.skipG rfl rfl rfl rfl rfl rfl ?_
      refine RegL.skipG rfl rfl rfl rfl rfl rfl ?_
      refine RegL.pure (p := (pEq (.bool true))) rfl rfl rfl (J_pick rfl (Opd.tmp rfl) (fun _ => Opd.con) (fun hf => absurd hf (by decide))) ?_
      refine RegL.pure (p := (pEq (.bool true))) rfl rfl rfl (J_move rfl (Opd.tmp rfl)) ?_
      refine RegL.skipG rfl rfl rfl rfl rfl rfl ?_
      refine RegL.skipG rfl rfl rfl rfl rfl rfl ?_
      refine RegL.skipG rfl rfl rfl rfl rfl rfl ?_
      refine RegL.skipG rfl rfl rfl rfl rfl rfl ?_
      refine RegL.skipG rfl rfl rfl rfl rfl rfl ?_
      refine RegL.skipG rfl rfl rfl rfl rfl rfl ?_
      refine RegL.skipG rfl rfl rfl rfl rfl rfl ?_
      refine RegL.pure (p := (pEq (.bool true))) rfl rfl rfl (J_pick rfl (Opd.tmp rfl) (fun _ => Opd.con) (fun hf => absurd hf (by decide))) ?_
      refine RegL.nil ?_
      replace h := Option.some.inj h; subst h
      exact Ct.mid () rfl ⟨rfl, rfl, rfl, trivial⟩
    · replace h := bif_f hc2 h
      refine RegL.pureG (p := (pPtr ((cK .i64) a_0.Power))) rfl rfl rfl hc2 rfl rfl (J_fieldAddr rfl Try.underlying96 rfl sz2 (by decide) (Opd.tmp rfl) rfl) ?_
      refine RegL.pureG (p := (pEq (.int .i64 a_0.Power))) rfl rfl rfl hc2 rfl rfl (J_load rfl Try.isAgg2 (Opd.tmp rfl)) ?_
      refine RegL.pureG (p := (pPtr ((cK .i64) a_1.Power))) rfl rfl rfl hc2 rfl rfl (J_fieldAddr rfl Try.underlying96 rfl sz2 (by decide) (Opd.tmp rfl) rfl) ?_
      refine RegL.pureG (p := (pEq (.int .i64 a_1.Power))) rfl rfl rfl hc2 rfl rfl (J_load rfl Try.isAgg2 (Opd.tmp rfl)) ?_
      refine RegL.pureG (p := (pEq (.bool (a_0.Power != a_1.Power)))) rfl rfl rfl hc2 rfl rfl (J_bin rfl (Opd.tmp rfl) (Opd.tmp rfl) B_neq) ?_
      refine RegL.pure (p := (pEq (.bool (a_0.Power != a_1.Power)))) rfl rfl rfl (J_pick rfl (Opd.tmp rfl) (fun hf => absurd (hc2.symm.trans hf) (by decide)) (fun _ => (Opd.tmp rfl))) ?_
      refine RegL.pure (p := (pEq (.bool (a_0.Power != a_1.Power)))) rfl rfl rfl (J_move rfl (Opd.tmp rfl)) ?_
      rcases Bool.eq_false_or_eq_true (a_0.Power != a_1.Power) with hc3 | hc3
      · replace h := bif_t hc3 h
        refine RegL.skipG rfl rfl rfl hc3 rfl rfl ?_
        refine RegL.skipG rfl rfl rfl hc3 rfl rfl ?_
        refine RegL.skipG rfl rfl rfl hc3 rfl rfl ?_
        refine RegL.skipG rfl rfl rfl hc3 rfl rfl ?_
        refine RegL.skipG rfl rfl rfl hc3 rfl rfl ?_
        refine RegL.pure (p := (pEq (.bool true))) rfl rfl rfl (J_pick rfl (Opd.tmp rfl) (fun _ => Opd.con) (fun hf => absurd (hc3.symm.trans hf) (by decide))) ?_
        refine RegL.pure (p := (pEq (.bool true))) rfl rfl rfl (J_move rfl (Opd.tmp rfl)) ?_
        refine RegL.skipG rfl rfl rfl rfl rfl rfl ?_
        refine RegL.skipG rfl rfl rfl rfl rfl rfl ?_
        refine RegL.skipG rfl rfl rfl rfl rfl rfl ?_
        refine RegL.skipG rfl rfl rfl rfl rfl rfl ?_
        refine RegL.skipG rfl rfl rfl rfl rfl rfl ?_
        refine RegL.pure (p := (pEq (.bool true))) rfl rfl rfl (J_pick rfl (Opd.tmp rfl) (fun _ => Opd.con) (fun hf => absurd hf (by decide))) ?_
        refine RegL.pure (p := (pEq (.bool true))) rfl rfl rfl (J_move rfl (Opd.tmp rfl)) ?_
        refine RegL.skipG rfl rfl rfl rfl rfl rfl ?_
        refine RegL.skipG rfl rfl rfl rfl rfl rfl ?_
        refine RegL.skipG rfl rfl rfl rfl rfl rfl ?_
        refine RegL.skipG rfl rfl rfl rfl rfl rfl ?_
        refine RegL.skipG rfl rfl rfl rfl rfl rfl ?_
        refine RegL.pure (p := (pEq (.bool true))) rfl rfl rfl (J_pick rfl (Opd.tmp rfl) (fun _ => Opd.con) (fun hf => absurd hf (by decide))) ?_
        refine RegL.pure (p := (pEq (.bool true))) rfl rfl rfl (J_move rfl (Opd.tmp rfl)) ?_
        refine RegL.skipG rfl rfl rfl rfl rfl rfl ?_
        refine RegL.skipG rfl rfl rfl rfl rfl rfl ?_
        refine RegL.skipG rfl rfl rfl rfl rfl rfl ?_
        refine RegL.skipG rfl rfl rfl rfl rfl rfl ?_
        refine RegL.skipG rfl rfl rfl rfl rfl rfl ?_
        refine RegL.skipG rfl rfl rfl rfl rfl rfl ?_
        refine RegL.skipG rfl rfl rfl rfl rfl rfl ?_
        refine RegL.pure (p := (pEq (.bool true))) rfl rfl rfl (J_pick rfl (Opd.tmp rfl) (fun _ => Opd.con) (fun hf => absurd hf (by decide))) ?_
        refine RegL.nil ?_
        replace h := Option.some.inj h; subst h
        exact Ct.mid () rfl ⟨rfl, rfl, rfl, trivial⟩
      · replace h := bif_f hc3 h
        refine RegL.pureG (p := (pPtr ((cK .i64) a_0.Feeder))) rfl rfl rfl hc3 rfl rfl (J_fieldAddr rfl Try.underlying96 rfl sz2 (by decide) (Opd.tmp rfl) rfl) ?_
        refine RegL.pureG (p := (pEq (.int .i64 a_0.Feeder))) rfl rfl rfl hc3 rfl rfl (J_load rfl Try.isAgg2 (Opd.tmp rfl)) ?_
        refine RegL.pureG (p := (pPtr ((cK .i64) a_1.Feeder))) rfl rfl rfl hc3 rfl rfl (J_fieldAddr rfl Try.underlying96 rfl sz2 (by decide) (Opd.tmp rfl) rfl) ?_
        refine RegL.pureG (p := (pEq (.int .i64 a_1.Feeder))) rfl rfl rfl hc3 rfl rfl (J_load rfl Try.isAgg2 (Opd.tmp rfl)) ?_
        refine RegL.pureG (p := (pEq (.bool (a_0.Feeder != a_1.Feeder)))) rfl rfl rfl hc3 rfl rfl (J_bin rfl (Opd.tmp rfl) (Opd.tmp rfl) B_neq) ?_
        refine RegL.pure (p := (pEq (.bool (a_0.Feeder != a_1.Feeder)))) rfl rfl rfl (J_pick rfl (Opd.tmp rfl) (fun hf => absurd (hc3.symm.trans hf) (by decide)) (fun _ => (Opd.tmp rfl))) ?_
        refine RegL.pure (p := (pEq (.bool (a_0.Feeder != a_1.Feeder)))) rfl rfl rfl (J_move rfl (Opd.tmp rfl)) ?_
        rcases Bool.eq_false_or_eq_true (a_0.Feeder != a_1.Feeder) with hc4 | hc4
        · replace h := bif_t hc4 h
          refine RegL.skipG rfl rfl rfl hc4 rfl rfl ?_
          refine RegL.skipG rfl rfl rfl hc4 rfl rfl ?_
          refine RegL.skipG rfl rfl rfl hc4 rfl rfl ?_
          refine RegL.skipG rfl rfl rfl hc4 rfl rfl ?_
          refine RegL.skipG rfl rfl rfl hc4 rfl rfl ?_
          refine RegL.pure (p := (pEq (.bool true))) rfl rfl rfl (J_pick rfl (Opd.tmp rfl) (fun _ => Opd.con) (fun hf => absurd (hc4.symm.trans hf) (by decide))) ?_
          refine RegL.pure (p := (pEq (.bool true))) rfl rfl rfl (J_move rfl (Opd.tmp rfl)) ?_
          refine RegL.skipG rfl rfl rfl rfl rfl rfl ?_
          refine RegL.skipG rfl rfl rfl rfl rfl rfl ?_
          refine RegL.skipG rfl rfl rfl rfl rfl rfl ?_
          refine RegL.skipG rfl rfl rfl rfl rfl rfl ?_
          refine RegL.skipG rfl rfl rfl rfl rfl rfl ?_
          refine RegL.pure (p := (pEq (.bool true))) rfl rfl rfl (J_pick rfl (Opd.tmp rfl) (fun _ => Opd.con) (fun hf => absurd hf (by decide))) ?_
          refine RegL.pure (p := (pEq (.bool true))) rfl rfl rfl (J_move rfl (Opd.tmp rfl)) ?_
          refine RegL.skipG rfl rfl rfl rfl rfl rfl ?_
          refine RegL.skipG rfl rfl rfl rfl rfl rfl ?_
          refine RegL.skipG rfl rfl rfl rfl rfl rfl ?_
          refine RegL.skipG rfl rfl rfl rfl rfl rfl ?_
          refine RegL.skipG rfl rfl rfl rfl rfl rfl ?_
          refine RegL.skipG rfl rfl rfl rfl rfl rfl ?_
          refine RegL.skipG rfl rfl rfl rfl rfl rfl ?_
          refine RegL.pure (p := (pEq (.bool true))) rfl rfl rfl (J_pick rfl (Opd.tmp rfl) (fun _ => Opd.con) (fun hf => absurd hf (by decide))) ?_
          refine RegL.nil ?_
          replace h := Option.some.inj h; subst h
          exact Ct.mid () rfl ⟨rfl, rfl, rfl, trivial⟩
        · replace h := bif_f hc4 h
          refine RegL.pureG (p := (pPtr ((cK .i64) a_0.Noise))) rfl rfl rfl hc4 rfl rfl (J_fieldAddr rfl Try.underlying96 rfl sz2 (by decide) (Opd.tmp rfl) rfl) ?_
          refine RegL.pureG (p := (pEq (.int .i64 a_0.Noise))) rfl rfl rfl hc4 rfl rfl (J_load rfl Try.isAgg2 (Opd.tmp rfl)) ?_
          refine RegL.pureG (p := (pPtr ((cK .i64) a_1.Noise))) rfl rfl rfl hc4 rfl rfl (J_fieldAddr rfl Try.underlying96 rfl sz2 (by decide) (Opd.tmp rfl) rfl) ?_
          refine RegL.pureG (p := (pEq (.int .i64 a_1.Noise))) rfl rfl rfl hc4 rfl rfl (J_load rfl Try.isAgg2 (Opd.tmp rfl)) ?_
          refine RegL.pureG (p := (pEq (.bool (a_0.Noise != a_1.Noise)))) rfl rfl rfl hc4 rfl rfl (J_bin rfl (Opd.tmp rfl) (Opd.tmp rfl) B_neq) ?_
          refine RegL.pure (p := (pEq (.bool (a_0.Noise != a_1.Noise)))) rfl rfl rfl (J_pick rfl (Opd.tmp rfl) (fun hf => absurd (hc4.symm.trans hf) (by decide)) (fun _ => (Opd.tmp rfl))) ?_
          refine RegL.pure (p := (pEq (.bool (a_0.Noise != a_1.Noise)))) rfl rfl rfl (J_move rfl (Opd.tmp rfl)) ?_
          rcases Bool.eq_false_or_eq_true (a_0.Noise != a_1.Noise) with hc5 | hc5
          · replace h := bif_t hc5 h
            refine RegL.skipG rfl rfl rfl hc5 rfl rfl ?_
            refine RegL.skipG rfl rfl rfl hc5 rfl rfl ?_
            refine RegL.skipG rfl rfl rfl hc5 rfl rfl ?_
            refine RegL.skipG rfl rfl rfl hc5 rfl rfl ?_
            refine RegL.skipG rfl rfl rfl hc5 rfl rfl ?_
            refine RegL.pure (p := (pEq (.bool true))) rfl rfl rfl (J_pick rfl (Opd.tmp rfl) (fun _ => Opd.con) (fun hf => absurd (hc5.symm.trans hf) (by decide))) ?_
            refine RegL.pure (p := (pEq (.bool true))) rfl rfl rfl (J_move rfl (Opd.tmp rfl)) ?_
            refine RegL.skipG rfl rfl rfl rfl rfl rfl ?_
            refine RegL.skipG rfl rfl rfl rfl rfl rfl ?_
            refine RegL.skipG rfl rfl rfl rfl rfl rfl ?_
            refine RegL.skipG rfl rfl rfl rfl rfl rfl ?_
            refine RegL.skipG rfl rfl rfl rfl rfl rfl ?_
            refine RegL.skipG rfl rfl rfl rfl rfl rfl ?_
            refine RegL.skipG rfl rfl rfl rfl rfl rfl ?_
            refine RegL.pure (p := (pEq (.bool true))) rfl rfl rfl (J_pick rfl (Opd.tmp rfl) (fun _ => Opd.con) (fun hf => absurd hf (by decide))) ?_
            refine RegL.nil ?_
            replace h := Option.some.inj h; subst h
            exact Ct.mid () rfl ⟨rfl, rfl, rfl, trivial⟩
          · replace h := bif_f hc5 h
            refine RegL.pureG (p := (pPtr ((cK .i64) a_0.Width))) rfl rfl rfl hc5 rfl rfl (J_fieldAddr rfl Try.underlying96 rfl sz2 (by decide) (Opd.tmp rfl) rfl) ?_
            refine RegL.pureG (p := (pEq (.int .i64 a_0.Width))) rfl rfl rfl hc5 rfl rfl (J_load rfl Try.isAgg2 (Opd.tmp rfl)) ?_
            refine RegL.pureG (p := (pPtr ((cK .i64) a_1.Width))) rfl rfl rfl hc5 rfl rfl (J_fieldAddr rfl Try.underlying96 rfl sz2 (by decide) (Opd.tmp rfl) rfl) ?_
            refine RegL.pureG (p := (pEq (.int .i64 a_1.Width))) rfl rfl rfl hc5 rfl rfl (J_load rfl Try.isAgg2 (Opd.tmp rfl)) ?_
            refine RegL.pureG (p := (pEq (.bool (a_0.Width != a_1.Width)))) rfl rfl rfl hc5 rfl rfl (J_bin rfl (Opd.tmp rfl) (Opd.tmp rfl) B_neq) ?_
            refine RegL.pure (p := (pEq (.bool (a_0.Width != a_1.Width)))) rfl rfl rfl (J_pick rfl (Opd.tmp rfl) (fun hf => absurd (hc5.symm.trans hf) (by decide)) (fun _ => (Opd.tmp rfl))) ?_
            refine RegL.pure (p := (pEq (.bool (a_0.Width != a_1.Width)))) rfl rfl rfl (J_move rfl (Opd.tmp rfl)) ?_
            rcases Bool.eq_false_or_eq_true (a_0.Width != a_1.Width) with hc6 | hc6
            · replace h := bif_t hc6 h
              refine RegL.skipG rfl rfl rfl hc6 rfl rfl ?_
              refine RegL.skipG rfl rfl rfl hc6 rfl rfl ?_
              refine RegL.skipG rfl rfl rfl hc6 rfl rfl ?_
              refine RegL.skipG rfl rfl rfl hc6 rfl rfl ?_
              refine RegL.skipG rfl rfl rfl hc6 rfl rfl ?_
              refine RegL.skipG rfl rfl rfl hc6 rfl rfl ?_
              refine RegL.skipG rfl rfl rfl hc6 rfl rfl ?_
              refine RegL.pure (p := (pEq (.bool true))) rfl rfl rfl (J_pick rfl (Opd.tmp rfl) (fun _ => Opd.con) (fun hf => absurd (hc6.symm.trans hf) (by decide))) ?_
              refine RegL.nil ?_
              replace h := Option.some.inj h; subst h
              exact Ct.mid () rfl ⟨rfl, rfl, rfl, trivial⟩
            · replace h := bif_f hc6 h
              refine RegL.pureG (p := (pPtr ((cSl 2 cGMode) a_0.Modes))) rfl rfl rfl hc6 rfl rfl (J_fieldAddr rfl Try.underlying96 rfl sz94 (by decide) (Opd.tmp rfl) rfl) ?_
              refine RegL.pureG (p := (pSl 2 cGMode a_0.Modes)) rfl rfl rfl hc6 rfl rfl (J_load rfl Try.isAgg94 (Opd.tmp rfl)) ?_
              refine RegL.pureG (p := (pEq (.int .i64 (a_0.Modes.length : Int)))) rfl rfl rfl hc6 rfl rfl (J_len rfl Try.underlying94 (Opd.tmp rfl) rfl) ?_
              refine RegL.pureG (p := (pPtr ((cSl 2 cGMode) a_1.Modes))) rfl rfl rfl hc6 rfl rfl (J_fieldAddr rfl Try.underlying96 rfl sz94 (by decide) (Opd.tmp rfl) rfl) ?_
              refine RegL.pureG (p := (pSl 2 cGMode a_1.Modes)) rfl rfl rfl hc6 rfl rfl (J_load rfl Try.isAgg94 (Opd.tmp rfl)) ?_
              refine RegL.pureG (p := (pEq (.int .i64 (a_1.Modes.length : Int)))) rfl rfl rfl hc6 rfl rfl (J_len rfl Try.underlying94 (Opd.tmp rfl) rfl) ?_
              refine RegL.pureG (p := (pEq (.bool ((a_0.Modes.length : Int) != (a_1.Modes.length : Int))))) rfl rfl rfl hc6 rfl rfl (J_bin rfl (Opd.tmp rfl) (Opd.tmp rfl) B_neq) ?_
              refine RegL.pure (p := (pEq (.bool ((a_0.Modes.length : Int) != (a_1.Modes.length : Int))))) rfl rfl rfl (J_pick rfl (Opd.tmp rfl) (fun hf => absurd (hc6.symm.trans hf) (by decide)) (fun _ => (Opd.tmp rfl))) ?_
              refine RegL.nil ?_
              replace h := Option.some.inj h; subst h
              exact Ct.mid () rfl ⟨rfl, rfl, rfl, trivial⟩
  · clear hx1
    refine Ct.then_tr ?_
    refine Tr.weak (Γ' := [(2, (pPtr (cGRadio a_0))), (3, (pPtr (cGRadio a_1))), (47, (pEq (.bool x1)))]) ⟨rfl, rfl, rfl, trivial⟩ ?_
    refine Tr.cond (Opd.tmp rfl) (fun hc => ?_) (fun hc => ?_)
    · replace h := bif_t hc h
      refine Tr.seq ?_
      refine Tr.region ?_
      refine RegL.pure (p := (pEq (.bool false))) rfl rfl rfl (J_assign rfl Opd.con) ?_
      refine RegL.nil ?_
      refine Ct.then_tr ?_
      refine Tr.weak (Γ' := [(4, (pEq (.bool false)))]) ⟨rfl, trivial⟩ ?_
      refine Tr.ret ?_
      refine Ct.then_ret ?_
      replace h := Option.some.inj h; subst h
      exact Ct.retH1 (Ωx := []) () rfl (RvOk.tmp rfl) rfl
    · replace h := bif_f hc h
      refine Tr.skip ?_
      refine Ct.then_tr ?_
      refine Tr.weak (Γ' := [(2, (pPtr (cGRadio a_0))), (3, (pPtr (cGRadio a_1)))]) ⟨rfl, rfl, trivial⟩ ?_
      refine Tr.seq ?_
      refine Tr.seq ?_
      refine Tr.region ?_
      refine RegL.pure (p := (pEq (.int .i64 (0 : Int)))) rfl rfl rfl (J_assign rfl Opd.con) ?_
      refine RegL.nil ?_
      refine Ct.then_tr ?_
      refine Tr.weak (Γ' := [(2, (pPtr (cGRadio a_0))), (3, (pPtr (cGRadio a_1))), (5, (pEq (.int .i64 (0 : Int))))]) ⟨rfl, rfl, rfl, trivial⟩ ?_
      refine Tr.block ?_
      refine Tr.weak (Γ' := [(2, (pPtr (cGRadio a_0))), (3, (pPtr (cGRadio a_1))), (5, (pEq (.int .i64 (0 : Int))))]) ⟨rfl, rfl, rfl, trivial⟩ ?_
      refine Tr.loop (γ := Unit) (σ := Int) (Γσ := fun s g => [(2, (pPtr (cGRadio a_0))), (3, (pPtr (cGRadio a_1))), (5, (pEq (.int .i64 s)))]) (Ωσ := fun s g => []) (g := ()) h ?_
      clear h
      rintro v9 g10 t h
      replace h : m_spec_SameRadio_B8 a_0 a_1 v9 = some t := h
      unfold m_spec_SameRadio_B8 at h
      refine Tr.weakO (Γ' := [(2, (pPtr (cGRadio a_0))), (3, (pPtr (cGRadio a_1))), (5, (pEq (.int .i64 v9)))]) (Ω' := []) rfl ⟨rfl, rfl, rfl, trivial⟩ ?_
      refine Tr.seq ?_
      refine Tr.seq ?_
      refine Tr.region ?_
      refine RegL.pure (p := (pEq (.int .i64 v9))) rfl rfl rfl (J_move rfl (Opd.tmp rfl)) ?_
      refine RegL.pure (p := (pPtr ((cSl 2 cGMode) a_0.Modes))) rfl rfl rfl (J_fieldAddr rfl Try.underlying96 rfl sz94 (by decide) (Opd.tmp rfl) rfl) ?_
      refine RegL.pure (p := (pSl 2 cGMode a_0.Modes)) rfl rfl rfl (J_load rfl Try.isAgg94 (Opd.tmp rfl)) ?_
      refine RegL.pure (p := (pEq (.int .i64 (a_0.Modes.length : Int)))) rfl rfl rfl (J_len rfl Try.underlying94 (Opd.tmp rfl) rfl) ?_
      refine RegL.pure (p := (pEq (.bool (decide (v9 < (a_0.Modes.length : Int)))))) rfl rfl rfl (J_bin rfl (Opd.tmp rfl) (Opd.tmp rfl) B_lss) ?_
      refine RegL.nil ?_
      refine Ct.then_tr ?_
      refine Tr.weak (Γ' := [(2, (pPtr (cGRadio a_0))), (3, (pPtr (cGRadio a_1))), (5, (pEq (.int .i64 v9))), (52, (pEq (.bool (decide (v9 < (a_0.Modes.length : Int))))))]) ⟨rfl, rfl, rfl, rfl, trivial⟩ ?_
      refine Tr.cond (Opd.tmp rfl) (fun hc => ?_) (fun hc => ?_)
      · replace h := bif_t hc h
        refine Tr.skip ?_
        refine Ct.then_tr ?_
        refine Tr.weak (Γ' := [(2, (pPtr (cGRadio a_0))), (3, (pPtr (cGRadio a_1))), (5, (pEq (.int .i64 v9)))]) ⟨rfl, rfl, rfl, trivial⟩ ?_
        refine Tr.seq ?_
        refine Tr.block ?_
        refine Tr.seq ?_
        replace h := bind_some h; obtain ⟨x11, hx11, h⟩ := h
        replace h := bind_some h; obtain ⟨x12, hx12, h⟩ := h
        refine Tr.drawD (n := 66) (m := 11) (es := [some (Ent.mk [(2, (pPtr (cGRadio a_0)))] (pPtr ((cSl 2 cGMode) a_0.Modes)) true), some (Ent.mk [(55, (pPtr ((cSl 2 cGMode) a_0.Modes)))] (pSl 2 cGMode a_0.Modes) true), some (Ent.mk [(5, (pEq (.int .i64 v9)))] (pEq (.int .i64 v9)) true), some (Ent.mk [(56, (pSl 2 cGMode a_0.Modes)), (57, (pEq (.int .i64 v9)))] (pPtr (cGMode x11)) true), some (Ent.mk [(58, (pPtr (cGMode x11)))] (pAgg (cGMode x11)) true), some (Ent.mk [(3, (pPtr (cGRadio a_1)))] (pPtr ((cSl 2 cGMode) a_1.Modes)) true), some (Ent.mk [(60, (pPtr ((cSl 2 cGMode) a_1.Modes)))] (pSl 2 cGMode a_1.Modes) true), some (Ent.mk [(5, (pEq (.int .i64 v9)))] (pEq (.int .i64 v9)) true), some (Ent.mk [(61, (pSl 2 cGMode a_1.Modes)), (62, (pEq (.int .i64 v9)))] (pPtr (cGMode x12)) true), some (Ent.mk [(63, (pPtr (cGMode x12)))] (pAgg (cGMode x12)) true), some (Ent.mk [(59, (pAgg (cGMode x11))), (64, (pAgg (cGMode x12)))] (pEq (.bool (!((x11.Need == x12.Need) && ((x11.Rate == x12.Rate) && true))))) true)]) (rd := [[2], [55], [5], [56, 57], [58], [3], [60], [5], [61, 62], [63], [59, 64]]) rfl hmix (by kernel_rfl) fun hD => ?_
        refine RD.fin (es := [Ent.mk [(2, (pPtr (cGRadio a_0)))] (pPtr ((cSl 2 cGMode) a_0.Modes)) true, Ent.mk [(55, (pPtr ((cSl 2 cGMode) a_0.Modes)))] (pSl 2 cGMode a_0.Modes) true, Ent.mk [(5, (pEq (.int .i64 v9)))] (pEq (.int .i64 v9)) true, Ent.mk [(56, (pSl 2 cGMode a_0.Modes)), (57, (pEq (.int .i64 v9)))] (pPtr (cGMode x11)) true, Ent.mk [(58, (pPtr (cGMode x11)))] (pAgg (cGMode x11)) true, Ent.mk [(3, (pPtr (cGRadio a_1)))] (pPtr ((cSl 2 cGMode) a_1.Modes)) true, Ent.mk [(60, (pPtr ((cSl 2 cGMode) a_1.Modes)))] (pSl 2 cGMode a_1.Modes) true, Ent.mk [(5, (pEq (.int .i64 v9)))] (pEq (.int .i64 v9)) true, Ent.mk [(61, (pSl 2 cGMode a_1.Modes)), (62, (pEq (.int .i64 v9)))] (pPtr (cGMode x12)) true, Ent.mk [(63, (pPtr (cGMode x12)))] (pAgg (cGMode x12)) true, Ent.mk [(59, (pAgg (cGMode x11))), (64, (pAgg (cGMode x12)))] (pEq (.bool (!((x11.Need == x12.Need) && ((x11.Rate == x12.Rate) && true))))) true]) (done := []) hD ⟨.inr ⟨(OpJ.w (J_fieldAddr rfl Try.underlying96 rfl sz94 (by decide) (Opd.tmp rfl) rfl)), ⟨rfl, trivial⟩, rfl, rfl⟩, ⟨.inr ⟨(OpJ.w (J_load rfl Try.isAgg94 (Opd.tmp rfl))), ⟨rfl, trivial⟩, rfl, rfl⟩, ⟨.inr ⟨(OpJ.w (J_move rfl (Opd.tmp rfl))), ⟨rfl, trivial⟩, rfl, rfl⟩, ⟨.inr ⟨(OpJ.w (J_idx rfl Try.underlying94 sz130 (Opd.tmp rfl) (Opd.tmp rfl) hx11)), ⟨rfl, rfl, trivial⟩, rfl, rfl⟩, ⟨.inr ⟨(OpJ.w (J_loadA rfl Try.isAgg130 sz130 (Opd.tmp rfl) rfl)), ⟨rfl, trivial⟩, rfl, rfl⟩, ⟨.inr ⟨(OpJ.w (J_fieldAddr rfl Try.underlying96 rfl sz94 (by decide) (Opd.tmp rfl) rfl)), ⟨rfl, trivial⟩, rfl, rfl⟩, ⟨.inr ⟨(OpJ.w (J_load rfl Try.isAgg94 (Opd.tmp rfl))), ⟨rfl, trivial⟩, rfl, rfl⟩, ⟨.inr ⟨(OpJ.w (J_move rfl (Opd.tmp rfl))), ⟨rfl, trivial⟩, rfl, rfl⟩, ⟨.inr ⟨(OpJ.w (J_idx rfl Try.underlying94 sz130 (Opd.tmp rfl) (Opd.tmp rfl) hx12)), ⟨rfl, rfl, trivial⟩, rfl, rfl⟩, ⟨.inr ⟨(OpJ.w (J_loadA rfl Try.isAgg130 sz130 (Opd.tmp rfl) rfl)), ⟨rfl, trivial⟩, rfl, rfl⟩, ⟨.inr ⟨(OpJ.w (J_steq rfl (Opd.tmp rfl) (Opd.tmp rfl) rfl rfl (stneq130 x11 x12))), ⟨rfl, rfl, trivial⟩, rfl, rfl⟩, trivial⟩⟩⟩⟩⟩⟩⟩⟩⟩⟩⟩ ?_
        refine RegL.nil ?_
        refine Ct.then_tr ?_
        refine Tr.weak (Γ' := [(2, (pPtr (cGRadio a_0))), (3, (pPtr (cGRadio a_1))), (5, (pEq (.int .i64 v9))), (65, (pEq (.bool (!((x11.Need == x12.Need) && ((x11.Rate == x12.Rate) && true))))))]) ⟨rfl, rfl, rfl, rfl, trivial⟩ ?_
        refine Tr.cond (Opd.tmp rfl) (fun hc => ?_) (fun hc => ?_)
        · replace h := bif_t hc h
          refine Tr.seq ?_
          refine Tr.region ?_
          refine RegL.pure (p := (pEq (.bool false))) rfl rfl rfl (J_assign rfl Opd.con) ?_
          refine RegL.nil ?_
          refine Ct.then_tr ?_
          refine Tr.weak (Γ' := [(4, (pEq (.bool false)))]) ⟨rfl, trivial⟩ ?_
          refine Tr.ret ?_
          refine Ct.blk_ret ?_
          refine Ct.then_ret ?_
          replace h := map_some h; obtain ⟨r1, h, rfl⟩ := h
          refine Ct.out_ret fun e => ?_
          subst e
          refine Ct.blk_ret ?_
          refine Ct.then_ret ?_
          replace h := Option.some.inj h; subst h
          exact Ct.retH1 (Ωx := []) () rfl (RvOk.tmp rfl) rfl
        · replace h := bif_f hc h
          refine Tr.skip ?_
          refine Ct.blk_normal ?_
          refine Ct.then_tr ?_
          refine Tr.weak (Γ' := [(2, (pPtr (cGRadio a_0))), (3, (pPtr (cGRadio a_1))), (5, (pEq (.int .i64 v9)))]) ⟨rfl, rfl, rfl, trivial⟩ ?_
          refine Tr.region ?_
          refine RegL.pure (p := (pEq (.int .i64 v9))) rfl rfl rfl (J_move rfl (Opd.tmp rfl)) ?_
          refine RegL.pure (p := (pEq (.int .i64 (w64 (v9 + (1 : Int)))))) rfl rfl rfl (J_bin rfl (Opd.tmp rfl) Opd.con B_add) ?_
          refine RegL.pure (p := (pEq (.int .i64 (w64 (v9 + (1 : Int)))))) rfl rfl rfl (J_assign rfl (Opd.tmp rfl)) ?_
          refine RegL.nil ?_
          replace h := Option.some.inj h; subst h
          exact Ct.again () rfl ⟨rfl, rfl, rfl, trivial⟩
      · replace h := bif_f hc h
        refine Tr.exit ?_
        refine Ct.then_exit ?_
        replace h := map_some h; obtain ⟨r1, h, rfl⟩ := h
        refine Ct.out_exit fun e => ?_
        subst e
        refine Ct.blk_exit ?_
        refine Ct.then_tr ?_
        refine Tr.weak (Γ' := []) trivial ?_
        refine Tr.seq ?_
        refine Tr.region ?_
        refine RegL.pure (p := (pEq (.bool true))) rfl rfl rfl (J_assign rfl Opd.con) ?_
        refine RegL.nil ?_
        refine Ct.then_tr ?_
        refine Tr.weak (Γ' := [(4, (pEq (.bool true)))]) ⟨rfl, trivial⟩ ?_
        refine Tr.ret ?_
        replace h := Option.some.inj h; subst h
        exact Ct.retH1 (Ωx := []) () rfl (RvOk.tmp rfl) rfl

theorem c_spec_SameNetwork {a_0 : GNetwork} {a_1 : GNetwork} {r : Bool} (h : m_spec_SameNetwork a_0 a_1 = some r) : CallJ Try.prog 28 [(pAgg (cGNetwork a_0)), (pAgg (cGNetwork a_1))] (pEq (.bool r)) := by
  unfold m_spec_SameNetwork at h
  refine CallJ.enterH Try.func28 rfl Try.ntmps28 rfl fun W I0 H => ?_
  refine Tr.weak (Γ' := [(0, (pAgg (cGNetwork a_0))), (1, (pAgg (cGNetwork a_1)))]) ⟨rfl, rfl, trivial⟩ ?_
  refine Tr.seq ?_
  refine Tr.region ?_
  refine RegL.pure (p := (pPtr (cGNetwork a_0))) rfl rfl rfl (J_boxA rfl (Opd.tmp rfl)) ?_
  refine RegL.pure (p := (pPtr (cGNetwork a_1))) rfl rfl rfl (J_boxA rfl (Opd.tmp rfl)) ?_
  refine RegL.pure (p := (pEq (.bool false))) rfl rfl rfl (J_assign rfl Opd.con) ?_
  refine RegL.nil ?_
  refine Ct.then_tr ?_
  refine Tr.weak (Γ' := [(2, (pPtr (cGNetwork a_0))), (3, (pPtr (cGNetwork a_1)))]) ⟨rfl, rfl, trivial⟩ ?_
  refine Tr.seq ?_
  refine Tr.seq ?_
  replace h := bind_some h; obtain ⟨x1, hx1, h⟩ := h
  refine Tr.cut (γ := Unit) (Γm := fun g => [(2, (pPtr (cGNetwork a_0))), (3, (pPtr (cGNetwork a_1))), (42, (pEq (.bool x1)))]) (Ωm := fun g => []) ?_ (fun g5 => ?_)
  · clear h
    have h := hx1
    clear hx1
    refine Tr.region ?_
    refine RegL.pure (p := (pPtr ((cSl 4 cGSite) a_0.Sites))) rfl rfl rfl (J_fieldAddr rfl Try.underlying62 rfl sz57 (by decide) (Opd.tmp rfl) rfl) ?_
    refine RegL.pure (p := (pSl 4 cGSite a_0.Sites)) rfl rfl rfl (J_load rfl Try.isAgg57 (Opd.tmp rfl)) ?_
    refine RegL.pure (p := (pEq (.int .i64 (a_0.Sites.length : Int)))) rfl rfl rfl (J_len rfl Try.underlying57 (Opd.tmp rfl) rfl) ?_
    refine RegL.pure (p := (pPtr ((cSl 4 cGSite) a_1.Sites))) rfl rfl rfl (J_fieldAddr rfl Try.underlying62 rfl sz57 (by decide) (Opd.tmp rfl) rfl) ?_
    refine RegL.pure (p := (pSl 4 cGSite a_1.Sites)) rfl rfl rfl (J_load rfl Try.isAgg57 (Opd.tmp rfl)) ?_
    refine RegL.pure (p := (pEq (.int .i64 (a_1.Sites.length : Int)))) rfl rfl rfl (J_len rfl Try.underlying57 (Opd.tmp rfl) rfl) ?_
    refine RegL.pure (p := (pEq (.bool ((a_0.Sites.length : Int) != (a_1.Sites.length : Int))))) rfl rfl rfl (J_bin rfl (Opd.tmp rfl) (Opd.tmp rfl) B_neq) ?_
    refine RegL.pure (p := (pEq (.bool ((a_0.Sites.length : Int) != (a_1.Sites.length : Int))))) rfl rfl rfl (J_move rfl (Opd.tmp rfl)) ?_
    rcases Bool.eq_false_or_eq_true ((a_0.Sites.length : Int) != (a_1.Sites.length : Int)) with hc2 | hc2
    · replace h := bif_t hc2 h
      refine RegL.skipG rfl rfl rfl hc2 rfl rfl ?_
      refine RegL.skipG rfl rfl rfl hc2 rfl rfl ?_
      refine RegL.skipG rfl rfl rfl hc2 rfl rfl ?_
      refine RegL.skipG rfl rfl rfl hc2 rfl rfl ?_
      refine RegL.skipG rfl rfl rfl hc2 rfl rfl ?_
      refine RegL.skipG rfl rfl rfl hc2 rfl rfl ?_
      refine RegL.skipG rfl rfl rfl hc2 rfl rfl ?_
      refine RegL.pure (p := (pEq (.bool true))) rfl rfl rfl (J_pick rfl (Opd.tmp rfl) (fun _ => Opd.con) (fun hf => absurd (hc2.symm.trans hf) (by decide))) ?_
      refine RegL.pure (p := (pEq (.bool true))) rfl rfl rfl (J_move rfl (Opd.tmp rfl)) ?_
      refine RegL.skipG rfl rfl rfl rfl rfl rfl ?_
      refine RegL.skipG rfl rfl rfl rfl rfl rfl ?_
      refine RegL.skipG rfl rfl rfl rfl rfl rfl ?_
      refine RegL.skipG rfl rfl rfl rfl rfl rfl ?_
      refine RegL.skipG rfl rfl rfl rfl rfl rfl ?_
      refine RegL.skipG rfl rfl rfl rfl rfl rfl ?_
      refine RegL.skipG rfl rfl rfl rfl rfl rfl ?_
      refine RegL.pure (p := (pEq (.bool true))) rfl rfl rfl (J_pick rfl (Opd.tmp rfl) (fun _ => Opd.con) (fun hf => absurd hf (by decide))) ?_
      refine RegL.pure (p := (pEq (.bool true))) rfl rfl rfl (J_move rfl (Opd.tmp rfl)) ?_
      refine RegL.skipG rfl rfl rfl rfl rfl rfl ?_
      refine RegL.skipG rfl rfl rfl rfl rfl rfl ?_
      refine RegL.skipG rfl rfl rfl rfl rfl rfl ?_
      refine RegL.skipG rfl rfl rfl rfl rfl rfl ?_
      refine RegL.skipG rfl rfl rfl rfl rfl rfl ?_
      refine RegL.skipG rfl rfl rfl rfl rfl rfl ?_
      refine RegL.skipG rfl rfl rfl rfl rfl rfl ?_
      refine RegL.pure (p := (pEq (.bool true))) rfl rfl rfl (J_pick rfl (Opd.tmp rfl) (fun _ => Opd.con) (fun hf => absurd hf (by decide))) ?_
      refine RegL.nil ?_
      replace h := Option.some.inj h; subst h
      exact Ct.mid () rfl ⟨rfl, rfl, rfl, trivial⟩
    · replace h := bif_f hc2 h
      refine RegL.pureG (p := (pPtr ((cSl 9 cGSector) a_0.Sectors))) rfl rfl rfl hc2 rfl rfl (J_fieldAddr rfl Try.underlying62 rfl sz58 (by decide) (Opd.tmp rfl) rfl) ?_
      refine RegL.pureG (p := (pSl 9 cGSector a_0.Sectors)) rfl rfl rfl hc2 rfl rfl (J_load rfl Try.isAgg58 (Opd.tmp rfl)) ?_
      refine RegL.pureG (p := (pEq (.int .i64 (a_0.Sectors.length : Int)))) rfl rfl rfl hc2 rfl rfl (J_len rfl Try.underlying58 (Opd.tmp rfl) rfl) ?_
      refine RegL.pureG (p := (pPtr ((cSl 9 cGSector) a_1.Sectors))) rfl rfl rfl hc2 rfl rfl (J_fieldAddr rfl Try.underlying62 rfl sz58 (by decide) (Opd.tmp rfl) rfl) ?_
      refine RegL.pureG (p := (pSl 9 cGSector a_1.Sectors)) rfl rfl rfl hc2 rfl rfl (J_load rfl Try.isAgg58 (Opd.tmp rfl)) ?_
      refine RegL.pureG (p := (pEq (.int .i64 (a_1.Sectors.length : Int)))) rfl rfl rfl hc2 rfl rfl (J_len rfl Try.underlying58 (Opd.tmp rfl) rfl) ?_
      refine RegL.pureG (p := (pEq (.bool ((a_0.Sectors.length : Int) != (a_1.Sectors.length : Int))))) rfl rfl rfl hc2 rfl rfl (J_bin rfl (Opd.tmp rfl) (Opd.tmp rfl) B_neq) ?_
      refine RegL.pure (p := (pEq (.bool ((a_0.Sectors.length : Int) != (a_1.Sectors.length : Int))))) rfl rfl rfl (J_pick rfl (Opd.tmp rfl) (fun hf => absurd (hc2.symm.trans hf) (by decide)) (fun _ => (Opd.tmp rfl))) ?_
      refine RegL.pure (p := (pEq (.bool ((a_0.Sectors.length : Int) != (a_1.Sectors.length : Int))))) rfl rfl rfl (J_move rfl (Opd.tmp rfl)) ?_
      rcases Bool.eq_false_or_eq_true ((a_0.Sectors.length : Int) != (a_1.Sectors.length : Int)) with hc3 | hc3
      · replace h := bif_t hc3 h
        refine RegL.skipG rfl rfl rfl hc3 rfl rfl ?_
        refine RegL.skipG rfl rfl rfl hc3 rfl rfl ?_
        refine RegL.skipG rfl rfl rfl hc3 rfl rfl ?_
        refine RegL.skipG rfl rfl rfl hc3 rfl rfl ?_
        refine RegL.skipG rfl rfl rfl hc3 rfl rfl ?_
        refine RegL.skipG rfl rfl rfl hc3 rfl rfl ?_
        refine RegL.skipG rfl rfl rfl hc3 rfl rfl ?_
        refine RegL.pure (p := (pEq (.bool true))) rfl rfl rfl (J_pick rfl (Opd.tmp rfl) (fun _ => Opd.con) (fun hf => absurd (hc3.symm.trans hf) (by decide))) ?_
        refine RegL.pure (p := (pEq (.bool true))) rfl rfl rfl (J_move rfl (Opd.tmp rfl)) ?_
        refine RegL.skipG rfl rfl rfl rfl rfl rfl ?_
        refine RegL.skipG rfl rfl rfl rfl rfl rfl ?_
        refine RegL.skipG rfl rfl rfl rfl rfl rfl ?_
        refine RegL.skipG rfl rfl rfl rfl rfl rfl ?_
        refine RegL.skipG rfl rfl rfl rfl rfl rfl ?_
        refine RegL.skipG rfl rfl rfl rfl rfl rfl ?_
        refine RegL.skipG rfl rfl rfl rfl rfl rfl ?_
        refine RegL.pure (p := (pEq (.bool true))) rfl rfl rfl (J_pick rfl (Opd.tmp rfl) (fun _ => Opd.con) (fun hf => absurd hf (by decide))) ?_
        refine RegL.nil ?_
        replace h := Option.some.inj h; subst h
        exact Ct.mid () rfl ⟨rfl, rfl, rfl, trivial⟩
      · replace h := bif_f hc3 h
        refine RegL.pureG (p := (pPtr ((cSl 4 cGAntenna) a_0.Antennas))) rfl rfl rfl hc3 rfl rfl (J_fieldAddr rfl Try.underlying62 rfl sz59 (by decide) (Opd.tmp rfl) rfl) ?_
        refine RegL.pureG (p := (pSl 4 cGAntenna a_0.Antennas)) rfl rfl rfl hc3 rfl rfl (J_load rfl Try.isAgg59 (Opd.tmp rfl)) ?_
        refine RegL.pureG (p := (pEq (.int .i64 (a_0.Antennas.length : Int)))) rfl rfl rfl hc3 rfl rfl (J_len rfl Try.underlying59 (Opd.tmp rfl) rfl) ?_
        refine RegL.pureG (p := (pPtr ((cSl 4 cGAntenna) a_1.Antennas))) rfl rfl rfl hc3 rfl rfl (J_fieldAddr rfl Try.underlying62 rfl sz59 (by decide) (Opd.tmp rfl) rfl) ?_
        refine RegL.pureG (p := (pSl 4 cGAntenna a_1.Antennas)) rfl rfl rfl hc3 rfl rfl (J_load rfl Try.isAgg59 (Opd.tmp rfl)) ?_
        refine RegL.pureG (p := (pEq (.int .i64 (a_1.Antennas.length : Int)))) rfl rfl rfl hc3 rfl rfl (J_len rfl Try.underlying59 (Opd.tmp rfl) rfl) ?_
        refine RegL.pureG (p := (pEq (.bool ((a_0.Antennas.length : Int) != (a_1.Antennas.length : Int))))) rfl rfl rfl hc3 rfl rfl (J_bin rfl (Opd.tmp rfl) (Opd.tmp rfl) B_neq) ?_
        refine RegL.pure (p := (pEq (.bool ((a_0.Antennas.length : Int) != (a_1.Antennas.length : Int))))) rfl rfl rfl (J_pick rfl (Opd.tmp rfl) (fun hf => absurd (hc3.symm.trans hf) (by decide)) (fun _ => (Opd.tmp rfl))) ?_
        refine RegL.pure (p := (pEq (.bool ((a_0.Antennas.length : Int) != (a_1.Antennas.length : Int))))) rfl rfl rfl (J_move rfl (Opd.tmp rfl)) ?_
        rcases Bool.eq_false_or_eq_true ((a_0.Antennas.length : Int) != (a_1.Antennas.length : Int)) with hc4 | hc4
        · replace h := bif_t hc4 h
          refine RegL.skipG rfl rfl rfl hc4 rfl rfl ?_
          refine RegL.skipG rfl rfl rfl hc4 rfl rfl ?_
          refine RegL.skipG rfl rfl rfl hc4 rfl rfl ?_
          refine RegL.skipG rfl rfl rfl hc4 rfl rfl ?_
          refine RegL.skipG rfl rfl rfl hc4 rfl rfl ?_
          refine RegL.skipG rfl rfl rfl hc4 rfl rfl ?_
          refine RegL.skipG rfl rfl rfl hc4 rfl rfl ?_
          refine RegL.pure (p := (pEq (.bool true))) rfl rfl rfl (J_pick rfl (Opd.tmp rfl) (fun _ => Opd.con) (fun hf => absurd (hc4.symm.trans hf) (by decide))) ?_
          refine RegL.nil ?_
          replace h := Option.some.inj h; subst h
          exact Ct.mid () rfl ⟨rfl, rfl, rfl, trivial⟩
        · replace h := bif_f hc4 h
          refine RegL.pureG (p := (pPtr ((cSl 6 cGRadio) a_0.Radios))) rfl rfl rfl hc4 rfl rfl (J_fieldAddr rfl Try.underlying62 rfl sz60 (by decide) (Opd.tmp rfl) rfl) ?_
          refine RegL.pureG (p := (pSl 6 cGRadio a_0.Radios)) rfl rfl rfl hc4 rfl rfl (J_load rfl Try.isAgg60 (Opd.tmp rfl)) ?_
          refine RegL.pureG (p := (pEq (.int .i64 (a_0.Radios.length : Int)))) rfl rfl rfl hc4 rfl rfl (J_len rfl Try.underlying60 (Opd.tmp rfl) rfl) ?_
          refine RegL.pureG (p := (pPtr ((cSl 6 cGRadio) a_1.Radios))) rfl rfl rfl hc4 rfl rfl (J_fieldAddr rfl Try.underlying62 rfl sz60 (by decide) (Opd.tmp rfl) rfl) ?_
          refine RegL.pureG (p := (pSl 6 cGRadio a_1.Radios)) rfl rfl rfl hc4 rfl rfl (J_load rfl Try.isAgg60 (Opd.tmp rfl)) ?_
          refine RegL.pureG (p := (pEq (.int .i64 (a_1.Radios.length : Int)))) rfl rfl rfl hc4 rfl rfl (J_len rfl Try.underlying60 (Opd.tmp rfl) rfl) ?_
          refine RegL.pureG (p := (pEq (.bool ((a_0.Radios.length : Int) != (a_1.Radios.length : Int))))) rfl rfl rfl hc4 rfl rfl (J_bin rfl (Opd.tmp rfl) (Opd.tmp rfl) B_neq) ?_
          refine RegL.pure (p := (pEq (.bool ((a_0.Radios.length : Int) != (a_1.Radios.length : Int))))) rfl rfl rfl (J_pick rfl (Opd.tmp rfl) (fun hf => absurd (hc4.symm.trans hf) (by decide)) (fun _ => (Opd.tmp rfl))) ?_
          refine RegL.nil ?_
          replace h := Option.some.inj h; subst h
          exact Ct.mid () rfl ⟨rfl, rfl, rfl, trivial⟩
  · clear hx1
    refine Ct.then_tr ?_
    refine Tr.weak (Γ' := [(2, (pPtr (cGNetwork a_0))), (3, (pPtr (cGNetwork a_1))), (42, (pEq (.bool x1)))]) ⟨rfl, rfl, rfl, trivial⟩ ?_
    refine Tr.cond (Opd.tmp rfl) (fun hc => ?_) (fun hc => ?_)
    · replace h := bif_t hc h
      refine Tr.seq ?_
      refine Tr.region ?_
      refine RegL.pure (p := (pEq (.bool false))) rfl rfl rfl (J_assign rfl Opd.con) ?_
      refine RegL.nil ?_
      refine Ct.then_tr ?_
      refine Tr.weak (Γ' := [(4, (pEq (.bool false)))]) ⟨rfl, trivial⟩ ?_
      refine Tr.ret ?_
      refine Ct.then_ret ?_
      replace h := Option.some.inj h; subst h
      exact Ct.retH1 (Ωx := []) () rfl (RvOk.tmp rfl) rfl
    · replace h := bif_f hc h
      refine Tr.skip ?_
      refine Ct.then_tr ?_
      refine Tr.weak (Γ' := [(2, (pPtr (cGNetwork a_0))), (3, (pPtr (cGNetwork a_1)))]) ⟨rfl, rfl, trivial⟩ ?_
      refine Tr.seq ?_
      refine Tr.seq ?_
      refine Tr.region ?_
      refine RegL.pure (p := (pEq (.int .i64 (0 : Int)))) rfl rfl rfl (J_assign rfl Opd.con) ?_
      refine RegL.nil ?_
      refine Ct.then_tr ?_
      refine Tr.weak (Γ' := [(2, (pPtr (cGNetwork a_0))), (3, (pPtr (cGNetwork a_1))), (5, (pEq (.int .i64 (0 : Int))))]) ⟨rfl, rfl, rfl, trivial⟩ ?_
      refine Tr.block ?_
      refine Tr.weak (Γ' := [(2, (pPtr (cGNetwork a_0))), (3, (pPtr (cGNetwork a_1))), (5, (pEq (.int .i64 (0 : Int))))]) ⟨rfl, rfl, rfl, trivial⟩ ?_
      refine Tr.loop (γ := Unit) (σ := Int) (Γσ := fun s g => [(2, (pPtr (cGNetwork a_0))), (3, (pPtr (cGNetwork a_1))), (5, (pEq (.int .i64 s)))]) (Ωσ := fun s g => []) (g := ()) h ?_
      clear h
      rintro v7 g8 t h
      replace h : m_spec_SameNetwork_B6 a_0 a_1 v7 = some t := h
      unfold m_spec_SameNetwork_B6 at h
      refine Tr.weakO (Γ' := [(2, (pPtr (cGNetwork a_0))), (3, (pPtr (cGNetwork a_1))), (5, (pEq (.int .i64 v7)))]) (Ω' := []) rfl ⟨rfl, rfl, rfl, trivial⟩ ?_
      refine Tr.seq ?_
      refine Tr.seq ?_
      refine Tr.region ?_
      refine RegL.pure (p := (pEq (.int .i64 v7))) rfl rfl rfl (J_move rfl (Opd.tmp rfl)) ?_
      refine RegL.pure (p := (pPtr ((cSl 4 cGSite) a_0.Sites))) rfl rfl rfl (J_fieldAddr rfl Try.underlying62 rfl sz57 (by decide) (Opd.tmp rfl) rfl) ?_
      refine RegL.pure (p := (pSl 4 cGSite a_0.Sites)) rfl rfl rfl (J_load rfl Try.isAgg57 (Opd.tmp rfl)) ?_
      refine RegL.pure (p := (pEq (.int .i64 (a_0.Sites.length : Int)))) rfl rfl rfl (J_len rfl Try.underlying57 (Opd.tmp rfl) rfl) ?_
      refine RegL.pure (p := (pEq (.bool (decide (v7 < (a_0.Sites.length : Int)))))) rfl rfl rfl (J_bin rfl (Opd.tmp rfl) (Opd.tmp rfl) B_lss) ?_
      refine RegL.nil ?_
      refine Ct.then_tr ?_
      refine Tr.weak (Γ' := [(2, (pPtr (cGNetwork a_0))), (3, (pPtr (cGNetwork a_1))), (5, (pEq (.int .i64 v7))), (47, (pEq (.bool (decide (v7 < (a_0.Sites.length : Int))))))]) ⟨rfl, rfl, rfl, rfl, trivial⟩ ?_
      refine Tr.cond (Opd.tmp rfl) (fun hc => ?_) (fun hc => ?_)
      · replace h := bif_t hc h
        refine Tr.skip ?_
        refine Ct.then_tr ?_
        refine Tr.weak (Γ' := [(2, (pPtr (cGNetwork a_0))), (3, (pPtr (cGNetwork a_1))), (5, (pEq (.int .i64 v7)))]) ⟨rfl, rfl, rfl, trivial⟩ ?_
        refine Tr.seq ?_
        refine Tr.block ?_
        refine Tr.seq ?_
        replace h := bind_some h; obtain ⟨x9, hx9, h⟩ := h
        replace h := bind_some h; obtain ⟨x10, hx10, h⟩ := h
        refine Tr.drawD (n := 117) (m := 11) (es := [some (Ent.mk [(2, (pPtr (cGNetwork a_0)))] (pPtr ((cSl 4 cGSite) a_0.Sites)) true), some (Ent.mk [(50, (pPtr ((cSl 4 cGSite) a_0.Sites)))] (pSl 4 cGSite a_0.Sites) true), some (Ent.mk [(5, (pEq (.int .i64 v7)))] (pEq (.int .i64 v7)) true), some (Ent.mk [(51, (pSl 4 cGSite a_0.Sites)), (52, (pEq (.int .i64 v7)))] (pPtr (cGSite x9)) true), some (Ent.mk [(53, (pPtr (cGSite x9)))] (pAgg (cGSite x9)) true), some (Ent.mk [(3, (pPtr (cGNetwork a_1)))] (pPtr ((cSl 4 cGSite) a_1.Sites)) true), some (Ent.mk [(55, (pPtr ((cSl 4 cGSite) a_1.Sites)))] (pSl 4 cGSite a_1.Sites) true), some (Ent.mk [(5, (pEq (.int .i64 v7)))] (pEq (.int .i64 v7)) true), some (Ent.mk [(56, (pSl 4 cGSite a_1.Sites)), (57, (pEq (.int .i64 v7)))] (pPtr (cGSite x10)) true), some (Ent.mk [(58, (pPtr (cGSite x10)))] (pAgg (cGSite x10)) true), some (Ent.mk [(54, (pAgg (cGSite x9))), (59, (pAgg (cGSite x10)))] (pEq (.bool (!((x9.Name.toList == x10.Name.toList) && ((x9.Holder.toList == x10.Holder.toList) && (((x9.Place.X == x10.Place.X) && ((x9.Place.Y == x10.Place.Y) && true)) && true)))))) true)]) (rd := [[2], [50], [5], [51, 52], [53], [3], [55], [5], [56, 57], [58], [54, 59]]) rfl hmix (by kernel_rfl) fun hD => ?_
        refine RD.fin (es := [Ent.mk [(2, (pPtr (cGNetwork a_0)))] (pPtr ((cSl 4 cGSite) a_0.Sites)) true, Ent.mk [(50, (pPtr ((cSl 4 cGSite) a_0.Sites)))] (pSl 4 cGSite a_0.Sites) true, Ent.mk [(5, (pEq (.int .i64 v7)))] (pEq (.int .i64 v7)) true, Ent.mk [(51, (pSl 4 cGSite a_0.Sites)), (52, (pEq (.int .i64 v7)))] (pPtr (cGSite x9)) true, Ent.mk [(53, (pPtr (cGSite x9)))] (pAgg (cGSite x9)) true, Ent.mk [(3, (pPtr (cGNetwork a_1)))] (pPtr ((cSl 4 cGSite) a_1.Sites)) true, Ent.mk [(55, (pPtr ((cSl 4 cGSite) a_1.Sites)))] (pSl 4 cGSite a_1.Sites) true, Ent.mk [(5, (pEq (.int .i64 v7)))] (pEq (.int .i64 v7)) true, Ent.mk [(56, (pSl 4 cGSite a_1.Sites)), (57, (pEq (.int .i64 v7)))] (pPtr (cGSite x10)) true, Ent.mk [(58, (pPtr (cGSite x10)))] (pAgg (cGSite x10)) true, Ent.mk [(54, (pAgg (cGSite x9))), (59, (pAgg (cGSite x10)))] (pEq (.bool (!((x9.Name.toList == x10.Name.toList) && ((x9.Holder.toList == x10.Holder.toList) && (((x9.Place.X == x10.Place.X) && ((x9.Place.Y == x10.Place.Y) && true)) && true)))))) true]) (done := []) hD ⟨.inr ⟨(OpJ.w (J_fieldAddr rfl Try.underlying62 rfl sz57 (by decide) (Opd.tmp rfl) rfl)), ⟨rfl, trivial⟩, rfl, rfl⟩, ⟨.inr ⟨(OpJ.w (J_load rfl Try.isAgg57 (Opd.tmp rfl))), ⟨rfl, trivial⟩, rfl, rfl⟩, ⟨.inr ⟨(OpJ.w (J_move rfl (Opd.tmp rfl))), ⟨rfl, trivial⟩, rfl, rfl⟩, ⟨.inr ⟨(OpJ.w (J_idx rfl Try.underlying57 sz87 (Opd.tmp rfl) (Opd.tmp rfl) hx9)), ⟨rfl, rfl, trivial⟩, rfl, rfl⟩, ⟨.inr ⟨(OpJ.w (J_loadA rfl Try.isAgg87 sz87 (Opd.tmp rfl) rfl)), ⟨rfl, trivial⟩, rfl, rfl⟩, ⟨.inr ⟨(OpJ.w (J_fieldAddr rfl Try.underlying62 rfl sz57 (by decide) (Opd.tmp rfl) rfl)), ⟨rfl, trivial⟩, rfl, rfl⟩, ⟨.inr ⟨(OpJ.w (J_load rfl Try.isAgg57 (Opd.tmp rfl))), ⟨rfl, trivial⟩, rfl, rfl⟩, ⟨.inr ⟨(OpJ.w (J_move rfl (Opd.tmp rfl))), ⟨rfl, trivial⟩, rfl, rfl⟩, ⟨.inr ⟨(OpJ.w (J_idx rfl Try.underlying57 sz87 (Opd.tmp rfl) (Opd.tmp rfl) hx10)), ⟨rfl, rfl, trivial⟩, rfl, rfl⟩, ⟨.inr ⟨(OpJ.w (J_loadA rfl Try.isAgg87 sz87 (Opd.tmp rfl) rfl)), ⟨rfl, trivial⟩, rfl, rfl⟩, ⟨.inr ⟨(OpJ.w (J_steq rfl (Opd.tmp rfl) (Opd.tmp rfl) rfl rfl (stneq87 x9 x10))), ⟨rfl, rfl, trivial⟩, rfl, rfl⟩, trivial⟩⟩⟩⟩⟩⟩⟩⟩⟩⟩⟩ ?_
        refine RegL.nil ?_
        refine Ct.then_tr ?_
        refine Tr.weak (Γ' := [(2, (pPtr (cGNetwork a_0))), (3, (pPtr (cGNetwork a_1))), (5, (pEq (.int .i64 v7))), (60, (pEq (.bool (!((x9.Name.toList == x10.Name.toList) && ((x9.Holder.toList == x10.Holder.toList) && (((x9.Place.X == x10.Place.X) && ((x9.Place.Y == x10.Place.Y) && true)) && true)))))))]) ⟨rfl, rfl, rfl, rfl, trivial⟩ ?_
        refine Tr.cond (Opd.tmp rfl) (fun hc => ?_) (fun hc => ?_)
        · replace h := bif_t hc h
          refine Tr.seq ?_
          refine Tr.region ?_
          refine RegL.pure (p := (pEq (.bool false))) rfl rfl rfl (J_assign rfl Opd.con) ?_
          refine RegL.nil ?_
          refine Ct.then_tr ?_
          refine Tr.weak (Γ' := [(4, (pEq (.bool false)))]) ⟨rfl, trivial⟩ ?_
          refine Tr.ret ?_
          refine Ct.blk_ret ?_
          refine Ct.then_ret ?_
          replace h := map_some h; obtain ⟨r1, h, rfl⟩ := h
          refine Ct.out_ret fun e => ?_
          subst e
          refine Ct.blk_ret ?_
          refine Ct.then_ret ?_
          replace h := Option.some.inj h; subst h
          exact Ct.retH1 (Ωx := []) () rfl (RvOk.tmp rfl) rfl
        · replace h := bif_f hc h
          refine Tr.skip ?_
          refine Ct.blk_normal ?_
          refine Ct.then_tr ?_
          refine Tr.weak (Γ' := [(2, (pPtr (cGNetwork a_0))), (3, (pPtr (cGNetwork a_1))), (5, (pEq (.int .i64 v7)))]) ⟨rfl, rfl, rfl, trivial⟩ ?_
          refine Tr.region ?_
          refine RegL.pure (p := (pEq (.int .i64 v7))) rfl rfl rfl (J_move rfl (Opd.tmp rfl)) ?_
          refine RegL.pure (p := (pEq (.int .i64 (w64 (v7 + (1 : Int)))))) rfl rfl rfl (J_bin rfl (Opd.tmp rfl) Opd.con B_add) ?_
          refine RegL.pure (p := (pEq (.int .i64 (w64 (v7 + (1 : Int)))))) rfl rfl rfl (J_assign rfl (Opd.tmp rfl)) ?_
          refine RegL.nil ?_
          replace h := Option.some.inj h; subst h
          exact Ct.again () rfl ⟨rfl, rfl, rfl, trivial⟩
      · replace h := bif_f hc h
        refine Tr.exit ?_
        refine Ct.then_exit ?_
        replace h := map_some h; obtain ⟨r1, h, rfl⟩ := h
        refine Ct.out_exit fun e => ?_
        subst e
        refine Ct.blk_exit ?_
        refine Ct.then_tr ?_
        refine Tr.weak (Γ' := [(2, (pPtr (cGNetwork a_0))), (3, (pPtr (cGNetwork a_1)))]) ⟨rfl, rfl, trivial⟩ ?_
        refine Tr.seq ?_
        refine Tr.seq ?_
        refine Tr.region ?_
        refine RegL.pure (p := (pEq (.int .i64 (0 : Int)))) rfl rfl rfl (J_assign rfl Opd.con) ?_
        refine RegL.nil ?_
        refine Ct.then_tr ?_
        refine Tr.weak (Γ' := [(2, (pPtr (cGNetwork a_0))), (3, (pPtr (cGNetwork a_1))), (6, (pEq (.int .i64 (0 : Int))))]) ⟨rfl, rfl, rfl, trivial⟩ ?_
        refine Tr.block ?_
        refine Tr.weak (Γ' := [(2, (pPtr (cGNetwork a_0))), (3, (pPtr (cGNetwork a_1))), (6, (pEq (.int .i64 (0 : Int))))]) ⟨rfl, rfl, rfl, trivial⟩ ?_
        refine Tr.loop (γ := Unit) (σ := Int) (Γσ := fun s g => [(2, (pPtr (cGNetwork a_0))), (3, (pPtr (cGNetwork a_1))), (6, (pEq (.int .i64 s)))]) (Ωσ := fun s g => []) (g := ()) h ?_
        clear h
        rintro v12 g13 t h
        replace h : m_spec_SameNetwork_B11 a_0 a_1 v12 = some t := h
        unfold m_spec_SameNetwork_B11 at h
        refine Tr.weakO (Γ' := [(2, (pPtr (cGNetwork a_0))), (3, (pPtr (cGNetwork a_1))), (6, (pEq (.int .i64 v12)))]) (Ω' := []) rfl ⟨rfl, rfl, rfl, trivial⟩ ?_
        refine Tr.seq ?_
        refine Tr.seq ?_
        refine Tr.region ?_
        refine RegL.pure (p := (pEq (.int .i64 v12))) rfl rfl rfl (J_move rfl (Opd.tmp rfl)) ?_
        refine RegL.pure (p := (pPtr ((cSl 9 cGSector) a_0.Sectors))) rfl rfl rfl (J_fieldAddr rfl Try.underlying62 rfl sz58 (by decide) (Opd.tmp rfl) rfl) ?_
        refine RegL.pure (p := (pSl 9 cGSector a_0.Sectors)) rfl rfl rfl (J_load rfl Try.isAgg58 (Opd.tmp rfl)) ?_
        refine RegL.pure (p := (pEq (.int .i64 (a_0.Sectors.length : Int)))) rfl rfl rfl (J_len rfl Try.underlying58 (Opd.tmp rfl) rfl) ?_
        refine RegL.pure (p := (pEq (.bool (decide (v12 < (a_0.Sectors.length : Int)))))) rfl rfl rfl (J_bin rfl (Opd.tmp rfl) (Opd.tmp rfl) B_lss) ?_
        refine RegL.nil ?_
        refine Ct.then_tr ?_
        refine Tr.weak (Γ' := [(2, (pPtr (cGNetwork a_0))), (3, (pPtr (cGNetwork a_1))), (6, (pEq (.int .i64 v12))), (65, (pEq (.bool (decide (v12 < (a_0.Sectors.length : Int))))))]) ⟨rfl, rfl, rfl, rfl, trivial⟩ ?_
        refine Tr.cond (Opd.tmp rfl) (fun hc => ?_) (fun hc => ?_)
        · replace h := bif_t hc h
          refine Tr.skip ?_
          refine Ct.then_tr ?_
          refine Tr.weak (Γ' := [(2, (pPtr (cGNetwork a_0))), (3, (pPtr (cGNetwork a_1))), (6, (pEq (.int .i64 v12)))]) ⟨rfl, rfl, rfl, trivial⟩ ?_
          refine Tr.seq ?_
          refine Tr.block ?_
          refine Tr.seq ?_
          replace h := bind_some h; obtain ⟨x14, hx14, h⟩ := h
          replace h := bind_some h; obtain ⟨x15, hx15, h⟩ := h
          refine Tr.drawD (n := 117) (m := 11) (es := [some (Ent.mk [(2, (pPtr (cGNetwork a_0)))] (pPtr ((cSl 9 cGSector) a_0.Sectors)) true), some (Ent.mk [(68, (pPtr ((cSl 9 cGSector) a_0.Sectors)))] (pSl 9 cGSector a_0.Sectors) true), some (Ent.mk [(6, (pEq (.int .i64 v12)))] (pEq (.int .i64 v12)) true), some (Ent.mk [(69, (pSl 9 cGSector a_0.Sectors)), (70, (pEq (.int .i64 v12)))] (pPtr (cGSector x14)) true), some (Ent.mk [(71, (pPtr (cGSector x14)))] (pAgg (cGSector x14)) true), some (Ent.mk [(3, (pPtr (cGNetwork a_1)))] (pPtr ((cSl 9 cGSector) a_1.Sectors)) true), some (Ent.mk [(73, (pPtr ((cSl 9 cGSector) a_1.Sectors)))] (pSl 9 cGSector a_1.Sectors) true), some (Ent.mk [(6, (pEq (.int .i64 v12)))] (pEq (.int .i64 v12)) true), some (Ent.mk [(74, (pSl 9 cGSector a_1.Sectors)), (75, (pEq (.int .i64 v12)))] (pPtr (cGSector x15)) true), some (Ent.mk [(76, (pPtr (cGSector x15)))] (pAgg (cGSector x15)) true), some (Ent.mk [(72, (pAgg (cGSector x14))), (77, (pAgg (cGSector x15)))] (pEq (.bool (!((x14.Name.toList == x15.Name.toList) && ((x14.Site.toList == x15.Site.toList) && ((x14.Antenna.toList == x15.Antenna.toList) && ((x14.Radio.toList == x15.Radio.toList) && ((x14.Band.toList == x15.Band.toList) && ((x14.Azimuth == x15.Azimuth) && ((x14.Tilt == x15.Tilt) && ((x14.Above == x15.Above) && ((x14.Channel == x15.Channel) && true)))))))))))) true)]) (rd := [[2], [68], [6], [69, 70], [71], [3], [73], [6], [74, 75], [76], [72, 77]]) rfl hmix (by kernel_rfl) fun hD => ?_
          refine RD.fin (es := [Ent.mk [(2, (pPtr (cGNetwork a_0)))] (pPtr ((cSl 9 cGSector) a_0.Sectors)) true, Ent.mk [(68, (pPtr ((cSl 9 cGSector) a_0.Sectors)))] (pSl 9 cGSector a_0.Sectors) true, Ent.mk [(6, (pEq (.int .i64 v12)))] (pEq (.int .i64 v12)) true, Ent.mk [(69, (pSl 9 cGSector a_0.Sectors)), (70, (pEq (.int .i64 v12)))] (pPtr (cGSector x14)) true, Ent.mk [(71, (pPtr (cGSector x14)))] (pAgg (cGSector x14)) true, Ent.mk [(3, (pPtr (cGNetwork a_1)))] (pPtr ((cSl 9 cGSector) a_1.Sectors)) true, Ent.mk [(73, (pPtr ((cSl 9 cGSector) a_1.Sectors)))] (pSl 9 cGSector a_1.Sectors) true, Ent.mk [(6, (pEq (.int .i64 v12)))] (pEq (.int .i64 v12)) true, Ent.mk [(74, (pSl 9 cGSector a_1.Sectors)), (75, (pEq (.int .i64 v12)))] (pPtr (cGSector x15)) true, Ent.mk [(76, (pPtr (cGSector x15)))] (pAgg (cGSector x15)) true, Ent.mk [(72, (pAgg (cGSector x14))), (77, (pAgg (cGSector x15)))] (pEq (.bool (!((x14.Name.toList == x15.Name.toList) && ((x14.Site.toList == x15.Site.toList) && ((x14.Antenna.toList == x15.Antenna.toList) && ((x14.Radio.toList == x15.Radio.toList) && ((x14.Band.toList == x15.Band.toList) && ((x14.Azimuth == x15.Azimuth) && ((x14.Tilt == x15.Tilt) && ((x14.Above == x15.Above) && ((x14.Channel == x15.Channel) && true)))))))))))) true]) (done := []) hD ⟨.inr ⟨(OpJ.w (J_fieldAddr rfl Try.underlying62 rfl sz58 (by decide) (Opd.tmp rfl) rfl)), ⟨rfl, trivial⟩, rfl, rfl⟩, ⟨.inr ⟨(OpJ.w (J_load rfl Try.isAgg58 (Opd.tmp rfl))), ⟨rfl, trivial⟩, rfl, rfl⟩, ⟨.inr ⟨(OpJ.w (J_move rfl (Opd.tmp rfl))), ⟨rfl, trivial⟩, rfl, rfl⟩, ⟨.inr ⟨(OpJ.w (J_idx rfl Try.underlying58 sz89 (Opd.tmp rfl) (Opd.tmp rfl) hx14)), ⟨rfl, rfl, trivial⟩, rfl, rfl⟩, ⟨.inr ⟨(OpJ.w (J_loadA rfl Try.isAgg89 sz89 (Opd.tmp rfl) rfl)), ⟨rfl, trivial⟩, rfl, rfl⟩, ⟨.inr ⟨(OpJ.w (J_fieldAddr rfl Try.underlying62 rfl sz58 (by decide) (Opd.tmp rfl) rfl)), ⟨rfl, trivial⟩, rfl, rfl⟩, ⟨.inr ⟨(OpJ.w (J_load rfl Try.isAgg58 (Opd.tmp rfl))), ⟨rfl, trivial⟩, rfl, rfl⟩, ⟨.inr ⟨(OpJ.w (J_move rfl (Opd.tmp rfl))), ⟨rfl, trivial⟩, rfl, rfl⟩, ⟨.inr ⟨(OpJ.w (J_idx rfl Try.underlying58 sz89 (Opd.tmp rfl) (Opd.tmp rfl) hx15)), ⟨rfl, rfl, trivial⟩, rfl, rfl⟩, ⟨.inr ⟨(OpJ.w (J_loadA rfl Try.isAgg89 sz89 (Opd.tmp rfl) rfl)), ⟨rfl, trivial⟩, rfl, rfl⟩, ⟨.inr ⟨(OpJ.w (J_steq rfl (Opd.tmp rfl) (Opd.tmp rfl) rfl rfl (stneq89 x14 x15))), ⟨rfl, rfl, trivial⟩, rfl, rfl⟩, trivial⟩⟩⟩⟩⟩⟩⟩⟩⟩⟩⟩ ?_
          refine RegL.nil ?_
          refine Ct.then_tr ?_
          refine Tr.weak (Γ' := [(2, (pPtr (cGNetwork a_0))), (3, (pPtr (cGNetwork a_1))), (6, (pEq (.int .i64 v12))), (78, (pEq (.bool (!((x14.Name.toList == x15.Name.toList) && ((x14.Site.toList == x15.Site.toList) && ((x14.Antenna.toList == x15.Antenna.toList) && ((x14.Radio.toList == x15.Radio.toList) && ((x14.Band.toList == x15.Band.toList) && ((x14.Azimuth == x15.Azimuth) && ((x14.Tilt == x15.Tilt) && ((x14.Above == x15.Above) && ((x14.Channel == x15.Channel) && true)))))))))))))]) ⟨rfl, rfl, rfl, rfl, trivial⟩ ?_
          refine Tr.cond (Opd.tmp rfl) (fun hc => ?_) (fun hc => ?_)
          · replace h := bif_t hc h
            refine Tr.seq ?_
            refine Tr.region ?_
            refine RegL.pure (p := (pEq (.bool false))) rfl rfl rfl (J_assign rfl Opd.con) ?_
            refine RegL.nil ?_
            refine Ct.then_tr ?_
            refine Tr.weak (Γ' := [(4, (pEq (.bool false)))]) ⟨rfl, trivial⟩ ?_
            refine Tr.ret ?_
            refine Ct.blk_ret ?_
            refine Ct.then_ret ?_
            replace h := map_some h; obtain ⟨r1, h, rfl⟩ := h
            refine Ct.out_ret fun e => ?_
            subst e
            refine Ct.blk_ret ?_
            refine Ct.then_ret ?_
            replace h := Option.some.inj h; subst h
            exact Ct.retH1 (Ωx := []) () rfl (RvOk.tmp rfl) rfl
          · replace h := bif_f hc h
            refine Tr.skip ?_
            refine Ct.blk_normal ?_
            refine Ct.then_tr ?_
            refine Tr.weak (Γ' := [(2, (pPtr (cGNetwork a_0))), (3, (pPtr (cGNetwork a_1))), (6, (pEq (.int .i64 v12)))]) ⟨rfl, rfl, rfl, trivial⟩ ?_
            refine Tr.region ?_
            refine RegL.pure (p := (pEq (.int .i64 v12))) rfl rfl rfl (J_move rfl (Opd.tmp rfl)) ?_
            refine RegL.pure (p := (pEq (.int .i64 (w64 (v12 + (1 : Int)))))) rfl rfl rfl (J_bin rfl (Opd.tmp rfl) Opd.con B_add) ?_
            refine RegL.pure (p := (pEq (.int .i64 (w64 (v12 + (1 : Int)))))) rfl rfl rfl (J_assign rfl (Opd.tmp rfl)) ?_
            refine RegL.nil ?_
            replace h := Option.some.inj h; subst h
            exact Ct.again () rfl ⟨rfl, rfl, rfl, trivial⟩
        · replace h := bif_f hc h
          refine Tr.exit ?_
          refine Ct.then_exit ?_
          replace h := map_some h; obtain ⟨r1, h, rfl⟩ := h
          refine Ct.out_exit fun e => ?_
          subst e
          refine Ct.blk_exit ?_
          refine Ct.then_tr ?_
          refine Tr.weak (Γ' := [(2, (pPtr (cGNetwork a_0))), (3, (pPtr (cGNetwork a_1)))]) ⟨rfl, rfl, trivial⟩ ?_
          refine Tr.seq ?_
          refine Tr.seq ?_
          refine Tr.region ?_
          refine RegL.pure (p := (pEq (.int .i64 (0 : Int)))) rfl rfl rfl (J_assign rfl Opd.con) ?_
          refine RegL.nil ?_
          refine Ct.then_tr ?_
          refine Tr.weak (Γ' := [(2, (pPtr (cGNetwork a_0))), (3, (pPtr (cGNetwork a_1))), (7, (pEq (.int .i64 (0 : Int))))]) ⟨rfl, rfl, rfl, trivial⟩ ?_
          refine Tr.block ?_
          refine Tr.weak (Γ' := [(2, (pPtr (cGNetwork a_0))), (3, (pPtr (cGNetwork a_1))), (7, (pEq (.int .i64 (0 : Int))))]) ⟨rfl, rfl, rfl, trivial⟩ ?_
          refine Tr.loop (γ := Unit) (σ := Int) (Γσ := fun s g => [(2, (pPtr (cGNetwork a_0))), (3, (pPtr (cGNetwork a_1))), (7, (pEq (.int .i64 s)))]) (Ωσ := fun s g => []) (g := ()) h ?_
          clear h
          rintro v17 g18 t h
          replace h : m_spec_SameNetwork_B16 a_0 a_1 v17 = some t := h
          unfold m_spec_SameNetwork_B16 at h
          refine Tr.weakO (Γ' := [(2, (pPtr (cGNetwork a_0))), (3, (pPtr (cGNetwork a_1))), (7, (pEq (.int .i64 v17)))]) (Ω' := []) rfl ⟨rfl, rfl, rfl, trivial⟩ ?_
          refine Tr.seq ?_
          refine Tr.seq ?_
          refine Tr.region ?_
          refine RegL.pure (p := (pEq (.int .i64 v17))) rfl rfl rfl (J_move rfl (Opd.tmp rfl)) ?_
          refine RegL.pure (p := (pPtr ((cSl 4 cGAntenna) a_0.Antennas))) rfl rfl rfl (J_fieldAddr rfl Try.underlying62 rfl sz59 (by decide) (Opd.tmp rfl) rfl) ?_
          refine RegL.pure (p := (pSl 4 cGAntenna a_0.Antennas)) rfl rfl rfl (J_load rfl Try.isAgg59 (Opd.tmp rfl)) ?_
          refine RegL.pure (p := (pEq (.int .i64 (a_0.Antennas.length : Int)))) rfl rfl rfl (J_len rfl Try.underlying59 (Opd.tmp rfl) rfl) ?_
          refine RegL.pure (p := (pEq (.bool (decide (v17 < (a_0.Antennas.length : Int)))))) rfl rfl rfl (J_bin rfl (Opd.tmp rfl) (Opd.tmp rfl) B_lss) ?_
          refine RegL.nil ?_
          refine Ct.then_tr ?_
          refine Tr.weak (Γ' := [(2, (pPtr (cGNetwork a_0))), (3, (pPtr (cGNetwork a_1))), (7, (pEq (.int .i64 v17))), (83, (pEq (.bool (decide (v17 < (a_0.Antennas.length : Int))))))]) ⟨rfl, rfl, rfl, rfl, trivial⟩ ?_
          refine Tr.cond (Opd.tmp rfl) (fun hc => ?_) (fun hc => ?_)
          · replace h := bif_t hc h
            refine Tr.skip ?_
            refine Ct.then_tr ?_
            refine Tr.weak (Γ' := [(2, (pPtr (cGNetwork a_0))), (3, (pPtr (cGNetwork a_1))), (7, (pEq (.int .i64 v17)))]) ⟨rfl, rfl, rfl, trivial⟩ ?_
            refine Tr.seq ?_
            refine Tr.block ?_
            refine Tr.seq ?_
            replace h := bind_some h; obtain ⟨x19, hx19, h⟩ := h
            replace h := bind_some h; obtain ⟨x20, hx20, h⟩ := h
            replace h := bind_some h; obtain ⟨x21, hx21, h⟩ := h
            refine Tr.drawD (n := 117) (m := 12) (es := [some (Ent.mk [(2, (pPtr (cGNetwork a_0)))] (pPtr ((cSl 4 cGAntenna) a_0.Antennas)) true), some (Ent.mk [(86, (pPtr ((cSl 4 cGAntenna) a_0.Antennas)))] (pSl 4 cGAntenna a_0.Antennas) true), some (Ent.mk [(7, (pEq (.int .i64 v17)))] (pEq (.int .i64 v17)) true), some (Ent.mk [(87, (pSl 4 cGAntenna a_0.Antennas)), (88, (pEq (.int .i64 v17)))] (pPtr (cGAntenna x19)) true), some (Ent.mk [(89, (pPtr (cGAntenna x19)))] (pAgg (cGAntenna x19)) true), some (Ent.mk [(3, (pPtr (cGNetwork a_1)))] (pPtr ((cSl 4 cGAntenna) a_1.Antennas)) true), some (Ent.mk [(91, (pPtr ((cSl 4 cGAntenna) a_1.Antennas)))] (pSl 4 cGAntenna a_1.Antennas) true), some (Ent.mk [(7, (pEq (.int .i64 v17)))] (pEq (.int .i64 v17)) true), some (Ent.mk [(92, (pSl 4 cGAntenna a_1.Antennas)), (93, (pEq (.int .i64 v17)))] (pPtr (cGAntenna x20)) true), some (Ent.mk [(94, (pPtr (cGAntenna x20)))] (pAgg (cGAntenna x20)) true), some (Ent.mk [(90, (pAgg (cGAntenna x19))), (95, (pAgg (cGAntenna x20)))] (pEq (.bool x21)) true), some (Ent.mk [(96, (pEq (.bool x21)))] (pEq (.bool (!x21))) true)]) (rd := [[2], [86], [7], [87, 88], [89], [3], [91], [7], [92, 93], [94], [90, 95], [96]]) rfl hmix (by kernel_rfl) fun hD => ?_
            refine RD.fin (es := [Ent.mk [(2, (pPtr (cGNetwork a_0)))] (pPtr ((cSl 4 cGAntenna) a_0.Antennas)) true, Ent.mk [(86, (pPtr ((cSl 4 cGAntenna) a_0.Antennas)))] (pSl 4 cGAntenna a_0.Antennas) true, Ent.mk [(7, (pEq (.int .i64 v17)))] (pEq (.int .i64 v17)) true, Ent.mk [(87, (pSl 4 cGAntenna a_0.Antennas)), (88, (pEq (.int .i64 v17)))] (pPtr (cGAntenna x19)) true, Ent.mk [(89, (pPtr (cGAntenna x19)))] (pAgg (cGAntenna x19)) true, Ent.mk [(3, (pPtr (cGNetwork a_1)))] (pPtr ((cSl 4 cGAntenna) a_1.Antennas)) true, Ent.mk [(91, (pPtr ((cSl 4 cGAntenna) a_1.Antennas)))] (pSl 4 cGAntenna a_1.Antennas) true, Ent.mk [(7, (pEq (.int .i64 v17)))] (pEq (.int .i64 v17)) true, Ent.mk [(92, (pSl 4 cGAntenna a_1.Antennas)), (93, (pEq (.int .i64 v17)))] (pPtr (cGAntenna x20)) true, Ent.mk [(94, (pPtr (cGAntenna x20)))] (pAgg (cGAntenna x20)) true, Ent.mk [(90, (pAgg (cGAntenna x19))), (95, (pAgg (cGAntenna x20)))] (pEq (.bool x21)) true, Ent.mk [(96, (pEq (.bool x21)))] (pEq (.bool (!x21))) true]) (done := []) hD ⟨.inr ⟨(OpJ.w (J_fieldAddr rfl Try.underlying62 rfl sz59 (by decide) (Opd.tmp rfl) rfl)), ⟨rfl, trivial⟩, rfl, rfl⟩, ⟨.inr ⟨(OpJ.w (J_load rfl Try.isAgg59 (Opd.tmp rfl))), ⟨rfl, trivial⟩, rfl, rfl⟩, ⟨.inr ⟨(OpJ.w (J_move rfl (Opd.tmp rfl))), ⟨rfl, trivial⟩, rfl, rfl⟩, ⟨.inr ⟨(OpJ.w (J_idx rfl Try.underlying59 sz92 (Opd.tmp rfl) (Opd.tmp rfl) hx19)), ⟨rfl, rfl, trivial⟩, rfl, rfl⟩, ⟨.inr ⟨(OpJ.w (J_loadA rfl Try.isAgg92 sz92 (Opd.tmp rfl) rfl)), ⟨rfl, trivial⟩, rfl, rfl⟩, ⟨.inr ⟨(OpJ.w (J_fieldAddr rfl Try.underlying62 rfl sz59 (by decide) (Opd.tmp rfl) rfl)), ⟨rfl, trivial⟩, rfl, rfl⟩, ⟨.inr ⟨(OpJ.w (J_load rfl Try.isAgg59 (Opd.tmp rfl))), ⟨rfl, trivial⟩, rfl, rfl⟩, ⟨.inr ⟨(OpJ.w (J_move rfl (Opd.tmp rfl))), ⟨rfl, trivial⟩, rfl, rfl⟩, ⟨.inr ⟨(OpJ.w (J_idx rfl Try.underlying59 sz92 (Opd.tmp rfl) (Opd.tmp rfl) hx20)), ⟨rfl, rfl, trivial⟩, rfl, rfl⟩, ⟨.inr ⟨(OpJ.w (J_loadA rfl Try.isAgg92 sz92 (Opd.tmp rfl) rfl)), ⟨rfl, trivial⟩, rfl, rfl⟩, ⟨.inr ⟨(OpJ.w (J_call rfl Try.call65 (c_spec_SameAntenna hx21) (Opds.cons (Opd.tmp rfl) (Opds.cons (Opd.tmp rfl) Opds.nil)))), ⟨rfl, rfl, trivial⟩, rfl, rfl⟩, ⟨.inr ⟨(OpJ.w (J_not rfl (Opd.tmp rfl))), ⟨rfl, trivial⟩, rfl, rfl⟩, trivial⟩⟩⟩⟩⟩⟩⟩⟩⟩⟩⟩⟩ ?_
            refine RegL.nil ?_
            refine Ct.then_tr ?_
            refine Tr.weak (Γ' := [(2, (pPtr (cGNetwork a_0))), (3, (pPtr (cGNetwork a_1))), (7, (pEq (.int .i64 v17))), (97, (pEq (.bool (!x21))))]) ⟨rfl, rfl, rfl, rfl, trivial⟩ ?_
            refine Tr.cond (Opd.tmp rfl) (fun hc => ?_) (fun hc => ?_)
            · replace h := bif_t hc h
              refine Tr.seq ?_
              refine Tr.region ?_
              refine RegL.pure (p := (pEq (.bool false))) rfl rfl rfl (J_assign rfl Opd.con) ?_
              refine RegL.nil ?_
              refine Ct.then_tr ?_
              refine Tr.weak (Γ' := [(4, (pEq (.bool false)))]) ⟨rfl, trivial⟩ ?_
              refine Tr.ret ?_
              refine Ct.blk_ret ?_
              refine Ct.then_ret ?_
              replace h := map_some h; obtain ⟨r1, h, rfl⟩ := h
              refine Ct.out_ret fun e => ?_
              subst e
              refine Ct.blk_ret ?_
              refine Ct.then_ret ?_
              replace h := Option.some.inj h; subst h
              exact Ct.retH1 (Ωx := []) () rfl (RvOk.tmp rfl) rfl
            · replace h := bif_f hc h
              refine Tr.skip ?_
              refine Ct.blk_normal ?_
              refine Ct.then_tr ?_
              refine Tr.weak (Γ' := [(2, (pPtr (cGNetwork a_0))), (3, (pPtr (cGNetwork a_1))), (7, (pEq (.int .i64 v17)))]) ⟨rfl, rfl, rfl, trivial⟩ ?_
              refine Tr.region ?_
              refine RegL.pure (p := (pEq (.int .i64 v17))) rfl rfl rfl (J_move rfl (Opd.tmp rfl)) ?_
              refine RegL.pure (p := (pEq (.int .i64 (w64 (v17 + (1 : Int)))))) rfl rfl rfl (J_bin rfl (Opd.tmp rfl) Opd.con B_add) ?_
              refine RegL.pure (p := (pEq (.int .i64 (w64 (v17 + (1 : Int)))))) rfl rfl rfl (J_assign rfl (Opd.tmp rfl)) ?_
              refine RegL.nil ?_
              replace h := Option.some.inj h; subst h
              exact Ct.again () rfl ⟨rfl, rfl, rfl, trivial⟩
          · replace h := bif_f hc h
            refine Tr.exit ?_
            refine Ct.then_exit ?_
            replace h := map_some h; obtain ⟨r1, h, rfl⟩ := h
            refine Ct.out_exit fun e => ?_
            subst e
            refine Ct.blk_exit ?_
            refine Ct.then_tr ?_
            refine Tr.weak (Γ' := [(2, (pPtr (cGNetwork a_0))), (3, (pPtr (cGNetwork a_1)))]) ⟨rfl, rfl, trivial⟩ ?_
            refine Tr.seq ?_
            refine Tr.seq ?_
            refine Tr.region ?_
            refine RegL.pure (p := (pEq (.int .i64 (0 : Int)))) rfl rfl rfl (J_assign rfl Opd.con) ?_
            refine RegL.nil ?_
            refine Ct.then_tr ?_
            refine Tr.weak (Γ' := [(2, (pPtr (cGNetwork a_0))), (3, (pPtr (cGNetwork a_1))), (8, (pEq (.int .i64 (0 : Int))))]) ⟨rfl, rfl, rfl, trivial⟩ ?_
            refine Tr.block ?_
            refine Tr.weak (Γ' := [(2, (pPtr (cGNetwork a_0))), (3, (pPtr (cGNetwork a_1))), (8, (pEq (.int .i64 (0 : Int))))]) ⟨rfl, rfl, rfl, trivial⟩ ?_
            refine Tr.loop (γ := Unit) (σ := Int) (Γσ := fun s g => [(2, (pPtr (cGNetwork a_0))), (3, (pPtr (cGNetwork a_1))), (8, (pEq (.int .i64 s)))]) (Ωσ := fun s g => []) (g := ()) h ?_
            clear h
            rintro v23 g24 t h
            replace h : m_spec_SameNetwork_B22 a_0 a_1 v23 = some t := h
            unfold m_spec_SameNetwork_B22 at h
            refine Tr.weakO (Γ' := [(2, (pPtr (cGNetwork a_0))), (3, (pPtr (cGNetwork a_1))), (8, (pEq (.int .i64 v23)))]) (Ω' := []) rfl ⟨rfl, rfl, rfl, trivial⟩ ?_
            refine Tr.seq ?_
            refine Tr.seq ?_
            refine Tr.region ?_
            refine RegL.pure (p := (pEq (.int .i64 v23))) rfl rfl rfl (J_move rfl (Opd.tmp rfl)) ?_
            refine RegL.pure (p := (pPtr ((cSl 6 cGRadio) a_0.Radios))) rfl rfl rfl (J_fieldAddr rfl Try.underlying62 rfl sz60 (by decide) (Opd.tmp rfl) rfl) ?_
            refine RegL.pure (p := (pSl 6 cGRadio a_0.Radios)) rfl rfl rfl (J_load rfl Try.isAgg60 (Opd.tmp rfl)) ?_
            refine RegL.pure (p := (pEq (.int .i64 (a_0.Radios.length : Int)))) rfl rfl rfl (J_len rfl Try.underlying60 (Opd.tmp rfl) rfl) ?_
            refine RegL.pure (p := (pEq (.bool (decide (v23 < (a_0.Radios.length : Int)))))) rfl rfl rfl (J_bin rfl (Opd.tmp rfl) (Opd.tmp rfl) B_lss) ?_
            refine RegL.nil ?_
            refine Ct.then_tr ?_
            refine Tr.weak (Γ' := [(2, (pPtr (cGNetwork a_0))), (3, (pPtr (cGNetwork a_1))), (8, (pEq (.int .i64 v23))), (102, (pEq (.bool (decide (v23 < (a_0.Radios.length : Int))))))]) ⟨rfl, rfl, rfl, rfl, trivial⟩ ?_
            refine Tr.cond (Opd.tmp rfl) (fun hc => ?_) (fun hc => ?_)
            · replace h := bif_t hc h
              refine Tr.skip ?_
              refine Ct.then_tr ?_
              refine Tr.weak (Γ' := [(2, (pPtr (cGNetwork a_0))), (3, (pPtr (cGNetwork a_1))), (8, (pEq (.int .i64 v23)))]) ⟨rfl, rfl, rfl, trivial⟩ ?_
              refine Tr.seq ?_
              refine Tr.block ?_
              refine Tr.seq ?_
              replace h := bind_some h; obtain ⟨x25, hx25, h⟩ := h
              replace h := bind_some h; obtain ⟨x26, hx26, h⟩ := h
              replace h := bind_some h; obtain ⟨x27, hx27, h⟩ := h
              refine Tr.drawD (n := 117) (m := 12) (es := [some (Ent.mk [(2, (pPtr (cGNetwork a_0)))] (pPtr ((cSl 6 cGRadio) a_0.Radios)) true), some (Ent.mk [(105, (pPtr ((cSl 6 cGRadio) a_0.Radios)))] (pSl 6 cGRadio a_0.Radios) true), some (Ent.mk [(8, (pEq (.int .i64 v23)))] (pEq (.int .i64 v23)) true), some (Ent.mk [(106, (pSl 6 cGRadio a_0.Radios)), (107, (pEq (.int .i64 v23)))] (pPtr (cGRadio x25)) true), some (Ent.mk [(108, (pPtr (cGRadio x25)))] (pAgg (cGRadio x25)) true), some (Ent.mk [(3, (pPtr (cGNetwork a_1)))] (pPtr ((cSl 6 cGRadio) a_1.Radios)) true), some (Ent.mk [(110, (pPtr ((cSl 6 cGRadio) a_1.Radios)))] (pSl 6 cGRadio a_1.Radios) true), some (Ent.mk [(8, (pEq (.int .i64 v23)))] (pEq (.int .i64 v23)) true), some (Ent.mk [(111, (pSl 6 cGRadio a_1.Radios)), (112, (pEq (.int .i64 v23)))] (pPtr (cGRadio x26)) true), some (Ent.mk [(113, (pPtr (cGRadio x26)))] (pAgg (cGRadio x26)) true), some (Ent.mk [(109, (pAgg (cGRadio x25))), (114, (pAgg (cGRadio x26)))] (pEq (.bool x27)) true), some (Ent.mk [(115, (pEq (.bool x27)))] (pEq (.bool (!x27))) true)]) (rd := [[2], [105], [8], [106, 107], [108], [3], [110], [8], [111, 112], [113], [109, 114], [115]]) rfl hmix (by kernel_rfl) fun hD => ?_
              refine RD.fin (es := [Ent.mk [(2, (pPtr (cGNetwork a_0)))] (pPtr ((cSl 6 cGRadio) a_0.Radios)) true, Ent.mk [(105, (pPtr ((cSl 6 cGRadio) a_0.Radios)))] (pSl 6 cGRadio a_0.Radios) true, Ent.mk [(8, (pEq (.int .i64 v23)))] (pEq (.int .i64 v23)) true, Ent.mk [(106, (pSl 6 cGRadio a_0.Radios)), (107, (pEq (.int .i64 v23)))] (pPtr (cGRadio x25)) true, Ent.mk [(108, (pPtr (cGRadio x25)))] (pAgg (cGRadio x25)) true, Ent.mk [(3, (pPtr (cGNetwork a_1)))] (pPtr ((cSl 6 cGRadio) a_1.Radios)) true, Ent.mk [(110, (pPtr ((cSl 6 cGRadio) a_1.Radios)))] (pSl 6 cGRadio a_1.Radios) true, Ent.mk [(8, (pEq (.int .i64 v23)))] (pEq (.int .i64 v23)) true, Ent.mk [(111, (pSl 6 cGRadio a_1.Radios)), (112, (pEq (.int .i64 v23)))] (pPtr (cGRadio x26)) true, Ent.mk [(113, (pPtr (cGRadio x26)))] (pAgg (cGRadio x26)) true, Ent.mk [(109, (pAgg (cGRadio x25))), (114, (pAgg (cGRadio x26)))] (pEq (.bool x27)) true, Ent.mk [(115, (pEq (.bool x27)))] (pEq (.bool (!x27))) true]) (done := []) hD ⟨.inr ⟨(OpJ.w (J_fieldAddr rfl Try.underlying62 rfl sz60 (by decide) (Opd.tmp rfl) rfl)), ⟨rfl, trivial⟩, rfl, rfl⟩, ⟨.inr ⟨(OpJ.w (J_load rfl Try.isAgg60 (Opd.tmp rfl))), ⟨rfl, trivial⟩, rfl, rfl⟩, ⟨.inr ⟨(OpJ.w (J_move rfl (Opd.tmp rfl))), ⟨rfl, trivial⟩, rfl, rfl⟩, ⟨.inr ⟨(OpJ.w (J_idx rfl Try.underlying60 sz96 (Opd.tmp rfl) (Opd.tmp rfl) hx25)), ⟨rfl, rfl, trivial⟩, rfl, rfl⟩, ⟨.inr ⟨(OpJ.w (J_loadA rfl Try.isAgg96 sz96 (Opd.tmp rfl) rfl)), ⟨rfl, trivial⟩, rfl, rfl⟩, ⟨.inr ⟨(OpJ.w (J_fieldAddr rfl Try.underlying62 rfl sz60 (by decide) (Opd.tmp rfl) rfl)), ⟨rfl, trivial⟩, rfl, rfl⟩, ⟨.inr ⟨(OpJ.w (J_load rfl Try.isAgg60 (Opd.tmp rfl))), ⟨rfl, trivial⟩, rfl, rfl⟩, ⟨.inr ⟨(OpJ.w (J_move rfl (Opd.tmp rfl))), ⟨rfl, trivial⟩, rfl, rfl⟩, ⟨.inr ⟨(OpJ.w (J_idx rfl Try.underlying60 sz96 (Opd.tmp rfl) (Opd.tmp rfl) hx26)), ⟨rfl, rfl, trivial⟩, rfl, rfl⟩, ⟨.inr ⟨(OpJ.w (J_loadA rfl Try.isAgg96 sz96 (Opd.tmp rfl) rfl)), ⟨rfl, trivial⟩, rfl, rfl⟩, ⟨.inr ⟨(OpJ.w (J_call rfl Try.call66 (c_spec_SameRadio hx27) (Opds.cons (Opd.tmp rfl) (Opds.cons (Opd.tmp rfl) Opds.nil)))), ⟨rfl, rfl, trivial⟩, rfl, rfl⟩, ⟨.inr ⟨(OpJ.w (J_not rfl (Opd.tmp rfl))), ⟨rfl, trivial⟩, rfl, rfl⟩, trivial⟩⟩⟩⟩⟩⟩⟩⟩⟩⟩⟩⟩ ?_
              refine RegL.nil ?_
              refine Ct.then_tr ?_
              refine Tr.weak (Γ' := [(2, (pPtr (cGNetwork a_0))), (3, (pPtr (cGNetwork a_1))), (8, (pEq (.int .i64 v23))), (116, (pEq (.bool (!x27))))]) ⟨rfl, rfl, rfl, rfl, trivial⟩ ?_
              refine Tr.cond (Opd.tmp rfl) (fun hc => ?_) (fun hc => ?_)
              · replace h := bif_t hc h
                refine Tr.seq ?_
                refine Tr.region ?_
                refine RegL.pure (p := (pEq (.bool false))) rfl rfl rfl (J_assign rfl Opd.con) ?_
                refine RegL.nil ?_
                refine Ct.then_tr ?_
                refine Tr.weak (Γ' := [(4, (pEq (.bool false)))]) ⟨rfl, trivial⟩ ?_
                refine Tr.ret ?_
                refine Ct.blk_ret ?_
                refine Ct.then_ret ?_
                replace h := map_some h; obtain ⟨r1, h, rfl⟩ := h
                refine Ct.out_ret fun e => ?_
                subst e
                refine Ct.blk_ret ?_
                refine Ct.then_ret ?_
                replace h := Option.some.inj h; subst h
                exact Ct.retH1 (Ωx := []) () rfl (RvOk.tmp rfl) rfl
              · replace h := bif_f hc h
                refine Tr.skip ?_
                refine Ct.blk_normal ?_
                refine Ct.then_tr ?_
                refine Tr.weak (Γ' := [(2, (pPtr (cGNetwork a_0))), (3, (pPtr (cGNetwork a_1))), (8, (pEq (.int .i64 v23)))]) ⟨rfl, rfl, rfl, trivial⟩ ?_
                refine Tr.region ?_
                refine RegL.pure (p := (pEq (.int .i64 v23))) rfl rfl rfl (J_move rfl (Opd.tmp rfl)) ?_
                refine RegL.pure (p := (pEq (.int .i64 (w64 (v23 + (1 : Int)))))) rfl rfl rfl (J_bin rfl (Opd.tmp rfl) Opd.con B_add) ?_
                refine RegL.pure (p := (pEq (.int .i64 (w64 (v23 + (1 : Int)))))) rfl rfl rfl (J_assign rfl (Opd.tmp rfl)) ?_
                refine RegL.nil ?_
                replace h := Option.some.inj h; subst h
                exact Ct.again () rfl ⟨rfl, rfl, rfl, trivial⟩
            · replace h := bif_f hc h
              refine Tr.exit ?_
              refine Ct.then_exit ?_
              replace h := map_some h; obtain ⟨r1, h, rfl⟩ := h
              refine Ct.out_exit fun e => ?_
              subst e
              refine Ct.blk_exit ?_
              refine Ct.then_tr ?_
              refine Tr.weak (Γ' := []) trivial ?_
              refine Tr.seq ?_
              refine Tr.region ?_
              refine RegL.pure (p := (pEq (.bool true))) rfl rfl rfl (J_assign rfl Opd.con) ?_
              refine RegL.nil ?_
              refine Ct.then_tr ?_
              refine Tr.weak (Γ' := [(4, (pEq (.bool true)))]) ⟨rfl, trivial⟩ ?_
              refine Tr.ret ?_
              replace h := Option.some.inj h; subst h
              exact Ct.retH1 (Ωx := []) () rfl (RvOk.tmp rfl) rfl

theorem c_slices_Equal_impl_Site_impl_Site {s1_0 : (List GSite)} {s2_1 : (List GSite)} {r : Bool} (h : m_slices_Equal_impl_Site_impl_Site s1_0 s2_1 = some r) : CallJ Try.prog 71 [(pSl 4 cGSite s1_0), (pSl 4 cGSite s2_1)] (pEq (.bool r)) := by
  unfold m_slices_Equal_impl_Site_impl_Site at h
  refine CallJ.enterH Try.func71 rfl Try.ntmps71 rfl fun W I0 H => ?_
  refine Tr.weak (Γ' := [(0, (pSl 4 cGSite s1_0)), (1, (pSl 4 cGSite s2_1))]) ⟨rfl, rfl, trivial⟩ ?_
  refine Tr.seq ?_
  refine Tr.region ?_
  refine RegL.pure (p := (pEq (.bool false))) rfl rfl rfl (J_assign rfl Opd.con) ?_
  refine RegL.nil ?_
  refine Ct.then_tr ?_
  refine Tr.weak (Γ' := [(0, (pSl 4 cGSite s1_0)), (1, (pSl 4 cGSite s2_1))]) ⟨rfl, rfl, trivial⟩ ?_
  refine Tr.seq ?_
  refine Tr.seq ?_
  refine Tr.region ?_
  refine RegL.pure (p := (pSl 4 cGSite s1_0)) rfl rfl rfl (J_move rfl (Opd.tmp rfl)) ?_
  refine RegL.pure (p := (pEq (.int .i64 (s1_0.length : Int)))) rfl rfl rfl (J_len rfl Try.underlying57 (Opd.tmp rfl) rfl) ?_
  refine RegL.pure (p := (pSl 4 cGSite s2_1)) rfl rfl rfl (J_move rfl (Opd.tmp rfl)) ?_
  refine RegL.pure (p := (pEq (.int .i64 (s2_1.length : Int)))) rfl rfl rfl (J_len rfl Try.underlying57 (Opd.tmp rfl) rfl) ?_
  refine RegL.pure (p := (pEq (.bool ((s1_0.length : Int) != (s2_1.length : Int))))) rfl rfl rfl (J_bin rfl (Opd.tmp rfl) (Opd.tmp rfl) B_neq) ?_
  refine RegL.nil ?_
  refine Ct.then_tr ?_
  refine Tr.weak (Γ' := [(0, (pSl 4 cGSite s1_0)), (1, (pSl 4 cGSite s2_1)), (10, (pEq (.bool ((s1_0.length : Int) != (s2_1.length : Int)))))]) ⟨rfl, rfl, rfl, trivial⟩ ?_
  refine Tr.cond (Opd.tmp rfl) (fun hc => ?_) (fun hc => ?_)
  · replace h := bif_t hc h
    refine Tr.seq ?_
    refine Tr.region ?_
    refine RegL.pure (p := (pEq (.bool false))) rfl rfl rfl (J_assign rfl Opd.con) ?_
    refine RegL.nil ?_
    refine Ct.then_tr ?_
    refine Tr.weak (Γ' := [(4, (pEq (.bool false)))]) ⟨rfl, trivial⟩ ?_
    refine Tr.ret ?_
    refine Ct.then_ret ?_
    replace h := Option.some.inj h; subst h
    exact Ct.retH1 (Ωx := []) () rfl (RvOk.tmp rfl) rfl
  · replace h := bif_f hc h
    refine Tr.skip ?_
    refine Ct.then_tr ?_
    refine Tr.weak (Γ' := [(0, (pSl 4 cGSite s1_0)), (1, (pSl 4 cGSite s2_1))]) ⟨rfl, rfl, trivial⟩ ?_
    refine Tr.seq ?_
    refine Tr.seq ?_
    refine Tr.region ?_
    refine RegL.pure (p := (pSl 4 cGSite s1_0)) rfl rfl rfl (J_move rfl (Opd.tmp rfl)) ?_
    refine RegL.pure (p := (pEq (.int .i64 (s1_0.length : Int)))) rfl rfl rfl (J_len rfl Try.underlying57 (Opd.tmp rfl) rfl) ?_
    refine RegL.pure (p := (pEq (.int .i64 (0 : Int)))) rfl rfl rfl (J_move rfl Opd.con) ?_
    refine RegL.nil ?_
    refine Ct.then_tr ?_
    refine Tr.weak (Γ' := [(0, (pSl 4 cGSite s1_0)), (1, (pSl 4 cGSite s2_1)), (12, (pEq (.int .i64 (s1_0.length : Int)))), (13, (pEq (.int .i64 (0 : Int))))]) ⟨rfl, rfl, rfl, rfl, trivial⟩ ?_
    refine Tr.block ?_
    refine Tr.weak (Γ' := [(0, (pSl 4 cGSite s1_0)), (1, (pSl 4 cGSite s2_1)), (12, (pEq (.int .i64 (s1_0.length : Int)))), (13, (pEq (.int .i64 (0 : Int))))]) ⟨rfl, rfl, rfl, rfl, trivial⟩ ?_
    refine Tr.loop (γ := Unit) (σ := Int) (Γσ := fun s g => [(0, (pSl 4 cGSite s1_0)), (1, (pSl 4 cGSite s2_1)), (12, (pEq (.int .i64 (s1_0.length : Int)))), (13, (pEq (.int .i64 s)))]) (Ωσ := fun s g => []) (g := ()) h ?_
    clear h
    rintro v2 g3 t h
    replace h : m_slices_Equal_impl_Site_impl_Site_B1 s1_0 s2_1 v2 = some t := h
    unfold m_slices_Equal_impl_Site_impl_Site_B1 at h
    refine Tr.weakO (Γ' := [(0, (pSl 4 cGSite s1_0)), (1, (pSl 4 cGSite s2_1)), (12, (pEq (.int .i64 (s1_0.length : Int)))), (13, (pEq (.int .i64 v2)))]) (Ω' := []) rfl ⟨rfl, rfl, rfl, rfl, trivial⟩ ?_
    refine Tr.seq ?_
    refine Tr.region ?_
    refine RegL.pure (p := (pEq (.bool (decide (v2 < (s1_0.length : Int)))))) rfl rfl rfl (J_bin rfl (Opd.tmp rfl) (Opd.tmp rfl) B_lss) ?_
    refine RegL.nil ?_
    refine Ct.then_tr ?_
    refine Tr.weak (Γ' := [(0, (pSl 4 cGSite s1_0)), (1, (pSl 4 cGSite s2_1)), (12, (pEq (.int .i64 (s1_0.length : Int)))), (13, (pEq (.int .i64 v2))), (14, (pEq (.bool (decide (v2 < (s1_0.length : Int))))))]) ⟨rfl, rfl, rfl, rfl, rfl, trivial⟩ ?_
    refine Tr.seq ?_
    refine Tr.cond (Opd.tmp rfl) (fun hc => ?_) (fun hc => ?_)
    · replace h := bif_t hc h
      refine Tr.skip ?_
      refine Ct.then_tr ?_
      refine Tr.weak (Γ' := [(0, (pSl 4 cGSite s1_0)), (1, (pSl 4 cGSite s2_1)), (12, (pEq (.int .i64 (s1_0.length : Int)))), (13, (pEq (.int .i64 v2)))]) ⟨rfl, rfl, rfl, rfl, trivial⟩ ?_
      refine Tr.seq ?_
      refine Tr.block ?_
      refine Tr.seq ?_
      refine Tr.region ?_
      refine RegL.pure (p := (pEq (.int .i64 v2))) rfl rfl rfl (J_move rfl (Opd.tmp rfl)) ?_
      refine RegL.pure (p := (pEq (.int .i64 v2))) rfl rfl rfl (J_assign rfl (Opd.tmp rfl)) ?_
      refine RegL.nil ?_
      refine Ct.then_tr ?_
      refine Tr.weak (Γ' := [(0, (pSl 4 cGSite s1_0)), (1, (pSl 4 cGSite s2_1)), (5, (pEq (.int .i64 v2))), (12, (pEq (.int .i64 (s1_0.length : Int)))), (13, (pEq (.int .i64 v2)))]) ⟨rfl, rfl, rfl, rfl, rfl, trivial⟩ ?_
      refine Tr.seq ?_
      replace h := bind_some h; obtain ⟨x4, hx4, h⟩ := h
      replace h := bind_some h; obtain ⟨x5, hx5, h⟩ := h
      refine Tr.drawD (n := 26) (m := 9) (es := [some (Ent.mk [(0, (pSl 4 cGSite s1_0))] (pSl 4 cGSite s1_0) true), some (Ent.mk [(5, (pEq (.int .i64 v2)))] (pEq (.int .i64 v2)) true), some (Ent.mk [(16, (pSl 4 cGSite s1_0)), (17, (pEq (.int .i64 v2)))] (pPtr (cGSite x4)) true), some (Ent.mk [(18, (pPtr (cGSite x4)))] (pAgg (cGSite x4)) true), some (Ent.mk [(1, (pSl 4 cGSite s2_1))] (pSl 4 cGSite s2_1) true), some (Ent.mk [(5, (pEq (.int .i64 v2)))] (pEq (.int .i64 v2)) true), some (Ent.mk [(20, (pSl 4 cGSite s2_1)), (21, (pEq (.int .i64 v2)))] (pPtr (cGSite x5)) true), some (Ent.mk [(22, (pPtr (cGSite x5)))] (pAgg (cGSite x5)) true), some (Ent.mk [(19, (pAgg (cGSite x4))), (23, (pAgg (cGSite x5)))] (pEq (.bool (!((x4.Name.toList == x5.Name.toList) && ((x4.Holder.toList == x5.Holder.toList) && (((x4.Place.X == x5.Place.X) && ((x4.Place.Y == x5.Place.Y) && true)) && true)))))) true)]) (rd := [[0], [5], [16, 17], [18], [1], [5], [20, 21], [22], [19, 23]]) rfl hmix (by kernel_rfl) fun hD => ?_
      refine RD.fin (es := [Ent.mk [(0, (pSl 4 cGSite s1_0))] (pSl 4 cGSite s1_0) true, Ent.mk [(5, (pEq (.int .i64 v2)))] (pEq (.int .i64 v2)) true, Ent.mk [(16, (pSl 4 cGSite s1_0)), (17, (pEq (.int .i64 v2)))] (pPtr (cGSite x4)) true, Ent.mk [(18, (pPtr (cGSite x4)))] (pAgg (cGSite x4)) true, Ent.mk [(1, (pSl 4 cGSite s2_1))] (pSl 4 cGSite s2_1) true, Ent.mk [(5, (pEq (.int .i64 v2)))] (pEq (.int .i64 v2)) true, Ent.mk [(20, (pSl 4 cGSite s2_1)), (21, (pEq (.int .i64 v2)))] (pPtr (cGSite x5)) true, Ent.mk [(22, (pPtr (cGSite x5)))] (pAgg (cGSite x5)) true, Ent.mk [(19, (pAgg (cGSite x4))), (23, (pAgg (cGSite x5)))] (pEq (.bool (!((x4.Name.toList == x5.Name.toList) && ((x4.Holder.toList == x5.Holder.toList) && (((x4.Place.X == x5.Place.X) && ((x4.Place.Y == x5.Place.Y) && true)) && true)))))) true]) (done := []) hD ⟨.inr ⟨(OpJ.w (J_move rfl (Opd.tmp rfl))), ⟨rfl, trivial⟩, rfl, rfl⟩, ⟨.inr ⟨(OpJ.w (J_move rfl (Opd.tmp rfl))), ⟨rfl, trivial⟩, rfl, rfl⟩, ⟨.inr ⟨(OpJ.w (J_idx rfl Try.underlying57 sz87 (Opd.tmp rfl) (Opd.tmp rfl) hx4)), ⟨rfl, rfl, trivial⟩, rfl, rfl⟩, ⟨.inr ⟨(OpJ.w (J_loadA rfl Try.isAgg87 sz87 (Opd.tmp rfl) rfl)), ⟨rfl, trivial⟩, rfl, rfl⟩, ⟨.inr ⟨(OpJ.w (J_move rfl (Opd.tmp rfl))), ⟨rfl, trivial⟩, rfl, rfl⟩, ⟨.inr ⟨(OpJ.w (J_move rfl (Opd.tmp rfl))), ⟨rfl, trivial⟩, rfl, rfl⟩, ⟨.inr ⟨(OpJ.w (J_idx rfl Try.underlying57 sz87 (Opd.tmp rfl) (Opd.tmp rfl) hx5)), ⟨rfl, rfl, trivial⟩, rfl, rfl⟩, ⟨.inr ⟨(OpJ.w (J_loadA rfl Try.isAgg87 sz87 (Opd.tmp rfl) rfl)), ⟨rfl, trivial⟩, rfl, rfl⟩, ⟨.inr ⟨(OpJ.w (J_steq rfl (Opd.tmp rfl) (Opd.tmp rfl) rfl rfl (stneq87 x4 x5))), ⟨rfl, rfl, trivial⟩, rfl, rfl⟩, trivial⟩⟩⟩⟩⟩⟩⟩⟩⟩ ?_
      refine RegL.nil ?_
      refine Ct.then_tr ?_
      refine Tr.weak (Γ' := [(0, (pSl 4 cGSite s1_0)), (1, (pSl 4 cGSite s2_1)), (12, (pEq (.int .i64 (s1_0.length : Int)))), (13, (pEq (.int .i64 v2))), (24, (pEq (.bool (!((x4.Name.toList == x5.Name.toList) && ((x4.Holder.toList == x5.Holder.toList) && (((x4.Place.X == x5.Place.X) && ((x4.Place.Y == x5.Place.Y) && true)) && true)))))))]) ⟨rfl, rfl, rfl, rfl, rfl, trivial⟩ ?_
      refine Tr.cond (Opd.tmp rfl) (fun hc => ?_) (fun hc => ?_)
      · replace h := bif_t hc h
        refine Tr.seq ?_
        refine Tr.region ?_
        refine RegL.pure (p := (pEq (.bool false))) rfl rfl rfl (J_assign rfl Opd.con) ?_
        refine RegL.nil ?_
        refine Ct.then_tr ?_
        refine Tr.weak (Γ' := [(4, (pEq (.bool false)))]) ⟨rfl, trivial⟩ ?_
        refine Tr.ret ?_
        refine Ct.blk_ret ?_
        refine Ct.then_ret ?_
        replace h := map_some h; obtain ⟨r1, h, rfl⟩ := h
        refine Ct.out_ret fun e => ?_
        subst e
        refine Ct.blk_ret ?_
        refine Ct.then_ret ?_
        replace h := Option.some.inj h; subst h
        exact Ct.retH1 (Ωx := []) () rfl (RvOk.tmp rfl) rfl
      · replace h := bif_f hc h
        refine Tr.skip ?_
        refine Ct.blk_normal ?_
        refine Ct.then_tr ?_
        refine Tr.weak (Γ' := [(0, (pSl 4 cGSite s1_0)), (1, (pSl 4 cGSite s2_1)), (12, (pEq (.int .i64 (s1_0.length : Int)))), (13, (pEq (.int .i64 v2)))]) ⟨rfl, rfl, rfl, rfl, trivial⟩ ?_
        refine Tr.region ?_
        refine RegL.pure (p := (pEq (.int .i64 (w64 (v2 + (1 : Int)))))) rfl rfl rfl (J_bin rfl (Opd.tmp rfl) Opd.con B_add) ?_
        refine RegL.pure (p := (pEq (.int .i64 (w64 (v2 + (1 : Int)))))) rfl rfl rfl (J_move rfl (Opd.tmp rfl)) ?_
        refine RegL.nil ?_
        replace h := Option.some.inj h; subst h
        exact Ct.again () rfl ⟨rfl, rfl, rfl, rfl, trivial⟩
    · replace h := bif_f hc h
      refine Tr.exit ?_
      refine Ct.then_exit ?_
      replace h := map_some h; obtain ⟨r1, h, rfl⟩ := h
      refine Ct.out_exit fun e => ?_
      subst e
      refine Ct.blk_exit ?_
      refine Ct.then_tr ?_
      refine Tr.weak (Γ' := []) trivial ?_
      refine Tr.seq ?_
      refine Tr.region ?_
      refine RegL.pure (p := (pEq (.bool true))) rfl rfl rfl (J_assign rfl Opd.con) ?_
      refine RegL.nil ?_
      refine Ct.then_tr ?_
      refine Tr.weak (Γ' := [(4, (pEq (.bool true)))]) ⟨rfl, trivial⟩ ?_
      refine Tr.ret ?_
      replace h := Option.some.inj h; subst h
      exact Ct.retH1 (Ωx := []) () rfl (RvOk.tmp rfl) rfl

theorem c_slices_Equal_impl_Sector_impl_Sector {s1_0 : (List GSector)} {s2_1 : (List GSector)} {r : Bool} (h : m_slices_Equal_impl_Sector_impl_Sector s1_0 s2_1 = some r) : CallJ Try.prog 72 [(pSl 9 cGSector s1_0), (pSl 9 cGSector s2_1)] (pEq (.bool r)) := by
  unfold m_slices_Equal_impl_Sector_impl_Sector at h
  refine CallJ.enterH Try.func72 rfl Try.ntmps72 rfl fun W I0 H => ?_
  refine Tr.weak (Γ' := [(0, (pSl 9 cGSector s1_0)), (1, (pSl 9 cGSector s2_1))]) ⟨rfl, rfl, trivial⟩ ?_
  refine Tr.seq ?_
  refine Tr.region ?_
  refine RegL.pure (p := (pEq (.bool false))) rfl rfl rfl (J_assign rfl Opd.con) ?_
  refine RegL.nil ?_
  refine Ct.then_tr ?_
  refine Tr.weak (Γ' := [(0, (pSl 9 cGSector s1_0)), (1, (pSl 9 cGSector s2_1))]) ⟨rfl, rfl, trivial⟩ ?_
  refine Tr.seq ?_
  refine Tr.seq ?_
  refine Tr.region ?_
  refine RegL.pure (p := (pSl 9 cGSector s1_0)) rfl rfl rfl (J_move rfl (Opd.tmp rfl)) ?_
  refine RegL.pure (p := (pEq (.int .i64 (s1_0.length : Int)))) rfl rfl rfl (J_len rfl Try.underlying58 (Opd.tmp rfl) rfl) ?_
  refine RegL.pure (p := (pSl 9 cGSector s2_1)) rfl rfl rfl (J_move rfl (Opd.tmp rfl)) ?_
  refine RegL.pure (p := (pEq (.int .i64 (s2_1.length : Int)))) rfl rfl rfl (J_len rfl Try.underlying58 (Opd.tmp rfl) rfl) ?_
  refine RegL.pure (p := (pEq (.bool ((s1_0.length : Int) != (s2_1.length : Int))))) rfl rfl rfl (J_bin rfl (Opd.tmp rfl) (Opd.tmp rfl) B_neq) ?_
  refine RegL.nil ?_
  refine Ct.then_tr ?_
  refine Tr.weak (Γ' := [(0, (pSl 9 cGSector s1_0)), (1, (pSl 9 cGSector s2_1)), (10, (pEq (.bool ((s1_0.length : Int) != (s2_1.length : Int)))))]) ⟨rfl, rfl, rfl, trivial⟩ ?_
  refine Tr.cond (Opd.tmp rfl) (fun hc => ?_) (fun hc => ?_)
  · replace h := bif_t hc h
    refine Tr.seq ?_
    refine Tr.region ?_
    refine RegL.pure (p := (pEq (.bool false))) rfl rfl rfl (J_assign rfl Opd.con) ?_
    refine RegL.nil ?_
    refine Ct.then_tr ?_
    refine Tr.weak (Γ' := [(4, (pEq (.bool false)))]) ⟨rfl, trivial⟩ ?_
    refine Tr.ret ?_
    refine Ct.then_ret ?_
    replace h := Option.some.inj h; subst h
    exact Ct.retH1 (Ωx := []) () rfl (RvOk.tmp rfl) rfl
  · replace h := bif_f hc h
    refine Tr.skip ?_
    refine Ct.then_tr ?_
    refine Tr.weak (Γ' := [(0, (pSl 9 cGSector s1_0)), (1, (pSl 9 cGSector s2_1))]) ⟨rfl, rfl, trivial⟩ ?_
    refine Tr.seq ?_
    refine Tr.seq ?_
    refine Tr.region ?_
    refine RegL.pure (p := (pSl 9 cGSector s1_0)) rfl rfl rfl (J_move rfl (Opd.tmp rfl)) ?_
    refine RegL.pure (p := (pEq (.int .i64 (s1_0.length : Int)))) rfl rfl rfl (J_len rfl Try.underlying58 (Opd.tmp rfl) rfl) ?_
    refine RegL.pure (p := (pEq (.int .i64 (0 : Int)))) rfl rfl rfl (J_move rfl Opd.con) ?_
    refine RegL.nil ?_
    refine Ct.then_tr ?_
    refine Tr.weak (Γ' := [(0, (pSl 9 cGSector s1_0)), (1, (pSl 9 cGSector s2_1)), (12, (pEq (.int .i64 (s1_0.length : Int)))), (13, (pEq (.int .i64 (0 : Int))))]) ⟨rfl, rfl, rfl, rfl, trivial⟩ ?_
    refine Tr.block ?_
    refine Tr.weak (Γ' := [(0, (pSl 9 cGSector s1_0)), (1, (pSl 9 cGSector s2_1)), (12, (pEq (.int .i64 (s1_0.length : Int)))), (13, (pEq (.int .i64 (0 : Int))))]) ⟨rfl, rfl, rfl, rfl, trivial⟩ ?_
    refine Tr.loop (γ := Unit) (σ := Int) (Γσ := fun s g => [(0, (pSl 9 cGSector s1_0)), (1, (pSl 9 cGSector s2_1)), (12, (pEq (.int .i64 (s1_0.length : Int)))), (13, (pEq (.int .i64 s)))]) (Ωσ := fun s g => []) (g := ()) h ?_
    clear h
    rintro v2 g3 t h
    replace h : m_slices_Equal_impl_Sector_impl_Sector_B1 s1_0 s2_1 v2 = some t := h
    unfold m_slices_Equal_impl_Sector_impl_Sector_B1 at h
    refine Tr.weakO (Γ' := [(0, (pSl 9 cGSector s1_0)), (1, (pSl 9 cGSector s2_1)), (12, (pEq (.int .i64 (s1_0.length : Int)))), (13, (pEq (.int .i64 v2)))]) (Ω' := []) rfl ⟨rfl, rfl, rfl, rfl, trivial⟩ ?_
    refine Tr.seq ?_
    refine Tr.region ?_
    refine RegL.pure (p := (pEq (.bool (decide (v2 < (s1_0.length : Int)))))) rfl rfl rfl (J_bin rfl (Opd.tmp rfl) (Opd.tmp rfl) B_lss) ?_
    refine RegL.nil ?_
    refine Ct.then_tr ?_
    refine Tr.weak (Γ' := [(0, (pSl 9 cGSector s1_0)), (1, (pSl 9 cGSector s2_1)), (12, (pEq (.int .i64 (s1_0.length : Int)))), (13, (pEq (.int .i64 v2))), (14, (pEq (.bool (decide (v2 < (s1_0.length : Int))))))]) ⟨rfl, rfl, rfl, rfl, rfl, trivial⟩ ?_
    refine Tr.seq ?_
    refine Tr.cond (Opd.tmp rfl) (fun hc => ?_) (fun hc => ?_)
    · replace h := bif_t hc h
      refine Tr.skip ?_
      refine Ct.then_tr ?_
      refine Tr.weak (Γ' := [(0, (pSl 9 cGSector s1_0)), (1, (pSl 9 cGSector s2_1)), (12, (pEq (.int .i64 (s1_0.length : Int)))), (13, (pEq (.int .i64 v2)))]) ⟨rfl, rfl, rfl, rfl, trivial⟩ ?_
      refine Tr.seq ?_
      refine Tr.block ?_
      refine Tr.seq ?_
      refine Tr.region ?_
      refine RegL.pure (p := (pEq (.int .i64 v2))) rfl rfl rfl (J_move rfl (Opd.tmp rfl)) ?_
      refine RegL.pure (p := (pEq (.int .i64 v2))) rfl rfl rfl (J_assign rfl (Opd.tmp rfl)) ?_
      refine RegL.nil ?_
      refine Ct.then_tr ?_
      refine Tr.weak (Γ' := [(0, (pSl 9 cGSector s1_0)), (1, (pSl 9 cGSector s2_1)), (5, (pEq (.int .i64 v2))), (12, (pEq (.int .i64 (s1_0.length : Int)))), (13, (pEq (.int .i64 v2)))]) ⟨rfl, rfl, rfl, rfl, rfl, trivial⟩ ?_
      refine Tr.seq ?_
      replace h := bind_some h; obtain ⟨x4, hx4, h⟩ := h
      replace h := bind_some h; obtain ⟨x5, hx5, h⟩ := h
      refine Tr.drawD (n := 26) (m := 9) (es := [some (Ent.mk [(0, (pSl 9 cGSector s1_0))] (pSl 9 cGSector s1_0) true), some (Ent.mk [(5, (pEq (.int .i64 v2)))] (pEq (.int .i64 v2)) true), some (Ent.mk [(16, (pSl 9 cGSector s1_0)), (17, (pEq (.int .i64 v2)))] (pPtr (cGSector x4)) true), some (Ent.mk [(18, (pPtr (cGSector x4)))] (pAgg (cGSector x4)) true), some (Ent.mk [(1, (pSl 9 cGSector s2_1))] (pSl 9 cGSector s2_1) true), some (Ent.mk [(5, (pEq (.int .i64 v2)))] (pEq (.int .i64 v2)) true), some (Ent.mk [(20, (pSl 9 cGSector s2_1)), (21, (pEq (.int .i64 v2)))] (pPtr (cGSector x5)) true), some (Ent.mk [(22, (pPtr (cGSector x5)))] (pAgg (cGSector x5)) true), some (Ent.mk [(19, (pAgg (cGSector x4))), (23, (pAgg (cGSector x5)))] (pEq (.bool (!((x4.Name.toList == x5.Name.toList) && ((x4.Site.toList == x5.Site.toList) && ((x4.Antenna.toList == x5.Antenna.toList) && ((x4.Radio.toList == x5.Radio.toList) && ((x4.Band.toList == x5.Band.toList) && ((x4.Azimuth == x5.Azimuth) && ((x4.Tilt == x5.Tilt) && ((x4.Above == x5.Above) && ((x4.Channel == x5.Channel) && true)))))))))))) true)]) (rd := [[0], [5], [16, 17], [18], [1], [5], [20, 21], [22], [19, 23]]) rfl hmix (by kernel_rfl) fun hD => ?_
      refine RD.fin (es := [Ent.mk [(0, (pSl 9 cGSector s1_0))] (pSl 9 cGSector s1_0) true, Ent.mk [(5, (pEq (.int .i64 v2)))] (pEq (.int .i64 v2)) true, Ent.mk [(16, (pSl 9 cGSector s1_0)), (17, (pEq (.int .i64 v2)))] (pPtr (cGSector x4)) true, Ent.mk [(18, (pPtr (cGSector x4)))] (pAgg (cGSector x4)) true, Ent.mk [(1, (pSl 9 cGSector s2_1))] (pSl 9 cGSector s2_1) true, Ent.mk [(5, (pEq (.int .i64 v2)))] (pEq (.int .i64 v2)) true, Ent.mk [(20, (pSl 9 cGSector s2_1)), (21, (pEq (.int .i64 v2)))] (pPtr (cGSector x5)) true, Ent.mk [(22, (pPtr (cGSector x5)))] (pAgg (cGSector x5)) true, Ent.mk [(19, (pAgg (cGSector x4))), (23, (pAgg (cGSector x5)))] (pEq (.bool (!((x4.Name.toList == x5.Name.toList) && ((x4.Site.toList == x5.Site.toList) && ((x4.Antenna.toList == x5.Antenna.toList) && ((x4.Radio.toList == x5.Radio.toList) && ((x4.Band.toList == x5.Band.toList) && ((x4.Azimuth == x5.Azimuth) && ((x4.Tilt == x5.Tilt) && ((x4.Above == x5.Above) && ((x4.Channel == x5.Channel) && true)))))))))))) true]) (done := []) hD ⟨.inr ⟨(OpJ.w (J_move rfl (Opd.tmp rfl))), ⟨rfl, trivial⟩, rfl, rfl⟩, ⟨.inr ⟨(OpJ.w (J_move rfl (Opd.tmp rfl))), ⟨rfl, trivial⟩, rfl, rfl⟩, ⟨.inr ⟨(OpJ.w (J_idx rfl Try.underlying58 sz89 (Opd.tmp rfl) (Opd.tmp rfl) hx4)), ⟨rfl, rfl, trivial⟩, rfl, rfl⟩, ⟨.inr ⟨(OpJ.w (J_loadA rfl Try.isAgg89 sz89 (Opd.tmp rfl) rfl)), ⟨rfl, trivial⟩, rfl, rfl⟩, ⟨.inr ⟨(OpJ.w (J_move rfl (Opd.tmp rfl))), ⟨rfl, trivial⟩, rfl, rfl⟩, ⟨.inr ⟨(OpJ.w (J_move rfl (Opd.tmp rfl))), ⟨rfl, trivial⟩, rfl, rfl⟩, ⟨.inr ⟨(OpJ.w (J_idx rfl Try.underlying58 sz89 (Opd.tmp rfl) (Opd.tmp rfl) hx5)), ⟨rfl, rfl, trivial⟩, rfl, rfl⟩, ⟨.inr ⟨(OpJ.w (J_loadA rfl Try.isAgg89 sz89 (Opd.tmp rfl) rfl)), ⟨rfl, trivial⟩, rfl, rfl⟩, ⟨.inr ⟨(OpJ.w (J_steq rfl (Opd.tmp rfl) (Opd.tmp rfl) rfl rfl (stneq89 x4 x5))), ⟨rfl, rfl, trivial⟩, rfl, rfl⟩, trivial⟩⟩⟩⟩⟩⟩⟩⟩⟩ ?_
      refine RegL.nil ?_
      refine Ct.then_tr ?_
      refine Tr.weak (Γ' := [(0, (pSl 9 cGSector s1_0)), (1, (pSl 9 cGSector s2_1)), (12, (pEq (.int .i64 (s1_0.length : Int)))), (13, (pEq (.int .i64 v2))), (24, (pEq (.bool (!((x4.Name.toList == x5.Name.toList) && ((x4.Site.toList == x5.Site.toList) && ((x4.Antenna.toList == x5.Antenna.toList) && ((x4.Radio.toList == x5.Radio.toList) && ((x4.Band.toList == x5.Band.toList) && ((x4.Azimuth == x5.Azimuth) && ((x4.Tilt == x5.Tilt) && ((x4.Above == x5.Above) && ((x4.Channel == x5.Channel) && true)))))))))))))]) ⟨rfl, rfl, rfl, rfl, rfl, trivial⟩ ?_
      refine Tr.cond (Opd.tmp rfl) (fun hc => ?_) (fun hc => ?_)
      · replace h := bif_t hc h
        refine Tr.seq ?_
        refine Tr.region ?_
        refine RegL.pure (p := (pEq (.bool false))) rfl rfl rfl (J_assign rfl Opd.con) ?_
        refine RegL.nil ?_
        refine Ct.then_tr ?_
        refine Tr.weak (Γ' := [(4, (pEq (.bool false)))]) ⟨rfl, trivial⟩ ?_
        refine Tr.ret ?_
        refine Ct.blk_ret ?_
        refine Ct.then_ret ?_
        replace h := map_some h; obtain ⟨r1, h, rfl⟩ := h
        refine Ct.out_ret fun e => ?_
        subst e
        refine Ct.blk_ret ?_
        refine Ct.then_ret ?_
        replace h := Option.some.inj h; subst h
        exact Ct.retH1 (Ωx := []) () rfl (RvOk.tmp rfl) rfl
      · replace h := bif_f hc h
        refine Tr.skip ?_
        refine Ct.blk_normal ?_
        refine Ct.then_tr ?_
        refine Tr.weak (Γ' := [(0, (pSl 9 cGSector s1_0)), (1, (pSl 9 cGSector s2_1)), (12, (pEq (.int .i64 (s1_0.length : Int)))), (13, (pEq (.int .i64 v2)))]) ⟨rfl, rfl, rfl, rfl, trivial⟩ ?_
        refine Tr.region ?_
        refine RegL.pure (p := (pEq (.int .i64 (w64 (v2 + (1 : Int)))))) rfl rfl rfl (J_bin rfl (Opd.tmp rfl) Opd.con B_add) ?_
        refine RegL.pure (p := (pEq (.int .i64 (w64 (v2 + (1 : Int)))))) rfl rfl rfl (J_move rfl (Opd.tmp rfl)) ?_
        refine RegL.nil ?_
        replace h := Option.some.inj h; subst h
        exact Ct.again () rfl ⟨rfl, rfl, rfl, rfl, trivial⟩
    · replace h := bif_f hc h
      refine Tr.exit ?_
      refine Ct.then_exit ?_
      replace h := map_some h; obtain ⟨r1, h, rfl⟩ := h
      refine Ct.out_exit fun e => ?_
      subst e
      refine Ct.blk_exit ?_
      refine Ct.then_tr ?_
      refine Tr.weak (Γ' := []) trivial ?_
      refine Tr.seq ?_
      refine Tr.region ?_
      refine RegL.pure (p := (pEq (.bool true))) rfl rfl rfl (J_assign rfl Opd.con) ?_
      refine RegL.nil ?_
      refine Ct.then_tr ?_
      refine Tr.weak (Γ' := [(4, (pEq (.bool true)))]) ⟨rfl, trivial⟩ ?_
      refine Tr.ret ?_
      replace h := Option.some.inj h; subst h
      exact Ct.retH1 (Ωx := []) () rfl (RvOk.tmp rfl) rfl

theorem c_slices_EqualFunc_impl_Antenna_impl_Antenna_impl_Antenna_impl_Antenna {s1_0 : (List GAntenna)} {s2_1 : (List GAntenna)} {eq_2 : ((GAntenna × GAntenna) → Option Bool)} {r : Bool} (h : m_slices_EqualFunc_impl_Antenna_impl_Antenna_impl_Antenna_impl_Antenna s1_0 s2_1 eq_2 = some r) : CallJ Try.prog 73 [(pSl 4 cGAntenna s1_0), (pSl 4 cGAntenna s2_1), (pFn Try.prog (fun x => [(pAgg (cGAntenna x.1)), (pAgg (cGAntenna x.2))]) eq_2 (fun y => (pEq (.bool y))))] (pEq (.bool r)) := by
  unfold m_slices_EqualFunc_impl_Antenna_impl_Antenna_impl_Antenna_impl_Antenna at h
  refine CallJ.enterH Try.func73 rfl Try.ntmps73 rfl fun W I0 H => ?_
  refine Tr.weak (Γ' := [(0, (pSl 4 cGAntenna s1_0)), (1, (pSl 4 cGAntenna s2_1)), (2, (pFn Try.prog (fun x => [(pAgg (cGAntenna x.1)), (pAgg (cGAntenna x.2))]) eq_2 (fun y => (pEq (.bool y)))))]) ⟨rfl, rfl, rfl, trivial⟩ ?_
  refine Tr.seq ?_
  refine Tr.region ?_
  refine RegL.pure (p := (pEq (.bool false))) rfl rfl rfl (J_assign rfl Opd.con) ?_
  refine RegL.nil ?_
  refine Ct.then_tr ?_
  refine Tr.weak (Γ' := [(0, (pSl 4 cGAntenna s1_0)), (1, (pSl 4 cGAntenna s2_1)), (2, (pFn Try.prog (fun x => [(pAgg (cGAntenna x.1)), (pAgg (cGAntenna x.2))]) eq_2 (fun y => (pEq (.bool y)))))]) ⟨rfl, rfl, rfl, trivial⟩ ?_
  refine Tr.seq ?_
  refine Tr.seq ?_
  refine Tr.region ?_
  refine RegL.pure (p := (pSl 4 cGAntenna s1_0)) rfl rfl rfl (J_move rfl (Opd.tmp rfl)) ?_
  refine RegL.pure (p := (pEq (.int .i64 (s1_0.length : Int)))) rfl rfl rfl (J_len rfl Try.underlying59 (Opd.tmp rfl) rfl) ?_
  refine RegL.pure (p := (pSl 4 cGAntenna s2_1)) rfl rfl rfl (J_move rfl (Opd.tmp rfl)) ?_
  refine RegL.pure (p := (pEq (.int .i64 (s2_1.length : Int)))) rfl rfl rfl (J_len rfl Try.underlying59 (Opd.tmp rfl) rfl) ?_
  refine RegL.pure (p := (pEq (.bool ((s1_0.length : Int) != (s2_1.length : Int))))) rfl rfl rfl (J_bin rfl (Opd.tmp rfl) (Opd.tmp rfl) B_neq) ?_
  refine RegL.nil ?_
  refine Ct.then_tr ?_
  refine Tr.weak (Γ' := [(0, (pSl 4 cGAntenna s1_0)), (1, (pSl 4 cGAntenna s2_1)), (2, (pFn Try.prog (fun x => [(pAgg (cGAntenna x.1)), (pAgg (cGAntenna x.2))]) eq_2 (fun y => (pEq (.bool y))))), (14, (pEq (.bool ((s1_0.length : Int) != (s2_1.length : Int)))))]) ⟨rfl, rfl, rfl, rfl, trivial⟩ ?_
  refine Tr.cond (Opd.tmp rfl) (fun hc => ?_) (fun hc => ?_)
  · replace h := bif_t hc h
    refine Tr.seq ?_
    refine Tr.region ?_
    refine RegL.pure (p := (pEq (.bool false))) rfl rfl rfl (J_assign rfl Opd.con) ?_
    refine RegL.nil ?_
    refine Ct.then_tr ?_
    refine Tr.weak (Γ' := [(6, (pEq (.bool false)))]) ⟨rfl, trivial⟩ ?_
    refine Tr.ret ?_
    refine Ct.then_ret ?_
    replace h := Option.some.inj h; subst h
    exact Ct.retH1 (Ωx := []) () rfl (RvOk.tmp rfl) rfl
  · replace h := bif_f hc h
    refine Tr.skip ?_
    refine Ct.then_tr ?_
    refine Tr.weak (Γ' := [(0, (pSl 4 cGAntenna s1_0)), (1, (pSl 4 cGAntenna s2_1)), (2, (pFn Try.prog (fun x => [(pAgg (cGAntenna x.1)), (pAgg (cGAntenna x.2))]) eq_2 (fun y => (pEq (.bool y)))))]) ⟨rfl, rfl, rfl, trivial⟩ ?_
    refine Tr.seq ?_
    refine Tr.seq ?_
    refine Tr.region ?_
    refine RegL.pure (p := (pSl 4 cGAntenna s1_0)) rfl rfl rfl (J_move rfl (Opd.tmp rfl)) ?_
    refine RegL.pure (p := (pEq (.int .i64 (s1_0.length : Int)))) rfl rfl rfl (J_len rfl Try.underlying59 (Opd.tmp rfl) rfl) ?_
    refine RegL.pure (p := (pEq (.int .i64 (0 : Int)))) rfl rfl rfl (J_move rfl Opd.con) ?_
    refine RegL.nil ?_
    refine Ct.then_tr ?_
    refine Tr.weak (Γ' := [(1, (pSl 4 cGAntenna s2_1)), (2, (pFn Try.prog (fun x => [(pAgg (cGAntenna x.1)), (pAgg (cGAntenna x.2))]) eq_2 (fun y => (pEq (.bool y))))), (15, (pSl 4 cGAntenna s1_0)), (16, (pEq (.int .i64 (s1_0.length : Int)))), (17, (pEq (.int .i64 (0 : Int))))]) ⟨rfl, rfl, rfl, rfl, rfl, trivial⟩ ?_
    refine Tr.block ?_
    refine Tr.weak (Γ' := [(1, (pSl 4 cGAntenna s2_1)), (2, (pFn Try.prog (fun x => [(pAgg (cGAntenna x.1)), (pAgg (cGAntenna x.2))]) eq_2 (fun y => (pEq (.bool y))))), (15, (pSl 4 cGAntenna s1_0)), (16, (pEq (.int .i64 (s1_0.length : Int)))), (17, (pEq (.int .i64 (0 : Int))))]) ⟨rfl, rfl, rfl, rfl, rfl, trivial⟩ ?_
    refine Tr.loop (γ := Unit) (σ := Int) (Γσ := fun s g => [(1, (pSl 4 cGAntenna s2_1)), (2, (pFn Try.prog (fun x => [(pAgg (cGAntenna x.1)), (pAgg (cGAntenna x.2))]) eq_2 (fun y => (pEq (.bool y))))), (15, (pSl 4 cGAntenna s1_0)), (16, (pEq (.int .i64 (s1_0.length : Int)))), (17, (pEq (.int .i64 s)))]) (Ωσ := fun s g => []) (g := ()) h ?_
    clear h
    rintro v2 g3 t h
    replace h : m_slices_EqualFunc_impl_Antenna_impl_Antenna_impl_Antenna_impl_Antenna_B1 s1_0 s2_1 eq_2 v2 = some t := h
    unfold m_slices_EqualFunc_impl_Antenna_impl_Antenna_impl_Antenna_impl_Antenna_B1 at h
    refine Tr.weakO (Γ' := [(1, (pSl 4 cGAntenna s2_1)), (2, (pFn Try.prog (fun x => [(pAgg (cGAntenna x.1)), (pAgg (cGAntenna x.2))]) eq_2 (fun y => (pEq (.bool y))))), (15, (pSl 4 cGAntenna s1_0)), (16, (pEq (.int .i64 (s1_0.length : Int)))), (17, (pEq (.int .i64 v2)))]) (Ω' := []) rfl ⟨rfl, rfl, rfl, rfl, rfl, trivial⟩ ?_
    refine Tr.seq ?_
    refine Tr.region ?_
    refine RegL.pure (p := (pEq (.bool (decide (v2 < (s1_0.length : Int)))))) rfl rfl rfl (J_bin rfl (Opd.tmp rfl) (Opd.tmp rfl) B_lss) ?_
    refine RegL.nil ?_
    refine Ct.then_tr ?_
    refine Tr.weak (Γ' := [(1, (pSl 4 cGAntenna s2_1)), (2, (pFn Try.prog (fun x => [(pAgg (cGAntenna x.1)), (pAgg (cGAntenna x.2))]) eq_2 (fun y => (pEq (.bool y))))), (15, (pSl 4 cGAntenna s1_0)), (16, (pEq (.int .i64 (s1_0.length : Int)))), (17, (pEq (.int .i64 v2))), (18, (pEq (.bool (decide (v2 < (s1_0.length : Int))))))]) ⟨rfl, rfl, rfl, rfl, rfl, rfl, trivial⟩ ?_
    refine Tr.seq ?_
    refine Tr.cond (Opd.tmp rfl) (fun hc => ?_) (fun hc => ?_)
    · replace h := bif_t hc h
      refine Tr.skip ?_
      refine Ct.then_tr ?_
      refine Tr.weak (Γ' := [(1, (pSl 4 cGAntenna s2_1)), (2, (pFn Try.prog (fun x => [(pAgg (cGAntenna x.1)), (pAgg (cGAntenna x.2))]) eq_2 (fun y => (pEq (.bool y))))), (15, (pSl 4 cGAntenna s1_0)), (16, (pEq (.int .i64 (s1_0.length : Int)))), (17, (pEq (.int .i64 v2)))]) ⟨rfl, rfl, rfl, rfl, rfl, trivial⟩ ?_
      refine Tr.seq ?_
      refine Tr.block ?_
      refine Tr.seq ?_
      refine Tr.region ?_
      refine RegL.pure (p := (pEq (.int .i64 v2))) rfl rfl rfl (J_move rfl (Opd.tmp rfl)) ?_
      replace h := bind_some h; obtain ⟨x4, hx4, h⟩ := h
      refine RegL.pure (p := (pPtr (cGAntenna x4))) rfl rfl rfl (J_idx rfl Try.underlying59 sz92 (Opd.tmp rfl) (Opd.tmp rfl) hx4) ?_
      refine RegL.pure (p := (pAgg (cGAntenna x4))) rfl rfl rfl (J_loadA rfl Try.isAgg92 sz92 (Opd.tmp rfl) rfl) ?_
      refine RegL.step (γ := Nat) (p := fun b => pEq (.pointer (some ⟨b, 0, none⟩))) (Ω' := fun b => [oBlk b [(pEq (.string ByteArray.empty)), (pEq (.int .i64 (0 : Int))), (pEq (.slice none 0 0)), (pEq (.slice none 0 0))]]) rfl rfl rfl (M_alloc rfl zero92) fun b5 => ?_
      refine RegL.pure (p := (pEq (.int .i64 v2))) rfl rfl rfl (J_assign rfl (Opd.tmp rfl)) ?_
      refine RegL.stepN (γ := Unit) (p := fun _ => pAny) (Ω' := fun _ => [oBlk b5 [(pEq (.string x4.Name)), (pEq (.int .i64 x4.Gain)), (pSl 1 (cK .i64) x4.Horizontal), (pSl 1 (cK .i64) x4.Vertical)]]) rfl rfl (M_storeA rfl sz92 (Opd.tmp rfl) (Opd.tmp rfl) (fun _ _ _ h => ones_of ((OneCs.cons OneC.str (OneCs.cons OneC.int (OneCs.cons OneC.sl (OneCs.cons OneC.sl OneCs.nil))))) h) rfl rfl) fun g6 => ?_
      refine RegL.freeze (s := 8) rfl ?_
      refine RegL.nil ?_
      refine Ct.then_tr ?_
      refine Tr.weak (Γ' := [(1, (pSl 4 cGAntenna s2_1)), (2, (pFn Try.prog (fun x => [(pAgg (cGAntenna x.1)), (pAgg (cGAntenna x.2))]) eq_2 (fun y => (pEq (.bool y))))), (7, (pEq (.int .i64 v2))), (8, (pPtr (cGAntenna x4))), (15, (pSl 4 cGAntenna s1_0)), (16, (pEq (.int .i64 (s1_0.length : Int)))), (17, (pEq (.int .i64 v2)))]) ⟨rfl, rfl, rfl, rfl, rfl, rfl, rfl, trivial⟩ ?_
      refine Tr.seq ?_
      refine Tr.region ?_
      refine RegL.pure (p := (pSl 4 cGAntenna s2_1)) rfl rfl rfl (J_move rfl (Opd.tmp rfl)) ?_
      refine RegL.pure (p := (pEq (.int .i64 v2))) rfl rfl rfl (J_move rfl (Opd.tmp rfl)) ?_
      replace h := bind_some h; obtain ⟨x7, hx7, h⟩ := h
      refine RegL.pure (p := (pPtr (cGAntenna x7))) rfl rfl rfl (J_idx rfl Try.underlying59 sz92 (Opd.tmp rfl) (Opd.tmp rfl) hx7) ?_
      refine RegL.pure (p := (pAgg (cGAntenna x7))) rfl rfl rfl (J_loadA rfl Try.isAgg92 sz92 (Opd.tmp rfl) rfl) ?_
      refine RegL.step (γ := Nat) (p := fun b => pEq (.pointer (some ⟨b, 0, none⟩))) (Ω' := fun b => [oBlk b [(pEq (.string ByteArray.empty)), (pEq (.int .i64 (0 : Int))), (pEq (.slice none 0 0)), (pEq (.slice none 0 0))]]) rfl rfl rfl (M_alloc rfl zero92) fun b8 => ?_
      refine RegL.stepN (γ := Unit) (p := fun _ => pAny) (Ω' := fun _ => [oBlk b8 [(pEq (.string x7.Name)), (pEq (.int .i64 x7.Gain)), (pSl 1 (cK .i64) x7.Horizontal), (pSl 1 (cK .i64) x7.Vertical)]]) rfl rfl (M_storeA rfl sz92 (Opd.tmp rfl) (Opd.tmp rfl) (fun _ _ _ h => ones_of ((OneCs.cons OneC.str (OneCs.cons OneC.int (OneCs.cons OneC.sl (OneCs.cons OneC.sl OneCs.nil))))) h) rfl rfl) fun g9 => ?_
      refine RegL.freeze (s := 9) rfl ?_
      refine RegL.nil ?_
      refine Ct.then_tr ?_
      refine Tr.weak (Γ' := [(1, (pSl 4 cGAntenna s2_1)), (2, (pFn Try.prog (fun x => [(pAgg (cGAntenna x.1)), (pAgg (cGAntenna x.2))]) eq_2 (fun y => (pEq (.bool y))))), (8, (pPtr (cGAntenna x4))), (9, (pPtr (cGAntenna x7))), (15, (pSl 4 cGAntenna s1_0)), (16, (pEq (.int .i64 (s1_0.length : Int)))), (17, (pEq (.int .i64 v2)))]) ⟨rfl, rfl, rfl, rfl, rfl, rfl, rfl, trivial⟩ ?_
      refine Tr.seq ?_
      refine Tr.region ?_
      refine RegL.pure (p := (pFn Try.prog (fun x => [(pAgg (cGAntenna x.1)), (pAgg (cGAntenna x.2))]) eq_2 (fun y => (pEq (.bool y))))) rfl rfl rfl (J_move rfl (Opd.tmp rfl)) ?_
      refine RegL.pure (p := (pAgg (cGAntenna x4))) rfl rfl rfl (J_loadA rfl Try.isAgg92 sz92 (Opd.tmp rfl) rfl) ?_
      refine RegL.pure (p := (pAgg (cGAntenna x7))) rfl rfl rfl (J_loadA rfl Try.isAgg92 sz92 (Opd.tmp rfl) rfl) ?_
      replace h := bind_some h; obtain ⟨x10, hx10, h⟩ := h
      refine RegL.pure (p := (pEq (.bool x10))) rfl rfl rfl (J_callv (x := (x4, x7)) rfl (Opd.tmp rfl) rfl (Opds.cons (Opd.tmp rfl) (Opds.cons (Opd.tmp rfl) Opds.nil)) hx10 rfl) ?_
      refine RegL.pure (p := (pEq (.bool (!x10)))) rfl rfl rfl (J_not rfl (Opd.tmp rfl)) ?_
      refine RegL.nil ?_
      refine Ct.then_tr ?_
      refine Tr.weak (Γ' := [(1, (pSl 4 cGAntenna s2_1)), (2, (pFn Try.prog (fun x => [(pAgg (cGAntenna x.1)), (pAgg (cGAntenna x.2))]) eq_2 (fun y => (pEq (.bool y))))), (15, (pSl 4 cGAntenna s1_0)), (16, (pEq (.int .i64 (s1_0.length : Int)))), (17, (pEq (.int .i64 v2))), (30, (pEq (.bool (!x10))))]) ⟨rfl, rfl, rfl, rfl, rfl, rfl, trivial⟩ ?_
      refine Tr.cond (Opd.tmp rfl) (fun hc => ?_) (fun hc => ?_)
      · replace h := bif_t hc h
        refine Tr.seq ?_
        refine Tr.region ?_
        refine RegL.pure (p := (pEq (.bool false))) rfl rfl rfl (J_assign rfl Opd.con) ?_
        refine RegL.nil ?_
        refine Ct.then_tr ?_
        refine Tr.weak (Γ' := [(6, (pEq (.bool false)))]) ⟨rfl, trivial⟩ ?_
        refine Tr.ret ?_
        refine Ct.blk_ret ?_
        refine Ct.then_ret ?_
        replace h := map_some h; obtain ⟨r1, h, rfl⟩ := h
        refine Ct.out_ret fun e => ?_
        subst e
        refine Ct.blk_ret ?_
        refine Ct.then_ret ?_
        replace h := Option.some.inj h; subst h
        exact Ct.retH1 (Ωx := []) () rfl (RvOk.tmp rfl) rfl
      · replace h := bif_f hc h
        refine Tr.skip ?_
        refine Ct.blk_normal ?_
        refine Ct.then_tr ?_
        refine Tr.weak (Γ' := [(1, (pSl 4 cGAntenna s2_1)), (2, (pFn Try.prog (fun x => [(pAgg (cGAntenna x.1)), (pAgg (cGAntenna x.2))]) eq_2 (fun y => (pEq (.bool y))))), (15, (pSl 4 cGAntenna s1_0)), (16, (pEq (.int .i64 (s1_0.length : Int)))), (17, (pEq (.int .i64 v2)))]) ⟨rfl, rfl, rfl, rfl, rfl, trivial⟩ ?_
        refine Tr.region ?_
        refine RegL.pure (p := (pEq (.int .i64 (w64 (v2 + (1 : Int)))))) rfl rfl rfl (J_bin rfl (Opd.tmp rfl) Opd.con B_add) ?_
        refine RegL.pure (p := (pEq (.int .i64 (w64 (v2 + (1 : Int)))))) rfl rfl rfl (J_move rfl (Opd.tmp rfl)) ?_
        refine RegL.nil ?_
        replace h := Option.some.inj h; subst h
        exact Ct.again () rfl ⟨rfl, rfl, rfl, rfl, rfl, trivial⟩
    · replace h := bif_f hc h
      refine Tr.exit ?_
      refine Ct.then_exit ?_
      replace h := map_some h; obtain ⟨r1, h, rfl⟩ := h
      refine Ct.out_exit fun e => ?_
      subst e
      refine Ct.blk_exit ?_
      refine Ct.then_tr ?_
      refine Tr.weak (Γ' := []) trivial ?_
      refine Tr.seq ?_
      refine Tr.region ?_
      refine RegL.pure (p := (pEq (.bool true))) rfl rfl rfl (J_assign rfl Opd.con) ?_
      refine RegL.nil ?_
      refine Ct.then_tr ?_
      refine Tr.weak (Γ' := [(6, (pEq (.bool true)))]) ⟨rfl, trivial⟩ ?_
      refine Tr.ret ?_
      replace h := Option.some.inj h; subst h
      exact Ct.retH1 (Ωx := []) () rfl (RvOk.tmp rfl) rfl

theorem c_slices_Equal_int64_int64 {s1_0 : (List Int)} {s2_1 : (List Int)} {r : Bool} (h : m_slices_Equal_int64_int64 s1_0 s2_1 = some r) : CallJ Try.prog 113 [(pSl 1 (cK .i64) s1_0), (pSl 1 (cK .i64) s2_1)] (pEq (.bool r)) := by
  unfold m_slices_Equal_int64_int64 at h
  refine CallJ.enterH Try.func113 rfl Try.ntmps113 rfl fun W I0 H => ?_
  refine Tr.weak (Γ' := [(0, (pSl 1 (cK .i64) s1_0)), (1, (pSl 1 (cK .i64) s2_1))]) ⟨rfl, rfl, trivial⟩ ?_
  refine Tr.seq ?_
  refine Tr.region ?_
  refine RegL.pure (p := (pEq (.bool false))) rfl rfl rfl (J_assign rfl Opd.con) ?_
  refine RegL.nil ?_
  refine Ct.then_tr ?_
  refine Tr.weak (Γ' := [(0, (pSl 1 (cK .i64) s1_0)), (1, (pSl 1 (cK .i64) s2_1))]) ⟨rfl, rfl, trivial⟩ ?_
  refine Tr.seq ?_
  refine Tr.seq ?_
  refine Tr.region ?_
  refine RegL.pure (p := (pSl 1 (cK .i64) s1_0)) rfl rfl rfl (J_move rfl (Opd.tmp rfl)) ?_
  refine RegL.pure (p := (pEq (.int .i64 (s1_0.length : Int)))) rfl rfl rfl (J_len rfl Try.underlying23 (Opd.tmp rfl) rfl) ?_
  refine RegL.pure (p := (pSl 1 (cK .i64) s2_1)) rfl rfl rfl (J_move rfl (Opd.tmp rfl)) ?_
  refine RegL.pure (p := (pEq (.int .i64 (s2_1.length : Int)))) rfl rfl rfl (J_len rfl Try.underlying23 (Opd.tmp rfl) rfl) ?_
  refine RegL.pure (p := (pEq (.bool ((s1_0.length : Int) != (s2_1.length : Int))))) rfl rfl rfl (J_bin rfl (Opd.tmp rfl) (Opd.tmp rfl) B_neq) ?_
  refine RegL.nil ?_
  refine Ct.then_tr ?_
  refine Tr.weak (Γ' := [(0, (pSl 1 (cK .i64) s1_0)), (1, (pSl 1 (cK .i64) s2_1)), (10, (pEq (.bool ((s1_0.length : Int) != (s2_1.length : Int)))))]) ⟨rfl, rfl, rfl, trivial⟩ ?_
  refine Tr.cond (Opd.tmp rfl) (fun hc => ?_) (fun hc => ?_)
  · replace h := bif_t hc h
    refine Tr.seq ?_
    refine Tr.region ?_
    refine RegL.pure (p := (pEq (.bool false))) rfl rfl rfl (J_assign rfl Opd.con) ?_
    refine RegL.nil ?_
    refine Ct.then_tr ?_
    refine Tr.weak (Γ' := [(4, (pEq (.bool false)))]) ⟨rfl, trivial⟩ ?_
    refine Tr.ret ?_
    refine Ct.then_ret ?_
    replace h := Option.some.inj h; subst h
    exact Ct.retH1 (Ωx := []) () rfl (RvOk.tmp rfl) rfl
  · replace h := bif_f hc h
    refine Tr.skip ?_
    refine Ct.then_tr ?_
    refine Tr.weak (Γ' := [(0, (pSl 1 (cK .i64) s1_0)), (1, (pSl 1 (cK .i64) s2_1))]) ⟨rfl, rfl, trivial⟩ ?_
    refine Tr.seq ?_
    refine Tr.seq ?_
    refine Tr.region ?_
    refine RegL.pure (p := (pSl 1 (cK .i64) s1_0)) rfl rfl rfl (J_move rfl (Opd.tmp rfl)) ?_
    refine RegL.pure (p := (pEq (.int .i64 (s1_0.length : Int)))) rfl rfl rfl (J_len rfl Try.underlying23 (Opd.tmp rfl) rfl) ?_
    refine RegL.pure (p := (pEq (.int .i64 (0 : Int)))) rfl rfl rfl (J_move rfl Opd.con) ?_
    refine RegL.nil ?_
    refine Ct.then_tr ?_
    refine Tr.weak (Γ' := [(0, (pSl 1 (cK .i64) s1_0)), (1, (pSl 1 (cK .i64) s2_1)), (12, (pEq (.int .i64 (s1_0.length : Int)))), (13, (pEq (.int .i64 (0 : Int))))]) ⟨rfl, rfl, rfl, rfl, trivial⟩ ?_
    refine Tr.block ?_
    refine Tr.weak (Γ' := [(0, (pSl 1 (cK .i64) s1_0)), (1, (pSl 1 (cK .i64) s2_1)), (12, (pEq (.int .i64 (s1_0.length : Int)))), (13, (pEq (.int .i64 (0 : Int))))]) ⟨rfl, rfl, rfl, rfl, trivial⟩ ?_
    refine Tr.loop (γ := Unit) (σ := Int) (Γσ := fun s g => [(0, (pSl 1 (cK .i64) s1_0)), (1, (pSl 1 (cK .i64) s2_1)), (12, (pEq (.int .i64 (s1_0.length : Int)))), (13, (pEq (.int .i64 s)))]) (Ωσ := fun s g => []) (g := ()) h ?_
    clear h
    rintro v2 g3 t h
    replace h : m_slices_Equal_int64_int64_B1 s1_0 s2_1 v2 = some t := h
    unfold m_slices_Equal_int64_int64_B1 at h
    refine Tr.weakO (Γ' := [(0, (pSl 1 (cK .i64) s1_0)), (1, (pSl 1 (cK .i64) s2_1)), (12, (pEq (.int .i64 (s1_0.length : Int)))), (13, (pEq (.int .i64 v2)))]) (Ω' := []) rfl ⟨rfl, rfl, rfl, rfl, trivial⟩ ?_
    refine Tr.seq ?_
    refine Tr.region ?_
    refine RegL.pure (p := (pEq (.bool (decide (v2 < (s1_0.length : Int)))))) rfl rfl rfl (J_bin rfl (Opd.tmp rfl) (Opd.tmp rfl) B_lss) ?_
    refine RegL.nil ?_
    refine Ct.then_tr ?_
    refine Tr.weak (Γ' := [(0, (pSl 1 (cK .i64) s1_0)), (1, (pSl 1 (cK .i64) s2_1)), (12, (pEq (.int .i64 (s1_0.length : Int)))), (13, (pEq (.int .i64 v2))), (14, (pEq (.bool (decide (v2 < (s1_0.length : Int))))))]) ⟨rfl, rfl, rfl, rfl, rfl, trivial⟩ ?_
    refine Tr.seq ?_
    refine Tr.cond (Opd.tmp rfl) (fun hc => ?_) (fun hc => ?_)
    · replace h := bif_t hc h
      refine Tr.skip ?_
      refine Ct.then_tr ?_
      refine Tr.weak (Γ' := [(0, (pSl 1 (cK .i64) s1_0)), (1, (pSl 1 (cK .i64) s2_1)), (12, (pEq (.int .i64 (s1_0.length : Int)))), (13, (pEq (.int .i64 v2)))]) ⟨rfl, rfl, rfl, rfl, trivial⟩ ?_
      refine Tr.seq ?_
      refine Tr.block ?_
      refine Tr.seq ?_
      refine Tr.region ?_
      refine RegL.pure (p := (pEq (.int .i64 v2))) rfl rfl rfl (J_move rfl (Opd.tmp rfl)) ?_
      refine RegL.pure (p := (pEq (.int .i64 v2))) rfl rfl rfl (J_assign rfl (Opd.tmp rfl)) ?_
      refine RegL.nil ?_
      refine Ct.then_tr ?_
      refine Tr.weak (Γ' := [(0, (pSl 1 (cK .i64) s1_0)), (1, (pSl 1 (cK .i64) s2_1)), (5, (pEq (.int .i64 v2))), (12, (pEq (.int .i64 (s1_0.length : Int)))), (13, (pEq (.int .i64 v2)))]) ⟨rfl, rfl, rfl, rfl, rfl, trivial⟩ ?_
      refine Tr.seq ?_
      replace h := bind_some h; obtain ⟨x4, hx4, h⟩ := h
      replace h := bind_some h; obtain ⟨x5, hx5, h⟩ := h
      refine Tr.drawD (n := 26) (m := 9) (es := [some (Ent.mk [(0, (pSl 1 (cK .i64) s1_0))] (pSl 1 (cK .i64) s1_0) true), some (Ent.mk [(5, (pEq (.int .i64 v2)))] (pEq (.int .i64 v2)) true), some (Ent.mk [(16, (pSl 1 (cK .i64) s1_0)), (17, (pEq (.int .i64 v2)))] (pPtr ((cK .i64) x4)) true), some (Ent.mk [(18, (pPtr ((cK .i64) x4)))] (pEq (.int .i64 x4)) true), some (Ent.mk [(1, (pSl 1 (cK .i64) s2_1))] (pSl 1 (cK .i64) s2_1) true), some (Ent.mk [(5, (pEq (.int .i64 v2)))] (pEq (.int .i64 v2)) true), some (Ent.mk [(20, (pSl 1 (cK .i64) s2_1)), (21, (pEq (.int .i64 v2)))] (pPtr ((cK .i64) x5)) true), some (Ent.mk [(22, (pPtr ((cK .i64) x5)))] (pEq (.int .i64 x5)) true), some (Ent.mk [(19, (pEq (.int .i64 x4))), (23, (pEq (.int .i64 x5)))] (pEq (.bool (x4 != x5))) true)]) (rd := [[0], [5], [16, 17], [18], [1], [5], [20, 21], [22], [19, 23]]) rfl hmix (by kernel_rfl) fun hD => ?_
      refine RD.fin (es := [Ent.mk [(0, (pSl 1 (cK .i64) s1_0))] (pSl 1 (cK .i64) s1_0) true, Ent.mk [(5, (pEq (.int .i64 v2)))] (pEq (.int .i64 v2)) true, Ent.mk [(16, (pSl 1 (cK .i64) s1_0)), (17, (pEq (.int .i64 v2)))] (pPtr ((cK .i64) x4)) true, Ent.mk [(18, (pPtr ((cK .i64) x4)))] (pEq (.int .i64 x4)) true, Ent.mk [(1, (pSl 1 (cK .i64) s2_1))] (pSl 1 (cK .i64) s2_1) true, Ent.mk [(5, (pEq (.int .i64 v2)))] (pEq (.int .i64 v2)) true, Ent.mk [(20, (pSl 1 (cK .i64) s2_1)), (21, (pEq (.int .i64 v2)))] (pPtr ((cK .i64) x5)) true, Ent.mk [(22, (pPtr ((cK .i64) x5)))] (pEq (.int .i64 x5)) true, Ent.mk [(19, (pEq (.int .i64 x4))), (23, (pEq (.int .i64 x5)))] (pEq (.bool (x4 != x5))) true]) (done := []) hD ⟨.inr ⟨(OpJ.w (J_move rfl (Opd.tmp rfl))), ⟨rfl, trivial⟩, rfl, rfl⟩, ⟨.inr ⟨(OpJ.w (J_move rfl (Opd.tmp rfl))), ⟨rfl, trivial⟩, rfl, rfl⟩, ⟨.inr ⟨(OpJ.w (J_idx rfl Try.underlying23 sz2 (Opd.tmp rfl) (Opd.tmp rfl) hx4)), ⟨rfl, rfl, trivial⟩, rfl, rfl⟩, ⟨.inr ⟨(OpJ.w (J_load rfl Try.isAgg2 (Opd.tmp rfl))), ⟨rfl, trivial⟩, rfl, rfl⟩, ⟨.inr ⟨(OpJ.w (J_move rfl (Opd.tmp rfl))), ⟨rfl, trivial⟩, rfl, rfl⟩, ⟨.inr ⟨(OpJ.w (J_move rfl (Opd.tmp rfl))), ⟨rfl, trivial⟩, rfl, rfl⟩, ⟨.inr ⟨(OpJ.w (J_idx rfl Try.underlying23 sz2 (Opd.tmp rfl) (Opd.tmp rfl) hx5)), ⟨rfl, rfl, trivial⟩, rfl, rfl⟩, ⟨.inr ⟨(OpJ.w (J_load rfl Try.isAgg2 (Opd.tmp rfl))), ⟨rfl, trivial⟩, rfl, rfl⟩, ⟨.inr ⟨(OpJ.w (J_bin rfl (Opd.tmp rfl) (Opd.tmp rfl) B_neq)), ⟨rfl, rfl, trivial⟩, rfl, rfl⟩, trivial⟩⟩⟩⟩⟩⟩⟩⟩⟩ ?_
      refine RegL.nil ?_
      refine Ct.then_tr ?_
      refine Tr.weak (Γ' := [(0, (pSl 1 (cK .i64) s1_0)), (1, (pSl 1 (cK .i64) s2_1)), (12, (pEq (.int .i64 (s1_0.length : Int)))), (13, (pEq (.int .i64 v2))), (24, (pEq (.bool (x4 != x5))))]) ⟨rfl, rfl, rfl, rfl, rfl, trivial⟩ ?_
      refine Tr.cond (Opd.tmp rfl) (fun hc => ?_) (fun hc => ?_)
      · replace h := bif_t hc h
        refine Tr.seq ?_
        refine Tr.region ?_
        refine RegL.pure (p := (pEq (.bool false))) rfl rfl rfl (J_assign rfl Opd.con) ?_
        refine RegL.nil ?_
        refine Ct.then_tr ?_
        refine Tr.weak (Γ' := [(4, (pEq (.bool false)))]) ⟨rfl, trivial⟩ ?_
        refine Tr.ret ?_
        refine Ct.blk_ret ?_
        refine Ct.then_ret ?_
        replace h := map_some h; obtain ⟨r1, h, rfl⟩ := h
        refine Ct.out_ret fun e => ?_
        subst e
        refine Ct.blk_ret ?_
        refine Ct.then_ret ?_
        replace h := Option.some.inj h; subst h
        exact Ct.retH1 (Ωx := []) () rfl (RvOk.tmp rfl) rfl
      · replace h := bif_f hc h
        refine Tr.skip ?_
        refine Ct.blk_normal ?_
        refine Ct.then_tr ?_
        refine Tr.weak (Γ' := [(0, (pSl 1 (cK .i64) s1_0)), (1, (pSl 1 (cK .i64) s2_1)), (12, (pEq (.int .i64 (s1_0.length : Int)))), (13, (pEq (.int .i64 v2)))]) ⟨rfl, rfl, rfl, rfl, trivial⟩ ?_
        refine Tr.region ?_
        refine RegL.pure (p := (pEq (.int .i64 (w64 (v2 + (1 : Int)))))) rfl rfl rfl (J_bin rfl (Opd.tmp rfl) Opd.con B_add) ?_
        refine RegL.pure (p := (pEq (.int .i64 (w64 (v2 + (1 : Int)))))) rfl rfl rfl (J_move rfl (Opd.tmp rfl)) ?_
        refine RegL.nil ?_
        replace h := Option.some.inj h; subst h
        exact Ct.again () rfl ⟨rfl, rfl, rfl, rfl, trivial⟩
    · replace h := bif_f hc h
      refine Tr.exit ?_
      refine Ct.then_exit ?_
      replace h := map_some h; obtain ⟨r1, h, rfl⟩ := h
      refine Ct.out_exit fun e => ?_
      subst e
      refine Ct.blk_exit ?_
      refine Ct.then_tr ?_
      refine Tr.weak (Γ' := []) trivial ?_
      refine Tr.seq ?_
      refine Tr.region ?_
      refine RegL.pure (p := (pEq (.bool true))) rfl rfl rfl (J_assign rfl Opd.con) ?_
      refine RegL.nil ?_
      refine Ct.then_tr ?_
      refine Tr.weak (Γ' := [(4, (pEq (.bool true)))]) ⟨rfl, trivial⟩ ?_
      refine Tr.ret ?_
      replace h := Option.some.inj h; subst h
      exact Ct.retH1 (Ωx := []) () rfl (RvOk.tmp rfl) rfl

theorem c_impl_SameAntenna {a_0 : GAntenna} {b_1 : GAntenna} {r : Bool} (h : m_impl_SameAntenna a_0 b_1 = some r) : CallJ Try.prog 74 [(pAgg (cGAntenna a_0)), (pAgg (cGAntenna b_1))] (pEq (.bool r)) := by
  unfold m_impl_SameAntenna at h
  refine CallJ.enterH Try.func74 rfl Try.ntmps74 rfl fun W I0 H => ?_
  refine Tr.weak (Γ' := [(0, (pAgg (cGAntenna a_0))), (1, (pAgg (cGAntenna b_1)))]) ⟨rfl, rfl, trivial⟩ ?_
  refine Tr.seq ?_
  refine Tr.region ?_
  refine RegL.pure (p := (pPtr (cGAntenna a_0))) rfl rfl rfl (J_boxA rfl (Opd.tmp rfl)) ?_
  refine RegL.pure (p := (pPtr (cGAntenna b_1))) rfl rfl rfl (J_boxA rfl (Opd.tmp rfl)) ?_
  refine RegL.pure (p := (pEq (.bool false))) rfl rfl rfl (J_assign rfl Opd.con) ?_
  refine RegL.nil ?_
  refine Ct.then_tr ?_
  refine Tr.weak (Γ' := [(2, (pPtr (cGAntenna a_0))), (3, (pPtr (cGAntenna b_1)))]) ⟨rfl, rfl, trivial⟩ ?_
  refine Tr.seq ?_
  replace h := bind_some h; obtain ⟨x1, hx1, h⟩ := h
  refine Tr.cut (γ := Unit) (Γm := fun g => [(4, (pEq (.bool x1)))]) (Ωm := fun g => []) ?_ (fun g7 => ?_)
  · clear h
    have h := hx1
    clear hx1
    refine Tr.region ?_
    refine RegL.pure (p := (pPtr (cS a_0.Name))) rfl rfl rfl (J_fieldAddr rfl Try.underlying92 rfl sz9 (by decide) (Opd.tmp rfl) rfl) ?_
    refine RegL.pure (p := (pEq (.string a_0.Name))) rfl rfl rfl (J_load rfl Try.isAgg9 (Opd.tmp rfl)) ?_
    refine RegL.pure (p := (pPtr (cS b_1.Name))) rfl rfl rfl (J_fieldAddr rfl Try.underlying92 rfl sz9 (by decide) (Opd.tmp rfl) rfl) ?_
    refine RegL.pure (p := (pEq (.string b_1.Name))) rfl rfl rfl (J_load rfl Try.isAgg9 (Opd.tmp rfl)) ?_
    refine RegL.pure (p := (pEq (.bool (a_0.Name.toList == b_1.Name.toList)))) rfl rfl rfl (J_bin rfl (Opd.tmp rfl) (Opd.tmp rfl) B_seql) ?_
    refine RegL.pure (p := (pEq (.bool (a_0.Name.toList == b_1.Name.toList)))) rfl rfl rfl (J_move rfl (Opd.tmp rfl)) ?_
    rcases Bool.eq_false_or_eq_true (a_0.Name.toList == b_1.Name.toList) with hc2 | hc2
    · replace h := bif_t hc2 h
      refine RegL.pureG (p := (pPtr ((cK .i64) a_0.Gain))) rfl rfl rfl hc2 rfl rfl (J_fieldAddr rfl Try.underlying92 rfl sz2 (by decide) (Opd.tmp rfl) rfl) ?_
      refine RegL.pureG (p := (pEq (.int .i64 a_0.Gain))) rfl rfl rfl hc2 rfl rfl (J_load rfl Try.isAgg2 (Opd.tmp rfl)) ?_
      refine RegL.pureG (p := (pPtr ((cK .i64) b_1.Gain))) rfl rfl rfl hc2 rfl rfl (J_fieldAddr rfl Try.underlying92 rfl sz2 (by decide) (Opd.tmp rfl) rfl) ?_
      refine RegL.pureG (p := (pEq (.int .i64 b_1.Gain))) rfl rfl rfl hc2 rfl rfl (J_load rfl Try.isAgg2 (Opd.tmp rfl)) ?_
      refine RegL.pureG (p := (pEq (.bool (a_0.Gain == b_1.Gain)))) rfl rfl rfl hc2 rfl rfl (J_bin rfl (Opd.tmp rfl) (Opd.tmp rfl) B_eql) ?_
      refine RegL.pure (p := (pEq (.bool (a_0.Gain == b_1.Gain)))) rfl rfl rfl (J_pick rfl (Opd.tmp rfl) (fun _ => (Opd.tmp rfl)) (fun hf => absurd (hc2.symm.trans hf) (by decide))) ?_
      refine RegL.pure (p := (pEq (.bool (a_0.Gain == b_1.Gain)))) rfl rfl rfl (J_move rfl (Opd.tmp rfl)) ?_
      rcases Bool.eq_false_or_eq_true (a_0.Gain == b_1.Gain) with hc3 | hc3
      · replace h := bif_t hc3 h
        refine RegL.pureG (p := (pPtr ((cSl 1 (cK .i64)) a_0.Horizontal))) rfl rfl rfl hc3 rfl rfl (J_fieldAddr rfl Try.underlying92 rfl sz23 (by decide) (Opd.tmp rfl) rfl) ?_
        refine RegL.pureG (p := (pSl 1 (cK .i64) a_0.Horizontal)) rfl rfl rfl hc3 rfl rfl (J_load rfl Try.isAgg23 (Opd.tmp rfl)) ?_
        refine RegL.pureG (p := (pPtr ((cSl 1 (cK .i64)) b_1.Horizontal))) rfl rfl rfl hc3 rfl rfl (J_fieldAddr rfl Try.underlying92 rfl sz23 (by decide) (Opd.tmp rfl) rfl) ?_
        refine RegL.pureG (p := (pSl 1 (cK .i64) b_1.Horizontal)) rfl rfl rfl hc3 rfl rfl (J_load rfl Try.isAgg23 (Opd.tmp rfl)) ?_
        replace h := bind_some h; obtain ⟨x4, hx4, h⟩ := h
        refine RegL.pureG (p := (pEq (.bool x4))) rfl rfl rfl hc3 rfl rfl (J_call rfl Try.call113 (c_slices_Equal_int64_int64 hx4) (Opds.cons (Opd.tmp rfl) (Opds.cons (Opd.tmp rfl) Opds.nil))) ?_
        refine RegL.pure (p := (pEq (.bool x4))) rfl rfl rfl (J_pick rfl (Opd.tmp rfl) (fun _ => (Opd.tmp rfl)) (fun hf => absurd (hc3.symm.trans hf) (by decide))) ?_
        refine RegL.pure (p := (pEq (.bool x4))) rfl rfl rfl (J_move rfl (Opd.tmp rfl)) ?_
        rcases Bool.eq_false_or_eq_true x4 with hc5 | hc5
        · replace h := bif_t hc5 h
          refine RegL.pureG (p := (pPtr ((cSl 1 (cK .i64)) a_0.Vertical))) rfl rfl rfl hc5 rfl rfl (J_fieldAddr rfl Try.underlying92 rfl sz23 (by decide) (Opd.tmp rfl) rfl) ?_
          refine RegL.pureG (p := (pSl 1 (cK .i64) a_0.Vertical)) rfl rfl rfl hc5 rfl rfl (J_load rfl Try.isAgg23 (Opd.tmp rfl)) ?_
          refine RegL.pureG (p := (pPtr ((cSl 1 (cK .i64)) b_1.Vertical))) rfl rfl rfl hc5 rfl rfl (J_fieldAddr rfl Try.underlying92 rfl sz23 (by decide) (Opd.tmp rfl) rfl) ?_
          refine RegL.pureG (p := (pSl 1 (cK .i64) b_1.Vertical)) rfl rfl rfl hc5 rfl rfl (J_load rfl Try.isAgg23 (Opd.tmp rfl)) ?_
          replace h := bind_some h; obtain ⟨x6, hx6, h⟩ := h
          refine RegL.pureG (p := (pEq (.bool x6))) rfl rfl rfl hc5 rfl rfl (J_call rfl Try.call113 (c_slices_Equal_int64_int64 hx6) (Opds.cons (Opd.tmp rfl) (Opds.cons (Opd.tmp rfl) Opds.nil))) ?_
          refine RegL.pure (p := (pEq (.bool x6))) rfl rfl rfl (J_pick rfl (Opd.tmp rfl) (fun _ => (Opd.tmp rfl)) (fun hf => absurd (hc5.symm.trans hf) (by decide))) ?_
          refine RegL.pure (p := (pEq (.bool x6))) rfl rfl rfl (J_assign rfl (Opd.tmp rfl)) ?_
          refine RegL.nil ?_
          replace h := Option.some.inj h; subst h
          exact Ct.mid () rfl ⟨rfl, trivial⟩
        · replace h := bif_f hc5 h
          refine RegL.skipG rfl rfl rfl hc5 rfl rfl ?_
          refine RegL.skipG rfl rfl rfl hc5 rfl rfl ?_
          refine RegL.skipG rfl rfl rfl hc5 rfl rfl ?_
          refine RegL.skipG rfl rfl rfl hc5 rfl rfl ?_
          refine RegL.skipG rfl rfl rfl hc5 rfl rfl ?_
          refine RegL.pure (p := (pEq (.bool false))) rfl rfl rfl (J_pick rfl (Opd.tmp rfl) (fun hf => absurd (hc5.symm.trans hf) (by decide)) (fun _ => Opd.con)) ?_
          refine RegL.pure (p := (pEq (.bool false))) rfl rfl rfl (J_assign rfl (Opd.tmp rfl)) ?_
          refine RegL.nil ?_
          replace h := Option.some.inj h; subst h
          exact Ct.mid () rfl ⟨rfl, trivial⟩
      · replace h := bif_f hc3 h
        refine RegL.skipG rfl rfl rfl hc3 rfl rfl ?_
        refine RegL.skipG rfl rfl rfl hc3 rfl rfl ?_
        refine RegL.skipG rfl rfl rfl hc3 rfl rfl ?_
        refine RegL.skipG rfl rfl rfl hc3 rfl rfl ?_
        refine RegL.skipG rfl rfl rfl hc3 rfl rfl ?_
        refine RegL.pure (p := (pEq (.bool false))) rfl rfl rfl (J_pick rfl (Opd.tmp rfl) (fun hf => absurd (hc3.symm.trans hf) (by decide)) (fun _ => Opd.con)) ?_
        refine RegL.pure (p := (pEq (.bool false))) rfl rfl rfl (J_move rfl (Opd.tmp rfl)) ?_
        refine RegL.skipG rfl rfl rfl rfl rfl rfl ?_
        refine RegL.skipG rfl rfl rfl rfl rfl rfl ?_
        refine RegL.skipG rfl rfl rfl rfl rfl rfl ?_
        refine RegL.skipG rfl rfl rfl rfl rfl rfl ?_
        refine RegL.skipG rfl rfl rfl rfl rfl rfl ?_
        refine RegL.pure (p := (pEq (.bool false))) rfl rfl rfl (J_pick rfl (Opd.tmp rfl) (fun hf => absurd hf (by decide)) (fun _ => Opd.con)) ?_
        refine RegL.pure (p := (pEq (.bool false))) rfl rfl rfl (J_assign rfl (Opd.tmp rfl)) ?_
        refine RegL.nil ?_
        replace h := Option.some.inj h; subst h
        exact Ct.mid () rfl ⟨rfl, trivial⟩
    · replace h := bif_f hc2 h
      refine RegL.skipG rfl rfl rfl hc2 rfl rfl ?_
      refine RegL.skipG rfl rfl rfl hc2 rfl rfl ?_
      refine RegL.skipG rfl rfl rfl hc2 rfl rfl ?_
      refine RegL.skipG rfl rfl rfl hc2 rfl rfl ?_
      refine RegL.skipG rfl rfl rfl hc2 rfl rfl ?_
      refine RegL.pure (p := (pEq (.bool false))) rfl rfl rfl (J_pick rfl (Opd.tmp rfl) (fun hf => absurd (hc2.symm.trans hf) (by decide)) (fun _ => Opd.con)) ?_
      refine RegL.pure (p := (pEq (.bool false))) rfl rfl rfl (J_move rfl (Opd.tmp rfl)) ?_
      refine RegL.skipG rfl rfl rfl rfl rfl rfl ?_
      refine RegL.skipG rfl rfl rfl rfl rfl rfl ?_
      refine RegL.skipG rfl rfl rfl rfl rfl rfl ?_
      refine RegL.skipG rfl rfl rfl rfl rfl rfl ?_
      refine RegL.skipG rfl rfl rfl rfl rfl rfl ?_
      refine RegL.pure (p := (pEq (.bool false))) rfl rfl rfl (J_pick rfl (Opd.tmp rfl) (fun hf => absurd hf (by decide)) (fun _ => Opd.con)) ?_
      refine RegL.pure (p := (pEq (.bool false))) rfl rfl rfl (J_move rfl (Opd.tmp rfl)) ?_
      refine RegL.skipG rfl rfl rfl rfl rfl rfl ?_
      refine RegL.skipG rfl rfl rfl rfl rfl rfl ?_
      refine RegL.skipG rfl rfl rfl rfl rfl rfl ?_
      refine RegL.skipG rfl rfl rfl rfl rfl rfl ?_
      refine RegL.skipG rfl rfl rfl rfl rfl rfl ?_
      refine RegL.pure (p := (pEq (.bool false))) rfl rfl rfl (J_pick rfl (Opd.tmp rfl) (fun hf => absurd hf (by decide)) (fun _ => Opd.con)) ?_
      refine RegL.pure (p := (pEq (.bool false))) rfl rfl rfl (J_assign rfl (Opd.tmp rfl)) ?_
      refine RegL.nil ?_
      replace h := Option.some.inj h; subst h
      exact Ct.mid () rfl ⟨rfl, trivial⟩
  · clear hx1
    refine Ct.then_tr ?_
    refine Tr.weak (Γ' := [(4, (pEq (.bool x1)))]) ⟨rfl, trivial⟩ ?_
    refine Tr.ret ?_
    replace h := Option.some.inj h; subst h
    exact Ct.retH1 (Ωx := []) () rfl (RvOk.tmp rfl) rfl

theorem c_slices_EqualFunc_impl_Radio_impl_Radio_impl_Radio_impl_Radio {s1_0 : (List GRadio)} {s2_1 : (List GRadio)} {eq_2 : ((GRadio × GRadio) → Option Bool)} {r : Bool} (h : m_slices_EqualFunc_impl_Radio_impl_Radio_impl_Radio_impl_Radio s1_0 s2_1 eq_2 = some r) : CallJ Try.prog 75 [(pSl 6 cGRadio s1_0), (pSl 6 cGRadio s2_1), (pFn Try.prog (fun x => [(pAgg (cGRadio x.1)), (pAgg (cGRadio x.2))]) eq_2 (fun y => (pEq (.bool y))))] (pEq (.bool r)) := by
  unfold m_slices_EqualFunc_impl_Radio_impl_Radio_impl_Radio_impl_Radio at h
  refine CallJ.enterH Try.func75 rfl Try.ntmps75 rfl fun W I0 H => ?_
  refine Tr.weak (Γ' := [(0, (pSl 6 cGRadio s1_0)), (1, (pSl 6 cGRadio s2_1)), (2, (pFn Try.prog (fun x => [(pAgg (cGRadio x.1)), (pAgg (cGRadio x.2))]) eq_2 (fun y => (pEq (.bool y)))))]) ⟨rfl, rfl, rfl, trivial⟩ ?_
  refine Tr.seq ?_
  refine Tr.region ?_
  refine RegL.pure (p := (pEq (.bool false))) rfl rfl rfl (J_assign rfl Opd.con) ?_
  refine RegL.nil ?_
  refine Ct.then_tr ?_
  refine Tr.weak (Γ' := [(0, (pSl 6 cGRadio s1_0)), (1, (pSl 6 cGRadio s2_1)), (2, (pFn Try.prog (fun x => [(pAgg (cGRadio x.1)), (pAgg (cGRadio x.2))]) eq_2 (fun y => (pEq (.bool y)))))]) ⟨rfl, rfl, rfl, trivial⟩ ?_
  refine Tr.seq ?_
  refine Tr.seq ?_
  refine Tr.region ?_
  refine RegL.pure (p := (pSl 6 cGRadio s1_0)) rfl rfl rfl (J_move rfl (Opd.tmp rfl)) ?_
  refine RegL.pure (p := (pEq (.int .i64 (s1_0.length : Int)))) rfl rfl rfl (J_len rfl Try.underlying60 (Opd.tmp rfl) rfl) ?_
  refine RegL.pure (p := (pSl 6 cGRadio s2_1)) rfl rfl rfl (J_move rfl (Opd.tmp rfl)) ?_
  refine RegL.pure (p := (pEq (.int .i64 (s2_1.length : Int)))) rfl rfl rfl (J_len rfl Try.underlying60 (Opd.tmp rfl) rfl) ?_
  refine RegL.pure (p := (pEq (.bool ((s1_0.length : Int) != (s2_1.length : Int))))) rfl rfl rfl (J_bin rfl (Opd.tmp rfl) (Opd.tmp rfl) B_neq) ?_
  refine RegL.nil ?_
  refine Ct.then_tr ?_
  refine Tr.weak (Γ' := [(0, (pSl 6 cGRadio s1_0)), (1, (pSl 6 cGRadio s2_1)), (2, (pFn Try.prog (fun x => [(pAgg (cGRadio x.1)), (pAgg (cGRadio x.2))]) eq_2 (fun y => (pEq (.bool y))))), (14, (pEq (.bool ((s1_0.length : Int) != (s2_1.length : Int)))))]) ⟨rfl, rfl, rfl, rfl, trivial⟩ ?_
  refine Tr.cond (Opd.tmp rfl) (fun hc => ?_) (fun hc => ?_)
  · replace h := bif_t hc h
    refine Tr.seq ?_
    refine Tr.region ?_
    refine RegL.pure (p := (pEq (.bool false))) rfl rfl rfl (J_assign rfl Opd.con) ?_
    refine RegL.nil ?_
    refine Ct.then_tr ?_
    refine Tr.weak (Γ' := [(6, (pEq (.bool false)))]) ⟨rfl, trivial⟩ ?_
    refine Tr.ret ?_
    refine Ct.then_ret ?_
    replace h := Option.some.inj h; subst h
    exact Ct.retH1 (Ωx := []) () rfl (RvOk.tmp rfl) rfl
  · replace h := bif_f hc h
    refine Tr.skip ?_
    refine Ct.then_tr ?_
    refine Tr.weak (Γ' := [(0, (pSl 6 cGRadio s1_0)), (1, (pSl 6 cGRadio s2_1)), (2, (pFn Try.prog (fun x => [(pAgg (cGRadio x.1)), (pAgg (cGRadio x.2))]) eq_2 (fun y => (pEq (.bool y)))))]) ⟨rfl, rfl, rfl, trivial⟩ ?_
    refine Tr.seq ?_
    refine Tr.seq ?_
    refine Tr.region ?_
    refine RegL.pure (p := (pSl 6 cGRadio s1_0)) rfl rfl rfl (J_move rfl (Opd.tmp rfl)) ?_
    refine RegL.pure (p := (pEq (.int .i64 (s1_0.length : Int)))) rfl rfl rfl (J_len rfl Try.underlying60 (Opd.tmp rfl) rfl) ?_
    refine RegL.pure (p := (pEq (.int .i64 (0 : Int)))) rfl rfl rfl (J_move rfl Opd.con) ?_
    refine RegL.nil ?_
    refine Ct.then_tr ?_
    refine Tr.weak (Γ' := [(1, (pSl 6 cGRadio s2_1)), (2, (pFn Try.prog (fun x => [(pAgg (cGRadio x.1)), (pAgg (cGRadio x.2))]) eq_2 (fun y => (pEq (.bool y))))), (15, (pSl 6 cGRadio s1_0)), (16, (pEq (.int .i64 (s1_0.length : Int)))), (17, (pEq (.int .i64 (0 : Int))))]) ⟨rfl, rfl, rfl, rfl, rfl, trivial⟩ ?_
    refine Tr.block ?_
    refine Tr.weak (Γ' := [(1, (pSl 6 cGRadio s2_1)), (2, (pFn Try.prog (fun x => [(pAgg (cGRadio x.1)), (pAgg (cGRadio x.2))]) eq_2 (fun y => (pEq (.bool y))))), (15, (pSl 6 cGRadio s1_0)), (16, (pEq (.int .i64 (s1_0.length : Int)))), (17, (pEq (.int .i64 (0 : Int))))]) ⟨rfl, rfl, rfl, rfl, rfl, trivial⟩ ?_
    refine Tr.loop (γ := Unit) (σ := Int) (Γσ := fun s g => [(1, (pSl 6 cGRadio s2_1)), (2, (pFn Try.prog (fun x => [(pAgg (cGRadio x.1)), (pAgg (cGRadio x.2))]) eq_2 (fun y => (pEq (.bool y))))), (15, (pSl 6 cGRadio s1_0)), (16, (pEq (.int .i64 (s1_0.length : Int)))), (17, (pEq (.int .i64 s)))]) (Ωσ := fun s g => []) (g := ()) h ?_
    clear h
    rintro v2 g3 t h
    replace h : m_slices_EqualFunc_impl_Radio_impl_Radio_impl_Radio_impl_Radio_B1 s1_0 s2_1 eq_2 v2 = some t := h
    unfold m_slices_EqualFunc_impl_Radio_impl_Radio_impl_Radio_impl_Radio_B1 at h
    refine Tr.weakO (Γ' := [(1, (pSl 6 cGRadio s2_1)), (2, (pFn Try.prog (fun x => [(pAgg (cGRadio x.1)), (pAgg (cGRadio x.2))]) eq_2 (fun y => (pEq (.bool y))))), (15, (pSl 6 cGRadio s1_0)), (16, (pEq (.int .i64 (s1_0.length : Int)))), (17, (pEq (.int .i64 v2)))]) (Ω' := []) rfl ⟨rfl, rfl, rfl, rfl, rfl, trivial⟩ ?_
    refine Tr.seq ?_
    refine Tr.region ?_
    refine RegL.pure (p := (pEq (.bool (decide (v2 < (s1_0.length : Int)))))) rfl rfl rfl (J_bin rfl (Opd.tmp rfl) (Opd.tmp rfl) B_lss) ?_
    refine RegL.nil ?_
    refine Ct.then_tr ?_
    refine Tr.weak (Γ' := [(1, (pSl 6 cGRadio s2_1)), (2, (pFn Try.prog (fun x => [(pAgg (cGRadio x.1)), (pAgg (cGRadio x.2))]) eq_2 (fun y => (pEq (.bool y))))), (15, (pSl 6 cGRadio s1_0)), (16, (pEq (.int .i64 (s1_0.length : Int)))), (17, (pEq (.int .i64 v2))), (18, (pEq (.bool (decide (v2 < (s1_0.length : Int))))))]) ⟨rfl, rfl, rfl, rfl, rfl, rfl, trivial⟩ ?_
    refine Tr.seq ?_
    refine Tr.cond (Opd.tmp rfl) (fun hc => ?_) (fun hc => ?_)
    · replace h := bif_t hc h
      refine Tr.skip ?_
      refine Ct.then_tr ?_
      refine Tr.weak (Γ' := [(1, (pSl 6 cGRadio s2_1)), (2, (pFn Try.prog (fun x => [(pAgg (cGRadio x.1)), (pAgg (cGRadio x.2))]) eq_2 (fun y => (pEq (.bool y))))), (15, (pSl 6 cGRadio s1_0)), (16, (pEq (.int .i64 (s1_0.length : Int)))), (17, (pEq (.int .i64 v2)))]) ⟨rfl, rfl, rfl, rfl, rfl, trivial⟩ ?_
      refine Tr.seq ?_
      refine Tr.block ?_
      refine Tr.seq ?_
      refine Tr.region ?_
      refine RegL.pure (p := (pEq (.int .i64 v2))) rfl rfl rfl (J_move rfl (Opd.tmp rfl)) ?_
      replace h := bind_some h; obtain ⟨x4, hx4, h⟩ := h
      refine RegL.pure (p := (pPtr (cGRadio x4))) rfl rfl rfl (J_idx rfl Try.underlying60 sz96 (Opd.tmp rfl) (Opd.tmp rfl) hx4) ?_
      refine RegL.pure (p := (pAgg (cGRadio x4))) rfl rfl rfl (J_loadA rfl Try.isAgg96 sz96 (Opd.tmp rfl) rfl) ?_
      refine RegL.step (γ := Nat) (p := fun b => pEq (.pointer (some ⟨b, 0, none⟩))) (Ω' := fun b => [oBlk b [(pEq (.string ByteArray.empty)), (pEq (.int .i64 (0 : Int))), (pEq (.int .i64 (0 : Int))), (pEq (.int .i64 (0 : Int))), (pEq (.int .i64 (0 : Int))), (pEq (.slice none 0 0))]]) rfl rfl rfl (M_alloc rfl zero96) fun b5 => ?_
      refine RegL.pure (p := (pEq (.int .i64 v2))) rfl rfl rfl (J_assign rfl (Opd.tmp rfl)) ?_
      refine RegL.stepN (γ := Unit) (p := fun _ => pAny) (Ω' := fun _ => [oBlk b5 [(pEq (.string x4.Name)), (pEq (.int .i64 x4.Power)), (pEq (.int .i64 x4.Feeder)), (pEq (.int .i64 x4.Noise)), (pEq (.int .i64 x4.Width)), (pSl 2 cGMode x4.Modes)]]) rfl rfl (M_storeA rfl sz96 (Opd.tmp rfl) (Opd.tmp rfl) (fun _ _ _ h => ones_of ((OneCs.cons OneC.str (OneCs.cons OneC.int (OneCs.cons OneC.int (OneCs.cons OneC.int (OneCs.cons OneC.int (OneCs.cons OneC.sl OneCs.nil))))))) h) rfl rfl) fun g6 => ?_
      refine RegL.freeze (s := 8) rfl ?_
      refine RegL.nil ?_
      refine Ct.then_tr ?_
      refine Tr.weak (Γ' := [(1, (pSl 6 cGRadio s2_1)), (2, (pFn Try.prog (fun x => [(pAgg (cGRadio x.1)), (pAgg (cGRadio x.2))]) eq_2 (fun y => (pEq (.bool y))))), (7, (pEq (.int .i64 v2))), (8, (pPtr (cGRadio x4))), (15, (pSl 6 cGRadio s1_0)), (16, (pEq (.int .i64 (s1_0.length : Int)))), (17, (pEq (.int .i64 v2)))]) ⟨rfl, rfl, rfl, rfl, rfl, rfl, rfl, trivial⟩ ?_
      refine Tr.seq ?_
      refine Tr.region ?_
      refine RegL.pure (p := (pSl 6 cGRadio s2_1)) rfl rfl rfl (J_move rfl (Opd.tmp rfl)) ?_
      refine RegL.pure (p := (pEq (.int .i64 v2))) rfl rfl rfl (J_move rfl (Opd.tmp rfl)) ?_
      replace h := bind_some h; obtain ⟨x7, hx7, h⟩ := h
      refine RegL.pure (p := (pPtr (cGRadio x7))) rfl rfl rfl (J_idx rfl Try.underlying60 sz96 (Opd.tmp rfl) (Opd.tmp rfl) hx7) ?_
      refine RegL.pure (p := (pAgg (cGRadio x7))) rfl rfl rfl (J_loadA rfl Try.isAgg96 sz96 (Opd.tmp rfl) rfl) ?_
      refine RegL.step (γ := Nat) (p := fun b => pEq (.pointer (some ⟨b, 0, none⟩))) (Ω' := fun b => [oBlk b [(pEq (.string ByteArray.empty)), (pEq (.int .i64 (0 : Int))), (pEq (.int .i64 (0 : Int))), (pEq (.int .i64 (0 : Int))), (pEq (.int .i64 (0 : Int))), (pEq (.slice none 0 0))]]) rfl rfl rfl (M_alloc rfl zero96) fun b8 => ?_
      refine RegL.stepN (γ := Unit) (p := fun _ => pAny) (Ω' := fun _ => [oBlk b8 [(pEq (.string x7.Name)), (pEq (.int .i64 x7.Power)), (pEq (.int .i64 x7.Feeder)), (pEq (.int .i64 x7.Noise)), (pEq (.int .i64 x7.Width)), (pSl 2 cGMode x7.Modes)]]) rfl rfl (M_storeA rfl sz96 (Opd.tmp rfl) (Opd.tmp rfl) (fun _ _ _ h => ones_of ((OneCs.cons OneC.str (OneCs.cons OneC.int (OneCs.cons OneC.int (OneCs.cons OneC.int (OneCs.cons OneC.int (OneCs.cons OneC.sl OneCs.nil))))))) h) rfl rfl) fun g9 => ?_
      refine RegL.freeze (s := 9) rfl ?_
      refine RegL.nil ?_
      refine Ct.then_tr ?_
      refine Tr.weak (Γ' := [(1, (pSl 6 cGRadio s2_1)), (2, (pFn Try.prog (fun x => [(pAgg (cGRadio x.1)), (pAgg (cGRadio x.2))]) eq_2 (fun y => (pEq (.bool y))))), (8, (pPtr (cGRadio x4))), (9, (pPtr (cGRadio x7))), (15, (pSl 6 cGRadio s1_0)), (16, (pEq (.int .i64 (s1_0.length : Int)))), (17, (pEq (.int .i64 v2)))]) ⟨rfl, rfl, rfl, rfl, rfl, rfl, rfl, trivial⟩ ?_
      refine Tr.seq ?_
      refine Tr.region ?_
      refine RegL.pure (p := (pFn Try.prog (fun x => [(pAgg (cGRadio x.1)), (pAgg (cGRadio x.2))]) eq_2 (fun y => (pEq (.bool y))))) rfl rfl rfl (J_move rfl (Opd.tmp rfl)) ?_
      refine RegL.pure (p := (pAgg (cGRadio x4))) rfl rfl rfl (J_loadA rfl Try.isAgg96 sz96 (Opd.tmp rfl) rfl) ?_
      refine RegL.pure (p := (pAgg (cGRadio x7))) rfl rfl rfl (J_loadA rfl Try.isAgg96 sz96 (Opd.tmp rfl) rfl) ?_
      replace h := bind_some h; obtain ⟨x10, hx10, h⟩ := h
      refine RegL.pure (p := (pEq (.bool x10))) rfl rfl rfl (J_callv (x := (x4, x7)) rfl (Opd.tmp rfl) rfl (Opds.cons (Opd.tmp rfl) (Opds.cons (Opd.tmp rfl) Opds.nil)) hx10 rfl) ?_
      refine RegL.pure (p := (pEq (.bool (!x10)))) rfl rfl rfl (J_not rfl (Opd.tmp rfl)) ?_
      refine RegL.nil ?_
      refine Ct.then_tr ?_
      refine Tr.weak (Γ' := [(1, (pSl 6 cGRadio s2_1)), (2, (pFn Try.prog (fun x => [(pAgg (cGRadio x.1)), (pAgg (cGRadio x.2))]) eq_2 (fun y => (pEq (.bool y))))), (15, (pSl 6 cGRadio s1_0)), (16, (pEq (.int .i64 (s1_0.length : Int)))), (17, (pEq (.int .i64 v2))), (30, (pEq (.bool (!x10))))]) ⟨rfl, rfl, rfl, rfl, rfl, rfl, trivial⟩ ?_
      refine Tr.cond (Opd.tmp rfl) (fun hc => ?_) (fun hc => ?_)
      · replace h := bif_t hc h
        refine Tr.seq ?_
        refine Tr.region ?_
        refine RegL.pure (p := (pEq (.bool false))) rfl rfl rfl (J_assign rfl Opd.con) ?_
        refine RegL.nil ?_
        refine Ct.then_tr ?_
        refine Tr.weak (Γ' := [(6, (pEq (.bool false)))]) ⟨rfl, trivial⟩ ?_
        refine Tr.ret ?_
        refine Ct.blk_ret ?_
        refine Ct.then_ret ?_
        replace h := map_some h; obtain ⟨r1, h, rfl⟩ := h
        refine Ct.out_ret fun e => ?_
        subst e
        refine Ct.blk_ret ?_
        refine Ct.then_ret ?_
        replace h := Option.some.inj h; subst h
        exact Ct.retH1 (Ωx := []) () rfl (RvOk.tmp rfl) rfl
      · replace h := bif_f hc h
        refine Tr.skip ?_
        refine Ct.blk_normal ?_
        refine Ct.then_tr ?_
        refine Tr.weak (Γ' := [(1, (pSl 6 cGRadio s2_1)), (2, (pFn Try.prog (fun x => [(pAgg (cGRadio x.1)), (pAgg (cGRadio x.2))]) eq_2 (fun y => (pEq (.bool y))))), (15, (pSl 6 cGRadio s1_0)), (16, (pEq (.int .i64 (s1_0.length : Int)))), (17, (pEq (.int .i64 v2)))]) ⟨rfl, rfl, rfl, rfl, rfl, trivial⟩ ?_
        refine Tr.region ?_
        refine RegL.pure (p := (pEq (.int .i64 (w64 (v2 + (1 : Int)))))) rfl rfl rfl (J_bin rfl (Opd.tmp rfl) Opd.con B_add) ?_
        refine RegL.pure (p := (pEq (.int .i64 (w64 (v2 + (1 : Int)))))) rfl rfl rfl (J_move rfl (Opd.tmp rfl)) ?_
        refine RegL.nil ?_
        replace h := Option.some.inj h; subst h
        exact Ct.again () rfl ⟨rfl, rfl, rfl, rfl, rfl, trivial⟩
    · replace h := bif_f hc h
      refine Tr.exit ?_
      refine Ct.then_exit ?_
      replace h := map_some h; obtain ⟨r1, h, rfl⟩ := h
      refine Ct.out_exit fun e => ?_
      subst e
      refine Ct.blk_exit ?_
      refine Ct.then_tr ?_
      refine Tr.weak (Γ' := []) trivial ?_
      refine Tr.seq ?_
      refine Tr.region ?_
      refine RegL.pure (p := (pEq (.bool true))) rfl rfl rfl (J_assign rfl Opd.con) ?_
      refine RegL.nil ?_
      refine Ct.then_tr ?_
      refine Tr.weak (Γ' := [(6, (pEq (.bool true)))]) ⟨rfl, trivial⟩ ?_
      refine Tr.ret ?_
      replace h := Option.some.inj h; subst h
      exact Ct.retH1 (Ωx := []) () rfl (RvOk.tmp rfl) rfl

theorem c_slices_Equal_impl_Mode_impl_Mode {s1_0 : (List GMode)} {s2_1 : (List GMode)} {r : Bool} (h : m_slices_Equal_impl_Mode_impl_Mode s1_0 s2_1 = some r) : CallJ Try.prog 114 [(pSl 2 cGMode s1_0), (pSl 2 cGMode s2_1)] (pEq (.bool r)) := by
  unfold m_slices_Equal_impl_Mode_impl_Mode at h
  refine CallJ.enterH Try.func114 rfl Try.ntmps114 rfl fun W I0 H => ?_
  refine Tr.weak (Γ' := [(0, (pSl 2 cGMode s1_0)), (1, (pSl 2 cGMode s2_1))]) ⟨rfl, rfl, trivial⟩ ?_
  refine Tr.seq ?_
  refine Tr.region ?_
  refine RegL.pure (p := (pEq (.bool false))) rfl rfl rfl (J_assign rfl Opd.con) ?_
  refine RegL.nil ?_
  refine Ct.then_tr ?_
  refine Tr.weak (Γ' := [(0, (pSl 2 cGMode s1_0)), (1, (pSl 2 cGMode s2_1))]) ⟨rfl, rfl, trivial⟩ ?_
  refine Tr.seq ?_
  refine Tr.seq ?_
  refine Tr.region ?_
  refine RegL.pure (p := (pSl 2 cGMode s1_0)) rfl rfl rfl (J_move rfl (Opd.tmp rfl)) ?_
  refine RegL.pure (p := (pEq (.int .i64 (s1_0.length : Int)))) rfl rfl rfl (J_len rfl Try.underlying94 (Opd.tmp rfl) rfl) ?_
  refine RegL.pure (p := (pSl 2 cGMode s2_1)) rfl rfl rfl (J_move rfl (Opd.tmp rfl)) ?_
  refine RegL.pure (p := (pEq (.int .i64 (s2_1.length : Int)))) rfl rfl rfl (J_len rfl Try.underlying94 (Opd.tmp rfl) rfl) ?_
  refine RegL.pure (p := (pEq (.bool ((s1_0.length : Int) != (s2_1.length : Int))))) rfl rfl rfl (J_bin rfl (Opd.tmp rfl) (Opd.tmp rfl) B_neq) ?_
  refine RegL.nil ?_
  refine Ct.then_tr ?_
  refine Tr.weak (Γ' := [(0, (pSl 2 cGMode s1_0)), (1, (pSl 2 cGMode s2_1)), (10, (pEq (.bool ((s1_0.length : Int) != (s2_1.length : Int)))))]) ⟨rfl, rfl, rfl, trivial⟩ ?_
  refine Tr.cond (Opd.tmp rfl) (fun hc => ?_) (fun hc => ?_)
  · replace h := bif_t hc h
    refine Tr.seq ?_
    refine Tr.region ?_
    refine RegL.pure (p := (pEq (.bool false))) rfl rfl rfl (J_assign rfl Opd.con) ?_
    refine RegL.nil ?_
    refine Ct.then_tr ?_
    refine Tr.weak (Γ' := [(4, (pEq (.bool false)))]) ⟨rfl, trivial⟩ ?_
    refine Tr.ret ?_
    refine Ct.then_ret ?_
    replace h := Option.some.inj h; subst h
    exact Ct.retH1 (Ωx := []) () rfl (RvOk.tmp rfl) rfl
  · replace h := bif_f hc h
    refine Tr.skip ?_
    refine Ct.then_tr ?_
    refine Tr.weak (Γ' := [(0, (pSl 2 cGMode s1_0)), (1, (pSl 2 cGMode s2_1))]) ⟨rfl, rfl, trivial⟩ ?_
    refine Tr.seq ?_
    refine Tr.seq ?_
    refine Tr.region ?_
    refine RegL.pure (p := (pSl 2 cGMode s1_0)) rfl rfl rfl (J_move rfl (Opd.tmp rfl)) ?_
    refine RegL.pure (p := (pEq (.int .i64 (s1_0.length : Int)))) rfl rfl rfl (J_len rfl Try.underlying94 (Opd.tmp rfl) rfl) ?_
    refine RegL.pure (p := (pEq (.int .i64 (0 : Int)))) rfl rfl rfl (J_move rfl Opd.con) ?_
    refine RegL.nil ?_
    refine Ct.then_tr ?_
    refine Tr.weak (Γ' := [(0, (pSl 2 cGMode s1_0)), (1, (pSl 2 cGMode s2_1)), (12, (pEq (.int .i64 (s1_0.length : Int)))), (13, (pEq (.int .i64 (0 : Int))))]) ⟨rfl, rfl, rfl, rfl, trivial⟩ ?_
    refine Tr.block ?_
    refine Tr.weak (Γ' := [(0, (pSl 2 cGMode s1_0)), (1, (pSl 2 cGMode s2_1)), (12, (pEq (.int .i64 (s1_0.length : Int)))), (13, (pEq (.int .i64 (0 : Int))))]) ⟨rfl, rfl, rfl, rfl, trivial⟩ ?_
    refine Tr.loop (γ := Unit) (σ := Int) (Γσ := fun s g => [(0, (pSl 2 cGMode s1_0)), (1, (pSl 2 cGMode s2_1)), (12, (pEq (.int .i64 (s1_0.length : Int)))), (13, (pEq (.int .i64 s)))]) (Ωσ := fun s g => []) (g := ()) h ?_
    clear h
    rintro v2 g3 t h
    replace h : m_slices_Equal_impl_Mode_impl_Mode_B1 s1_0 s2_1 v2 = some t := h
    unfold m_slices_Equal_impl_Mode_impl_Mode_B1 at h
    refine Tr.weakO (Γ' := [(0, (pSl 2 cGMode s1_0)), (1, (pSl 2 cGMode s2_1)), (12, (pEq (.int .i64 (s1_0.length : Int)))), (13, (pEq (.int .i64 v2)))]) (Ω' := []) rfl ⟨rfl, rfl, rfl, rfl, trivial⟩ ?_
    refine Tr.seq ?_
    refine Tr.region ?_
    refine RegL.pure (p := (pEq (.bool (decide (v2 < (s1_0.length : Int)))))) rfl rfl rfl (J_bin rfl (Opd.tmp rfl) (Opd.tmp rfl) B_lss) ?_
    refine RegL.nil ?_
    refine Ct.then_tr ?_
    refine Tr.weak (Γ' := [(0, (pSl 2 cGMode s1_0)), (1, (pSl 2 cGMode s2_1)), (12, (pEq (.int .i64 (s1_0.length : Int)))), (13, (pEq (.int .i64 v2))), (14, (pEq (.bool (decide (v2 < (s1_0.length : Int))))))]) ⟨rfl, rfl, rfl, rfl, rfl, trivial⟩ ?_
    refine Tr.seq ?_
    refine Tr.cond (Opd.tmp rfl) (fun hc => ?_) (fun hc => ?_)
    · replace h := bif_t hc h
      refine Tr.skip ?_
      refine Ct.then_tr ?_
      refine Tr.weak (Γ' := [(0, (pSl 2 cGMode s1_0)), (1, (pSl 2 cGMode s2_1)), (12, (pEq (.int .i64 (s1_0.length : Int)))), (13, (pEq (.int .i64 v2)))]) ⟨rfl, rfl, rfl, rfl, trivial⟩ ?_
      refine Tr.seq ?_
      refine Tr.block ?_
      refine Tr.seq ?_
      refine Tr.region ?_
      refine RegL.pure (p := (pEq (.int .i64 v2))) rfl rfl rfl (J_move rfl (Opd.tmp rfl)) ?_
      refine RegL.pure (p := (pEq (.int .i64 v2))) rfl rfl rfl (J_assign rfl (Opd.tmp rfl)) ?_
      refine RegL.nil ?_
      refine Ct.then_tr ?_
      refine Tr.weak (Γ' := [(0, (pSl 2 cGMode s1_0)), (1, (pSl 2 cGMode s2_1)), (5, (pEq (.int .i64 v2))), (12, (pEq (.int .i64 (s1_0.length : Int)))), (13, (pEq (.int .i64 v2)))]) ⟨rfl, rfl, rfl, rfl, rfl, trivial⟩ ?_
      refine Tr.seq ?_
      replace h := bind_some h; obtain ⟨x4, hx4, h⟩ := h
      replace h := bind_some h; obtain ⟨x5, hx5, h⟩ := h
      refine Tr.drawD (n := 26) (m := 9) (es := [some (Ent.mk [(0, (pSl 2 cGMode s1_0))] (pSl 2 cGMode s1_0) true), some (Ent.mk [(5, (pEq (.int .i64 v2)))] (pEq (.int .i64 v2)) true), some (Ent.mk [(16, (pSl 2 cGMode s1_0)), (17, (pEq (.int .i64 v2)))] (pPtr (cGMode x4)) true), some (Ent.mk [(18, (pPtr (cGMode x4)))] (pAgg (cGMode x4)) true), some (Ent.mk [(1, (pSl 2 cGMode s2_1))] (pSl 2 cGMode s2_1) true), some (Ent.mk [(5, (pEq (.int .i64 v2)))] (pEq (.int .i64 v2)) true), some (Ent.mk [(20, (pSl 2 cGMode s2_1)), (21, (pEq (.int .i64 v2)))] (pPtr (cGMode x5)) true), some (Ent.mk [(22, (pPtr (cGMode x5)))] (pAgg (cGMode x5)) true), some (Ent.mk [(19, (pAgg (cGMode x4))), (23, (pAgg (cGMode x5)))] (pEq (.bool (!((x4.Need == x5.Need) && ((x4.Rate == x5.Rate) && true))))) true)]) (rd := [[0], [5], [16, 17], [18], [1], [5], [20, 21], [22], [19, 23]]) rfl hmix (by kernel_rfl) fun hD => ?_
      refine RD.fin (es := [Ent.mk [(0, (pSl 2 cGMode s1_0))] (pSl 2 cGMode s1_0) true, Ent.mk [(5, (pEq (.int .i64 v2)))] (pEq (.int .i64 v2)) true, Ent.mk [(16, (pSl 2 cGMode s1_0)), (17, (pEq (.int .i64 v2)))] (pPtr (cGMode x4)) true, Ent.mk [(18, (pPtr (cGMode x4)))] (pAgg (cGMode x4)) true, Ent.mk [(1, (pSl 2 cGMode s2_1))] (pSl 2 cGMode s2_1) true, Ent.mk [(5, (pEq (.int .i64 v2)))] (pEq (.int .i64 v2)) true, Ent.mk [(20, (pSl 2 cGMode s2_1)), (21, (pEq (.int .i64 v2)))] (pPtr (cGMode x5)) true, Ent.mk [(22, (pPtr (cGMode x5)))] (pAgg (cGMode x5)) true, Ent.mk [(19, (pAgg (cGMode x4))), (23, (pAgg (cGMode x5)))] (pEq (.bool (!((x4.Need == x5.Need) && ((x4.Rate == x5.Rate) && true))))) true]) (done := []) hD ⟨.inr ⟨(OpJ.w (J_move rfl (Opd.tmp rfl))), ⟨rfl, trivial⟩, rfl, rfl⟩, ⟨.inr ⟨(OpJ.w (J_move rfl (Opd.tmp rfl))), ⟨rfl, trivial⟩, rfl, rfl⟩, ⟨.inr ⟨(OpJ.w (J_idx rfl Try.underlying94 sz130 (Opd.tmp rfl) (Opd.tmp rfl) hx4)), ⟨rfl, rfl, trivial⟩, rfl, rfl⟩, ⟨.inr ⟨(OpJ.w (J_loadA rfl Try.isAgg130 sz130 (Opd.tmp rfl) rfl)), ⟨rfl, trivial⟩, rfl, rfl⟩, ⟨.inr ⟨(OpJ.w (J_move rfl (Opd.tmp rfl))), ⟨rfl, trivial⟩, rfl, rfl⟩, ⟨.inr ⟨(OpJ.w (J_move rfl (Opd.tmp rfl))), ⟨rfl, trivial⟩, rfl, rfl⟩, ⟨.inr ⟨(OpJ.w (J_idx rfl Try.underlying94 sz130 (Opd.tmp rfl) (Opd.tmp rfl) hx5)), ⟨rfl, rfl, trivial⟩, rfl, rfl⟩, ⟨.inr ⟨(OpJ.w (J_loadA rfl Try.isAgg130 sz130 (Opd.tmp rfl) rfl)), ⟨rfl, trivial⟩, rfl, rfl⟩, ⟨.inr ⟨(OpJ.w (J_steq rfl (Opd.tmp rfl) (Opd.tmp rfl) rfl rfl (stneq130 x4 x5))), ⟨rfl, rfl, trivial⟩, rfl, rfl⟩, trivial⟩⟩⟩⟩⟩⟩⟩⟩⟩ ?_
      refine RegL.nil ?_
      refine Ct.then_tr ?_
      refine Tr.weak (Γ' := [(0, (pSl 2 cGMode s1_0)), (1, (pSl 2 cGMode s2_1)), (12, (pEq (.int .i64 (s1_0.length : Int)))), (13, (pEq (.int .i64 v2))), (24, (pEq (.bool (!((x4.Need == x5.Need) && ((x4.Rate == x5.Rate) && true))))))]) ⟨rfl, rfl, rfl, rfl, rfl, trivial⟩ ?_
      refine Tr.cond (Opd.tmp rfl) (fun hc => ?_) (fun hc => ?_)
      · replace h := bif_t hc h
        refine Tr.seq ?_
        refine Tr.region ?_
        refine RegL.pure (p := (pEq (.bool false))) rfl rfl rfl (J_assign rfl Opd.con) ?_
        refine RegL.nil ?_
        refine Ct.then_tr ?_
        refine Tr.weak (Γ' := [(4, (pEq (.bool false)))]) ⟨rfl, trivial⟩ ?_
        refine Tr.ret ?_
        refine Ct.blk_ret ?_
        refine Ct.then_ret ?_
        replace h := map_some h; obtain ⟨r1, h, rfl⟩ := h
        refine Ct.out_ret fun e => ?_
        subst e
        refine Ct.blk_ret ?_
        refine Ct.then_ret ?_
        replace h := Option.some.inj h; subst h
        exact Ct.retH1 (Ωx := []) () rfl (RvOk.tmp rfl) rfl
      · replace h := bif_f hc h
        refine Tr.skip ?_
        refine Ct.blk_normal ?_
        refine Ct.then_tr ?_
        refine Tr.weak (Γ' := [(0, (pSl 2 cGMode s1_0)), (1, (pSl 2 cGMode s2_1)), (12, (pEq (.int .i64 (s1_0.length : Int)))), (13, (pEq (.int .i64 v2)))]) ⟨rfl, rfl, rfl, rfl, trivial⟩ ?_
        refine Tr.region ?_
        refine RegL.pure (p := (pEq (.int .i64 (w64 (v2 + (1 : Int)))))) rfl rfl rfl (J_bin rfl (Opd.tmp rfl) Opd.con B_add) ?_
        refine RegL.pure (p := (pEq (.int .i64 (w64 (v2 + (1 : Int)))))) rfl rfl rfl (J_move rfl (Opd.tmp rfl)) ?_
        refine RegL.nil ?_
        replace h := Option.some.inj h; subst h
        exact Ct.again () rfl ⟨rfl, rfl, rfl, rfl, trivial⟩
    · replace h := bif_f hc h
      refine Tr.exit ?_
      refine Ct.then_exit ?_
      replace h := map_some h; obtain ⟨r1, h, rfl⟩ := h
      refine Ct.out_exit fun e => ?_
      subst e
      refine Ct.blk_exit ?_
      refine Ct.then_tr ?_
      refine Tr.weak (Γ' := []) trivial ?_
      refine Tr.seq ?_
      refine Tr.region ?_
      refine RegL.pure (p := (pEq (.bool true))) rfl rfl rfl (J_assign rfl Opd.con) ?_
      refine RegL.nil ?_
      refine Ct.then_tr ?_
      refine Tr.weak (Γ' := [(4, (pEq (.bool true)))]) ⟨rfl, trivial⟩ ?_
      refine Tr.ret ?_
      replace h := Option.some.inj h; subst h
      exact Ct.retH1 (Ωx := []) () rfl (RvOk.tmp rfl) rfl

theorem c_impl_SameRadio {a_0 : GRadio} {b_1 : GRadio} {r : Bool} (h : m_impl_SameRadio a_0 b_1 = some r) : CallJ Try.prog 76 [(pAgg (cGRadio a_0)), (pAgg (cGRadio b_1))] (pEq (.bool r)) := by
  unfold m_impl_SameRadio at h
  refine CallJ.enterH Try.func76 rfl Try.ntmps76 rfl fun W I0 H => ?_
  refine Tr.weak (Γ' := [(0, (pAgg (cGRadio a_0))), (1, (pAgg (cGRadio b_1)))]) ⟨rfl, rfl, trivial⟩ ?_
  refine Tr.seq ?_
  refine Tr.region ?_
  refine RegL.pure (p := (pPtr (cGRadio a_0))) rfl rfl rfl (J_boxA rfl (Opd.tmp rfl)) ?_
  refine RegL.pure (p := (pPtr (cGRadio b_1))) rfl rfl rfl (J_boxA rfl (Opd.tmp rfl)) ?_
  refine RegL.pure (p := (pEq (.bool false))) rfl rfl rfl (J_assign rfl Opd.con) ?_
  refine RegL.nil ?_
  refine Ct.then_tr ?_
  refine Tr.weak (Γ' := [(2, (pPtr (cGRadio a_0))), (3, (pPtr (cGRadio b_1)))]) ⟨rfl, rfl, trivial⟩ ?_
  refine Tr.seq ?_
  replace h := bind_some h; obtain ⟨x1, hx1, h⟩ := h
  refine Tr.cut (γ := Unit) (Γm := fun g => [(4, (pEq (.bool x1)))]) (Ωm := fun g => []) ?_ (fun g8 => ?_)
  · clear h
    have h := hx1
    clear hx1
    refine Tr.region ?_
    refine RegL.pure (p := (pPtr (cS a_0.Name))) rfl rfl rfl (J_fieldAddr rfl Try.underlying96 rfl sz9 (by decide) (Opd.tmp rfl) rfl) ?_
    refine RegL.pure (p := (pEq (.string a_0.Name))) rfl rfl rfl (J_load rfl Try.isAgg9 (Opd.tmp rfl)) ?_
    refine RegL.pure (p := (pPtr (cS b_1.Name))) rfl rfl rfl (J_fieldAddr rfl Try.underlying96 rfl sz9 (by decide) (Opd.tmp rfl) rfl) ?_
    refine RegL.pure (p := (pEq (.string b_1.Name))) rfl rfl rfl (J_load rfl Try.isAgg9 (Opd.tmp rfl)) ?_
    refine RegL.pure (p := (pEq (.bool (a_0.Name.toList == b_1.Name.toList)))) rfl rfl rfl (J_bin rfl (Opd.tmp rfl) (Opd.tmp rfl) B_seql) ?_
    refine RegL.pure (p := (pEq (.bool (a_0.Name.toList == b_1.Name.toList)))) rfl rfl rfl (J_move rfl (Opd.tmp rfl)) ?_
    rcases Bool.eq_false_or_eq_true (a_0.Name.toList == b_1.Name.toList) with hc2 | hc2
    · replace h := bif_t hc2 h
      refine RegL.pureG (p := (pPtr ((cK .i64) a_0.Power))) rfl rfl rfl hc2 rfl rfl (J_fieldAddr rfl Try.underlying96 rfl sz2 (by decide) (Opd.tmp rfl) rfl) ?_
      refine RegL.pureG (p := (pEq (.int .i64 a_0.Power))) rfl rfl rfl hc2 rfl rfl (J_load rfl Try.isAgg2 (Opd.tmp rfl)) ?_
      refine RegL.pureG (p := (pPtr ((cK .i64) b_1.Power))) rfl rfl rfl hc2 rfl rfl (J_fieldAddr rfl Try.underlying96 rfl sz2 (by decide) (Opd.tmp rfl) rfl) ?_
      refine RegL.pureG (p := (pEq (.int .i64 b_1.Power))) rfl rfl rfl hc2 rfl rfl (J_load rfl Try.isAgg2 (Opd.tmp rfl)) ?_
      refine RegL.pureG (p := (pEq (.bool (a_0.Power == b_1.Power)))) rfl rfl rfl hc2 rfl rfl (J_bin rfl (Opd.tmp rfl) (Opd.tmp rfl) B_eql) ?_
      refine RegL.pure (p := (pEq (.bool (a_0.Power == b_1.Power)))) rfl rfl rfl (J_pick rfl (Opd.tmp rfl) (fun _ => (Opd.tmp rfl)) (fun hf => absurd (hc2.symm.trans hf) (by decide))) ?_
      refine RegL.pure (p := (pEq (.bool (a_0.Power == b_1.Power)))) rfl rfl rfl (J_move rfl (Opd.tmp rfl)) ?_
      rcases Bool.eq_false_or_eq_true (a_0.Power == b_1.Power) with hc3 | hc3
      · replace h := bif_t hc3 h
        refine RegL.pureG (p := (pPtr ((cK .i64) a_0.Feeder))) rfl rfl rfl hc3 rfl rfl (J_fieldAddr rfl Try.underlying96 rfl sz2 (by decide) (Opd.tmp rfl) rfl) ?_
        refine RegL.pureG (p := (pEq (.int .i64 a_0.Feeder))) rfl rfl rfl hc3 rfl rfl (J_load rfl Try.isAgg2 (Opd.tmp rfl)) ?_
        refine RegL.pureG (p := (pPtr ((cK .i64) b_1.Feeder))) rfl rfl rfl hc3 rfl rfl (J_fieldAddr rfl Try.underlying96 rfl sz2 (by decide) (Opd.tmp rfl) rfl) ?_
        refine RegL.pureG (p := (pEq (.int .i64 b_1.Feeder))) rfl rfl rfl hc3 rfl rfl (J_load rfl Try.isAgg2 (Opd.tmp rfl)) ?_
        refine RegL.pureG (p := (pEq (.bool (a_0.Feeder == b_1.Feeder)))) rfl rfl rfl hc3 rfl rfl (J_bin rfl (Opd.tmp rfl) (Opd.tmp rfl) B_eql) ?_
        refine RegL.pure (p := (pEq (.bool (a_0.Feeder == b_1.Feeder)))) rfl rfl rfl (J_pick rfl (Opd.tmp rfl) (fun _ => (Opd.tmp rfl)) (fun hf => absurd (hc3.symm.trans hf) (by decide))) ?_
        refine RegL.pure (p := (pEq (.bool (a_0.Feeder == b_1.Feeder)))) rfl rfl rfl (J_move rfl (Opd.tmp rfl)) ?_
        rcases Bool.eq_false_or_eq_true (a_0.Feeder == b_1.Feeder) with hc4 | hc4
        · replace h := bif_t hc4 h
          refine RegL.pureG (p := (pPtr ((cK .i64) a_0.Noise))) rfl rfl rfl hc4 rfl rfl (J_fieldAddr rfl Try.underlying96 rfl sz2 (by decide) (Opd.tmp rfl) rfl) ?_
          refine RegL.pureG (p := (pEq (.int .i64 a_0.Noise))) rfl rfl rfl hc4 rfl rfl (J_load rfl Try.isAgg2 (Opd.tmp rfl)) ?_
          refine RegL.pureG (p := (pPtr ((cK .i64) b_1.Noise))) rfl rfl rfl hc4 rfl rfl (J_fieldAddr rfl Try.underlying96 rfl sz2 (by decide) (Opd.tmp rfl) rfl) ?_
          refine RegL.pureG (p := (pEq (.int .i64 b_1.Noise))) rfl rfl rfl hc4 rfl rfl (J_load rfl Try.isAgg2 (Opd.tmp rfl)) ?_
          refine RegL.pureG (p := (pEq (.bool (a_0.Noise == b_1.Noise)))) rfl rfl rfl hc4 rfl rfl (J_bin rfl (Opd.tmp rfl) (Opd.tmp rfl) B_eql) ?_
          refine RegL.pure (p := (pEq (.bool (a_0.Noise == b_1.Noise)))) rfl rfl rfl (J_pick rfl (Opd.tmp rfl) (fun _ => (Opd.tmp rfl)) (fun hf => absurd (hc4.symm.trans hf) (by decide))) ?_
          refine RegL.pure (p := (pEq (.bool (a_0.Noise == b_1.Noise)))) rfl rfl rfl (J_move rfl (Opd.tmp rfl)) ?_
          rcases Bool.eq_false_or_eq_true (a_0.Noise == b_1.Noise) with hc5 | hc5
          · replace h := bif_t hc5 h
            refine RegL.pureG (p := (pPtr ((cK .i64) a_0.Width))) rfl rfl rfl hc5 rfl rfl (J_fieldAddr rfl Try.underlying96 rfl sz2 (by decide) (Opd.tmp rfl) rfl) ?_
            refine RegL.pureG (p := (pEq (.int .i64 a_0.Width))) rfl rfl rfl hc5 rfl rfl (J_load rfl Try.isAgg2 (Opd.tmp rfl)) ?_
            refine RegL.pureG (p := (pPtr ((cK .i64) b_1.Width))) rfl rfl rfl hc5 rfl rfl (J_fieldAddr rfl Try.underlying96 rfl sz2 (by decide) (Opd.tmp rfl) rfl) ?_
            refine RegL.pureG (p := (pEq (.int .i64 b_1.Width))) rfl rfl rfl hc5 rfl rfl (J_load rfl Try.isAgg2 (Opd.tmp rfl)) ?_
            refine RegL.pureG (p := (pEq (.bool (a_0.Width == b_1.Width)))) rfl rfl rfl hc5 rfl rfl (J_bin rfl (Opd.tmp rfl) (Opd.tmp rfl) B_eql) ?_
            refine RegL.pure (p := (pEq (.bool (a_0.Width == b_1.Width)))) rfl rfl rfl (J_pick rfl (Opd.tmp rfl) (fun _ => (Opd.tmp rfl)) (fun hf => absurd (hc5.symm.trans hf) (by decide))) ?_
            refine RegL.pure (p := (pEq (.bool (a_0.Width == b_1.Width)))) rfl rfl rfl (J_move rfl (Opd.tmp rfl)) ?_
            rcases Bool.eq_false_or_eq_true (a_0.Width == b_1.Width) with hc6 | hc6
            · replace h := bif_t hc6 h
              refine RegL.pureG (p := (pPtr ((cSl 2 cGMode) a_0.Modes))) rfl rfl rfl hc6 rfl rfl (J_fieldAddr rfl Try.underlying96 rfl sz94 (by decide) (Opd.tmp rfl) rfl) ?_
              refine RegL.pureG (p := (pSl 2 cGMode a_0.Modes)) rfl rfl rfl hc6 rfl rfl (J_load rfl Try.isAgg94 (Opd.tmp rfl)) ?_
              refine RegL.pureG (p := (pPtr ((cSl 2 cGMode) b_1.Modes))) rfl rfl rfl hc6 rfl rfl (J_fieldAddr rfl Try.underlying96 rfl sz94 (by decide) (Opd.tmp rfl) rfl) ?_
              refine RegL.pureG (p := (pSl 2 cGMode b_1.Modes)) rfl rfl rfl hc6 rfl rfl (J_load rfl Try.isAgg94 (Opd.tmp rfl)) ?_
              replace h := bind_some h; obtain ⟨x7, hx7, h⟩ := h
              refine RegL.pureG (p := (pEq (.bool x7))) rfl rfl rfl hc6 rfl rfl (J_call rfl Try.call114 (c_slices_Equal_impl_Mode_impl_Mode hx7) (Opds.cons (Opd.tmp rfl) (Opds.cons (Opd.tmp rfl) Opds.nil))) ?_
              refine RegL.pure (p := (pEq (.bool x7))) rfl rfl rfl (J_pick rfl (Opd.tmp rfl) (fun _ => (Opd.tmp rfl)) (fun hf => absurd (hc6.symm.trans hf) (by decide))) ?_
              refine RegL.pure (p := (pEq (.bool x7))) rfl rfl rfl (J_assign rfl (Opd.tmp rfl)) ?_
              refine RegL.nil ?_
              replace h := Option.some.inj h; subst h
              exact Ct.mid () rfl ⟨rfl, trivial⟩
            · replace h := bif_f hc6 h
              refine RegL.skipG rfl rfl rfl hc6 rfl rfl ?_
              refine RegL.skipG rfl rfl rfl hc6 rfl rfl ?_
              refine RegL.skipG rfl rfl rfl hc6 rfl rfl ?_
              refine RegL.skipG rfl rfl rfl hc6 rfl rfl ?_
              refine RegL.skipG rfl rfl rfl hc6 rfl rfl ?_
              refine RegL.pure (p := (pEq (.bool false))) rfl rfl rfl (J_pick rfl (Opd.tmp rfl) (fun hf => absurd (hc6.symm.trans hf) (by decide)) (fun _ => Opd.con)) ?_
              refine RegL.pure (p := (pEq (.bool false))) rfl rfl rfl (J_assign rfl (Opd.tmp rfl)) ?_
              refine RegL.nil ?_
              replace h := Option.some.inj h; subst h
              exact Ct.mid () rfl ⟨rfl, trivial⟩
          · replace h := bif_f hc5 h
            refine RegL.skipG rfl rfl rfl hc5 rfl rfl ?_
            refine RegL.skipG rfl rfl rfl hc5 rfl rfl ?_
            refine RegL.skipG rfl rfl rfl hc5 rfl rfl ?_
            refine RegL.skipG rfl rfl rfl hc5 rfl rfl ?_
            refine RegL.skipG rfl rfl rfl hc5 rfl rfl ?_
            refine RegL.pure (p := (pEq (.bool false))) rfl rfl rfl (J_pick rfl (Opd.tmp rfl) (fun hf => absurd (hc5.symm.trans hf) (by decide)) (fun _ => Opd.con)) ?_
            refine RegL.pure (p := (pEq (.bool false))) rfl rfl rfl (J_move rfl (Opd.tmp rfl)) ?_
            refine RegL.skipG rfl rfl rfl rfl rfl rfl ?_
            refine RegL.skipG rfl rfl rfl rfl rfl rfl ?_
            refine RegL.skipG rfl rfl rfl rfl rfl rfl ?_
            refine RegL.skipG rfl rfl rfl rfl rfl rfl ?_
            refine RegL.skipG rfl rfl rfl rfl rfl rfl ?_
            refine RegL.pure (p := (pEq (.bool false))) rfl rfl rfl (J_pick rfl (Opd.tmp rfl) (fun hf => absurd hf (by decide)) (fun _ => Opd.con)) ?_
            refine RegL.pure (p := (pEq (.bool false))) rfl rfl rfl (J_assign rfl (Opd.tmp rfl)) ?_
            refine RegL.nil ?_
            replace h := Option.some.inj h; subst h
            exact Ct.mid () rfl ⟨rfl, trivial⟩
        · replace h := bif_f hc4 h
          refine RegL.skipG rfl rfl rfl hc4 rfl rfl ?_
          refine RegL.skipG rfl rfl rfl hc4 rfl rfl ?_
          refine RegL.skipG rfl rfl rfl hc4 rfl rfl ?_
          refine RegL.skipG rfl rfl rfl hc4 rfl rfl ?_
          refine RegL.skipG rfl rfl rfl hc4 rfl rfl ?_
          refine RegL.pure (p := (pEq (.bool false))) rfl rfl rfl (J_pick rfl (Opd.tmp rfl) (fun hf => absurd (hc4.symm.trans hf) (by decide)) (fun _ => Opd.con)) ?_
          refine RegL.pure (p := (pEq (.bool false))) rfl rfl rfl (J_move rfl (Opd.tmp rfl)) ?_
          refine RegL.skipG rfl rfl rfl rfl rfl rfl ?_
          refine RegL.skipG rfl rfl rfl rfl rfl rfl ?_
          refine RegL.skipG rfl rfl rfl rfl rfl rfl ?_
          refine RegL.skipG rfl rfl rfl rfl rfl rfl ?_
          refine RegL.skipG rfl rfl rfl rfl rfl rfl ?_
          refine RegL.pure (p := (pEq (.bool false))) rfl rfl rfl (J_pick rfl (Opd.tmp rfl) (fun hf => absurd hf (by decide)) (fun _ => Opd.con)) ?_
          refine RegL.pure (p := (pEq (.bool false))) rfl rfl rfl (J_move rfl (Opd.tmp rfl)) ?_
          refine RegL.skipG rfl rfl rfl rfl rfl rfl ?_
          refine RegL.skipG rfl rfl rfl rfl rfl rfl ?_
          refine RegL.skipG rfl rfl rfl rfl rfl rfl ?_
          refine RegL.skipG rfl rfl rfl rfl rfl rfl ?_
          refine RegL.skipG rfl rfl rfl rfl rfl rfl ?_
          refine RegL.pure (p := (pEq (.bool false))) rfl rfl rfl (J_pick rfl (Opd.tmp rfl) (fun hf => absurd hf (by decide)) (fun _ => Opd.con)) ?_
          refine RegL.pure (p := (pEq (.bool false))) rfl rfl rfl (J_assign rfl (Opd.tmp rfl)) ?_
          refine RegL.nil ?_
          replace h := Option.some.inj h; subst h
          exact Ct.mid () rfl ⟨rfl, trivial⟩
      · replace h := bif_f hc3 h
        refine RegL.skipG rfl rfl rfl hc3 rfl rfl ?_
        refine RegL.skipG rfl rfl rfl hc3 rfl rfl ?_
        refine RegL.skipG rfl rfl rfl hc3 rfl rfl ?_
        refine RegL.skipG rfl rfl rfl hc3 rfl rfl ?_
        refine RegL.skipG rfl rfl rfl hc3 rfl rfl ?_
        refine RegL.pure (p := (pEq (.bool false))) rfl rfl rfl (J_pick rfl (Opd.tmp rfl) (fun hf => absurd (hc3.symm.trans hf) (by decide)) (fun _ => Opd.con)) ?_
        refine RegL.pure (p := (pEq (.bool false))) rfl rfl rfl (J_move rfl (Opd.tmp rfl)) ?_
        refine RegL.skipG rfl rfl rfl rfl rfl rfl ?_
        refine RegL.skipG rfl rfl rfl rfl rfl rfl ?_
        refine RegL.skipG rfl rfl rfl rfl rfl rfl ?_
        refine RegL.skipG rfl rfl rfl rfl rfl rfl ?_
        refine RegL.skipG rfl rfl rfl rfl rfl rfl ?_
        refine RegL.pure (p := (pEq (.bool false))) rfl rfl rfl (J_pick rfl (Opd.tmp rfl) (fun hf => absurd hf (by decide)) (fun _ => Opd.con)) ?_
        refine RegL.pure (p := (pEq (.bool false))) rfl rfl rfl (J_move rfl (Opd.tmp rfl)) ?_
        refine RegL.skipG rfl rfl rfl rfl rfl rfl ?_
        refine RegL.skipG rfl rfl rfl rfl rfl rfl ?_
        refine RegL.skipG rfl rfl rfl rfl rfl rfl ?_
        refine RegL.skipG rfl rfl rfl rfl rfl rfl ?_
        refine RegL.skipG rfl rfl rfl rfl rfl rfl ?_
        refine RegL.pure (p := (pEq (.bool false))) rfl rfl rfl (J_pick rfl (Opd.tmp rfl) (fun hf => absurd hf (by decide)) (fun _ => Opd.con)) ?_
        refine RegL.pure (p := (pEq (.bool false))) rfl rfl rfl (J_move rfl (Opd.tmp rfl)) ?_
        refine RegL.skipG rfl rfl rfl rfl rfl rfl ?_
        refine RegL.skipG rfl rfl rfl rfl rfl rfl ?_
        refine RegL.skipG rfl rfl rfl rfl rfl rfl ?_
        refine RegL.skipG rfl rfl rfl rfl rfl rfl ?_
        refine RegL.skipG rfl rfl rfl rfl rfl rfl ?_
        refine RegL.pure (p := (pEq (.bool false))) rfl rfl rfl (J_pick rfl (Opd.tmp rfl) (fun hf => absurd hf (by decide)) (fun _ => Opd.con)) ?_
        refine RegL.pure (p := (pEq (.bool false))) rfl rfl rfl (J_assign rfl (Opd.tmp rfl)) ?_
        refine RegL.nil ?_
        replace h := Option.some.inj h; subst h
        exact Ct.mid () rfl ⟨rfl, trivial⟩
    · replace h := bif_f hc2 h
      refine RegL.skipG rfl rfl rfl hc2 rfl rfl ?_
      refine RegL.skipG rfl rfl rfl hc2 rfl rfl ?_
      refine RegL.skipG rfl rfl rfl hc2 rfl rfl ?_
      refine RegL.skipG rfl rfl rfl hc2 rfl rfl ?_
      refine RegL.skipG rfl rfl rfl hc2 rfl rfl ?_
      refine RegL.pure (p := (pEq (.bool false))) rfl rfl rfl (J_pick rfl (Opd.tmp rfl) (fun hf => absurd (hc2.symm.trans hf) (by decide)) (fun _ => Opd.con)) ?_
      refine RegL.pure (p := (pEq (.bool false))) rfl rfl rfl (J_move rfl (Opd.tmp rfl)) ?_
      refine RegL.skipG rfl rfl rfl rfl rfl rfl ?_
      refine RegL.skipG rfl rfl rfl rfl rfl rfl ?_
      refine RegL.skipG rfl rfl rfl rfl rfl rfl ?_
      refine RegL.skipG rfl rfl rfl rfl rfl rfl ?_
      refine RegL.skipG rfl rfl rfl rfl rfl rfl ?_
      refine RegL.pure (p := (pEq (.bool false))) rfl rfl rfl (J_pick rfl (Opd.tmp rfl) (fun hf => absurd hf (by decide)) (fun _ => Opd.con)) ?_
      refine RegL.pure (p := (pEq (.bool false))) rfl rfl rfl (J_move rfl (Opd.tmp rfl)) ?_
      refine RegL.skipG rfl rfl rfl rfl rfl rfl ?_
      refine RegL.skipG rfl rfl rfl rfl rfl rfl ?_
      refine RegL.skipG rfl rfl rfl rfl rfl rfl ?_
      refine RegL.skipG rfl rfl rfl rfl rfl rfl ?_
      refine RegL.skipG rfl rfl rfl rfl rfl rfl ?_
      refine RegL.pure (p := (pEq (.bool false))) rfl rfl rfl (J_pick rfl (Opd.tmp rfl) (fun hf => absurd hf (by decide)) (fun _ => Opd.con)) ?_
      refine RegL.pure (p := (pEq (.bool false))) rfl rfl rfl (J_move rfl (Opd.tmp rfl)) ?_
      refine RegL.skipG rfl rfl rfl rfl rfl rfl ?_
      refine RegL.skipG rfl rfl rfl rfl rfl rfl ?_
      refine RegL.skipG rfl rfl rfl rfl rfl rfl ?_
      refine RegL.skipG rfl rfl rfl rfl rfl rfl ?_
      refine RegL.skipG rfl rfl rfl rfl rfl rfl ?_
      refine RegL.pure (p := (pEq (.bool false))) rfl rfl rfl (J_pick rfl (Opd.tmp rfl) (fun hf => absurd hf (by decide)) (fun _ => Opd.con)) ?_
      refine RegL.pure (p := (pEq (.bool false))) rfl rfl rfl (J_move rfl (Opd.tmp rfl)) ?_
      refine RegL.skipG rfl rfl rfl rfl rfl rfl ?_
      refine RegL.skipG rfl rfl rfl rfl rfl rfl ?_
      refine RegL.skipG rfl rfl rfl rfl rfl rfl ?_
      refine RegL.skipG rfl rfl rfl rfl rfl rfl ?_
      refine RegL.skipG rfl rfl rfl rfl rfl rfl ?_
      refine RegL.pure (p := (pEq (.bool false))) rfl rfl rfl (J_pick rfl (Opd.tmp rfl) (fun hf => absurd hf (by decide)) (fun _ => Opd.con)) ?_
      refine RegL.pure (p := (pEq (.bool false))) rfl rfl rfl (J_assign rfl (Opd.tmp rfl)) ?_
      refine RegL.nil ?_
      replace h := Option.some.inj h; subst h
      exact Ct.mid () rfl ⟨rfl, trivial⟩
  · clear hx1
    refine Ct.then_tr ?_
    refine Tr.weak (Γ' := [(4, (pEq (.bool x1)))]) ⟨rfl, trivial⟩ ?_
    refine Tr.ret ?_
    replace h := Option.some.inj h; subst h
    exact Ct.retH1 (Ωx := []) () rfl (RvOk.tmp rfl) rfl

theorem c_impl_SameNetwork {a_0 : GNetwork} {b_1 : GNetwork} {r : Bool} (h : m_impl_SameNetwork a_0 b_1 = some r) : CallJ Try.prog 30 [(pAgg (cGNetwork a_0)), (pAgg (cGNetwork b_1))] (pEq (.bool r)) := by
  unfold m_impl_SameNetwork at h
  refine CallJ.enterH Try.func30 rfl Try.ntmps30 rfl fun W I0 H => ?_
  refine Tr.weak (Γ' := [(0, (pAgg (cGNetwork a_0))), (1, (pAgg (cGNetwork b_1)))]) ⟨rfl, rfl, trivial⟩ ?_
  refine Tr.seq ?_
  refine Tr.region ?_
  refine RegL.pure (p := (pPtr (cGNetwork a_0))) rfl rfl rfl (J_boxA rfl (Opd.tmp rfl)) ?_
  refine RegL.pure (p := (pPtr (cGNetwork b_1))) rfl rfl rfl (J_boxA rfl (Opd.tmp rfl)) ?_
  refine RegL.pure (p := (pEq (.bool false))) rfl rfl rfl (J_assign rfl Opd.con) ?_
  refine RegL.nil ?_
  refine Ct.then_tr ?_
  refine Tr.weak (Γ' := [(2, (pPtr (cGNetwork a_0))), (3, (pPtr (cGNetwork b_1)))]) ⟨rfl, rfl, trivial⟩ ?_
  refine Tr.seq ?_
  replace h := bind_some h; obtain ⟨x1, hx1, h⟩ := h
  refine Tr.cut (γ := Unit) (Γm := fun g => [(4, (pEq (.bool x1)))]) (Ωm := fun g => []) ?_ (fun g9 => ?_)
  · clear h
    have h := hx1
    clear hx1
    refine Tr.region ?_
    refine RegL.pure (p := (pPtr ((cSl 4 cGSite) a_0.Sites))) rfl rfl rfl (J_fieldAddr rfl Try.underlying62 rfl sz57 (by decide) (Opd.tmp rfl) rfl) ?_
    refine RegL.pure (p := (pSl 4 cGSite a_0.Sites)) rfl rfl rfl (J_load rfl Try.isAgg57 (Opd.tmp rfl)) ?_
    refine RegL.pure (p := (pPtr ((cSl 4 cGSite) b_1.Sites))) rfl rfl rfl (J_fieldAddr rfl Try.underlying62 rfl sz57 (by decide) (Opd.tmp rfl) rfl) ?_
    refine RegL.pure (p := (pSl 4 cGSite b_1.Sites)) rfl rfl rfl (J_load rfl Try.isAgg57 (Opd.tmp rfl)) ?_
    replace h := bind_some h; obtain ⟨x2, hx2, h⟩ := h
    refine RegL.pure (p := (pEq (.bool x2))) rfl rfl rfl (J_call rfl Try.call71 (c_slices_Equal_impl_Site_impl_Site hx2) (Opds.cons (Opd.tmp rfl) (Opds.cons (Opd.tmp rfl) Opds.nil))) ?_
    refine RegL.pure (p := (pEq (.bool x2))) rfl rfl rfl (J_move rfl (Opd.tmp rfl)) ?_
    rcases Bool.eq_false_or_eq_true x2 with hc3 | hc3
    · replace h := bif_t hc3 h
      refine RegL.pureG (p := (pPtr ((cSl 9 cGSector) a_0.Sectors))) rfl rfl rfl hc3 rfl rfl (J_fieldAddr rfl Try.underlying62 rfl sz58 (by decide) (Opd.tmp rfl) rfl) ?_
      refine RegL.pureG (p := (pSl 9 cGSector a_0.Sectors)) rfl rfl rfl hc3 rfl rfl (J_load rfl Try.isAgg58 (Opd.tmp rfl)) ?_
      refine RegL.pureG (p := (pPtr ((cSl 9 cGSector) b_1.Sectors))) rfl rfl rfl hc3 rfl rfl (J_fieldAddr rfl Try.underlying62 rfl sz58 (by decide) (Opd.tmp rfl) rfl) ?_
      refine RegL.pureG (p := (pSl 9 cGSector b_1.Sectors)) rfl rfl rfl hc3 rfl rfl (J_load rfl Try.isAgg58 (Opd.tmp rfl)) ?_
      replace h := bind_some h; obtain ⟨x4, hx4, h⟩ := h
      refine RegL.pureG (p := (pEq (.bool x4))) rfl rfl rfl hc3 rfl rfl (J_call rfl Try.call72 (c_slices_Equal_impl_Sector_impl_Sector hx4) (Opds.cons (Opd.tmp rfl) (Opds.cons (Opd.tmp rfl) Opds.nil))) ?_
      refine RegL.pure (p := (pEq (.bool x4))) rfl rfl rfl (J_pick rfl (Opd.tmp rfl) (fun _ => (Opd.tmp rfl)) (fun hf => absurd (hc3.symm.trans hf) (by decide))) ?_
      refine RegL.pure (p := (pEq (.bool x4))) rfl rfl rfl (J_move rfl (Opd.tmp rfl)) ?_
      rcases Bool.eq_false_or_eq_true x4 with hc5 | hc5
      · replace h := bif_t hc5 h
        refine RegL.pureG (p := (pPtr ((cSl 4 cGAntenna) a_0.Antennas))) rfl rfl rfl hc5 rfl rfl (J_fieldAddr rfl Try.underlying62 rfl sz59 (by decide) (Opd.tmp rfl) rfl) ?_
        refine RegL.pureG (p := (pSl 4 cGAntenna a_0.Antennas)) rfl rfl rfl hc5 rfl rfl (J_load rfl Try.isAgg59 (Opd.tmp rfl)) ?_
        refine RegL.pureG (p := (pPtr ((cSl 4 cGAntenna) b_1.Antennas))) rfl rfl rfl hc5 rfl rfl (J_fieldAddr rfl Try.underlying62 rfl sz59 (by decide) (Opd.tmp rfl) rfl) ?_
        refine RegL.pureG (p := (pSl 4 cGAntenna b_1.Antennas)) rfl rfl rfl hc5 rfl rfl (J_load rfl Try.isAgg59 (Opd.tmp rfl)) ?_
        replace h := bind_some h; obtain ⟨x6, hx6, h⟩ := h
        refine RegL.pureG (p := (pEq (.bool x6))) rfl rfl rfl hc5 rfl rfl (J_call rfl Try.call73 (c_slices_EqualFunc_impl_Antenna_impl_Antenna_impl_Antenna_impl_Antenna hx6) (Opds.cons (Opd.tmp rfl) (Opds.cons (Opd.tmp rfl) (Opds.cons (Opd.fnv Try.call74 (fun _ _ h => c_impl_SameAntenna h)) Opds.nil)))) ?_
        refine RegL.pure (p := (pEq (.bool x6))) rfl rfl rfl (J_pick rfl (Opd.tmp rfl) (fun _ => (Opd.tmp rfl)) (fun hf => absurd (hc5.symm.trans hf) (by decide))) ?_
        refine RegL.pure (p := (pEq (.bool x6))) rfl rfl rfl (J_move rfl (Opd.tmp rfl)) ?_
        rcases Bool.eq_false_or_eq_true x6 with hc7 | hc7
        · replace h := bif_t hc7 h
          refine RegL.pureG (p := (pPtr ((cSl 6 cGRadio) a_0.Radios))) rfl rfl rfl hc7 rfl rfl (J_fieldAddr rfl Try.underlying62 rfl sz60 (by decide) (Opd.tmp rfl) rfl) ?_
          refine RegL.pureG (p := (pSl 6 cGRadio a_0.Radios)) rfl rfl rfl hc7 rfl rfl (J_load rfl Try.isAgg60 (Opd.tmp rfl)) ?_
          refine RegL.pureG (p := (pPtr ((cSl 6 cGRadio) b_1.Radios))) rfl rfl rfl hc7 rfl rfl (J_fieldAddr rfl Try.underlying62 rfl sz60 (by decide) (Opd.tmp rfl) rfl) ?_
          refine RegL.pureG (p := (pSl 6 cGRadio b_1.Radios)) rfl rfl rfl hc7 rfl rfl (J_load rfl Try.isAgg60 (Opd.tmp rfl)) ?_
          replace h := bind_some h; obtain ⟨x8, hx8, h⟩ := h
          refine RegL.pureG (p := (pEq (.bool x8))) rfl rfl rfl hc7 rfl rfl (J_call rfl Try.call75 (c_slices_EqualFunc_impl_Radio_impl_Radio_impl_Radio_impl_Radio hx8) (Opds.cons (Opd.tmp rfl) (Opds.cons (Opd.tmp rfl) (Opds.cons (Opd.fnv Try.call76 (fun _ _ h => c_impl_SameRadio h)) Opds.nil)))) ?_
          refine RegL.pure (p := (pEq (.bool x8))) rfl rfl rfl (J_pick rfl (Opd.tmp rfl) (fun _ => (Opd.tmp rfl)) (fun hf => absurd (hc7.symm.trans hf) (by decide))) ?_
          refine RegL.pure (p := (pEq (.bool x8))) rfl rfl rfl (J_assign rfl (Opd.tmp rfl)) ?_
          refine RegL.nil ?_
          replace h := Option.some.inj h; subst h
          exact Ct.mid () rfl ⟨rfl, trivial⟩
        · replace h := bif_f hc7 h
          refine RegL.skipG rfl rfl rfl hc7 rfl rfl ?_
          refine RegL.skipG rfl rfl rfl hc7 rfl rfl ?_
          refine RegL.skipG rfl rfl rfl hc7 rfl rfl ?_
          refine RegL.skipG rfl rfl rfl hc7 rfl rfl ?_
          refine RegL.skipG rfl rfl rfl hc7 rfl rfl ?_
          refine RegL.pure (p := (pEq (.bool false))) rfl rfl rfl (J_pick rfl (Opd.tmp rfl) (fun hf => absurd (hc7.symm.trans hf) (by decide)) (fun _ => Opd.con)) ?_
          refine RegL.pure (p := (pEq (.bool false))) rfl rfl rfl (J_assign rfl (Opd.tmp rfl)) ?_
          refine RegL.nil ?_
          replace h := Option.some.inj h; subst h
          exact Ct.mid () rfl ⟨rfl, trivial⟩
      · replace h := bif_f hc5 h
        refine RegL.skipG rfl rfl rfl hc5 rfl rfl ?_
        refine RegL.skipG rfl rfl rfl hc5 rfl rfl ?_
        refine RegL.skipG rfl rfl rfl hc5 rfl rfl ?_
        refine RegL.skipG rfl rfl rfl hc5 rfl rfl ?_
        refine RegL.skipG rfl rfl rfl hc5 rfl rfl ?_
        refine RegL.pure (p := (pEq (.bool false))) rfl rfl rfl (J_pick rfl (Opd.tmp rfl) (fun hf => absurd (hc5.symm.trans hf) (by decide)) (fun _ => Opd.con)) ?_
        refine RegL.pure (p := (pEq (.bool false))) rfl rfl rfl (J_move rfl (Opd.tmp rfl)) ?_
        refine RegL.skipG rfl rfl rfl rfl rfl rfl ?_
        refine RegL.skipG rfl rfl rfl rfl rfl rfl ?_
        refine RegL.skipG rfl rfl rfl rfl rfl rfl ?_
        refine RegL.skipG rfl rfl rfl rfl rfl rfl ?_
        refine RegL.skipG rfl rfl rfl rfl rfl rfl ?_
        refine RegL.pure (p := (pEq (.bool false))) rfl rfl rfl (J_pick rfl (Opd.tmp rfl) (fun hf => absurd hf (by decide)) (fun _ => Opd.con)) ?_
        refine RegL.pure (p := (pEq (.bool false))) rfl rfl rfl (J_assign rfl (Opd.tmp rfl)) ?_
        refine RegL.nil ?_
        replace h := Option.some.inj h; subst h
        exact Ct.mid () rfl ⟨rfl, trivial⟩
    · replace h := bif_f hc3 h
      refine RegL.skipG rfl rfl rfl hc3 rfl rfl ?_
      refine RegL.skipG rfl rfl rfl hc3 rfl rfl ?_
      refine RegL.skipG rfl rfl rfl hc3 rfl rfl ?_
      refine RegL.skipG rfl rfl rfl hc3 rfl rfl ?_
      refine RegL.skipG rfl rfl rfl hc3 rfl rfl ?_
      refine RegL.pure (p := (pEq (.bool false))) rfl rfl rfl (J_pick rfl (Opd.tmp rfl) (fun hf => absurd (hc3.symm.trans hf) (by decide)) (fun _ => Opd.con)) ?_
      refine RegL.pure (p := (pEq (.bool false))) rfl rfl rfl (J_move rfl (Opd.tmp rfl)) ?_
      refine RegL.skipG rfl rfl rfl rfl rfl rfl ?_
      refine RegL.skipG rfl rfl rfl rfl rfl rfl ?_
      refine RegL.skipG rfl rfl rfl rfl rfl rfl ?_
      refine RegL.skipG rfl rfl rfl rfl rfl rfl ?_
      refine RegL.skipG rfl rfl rfl rfl rfl rfl ?_
      refine RegL.pure (p := (pEq (.bool false))) rfl rfl rfl (J_pick rfl (Opd.tmp rfl) (fun hf => absurd hf (by decide)) (fun _ => Opd.con)) ?_
      refine RegL.pure (p := (pEq (.bool false))) rfl rfl rfl (J_move rfl (Opd.tmp rfl)) ?_
      refine RegL.skipG rfl rfl rfl rfl rfl rfl ?_
      refine RegL.skipG rfl rfl rfl rfl rfl rfl ?_
      refine RegL.skipG rfl rfl rfl rfl rfl rfl ?_
      refine RegL.skipG rfl rfl rfl rfl rfl rfl ?_
      refine RegL.skipG rfl rfl rfl rfl rfl rfl ?_
      refine RegL.pure (p := (pEq (.bool false))) rfl rfl rfl (J_pick rfl (Opd.tmp rfl) (fun hf => absurd hf (by decide)) (fun _ => Opd.con)) ?_
      refine RegL.pure (p := (pEq (.bool false))) rfl rfl rfl (J_assign rfl (Opd.tmp rfl)) ?_
      refine RegL.nil ?_
      replace h := Option.some.inj h; subst h
      exact Ct.mid () rfl ⟨rfl, trivial⟩
  · clear hx1
    refine Ct.then_tr ?_
    refine Tr.weak (Γ' := [(4, (pEq (.bool x1)))]) ⟨rfl, trivial⟩ ?_
    refine Tr.ret ?_
    replace h := Option.some.inj h; subst h
    exact Ct.retH1 (Ωx := []) () rfl (RvOk.tmp rfl) rfl

theorem c_laws_eqPoint {a_0 : GPoint} {b_1 : GPoint} {r : Bool} (h : m_laws_eqPoint a_0 b_1 = some r) : CallJ Try.prog 131 [(pAgg (cGPoint a_0)), (pAgg (cGPoint b_1))] (pEq (.bool r)) := by
  unfold m_laws_eqPoint at h
  refine CallJ.enterH Try.func131 rfl Try.ntmps131 rfl fun W I0 H => ?_
  refine Tr.weak (Γ' := [(0, (pAgg (cGPoint a_0))), (1, (pAgg (cGPoint b_1)))]) ⟨rfl, rfl, trivial⟩ ?_
  refine Tr.seq ?_
  refine Tr.region ?_
  refine RegL.pure (p := (pPtr (cGPoint a_0))) rfl rfl rfl (J_boxA rfl (Opd.tmp rfl)) ?_
  refine RegL.pure (p := (pPtr (cGPoint b_1))) rfl rfl rfl (J_boxA rfl (Opd.tmp rfl)) ?_
  refine RegL.pure (p := (pEq (.bool false))) rfl rfl rfl (J_assign rfl Opd.con) ?_
  refine RegL.nil ?_
  refine Ct.then_tr ?_
  refine Tr.weak (Γ' := [(2, (pPtr (cGPoint a_0))), (3, (pPtr (cGPoint b_1)))]) ⟨rfl, rfl, trivial⟩ ?_
  refine Tr.seq ?_
  refine Tr.seq ?_
  refine Tr.region ?_
  refine RegL.pure (p := (pPtr ((cK .i64) a_0.X))) rfl rfl rfl (J_fieldAddr rfl Try.underlying85 rfl sz2 (by decide) (Opd.tmp rfl) rfl) ?_
  refine RegL.pure (p := (pEq (.int .i64 a_0.X))) rfl rfl rfl (J_load rfl Try.isAgg2 (Opd.tmp rfl)) ?_
  refine RegL.pure (p := (pPtr ((cK .i64) b_1.X))) rfl rfl rfl (J_fieldAddr rfl Try.underlying85 rfl sz2 (by decide) (Opd.tmp rfl) rfl) ?_
  refine RegL.pure (p := (pEq (.int .i64 b_1.X))) rfl rfl rfl (J_load rfl Try.isAgg2 (Opd.tmp rfl)) ?_
  refine RegL.pure (p := (pEq (.bool (a_0.X != b_1.X)))) rfl rfl rfl (J_bin rfl (Opd.tmp rfl) (Opd.tmp rfl) B_neq) ?_
  refine RegL.nil ?_
  refine Ct.then_tr ?_
  refine Tr.weak (Γ' := [(2, (pPtr (cGPoint a_0))), (3, (pPtr (cGPoint b_1))), (9, (pEq (.bool (a_0.X != b_1.X))))]) ⟨rfl, rfl, rfl, trivial⟩ ?_
  refine Tr.cond (Opd.tmp rfl) (fun hc => ?_) (fun hc => ?_)
  · replace h := bif_t hc h
    refine Tr.seq ?_
    refine Tr.region ?_
    refine RegL.pure (p := (pEq (.bool false))) rfl rfl rfl (J_assign rfl Opd.con) ?_
    refine RegL.nil ?_
    refine Ct.then_tr ?_
    refine Tr.weak (Γ' := [(4, (pEq (.bool false)))]) ⟨rfl, trivial⟩ ?_
    refine Tr.ret ?_
    refine Ct.then_ret ?_
    replace h := Option.some.inj h; subst h
    exact Ct.retH1 (Ωx := []) () rfl (RvOk.tmp rfl) rfl
  · replace h := bif_f hc h
    refine Tr.skip ?_
    refine Ct.then_tr ?_
    refine Tr.weak (Γ' := [(2, (pPtr (cGPoint a_0))), (3, (pPtr (cGPoint b_1)))]) ⟨rfl, rfl, trivial⟩ ?_
    refine Tr.seq ?_
    refine Tr.seq ?_
    refine Tr.region ?_
    refine RegL.pure (p := (pPtr ((cK .i64) a_0.Y))) rfl rfl rfl (J_fieldAddr rfl Try.underlying85 rfl sz2 (by decide) (Opd.tmp rfl) rfl) ?_
    refine RegL.pure (p := (pEq (.int .i64 a_0.Y))) rfl rfl rfl (J_load rfl Try.isAgg2 (Opd.tmp rfl)) ?_
    refine RegL.pure (p := (pPtr ((cK .i64) b_1.Y))) rfl rfl rfl (J_fieldAddr rfl Try.underlying85 rfl sz2 (by decide) (Opd.tmp rfl) rfl) ?_
    refine RegL.pure (p := (pEq (.int .i64 b_1.Y))) rfl rfl rfl (J_load rfl Try.isAgg2 (Opd.tmp rfl)) ?_
    refine RegL.pure (p := (pEq (.bool (a_0.Y != b_1.Y)))) rfl rfl rfl (J_bin rfl (Opd.tmp rfl) (Opd.tmp rfl) B_neq) ?_
    refine RegL.nil ?_
    refine Ct.then_tr ?_
    refine Tr.weak (Γ' := [(14, (pEq (.bool (a_0.Y != b_1.Y))))]) ⟨rfl, trivial⟩ ?_
    refine Tr.cond (Opd.tmp rfl) (fun hc => ?_) (fun hc => ?_)
    · replace h := bif_t hc h
      refine Tr.seq ?_
      refine Tr.region ?_
      refine RegL.pure (p := (pEq (.bool false))) rfl rfl rfl (J_assign rfl Opd.con) ?_
      refine RegL.nil ?_
      refine Ct.then_tr ?_
      refine Tr.weak (Γ' := [(4, (pEq (.bool false)))]) ⟨rfl, trivial⟩ ?_
      refine Tr.ret ?_
      refine Ct.then_ret ?_
      replace h := Option.some.inj h; subst h
      exact Ct.retH1 (Ωx := []) () rfl (RvOk.tmp rfl) rfl
    · replace h := bif_f hc h
      refine Tr.skip ?_
      refine Ct.then_tr ?_
      refine Tr.weak (Γ' := []) trivial ?_
      refine Tr.seq ?_
      refine Tr.region ?_
      refine RegL.pure (p := (pEq (.bool true))) rfl rfl rfl (J_assign rfl Opd.con) ?_
      refine RegL.nil ?_
      refine Ct.then_tr ?_
      refine Tr.weak (Γ' := [(4, (pEq (.bool true)))]) ⟨rfl, trivial⟩ ?_
      refine Tr.ret ?_
      replace h := Option.some.inj h; subst h
      exact Ct.retH1 (Ωx := []) () rfl (RvOk.tmp rfl) rfl

theorem c_laws_eqSite {a_0 : GSite} {b_1 : GSite} {r : Bool} (h : m_laws_eqSite a_0 b_1 = some r) : CallJ Try.prog 115 [(pAgg (cGSite a_0)), (pAgg (cGSite b_1))] (pEq (.bool r)) := by
  unfold m_laws_eqSite at h
  refine CallJ.enterH Try.func115 rfl Try.ntmps115 rfl fun W I0 H => ?_
  refine Tr.weak (Γ' := [(0, (pAgg (cGSite a_0))), (1, (pAgg (cGSite b_1)))]) ⟨rfl, rfl, trivial⟩ ?_
  refine Tr.seq ?_
  refine Tr.region ?_
  refine RegL.pure (p := (pPtr (cGSite a_0))) rfl rfl rfl (J_boxA rfl (Opd.tmp rfl)) ?_
  refine RegL.pure (p := (pPtr (cGSite b_1))) rfl rfl rfl (J_boxA rfl (Opd.tmp rfl)) ?_
  refine RegL.pure (p := (pEq (.bool false))) rfl rfl rfl (J_assign rfl Opd.con) ?_
  refine RegL.nil ?_
  refine Ct.then_tr ?_
  refine Tr.weak (Γ' := [(2, (pPtr (cGSite a_0))), (3, (pPtr (cGSite b_1)))]) ⟨rfl, rfl, trivial⟩ ?_
  refine Tr.seq ?_
  refine Tr.seq ?_
  refine Tr.region ?_
  refine RegL.pure (p := (pPtr (cS a_0.Name))) rfl rfl rfl (J_fieldAddr rfl Try.underlying87 rfl sz9 (by decide) (Opd.tmp rfl) rfl) ?_
  refine RegL.pure (p := (pEq (.string a_0.Name))) rfl rfl rfl (J_load rfl Try.isAgg9 (Opd.tmp rfl)) ?_
  refine RegL.pure (p := (pPtr (cS b_1.Name))) rfl rfl rfl (J_fieldAddr rfl Try.underlying87 rfl sz9 (by decide) (Opd.tmp rfl) rfl) ?_
  refine RegL.pure (p := (pEq (.string b_1.Name))) rfl rfl rfl (J_load rfl Try.isAgg9 (Opd.tmp rfl)) ?_
  refine RegL.pure (p := (pEq (.bool (!(a_0.Name.toList == b_1.Name.toList))))) rfl rfl rfl (J_bin rfl (Opd.tmp rfl) (Opd.tmp rfl) B_sneq) ?_
  refine RegL.nil ?_
  refine Ct.then_tr ?_
  refine Tr.weak (Γ' := [(2, (pPtr (cGSite a_0))), (3, (pPtr (cGSite b_1))), (9, (pEq (.bool (!(a_0.Name.toList == b_1.Name.toList)))))]) ⟨rfl, rfl, rfl, trivial⟩ ?_
  refine Tr.cond (Opd.tmp rfl) (fun hc => ?_) (fun hc => ?_)
  · replace h := bif_t hc h
    refine Tr.seq ?_
    refine Tr.region ?_
    refine RegL.pure (p := (pEq (.bool false))) rfl rfl rfl (J_assign rfl Opd.con) ?_
    refine RegL.nil ?_
    refine Ct.then_tr ?_
    refine Tr.weak (Γ' := [(4, (pEq (.bool false)))]) ⟨rfl, trivial⟩ ?_
    refine Tr.ret ?_
    refine Ct.then_ret ?_
    replace h := Option.some.inj h; subst h
    exact Ct.retH1 (Ωx := []) () rfl (RvOk.tmp rfl) rfl
  · replace h := bif_f hc h
    refine Tr.skip ?_
    refine Ct.then_tr ?_
    refine Tr.weak (Γ' := [(2, (pPtr (cGSite a_0))), (3, (pPtr (cGSite b_1)))]) ⟨rfl, rfl, trivial⟩ ?_
    refine Tr.seq ?_
    refine Tr.seq ?_
    refine Tr.region ?_
    refine RegL.pure (p := (pPtr (cS a_0.Holder))) rfl rfl rfl (J_fieldAddr rfl Try.underlying87 rfl sz9 (by decide) (Opd.tmp rfl) rfl) ?_
    refine RegL.pure (p := (pEq (.string a_0.Holder))) rfl rfl rfl (J_load rfl Try.isAgg9 (Opd.tmp rfl)) ?_
    refine RegL.pure (p := (pPtr (cS b_1.Holder))) rfl rfl rfl (J_fieldAddr rfl Try.underlying87 rfl sz9 (by decide) (Opd.tmp rfl) rfl) ?_
    refine RegL.pure (p := (pEq (.string b_1.Holder))) rfl rfl rfl (J_load rfl Try.isAgg9 (Opd.tmp rfl)) ?_
    refine RegL.pure (p := (pEq (.bool (!(a_0.Holder.toList == b_1.Holder.toList))))) rfl rfl rfl (J_bin rfl (Opd.tmp rfl) (Opd.tmp rfl) B_sneq) ?_
    refine RegL.nil ?_
    refine Ct.then_tr ?_
    refine Tr.weak (Γ' := [(2, (pPtr (cGSite a_0))), (3, (pPtr (cGSite b_1))), (14, (pEq (.bool (!(a_0.Holder.toList == b_1.Holder.toList)))))]) ⟨rfl, rfl, rfl, trivial⟩ ?_
    refine Tr.cond (Opd.tmp rfl) (fun hc => ?_) (fun hc => ?_)
    · replace h := bif_t hc h
      refine Tr.seq ?_
      refine Tr.region ?_
      refine RegL.pure (p := (pEq (.bool false))) rfl rfl rfl (J_assign rfl Opd.con) ?_
      refine RegL.nil ?_
      refine Ct.then_tr ?_
      refine Tr.weak (Γ' := [(4, (pEq (.bool false)))]) ⟨rfl, trivial⟩ ?_
      refine Tr.ret ?_
      refine Ct.then_ret ?_
      replace h := Option.some.inj h; subst h
      exact Ct.retH1 (Ωx := []) () rfl (RvOk.tmp rfl) rfl
    · replace h := bif_f hc h
      refine Tr.skip ?_
      refine Ct.then_tr ?_
      refine Tr.weak (Γ' := [(2, (pPtr (cGSite a_0))), (3, (pPtr (cGSite b_1)))]) ⟨rfl, rfl, trivial⟩ ?_
      refine Tr.seq ?_
      refine Tr.seq ?_
      refine Tr.region ?_
      refine RegL.pure (p := (pPtr (cGPoint a_0.Place))) rfl rfl rfl (J_fieldAddr rfl Try.underlying87 rfl sz85 (by decide) (Opd.tmp rfl) rfl) ?_
      refine RegL.pure (p := (pAgg (cGPoint a_0.Place))) rfl rfl rfl (J_loadA rfl Try.isAgg85 sz85 (Opd.tmp rfl) rfl) ?_
      refine RegL.pure (p := (pPtr (cGPoint b_1.Place))) rfl rfl rfl (J_fieldAddr rfl Try.underlying87 rfl sz85 (by decide) (Opd.tmp rfl) rfl) ?_
      refine RegL.pure (p := (pAgg (cGPoint b_1.Place))) rfl rfl rfl (J_loadA rfl Try.isAgg85 sz85 (Opd.tmp rfl) rfl) ?_
      replace h := bind_some h; obtain ⟨x1, hx1, h⟩ := h
      refine RegL.pure (p := (pEq (.bool x1))) rfl rfl rfl (J_call rfl Try.call131 (c_laws_eqPoint hx1) (Opds.cons (Opd.tmp rfl) (Opds.cons (Opd.tmp rfl) Opds.nil))) ?_
      refine RegL.pure (p := (pEq (.bool (!x1)))) rfl rfl rfl (J_not rfl (Opd.tmp rfl)) ?_
      refine RegL.nil ?_
      refine Ct.then_tr ?_
      refine Tr.weak (Γ' := [(20, (pEq (.bool (!x1))))]) ⟨rfl, trivial⟩ ?_
      refine Tr.cond (Opd.tmp rfl) (fun hc => ?_) (fun hc => ?_)
      · replace h := bif_t hc h
        refine Tr.seq ?_
        refine Tr.region ?_
        refine RegL.pure (p := (pEq (.bool false))) rfl rfl rfl (J_assign rfl Opd.con) ?_
        refine RegL.nil ?_
        refine Ct.then_tr ?_
        refine Tr.weak (Γ' := [(4, (pEq (.bool false)))]) ⟨rfl, trivial⟩ ?_
        refine Tr.ret ?_
        refine Ct.then_ret ?_
        replace h := Option.some.inj h; subst h
        exact Ct.retH1 (Ωx := []) () rfl (RvOk.tmp rfl) rfl
      · replace h := bif_f hc h
        refine Tr.skip ?_
        refine Ct.then_tr ?_
        refine Tr.weak (Γ' := []) trivial ?_
        refine Tr.seq ?_
        refine Tr.region ?_
        refine RegL.pure (p := (pEq (.bool true))) rfl rfl rfl (J_assign rfl Opd.con) ?_
        refine RegL.nil ?_
        refine Ct.then_tr ?_
        refine Tr.weak (Γ' := [(4, (pEq (.bool true)))]) ⟨rfl, trivial⟩ ?_
        refine Tr.ret ?_
        replace h := Option.some.inj h; subst h
        exact Ct.retH1 (Ωx := []) () rfl (RvOk.tmp rfl) rfl

theorem c_laws_eqSiteS {a_0 : (List GSite)} {b_1 : (List GSite)} {r : Bool} (h : m_laws_eqSiteS a_0 b_1 = some r) : CallJ Try.prog 77 [(pSl 4 cGSite a_0), (pSl 4 cGSite b_1)] (pEq (.bool r)) := by
  unfold m_laws_eqSiteS at h
  refine CallJ.enterH Try.func77 rfl Try.ntmps77 rfl fun W I0 H => ?_
  refine Tr.weak (Γ' := [(0, (pSl 4 cGSite a_0)), (1, (pSl 4 cGSite b_1))]) ⟨rfl, rfl, trivial⟩ ?_
  refine Tr.seq ?_
  refine Tr.region ?_
  refine RegL.pure (p := (pEq (.bool false))) rfl rfl rfl (J_assign rfl Opd.con) ?_
  refine RegL.nil ?_
  refine Ct.then_tr ?_
  refine Tr.weak (Γ' := [(0, (pSl 4 cGSite a_0)), (1, (pSl 4 cGSite b_1))]) ⟨rfl, rfl, trivial⟩ ?_
  refine Tr.seq ?_
  refine Tr.seq ?_
  refine Tr.region ?_
  refine RegL.pure (p := (pSl 4 cGSite a_0)) rfl rfl rfl (J_move rfl (Opd.tmp rfl)) ?_
  refine RegL.pure (p := (pEq (.int .i64 (a_0.length : Int)))) rfl rfl rfl (J_len rfl Try.underlying57 (Opd.tmp rfl) rfl) ?_
  refine RegL.pure (p := (pSl 4 cGSite b_1)) rfl rfl rfl (J_move rfl (Opd.tmp rfl)) ?_
  refine RegL.pure (p := (pEq (.int .i64 (b_1.length : Int)))) rfl rfl rfl (J_len rfl Try.underlying57 (Opd.tmp rfl) rfl) ?_
  refine RegL.pure (p := (pEq (.bool ((a_0.length : Int) != (b_1.length : Int))))) rfl rfl rfl (J_bin rfl (Opd.tmp rfl) (Opd.tmp rfl) B_neq) ?_
  refine RegL.nil ?_
  refine Ct.then_tr ?_
  refine Tr.weak (Γ' := [(0, (pSl 4 cGSite a_0)), (1, (pSl 4 cGSite b_1)), (10, (pEq (.bool ((a_0.length : Int) != (b_1.length : Int)))))]) ⟨rfl, rfl, rfl, trivial⟩ ?_
  refine Tr.cond (Opd.tmp rfl) (fun hc => ?_) (fun hc => ?_)
  · replace h := bif_t hc h
    refine Tr.seq ?_
    refine Tr.region ?_
    refine RegL.pure (p := (pEq (.bool false))) rfl rfl rfl (J_assign rfl Opd.con) ?_
    refine RegL.nil ?_
    refine Ct.then_tr ?_
    refine Tr.weak (Γ' := [(4, (pEq (.bool false)))]) ⟨rfl, trivial⟩ ?_
    refine Tr.ret ?_
    refine Ct.then_ret ?_
    replace h := Option.some.inj h; subst h
    exact Ct.retH1 (Ωx := []) () rfl (RvOk.tmp rfl) rfl
  · replace h := bif_f hc h
    refine Tr.skip ?_
    refine Ct.then_tr ?_
    refine Tr.weak (Γ' := [(0, (pSl 4 cGSite a_0)), (1, (pSl 4 cGSite b_1))]) ⟨rfl, rfl, trivial⟩ ?_
    refine Tr.seq ?_
    refine Tr.seq ?_
    refine Tr.region ?_
    refine RegL.pure (p := (pEq (.int .i64 (0 : Int)))) rfl rfl rfl (J_assign rfl Opd.con) ?_
    refine RegL.nil ?_
    refine Ct.then_tr ?_
    refine Tr.weak (Γ' := [(0, (pSl 4 cGSite a_0)), (1, (pSl 4 cGSite b_1)), (5, (pEq (.int .i64 (0 : Int))))]) ⟨rfl, rfl, rfl, trivial⟩ ?_
    refine Tr.block ?_
    refine Tr.weak (Γ' := [(0, (pSl 4 cGSite a_0)), (1, (pSl 4 cGSite b_1)), (5, (pEq (.int .i64 (0 : Int))))]) ⟨rfl, rfl, rfl, trivial⟩ ?_
    refine Tr.loop (γ := Unit) (σ := Int) (Γσ := fun s g => [(0, (pSl 4 cGSite a_0)), (1, (pSl 4 cGSite b_1)), (5, (pEq (.int .i64 s)))]) (Ωσ := fun s g => []) (g := ()) h ?_
    clear h
    rintro v2 g3 t h
    replace h : m_laws_eqSiteS_B1 a_0 b_1 v2 = some t := h
    unfold m_laws_eqSiteS_B1 at h
    refine Tr.weakO (Γ' := [(0, (pSl 4 cGSite a_0)), (1, (pSl 4 cGSite b_1)), (5, (pEq (.int .i64 v2)))]) (Ω' := []) rfl ⟨rfl, rfl, rfl, trivial⟩ ?_
    refine Tr.seq ?_
    refine Tr.seq ?_
    refine Tr.region ?_
    refine RegL.pure (p := (pEq (.int .i64 v2))) rfl rfl rfl (J_move rfl (Opd.tmp rfl)) ?_
    refine RegL.pure (p := (pSl 4 cGSite a_0)) rfl rfl rfl (J_move rfl (Opd.tmp rfl)) ?_
    refine RegL.pure (p := (pEq (.int .i64 (a_0.length : Int)))) rfl rfl rfl (J_len rfl Try.underlying57 (Opd.tmp rfl) rfl) ?_
    refine RegL.pure (p := (pEq (.bool (decide (v2 < (a_0.length : Int)))))) rfl rfl rfl (J_bin rfl (Opd.tmp rfl) (Opd.tmp rfl) B_lss) ?_
    refine RegL.nil ?_
    refine Ct.then_tr ?_
    refine Tr.weak (Γ' := [(0, (pSl 4 cGSite a_0)), (1, (pSl 4 cGSite b_1)), (5, (pEq (.int .i64 v2))), (14, (pEq (.bool (decide (v2 < (a_0.length : Int))))))]) ⟨rfl, rfl, rfl, rfl, trivial⟩ ?_
    refine Tr.cond (Opd.tmp rfl) (fun hc => ?_) (fun hc => ?_)
    · replace h := bif_t hc h
      refine Tr.skip ?_
      refine Ct.then_tr ?_
      refine Tr.weak (Γ' := [(0, (pSl 4 cGSite a_0)), (1, (pSl 4 cGSite b_1)), (5, (pEq (.int .i64 v2)))]) ⟨rfl, rfl, rfl, trivial⟩ ?_
      refine Tr.seq ?_
      refine Tr.block ?_
      refine Tr.seq ?_
      replace h := bind_some h; obtain ⟨x4, hx4, h⟩ := h
      replace h := bind_some h; obtain ⟨x5, hx5, h⟩ := h
      replace h := bind_some h; obtain ⟨x6, hx6, h⟩ := h
      refine Tr.drawD (n := 27) (m := 10) (es := [some (Ent.mk [(0, (pSl 4 cGSite a_0))] (pSl 4 cGSite a_0) true), some (Ent.mk [(5, (pEq (.int .i64 v2)))] (pEq (.int .i64 v2)) true), some (Ent.mk [(17, (pSl 4 cGSite a_0)), (18, (pEq (.int .i64 v2)))] (pPtr (cGSite x4)) true), some (Ent.mk [(19, (pPtr (cGSite x4)))] (pAgg (cGSite x4)) true), some (Ent.mk [(1, (pSl 4 cGSite b_1))] (pSl 4 cGSite b_1) true), some (Ent.mk [(5, (pEq (.int .i64 v2)))] (pEq (.int .i64 v2)) true), some (Ent.mk [(21, (pSl 4 cGSite b_1)), (22, (pEq (.int .i64 v2)))] (pPtr (cGSite x5)) true), some (Ent.mk [(23, (pPtr (cGSite x5)))] (pAgg (cGSite x5)) true), some (Ent.mk [(20, (pAgg (cGSite x4))), (24, (pAgg (cGSite x5)))] (pEq (.bool x6)) true), some (Ent.mk [(25, (pEq (.bool x6)))] (pEq (.bool (!x6))) true)]) (rd := [[0], [5], [17, 18], [19], [1], [5], [21, 22], [23], [20, 24], [25]]) rfl hmix (by kernel_rfl) fun hD => ?_
      refine RD.fin (es := [Ent.mk [(0, (pSl 4 cGSite a_0))] (pSl 4 cGSite a_0) true, Ent.mk [(5, (pEq (.int .i64 v2)))] (pEq (.int .i64 v2)) true, Ent.mk [(17, (pSl 4 cGSite a_0)), (18, (pEq (.int .i64 v2)))] (pPtr (cGSite x4)) true, Ent.mk [(19, (pPtr (cGSite x4)))] (pAgg (cGSite x4)) true, Ent.mk [(1, (pSl 4 cGSite b_1))] (pSl 4 cGSite b_1) true, Ent.mk [(5, (pEq (.int .i64 v2)))] (pEq (.int .i64 v2)) true, Ent.mk [(21, (pSl 4 cGSite b_1)), (22, (pEq (.int .i64 v2)))] (pPtr (cGSite x5)) true, Ent.mk [(23, (pPtr (cGSite x5)))] (pAgg (cGSite x5)) true, Ent.mk [(20, (pAgg (cGSite x4))), (24, (pAgg (cGSite x5)))] (pEq (.bool x6)) true, Ent.mk [(25, (pEq (.bool x6)))] (pEq (.bool (!x6))) true]) (done := []) hD ⟨.inr ⟨(OpJ.w (J_move rfl (Opd.tmp rfl))), ⟨rfl, trivial⟩, rfl, rfl⟩, ⟨.inr ⟨(OpJ.w (J_move rfl (Opd.tmp rfl))), ⟨rfl, trivial⟩, rfl, rfl⟩, ⟨.inr ⟨(OpJ.w (J_idx rfl Try.underlying57 sz87 (Opd.tmp rfl) (Opd.tmp rfl) hx4)), ⟨rfl, rfl, trivial⟩, rfl, rfl⟩, ⟨.inr ⟨(OpJ.w (J_loadA rfl Try.isAgg87 sz87 (Opd.tmp rfl) rfl)), ⟨rfl, trivial⟩, rfl, rfl⟩, ⟨.inr ⟨(OpJ.w (J_move rfl (Opd.tmp rfl))), ⟨rfl, trivial⟩, rfl, rfl⟩, ⟨.inr ⟨(OpJ.w (J_move rfl (Opd.tmp rfl))), ⟨rfl, trivial⟩, rfl, rfl⟩, ⟨.inr ⟨(OpJ.w (J_idx rfl Try.underlying57 sz87 (Opd.tmp rfl) (Opd.tmp rfl) hx5)), ⟨rfl, rfl, trivial⟩, rfl, rfl⟩, ⟨.inr ⟨(OpJ.w (J_loadA rfl Try.isAgg87 sz87 (Opd.tmp rfl) rfl)), ⟨rfl, trivial⟩, rfl, rfl⟩, ⟨.inr ⟨(OpJ.w (J_call rfl Try.call115 (c_laws_eqSite hx6) (Opds.cons (Opd.tmp rfl) (Opds.cons (Opd.tmp rfl) Opds.nil)))), ⟨rfl, rfl, trivial⟩, rfl, rfl⟩, ⟨.inr ⟨(OpJ.w (J_not rfl (Opd.tmp rfl))), ⟨rfl, trivial⟩, rfl, rfl⟩, trivial⟩⟩⟩⟩⟩⟩⟩⟩⟩⟩ ?_
      refine RegL.nil ?_
      refine Ct.then_tr ?_
      refine Tr.weak (Γ' := [(0, (pSl 4 cGSite a_0)), (1, (pSl 4 cGSite b_1)), (5, (pEq (.int .i64 v2))), (26, (pEq (.bool (!x6))))]) ⟨rfl, rfl, rfl, rfl, trivial⟩ ?_
      refine Tr.cond (Opd.tmp rfl) (fun hc => ?_) (fun hc => ?_)
      · replace h := bif_t hc h
        refine Tr.seq ?_
        refine Tr.region ?_
        refine RegL.pure (p := (pEq (.bool false))) rfl rfl rfl (J_assign rfl Opd.con) ?_
        refine RegL.nil ?_
        refine Ct.then_tr ?_
        refine Tr.weak (Γ' := [(4, (pEq (.bool false)))]) ⟨rfl, trivial⟩ ?_
        refine Tr.ret ?_
        refine Ct.blk_ret ?_
        refine Ct.then_ret ?_
        replace h := map_some h; obtain ⟨r1, h, rfl⟩ := h
        refine Ct.out_ret fun e => ?_
        subst e
        refine Ct.blk_ret ?_
        refine Ct.then_ret ?_
        replace h := Option.some.inj h; subst h
        exact Ct.retH1 (Ωx := []) () rfl (RvOk.tmp rfl) rfl
      · replace h := bif_f hc h
        refine Tr.skip ?_
        refine Ct.blk_normal ?_
        refine Ct.then_tr ?_
        refine Tr.weak (Γ' := [(0, (pSl 4 cGSite a_0)), (1, (pSl 4 cGSite b_1)), (5, (pEq (.int .i64 v2)))]) ⟨rfl, rfl, rfl, trivial⟩ ?_
        refine Tr.region ?_
        refine RegL.pure (p := (pEq (.int .i64 v2))) rfl rfl rfl (J_move rfl (Opd.tmp rfl)) ?_
        refine RegL.pure (p := (pEq (.int .i64 (w64 (v2 + (1 : Int)))))) rfl rfl rfl (J_bin rfl (Opd.tmp rfl) Opd.con B_add) ?_
        refine RegL.pure (p := (pEq (.int .i64 (w64 (v2 + (1 : Int)))))) rfl rfl rfl (J_assign rfl (Opd.tmp rfl)) ?_
        refine RegL.nil ?_
        replace h := Option.some.inj h; subst h
        exact Ct.again () rfl ⟨rfl, rfl, rfl, trivial⟩
    · replace h := bif_f hc h
      refine Tr.exit ?_
      refine Ct.then_exit ?_
      replace h := map_some h; obtain ⟨r1, h, rfl⟩ := h
      refine Ct.out_exit fun e => ?_
      subst e
      refine Ct.blk_exit ?_
      refine Ct.then_tr ?_
      refine Tr.weak (Γ' := []) trivial ?_
      refine Tr.seq ?_
      refine Tr.region ?_
      refine RegL.pure (p := (pEq (.bool true))) rfl rfl rfl (J_assign rfl Opd.con) ?_
      refine RegL.nil ?_
      refine Ct.then_tr ?_
      refine Tr.weak (Γ' := [(4, (pEq (.bool true)))]) ⟨rfl, trivial⟩ ?_
      refine Tr.ret ?_
      replace h := Option.some.inj h; subst h
      exact Ct.retH1 (Ωx := []) () rfl (RvOk.tmp rfl) rfl

theorem c_laws_eqSector {a_0 : GSector} {b_1 : GSector} {r : Bool} (h : m_laws_eqSector a_0 b_1 = some r) : CallJ Try.prog 116 [(pAgg (cGSector a_0)), (pAgg (cGSector b_1))] (pEq (.bool r)) := by
  unfold m_laws_eqSector at h
  refine CallJ.enterH Try.func116 rfl Try.ntmps116 rfl fun W I0 H => ?_
  refine Tr.weak (Γ' := [(0, (pAgg (cGSector a_0))), (1, (pAgg (cGSector b_1)))]) ⟨rfl, rfl, trivial⟩ ?_
  refine Tr.seq ?_
  refine Tr.region ?_
  refine RegL.pure (p := (pPtr (cGSector a_0))) rfl rfl rfl (J_boxA rfl (Opd.tmp rfl)) ?_
  refine RegL.pure (p := (pPtr (cGSector b_1))) rfl rfl rfl (J_boxA rfl (Opd.tmp rfl)) ?_
  refine RegL.pure (p := (pEq (.bool false))) rfl rfl rfl (J_assign rfl Opd.con) ?_
  refine RegL.nil ?_
  refine Ct.then_tr ?_
  refine Tr.weak (Γ' := [(2, (pPtr (cGSector a_0))), (3, (pPtr (cGSector b_1)))]) ⟨rfl, rfl, trivial⟩ ?_
  refine Tr.seq ?_
  refine Tr.seq ?_
  refine Tr.region ?_
  refine RegL.pure (p := (pPtr (cS a_0.Name))) rfl rfl rfl (J_fieldAddr rfl Try.underlying89 rfl sz9 (by decide) (Opd.tmp rfl) rfl) ?_
  refine RegL.pure (p := (pEq (.string a_0.Name))) rfl rfl rfl (J_load rfl Try.isAgg9 (Opd.tmp rfl)) ?_
  refine RegL.pure (p := (pPtr (cS b_1.Name))) rfl rfl rfl (J_fieldAddr rfl Try.underlying89 rfl sz9 (by decide) (Opd.tmp rfl) rfl) ?_
  refine RegL.pure (p := (pEq (.string b_1.Name))) rfl rfl rfl (J_load rfl Try.isAgg9 (Opd.tmp rfl)) ?_
  refine RegL.pure (p := (pEq (.bool (!(a_0.Name.toList == b_1.Name.toList))))) rfl rfl rfl (J_bin rfl (Opd.tmp rfl) (Opd.tmp rfl) B_sneq) ?_
  refine RegL.nil ?_
  refine Ct.then_tr ?_
  refine Tr.weak (Γ' := [(2, (pPtr (cGSector a_0))), (3, (pPtr (cGSector b_1))), (9, (pEq (.bool (!(a_0.Name.toList == b_1.Name.toList)))))]) ⟨rfl, rfl, rfl, trivial⟩ ?_
  refine Tr.cond (Opd.tmp rfl) (fun hc => ?_) (fun hc => ?_)
  · replace h := bif_t hc h
    refine Tr.seq ?_
    refine Tr.region ?_
    refine RegL.pure (p := (pEq (.bool false))) rfl rfl rfl (J_assign rfl Opd.con) ?_
    refine RegL.nil ?_
    refine Ct.then_tr ?_
    refine Tr.weak (Γ' := [(4, (pEq (.bool false)))]) ⟨rfl, trivial⟩ ?_
    refine Tr.ret ?_
    refine Ct.then_ret ?_
    replace h := Option.some.inj h; subst h
    exact Ct.retH1 (Ωx := []) () rfl (RvOk.tmp rfl) rfl
  · replace h := bif_f hc h
    refine Tr.skip ?_
    refine Ct.then_tr ?_
    refine Tr.weak (Γ' := [(2, (pPtr (cGSector a_0))), (3, (pPtr (cGSector b_1)))]) ⟨rfl, rfl, trivial⟩ ?_
    refine Tr.seq ?_
    refine Tr.seq ?_
    refine Tr.region ?_
    refine RegL.pure (p := (pPtr (cS a_0.Site))) rfl rfl rfl (J_fieldAddr rfl Try.underlying89 rfl sz9 (by decide) (Opd.tmp rfl) rfl) ?_
    refine RegL.pure (p := (pEq (.string a_0.Site))) rfl rfl rfl (J_load rfl Try.isAgg9 (Opd.tmp rfl)) ?_
    refine RegL.pure (p := (pPtr (cS b_1.Site))) rfl rfl rfl (J_fieldAddr rfl Try.underlying89 rfl sz9 (by decide) (Opd.tmp rfl) rfl) ?_
    refine RegL.pure (p := (pEq (.string b_1.Site))) rfl rfl rfl (J_load rfl Try.isAgg9 (Opd.tmp rfl)) ?_
    refine RegL.pure (p := (pEq (.bool (!(a_0.Site.toList == b_1.Site.toList))))) rfl rfl rfl (J_bin rfl (Opd.tmp rfl) (Opd.tmp rfl) B_sneq) ?_
    refine RegL.nil ?_
    refine Ct.then_tr ?_
    refine Tr.weak (Γ' := [(2, (pPtr (cGSector a_0))), (3, (pPtr (cGSector b_1))), (14, (pEq (.bool (!(a_0.Site.toList == b_1.Site.toList)))))]) ⟨rfl, rfl, rfl, trivial⟩ ?_
    refine Tr.cond (Opd.tmp rfl) (fun hc => ?_) (fun hc => ?_)
    · replace h := bif_t hc h
      refine Tr.seq ?_
      refine Tr.region ?_
      refine RegL.pure (p := (pEq (.bool false))) rfl rfl rfl (J_assign rfl Opd.con) ?_
      refine RegL.nil ?_
      refine Ct.then_tr ?_
      refine Tr.weak (Γ' := [(4, (pEq (.bool false)))]) ⟨rfl, trivial⟩ ?_
      refine Tr.ret ?_
      refine Ct.then_ret ?_
      replace h := Option.some.inj h; subst h
      exact Ct.retH1 (Ωx := []) () rfl (RvOk.tmp rfl) rfl
    · replace h := bif_f hc h
      refine Tr.skip ?_
      refine Ct.then_tr ?_
      refine Tr.weak (Γ' := [(2, (pPtr (cGSector a_0))), (3, (pPtr (cGSector b_1)))]) ⟨rfl, rfl, trivial⟩ ?_
      refine Tr.seq ?_
      refine Tr.seq ?_
      refine Tr.region ?_
      refine RegL.pure (p := (pPtr (cS a_0.Antenna))) rfl rfl rfl (J_fieldAddr rfl Try.underlying89 rfl sz9 (by decide) (Opd.tmp rfl) rfl) ?_
      refine RegL.pure (p := (pEq (.string a_0.Antenna))) rfl rfl rfl (J_load rfl Try.isAgg9 (Opd.tmp rfl)) ?_
      refine RegL.pure (p := (pPtr (cS b_1.Antenna))) rfl rfl rfl (J_fieldAddr rfl Try.underlying89 rfl sz9 (by decide) (Opd.tmp rfl) rfl) ?_
      refine RegL.pure (p := (pEq (.string b_1.Antenna))) rfl rfl rfl (J_load rfl Try.isAgg9 (Opd.tmp rfl)) ?_
      refine RegL.pure (p := (pEq (.bool (!(a_0.Antenna.toList == b_1.Antenna.toList))))) rfl rfl rfl (J_bin rfl (Opd.tmp rfl) (Opd.tmp rfl) B_sneq) ?_
      refine RegL.nil ?_
      refine Ct.then_tr ?_
      refine Tr.weak (Γ' := [(2, (pPtr (cGSector a_0))), (3, (pPtr (cGSector b_1))), (19, (pEq (.bool (!(a_0.Antenna.toList == b_1.Antenna.toList)))))]) ⟨rfl, rfl, rfl, trivial⟩ ?_
      refine Tr.cond (Opd.tmp rfl) (fun hc => ?_) (fun hc => ?_)
      · replace h := bif_t hc h
        refine Tr.seq ?_
        refine Tr.region ?_
        refine RegL.pure (p := (pEq (.bool false))) rfl rfl rfl (J_assign rfl Opd.con) ?_
        refine RegL.nil ?_
        refine Ct.then_tr ?_
        refine Tr.weak (Γ' := [(4, (pEq (.bool false)))]) ⟨rfl, trivial⟩ ?_
        refine Tr.ret ?_
        refine Ct.then_ret ?_
        replace h := Option.some.inj h; subst h
        exact Ct.retH1 (Ωx := []) () rfl (RvOk.tmp rfl) rfl
      · replace h := bif_f hc h
        refine Tr.skip ?_
        refine Ct.then_tr ?_
        refine Tr.weak (Γ' := [(2, (pPtr (cGSector a_0))), (3, (pPtr (cGSector b_1)))]) ⟨rfl, rfl, trivial⟩ ?_
        refine Tr.seq ?_
        refine Tr.seq ?_
        refine Tr.region ?_
        refine RegL.pure (p := (pPtr (cS a_0.Radio))) rfl rfl rfl (J_fieldAddr rfl Try.underlying89 rfl sz9 (by decide) (Opd.tmp rfl) rfl) ?_
        refine RegL.pure (p := (pEq (.string a_0.Radio))) rfl rfl rfl (J_load rfl Try.isAgg9 (Opd.tmp rfl)) ?_
        refine RegL.pure (p := (pPtr (cS b_1.Radio))) rfl rfl rfl (J_fieldAddr rfl Try.underlying89 rfl sz9 (by decide) (Opd.tmp rfl) rfl) ?_
        refine RegL.pure (p := (pEq (.string b_1.Radio))) rfl rfl rfl (J_load rfl Try.isAgg9 (Opd.tmp rfl)) ?_
        refine RegL.pure (p := (pEq (.bool (!(a_0.Radio.toList == b_1.Radio.toList))))) rfl rfl rfl (J_bin rfl (Opd.tmp rfl) (Opd.tmp rfl) B_sneq) ?_
        refine RegL.nil ?_
        refine Ct.then_tr ?_
        refine Tr.weak (Γ' := [(2, (pPtr (cGSector a_0))), (3, (pPtr (cGSector b_1))), (24, (pEq (.bool (!(a_0.Radio.toList == b_1.Radio.toList)))))]) ⟨rfl, rfl, rfl, trivial⟩ ?_
        refine Tr.cond (Opd.tmp rfl) (fun hc => ?_) (fun hc => ?_)
        · replace h := bif_t hc h
          refine Tr.seq ?_
          refine Tr.region ?_
          refine RegL.pure (p := (pEq (.bool false))) rfl rfl rfl (J_assign rfl Opd.con) ?_
          refine RegL.nil ?_
          refine Ct.then_tr ?_
          refine Tr.weak (Γ' := [(4, (pEq (.bool false)))]) ⟨rfl, trivial⟩ ?_
          refine Tr.ret ?_
          refine Ct.then_ret ?_
          replace h := Option.some.inj h; subst h
          exact Ct.retH1 (Ωx := []) () rfl (RvOk.tmp rfl) rfl
        · replace h := bif_f hc h
          refine Tr.skip ?_
          refine Ct.then_tr ?_
          refine Tr.weak (Γ' := [(2, (pPtr (cGSector a_0))), (3, (pPtr (cGSector b_1)))]) ⟨rfl, rfl, trivial⟩ ?_
          refine Tr.seq ?_
          refine Tr.seq ?_
          refine Tr.region ?_
          refine RegL.pure (p := (pPtr (cS a_0.Band))) rfl rfl rfl (J_fieldAddr rfl Try.underlying89 rfl sz9 (by decide) (Opd.tmp rfl) rfl) ?_
          refine RegL.pure (p := (pEq (.string a_0.Band))) rfl rfl rfl (J_load rfl Try.isAgg9 (Opd.tmp rfl)) ?_
          refine RegL.pure (p := (pPtr (cS b_1.Band))) rfl rfl rfl (J_fieldAddr rfl Try.underlying89 rfl sz9 (by decide) (Opd.tmp rfl) rfl) ?_
          refine RegL.pure (p := (pEq (.string b_1.Band))) rfl rfl rfl (J_load rfl Try.isAgg9 (Opd.tmp rfl)) ?_
          refine RegL.pure (p := (pEq (.bool (!(a_0.Band.toList == b_1.Band.toList))))) rfl rfl rfl (J_bin rfl (Opd.tmp rfl) (Opd.tmp rfl) B_sneq) ?_
          refine RegL.nil ?_
          refine Ct.then_tr ?_
          refine Tr.weak (Γ' := [(2, (pPtr (cGSector a_0))), (3, (pPtr (cGSector b_1))), (29, (pEq (.bool (!(a_0.Band.toList == b_1.Band.toList)))))]) ⟨rfl, rfl, rfl, trivial⟩ ?_
          refine Tr.cond (Opd.tmp rfl) (fun hc => ?_) (fun hc => ?_)
          · replace h := bif_t hc h
            refine Tr.seq ?_
            refine Tr.region ?_
            refine RegL.pure (p := (pEq (.bool false))) rfl rfl rfl (J_assign rfl Opd.con) ?_
            refine RegL.nil ?_
            refine Ct.then_tr ?_
            refine Tr.weak (Γ' := [(4, (pEq (.bool false)))]) ⟨rfl, trivial⟩ ?_
            refine Tr.ret ?_
            refine Ct.then_ret ?_
            replace h := Option.some.inj h; subst h
            exact Ct.retH1 (Ωx := []) () rfl (RvOk.tmp rfl) rfl
          · replace h := bif_f hc h
            refine Tr.skip ?_
            refine Ct.then_tr ?_
            refine Tr.weak (Γ' := [(2, (pPtr (cGSector a_0))), (3, (pPtr (cGSector b_1)))]) ⟨rfl, rfl, trivial⟩ ?_
            refine Tr.seq ?_
            refine Tr.seq ?_
            refine Tr.region ?_
            refine RegL.pure (p := (pPtr ((cK .i64) a_0.Azimuth))) rfl rfl rfl (J_fieldAddr rfl Try.underlying89 rfl sz2 (by decide) (Opd.tmp rfl) rfl) ?_
            refine RegL.pure (p := (pEq (.int .i64 a_0.Azimuth))) rfl rfl rfl (J_load rfl Try.isAgg2 (Opd.tmp rfl)) ?_
            refine RegL.pure (p := (pPtr ((cK .i64) b_1.Azimuth))) rfl rfl rfl (J_fieldAddr rfl Try.underlying89 rfl sz2 (by decide) (Opd.tmp rfl) rfl) ?_
            refine RegL.pure (p := (pEq (.int .i64 b_1.Azimuth))) rfl rfl rfl (J_load rfl Try.isAgg2 (Opd.tmp rfl)) ?_
            refine RegL.pure (p := (pEq (.bool (a_0.Azimuth != b_1.Azimuth)))) rfl rfl rfl (J_bin rfl (Opd.tmp rfl) (Opd.tmp rfl) B_neq) ?_
            refine RegL.nil ?_
            refine Ct.then_tr ?_
            refine Tr.weak (Γ' := [(2, (pPtr (cGSector a_0))), (3, (pPtr (cGSector b_1))), (34, (pEq (.bool (a_0.Azimuth != b_1.Azimuth))))]) ⟨rfl, rfl, rfl, trivial⟩ ?_
            refine Tr.cond (Opd.tmp rfl) (fun hc => ?_) (fun hc => ?_)
            · replace h := bif_t hc h
              refine Tr.seq ?_
              refine Tr.region ?_
              refine RegL.pure (p := (pEq (.bool false))) rfl rfl rfl (J_assign rfl Opd.con) ?_
              refine RegL.nil ?_
              refine Ct.then_tr ?_
              refine Tr.weak (Γ' := [(4, (pEq (.bool false)))]) ⟨rfl, trivial⟩ ?_
              refine Tr.ret ?_
              refine Ct.then_ret ?_
              replace h := Option.some.inj h; subst h
              exact Ct.retH1 (Ωx := []) () rfl (RvOk.tmp rfl) rfl
            · replace h := bif_f hc h
              refine Tr.skip ?_
              refine Ct.then_tr ?_
              refine Tr.weak (Γ' := [(2, (pPtr (cGSector a_0))), (3, (pPtr (cGSector b_1)))]) ⟨rfl, rfl, trivial⟩ ?_
              refine Tr.seq ?_
              refine Tr.seq ?_
              refine Tr.region ?_
              refine RegL.pure (p := (pPtr ((cK .i64) a_0.Tilt))) rfl rfl rfl (J_fieldAddr rfl Try.underlying89 rfl sz2 (by decide) (Opd.tmp rfl) rfl) ?_
              refine RegL.pure (p := (pEq (.int .i64 a_0.Tilt))) rfl rfl rfl (J_load rfl Try.isAgg2 (Opd.tmp rfl)) ?_
              refine RegL.pure (p := (pPtr ((cK .i64) b_1.Tilt))) rfl rfl rfl (J_fieldAddr rfl Try.underlying89 rfl sz2 (by decide) (Opd.tmp rfl) rfl) ?_
              refine RegL.pure (p := (pEq (.int .i64 b_1.Tilt))) rfl rfl rfl (J_load rfl Try.isAgg2 (Opd.tmp rfl)) ?_
              refine RegL.pure (p := (pEq (.bool (a_0.Tilt != b_1.Tilt)))) rfl rfl rfl (J_bin rfl (Opd.tmp rfl) (Opd.tmp rfl) B_neq) ?_
              refine RegL.nil ?_
              refine Ct.then_tr ?_
              refine Tr.weak (Γ' := [(2, (pPtr (cGSector a_0))), (3, (pPtr (cGSector b_1))), (39, (pEq (.bool (a_0.Tilt != b_1.Tilt))))]) ⟨rfl, rfl, rfl, trivial⟩ ?_
              refine Tr.cond (Opd.tmp rfl) (fun hc => ?_) (fun hc => ?_)
              · replace h := bif_t hc h
                refine Tr.seq ?_
                refine Tr.region ?_
                refine RegL.pure (p := (pEq (.bool false))) rfl rfl rfl (J_assign rfl Opd.con) ?_
                refine RegL.nil ?_
                refine Ct.then_tr ?_
                refine Tr.weak (Γ' := [(4, (pEq (.bool false)))]) ⟨rfl, trivial⟩ ?_
                refine Tr.ret ?_
                refine Ct.then_ret ?_
                replace h := Option.some.inj h; subst h
                exact Ct.retH1 (Ωx := []) () rfl (RvOk.tmp rfl) rfl
              · replace h := bif_f hc h
                refine Tr.skip ?_
                refine Ct.then_tr ?_
                refine Tr.weak (Γ' := [(2, (pPtr (cGSector a_0))), (3, (pPtr (cGSector b_1)))]) ⟨rfl, rfl, trivial⟩ ?_
                refine Tr.seq ?_
                refine Tr.seq ?_
                refine Tr.region ?_
                refine RegL.pure (p := (pPtr ((cK .i64) a_0.Above))) rfl rfl rfl (J_fieldAddr rfl Try.underlying89 rfl sz2 (by decide) (Opd.tmp rfl) rfl) ?_
                refine RegL.pure (p := (pEq (.int .i64 a_0.Above))) rfl rfl rfl (J_load rfl Try.isAgg2 (Opd.tmp rfl)) ?_
                refine RegL.pure (p := (pPtr ((cK .i64) b_1.Above))) rfl rfl rfl (J_fieldAddr rfl Try.underlying89 rfl sz2 (by decide) (Opd.tmp rfl) rfl) ?_
                refine RegL.pure (p := (pEq (.int .i64 b_1.Above))) rfl rfl rfl (J_load rfl Try.isAgg2 (Opd.tmp rfl)) ?_
                refine RegL.pure (p := (pEq (.bool (a_0.Above != b_1.Above)))) rfl rfl rfl (J_bin rfl (Opd.tmp rfl) (Opd.tmp rfl) B_neq) ?_
                refine RegL.nil ?_
                refine Ct.then_tr ?_
                refine Tr.weak (Γ' := [(2, (pPtr (cGSector a_0))), (3, (pPtr (cGSector b_1))), (44, (pEq (.bool (a_0.Above != b_1.Above))))]) ⟨rfl, rfl, rfl, trivial⟩ ?_
                refine Tr.cond (Opd.tmp rfl) (fun hc => ?_) (fun hc => ?_)
                · replace h := bif_t hc h
                  refine Tr.seq ?_
                  refine Tr.region ?_
                  refine RegL.pure (p := (pEq (.bool false))) rfl rfl rfl (J_assign rfl Opd.con) ?_
                  refine RegL.nil ?_
                  refine Ct.then_tr ?_
                  refine Tr.weak (Γ' := [(4, (pEq (.bool false)))]) ⟨rfl, trivial⟩ ?_
                  refine Tr.ret ?_
                  refine Ct.then_ret ?_
                  replace h := Option.some.inj h; subst h
                  exact Ct.retH1 (Ωx := []) () rfl (RvOk.tmp rfl) rfl
                · replace h := bif_f hc h
                  refine Tr.skip ?_
                  refine Ct.then_tr ?_
                  refine Tr.weak (Γ' := [(2, (pPtr (cGSector a_0))), (3, (pPtr (cGSector b_1)))]) ⟨rfl, rfl, trivial⟩ ?_
                  refine Tr.seq ?_
                  refine Tr.seq ?_
                  refine Tr.region ?_
                  refine RegL.pure (p := (pPtr ((cK .i64) a_0.Channel))) rfl rfl rfl (J_fieldAddr rfl Try.underlying89 rfl sz2 (by decide) (Opd.tmp rfl) rfl) ?_
                  refine RegL.pure (p := (pEq (.int .i64 a_0.Channel))) rfl rfl rfl (J_load rfl Try.isAgg2 (Opd.tmp rfl)) ?_
                  refine RegL.pure (p := (pPtr ((cK .i64) b_1.Channel))) rfl rfl rfl (J_fieldAddr rfl Try.underlying89 rfl sz2 (by decide) (Opd.tmp rfl) rfl) ?_
                  refine RegL.pure (p := (pEq (.int .i64 b_1.Channel))) rfl rfl rfl (J_load rfl Try.isAgg2 (Opd.tmp rfl)) ?_
                  refine RegL.pure (p := (pEq (.bool (a_0.Channel != b_1.Channel)))) rfl rfl rfl (J_bin rfl (Opd.tmp rfl) (Opd.tmp rfl) B_neq) ?_
                  refine RegL.nil ?_
                  refine Ct.then_tr ?_
                  refine Tr.weak (Γ' := [(49, (pEq (.bool (a_0.Channel != b_1.Channel))))]) ⟨rfl, trivial⟩ ?_
                  refine Tr.cond (Opd.tmp rfl) (fun hc => ?_) (fun hc => ?_)
                  · replace h := bif_t hc h
                    refine Tr.seq ?_
                    refine Tr.region ?_
                    refine RegL.pure (p := (pEq (.bool false))) rfl rfl rfl (J_assign rfl Opd.con) ?_
                    refine RegL.nil ?_
                    refine Ct.then_tr ?_
                    refine Tr.weak (Γ' := [(4, (pEq (.bool false)))]) ⟨rfl, trivial⟩ ?_
                    refine Tr.ret ?_
                    refine Ct.then_ret ?_
                    replace h := Option.some.inj h; subst h
                    exact Ct.retH1 (Ωx := []) () rfl (RvOk.tmp rfl) rfl
                  · replace h := bif_f hc h
                    refine Tr.skip ?_
                    refine Ct.then_tr ?_
                    refine Tr.weak (Γ' := []) trivial ?_
                    refine Tr.seq ?_
                    refine Tr.region ?_
                    refine RegL.pure (p := (pEq (.bool true))) rfl rfl rfl (J_assign rfl Opd.con) ?_
                    refine RegL.nil ?_
                    refine Ct.then_tr ?_
                    refine Tr.weak (Γ' := [(4, (pEq (.bool true)))]) ⟨rfl, trivial⟩ ?_
                    refine Tr.ret ?_
                    replace h := Option.some.inj h; subst h
                    exact Ct.retH1 (Ωx := []) () rfl (RvOk.tmp rfl) rfl

theorem c_laws_eqSectorS {a_0 : (List GSector)} {b_1 : (List GSector)} {r : Bool} (h : m_laws_eqSectorS a_0 b_1 = some r) : CallJ Try.prog 78 [(pSl 9 cGSector a_0), (pSl 9 cGSector b_1)] (pEq (.bool r)) := by
  unfold m_laws_eqSectorS at h
  refine CallJ.enterH Try.func78 rfl Try.ntmps78 rfl fun W I0 H => ?_
  refine Tr.weak (Γ' := [(0, (pSl 9 cGSector a_0)), (1, (pSl 9 cGSector b_1))]) ⟨rfl, rfl, trivial⟩ ?_
  refine Tr.seq ?_
  refine Tr.region ?_
  refine RegL.pure (p := (pEq (.bool false))) rfl rfl rfl (J_assign rfl Opd.con) ?_
  refine RegL.nil ?_
  refine Ct.then_tr ?_
  refine Tr.weak (Γ' := [(0, (pSl 9 cGSector a_0)), (1, (pSl 9 cGSector b_1))]) ⟨rfl, rfl, trivial⟩ ?_
  refine Tr.seq ?_
  refine Tr.seq ?_
  refine Tr.region ?_
  refine RegL.pure (p := (pSl 9 cGSector a_0)) rfl rfl rfl (J_move rfl (Opd.tmp rfl)) ?_
  refine RegL.pure (p := (pEq (.int .i64 (a_0.length : Int)))) rfl rfl rfl (J_len rfl Try.underlying58 (Opd.tmp rfl) rfl) ?_
  refine RegL.pure (p := (pSl 9 cGSector b_1)) rfl rfl rfl (J_move rfl (Opd.tmp rfl)) ?_
  refine RegL.pure (p := (pEq (.int .i64 (b_1.length : Int)))) rfl rfl rfl (J_len rfl Try.underlying58 (Opd.tmp rfl) rfl) ?_
  refine RegL.pure (p := (pEq (.bool ((a_0.length : Int) != (b_1.length : Int))))) rfl rfl rfl (J_bin rfl (Opd.tmp rfl) (Opd.tmp rfl) B_neq) ?_
  refine RegL.nil ?_
  refine Ct.then_tr ?_
  refine Tr.weak (Γ' := [(0, (pSl 9 cGSector a_0)), (1, (pSl 9 cGSector b_1)), (10, (pEq (.bool ((a_0.length : Int) != (b_1.length : Int)))))]) ⟨rfl, rfl, rfl, trivial⟩ ?_
  refine Tr.cond (Opd.tmp rfl) (fun hc => ?_) (fun hc => ?_)
  · replace h := bif_t hc h
    refine Tr.seq ?_
    refine Tr.region ?_
    refine RegL.pure (p := (pEq (.bool false))) rfl rfl rfl (J_assign rfl Opd.con) ?_
    refine RegL.nil ?_
    refine Ct.then_tr ?_
    refine Tr.weak (Γ' := [(4, (pEq (.bool false)))]) ⟨rfl, trivial⟩ ?_
    refine Tr.ret ?_
    refine Ct.then_ret ?_
    replace h := Option.some.inj h; subst h
    exact Ct.retH1 (Ωx := []) () rfl (RvOk.tmp rfl) rfl
  · replace h := bif_f hc h
    refine Tr.skip ?_
    refine Ct.then_tr ?_
    refine Tr.weak (Γ' := [(0, (pSl 9 cGSector a_0)), (1, (pSl 9 cGSector b_1))]) ⟨rfl, rfl, trivial⟩ ?_
    refine Tr.seq ?_
    refine Tr.seq ?_
    refine Tr.region ?_
    refine RegL.pure (p := (pEq (.int .i64 (0 : Int)))) rfl rfl rfl (J_assign rfl Opd.con) ?_
    refine RegL.nil ?_
    refine Ct.then_tr ?_
    refine Tr.weak (Γ' := [(0, (pSl 9 cGSector a_0)), (1, (pSl 9 cGSector b_1)), (5, (pEq (.int .i64 (0 : Int))))]) ⟨rfl, rfl, rfl, trivial⟩ ?_
    refine Tr.block ?_
    refine Tr.weak (Γ' := [(0, (pSl 9 cGSector a_0)), (1, (pSl 9 cGSector b_1)), (5, (pEq (.int .i64 (0 : Int))))]) ⟨rfl, rfl, rfl, trivial⟩ ?_
    refine Tr.loop (γ := Unit) (σ := Int) (Γσ := fun s g => [(0, (pSl 9 cGSector a_0)), (1, (pSl 9 cGSector b_1)), (5, (pEq (.int .i64 s)))]) (Ωσ := fun s g => []) (g := ()) h ?_
    clear h
    rintro v2 g3 t h
    replace h : m_laws_eqSectorS_B1 a_0 b_1 v2 = some t := h
    unfold m_laws_eqSectorS_B1 at h
    refine Tr.weakO (Γ' := [(0, (pSl 9 cGSector a_0)), (1, (pSl 9 cGSector b_1)), (5, (pEq (.int .i64 v2)))]) (Ω' := []) rfl ⟨rfl, rfl, rfl, trivial⟩ ?_
    refine Tr.seq ?_
    refine Tr.seq ?_
    refine Tr.region ?_
    refine RegL.pure (p := (pEq (.int .i64 v2))) rfl rfl rfl (J_move rfl (Opd.tmp rfl)) ?_
    refine RegL.pure (p := (pSl 9 cGSector a_0)) rfl rfl rfl (J_move rfl (Opd.tmp rfl)) ?_
    refine RegL.pure (p := (pEq (.int .i64 (a_0.length : Int)))) rfl rfl rfl (J_len rfl Try.underlying58 (Opd.tmp rfl) rfl) ?_
    refine RegL.pure (p := (pEq (.bool (decide (v2 < (a_0.length : Int)))))) rfl rfl rfl (J_bin rfl (Opd.tmp rfl) (Opd.tmp rfl) B_lss) ?_
    refine RegL.nil ?_
    refine Ct.then_tr ?_
    refine Tr.weak (Γ' := [(0, (pSl 9 cGSector a_0)), (1, (pSl 9 cGSector b_1)), (5, (pEq (.int .i64 v2))), (14, (pEq (.bool (decide (v2 < (a_0.length : Int))))))]) ⟨rfl, rfl, rfl, rfl, trivial⟩ ?_
    refine Tr.cond (Opd.tmp rfl) (fun hc => ?_) (fun hc => ?_)
    · replace h := bif_t hc h
      refine Tr.skip ?_
      refine Ct.then_tr ?_
      refine Tr.weak (Γ' := [(0, (pSl 9 cGSector a_0)), (1, (pSl 9 cGSector b_1)), (5, (pEq (.int .i64 v2)))]) ⟨rfl, rfl, rfl, trivial⟩ ?_
      refine Tr.seq ?_
      refine Tr.block ?_
      refine Tr.seq ?_
      replace h := bind_some h; obtain ⟨x4, hx4, h⟩ := h
      replace h := bind_some h; obtain ⟨x5, hx5, h⟩ := h
      replace h := bind_some h; obtain ⟨x6, hx6, h⟩ := h
      refine Tr.drawD (n := 27) (m := 10) (es := [some (Ent.mk [(0, (pSl 9 cGSector a_0))] (pSl 9 cGSector a_0) true), some (Ent.mk [(5, (pEq (.int .i64 v2)))] (pEq (.int .i64 v2)) true), some (Ent.mk [(17, (pSl 9 cGSector a_0)), (18, (pEq (.int .i64 v2)))] (pPtr (cGSector x4)) true), some (Ent.mk [(19, (pPtr (cGSector x4)))] (pAgg (cGSector x4)) true), some (Ent.mk [(1, (pSl 9 cGSector b_1))] (pSl 9 cGSector b_1) true), some (Ent.mk [(5, (pEq (.int .i64 v2)))] (pEq (.int .i64 v2)) true), some (Ent.mk [(21, (pSl 9 cGSector b_1)), (22, (pEq (.int .i64 v2)))] (pPtr (cGSector x5)) true), some (Ent.mk [(23, (pPtr (cGSector x5)))] (pAgg (cGSector x5)) true), some (Ent.mk [(20, (pAgg (cGSector x4))), (24, (pAgg (cGSector x5)))] (pEq (.bool x6)) true), some (Ent.mk [(25, (pEq (.bool x6)))] (pEq (.bool (!x6))) true)]) (rd := [[0], [5], [17, 18], [19], [1], [5], [21, 22], [23], [20, 24], [25]]) rfl hmix (by kernel_rfl) fun hD => ?_
      refine RD.fin (es := [Ent.mk [(0, (pSl 9 cGSector a_0))] (pSl 9 cGSector a_0) true, Ent.mk [(5, (pEq (.int .i64 v2)))] (pEq (.int .i64 v2)) true, Ent.mk [(17, (pSl 9 cGSector a_0)), (18, (pEq (.int .i64 v2)))] (pPtr (cGSector x4)) true, Ent.mk [(19, (pPtr (cGSector x4)))] (pAgg (cGSector x4)) true, Ent.mk [(1, (pSl 9 cGSector b_1))] (pSl 9 cGSector b_1) true, Ent.mk [(5, (pEq (.int .i64 v2)))] (pEq (.int .i64 v2)) true, Ent.mk [(21, (pSl 9 cGSector b_1)), (22, (pEq (.int .i64 v2)))] (pPtr (cGSector x5)) true, Ent.mk [(23, (pPtr (cGSector x5)))] (pAgg (cGSector x5)) true, Ent.mk [(20, (pAgg (cGSector x4))), (24, (pAgg (cGSector x5)))] (pEq (.bool x6)) true, Ent.mk [(25, (pEq (.bool x6)))] (pEq (.bool (!x6))) true]) (done := []) hD ⟨.inr ⟨(OpJ.w (J_move rfl (Opd.tmp rfl))), ⟨rfl, trivial⟩, rfl, rfl⟩, ⟨.inr ⟨(OpJ.w (J_move rfl (Opd.tmp rfl))), ⟨rfl, trivial⟩, rfl, rfl⟩, ⟨.inr ⟨(OpJ.w (J_idx rfl Try.underlying58 sz89 (Opd.tmp rfl) (Opd.tmp rfl) hx4)), ⟨rfl, rfl, trivial⟩, rfl, rfl⟩, ⟨.inr ⟨(OpJ.w (J_loadA rfl Try.isAgg89 sz89 (Opd.tmp rfl) rfl)), ⟨rfl, trivial⟩, rfl, rfl⟩, ⟨.inr ⟨(OpJ.w (J_move rfl (Opd.tmp rfl))), ⟨rfl, trivial⟩, rfl, rfl⟩, ⟨.inr ⟨(OpJ.w (J_move rfl (Opd.tmp rfl))), ⟨rfl, trivial⟩, rfl, rfl⟩, ⟨.inr ⟨(OpJ.w (J_idx rfl Try.underlying58 sz89 (Opd.tmp rfl) (Opd.tmp rfl) hx5)), ⟨rfl, rfl, trivial⟩, rfl, rfl⟩, ⟨.inr ⟨(OpJ.w (J_loadA rfl Try.isAgg89 sz89 (Opd.tmp rfl) rfl)), ⟨rfl, trivial⟩, rfl, rfl⟩, ⟨.inr ⟨(OpJ.w (J_call rfl Try.call116 (c_laws_eqSector hx6) (Opds.cons (Opd.tmp rfl) (Opds.cons (Opd.tmp rfl) Opds.nil)))), ⟨rfl, rfl, trivial⟩, rfl, rfl⟩, ⟨.inr ⟨(OpJ.w (J_not rfl (Opd.tmp rfl))), ⟨rfl, trivial⟩, rfl, rfl⟩, trivial⟩⟩⟩⟩⟩⟩⟩⟩⟩⟩ ?_
      refine RegL.nil ?_
      refine Ct.then_tr ?_
      refine Tr.weak (Γ' := [(0, (pSl 9 cGSector a_0)), (1, (pSl 9 cGSector b_1)), (5, (pEq (.int .i64 v2))), (26, (pEq (.bool (!x6))))]) ⟨rfl, rfl, rfl, rfl, trivial⟩ ?_
      refine Tr.cond (Opd.tmp rfl) (fun hc => ?_) (fun hc => ?_)
      · replace h := bif_t hc h
        refine Tr.seq ?_
        refine Tr.region ?_
        refine RegL.pure (p := (pEq (.bool false))) rfl rfl rfl (J_assign rfl Opd.con) ?_
        refine RegL.nil ?_
        refine Ct.then_tr ?_
        refine Tr.weak (Γ' := [(4, (pEq (.bool false)))]) ⟨rfl, trivial⟩ ?_
        refine Tr.ret ?_
        refine Ct.blk_ret ?_
        refine Ct.then_ret ?_
        replace h := map_some h; obtain ⟨r1, h, rfl⟩ := h
        refine Ct.out_ret fun e => ?_
        subst e
        refine Ct.blk_ret ?_
        refine Ct.then_ret ?_
        replace h := Option.some.inj h; subst h
        exact Ct.retH1 (Ωx := []) () rfl (RvOk.tmp rfl) rfl
      · replace h := bif_f hc h
        refine Tr.skip ?_
        refine Ct.blk_normal ?_
        refine Ct.then_tr ?_
        refine Tr.weak (Γ' := [(0, (pSl 9 cGSector a_0)), (1, (pSl 9 cGSector b_1)), (5, (pEq (.int .i64 v2)))]) ⟨rfl, rfl, rfl, trivial⟩ ?_
        refine Tr.region ?_
        refine RegL.pure (p := (pEq (.int .i64 v2))) rfl rfl rfl (J_move rfl (Opd.tmp rfl)) ?_
        refine RegL.pure (p := (pEq (.int .i64 (w64 (v2 + (1 : Int)))))) rfl rfl rfl (J_bin rfl (Opd.tmp rfl) Opd.con B_add) ?_
        refine RegL.pure (p := (pEq (.int .i64 (w64 (v2 + (1 : Int)))))) rfl rfl rfl (J_assign rfl (Opd.tmp rfl)) ?_
        refine RegL.nil ?_
        replace h := Option.some.inj h; subst h
        exact Ct.again () rfl ⟨rfl, rfl, rfl, trivial⟩
    · replace h := bif_f hc h
      refine Tr.exit ?_
      refine Ct.then_exit ?_
      replace h := map_some h; obtain ⟨r1, h, rfl⟩ := h
      refine Ct.out_exit fun e => ?_
      subst e
      refine Ct.blk_exit ?_
      refine Ct.then_tr ?_
      refine Tr.weak (Γ' := []) trivial ?_
      refine Tr.seq ?_
      refine Tr.region ?_
      refine RegL.pure (p := (pEq (.bool true))) rfl rfl rfl (J_assign rfl Opd.con) ?_
      refine RegL.nil ?_
      refine Ct.then_tr ?_
      refine Tr.weak (Γ' := [(4, (pEq (.bool true)))]) ⟨rfl, trivial⟩ ?_
      refine Tr.ret ?_
      replace h := Option.some.inj h; subst h
      exact Ct.retH1 (Ωx := []) () rfl (RvOk.tmp rfl) rfl

theorem c_laws_eqInt64S {a_0 : (List Int)} {b_1 : (List Int)} {r : Bool} (h : m_laws_eqInt64S a_0 b_1 = some r) : CallJ Try.prog 13 [(pSl 1 (cK .i64) a_0), (pSl 1 (cK .i64) b_1)] (pEq (.bool r)) := by
  unfold m_laws_eqInt64S at h
  refine CallJ.enterH Try.func13 rfl Try.ntmps13 rfl fun W I0 H => ?_
  refine Tr.weak (Γ' := [(0, (pSl 1 (cK .i64) a_0)), (1, (pSl 1 (cK .i64) b_1))]) ⟨rfl, rfl, trivial⟩ ?_
  refine Tr.seq ?_
  refine Tr.region ?_
  refine RegL.pure (p := (pEq (.bool false))) rfl rfl rfl (J_assign rfl Opd.con) ?_
  refine RegL.nil ?_
  refine Ct.then_tr ?_
  refine Tr.weak (Γ' := [(0, (pSl 1 (cK .i64) a_0)), (1, (pSl 1 (cK .i64) b_1))]) ⟨rfl, rfl, trivial⟩ ?_
  refine Tr.seq ?_
  refine Tr.seq ?_
  refine Tr.region ?_
  refine RegL.pure (p := (pSl 1 (cK .i64) a_0)) rfl rfl rfl (J_move rfl (Opd.tmp rfl)) ?_
  refine RegL.pure (p := (pEq (.int .i64 (a_0.length : Int)))) rfl rfl rfl (J_len rfl Try.underlying23 (Opd.tmp rfl) rfl) ?_
  refine RegL.pure (p := (pSl 1 (cK .i64) b_1)) rfl rfl rfl (J_move rfl (Opd.tmp rfl)) ?_
  refine RegL.pure (p := (pEq (.int .i64 (b_1.length : Int)))) rfl rfl rfl (J_len rfl Try.underlying23 (Opd.tmp rfl) rfl) ?_
  refine RegL.pure (p := (pEq (.bool ((a_0.length : Int) != (b_1.length : Int))))) rfl rfl rfl (J_bin rfl (Opd.tmp rfl) (Opd.tmp rfl) B_neq) ?_
  refine RegL.nil ?_
  refine Ct.then_tr ?_
  refine Tr.weak (Γ' := [(0, (pSl 1 (cK .i64) a_0)), (1, (pSl 1 (cK .i64) b_1)), (10, (pEq (.bool ((a_0.length : Int) != (b_1.length : Int)))))]) ⟨rfl, rfl, rfl, trivial⟩ ?_
  refine Tr.cond (Opd.tmp rfl) (fun hc => ?_) (fun hc => ?_)
  · replace h := bif_t hc h
    refine Tr.seq ?_
    refine Tr.region ?_
    refine RegL.pure (p := (pEq (.bool false))) rfl rfl rfl (J_assign rfl Opd.con) ?_
    refine RegL.nil ?_
    refine Ct.then_tr ?_
    refine Tr.weak (Γ' := [(4, (pEq (.bool false)))]) ⟨rfl, trivial⟩ ?_
    refine Tr.ret ?_
    refine Ct.then_ret ?_
    replace h := Option.some.inj h; subst h
    exact Ct.retH1 (Ωx := []) () rfl (RvOk.tmp rfl) rfl
  · replace h := bif_f hc h
    refine Tr.skip ?_
    refine Ct.then_tr ?_
    refine Tr.weak (Γ' := [(0, (pSl 1 (cK .i64) a_0)), (1, (pSl 1 (cK .i64) b_1))]) ⟨rfl, rfl, trivial⟩ ?_
    refine Tr.seq ?_
    refine Tr.seq ?_
    refine Tr.region ?_
    refine RegL.pure (p := (pEq (.int .i64 (0 : Int)))) rfl rfl rfl (J_assign rfl Opd.con) ?_
    refine RegL.nil ?_
    refine Ct.then_tr ?_
    refine Tr.weak (Γ' := [(0, (pSl 1 (cK .i64) a_0)), (1, (pSl 1 (cK .i64) b_1)), (5, (pEq (.int .i64 (0 : Int))))]) ⟨rfl, rfl, rfl, trivial⟩ ?_
    refine Tr.block ?_
    refine Tr.weak (Γ' := [(0, (pSl 1 (cK .i64) a_0)), (1, (pSl 1 (cK .i64) b_1)), (5, (pEq (.int .i64 (0 : Int))))]) ⟨rfl, rfl, rfl, trivial⟩ ?_
    refine Tr.loop (γ := Unit) (σ := Int) (Γσ := fun s g => [(0, (pSl 1 (cK .i64) a_0)), (1, (pSl 1 (cK .i64) b_1)), (5, (pEq (.int .i64 s)))]) (Ωσ := fun s g => []) (g := ()) h ?_
    clear h
    rintro v2 g3 t h
    replace h : m_laws_eqInt64S_B1 a_0 b_1 v2 = some t := h
    unfold m_laws_eqInt64S_B1 at h
    refine Tr.weakO (Γ' := [(0, (pSl 1 (cK .i64) a_0)), (1, (pSl 1 (cK .i64) b_1)), (5, (pEq (.int .i64 v2)))]) (Ω' := []) rfl ⟨rfl, rfl, rfl, trivial⟩ ?_
    refine Tr.seq ?_
    refine Tr.seq ?_
    refine Tr.region ?_
    refine RegL.pure (p := (pEq (.int .i64 v2))) rfl rfl rfl (J_move rfl (Opd.tmp rfl)) ?_
    refine RegL.pure (p := (pSl 1 (cK .i64) a_0)) rfl rfl rfl (J_move rfl (Opd.tmp rfl)) ?_
    refine RegL.pure (p := (pEq (.int .i64 (a_0.length : Int)))) rfl rfl rfl (J_len rfl Try.underlying23 (Opd.tmp rfl) rfl) ?_
    refine RegL.pure (p := (pEq (.bool (decide (v2 < (a_0.length : Int)))))) rfl rfl rfl (J_bin rfl (Opd.tmp rfl) (Opd.tmp rfl) B_lss) ?_
    refine RegL.nil ?_
    refine Ct.then_tr ?_
    refine Tr.weak (Γ' := [(0, (pSl 1 (cK .i64) a_0)), (1, (pSl 1 (cK .i64) b_1)), (5, (pEq (.int .i64 v2))), (14, (pEq (.bool (decide (v2 < (a_0.length : Int))))))]) ⟨rfl, rfl, rfl, rfl, trivial⟩ ?_
    refine Tr.cond (Opd.tmp rfl) (fun hc => ?_) (fun hc => ?_)
    · replace h := bif_t hc h
      refine Tr.skip ?_
      refine Ct.then_tr ?_
      refine Tr.weak (Γ' := [(0, (pSl 1 (cK .i64) a_0)), (1, (pSl 1 (cK .i64) b_1)), (5, (pEq (.int .i64 v2)))]) ⟨rfl, rfl, rfl, trivial⟩ ?_
      refine Tr.seq ?_
      refine Tr.block ?_
      refine Tr.seq ?_
      replace h := bind_some h; obtain ⟨x4, hx4, h⟩ := h
      replace h := bind_some h; obtain ⟨x5, hx5, h⟩ := h
      refine Tr.drawD (n := 26) (m := 9) (es := [some (Ent.mk [(0, (pSl 1 (cK .i64) a_0))] (pSl 1 (cK .i64) a_0) true), some (Ent.mk [(5, (pEq (.int .i64 v2)))] (pEq (.int .i64 v2)) true), some (Ent.mk [(17, (pSl 1 (cK .i64) a_0)), (18, (pEq (.int .i64 v2)))] (pPtr ((cK .i64) x4)) true), some (Ent.mk [(19, (pPtr ((cK .i64) x4)))] (pEq (.int .i64 x4)) true), some (Ent.mk [(1, (pSl 1 (cK .i64) b_1))] (pSl 1 (cK .i64) b_1) true), some (Ent.mk [(5, (pEq (.int .i64 v2)))] (pEq (.int .i64 v2)) true), some (Ent.mk [(21, (pSl 1 (cK .i64) b_1)), (22, (pEq (.int .i64 v2)))] (pPtr ((cK .i64) x5)) true), some (Ent.mk [(23, (pPtr ((cK .i64) x5)))] (pEq (.int .i64 x5)) true), some (Ent.mk [(20, (pEq (.int .i64 x4))), (24, (pEq (.int .i64 x5)))] (pEq (.bool (x4 != x5))) true)]) (rd := [[0], [5], [17, 18], [19], [1], [5], [21, 22], [23], [20, 24]]) rfl hmix (by kernel_rfl) fun hD => ?_
      refine RD.fin (es := [Ent.mk [(0, (pSl 1 (cK .i64) a_0))] (pSl 1 (cK .i64) a_0) true, Ent.mk [(5, (pEq (.int .i64 v2)))] (pEq (.int .i64 v2)) true, Ent.mk [(17, (pSl 1 (cK .i64) a_0)), (18, (pEq (.int .i64 v2)))] (pPtr ((cK .i64) x4)) true, Ent.mk [(19, (pPtr ((cK .i64) x4)))] (pEq (.int .i64 x4)) true, Ent.mk [(1, (pSl 1 (cK .i64) b_1))] (pSl 1 (cK .i64) b_1) true, Ent.mk [(5, (pEq (.int .i64 v2)))] (pEq (.int .i64 v2)) true, Ent.mk [(21, (pSl 1 (cK .i64) b_1)), (22, (pEq (.int .i64 v2)))] (pPtr ((cK .i64) x5)) true, Ent.mk [(23, (pPtr ((cK .i64) x5)))] (pEq (.int .i64 x5)) true, Ent.mk [(20, (pEq (.int .i64 x4))), (24, (pEq (.int .i64 x5)))] (pEq (.bool (x4 != x5))) true]) (done := []) hD ⟨.inr ⟨(OpJ.w (J_move rfl (Opd.tmp rfl))), ⟨rfl, trivial⟩, rfl, rfl⟩, ⟨.inr ⟨(OpJ.w (J_move rfl (Opd.tmp rfl))), ⟨rfl, trivial⟩, rfl, rfl⟩, ⟨.inr ⟨(OpJ.w (J_idx rfl Try.underlying23 sz2 (Opd.tmp rfl) (Opd.tmp rfl) hx4)), ⟨rfl, rfl, trivial⟩, rfl, rfl⟩, ⟨.inr ⟨(OpJ.w (J_load rfl Try.isAgg2 (Opd.tmp rfl))), ⟨rfl, trivial⟩, rfl, rfl⟩, ⟨.inr ⟨(OpJ.w (J_move rfl (Opd.tmp rfl))), ⟨rfl, trivial⟩, rfl, rfl⟩, ⟨.inr ⟨(OpJ.w (J_move rfl (Opd.tmp rfl))), ⟨rfl, trivial⟩, rfl, rfl⟩, ⟨.inr ⟨(OpJ.w (J_idx rfl Try.underlying23 sz2 (Opd.tmp rfl) (Opd.tmp rfl) hx5)), ⟨rfl, rfl, trivial⟩, rfl, rfl⟩, ⟨.inr ⟨(OpJ.w (J_load rfl Try.isAgg2 (Opd.tmp rfl))), ⟨rfl, trivial⟩, rfl, rfl⟩, ⟨.inr ⟨(OpJ.w (J_bin rfl (Opd.tmp rfl) (Opd.tmp rfl) B_neq)), ⟨rfl, rfl, trivial⟩, rfl, rfl⟩, trivial⟩⟩⟩⟩⟩⟩⟩⟩⟩ ?_
      refine RegL.nil ?_
      refine Ct.then_tr ?_
      refine Tr.weak (Γ' := [(0, (pSl 1 (cK .i64) a_0)), (1, (pSl 1 (cK .i64) b_1)), (5, (pEq (.int .i64 v2))), (25, (pEq (.bool (x4 != x5))))]) ⟨rfl, rfl, rfl, rfl, trivial⟩ ?_
      refine Tr.cond (Opd.tmp rfl) (fun hc => ?_) (fun hc => ?_)
      · replace h := bif_t hc h
        refine Tr.seq ?_
        refine Tr.region ?_
        refine RegL.pure (p := (pEq (.bool false))) rfl rfl rfl (J_assign rfl Opd.con) ?_
        refine RegL.nil ?_
        refine Ct.then_tr ?_
        refine Tr.weak (Γ' := [(4, (pEq (.bool false)))]) ⟨rfl, trivial⟩ ?_
        refine Tr.ret ?_
        refine Ct.blk_ret ?_
        refine Ct.then_ret ?_
        replace h := map_some h; obtain ⟨r1, h, rfl⟩ := h
        refine Ct.out_ret fun e => ?_
        subst e
        refine Ct.blk_ret ?_
        refine Ct.then_ret ?_
        replace h := Option.some.inj h; subst h
        exact Ct.retH1 (Ωx := []) () rfl (RvOk.tmp rfl) rfl
      · replace h := bif_f hc h
        refine Tr.skip ?_
        refine Ct.blk_normal ?_
        refine Ct.then_tr ?_
        refine Tr.weak (Γ' := [(0, (pSl 1 (cK .i64) a_0)), (1, (pSl 1 (cK .i64) b_1)), (5, (pEq (.int .i64 v2)))]) ⟨rfl, rfl, rfl, trivial⟩ ?_
        refine Tr.region ?_
        refine RegL.pure (p := (pEq (.int .i64 v2))) rfl rfl rfl (J_move rfl (Opd.tmp rfl)) ?_
        refine RegL.pure (p := (pEq (.int .i64 (w64 (v2 + (1 : Int)))))) rfl rfl rfl (J_bin rfl (Opd.tmp rfl) Opd.con B_add) ?_
        refine RegL.pure (p := (pEq (.int .i64 (w64 (v2 + (1 : Int)))))) rfl rfl rfl (J_assign rfl (Opd.tmp rfl)) ?_
        refine RegL.nil ?_
        replace h := Option.some.inj h; subst h
        exact Ct.again () rfl ⟨rfl, rfl, rfl, trivial⟩
    · replace h := bif_f hc h
      refine Tr.exit ?_
      refine Ct.then_exit ?_
      replace h := map_some h; obtain ⟨r1, h, rfl⟩ := h
      refine Ct.out_exit fun e => ?_
      subst e
      refine Ct.blk_exit ?_
      refine Ct.then_tr ?_
      refine Tr.weak (Γ' := []) trivial ?_
      refine Tr.seq ?_
      refine Tr.region ?_
      refine RegL.pure (p := (pEq (.bool true))) rfl rfl rfl (J_assign rfl Opd.con) ?_
      refine RegL.nil ?_
      refine Ct.then_tr ?_
      refine Tr.weak (Γ' := [(4, (pEq (.bool true)))]) ⟨rfl, trivial⟩ ?_
      refine Tr.ret ?_
      replace h := Option.some.inj h; subst h
      exact Ct.retH1 (Ωx := []) () rfl (RvOk.tmp rfl) rfl

theorem c_laws_eqAntenna {a_0 : GAntenna} {b_1 : GAntenna} {r : Bool} (h : m_laws_eqAntenna a_0 b_1 = some r) : CallJ Try.prog 117 [(pAgg (cGAntenna a_0)), (pAgg (cGAntenna b_1))] (pEq (.bool r)) := by
  unfold m_laws_eqAntenna at h
  refine CallJ.enterH Try.func117 rfl Try.ntmps117 rfl fun W I0 H => ?_
  refine Tr.weak (Γ' := [(0, (pAgg (cGAntenna a_0))), (1, (pAgg (cGAntenna b_1)))]) ⟨rfl, rfl, trivial⟩ ?_
  refine Tr.seq ?_
  refine Tr.region ?_
  refine RegL.pure (p := (pPtr (cGAntenna a_0))) rfl rfl rfl (J_boxA rfl (Opd.tmp rfl)) ?_
  refine RegL.pure (p := (pPtr (cGAntenna b_1))) rfl rfl rfl (J_boxA rfl (Opd.tmp rfl)) ?_
  refine RegL.pure (p := (pEq (.bool false))) rfl rfl rfl (J_assign rfl Opd.con) ?_
  refine RegL.nil ?_
  refine Ct.then_tr ?_
  refine Tr.weak (Γ' := [(2, (pPtr (cGAntenna a_0))), (3, (pPtr (cGAntenna b_1)))]) ⟨rfl, rfl, trivial⟩ ?_
  refine Tr.seq ?_
  refine Tr.seq ?_
  refine Tr.region ?_
  refine RegL.pure (p := (pPtr (cS a_0.Name))) rfl rfl rfl (J_fieldAddr rfl Try.underlying92 rfl sz9 (by decide) (Opd.tmp rfl) rfl) ?_
  refine RegL.pure (p := (pEq (.string a_0.Name))) rfl rfl rfl (J_load rfl Try.isAgg9 (Opd.tmp rfl)) ?_
  refine RegL.pure (p := (pPtr (cS b_1.Name))) rfl rfl rfl (J_fieldAddr rfl Try.underlying92 rfl sz9 (by decide) (Opd.tmp rfl) rfl) ?_
  refine RegL.pure (p := (pEq (.string b_1.Name))) rfl rfl rfl (J_load rfl Try.isAgg9 (Opd.tmp rfl)) ?_
  refine RegL.pure (p := (pEq (.bool (!(a_0.Name.toList == b_1.Name.toList))))) rfl rfl rfl (J_bin rfl (Opd.tmp rfl) (Opd.tmp rfl) B_sneq) ?_
  refine RegL.nil ?_
  refine Ct.then_tr ?_
  refine Tr.weak (Γ' := [(2, (pPtr (cGAntenna a_0))), (3, (pPtr (cGAntenna b_1))), (9, (pEq (.bool (!(a_0.Name.toList == b_1.Name.toList)))))]) ⟨rfl, rfl, rfl, trivial⟩ ?_
  refine Tr.cond (Opd.tmp rfl) (fun hc => ?_) (fun hc => ?_)
  · replace h := bif_t hc h
    refine Tr.seq ?_
    refine Tr.region ?_
    refine RegL.pure (p := (pEq (.bool false))) rfl rfl rfl (J_assign rfl Opd.con) ?_
    refine RegL.nil ?_
    refine Ct.then_tr ?_
    refine Tr.weak (Γ' := [(4, (pEq (.bool false)))]) ⟨rfl, trivial⟩ ?_
    refine Tr.ret ?_
    refine Ct.then_ret ?_
    replace h := Option.some.inj h; subst h
    exact Ct.retH1 (Ωx := []) () rfl (RvOk.tmp rfl) rfl
  · replace h := bif_f hc h
    refine Tr.skip ?_
    refine Ct.then_tr ?_
    refine Tr.weak (Γ' := [(2, (pPtr (cGAntenna a_0))), (3, (pPtr (cGAntenna b_1)))]) ⟨rfl, rfl, trivial⟩ ?_
    refine Tr.seq ?_
    refine Tr.seq ?_
    refine Tr.region ?_
    refine RegL.pure (p := (pPtr ((cK .i64) a_0.Gain))) rfl rfl rfl (J_fieldAddr rfl Try.underlying92 rfl sz2 (by decide) (Opd.tmp rfl) rfl) ?_
    refine RegL.pure (p := (pEq (.int .i64 a_0.Gain))) rfl rfl rfl (J_load rfl Try.isAgg2 (Opd.tmp rfl)) ?_
    refine RegL.pure (p := (pPtr ((cK .i64) b_1.Gain))) rfl rfl rfl (J_fieldAddr rfl Try.underlying92 rfl sz2 (by decide) (Opd.tmp rfl) rfl) ?_
    refine RegL.pure (p := (pEq (.int .i64 b_1.Gain))) rfl rfl rfl (J_load rfl Try.isAgg2 (Opd.tmp rfl)) ?_
    refine RegL.pure (p := (pEq (.bool (a_0.Gain != b_1.Gain)))) rfl rfl rfl (J_bin rfl (Opd.tmp rfl) (Opd.tmp rfl) B_neq) ?_
    refine RegL.nil ?_
    refine Ct.then_tr ?_
    refine Tr.weak (Γ' := [(2, (pPtr (cGAntenna a_0))), (3, (pPtr (cGAntenna b_1))), (14, (pEq (.bool (a_0.Gain != b_1.Gain))))]) ⟨rfl, rfl, rfl, trivial⟩ ?_
    refine Tr.cond (Opd.tmp rfl) (fun hc => ?_) (fun hc => ?_)
    · replace h := bif_t hc h
      refine Tr.seq ?_
      refine Tr.region ?_
      refine RegL.pure (p := (pEq (.bool false))) rfl rfl rfl (J_assign rfl Opd.con) ?_
      refine RegL.nil ?_
      refine Ct.then_tr ?_
      refine Tr.weak (Γ' := [(4, (pEq (.bool false)))]) ⟨rfl, trivial⟩ ?_
      refine Tr.ret ?_
      refine Ct.then_ret ?_
      replace h := Option.some.inj h; subst h
      exact Ct.retH1 (Ωx := []) () rfl (RvOk.tmp rfl) rfl
    · replace h := bif_f hc h
      refine Tr.skip ?_
      refine Ct.then_tr ?_
      refine Tr.weak (Γ' := [(2, (pPtr (cGAntenna a_0))), (3, (pPtr (cGAntenna b_1)))]) ⟨rfl, rfl, trivial⟩ ?_
      refine Tr.seq ?_
      refine Tr.seq ?_
      refine Tr.region ?_
      refine RegL.pure (p := (pPtr ((cSl 1 (cK .i64)) a_0.Horizontal))) rfl rfl rfl (J_fieldAddr rfl Try.underlying92 rfl sz23 (by decide) (Opd.tmp rfl) rfl) ?_
      refine RegL.pure (p := (pSl 1 (cK .i64) a_0.Horizontal)) rfl rfl rfl (J_load rfl Try.isAgg23 (Opd.tmp rfl)) ?_
      refine RegL.pure (p := (pPtr ((cSl 1 (cK .i64)) b_1.Horizontal))) rfl rfl rfl (J_fieldAddr rfl Try.underlying92 rfl sz23 (by decide) (Opd.tmp rfl) rfl) ?_
      refine RegL.pure (p := (pSl 1 (cK .i64) b_1.Horizontal)) rfl rfl rfl (J_load rfl Try.isAgg23 (Opd.tmp rfl)) ?_
      replace h := bind_some h; obtain ⟨x1, hx1, h⟩ := h
      refine RegL.pure (p := (pEq (.bool x1))) rfl rfl rfl (J_call rfl Try.call13 (c_laws_eqInt64S hx1) (Opds.cons (Opd.tmp rfl) (Opds.cons (Opd.tmp rfl) Opds.nil))) ?_
      refine RegL.pure (p := (pEq (.bool (!x1)))) rfl rfl rfl (J_not rfl (Opd.tmp rfl)) ?_
      refine RegL.nil ?_
      refine Ct.then_tr ?_
      refine Tr.weak (Γ' := [(2, (pPtr (cGAntenna a_0))), (3, (pPtr (cGAntenna b_1))), (20, (pEq (.bool (!x1))))]) ⟨rfl, rfl, rfl, trivial⟩ ?_
      refine Tr.cond (Opd.tmp rfl) (fun hc => ?_) (fun hc => ?_)
      · replace h := bif_t hc h
        refine Tr.seq ?_
        refine Tr.region ?_
        refine RegL.pure (p := (pEq (.bool false))) rfl rfl rfl (J_assign rfl Opd.con) ?_
        refine RegL.nil ?_
        refine Ct.then_tr ?_
        refine Tr.weak (Γ' := [(4, (pEq (.bool false)))]) ⟨rfl, trivial⟩ ?_
        refine Tr.ret ?_
        refine Ct.then_ret ?_
        replace h := Option.some.inj h; subst h
        exact Ct.retH1 (Ωx := []) () rfl (RvOk.tmp rfl) rfl
      · replace h := bif_f hc h
        refine Tr.skip ?_
        refine Ct.then_tr ?_
        refine Tr.weak (Γ' := [(2, (pPtr (cGAntenna a_0))), (3, (pPtr (cGAntenna b_1)))]) ⟨rfl, rfl, trivial⟩ ?_
        refine Tr.seq ?_
        refine Tr.seq ?_
        refine Tr.region ?_
        refine RegL.pure (p := (pPtr ((cSl 1 (cK .i64)) a_0.Vertical))) rfl rfl rfl (J_fieldAddr rfl Try.underlying92 rfl sz23 (by decide) (Opd.tmp rfl) rfl) ?_
        refine RegL.pure (p := (pSl 1 (cK .i64) a_0.Vertical)) rfl rfl rfl (J_load rfl Try.isAgg23 (Opd.tmp rfl)) ?_
        refine RegL.pure (p := (pPtr ((cSl 1 (cK .i64)) b_1.Vertical))) rfl rfl rfl (J_fieldAddr rfl Try.underlying92 rfl sz23 (by decide) (Opd.tmp rfl) rfl) ?_
        refine RegL.pure (p := (pSl 1 (cK .i64) b_1.Vertical)) rfl rfl rfl (J_load rfl Try.isAgg23 (Opd.tmp rfl)) ?_
        replace h := bind_some h; obtain ⟨x2, hx2, h⟩ := h
        refine RegL.pure (p := (pEq (.bool x2))) rfl rfl rfl (J_call rfl Try.call13 (c_laws_eqInt64S hx2) (Opds.cons (Opd.tmp rfl) (Opds.cons (Opd.tmp rfl) Opds.nil))) ?_
        refine RegL.pure (p := (pEq (.bool (!x2)))) rfl rfl rfl (J_not rfl (Opd.tmp rfl)) ?_
        refine RegL.nil ?_
        refine Ct.then_tr ?_
        refine Tr.weak (Γ' := [(26, (pEq (.bool (!x2))))]) ⟨rfl, trivial⟩ ?_
        refine Tr.cond (Opd.tmp rfl) (fun hc => ?_) (fun hc => ?_)
        · replace h := bif_t hc h
          refine Tr.seq ?_
          refine Tr.region ?_
          refine RegL.pure (p := (pEq (.bool false))) rfl rfl rfl (J_assign rfl Opd.con) ?_
          refine RegL.nil ?_
          refine Ct.then_tr ?_
          refine Tr.weak (Γ' := [(4, (pEq (.bool false)))]) ⟨rfl, trivial⟩ ?_
          refine Tr.ret ?_
          refine Ct.then_ret ?_
          replace h := Option.some.inj h; subst h
          exact Ct.retH1 (Ωx := []) () rfl (RvOk.tmp rfl) rfl
        · replace h := bif_f hc h
          refine Tr.skip ?_
          refine Ct.then_tr ?_
          refine Tr.weak (Γ' := []) trivial ?_
          refine Tr.seq ?_
          refine Tr.region ?_
          refine RegL.pure (p := (pEq (.bool true))) rfl rfl rfl (J_assign rfl Opd.con) ?_
          refine RegL.nil ?_
          refine Ct.then_tr ?_
          refine Tr.weak (Γ' := [(4, (pEq (.bool true)))]) ⟨rfl, trivial⟩ ?_
          refine Tr.ret ?_
          replace h := Option.some.inj h; subst h
          exact Ct.retH1 (Ωx := []) () rfl (RvOk.tmp rfl) rfl


end Go.Proofs.Ytipkpdobbeggnaa.fnExactSameNetworkW
