/-
  The walks that the law FnExactExceedanceOf reaches: each function computes its model. Printed by our own program.
-/
import Derived.Test.YtbogkiihgejbnaaProg
import Derived.Test.YtbogkiihgejbnaaMod
import Derived.KernelRfl
namespace Go.Proofs.Ytbogkiihgejbnaa.fnExactExceedanceOfW
open Go Go.RowKit Go.Wk
set_option linter.unusedVariables false
set_option maxRecDepth 100000
theorem hmix : Try.prog.follows .mixedOrders = true := by kernel_rfl
theorem sz2 : ∀ w, (Go.sizeOf 2).run Try.prog w = .ok 1 w := fun _ => by kernel_rfl
theorem sz51 : ∀ w, (Go.sizeOf 51).run Try.prog w = .ok 2 w := fun _ => by kernel_rfl
theorem sz52 : ∀ w, (Go.sizeOf 52).run Try.prog w = .ok 14 w := fun _ => by kernel_rfl
theorem zero52 : Zero Try.prog 52 ((cArr (cArr (cK .i64))) (List.replicate 7 (List.replicate 2 (0 : Int)))) := ⟨(.agg #[.int .i64 0, .int .i64 0, .int .i64 0, .int .i64 0, .int .i64 0, .int .i64 0, .int .i64 0, .int .i64 0, .int .i64 0, .int .i64 0, .int .i64 0, .int .i64 0, .int .i64 0, .int .i64 0]), [.int .i64 0, .int .i64 0, .int .i64 0, .int .i64 0, .int .i64 0, .int .i64 0, .int .i64 0, .int .i64 0, .int .i64 0, .int .i64 0, .int .i64 0, .int .i64 0, .int .i64 0, .int .i64 0], fun _ => by kernel_rfl, rfl, fun _ _ => ⟨rfl, ⟨rfl, ⟨rfl, ⟨rfl, ⟨rfl, ⟨rfl, ⟨rfl, ⟨rfl, ⟨rfl, ⟨rfl, ⟨rfl, ⟨rfl, ⟨rfl, ⟨rfl, trivial⟩⟩⟩⟩⟩⟩⟩⟩⟩⟩⟩⟩⟩⟩⟩
theorem bl51 : ∀ ps, Try.prog.built 51 ps = Instr.fill (fun i => some (i * 1, 1)) (List.toArray [.int .i64 0, .int .i64 0]) ps := fun _ => by kernel_rfl
theorem bz51 : ∀ I w, Vals I w [(pEq (.int .i64 (0 : Int))), (pEq (.int .i64 (0 : Int)))] [.int .i64 0, .int .i64 0] := fun _ _ => ⟨rfl, ⟨rfl, trivial⟩⟩
theorem bl52 : ∀ ps, Try.prog.built 52 ps = Instr.fill (fun i => some (i * 2, 2)) (List.toArray [.int .i64 0, .int .i64 0, .int .i64 0, .int .i64 0, .int .i64 0, .int .i64 0, .int .i64 0, .int .i64 0, .int .i64 0, .int .i64 0, .int .i64 0, .int .i64 0, .int .i64 0, .int .i64 0]) ps := fun _ => by kernel_rfl
theorem bz52 : ∀ I w, Vals I w [(pEq (.int .i64 (0 : Int))), (pEq (.int .i64 (0 : Int))), (pEq (.int .i64 (0 : Int))), (pEq (.int .i64 (0 : Int))), (pEq (.int .i64 (0 : Int))), (pEq (.int .i64 (0 : Int))), (pEq (.int .i64 (0 : Int))), (pEq (.int .i64 (0 : Int))), (pEq (.int .i64 (0 : Int))), (pEq (.int .i64 (0 : Int))), (pEq (.int .i64 (0 : Int))), (pEq (.int .i64 (0 : Int))), (pEq (.int .i64 (0 : Int))), (pEq (.int .i64 (0 : Int)))] [.int .i64 0, .int .i64 0, .int .i64 0, .int .i64 0, .int .i64 0, .int .i64 0, .int .i64 0, .int .i64 0, .int .i64 0, .int .i64 0, .int .i64 0, .int .i64 0, .int .i64 0, .int .i64 0] := fun _ _ => ⟨rfl, ⟨rfl, ⟨rfl, ⟨rfl, ⟨rfl, ⟨rfl, ⟨rfl, ⟨rfl, ⟨rfl, ⟨rfl, ⟨rfl, ⟨rfl, ⟨rfl, ⟨rfl, trivial⟩⟩⟩⟩⟩⟩⟩⟩⟩⟩⟩⟩⟩⟩
theorem el2i : (Try.prog.info? 2).map (fun i => (i.zero, i.size, i.bytes)) = some (some (.int .i64 0), 1, 8) := by kernel_rfl
theorem el2 : Elem Try.prog 2 1 8 (cK .i64) (0 : Int) := by
  obtain ⟨i, h1, h2, h3, h4⟩ := info_parts el2i
  exact ⟨i, (.int .i64 0), [.int .i64 0], h1, h2, h3, h4, rfl, rfl, by decide, fun _ _ => ⟨rfl, trivial⟩, fun _ => rfl, fun _ _ _ _ h => ones_of ((OneCs.cons OneC.int OneCs.nil)) h⟩

theorem c_spec_l00In {n_0 : Int} {low_1 : Int} {high_2 : Int} {r : Bool} (h : m_spec_l00In n_0 low_1 high_2 = some r) : CallJ Try.prog 38 [(pEq (.int .i64 n_0)), (pEq (.int .i64 low_1)), (pEq (.int .i64 high_2))] (pEq (.bool r)) := by
  unfold m_spec_l00In at h
  refine CallJ.enter Try.func38 rfl Try.ntmps38 rfl fun W I0 => ?_
  refine Tr.weak (Γ' := [(0, (pEq (.int .i64 n_0))), (1, (pEq (.int .i64 low_1))), (2, (pEq (.int .i64 high_2)))]) ⟨rfl, rfl, rfl, trivial⟩ ?_
  refine Tr.seq ?_
  refine Tr.region ?_
  refine RegL.pure (p := (pEq (.bool false))) rfl rfl rfl (J_assign rfl Opd.con) ?_
  refine RegL.nil ?_
  refine Ct.then_tr ?_
  refine Tr.weak (Γ' := [(0, (pEq (.int .i64 n_0))), (1, (pEq (.int .i64 low_1))), (2, (pEq (.int .i64 high_2)))]) ⟨rfl, rfl, rfl, trivial⟩ ?_
  refine Tr.seq ?_
  replace h := bind_some h; obtain ⟨x1, hx1, h⟩ := h
  refine Tr.cut (γ := Unit) (Γm := fun g => [(6, (pEq (.bool x1)))]) (Ωm := fun g => []) ?_ (fun g3 => ?_)
  · clear h
    have h := hx1
    clear hx1
    refine Tr.region ?_
    refine RegL.pure (p := (pEq (.int .i64 n_0))) rfl rfl rfl (J_move rfl (Opd.tmp rfl)) ?_
    refine RegL.pure (p := (pEq (.int .i64 low_1))) rfl rfl rfl (J_move rfl (Opd.tmp rfl)) ?_
    refine RegL.pure (p := (pEq (.bool (decide (low_1 ≤ n_0))))) rfl rfl rfl (J_bin rfl (Opd.tmp rfl) (Opd.tmp rfl) B_geq) ?_
    refine RegL.pure (p := (pEq (.bool (decide (low_1 ≤ n_0))))) rfl rfl rfl (J_move rfl (Opd.tmp rfl)) ?_
    rcases Bool.eq_false_or_eq_true (decide (low_1 ≤ n_0)) with hc2 | hc2
    · replace h := bif_t hc2 h
      refine RegL.pureG (p := (pEq (.int .i64 n_0))) rfl rfl rfl hc2 rfl rfl (J_move rfl (Opd.tmp rfl)) ?_
      refine RegL.pureG (p := (pEq (.int .i64 high_2))) rfl rfl rfl hc2 rfl rfl (J_move rfl (Opd.tmp rfl)) ?_
      refine RegL.pureG (p := (pEq (.bool (decide (n_0 ≤ high_2))))) rfl rfl rfl hc2 rfl rfl (J_bin rfl (Opd.tmp rfl) (Opd.tmp rfl) B_leq) ?_
      refine RegL.pure (p := (pEq (.bool (decide (n_0 ≤ high_2))))) rfl rfl rfl (J_pick rfl (Opd.tmp rfl) (fun _ => (Opd.tmp rfl)) (fun hf => absurd (hc2.symm.trans hf) (by decide))) ?_
      refine RegL.pure (p := (pEq (.bool (decide (n_0 ≤ high_2))))) rfl rfl rfl (J_assign rfl (Opd.tmp rfl)) ?_
      refine RegL.nil ?_
      replace h := Option.some.inj h; subst h
      exact Ct.mid () rfl ⟨rfl, trivial⟩
    · replace h := bif_f hc2 h
      refine RegL.skipG rfl rfl rfl hc2 rfl rfl ?_
      refine RegL.skipG rfl rfl rfl hc2 rfl rfl ?_
      refine RegL.skipG rfl rfl rfl hc2 rfl rfl ?_
      refine RegL.pure (p := (pEq (.bool false))) rfl rfl rfl (J_pick rfl (Opd.tmp rfl) (fun hf => absurd (hc2.symm.trans hf) (by decide)) (fun _ => Opd.con)) ?_
      refine RegL.pure (p := (pEq (.bool false))) rfl rfl rfl (J_assign rfl (Opd.tmp rfl)) ?_
      refine RegL.nil ?_
      replace h := Option.some.inj h; subst h
      exact Ct.mid () rfl ⟨rfl, trivial⟩
  · clear hx1
    refine Ct.then_tr ?_
    refine Tr.weak (Γ' := [(6, (pEq (.bool x1)))]) ⟨rfl, trivial⟩ ?_
    refine Tr.ret ?_
    replace h := Option.some.inj h; subst h
    exact Ct.ret1 rfl rfl

theorem c_spec_l11Rate {rain_0 : Int} {r : Bool} (h : m_spec_l11Rate rain_0 = some r) : CallJ Try.prog 30 [(pEq (.int .i64 rain_0))] (pEq (.bool r)) := by
  unfold m_spec_l11Rate at h
  refine CallJ.enter Try.func30 rfl Try.ntmps30 rfl fun W I0 => ?_
  refine Tr.weak (Γ' := [(0, (pEq (.int .i64 rain_0)))]) ⟨rfl, trivial⟩ ?_
  refine Tr.seq ?_
  refine Tr.region ?_
  refine RegL.pure (p := (pEq (.bool false))) rfl rfl rfl (J_assign rfl Opd.con) ?_
  refine RegL.nil ?_
  refine Ct.then_tr ?_
  refine Tr.weak (Γ' := [(0, (pEq (.int .i64 rain_0)))]) ⟨rfl, trivial⟩ ?_
  refine Tr.seq ?_
  refine Tr.region ?_
  refine RegL.pure (p := (pEq (.int .i64 rain_0))) rfl rfl rfl (J_move rfl (Opd.tmp rfl)) ?_
  replace h := bind_some h; obtain ⟨x1, hx1, h⟩ := h
  refine RegL.pure (p := (pEq (.bool x1))) rfl rfl rfl (J_call rfl Try.call38 (c_spec_l00In hx1) (Opds.cons (Opd.tmp rfl) (Opds.cons Opd.con (Opds.cons Opd.con Opds.nil)))) ?_
  refine RegL.pure (p := (pEq (.bool x1))) rfl rfl rfl (J_assign rfl (Opd.tmp rfl)) ?_
  refine RegL.nil ?_
  refine Ct.then_tr ?_
  refine Tr.weak (Γ' := [(2, (pEq (.bool x1)))]) ⟨rfl, trivial⟩ ?_
  refine Tr.ret ?_
  replace h := Option.some.inj h; subst h
  exact Ct.ret1 rfl rfl

theorem c_spec_l01Div {a_0 : Int} {b_1 : Int} {r : Int} (h : m_spec_l01Div a_0 b_1 = some r) : CallJ Try.prog 50 [(pEq (.int .i64 a_0)), (pEq (.int .i64 b_1))] (pEq (.int .i64 r)) := by
  unfold m_spec_l01Div at h
  refine CallJ.enter Try.func50 rfl Try.ntmps50 rfl fun W I0 => ?_
  refine Tr.weak (Γ' := [(0, (pEq (.int .i64 a_0))), (1, (pEq (.int .i64 b_1)))]) ⟨rfl, rfl, trivial⟩ ?_
  refine Tr.seq ?_
  refine Tr.region ?_
  refine RegL.pure (p := (pEq (.int .i64 (0 : Int)))) rfl rfl rfl (J_assign rfl Opd.con) ?_
  refine RegL.nil ?_
  refine Ct.then_tr ?_
  refine Tr.weak (Γ' := [(0, (pEq (.int .i64 a_0))), (1, (pEq (.int .i64 b_1)))]) ⟨rfl, rfl, trivial⟩ ?_
  refine Tr.seq ?_
  refine Tr.seq ?_
  refine Tr.region ?_
  refine RegL.pure (p := (pEq (.int .i64 b_1))) rfl rfl rfl (J_move rfl (Opd.tmp rfl)) ?_
  refine RegL.pure (p := (pEq (.bool (decide (b_1 < (0 : Int)))))) rfl rfl rfl (J_bin rfl (Opd.tmp rfl) Opd.con B_lss) ?_
  refine RegL.nil ?_
  refine Ct.then_tr ?_
  refine Tr.weak (Γ' := [(0, (pEq (.int .i64 a_0))), (1, (pEq (.int .i64 b_1))), (6, (pEq (.bool (decide (b_1 < (0 : Int))))))]) ⟨rfl, rfl, rfl, trivial⟩ ?_
  replace h := bind_some h; obtain ⟨x1, hx1, h⟩ := h
  refine Tr.cut (γ := Unit) (Γm := fun g => [(0, (pEq (.int .i64 x1.1))), (1, (pEq (.int .i64 x1.2)))]) (Ωm := fun g => []) ?_ (fun g2 => ?_)
  · clear h
    have h := hx1
    clear hx1
    refine Tr.cond (Opd.tmp rfl) (fun hc => ?_) (fun hc => ?_)
    · replace h := bif_t hc h
      refine Tr.seq ?_
      refine Tr.region ?_
      refine RegL.pure (p := (pEq (.int .i64 a_0))) rfl rfl rfl (J_move rfl (Opd.tmp rfl)) ?_
      refine RegL.pure (p := (pEq (.int .i64 (w64 (0 - a_0))))) rfl rfl rfl (J_neg rfl (Opd.tmp rfl)) ?_
      refine RegL.pure (p := (pEq (.int .i64 (w64 (0 - a_0))))) rfl rfl rfl (J_assign rfl (Opd.tmp rfl)) ?_
      refine RegL.nil ?_
      refine Ct.then_tr ?_
      refine Tr.weak (Γ' := [(0, (pEq (.int .i64 (w64 (0 - a_0))))), (1, (pEq (.int .i64 b_1)))]) ⟨rfl, rfl, trivial⟩ ?_
      refine Tr.region ?_
      refine RegL.pure (p := (pEq (.int .i64 b_1))) rfl rfl rfl (J_move rfl (Opd.tmp rfl)) ?_
      refine RegL.pure (p := (pEq (.int .i64 (w64 (0 - b_1))))) rfl rfl rfl (J_neg rfl (Opd.tmp rfl)) ?_
      refine RegL.pure (p := (pEq (.int .i64 (w64 (0 - b_1))))) rfl rfl rfl (J_assign rfl (Opd.tmp rfl)) ?_
      refine RegL.nil ?_
      replace h := Option.some.inj h; subst h
      exact Ct.mid () rfl ⟨rfl, rfl, trivial⟩
    · replace h := bif_f hc h
      refine Tr.skip ?_
      replace h := Option.some.inj h; subst h
      exact Ct.mid () rfl ⟨rfl, rfl, trivial⟩
  · clear hx1
    refine Ct.then_tr ?_
    refine Tr.weak (Γ' := [(0, (pEq (.int .i64 x1.1))), (1, (pEq (.int .i64 x1.2)))]) ⟨rfl, rfl, trivial⟩ ?_
    refine Tr.seq ?_
    refine Tr.seq ?_
    refine Tr.region ?_
    refine RegL.pure (p := (pEq (.int .i64 x1.1))) rfl rfl rfl (J_move rfl (Opd.tmp rfl)) ?_
    refine RegL.pure (p := (pEq (.bool (decide (x1.1 < (0 : Int)))))) rfl rfl rfl (J_bin rfl (Opd.tmp rfl) Opd.con B_lss) ?_
    refine RegL.nil ?_
    refine Ct.then_tr ?_
    refine Tr.weak (Γ' := [(0, (pEq (.int .i64 x1.1))), (1, (pEq (.int .i64 x1.2))), (12, (pEq (.bool (decide (x1.1 < (0 : Int))))))]) ⟨rfl, rfl, rfl, trivial⟩ ?_
    refine Tr.cond (Opd.tmp rfl) (fun hc => ?_) (fun hc => ?_)
    · replace h := bif_t hc h
      refine Tr.seq ?_
      refine Tr.region ?_
      refine RegL.pure (p := (pEq (.int .i64 x1.2))) rfl rfl rfl (J_move rfl (Opd.tmp rfl)) ?_
      refine RegL.pure (p := (pEq (.int .i64 x1.1))) rfl rfl rfl (J_move rfl (Opd.tmp rfl)) ?_
      refine RegL.pure (p := (pEq (.int .i64 (w64 ((2 : Int) * x1.1))))) rfl rfl rfl (J_bin rfl Opd.con (Opd.tmp rfl) B_mul) ?_
      refine RegL.pure (p := (pEq (.int .i64 (w64 (x1.2 - (w64 ((2 : Int) * x1.1))))))) rfl rfl rfl (J_bin rfl (Opd.tmp rfl) (Opd.tmp rfl) B_sub) ?_
      refine RegL.pure (p := (pEq (.int .i64 x1.2))) rfl rfl rfl (J_move rfl (Opd.tmp rfl)) ?_
      refine RegL.pure (p := (pEq (.int .i64 (w64 ((2 : Int) * x1.2))))) rfl rfl rfl (J_bin rfl Opd.con (Opd.tmp rfl) B_mul) ?_
      replace h := bind_some h; obtain ⟨x3, hx3, h⟩ := h
      refine RegL.pure (p := (pEq (.int .i64 x3))) rfl rfl rfl (J_bin rfl (Opd.tmp rfl) (Opd.tmp rfl) (B_qdiv hx3)) ?_
      refine RegL.pure (p := (pEq (.int .i64 (w64 (0 - x3))))) rfl rfl rfl (J_neg rfl (Opd.tmp rfl)) ?_
      refine RegL.pure (p := (pEq (.int .i64 (w64 (0 - x3))))) rfl rfl rfl (J_assign rfl (Opd.tmp rfl)) ?_
      refine RegL.nil ?_
      refine Ct.then_tr ?_
      refine Tr.weak (Γ' := [(4, (pEq (.int .i64 (w64 (0 - x3)))))]) ⟨rfl, trivial⟩ ?_
      refine Tr.ret ?_
      refine Ct.then_ret ?_
      replace h := Option.some.inj h; subst h
      exact Ct.ret1 rfl rfl
    · replace h := bif_f hc h
      refine Tr.skip ?_
      refine Ct.then_tr ?_
      refine Tr.weak (Γ' := [(0, (pEq (.int .i64 x1.1))), (1, (pEq (.int .i64 x1.2)))]) ⟨rfl, rfl, trivial⟩ ?_
      refine Tr.seq ?_
      refine Tr.region ?_
      refine RegL.pure (p := (pEq (.int .i64 x1.1))) rfl rfl rfl (J_move rfl (Opd.tmp rfl)) ?_
      refine RegL.pure (p := (pEq (.int .i64 (w64 ((2 : Int) * x1.1))))) rfl rfl rfl (J_bin rfl Opd.con (Opd.tmp rfl) B_mul) ?_
      refine RegL.pure (p := (pEq (.int .i64 x1.2))) rfl rfl rfl (J_move rfl (Opd.tmp rfl)) ?_
      refine RegL.pure (p := (pEq (.int .i64 (w64 ((w64 ((2 : Int) * x1.1)) + x1.2))))) rfl rfl rfl (J_bin rfl (Opd.tmp rfl) (Opd.tmp rfl) B_add) ?_
      refine RegL.pure (p := (pEq (.int .i64 x1.2))) rfl rfl rfl (J_move rfl (Opd.tmp rfl)) ?_
      refine RegL.pure (p := (pEq (.int .i64 (w64 ((2 : Int) * x1.2))))) rfl rfl rfl (J_bin rfl Opd.con (Opd.tmp rfl) B_mul) ?_
      replace h := bind_some h; obtain ⟨x4, hx4, h⟩ := h
      refine RegL.pure (p := (pEq (.int .i64 x4))) rfl rfl rfl (J_bin rfl (Opd.tmp rfl) (Opd.tmp rfl) (B_qdiv hx4)) ?_
      refine RegL.pure (p := (pEq (.int .i64 x4))) rfl rfl rfl (J_assign rfl (Opd.tmp rfl)) ?_
      refine RegL.nil ?_
      refine Ct.then_tr ?_
      refine Tr.weak (Γ' := [(4, (pEq (.int .i64 x4)))]) ⟨rfl, trivial⟩ ?_
      refine Tr.ret ?_
      replace h := Option.some.inj h; subst h
      exact Ct.ret1 rfl rfl

theorem c_spec_l01Line {x0_0 : Int} {y0_1 : Int} {x1_2 : Int} {y1_3 : Int} {x_4 : Int} {r : Int} (h : m_spec_l01Line x0_0 y0_1 x1_2 y1_3 x_4 = some r) : CallJ Try.prog 46 [(pEq (.int .i64 x0_0)), (pEq (.int .i64 y0_1)), (pEq (.int .i64 x1_2)), (pEq (.int .i64 y1_3)), (pEq (.int .i64 x_4))] (pEq (.int .i64 r)) := by
  unfold m_spec_l01Line at h
  refine CallJ.enter Try.func46 rfl Try.ntmps46 rfl fun W I0 => ?_
  refine Tr.weak (Γ' := [(0, (pEq (.int .i64 x0_0))), (1, (pEq (.int .i64 y0_1))), (2, (pEq (.int .i64 x1_2))), (3, (pEq (.int .i64 y1_3))), (4, (pEq (.int .i64 x_4)))]) ⟨rfl, rfl, rfl, rfl, rfl, trivial⟩ ?_
  refine Tr.seq ?_
  refine Tr.region ?_
  refine RegL.pure (p := (pEq (.int .i64 (0 : Int)))) rfl rfl rfl (J_assign rfl Opd.con) ?_
  refine RegL.nil ?_
  refine Ct.then_tr ?_
  refine Tr.weak (Γ' := [(0, (pEq (.int .i64 x0_0))), (1, (pEq (.int .i64 y0_1))), (2, (pEq (.int .i64 x1_2))), (3, (pEq (.int .i64 y1_3))), (4, (pEq (.int .i64 x_4)))]) ⟨rfl, rfl, rfl, rfl, rfl, trivial⟩ ?_
  refine Tr.seq ?_
  refine Tr.seq ?_
  replace h := bind_some h; obtain ⟨x1, hx1, h⟩ := h
  refine Tr.cut (γ := Unit) (Γm := fun g => [(0, (pEq (.int .i64 x0_0))), (1, (pEq (.int .i64 y0_1))), (2, (pEq (.int .i64 x1_2))), (3, (pEq (.int .i64 y1_3))), (4, (pEq (.int .i64 x_4))), (18, (pEq (.bool x1)))]) (Ωm := fun g => []) ?_ (fun g3 => ?_)
  · clear h
    have h := hx1
    clear hx1
    refine Tr.region ?_
    refine RegL.pure (p := (pEq (.int .i64 x_4))) rfl rfl rfl (J_move rfl (Opd.tmp rfl)) ?_
    refine RegL.pure (p := (pEq (.int .i64 x0_0))) rfl rfl rfl (J_move rfl (Opd.tmp rfl)) ?_
    refine RegL.pure (p := (pEq (.bool (decide (x_4 ≤ x0_0))))) rfl rfl rfl (J_bin rfl (Opd.tmp rfl) (Opd.tmp rfl) B_leq) ?_
    refine RegL.pure (p := (pEq (.bool (decide (x_4 ≤ x0_0))))) rfl rfl rfl (J_move rfl (Opd.tmp rfl)) ?_
    rcases Bool.eq_false_or_eq_true (decide (x_4 ≤ x0_0)) with hc2 | hc2
    · replace h := bif_t hc2 h
      refine RegL.skipG rfl rfl rfl hc2 rfl rfl ?_
      refine RegL.skipG rfl rfl rfl hc2 rfl rfl ?_
      refine RegL.skipG rfl rfl rfl hc2 rfl rfl ?_
      refine RegL.pure (p := (pEq (.bool true))) rfl rfl rfl (J_pick rfl (Opd.tmp rfl) (fun _ => Opd.con) (fun hf => absurd (hc2.symm.trans hf) (by decide))) ?_
      refine RegL.nil ?_
      replace h := Option.some.inj h; subst h
      exact Ct.mid () rfl ⟨rfl, rfl, rfl, rfl, rfl, rfl, trivial⟩
    · replace h := bif_f hc2 h
      refine RegL.pureG (p := (pEq (.int .i64 x1_2))) rfl rfl rfl hc2 rfl rfl (J_move rfl (Opd.tmp rfl)) ?_
      refine RegL.pureG (p := (pEq (.int .i64 x0_0))) rfl rfl rfl hc2 rfl rfl (J_move rfl (Opd.tmp rfl)) ?_
      refine RegL.pureG (p := (pEq (.bool (decide (x1_2 ≤ x0_0))))) rfl rfl rfl hc2 rfl rfl (J_bin rfl (Opd.tmp rfl) (Opd.tmp rfl) B_leq) ?_
      refine RegL.pure (p := (pEq (.bool (decide (x1_2 ≤ x0_0))))) rfl rfl rfl (J_pick rfl (Opd.tmp rfl) (fun hf => absurd (hc2.symm.trans hf) (by decide)) (fun _ => (Opd.tmp rfl))) ?_
      refine RegL.nil ?_
      replace h := Option.some.inj h; subst h
      exact Ct.mid () rfl ⟨rfl, rfl, rfl, rfl, rfl, rfl, trivial⟩
  · clear hx1
    refine Ct.then_tr ?_
    refine Tr.weak (Γ' := [(0, (pEq (.int .i64 x0_0))), (1, (pEq (.int .i64 y0_1))), (2, (pEq (.int .i64 x1_2))), (3, (pEq (.int .i64 y1_3))), (4, (pEq (.int .i64 x_4))), (18, (pEq (.bool x1)))]) ⟨rfl, rfl, rfl, rfl, rfl, rfl, trivial⟩ ?_
    refine Tr.cond (Opd.tmp rfl) (fun hc => ?_) (fun hc => ?_)
    · replace h := bif_t hc h
      refine Tr.seq ?_
      refine Tr.region ?_
      refine RegL.pure (p := (pEq (.int .i64 y0_1))) rfl rfl rfl (J_move rfl (Opd.tmp rfl)) ?_
      refine RegL.pure (p := (pEq (.int .i64 y0_1))) rfl rfl rfl (J_assign rfl (Opd.tmp rfl)) ?_
      refine RegL.nil ?_
      refine Ct.then_tr ?_
      refine Tr.weak (Γ' := [(10, (pEq (.int .i64 y0_1)))]) ⟨rfl, trivial⟩ ?_
      refine Tr.ret ?_
      refine Ct.then_ret ?_
      replace h := Option.some.inj h; subst h
      exact Ct.ret1 rfl rfl
    · replace h := bif_f hc h
      refine Tr.skip ?_
      refine Ct.then_tr ?_
      refine Tr.weak (Γ' := [(0, (pEq (.int .i64 x0_0))), (1, (pEq (.int .i64 y0_1))), (2, (pEq (.int .i64 x1_2))), (3, (pEq (.int .i64 y1_3))), (4, (pEq (.int .i64 x_4)))]) ⟨rfl, rfl, rfl, rfl, rfl, trivial⟩ ?_
      refine Tr.seq ?_
      refine Tr.seq ?_
      refine Tr.region ?_
      refine RegL.pure (p := (pEq (.int .i64 x_4))) rfl rfl rfl (J_move rfl (Opd.tmp rfl)) ?_
      refine RegL.pure (p := (pEq (.int .i64 x1_2))) rfl rfl rfl (J_move rfl (Opd.tmp rfl)) ?_
      refine RegL.pure (p := (pEq (.bool (decide (x1_2 ≤ x_4))))) rfl rfl rfl (J_bin rfl (Opd.tmp rfl) (Opd.tmp rfl) B_geq) ?_
      refine RegL.nil ?_
      refine Ct.then_tr ?_
      refine Tr.weak (Γ' := [(0, (pEq (.int .i64 x0_0))), (1, (pEq (.int .i64 y0_1))), (2, (pEq (.int .i64 x1_2))), (3, (pEq (.int .i64 y1_3))), (4, (pEq (.int .i64 x_4))), (22, (pEq (.bool (decide (x1_2 ≤ x_4)))))]) ⟨rfl, rfl, rfl, rfl, rfl, rfl, trivial⟩ ?_
      refine Tr.cond (Opd.tmp rfl) (fun hc => ?_) (fun hc => ?_)
      · replace h := bif_t hc h
        refine Tr.seq ?_
        refine Tr.region ?_
        refine RegL.pure (p := (pEq (.int .i64 y1_3))) rfl rfl rfl (J_move rfl (Opd.tmp rfl)) ?_
        refine RegL.pure (p := (pEq (.int .i64 y1_3))) rfl rfl rfl (J_assign rfl (Opd.tmp rfl)) ?_
        refine RegL.nil ?_
        refine Ct.then_tr ?_
        refine Tr.weak (Γ' := [(10, (pEq (.int .i64 y1_3)))]) ⟨rfl, trivial⟩ ?_
        refine Tr.ret ?_
        refine Ct.then_ret ?_
        replace h := Option.some.inj h; subst h
        exact Ct.ret1 rfl rfl
      · replace h := bif_f hc h
        refine Tr.skip ?_
        refine Ct.then_tr ?_
        refine Tr.weak (Γ' := [(0, (pEq (.int .i64 x0_0))), (1, (pEq (.int .i64 y0_1))), (2, (pEq (.int .i64 x1_2))), (3, (pEq (.int .i64 y1_3))), (4, (pEq (.int .i64 x_4)))]) ⟨rfl, rfl, rfl, rfl, rfl, trivial⟩ ?_
        refine Tr.seq ?_
        refine Tr.region ?_
        refine RegL.pure (p := (pEq (.int .i64 y0_1))) rfl rfl rfl (J_move rfl (Opd.tmp rfl)) ?_
        refine RegL.pure (p := (pEq (.int .i64 y1_3))) rfl rfl rfl (J_move rfl (Opd.tmp rfl)) ?_
        refine RegL.pure (p := (pEq (.int .i64 y0_1))) rfl rfl rfl (J_move rfl (Opd.tmp rfl)) ?_
        refine RegL.pure (p := (pEq (.int .i64 (w64 (y1_3 - y0_1))))) rfl rfl rfl (J_bin rfl (Opd.tmp rfl) (Opd.tmp rfl) B_sub) ?_
        refine RegL.pure (p := (pEq (.int .i64 x_4))) rfl rfl rfl (J_move rfl (Opd.tmp rfl)) ?_
        refine RegL.pure (p := (pEq (.int .i64 x0_0))) rfl rfl rfl (J_move rfl (Opd.tmp rfl)) ?_
        refine RegL.pure (p := (pEq (.int .i64 (w64 (x_4 - x0_0))))) rfl rfl rfl (J_bin rfl (Opd.tmp rfl) (Opd.tmp rfl) B_sub) ?_
        refine RegL.pure (p := (pEq (.int .i64 (w64 ((w64 (y1_3 - y0_1)) * (w64 (x_4 - x0_0))))))) rfl rfl rfl (J_bin rfl (Opd.tmp rfl) (Opd.tmp rfl) B_mul) ?_
        refine RegL.pure (p := (pEq (.int .i64 x1_2))) rfl rfl rfl (J_move rfl (Opd.tmp rfl)) ?_
        refine RegL.pure (p := (pEq (.int .i64 x0_0))) rfl rfl rfl (J_move rfl (Opd.tmp rfl)) ?_
        refine RegL.pure (p := (pEq (.int .i64 (w64 (x1_2 - x0_0))))) rfl rfl rfl (J_bin rfl (Opd.tmp rfl) (Opd.tmp rfl) B_sub) ?_
        replace h := bind_some h; obtain ⟨x4, hx4, h⟩ := h
        refine RegL.pure (p := (pEq (.int .i64 x4))) rfl rfl rfl (J_call rfl Try.call50 (c_spec_l01Div hx4) (Opds.cons (Opd.tmp rfl) (Opds.cons (Opd.tmp rfl) Opds.nil))) ?_
        refine RegL.pure (p := (pEq (.int .i64 (w64 (y0_1 + x4))))) rfl rfl rfl (J_bin rfl (Opd.tmp rfl) (Opd.tmp rfl) B_add) ?_
        refine RegL.pure (p := (pEq (.int .i64 (w64 (y0_1 + x4))))) rfl rfl rfl (J_assign rfl (Opd.tmp rfl)) ?_
        refine RegL.nil ?_
        refine Ct.then_tr ?_
        refine Tr.weak (Γ' := [(10, (pEq (.int .i64 (w64 (y0_1 + x4)))))]) ⟨rfl, trivial⟩ ?_
        refine Tr.ret ?_
        replace h := Option.some.inj h; subst h
        exact Ct.ret1 rfl rfl

theorem c_spec_l11Table {x_0 : Int} {places_1 : (List Int)} {values_2 : (List Int)} {r : Int} (h : m_spec_l11Table x_0 places_1 values_2 = some r) : CallJ Try.prog 40 [(pEq (.int .i64 x_0)), (pSl 1 (cK .i64) places_1), (pSl 1 (cK .i64) values_2)] (pEq (.int .i64 r)) := by
  unfold m_spec_l11Table at h
  refine CallJ.enter Try.func40 rfl Try.ntmps40 rfl fun W I0 => ?_
  refine Tr.weak (Γ' := [(0, (pEq (.int .i64 x_0))), (1, (pSl 1 (cK .i64) places_1)), (2, (pSl 1 (cK .i64) values_2))]) ⟨rfl, rfl, rfl, trivial⟩ ?_
  refine Tr.seq ?_
  refine Tr.region ?_
  refine RegL.pure (p := (pEq (.int .i64 (0 : Int)))) rfl rfl rfl (J_assign rfl Opd.con) ?_
  refine RegL.nil ?_
  refine Ct.then_tr ?_
  refine Tr.weak (Γ' := [(0, (pEq (.int .i64 x_0))), (1, (pSl 1 (cK .i64) places_1)), (2, (pSl 1 (cK .i64) values_2))]) ⟨rfl, rfl, rfl, trivial⟩ ?_
  refine Tr.seq ?_
  refine Tr.region ?_
  refine RegL.pure (p := (pSl 1 (cK .i64) places_1)) rfl rfl rfl (J_move rfl (Opd.tmp rfl)) ?_
  refine RegL.pure (p := (pEq (.int .i64 (places_1.length : Int)))) rfl rfl rfl (J_len rfl Try.underlying29 (Opd.tmp rfl) rfl) ?_
  refine RegL.pure (p := (pEq (.int .i64 (w64 ((places_1.length : Int) - (1 : Int)))))) rfl rfl rfl (J_bin rfl (Opd.tmp rfl) Opd.con B_sub) ?_
  refine RegL.pure (p := (pEq (.int .i64 (w64 ((places_1.length : Int) - (1 : Int)))))) rfl rfl rfl (J_assign rfl (Opd.tmp rfl)) ?_
  refine RegL.nil ?_
  refine Ct.then_tr ?_
  refine Tr.weak (Γ' := [(0, (pEq (.int .i64 x_0))), (1, (pSl 1 (cK .i64) places_1)), (2, (pSl 1 (cK .i64) values_2)), (7, (pEq (.int .i64 (w64 ((places_1.length : Int) - (1 : Int))))))]) ⟨rfl, rfl, rfl, rfl, trivial⟩ ?_
  refine Tr.seq ?_
  refine Tr.seq ?_
  refine Tr.region ?_
  refine RegL.pure (p := (pEq (.int .i64 x_0))) rfl rfl rfl (J_move rfl (Opd.tmp rfl)) ?_
  refine RegL.pure (p := (pSl 1 (cK .i64) places_1)) rfl rfl rfl (J_move rfl (Opd.tmp rfl)) ?_
  replace h := bind_some h; obtain ⟨x1, hx1, h⟩ := h
  refine RegL.pure (p := (pPtr ((cK .i64) x1))) rfl rfl rfl (J_idx rfl Try.underlying29 sz2 (Opd.tmp rfl) Opd.con hx1) ?_
  refine RegL.pure (p := (pEq (.int .i64 x1))) rfl rfl rfl (J_load rfl Try.isAgg2 (Opd.tmp rfl)) ?_
  refine RegL.pure (p := (pEq (.bool (decide (x_0 ≤ x1))))) rfl rfl rfl (J_bin rfl (Opd.tmp rfl) (Opd.tmp rfl) B_leq) ?_
  refine RegL.nil ?_
  refine Ct.then_tr ?_
  refine Tr.weak (Γ' := [(0, (pEq (.int .i64 x_0))), (1, (pSl 1 (cK .i64) places_1)), (2, (pSl 1 (cK .i64) values_2)), (7, (pEq (.int .i64 (w64 ((places_1.length : Int) - (1 : Int)))))), (16, (pEq (.bool (decide (x_0 ≤ x1)))))]) ⟨rfl, rfl, rfl, rfl, rfl, trivial⟩ ?_
  refine Tr.cond (Opd.tmp rfl) (fun hc => ?_) (fun hc => ?_)
  · replace h := bif_t hc h
    refine Tr.seq ?_
    refine Tr.region ?_
    refine RegL.pure (p := (pSl 1 (cK .i64) values_2)) rfl rfl rfl (J_move rfl (Opd.tmp rfl)) ?_
    replace h := bind_some h; obtain ⟨x2, hx2, h⟩ := h
    refine RegL.pure (p := (pPtr ((cK .i64) x2))) rfl rfl rfl (J_idx rfl Try.underlying29 sz2 (Opd.tmp rfl) Opd.con hx2) ?_
    refine RegL.pure (p := (pEq (.int .i64 x2))) rfl rfl rfl (J_load rfl Try.isAgg2 (Opd.tmp rfl)) ?_
    refine RegL.pure (p := (pEq (.int .i64 x2))) rfl rfl rfl (J_assign rfl (Opd.tmp rfl)) ?_
    refine RegL.nil ?_
    refine Ct.then_tr ?_
    refine Tr.weak (Γ' := [(6, (pEq (.int .i64 x2)))]) ⟨rfl, trivial⟩ ?_
    refine Tr.ret ?_
    refine Ct.then_ret ?_
    replace h := Option.some.inj h; subst h
    exact Ct.ret1 rfl rfl
  · replace h := bif_f hc h
    refine Tr.skip ?_
    refine Ct.then_tr ?_
    refine Tr.weak (Γ' := [(0, (pEq (.int .i64 x_0))), (1, (pSl 1 (cK .i64) places_1)), (2, (pSl 1 (cK .i64) values_2)), (7, (pEq (.int .i64 (w64 ((places_1.length : Int) - (1 : Int))))))]) ⟨rfl, rfl, rfl, rfl, trivial⟩ ?_
    refine Tr.seq ?_
    refine Tr.seq ?_
    refine Tr.region ?_
    refine RegL.pure (p := (pEq (.int .i64 (1 : Int)))) rfl rfl rfl (J_assign rfl Opd.con) ?_
    refine RegL.nil ?_
    refine Ct.then_tr ?_
    refine Tr.weak (Γ' := [(0, (pEq (.int .i64 x_0))), (1, (pSl 1 (cK .i64) places_1)), (2, (pSl 1 (cK .i64) values_2)), (7, (pEq (.int .i64 (w64 ((places_1.length : Int) - (1 : Int)))))), (8, (pEq (.int .i64 (1 : Int))))]) ⟨rfl, rfl, rfl, rfl, rfl, trivial⟩ ?_
    refine Tr.block ?_
    refine Tr.weak (Γ' := [(0, (pEq (.int .i64 x_0))), (1, (pSl 1 (cK .i64) places_1)), (2, (pSl 1 (cK .i64) values_2)), (7, (pEq (.int .i64 (w64 ((places_1.length : Int) - (1 : Int)))))), (8, (pEq (.int .i64 (1 : Int))))]) ⟨rfl, rfl, rfl, rfl, rfl, trivial⟩ ?_
    refine Tr.loop (γ := Unit) (σ := Int) (Γσ := fun s g => [(0, (pEq (.int .i64 x_0))), (1, (pSl 1 (cK .i64) places_1)), (2, (pSl 1 (cK .i64) values_2)), (7, (pEq (.int .i64 (w64 ((places_1.length : Int) - (1 : Int)))))), (8, (pEq (.int .i64 s)))]) (Ωσ := fun s g => []) (g := ()) h ?_
    clear h
    rintro v4 g5 t h
    replace h : m_spec_l11Table_B3 x_0 places_1 values_2 v4 = some t := h
    unfold m_spec_l11Table_B3 at h
    refine Tr.weakO (Γ' := [(0, (pEq (.int .i64 x_0))), (1, (pSl 1 (cK .i64) places_1)), (2, (pSl 1 (cK .i64) values_2)), (7, (pEq (.int .i64 (w64 ((places_1.length : Int) - (1 : Int)))))), (8, (pEq (.int .i64 v4)))]) (Ω' := []) rfl ⟨rfl, rfl, rfl, rfl, rfl, trivial⟩ ?_
    refine Tr.seq ?_
    refine Tr.seq ?_
    refine Tr.region ?_
    refine RegL.pure (p := (pEq (.int .i64 v4))) rfl rfl rfl (J_move rfl (Opd.tmp rfl)) ?_
    refine RegL.pure (p := (pEq (.int .i64 (w64 ((places_1.length : Int) - (1 : Int)))))) rfl rfl rfl (J_move rfl (Opd.tmp rfl)) ?_
    refine RegL.pure (p := (pEq (.bool (decide (v4 ≤ (w64 ((places_1.length : Int) - (1 : Int)))))))) rfl rfl rfl (J_bin rfl (Opd.tmp rfl) (Opd.tmp rfl) B_leq) ?_
    refine RegL.nil ?_
    refine Ct.then_tr ?_
    refine Tr.weak (Γ' := [(0, (pEq (.int .i64 x_0))), (1, (pSl 1 (cK .i64) places_1)), (2, (pSl 1 (cK .i64) values_2)), (7, (pEq (.int .i64 (w64 ((places_1.length : Int) - (1 : Int)))))), (8, (pEq (.int .i64 v4))), (22, (pEq (.bool (decide (v4 ≤ (w64 ((places_1.length : Int) - (1 : Int))))))))]) ⟨rfl, rfl, rfl, rfl, rfl, rfl, trivial⟩ ?_
    refine Tr.cond (Opd.tmp rfl) (fun hc => ?_) (fun hc => ?_)
    · replace h := bif_t hc h
      refine Tr.skip ?_
      refine Ct.then_tr ?_
      refine Tr.weak (Γ' := [(0, (pEq (.int .i64 x_0))), (1, (pSl 1 (cK .i64) places_1)), (2, (pSl 1 (cK .i64) values_2)), (7, (pEq (.int .i64 (w64 ((places_1.length : Int) - (1 : Int)))))), (8, (pEq (.int .i64 v4)))]) ⟨rfl, rfl, rfl, rfl, rfl, trivial⟩ ?_
      refine Tr.seq ?_
      refine Tr.block ?_
      refine Tr.seq ?_
      refine Tr.region ?_
      refine RegL.pure (p := (pEq (.int .i64 x_0))) rfl rfl rfl (J_move rfl (Opd.tmp rfl)) ?_
      refine RegL.pure (p := (pSl 1 (cK .i64) places_1)) rfl rfl rfl (J_move rfl (Opd.tmp rfl)) ?_
      refine RegL.pure (p := (pEq (.int .i64 v4))) rfl rfl rfl (J_move rfl (Opd.tmp rfl)) ?_
      replace h := bind_some h; obtain ⟨x6, hx6, h⟩ := h
      refine RegL.pure (p := (pPtr ((cK .i64) x6))) rfl rfl rfl (J_idx rfl Try.underlying29 sz2 (Opd.tmp rfl) (Opd.tmp rfl) hx6) ?_
      refine RegL.pure (p := (pEq (.int .i64 x6))) rfl rfl rfl (J_load rfl Try.isAgg2 (Opd.tmp rfl)) ?_
      refine RegL.pure (p := (pEq (.bool (decide (x_0 ≤ x6))))) rfl rfl rfl (J_bin rfl (Opd.tmp rfl) (Opd.tmp rfl) B_leq) ?_
      refine RegL.nil ?_
      refine Ct.then_tr ?_
      refine Tr.weak (Γ' := [(0, (pEq (.int .i64 x_0))), (1, (pSl 1 (cK .i64) places_1)), (2, (pSl 1 (cK .i64) values_2)), (7, (pEq (.int .i64 (w64 ((places_1.length : Int) - (1 : Int)))))), (8, (pEq (.int .i64 v4))), (30, (pEq (.bool (decide (x_0 ≤ x6)))))]) ⟨rfl, rfl, rfl, rfl, rfl, rfl, trivial⟩ ?_
      refine Tr.cond (Opd.tmp rfl) (fun hc => ?_) (fun hc => ?_)
      · replace h := bif_t hc h
        refine Tr.seq ?_
        replace h := bind_some h; obtain ⟨x7, hx7, h⟩ := h
        replace h := bind_some h; obtain ⟨x8, hx8, h⟩ := h
        replace h := bind_some h; obtain ⟨x9, hx9, h⟩ := h
        replace h := bind_some h; obtain ⟨x10, hx10, h⟩ := h
        replace h := bind_some h; obtain ⟨x11, hx11, h⟩ := h
        refine Tr.draw (n := 55) (es := [Ent.mk [(1, (pSl 1 (cK .i64) places_1))] (pSl 1 (cK .i64) places_1) true, Ent.mk [(8, (pEq (.int .i64 v4)))] (pEq (.int .i64 v4)) true, Ent.mk [(32, (pEq (.int .i64 v4)))] (pEq (.int .i64 (w64 (v4 - (1 : Int))))) true, Ent.mk [(31, (pSl 1 (cK .i64) places_1)), (33, (pEq (.int .i64 (w64 (v4 - (1 : Int))))))] (pPtr ((cK .i64) x7)) true, Ent.mk [(34, (pPtr ((cK .i64) x7)))] (pEq (.int .i64 x7)) true, Ent.mk [(2, (pSl 1 (cK .i64) values_2))] (pSl 1 (cK .i64) values_2) true, Ent.mk [(8, (pEq (.int .i64 v4)))] (pEq (.int .i64 v4)) true, Ent.mk [(37, (pEq (.int .i64 v4)))] (pEq (.int .i64 (w64 (v4 - (1 : Int))))) true, Ent.mk [(36, (pSl 1 (cK .i64) values_2)), (38, (pEq (.int .i64 (w64 (v4 - (1 : Int))))))] (pPtr ((cK .i64) x8)) true, Ent.mk [(39, (pPtr ((cK .i64) x8)))] (pEq (.int .i64 x8)) true, Ent.mk [(1, (pSl 1 (cK .i64) places_1))] (pSl 1 (cK .i64) places_1) true, Ent.mk [(8, (pEq (.int .i64 v4)))] (pEq (.int .i64 v4)) true, Ent.mk [(41, (pSl 1 (cK .i64) places_1)), (42, (pEq (.int .i64 v4)))] (pPtr ((cK .i64) x9)) true, Ent.mk [(43, (pPtr ((cK .i64) x9)))] (pEq (.int .i64 x9)) true, Ent.mk [(2, (pSl 1 (cK .i64) values_2))] (pSl 1 (cK .i64) values_2) true, Ent.mk [(8, (pEq (.int .i64 v4)))] (pEq (.int .i64 v4)) true, Ent.mk [(45, (pSl 1 (cK .i64) values_2)), (46, (pEq (.int .i64 v4)))] (pPtr ((cK .i64) x10)) true, Ent.mk [(47, (pPtr ((cK .i64) x10)))] (pEq (.int .i64 x10)) true, Ent.mk [(0, (pEq (.int .i64 x_0)))] (pEq (.int .i64 x_0)) true, Ent.mk [(35, (pEq (.int .i64 x7))), (40, (pEq (.int .i64 x8))), (44, (pEq (.int .i64 x9))), (48, (pEq (.int .i64 x10))), (49, (pEq (.int .i64 x_0)))] (pEq (.int .i64 x11)) true, Ent.mk [(50, (pEq (.int .i64 x11)))] (pEq (.int .i64 x11)) true]) (rd := [[1], [8], [32], [31, 33], [34], [2], [8], [37], [36, 38], [39], [1], [8], [41, 42], [43], [2], [8], [45, 46], [47], [0], [35, 40, 44, 48, 49], [50]]) rfl hmix rfl (by kernel_rfl) ⟨⟨(OpJ.w (J_move rfl (Opd.tmp rfl))), ⟨rfl, trivial⟩, rfl⟩, ⟨(OpJ.w (J_move rfl (Opd.tmp rfl))), ⟨rfl, trivial⟩, rfl⟩, ⟨(OpJ.w (J_bin rfl (Opd.tmp rfl) Opd.con B_sub)), ⟨rfl, trivial⟩, rfl⟩, ⟨(OpJ.w (J_idx rfl Try.underlying29 sz2 (Opd.tmp rfl) (Opd.tmp rfl) hx7)), ⟨rfl, rfl, trivial⟩, rfl⟩, ⟨(OpJ.w (J_load rfl Try.isAgg2 (Opd.tmp rfl))), ⟨rfl, trivial⟩, rfl⟩, ⟨(OpJ.w (J_move rfl (Opd.tmp rfl))), ⟨rfl, trivial⟩, rfl⟩, ⟨(OpJ.w (J_move rfl (Opd.tmp rfl))), ⟨rfl, trivial⟩, rfl⟩, ⟨(OpJ.w (J_bin rfl (Opd.tmp rfl) Opd.con B_sub)), ⟨rfl, trivial⟩, rfl⟩, ⟨(OpJ.w (J_idx rfl Try.underlying29 sz2 (Opd.tmp rfl) (Opd.tmp rfl) hx8)), ⟨rfl, rfl, trivial⟩, rfl⟩, ⟨(OpJ.w (J_load rfl Try.isAgg2 (Opd.tmp rfl))), ⟨rfl, trivial⟩, rfl⟩, ⟨(OpJ.w (J_move rfl (Opd.tmp rfl))), ⟨rfl, trivial⟩, rfl⟩, ⟨(OpJ.w (J_move rfl (Opd.tmp rfl))), ⟨rfl, trivial⟩, rfl⟩, ⟨(OpJ.w (J_idx rfl Try.underlying29 sz2 (Opd.tmp rfl) (Opd.tmp rfl) hx9)), ⟨rfl, rfl, trivial⟩, rfl⟩, ⟨(OpJ.w (J_load rfl Try.isAgg2 (Opd.tmp rfl))), ⟨rfl, trivial⟩, rfl⟩, ⟨(OpJ.w (J_move rfl (Opd.tmp rfl))), ⟨rfl, trivial⟩, rfl⟩, ⟨(OpJ.w (J_move rfl (Opd.tmp rfl))), ⟨rfl, trivial⟩, rfl⟩, ⟨(OpJ.w (J_idx rfl Try.underlying29 sz2 (Opd.tmp rfl) (Opd.tmp rfl) hx10)), ⟨rfl, rfl, trivial⟩, rfl⟩, ⟨(OpJ.w (J_load rfl Try.isAgg2 (Opd.tmp rfl))), ⟨rfl, trivial⟩, rfl⟩, ⟨(OpJ.w (J_move rfl (Opd.tmp rfl))), ⟨rfl, trivial⟩, rfl⟩, ⟨(OpJ.w (J_call rfl Try.call46 (c_spec_l01Line hx11) (Opds.cons (Opd.tmp rfl) (Opds.cons (Opd.tmp rfl) (Opds.cons (Opd.tmp rfl) (Opds.cons (Opd.tmp rfl) (Opds.cons (Opd.tmp rfl) Opds.nil))))))), ⟨rfl, rfl, rfl, rfl, rfl, trivial⟩, rfl⟩, ⟨(OpJ.w (J_assign rfl (Opd.tmp rfl))), ⟨rfl, trivial⟩, rfl⟩, trivial⟩ ?_
        refine Ct.then_tr ?_
        refine Tr.weak (Γ' := [(6, (pEq (.int .i64 x11)))]) ⟨rfl, trivial⟩ ?_
        refine Tr.ret ?_
        refine Ct.blk_ret ?_
        refine Ct.then_ret ?_
        replace h := map_some h; obtain ⟨r1, h, rfl⟩ := h
        refine Ct.out_ret fun e => ?_
        subst e
        refine Ct.blk_ret ?_
        refine Ct.then_ret ?_
        replace h := Option.some.inj h; subst h
        exact Ct.ret1 rfl rfl
      · replace h := bif_f hc h
        refine Tr.skip ?_
        refine Ct.blk_normal ?_
        refine Ct.then_tr ?_
        refine Tr.weak (Γ' := [(0, (pEq (.int .i64 x_0))), (1, (pSl 1 (cK .i64) places_1)), (2, (pSl 1 (cK .i64) values_2)), (7, (pEq (.int .i64 (w64 ((places_1.length : Int) - (1 : Int)))))), (8, (pEq (.int .i64 v4)))]) ⟨rfl, rfl, rfl, rfl, rfl, trivial⟩ ?_
        refine Tr.region ?_
        refine RegL.pure (p := (pEq (.int .i64 v4))) rfl rfl rfl (J_move rfl (Opd.tmp rfl)) ?_
        refine RegL.pure (p := (pEq (.int .i64 (w64 (v4 + (1 : Int)))))) rfl rfl rfl (J_bin rfl (Opd.tmp rfl) Opd.con B_add) ?_
        refine RegL.pure (p := (pEq (.int .i64 (w64 (v4 + (1 : Int)))))) rfl rfl rfl (J_assign rfl (Opd.tmp rfl)) ?_
        refine RegL.nil ?_
        replace h := Option.some.inj h; subst h
        exact Ct.again () rfl ⟨rfl, rfl, rfl, rfl, rfl, trivial⟩
    · replace h := bif_f hc h
      refine Tr.exit ?_
      refine Ct.then_exit ?_
      replace h := map_some h; obtain ⟨r1, h, rfl⟩ := h
      refine Ct.out_exit fun e => ?_
      subst e
      refine Ct.blk_exit ?_
      refine Ct.then_tr ?_
      refine Tr.weak (Γ' := [(2, (pSl 1 (cK .i64) values_2)), (7, (pEq (.int .i64 (w64 ((places_1.length : Int) - (1 : Int))))))]) ⟨rfl, rfl, trivial⟩ ?_
      refine Tr.seq ?_
      refine Tr.region ?_
      refine RegL.pure (p := (pSl 1 (cK .i64) values_2)) rfl rfl rfl (J_move rfl (Opd.tmp rfl)) ?_
      refine RegL.pure (p := (pEq (.int .i64 (w64 ((places_1.length : Int) - (1 : Int)))))) rfl rfl rfl (J_move rfl (Opd.tmp rfl)) ?_
      replace h := bind_some h; obtain ⟨x12, hx12, h⟩ := h
      refine RegL.pure (p := (pPtr ((cK .i64) x12))) rfl rfl rfl (J_idx rfl Try.underlying29 sz2 (Opd.tmp rfl) (Opd.tmp rfl) hx12) ?_
      refine RegL.pure (p := (pEq (.int .i64 x12))) rfl rfl rfl (J_load rfl Try.isAgg2 (Opd.tmp rfl)) ?_
      refine RegL.pure (p := (pEq (.int .i64 x12))) rfl rfl rfl (J_assign rfl (Opd.tmp rfl)) ?_
      refine RegL.nil ?_
      refine Ct.then_tr ?_
      refine Tr.weak (Γ' := [(6, (pEq (.int .i64 x12)))]) ⟨rfl, trivial⟩ ?_
      refine Tr.ret ?_
      replace h := Option.some.inj h; subst h
      exact Ct.ret1 rfl rfl

theorem c_spec_l13Exceed {rain_0 : Int} {r : Int} (h : m_spec_l13Exceed rain_0 = some r) : CallJ Try.prog 31 [(pEq (.int .i64 rain_0))] (pEq (.int .i64 r)) := by
  unfold m_spec_l13Exceed at h
  refine CallJ.enter Try.func31 rfl Try.ntmps31 rfl fun W I0 => ?_
  refine Tr.weak (Γ' := [(0, (pEq (.int .i64 rain_0)))]) ⟨rfl, trivial⟩ ?_
  refine Tr.seq ?_
  refine Tr.region ?_
  refine RegL.pure (p := (pEq (.int .i64 (0 : Int)))) rfl rfl rfl (J_assign rfl Opd.con) ?_
  refine RegL.nil ?_
  refine Ct.then_tr ?_
  refine Tr.weak (Γ' := [(0, (pEq (.int .i64 rain_0)))]) ⟨rfl, trivial⟩ ?_
  refine Tr.seq ?_
  refine Tr.region ?_
  refine RegL.pure (p := (pEq (.int .i64 rain_0))) rfl rfl rfl (J_move rfl (Opd.tmp rfl)) ?_
  refine RegL.step (γ := Option Addr) (p := fun a => pEq (.slice a 7 7)) (Ω' := fun a => oSl 2 1 (cK .i64) a 7 7 ([(0 : Int), (8 : Int), (30 : Int), (60 : Int), (100 : Int), (150 : Int), (200 : Int)] : (List Int)) :: []) rfl rfl rfl (M_buildSlice (qss := [(0, (cK .i64) (0 : Int)), (1, (cK .i64) (8 : Int)), (2, (cK .i64) (30 : Int)), (3, (cK .i64) (60 : Int)), (4, (cK .i64) (100 : Int)), (5, (cK .i64) (150 : Int)), (6, (cK .i64) (200 : Int))]) rfl Try.underlying29 el2 rfl (Parts.cons (Part.one Opd.con OneC.int) (Parts.cons (Part.one Opd.con OneC.int) (Parts.cons (Part.one Opd.con OneC.int) (Parts.cons (Part.one Opd.con OneC.int) (Parts.cons (Part.one Opd.con OneC.int) (Parts.cons (Part.one Opd.con OneC.int) (Parts.cons (Part.one Opd.con OneC.int) Parts.nil))))))) rfl rfl) fun o2 => ?_
  refine RegL.step (γ := Option Addr) (p := fun a => pEq (.slice a 7 7)) (Ω' := fun a => oSl 2 1 (cK .i64) a 7 7 ([(50000 : Int), (10000 : Int), (1000 : Int), (100 : Int), (10 : Int), (1 : Int), (0 : Int)] : (List Int)) :: [oSl 2 1 (cK .i64) o2 7 7 ([(0 : Int), (8 : Int), (30 : Int), (60 : Int), (100 : Int), (150 : Int), (200 : Int)] : (List Int))]) rfl rfl rfl (M_buildSlice (qss := [(0, (cK .i64) (50000 : Int)), (1, (cK .i64) (10000 : Int)), (2, (cK .i64) (1000 : Int)), (3, (cK .i64) (100 : Int)), (4, (cK .i64) (10 : Int)), (5, (cK .i64) (1 : Int)), (6, (cK .i64) (0 : Int))]) rfl Try.underlying29 el2 rfl (Parts.cons (Part.one Opd.con OneC.int) (Parts.cons (Part.one Opd.con OneC.int) (Parts.cons (Part.one Opd.con OneC.int) (Parts.cons (Part.one Opd.con OneC.int) (Parts.cons (Part.one Opd.con OneC.int) (Parts.cons (Part.one Opd.con OneC.int) (Parts.cons (Part.one Opd.con OneC.int) Parts.nil))))))) rfl rfl) fun o4 => ?_
  replace h := bind_some h; obtain ⟨x5, hx5, h⟩ := h
  refine RegL.perm perm1 ?_
  refine RegL.freezeRows [4] (fun _ => rfl) ⟨rfl, trivial⟩ ?_
  refine RegL.freezeRows [5] (fun _ => rfl) ⟨rfl, trivial⟩ ?_
  refine RegL.pure (p := (pEq (.int .i64 x5))) rfl rfl rfl (J_call rfl Try.call40 (c_spec_l11Table hx5) (Opds.cons (Opd.tmp rfl) (Opds.cons (Opd.tmp rfl) (Opds.cons (Opd.tmp rfl) Opds.nil)))) ?_
  refine RegL.pure (p := (pEq (.int .i64 x5))) rfl rfl rfl (J_assign rfl (Opd.tmp rfl)) ?_
  refine RegL.nil ?_
  refine Ct.then_tr ?_
  refine Tr.weak (Γ' := [(2, (pEq (.int .i64 x5)))]) ⟨rfl, trivial⟩ ?_
  refine Tr.ret ?_
  replace h := Option.some.inj h; subst h
  exact Ct.ret1 rfl rfl

theorem c_spec_ExceedanceOf {rain_0 : Int} {r : (Int × Int)} (h : m_spec_ExceedanceOf rain_0 = some r) : CallJ Try.prog 21 [(pEq (.int .i64 rain_0))] (pTup [(pEq (.int .i64 r.1)), (pEq (.int .i64 r.2))]) := by
  unfold m_spec_ExceedanceOf at h
  refine CallJ.enter Try.func21 rfl Try.ntmps21 rfl fun W I0 => ?_
  refine Tr.weak (Γ' := [(0, (pEq (.int .i64 rain_0)))]) ⟨rfl, trivial⟩ ?_
  refine Tr.seq ?_
  refine Tr.region ?_
  refine RegL.pure (p := (pEq (.int .i64 (0 : Int)))) rfl rfl rfl (J_assign rfl Opd.con) ?_
  refine RegL.pure (p := (pEq (.int .i64 (0 : Int)))) rfl rfl rfl (J_assign rfl Opd.con) ?_
  refine RegL.nil ?_
  refine Ct.then_tr ?_
  refine Tr.weak (Γ' := [(0, (pEq (.int .i64 rain_0)))]) ⟨rfl, trivial⟩ ?_
  refine Tr.seq ?_
  refine Tr.seq ?_
  refine Tr.region ?_
  refine RegL.pure (p := (pEq (.int .i64 rain_0))) rfl rfl rfl (J_move rfl (Opd.tmp rfl)) ?_
  replace h := bind_some h; obtain ⟨x1, hx1, h⟩ := h
  refine RegL.pure (p := (pEq (.bool x1))) rfl rfl rfl (J_call rfl Try.call30 (c_spec_l11Rate hx1) (Opds.cons (Opd.tmp rfl) Opds.nil)) ?_
  refine RegL.pure (p := (pEq (.bool (!x1)))) rfl rfl rfl (J_not rfl (Opd.tmp rfl)) ?_
  refine RegL.nil ?_
  refine Ct.then_tr ?_
  refine Tr.weak (Γ' := [(0, (pEq (.int .i64 rain_0))), (6, (pEq (.bool (!x1))))]) ⟨rfl, rfl, trivial⟩ ?_
  refine Tr.cond (Opd.tmp rfl) (fun hc => ?_) (fun hc => ?_)
  · replace h := bif_t hc h
    refine Tr.seq ?_
    refine Tr.region ?_
    refine RegL.pure (p := (pEq (.int .i64 (0 : Int)))) rfl rfl rfl (J_assign rfl Opd.con) ?_
    refine RegL.pure (p := (pEq (.int .i64 (2 : Int)))) rfl rfl rfl (J_assign rfl Opd.con) ?_
    refine RegL.nil ?_
    refine Ct.then_tr ?_
    refine Tr.weak (Γ' := [(2, (pEq (.int .i64 (0 : Int)))), (3, (pEq (.int .i64 (2 : Int))))]) ⟨rfl, rfl, trivial⟩ ?_
    refine Tr.ret ?_
    refine Ct.then_ret ?_
    replace h := Option.some.inj h; subst h
    exact Ct.ret2 rfl rfl rfl
  · replace h := bif_f hc h
    refine Tr.skip ?_
    refine Ct.then_tr ?_
    refine Tr.weak (Γ' := [(0, (pEq (.int .i64 rain_0)))]) ⟨rfl, trivial⟩ ?_
    refine Tr.seq ?_
    refine Tr.region ?_
    refine RegL.pure (p := (pEq (.int .i64 rain_0))) rfl rfl rfl (J_move rfl (Opd.tmp rfl)) ?_
    replace h := bind_some h; obtain ⟨x2, hx2, h⟩ := h
    refine RegL.pure (p := (pEq (.int .i64 x2))) rfl rfl rfl (J_call rfl Try.call31 (c_spec_l13Exceed hx2) (Opds.cons (Opd.tmp rfl) Opds.nil)) ?_
    refine RegL.pure (p := (pEq (.int .i64 x2))) rfl rfl rfl (J_assign rfl (Opd.tmp rfl)) ?_
    refine RegL.pure (p := (pEq (.int .i64 (0 : Int)))) rfl rfl rfl (J_assign rfl Opd.con) ?_
    refine RegL.nil ?_
    refine Ct.then_tr ?_
    refine Tr.weak (Γ' := [(2, (pEq (.int .i64 x2))), (3, (pEq (.int .i64 (0 : Int))))]) ⟨rfl, rfl, trivial⟩ ?_
    refine Tr.ret ?_
    replace h := Option.some.inj h; subst h
    exact Ct.ret2 rfl rfl rfl

theorem c_impl_within {n_0 : Int} {low_1 : Int} {high_2 : Int} {r : Bool} (h : m_impl_within n_0 low_1 high_2 = some r) : CallJ Try.prog 27 [(pEq (.int .i64 n_0)), (pEq (.int .i64 low_1)), (pEq (.int .i64 high_2))] (pEq (.bool r)) := by
  unfold m_impl_within at h
  refine CallJ.enter Try.func27 rfl Try.ntmps27 rfl fun W I0 => ?_
  refine Tr.weak (Γ' := [(0, (pEq (.int .i64 n_0))), (1, (pEq (.int .i64 low_1))), (2, (pEq (.int .i64 high_2)))]) ⟨rfl, rfl, rfl, trivial⟩ ?_
  refine Tr.seq ?_
  refine Tr.region ?_
  refine RegL.pure (p := (pEq (.bool false))) rfl rfl rfl (J_assign rfl Opd.con) ?_
  refine RegL.nil ?_
  refine Ct.then_tr ?_
  refine Tr.weak (Γ' := [(0, (pEq (.int .i64 n_0))), (1, (pEq (.int .i64 low_1))), (2, (pEq (.int .i64 high_2)))]) ⟨rfl, rfl, rfl, trivial⟩ ?_
  refine Tr.seq ?_
  replace h := bind_some h; obtain ⟨x1, hx1, h⟩ := h
  refine Tr.cut (γ := Unit) (Γm := fun g => [(6, (pEq (.bool x1)))]) (Ωm := fun g => []) ?_ (fun g3 => ?_)
  · clear h
    have h := hx1
    clear hx1
    refine Tr.region ?_
    refine RegL.pure (p := (pEq (.int .i64 n_0))) rfl rfl rfl (J_move rfl (Opd.tmp rfl)) ?_
    refine RegL.pure (p := (pEq (.int .i64 low_1))) rfl rfl rfl (J_move rfl (Opd.tmp rfl)) ?_
    refine RegL.pure (p := (pEq (.bool (decide (low_1 ≤ n_0))))) rfl rfl rfl (J_bin rfl (Opd.tmp rfl) (Opd.tmp rfl) B_geq) ?_
    refine RegL.pure (p := (pEq (.bool (decide (low_1 ≤ n_0))))) rfl rfl rfl (J_move rfl (Opd.tmp rfl)) ?_
    rcases Bool.eq_false_or_eq_true (decide (low_1 ≤ n_0)) with hc2 | hc2
    · replace h := bif_t hc2 h
      refine RegL.pureG (p := (pEq (.int .i64 n_0))) rfl rfl rfl hc2 rfl rfl (J_move rfl (Opd.tmp rfl)) ?_
      refine RegL.pureG (p := (pEq (.int .i64 high_2))) rfl rfl rfl hc2 rfl rfl (J_move rfl (Opd.tmp rfl)) ?_
      refine RegL.pureG (p := (pEq (.bool (decide (n_0 ≤ high_2))))) rfl rfl rfl hc2 rfl rfl (J_bin rfl (Opd.tmp rfl) (Opd.tmp rfl) B_leq) ?_
      refine RegL.pure (p := (pEq (.bool (decide (n_0 ≤ high_2))))) rfl rfl rfl (J_pick rfl (Opd.tmp rfl) (fun _ => (Opd.tmp rfl)) (fun hf => absurd (hc2.symm.trans hf) (by decide))) ?_
      refine RegL.pure (p := (pEq (.bool (decide (n_0 ≤ high_2))))) rfl rfl rfl (J_assign rfl (Opd.tmp rfl)) ?_
      refine RegL.nil ?_
      replace h := Option.some.inj h; subst h
      exact Ct.mid () rfl ⟨rfl, trivial⟩
    · replace h := bif_f hc2 h
      refine RegL.skipG rfl rfl rfl hc2 rfl rfl ?_
      refine RegL.skipG rfl rfl rfl hc2 rfl rfl ?_
      refine RegL.skipG rfl rfl rfl hc2 rfl rfl ?_
      refine RegL.pure (p := (pEq (.bool false))) rfl rfl rfl (J_pick rfl (Opd.tmp rfl) (fun hf => absurd (hc2.symm.trans hf) (by decide)) (fun _ => Opd.con)) ?_
      refine RegL.pure (p := (pEq (.bool false))) rfl rfl rfl (J_assign rfl (Opd.tmp rfl)) ?_
      refine RegL.nil ?_
      replace h := Option.some.inj h; subst h
      exact Ct.mid () rfl ⟨rfl, trivial⟩
  · clear hx1
    refine Ct.then_tr ?_
    refine Tr.weak (Γ' := [(6, (pEq (.bool x1)))]) ⟨rfl, trivial⟩ ?_
    refine Tr.ret ?_
    replace h := Option.some.inj h; subst h
    exact Ct.ret1 rfl rfl

theorem c_impl_abs {n_0 : Int} {r : Int} (h : m_impl_abs n_0 = some r) : CallJ Try.prog 51 [(pEq (.int .i64 n_0))] (pEq (.int .i64 r)) := by
  unfold m_impl_abs at h
  refine CallJ.enter Try.func51 rfl Try.ntmps51 rfl fun W I0 => ?_
  refine Tr.weak (Γ' := [(0, (pEq (.int .i64 n_0)))]) ⟨rfl, trivial⟩ ?_
  refine Tr.seq ?_
  refine Tr.region ?_
  refine RegL.pure (p := (pEq (.int .i64 (0 : Int)))) rfl rfl rfl (J_assign rfl Opd.con) ?_
  refine RegL.nil ?_
  refine Ct.then_tr ?_
  refine Tr.weak (Γ' := [(0, (pEq (.int .i64 n_0)))]) ⟨rfl, trivial⟩ ?_
  refine Tr.seq ?_
  refine Tr.region ?_
  refine RegL.pure (p := (pEq (.int .i64 n_0))) rfl rfl rfl (J_move rfl (Opd.tmp rfl)) ?_
  refine RegL.pure (p := (pEq (.int .i64 n_0))) rfl rfl rfl (J_move rfl (Opd.tmp rfl)) ?_
  refine RegL.pure (p := (pEq (.int .i64 (w64 (0 - n_0))))) rfl rfl rfl (J_neg rfl (Opd.tmp rfl)) ?_
  refine RegL.pure (p := (pEq (.int .i64 (if (w64 (0 - n_0)) > n_0 then (w64 (0 - n_0)) else n_0)))) rfl rfl rfl (J_max2 rfl (Opd.tmp rfl) (Opd.tmp rfl)) ?_
  refine RegL.pure (p := (pEq (.int .i64 (if (w64 (0 - n_0)) > n_0 then (w64 (0 - n_0)) else n_0)))) rfl rfl rfl (J_assign rfl (Opd.tmp rfl)) ?_
  refine RegL.nil ?_
  refine Ct.then_tr ?_
  refine Tr.weak (Γ' := [(2, (pEq (.int .i64 (if (w64 (0 - n_0)) > n_0 then (w64 (0 - n_0)) else n_0))))]) ⟨rfl, trivial⟩ ?_
  refine Tr.ret ?_
  replace h := Option.some.inj h; subst h
  exact Ct.ret1 rfl rfl

theorem c_impl_divRound {a_0 : Int} {b_1 : Int} {r : Int} (h : m_impl_divRound a_0 b_1 = some r) : CallJ Try.prog 47 [(pEq (.int .i64 a_0)), (pEq (.int .i64 b_1))] (pEq (.int .i64 r)) := by
  unfold m_impl_divRound at h
  refine CallJ.enter Try.func47 rfl Try.ntmps47 rfl fun W I0 => ?_
  refine Tr.weak (Γ' := [(0, (pEq (.int .i64 a_0))), (1, (pEq (.int .i64 b_1)))]) ⟨rfl, rfl, trivial⟩ ?_
  refine Tr.seq ?_
  refine Tr.region ?_
  refine RegL.pure (p := (pEq (.int .i64 (0 : Int)))) rfl rfl rfl (J_assign rfl Opd.con) ?_
  refine RegL.nil ?_
  refine Ct.then_tr ?_
  refine Tr.weak (Γ' := [(0, (pEq (.int .i64 a_0))), (1, (pEq (.int .i64 b_1)))]) ⟨rfl, rfl, trivial⟩ ?_
  refine Tr.seq ?_
  replace h := bind_some h; obtain ⟨x1, hx1, h⟩ := h
  replace h := bind_some h; obtain ⟨x2, hx2, h⟩ := h
  replace h := bind_some h; obtain ⟨x3, hx3, h⟩ := h
  refine Tr.draw (n := 30) (es := [Ent.mk [(0, (pEq (.int .i64 a_0)))] (pEq (.int .i64 a_0)) true, Ent.mk [(1, (pEq (.int .i64 b_1)))] (pEq (.int .i64 b_1)) true, Ent.mk [(7, (pEq (.int .i64 a_0))), (8, (pEq (.int .i64 b_1)))] (pEq (.int .i64 x1)) true, Ent.mk [(0, (pEq (.int .i64 a_0)))] (pEq (.int .i64 a_0)) true, Ent.mk [(1, (pEq (.int .i64 b_1)))] (pEq (.int .i64 b_1)) true, Ent.mk [(10, (pEq (.int .i64 a_0))), (11, (pEq (.int .i64 b_1)))] (pEq (.int .i64 x2)) true, Ent.mk [(12, (pEq (.int .i64 x2)))] (pEq (.int .i64 x3)) true, Ent.mk [(9, (pEq (.int .i64 x1)))] (pEq (.int .i64 x1)) true, Ent.mk [(13, (pEq (.int .i64 x3)))] (pEq (.int .i64 x3)) true]) (rd := [[0], [1], [7, 8], [0], [1], [10, 11], [12], [9], [13]]) rfl hmix rfl (by kernel_rfl) ⟨⟨(OpJ.w (J_move rfl (Opd.tmp rfl))), ⟨rfl, trivial⟩, rfl⟩, ⟨(OpJ.w (J_move rfl (Opd.tmp rfl))), ⟨rfl, trivial⟩, rfl⟩, ⟨(OpJ.w (J_bin rfl (Opd.tmp rfl) (Opd.tmp rfl) (B_qdiv hx1))), ⟨rfl, rfl, trivial⟩, rfl⟩, ⟨(OpJ.w (J_move rfl (Opd.tmp rfl))), ⟨rfl, trivial⟩, rfl⟩, ⟨(OpJ.w (J_move rfl (Opd.tmp rfl))), ⟨rfl, trivial⟩, rfl⟩, ⟨(OpJ.w (J_bin rfl (Opd.tmp rfl) (Opd.tmp rfl) (B_rdiv hx2))), ⟨rfl, rfl, trivial⟩, rfl⟩, ⟨(OpJ.w (J_call rfl Try.call51 (c_impl_abs hx3) (Opds.cons (Opd.tmp rfl) Opds.nil))), ⟨rfl, trivial⟩, rfl⟩, ⟨(OpJ.w (J_assign rfl (Opd.tmp rfl))), ⟨rfl, trivial⟩, rfl⟩, ⟨(OpJ.w (J_assign rfl (Opd.tmp rfl))), ⟨rfl, trivial⟩, rfl⟩, trivial⟩ ?_
  refine Ct.then_tr ?_
  refine Tr.weak (Γ' := [(0, (pEq (.int .i64 a_0))), (1, (pEq (.int .i64 b_1))), (5, (pEq (.int .i64 x1))), (6, (pEq (.int .i64 x3)))]) ⟨rfl, rfl, rfl, rfl, trivial⟩ ?_
  refine Tr.seq ?_
  refine Tr.seq ?_
  refine Tr.region ?_
  refine RegL.pure (p := (pEq (.int .i64 x3))) rfl rfl rfl (J_move rfl (Opd.tmp rfl)) ?_
  refine RegL.pure (p := (pEq (.int .i64 b_1))) rfl rfl rfl (J_move rfl (Opd.tmp rfl)) ?_
  replace h := bind_some h; obtain ⟨x4, hx4, h⟩ := h
  refine RegL.pure (p := (pEq (.int .i64 x4))) rfl rfl rfl (J_call rfl Try.call51 (c_impl_abs hx4) (Opds.cons (Opd.tmp rfl) Opds.nil)) ?_
  refine RegL.pure (p := (pEq (.int .i64 x3))) rfl rfl rfl (J_move rfl (Opd.tmp rfl)) ?_
  refine RegL.pure (p := (pEq (.int .i64 (w64 (x4 - x3))))) rfl rfl rfl (J_bin rfl (Opd.tmp rfl) (Opd.tmp rfl) B_sub) ?_
  refine RegL.pure (p := (pEq (.bool (decide ((w64 (x4 - x3)) ≤ x3))))) rfl rfl rfl (J_bin rfl (Opd.tmp rfl) (Opd.tmp rfl) B_geq) ?_
  refine RegL.nil ?_
  refine Ct.then_tr ?_
  refine Tr.weak (Γ' := [(0, (pEq (.int .i64 a_0))), (1, (pEq (.int .i64 b_1))), (5, (pEq (.int .i64 x1))), (19, (pEq (.bool (decide ((w64 (x4 - x3)) ≤ x3)))))]) ⟨rfl, rfl, rfl, rfl, trivial⟩ ?_
  refine Tr.cond (Opd.tmp rfl) (fun hc => ?_) (fun hc => ?_)
  · replace h := bif_t hc h
    refine Tr.seq ?_
    refine Tr.seq ?_
    refine Tr.region ?_
    refine RegL.pure (p := (pEq (.int .i64 a_0))) rfl rfl rfl (J_move rfl (Opd.tmp rfl)) ?_
    refine RegL.pure (p := (pEq (.bool (decide (a_0 < (0 : Int)))))) rfl rfl rfl (J_bin rfl (Opd.tmp rfl) Opd.con B_lss) ?_
    refine RegL.pure (p := (pEq (.int .i64 b_1))) rfl rfl rfl (J_move rfl (Opd.tmp rfl)) ?_
    refine RegL.pure (p := (pEq (.bool (decide (b_1 < (0 : Int)))))) rfl rfl rfl (J_bin rfl (Opd.tmp rfl) Opd.con B_lss) ?_
    refine RegL.pure (p := (pEq (.bool ((decide (a_0 < (0 : Int))) == (decide (b_1 < (0 : Int))))))) rfl rfl rfl (J_bin rfl (Opd.tmp rfl) (Opd.tmp rfl) (B_beql Try.underlying4)) ?_
    refine RegL.nil ?_
    refine Ct.then_tr ?_
    refine Tr.weak (Γ' := [(5, (pEq (.int .i64 x1))), (24, (pEq (.bool ((decide (a_0 < (0 : Int))) == (decide (b_1 < (0 : Int)))))))]) ⟨rfl, rfl, trivial⟩ ?_
    refine Tr.cond (Opd.tmp rfl) (fun hc => ?_) (fun hc => ?_)
    · replace h := bif_t hc h
      refine Tr.seq ?_
      refine Tr.region ?_
      refine RegL.pure (p := (pEq (.int .i64 x1))) rfl rfl rfl (J_move rfl (Opd.tmp rfl)) ?_
      refine RegL.pure (p := (pEq (.int .i64 (w64 (x1 + (1 : Int)))))) rfl rfl rfl (J_bin rfl (Opd.tmp rfl) Opd.con B_add) ?_
      refine RegL.pure (p := (pEq (.int .i64 (w64 (x1 + (1 : Int)))))) rfl rfl rfl (J_assign rfl (Opd.tmp rfl)) ?_
      refine RegL.nil ?_
      refine Ct.then_tr ?_
      refine Tr.weak (Γ' := [(4, (pEq (.int .i64 (w64 (x1 + (1 : Int))))))]) ⟨rfl, trivial⟩ ?_
      refine Tr.ret ?_
      refine Ct.then_ret ?_
      refine Ct.then_ret ?_
      replace h := Option.some.inj h; subst h
      exact Ct.ret1 rfl rfl
    · replace h := bif_f hc h
      refine Tr.skip ?_
      refine Ct.then_tr ?_
      refine Tr.weak (Γ' := [(5, (pEq (.int .i64 x1)))]) ⟨rfl, trivial⟩ ?_
      refine Tr.seq ?_
      refine Tr.region ?_
      refine RegL.pure (p := (pEq (.int .i64 x1))) rfl rfl rfl (J_move rfl (Opd.tmp rfl)) ?_
      refine RegL.pure (p := (pEq (.int .i64 (w64 (x1 - (1 : Int)))))) rfl rfl rfl (J_bin rfl (Opd.tmp rfl) Opd.con B_sub) ?_
      refine RegL.pure (p := (pEq (.int .i64 (w64 (x1 - (1 : Int)))))) rfl rfl rfl (J_assign rfl (Opd.tmp rfl)) ?_
      refine RegL.nil ?_
      refine Ct.then_tr ?_
      refine Tr.weak (Γ' := [(4, (pEq (.int .i64 (w64 (x1 - (1 : Int))))))]) ⟨rfl, trivial⟩ ?_
      refine Tr.ret ?_
      refine Ct.then_ret ?_
      replace h := Option.some.inj h; subst h
      exact Ct.ret1 rfl rfl
  · replace h := bif_f hc h
    refine Tr.skip ?_
    refine Ct.then_tr ?_
    refine Tr.weak (Γ' := [(5, (pEq (.int .i64 x1)))]) ⟨rfl, trivial⟩ ?_
    refine Tr.seq ?_
    refine Tr.region ?_
    refine RegL.pure (p := (pEq (.int .i64 x1))) rfl rfl rfl (J_move rfl (Opd.tmp rfl)) ?_
    refine RegL.pure (p := (pEq (.int .i64 x1))) rfl rfl rfl (J_assign rfl (Opd.tmp rfl)) ?_
    refine RegL.nil ?_
    refine Ct.then_tr ?_
    refine Tr.weak (Γ' := [(4, (pEq (.int .i64 x1)))]) ⟨rfl, trivial⟩ ?_
    refine Tr.ret ?_
    replace h := Option.some.inj h; subst h
    exact Ct.ret1 rfl rfl

theorem c_impl_blend {x0_0 : Int} {y0_1 : Int} {x1_2 : Int} {y1_3 : Int} {x_4 : Int} {r : Int} (h : m_impl_blend x0_0 y0_1 x1_2 y1_3 x_4 = some r) : CallJ Try.prog 41 [(pEq (.int .i64 x0_0)), (pEq (.int .i64 y0_1)), (pEq (.int .i64 x1_2)), (pEq (.int .i64 y1_3)), (pEq (.int .i64 x_4))] (pEq (.int .i64 r)) := by
  unfold m_impl_blend at h
  refine CallJ.enter Try.func41 rfl Try.ntmps41 rfl fun W I0 => ?_
  refine Tr.weak (Γ' := [(0, (pEq (.int .i64 x0_0))), (1, (pEq (.int .i64 y0_1))), (2, (pEq (.int .i64 x1_2))), (3, (pEq (.int .i64 y1_3))), (4, (pEq (.int .i64 x_4)))]) ⟨rfl, rfl, rfl, rfl, rfl, trivial⟩ ?_
  refine Tr.seq ?_
  refine Tr.region ?_
  refine RegL.pure (p := (pEq (.int .i64 (0 : Int)))) rfl rfl rfl (J_assign rfl Opd.con) ?_
  refine RegL.nil ?_
  refine Ct.then_tr ?_
  refine Tr.weak (Γ' := [(0, (pEq (.int .i64 x0_0))), (1, (pEq (.int .i64 y0_1))), (2, (pEq (.int .i64 x1_2))), (3, (pEq (.int .i64 y1_3))), (4, (pEq (.int .i64 x_4)))]) ⟨rfl, rfl, rfl, rfl, rfl, trivial⟩ ?_
  refine Tr.seq ?_
  refine Tr.block ?_
  refine Tr.seq ?_
  replace h := bind_some h; obtain ⟨x1, hx1, h⟩ := h
  refine Tr.cut (γ := Unit) (Γm := fun g => [(0, (pEq (.int .i64 x0_0))), (1, (pEq (.int .i64 y0_1))), (2, (pEq (.int .i64 x1_2))), (3, (pEq (.int .i64 y1_3))), (4, (pEq (.int .i64 x_4))), (11, (pEq (.bool x1)))]) (Ωm := fun g => []) ?_ (fun g3 => ?_)
  · clear h
    have h := hx1
    clear hx1
    refine Tr.region ?_
    refine RegL.pure (p := (pEq (.int .i64 x_4))) rfl rfl rfl (J_move rfl (Opd.tmp rfl)) ?_
    refine RegL.pure (p := (pEq (.int .i64 x0_0))) rfl rfl rfl (J_move rfl (Opd.tmp rfl)) ?_
    refine RegL.pure (p := (pEq (.bool (decide (x_4 ≤ x0_0))))) rfl rfl rfl (J_bin rfl (Opd.tmp rfl) (Opd.tmp rfl) B_leq) ?_
    refine RegL.pure (p := (pEq (.bool (decide (x_4 ≤ x0_0))))) rfl rfl rfl (J_move rfl (Opd.tmp rfl)) ?_
    rcases Bool.eq_false_or_eq_true (decide (x_4 ≤ x0_0)) with hc2 | hc2
    · replace h := bif_t hc2 h
      refine RegL.skipG rfl rfl rfl hc2 rfl rfl ?_
      refine RegL.skipG rfl rfl rfl hc2 rfl rfl ?_
      refine RegL.skipG rfl rfl rfl hc2 rfl rfl ?_
      refine RegL.pure (p := (pEq (.bool true))) rfl rfl rfl (J_pick rfl (Opd.tmp rfl) (fun _ => Opd.con) (fun hf => absurd (hc2.symm.trans hf) (by decide))) ?_
      refine RegL.pure (p := (pEq (.bool true))) rfl rfl rfl (J_assign rfl (Opd.tmp rfl)) ?_
      refine RegL.nil ?_
      replace h := Option.some.inj h; subst h
      exact Ct.mid () rfl ⟨rfl, rfl, rfl, rfl, rfl, rfl, trivial⟩
    · replace h := bif_f hc2 h
      refine RegL.pureG (p := (pEq (.int .i64 x1_2))) rfl rfl rfl hc2 rfl rfl (J_move rfl (Opd.tmp rfl)) ?_
      refine RegL.pureG (p := (pEq (.int .i64 x0_0))) rfl rfl rfl hc2 rfl rfl (J_move rfl (Opd.tmp rfl)) ?_
      refine RegL.pureG (p := (pEq (.bool (decide (x1_2 ≤ x0_0))))) rfl rfl rfl hc2 rfl rfl (J_bin rfl (Opd.tmp rfl) (Opd.tmp rfl) B_leq) ?_
      refine RegL.pure (p := (pEq (.bool (decide (x1_2 ≤ x0_0))))) rfl rfl rfl (J_pick rfl (Opd.tmp rfl) (fun hf => absurd (hc2.symm.trans hf) (by decide)) (fun _ => (Opd.tmp rfl))) ?_
      refine RegL.pure (p := (pEq (.bool (decide (x1_2 ≤ x0_0))))) rfl rfl rfl (J_assign rfl (Opd.tmp rfl)) ?_
      refine RegL.nil ?_
      replace h := Option.some.inj h; subst h
      exact Ct.mid () rfl ⟨rfl, rfl, rfl, rfl, rfl, rfl, trivial⟩
  · clear hx1
    refine Ct.then_tr ?_
    refine Tr.weak (Γ' := [(0, (pEq (.int .i64 x0_0))), (1, (pEq (.int .i64 y0_1))), (2, (pEq (.int .i64 x1_2))), (3, (pEq (.int .i64 y1_3))), (4, (pEq (.int .i64 x_4))), (11, (pEq (.bool x1)))]) ⟨rfl, rfl, rfl, rfl, rfl, rfl, trivial⟩ ?_
    refine Tr.cond (Opd.tmp rfl) (fun hc => ?_) (fun hc => ?_)
    · replace h := bif_t hc h
      refine Tr.seq ?_
      refine Tr.region ?_
      refine RegL.pure (p := (pEq (.int .i64 y0_1))) rfl rfl rfl (J_move rfl (Opd.tmp rfl)) ?_
      refine RegL.pure (p := (pEq (.int .i64 y0_1))) rfl rfl rfl (J_assign rfl (Opd.tmp rfl)) ?_
      refine RegL.nil ?_
      refine Ct.then_tr ?_
      refine Tr.weak (Γ' := [(10, (pEq (.int .i64 y0_1)))]) ⟨rfl, trivial⟩ ?_
      refine Tr.ret ?_
      refine Ct.blk_ret ?_
      refine Ct.then_ret ?_
      replace h := Option.some.inj h; subst h
      exact Ct.ret1 rfl rfl
    · replace h := bif_f hc h
      refine Tr.seq ?_
      refine Tr.region ?_
      refine RegL.pure (p := (pEq (.int .i64 x_4))) rfl rfl rfl (J_move rfl (Opd.tmp rfl)) ?_
      refine RegL.pure (p := (pEq (.int .i64 x1_2))) rfl rfl rfl (J_move rfl (Opd.tmp rfl)) ?_
      refine RegL.pure (p := (pEq (.bool (decide (x1_2 ≤ x_4))))) rfl rfl rfl (J_bin rfl (Opd.tmp rfl) (Opd.tmp rfl) B_geq) ?_
      refine RegL.pure (p := (pEq (.bool (decide (x1_2 ≤ x_4))))) rfl rfl rfl (J_assign rfl (Opd.tmp rfl)) ?_
      refine RegL.nil ?_
      refine Ct.then_tr ?_
      refine Tr.weak (Γ' := [(0, (pEq (.int .i64 x0_0))), (1, (pEq (.int .i64 y0_1))), (2, (pEq (.int .i64 x1_2))), (3, (pEq (.int .i64 y1_3))), (4, (pEq (.int .i64 x_4))), (21, (pEq (.bool (decide (x1_2 ≤ x_4)))))]) ⟨rfl, rfl, rfl, rfl, rfl, rfl, trivial⟩ ?_
      refine Tr.cond (Opd.tmp rfl) (fun hc => ?_) (fun hc => ?_)
      · replace h := bif_t hc h
        refine Tr.seq ?_
        refine Tr.region ?_
        refine RegL.pure (p := (pEq (.int .i64 y1_3))) rfl rfl rfl (J_move rfl (Opd.tmp rfl)) ?_
        refine RegL.pure (p := (pEq (.int .i64 y1_3))) rfl rfl rfl (J_assign rfl (Opd.tmp rfl)) ?_
        refine RegL.nil ?_
        refine Ct.then_tr ?_
        refine Tr.weak (Γ' := [(10, (pEq (.int .i64 y1_3)))]) ⟨rfl, trivial⟩ ?_
        refine Tr.ret ?_
        refine Ct.blk_ret ?_
        refine Ct.then_ret ?_
        replace h := Option.some.inj h; subst h
        exact Ct.ret1 rfl rfl
      · replace h := bif_f hc h
        refine Tr.skip ?_
        refine Ct.blk_normal ?_
        refine Ct.then_tr ?_
        refine Tr.weak (Γ' := [(0, (pEq (.int .i64 x0_0))), (1, (pEq (.int .i64 y0_1))), (2, (pEq (.int .i64 x1_2))), (3, (pEq (.int .i64 y1_3))), (4, (pEq (.int .i64 x_4)))]) ⟨rfl, rfl, rfl, rfl, rfl, trivial⟩ ?_
        refine Tr.seq ?_
        refine Tr.region ?_
        refine RegL.pure (p := (pEq (.int .i64 y0_1))) rfl rfl rfl (J_move rfl (Opd.tmp rfl)) ?_
        refine RegL.pure (p := (pEq (.int .i64 y1_3))) rfl rfl rfl (J_move rfl (Opd.tmp rfl)) ?_
        refine RegL.pure (p := (pEq (.int .i64 y0_1))) rfl rfl rfl (J_move rfl (Opd.tmp rfl)) ?_
        refine RegL.pure (p := (pEq (.int .i64 (w64 (y1_3 - y0_1))))) rfl rfl rfl (J_bin rfl (Opd.tmp rfl) (Opd.tmp rfl) B_sub) ?_
        refine RegL.pure (p := (pEq (.int .i64 x_4))) rfl rfl rfl (J_move rfl (Opd.tmp rfl)) ?_
        refine RegL.pure (p := (pEq (.int .i64 x0_0))) rfl rfl rfl (J_move rfl (Opd.tmp rfl)) ?_
        refine RegL.pure (p := (pEq (.int .i64 (w64 (x_4 - x0_0))))) rfl rfl rfl (J_bin rfl (Opd.tmp rfl) (Opd.tmp rfl) B_sub) ?_
        refine RegL.pure (p := (pEq (.int .i64 (w64 ((w64 (y1_3 - y0_1)) * (w64 (x_4 - x0_0))))))) rfl rfl rfl (J_bin rfl (Opd.tmp rfl) (Opd.tmp rfl) B_mul) ?_
        refine RegL.pure (p := (pEq (.int .i64 x1_2))) rfl rfl rfl (J_move rfl (Opd.tmp rfl)) ?_
        refine RegL.pure (p := (pEq (.int .i64 x0_0))) rfl rfl rfl (J_move rfl (Opd.tmp rfl)) ?_
        refine RegL.pure (p := (pEq (.int .i64 (w64 (x1_2 - x0_0))))) rfl rfl rfl (J_bin rfl (Opd.tmp rfl) (Opd.tmp rfl) B_sub) ?_
        replace h := bind_some h; obtain ⟨x4, hx4, h⟩ := h
        refine RegL.pure (p := (pEq (.int .i64 x4))) rfl rfl rfl (J_call rfl Try.call47 (c_impl_divRound hx4) (Opds.cons (Opd.tmp rfl) (Opds.cons (Opd.tmp rfl) Opds.nil))) ?_
        refine RegL.pure (p := (pEq (.int .i64 (w64 (y0_1 + x4))))) rfl rfl rfl (J_bin rfl (Opd.tmp rfl) (Opd.tmp rfl) B_add) ?_
        refine RegL.pure (p := (pEq (.int .i64 (w64 (y0_1 + x4))))) rfl rfl rfl (J_assign rfl (Opd.tmp rfl)) ?_
        refine RegL.nil ?_
        refine Ct.then_tr ?_
        refine Tr.weak (Γ' := [(10, (pEq (.int .i64 (w64 (y0_1 + x4)))))]) ⟨rfl, trivial⟩ ?_
        refine Tr.ret ?_
        replace h := Option.some.inj h; subst h
        exact Ct.ret1 rfl rfl

theorem c_impl_exceedanceOf {rain_0 : Int} {r : Int} (h : m_impl_exceedanceOf rain_0 = some r) : CallJ Try.prog 32 [(pEq (.int .i64 rain_0))] (pEq (.int .i64 r)) := by
  unfold m_impl_exceedanceOf at h
  refine CallJ.enter Try.func32 rfl Try.ntmps32 rfl fun W I0 => ?_
  refine Tr.weak (Γ' := [(0, (pEq (.int .i64 rain_0)))]) ⟨rfl, trivial⟩ ?_
  refine Tr.seq ?_
  refine Tr.region ?_
  refine RegL.pure (p := (pEq (.int .i64 (0 : Int)))) rfl rfl rfl (J_assign rfl Opd.con) ?_
  refine RegL.nil ?_
  refine Ct.then_tr ?_
  refine Tr.weak (Γ' := [(0, (pEq (.int .i64 rain_0)))]) ⟨rfl, trivial⟩ ?_
  refine Tr.seq ?_
  refine Tr.region ?_
  refine RegL.pure (p := (pAgg (cArr (cK .i64) ([(0 : Int), (50000 : Int)] : (List Int))))) rfl rfl rfl (J_build (qss := [(0, (cK .i64) (0 : Int)), (1, (cK .i64) (50000 : Int))]) rfl bl51 bz51 (Parts.cons (Part.one Opd.con OneC.int) (Parts.cons (Part.one Opd.con OneC.int) Parts.nil)) rfl) ?_
  refine RegL.pure (p := (pAgg (cArr (cK .i64) ([(8 : Int), (10000 : Int)] : (List Int))))) rfl rfl rfl (J_build (qss := [(0, (cK .i64) (8 : Int)), (1, (cK .i64) (10000 : Int))]) rfl bl51 bz51 (Parts.cons (Part.one Opd.con OneC.int) (Parts.cons (Part.one Opd.con OneC.int) Parts.nil)) rfl) ?_
  refine RegL.pure (p := (pAgg (cArr (cK .i64) ([(30 : Int), (1000 : Int)] : (List Int))))) rfl rfl rfl (J_build (qss := [(0, (cK .i64) (30 : Int)), (1, (cK .i64) (1000 : Int))]) rfl bl51 bz51 (Parts.cons (Part.one Opd.con OneC.int) (Parts.cons (Part.one Opd.con OneC.int) Parts.nil)) rfl) ?_
  refine RegL.pure (p := (pAgg (cArr (cK .i64) ([(60 : Int), (100 : Int)] : (List Int))))) rfl rfl rfl (J_build (qss := [(0, (cK .i64) (60 : Int)), (1, (cK .i64) (100 : Int))]) rfl bl51 bz51 (Parts.cons (Part.one Opd.con OneC.int) (Parts.cons (Part.one Opd.con OneC.int) Parts.nil)) rfl) ?_
  refine RegL.pure (p := (pAgg (cArr (cK .i64) ([(100 : Int), (10 : Int)] : (List Int))))) rfl rfl rfl (J_build (qss := [(0, (cK .i64) (100 : Int)), (1, (cK .i64) (10 : Int))]) rfl bl51 bz51 (Parts.cons (Part.one Opd.con OneC.int) (Parts.cons (Part.one Opd.con OneC.int) Parts.nil)) rfl) ?_
  refine RegL.pure (p := (pAgg (cArr (cK .i64) ([(150 : Int), (1 : Int)] : (List Int))))) rfl rfl rfl (J_build (qss := [(0, (cK .i64) (150 : Int)), (1, (cK .i64) (1 : Int))]) rfl bl51 bz51 (Parts.cons (Part.one Opd.con OneC.int) (Parts.cons (Part.one Opd.con OneC.int) Parts.nil)) rfl) ?_
  refine RegL.pure (p := (pAgg (cArr (cK .i64) ([(200 : Int), (0 : Int)] : (List Int))))) rfl rfl rfl (J_build (qss := [(0, (cK .i64) (200 : Int)), (1, (cK .i64) (0 : Int))]) rfl bl51 bz51 (Parts.cons (Part.one Opd.con OneC.int) (Parts.cons (Part.one Opd.con OneC.int) Parts.nil)) rfl) ?_
  refine RegL.pure (p := (pAgg (cArr (cArr (cK .i64)) ([([(0 : Int), (50000 : Int)] : (List Int)), ([(8 : Int), (10000 : Int)] : (List Int)), ([(30 : Int), (1000 : Int)] : (List Int)), ([(60 : Int), (100 : Int)] : (List Int)), ([(100 : Int), (10 : Int)] : (List Int)), ([(150 : Int), (1 : Int)] : (List Int)), ([(200 : Int), (0 : Int)] : (List Int))] : (List (List Int)))))) rfl rfl rfl (J_build (qss := [(0, (cArr (cK .i64)) ([(0 : Int), (50000 : Int)] : (List Int))), (1, (cArr (cK .i64)) ([(8 : Int), (10000 : Int)] : (List Int))), (2, (cArr (cK .i64)) ([(30 : Int), (1000 : Int)] : (List Int))), (3, (cArr (cK .i64)) ([(60 : Int), (100 : Int)] : (List Int))), (4, (cArr (cK .i64)) ([(100 : Int), (10 : Int)] : (List Int))), (5, (cArr (cK .i64)) ([(150 : Int), (1 : Int)] : (List Int))), (6, (cArr (cK .i64)) ([(200 : Int), (0 : Int)] : (List Int)))]) rfl bl52 bz52 (Parts.cons (Part.agg (Opd.tmp rfl)) (Parts.cons (Part.agg (Opd.tmp rfl)) (Parts.cons (Part.agg (Opd.tmp rfl)) (Parts.cons (Part.agg (Opd.tmp rfl)) (Parts.cons (Part.agg (Opd.tmp rfl)) (Parts.cons (Part.agg (Opd.tmp rfl)) (Parts.cons (Part.agg (Opd.tmp rfl)) Parts.nil))))))) rfl) ?_
  refine RegL.step (γ := Nat) (p := fun b => pEq (.pointer (some ⟨b, 0, none⟩))) (Ω' := fun b => [oBlk b ((cArr (cArr (cK .i64))) (List.replicate 7 (List.replicate 2 (0 : Int))))]) rfl rfl rfl (M_alloc rfl zero52) fun b1 => ?_
  refine RegL.stepN (γ := Unit) (p := fun _ => pAny) (Ω' := fun _ => [oBlk b1 ((cArr (cArr (cK .i64))) ([([(0 : Int), (50000 : Int)] : (List Int)), ([(8 : Int), (10000 : Int)] : (List Int)), ([(30 : Int), (1000 : Int)] : (List Int)), ([(60 : Int), (100 : Int)] : (List Int)), ([(100 : Int), (10 : Int)] : (List Int)), ([(150 : Int), (1 : Int)] : (List Int)), ([(200 : Int), (0 : Int)] : (List Int))] : (List (List Int))))]) rfl rfl (M_storeA rfl sz52 (Opd.tmp rfl) (Opd.tmp rfl) (fun _ _ _ h => ones_of ((OneCs.cons OneC.int (OneCs.cons OneC.int (OneCs.cons OneC.int (OneCs.cons OneC.int (OneCs.cons OneC.int (OneCs.cons OneC.int (OneCs.cons OneC.int (OneCs.cons OneC.int (OneCs.cons OneC.int (OneCs.cons OneC.int (OneCs.cons OneC.int (OneCs.cons OneC.int (OneCs.cons OneC.int (OneCs.cons OneC.int OneCs.nil))))))))))))))) h) rfl rfl) fun _ => ?_
  refine RegL.freeze (s := 3) rfl ?_
  refine RegL.nil ?_
  refine Ct.then_tr ?_
  refine Tr.weak (Γ' := [(0, (pEq (.int .i64 rain_0))), (3, (pPtr ((cArr (cArr (cK .i64))) ([([(0 : Int), (50000 : Int)] : (List Int)), ([(8 : Int), (10000 : Int)] : (List Int)), ([(30 : Int), (1000 : Int)] : (List Int)), ([(60 : Int), (100 : Int)] : (List Int)), ([(100 : Int), (10 : Int)] : (List Int)), ([(150 : Int), (1 : Int)] : (List Int)), ([(200 : Int), (0 : Int)] : (List Int))] : (List (List Int))))))]) ⟨rfl, rfl, trivial⟩ ?_
  refine Tr.seq ?_
  refine Tr.region ?_
  refine RegL.pure (p := (pEq (.int .i64 (1 : Int)))) rfl rfl rfl (J_assign rfl Opd.con) ?_
  refine RegL.nil ?_
  refine Ct.then_tr ?_
  refine Tr.weak (Γ' := [(0, (pEq (.int .i64 rain_0))), (3, (pPtr ((cArr (cArr (cK .i64))) ([([(0 : Int), (50000 : Int)] : (List Int)), ([(8 : Int), (10000 : Int)] : (List Int)), ([(30 : Int), (1000 : Int)] : (List Int)), ([(60 : Int), (100 : Int)] : (List Int)), ([(100 : Int), (10 : Int)] : (List Int)), ([(150 : Int), (1 : Int)] : (List Int)), ([(200 : Int), (0 : Int)] : (List Int))] : (List (List Int)))))), (4, (pEq (.int .i64 (1 : Int))))]) ⟨rfl, rfl, rfl, trivial⟩ ?_
  refine Tr.seq ?_
  replace h := bind_some h; obtain ⟨x2, hx2, h⟩ := h
  refine Tr.cut (γ := Unit) (Γm := fun g => [(0, (pEq (.int .i64 rain_0))), (3, (pPtr ((cArr (cArr (cK .i64))) ([([(0 : Int), (50000 : Int)] : (List Int)), ([(8 : Int), (10000 : Int)] : (List Int)), ([(30 : Int), (1000 : Int)] : (List Int)), ([(60 : Int), (100 : Int)] : (List Int)), ([(100 : Int), (10 : Int)] : (List Int)), ([(150 : Int), (1 : Int)] : (List Int)), ([(200 : Int), (0 : Int)] : (List Int))] : (List (List Int)))))), (4, (pEq (.int .i64 x2)))]) (Ωm := fun g => []) ?_ (fun g11 => ?_)
  · clear h
    have h := hx2
    clear hx2
    refine Tr.block ?_
    refine Tr.weak (Γ' := [(0, (pEq (.int .i64 rain_0))), (3, (pPtr ((cArr (cArr (cK .i64))) ([([(0 : Int), (50000 : Int)] : (List Int)), ([(8 : Int), (10000 : Int)] : (List Int)), ([(30 : Int), (1000 : Int)] : (List Int)), ([(60 : Int), (100 : Int)] : (List Int)), ([(100 : Int), (10 : Int)] : (List Int)), ([(150 : Int), (1 : Int)] : (List Int)), ([(200 : Int), (0 : Int)] : (List Int))] : (List (List Int)))))), (4, (pEq (.int .i64 (1 : Int))))]) ⟨rfl, rfl, rfl, trivial⟩ ?_
    refine Tr.loop (γ := Unit) (σ := Int) (Γσ := fun s g => [(0, (pEq (.int .i64 rain_0))), (3, (pPtr ((cArr (cArr (cK .i64))) ([([(0 : Int), (50000 : Int)] : (List Int)), ([(8 : Int), (10000 : Int)] : (List Int)), ([(30 : Int), (1000 : Int)] : (List Int)), ([(60 : Int), (100 : Int)] : (List Int)), ([(100 : Int), (10 : Int)] : (List Int)), ([(150 : Int), (1 : Int)] : (List Int)), ([(200 : Int), (0 : Int)] : (List Int))] : (List (List Int)))))), (4, (pEq (.int .i64 s)))]) (Ωσ := fun s g => []) (g := ()) h ?_
    clear h
    rintro v4 g5 t h
    replace h : m_impl_exceedanceOf_B3 rain_0 v4 = some t := h
    unfold m_impl_exceedanceOf_B3 at h
    refine Tr.weakO (Γ' := [(0, (pEq (.int .i64 rain_0))), (3, (pPtr ((cArr (cArr (cK .i64))) ([([(0 : Int), (50000 : Int)] : (List Int)), ([(8 : Int), (10000 : Int)] : (List Int)), ([(30 : Int), (1000 : Int)] : (List Int)), ([(60 : Int), (100 : Int)] : (List Int)), ([(100 : Int), (10 : Int)] : (List Int)), ([(150 : Int), (1 : Int)] : (List Int)), ([(200 : Int), (0 : Int)] : (List Int))] : (List (List Int)))))), (4, (pEq (.int .i64 v4)))]) (Ω' := []) rfl ⟨rfl, rfl, rfl, trivial⟩ ?_
    refine Tr.seq ?_
    refine Tr.seq ?_
    replace h := bind_some h; obtain ⟨x6, hx6, h⟩ := h
    refine Tr.cut (γ := Unit) (Γm := fun g => [(0, (pEq (.int .i64 rain_0))), (3, (pPtr ((cArr (cArr (cK .i64))) ([([(0 : Int), (50000 : Int)] : (List Int)), ([(8 : Int), (10000 : Int)] : (List Int)), ([(30 : Int), (1000 : Int)] : (List Int)), ([(60 : Int), (100 : Int)] : (List Int)), ([(100 : Int), (10 : Int)] : (List Int)), ([(150 : Int), (1 : Int)] : (List Int)), ([(200 : Int), (0 : Int)] : (List Int))] : (List (List Int)))))), (4, (pEq (.int .i64 v4))), (22, (pEq (.bool x6)))]) (Ωm := fun g => []) ?_ (fun g10 => ?_)
    · clear h
      have h := hx6
      clear hx6
      refine Tr.region ?_
      refine RegL.pure (p := (pEq (.int .i64 v4))) rfl rfl rfl (J_move rfl (Opd.tmp rfl)) ?_
      refine RegL.pure (p := (pEq (.bool (decide (v4 < (6 : Int)))))) rfl rfl rfl (J_bin rfl (Opd.tmp rfl) Opd.con B_lss) ?_
      refine RegL.pure (p := (pEq (.bool (decide (v4 < (6 : Int)))))) rfl rfl rfl (J_move rfl (Opd.tmp rfl)) ?_
      rcases Bool.eq_false_or_eq_true (decide (v4 < (6 : Int))) with hc7 | hc7
      · replace h := bif_t hc7 h
        refine RegL.pureG (p := (pEq (.int .i64 v4))) rfl rfl rfl hc7 rfl rfl (J_move rfl (Opd.tmp rfl)) ?_
        replace h := bind_some h; obtain ⟨x8, hx8, h⟩ := h
        refine RegL.pureG (p := (pPtr ((cArr (cK .i64)) x8))) rfl rfl rfl hc7 rfl rfl (J_aidxAddr rfl Try.underlying52 sz51 (Opd.tmp rfl) (Opd.tmp rfl) rfl rfl hx8) ?_
        replace h := bind_some h; obtain ⟨x9, hx9, h⟩ := h
        refine RegL.pureG (p := (pPtr ((cK .i64) x9))) rfl rfl rfl hc7 rfl rfl (J_aidxAddr rfl Try.underlying51 sz2 (Opd.tmp rfl) Opd.con (idx_len (n := 2) rfl hx8) (all_of (f := (cK .i64)) (k := 1) fun _ => rfl) hx9) ?_
        refine RegL.pureG (p := (pEq (.int .i64 x9))) rfl rfl rfl hc7 rfl rfl (J_load rfl Try.isAgg2 (Opd.tmp rfl)) ?_
        refine RegL.pureG (p := (pEq (.int .i64 rain_0))) rfl rfl rfl hc7 rfl rfl (J_move rfl (Opd.tmp rfl)) ?_
        refine RegL.pureG (p := (pEq (.bool (decide (x9 < rain_0))))) rfl rfl rfl hc7 rfl rfl (J_bin rfl (Opd.tmp rfl) (Opd.tmp rfl) B_lss) ?_
        refine RegL.pure (p := (pEq (.bool (decide (x9 < rain_0))))) rfl rfl rfl (J_pick rfl (Opd.tmp rfl) (fun _ => (Opd.tmp rfl)) (fun hf => absurd (hc7.symm.trans hf) (by decide))) ?_
        refine RegL.nil ?_
        replace h := Option.some.inj h; subst h
        exact Ct.mid () rfl ⟨rfl, rfl, rfl, rfl, trivial⟩
      · replace h := bif_f hc7 h
        refine RegL.skipG rfl rfl rfl hc7 rfl rfl ?_
        refine RegL.skipG rfl rfl rfl hc7 rfl rfl ?_
        refine RegL.skipG rfl rfl rfl hc7 rfl rfl ?_
        refine RegL.skipG rfl rfl rfl hc7 rfl rfl ?_
        refine RegL.skipG rfl rfl rfl hc7 rfl rfl ?_
        refine RegL.skipG rfl rfl rfl hc7 rfl rfl ?_
        refine RegL.pure (p := (pEq (.bool false))) rfl rfl rfl (J_pick rfl (Opd.tmp rfl) (fun hf => absurd (hc7.symm.trans hf) (by decide)) (fun _ => Opd.con)) ?_
        refine RegL.nil ?_
        replace h := Option.some.inj h; subst h
        exact Ct.mid () rfl ⟨rfl, rfl, rfl, rfl, trivial⟩
    · clear hx6
      refine Ct.then_tr ?_
      refine Tr.weak (Γ' := [(0, (pEq (.int .i64 rain_0))), (3, (pPtr ((cArr (cArr (cK .i64))) ([([(0 : Int), (50000 : Int)] : (List Int)), ([(8 : Int), (10000 : Int)] : (List Int)), ([(30 : Int), (1000 : Int)] : (List Int)), ([(60 : Int), (100 : Int)] : (List Int)), ([(100 : Int), (10 : Int)] : (List Int)), ([(150 : Int), (1 : Int)] : (List Int)), ([(200 : Int), (0 : Int)] : (List Int))] : (List (List Int)))))), (4, (pEq (.int .i64 v4))), (22, (pEq (.bool x6)))]) ⟨rfl, rfl, rfl, rfl, trivial⟩ ?_
      refine Tr.cond (Opd.tmp rfl) (fun hc => ?_) (fun hc => ?_)
      · replace h := bif_t hc h
        refine Tr.skip ?_
        refine Ct.then_tr ?_
        refine Tr.weak (Γ' := [(0, (pEq (.int .i64 rain_0))), (3, (pPtr ((cArr (cArr (cK .i64))) ([([(0 : Int), (50000 : Int)] : (List Int)), ([(8 : Int), (10000 : Int)] : (List Int)), ([(30 : Int), (1000 : Int)] : (List Int)), ([(60 : Int), (100 : Int)] : (List Int)), ([(100 : Int), (10 : Int)] : (List Int)), ([(150 : Int), (1 : Int)] : (List Int)), ([(200 : Int), (0 : Int)] : (List Int))] : (List (List Int)))))), (4, (pEq (.int .i64 v4)))]) ⟨rfl, rfl, rfl, trivial⟩ ?_
        refine Tr.block ?_
        refine Tr.region ?_
        refine RegL.pure (p := (pEq (.int .i64 v4))) rfl rfl rfl (J_move rfl (Opd.tmp rfl)) ?_
        refine RegL.pure (p := (pEq (.int .i64 (w64 (v4 + (1 : Int)))))) rfl rfl rfl (J_bin rfl (Opd.tmp rfl) Opd.con B_add) ?_
        refine RegL.pure (p := (pEq (.int .i64 (w64 (v4 + (1 : Int)))))) rfl rfl rfl (J_assign rfl (Opd.tmp rfl)) ?_
        refine RegL.nil ?_
        refine Ct.blk_normal ?_
        replace h := Option.some.inj h; subst h
        exact Ct.again () rfl ⟨rfl, rfl, rfl, trivial⟩
      · replace h := bif_f hc h
        refine Tr.exit ?_
        refine Ct.then_exit ?_
        replace h := map_some h; obtain ⟨r1, h, rfl⟩ := h
        refine Ct.out_exit fun e => ?_
        subst e
        refine Ct.blk_exit ?_
        replace h := Option.some.inj h; subst h
        exact Ct.mid () rfl ⟨rfl, rfl, rfl, trivial⟩
  · clear hx2
    refine Ct.then_tr ?_
    refine Tr.weak (Γ' := [(0, (pEq (.int .i64 rain_0))), (3, (pPtr ((cArr (cArr (cK .i64))) ([([(0 : Int), (50000 : Int)] : (List Int)), ([(8 : Int), (10000 : Int)] : (List Int)), ([(30 : Int), (1000 : Int)] : (List Int)), ([(60 : Int), (100 : Int)] : (List Int)), ([(100 : Int), (10 : Int)] : (List Int)), ([(150 : Int), (1 : Int)] : (List Int)), ([(200 : Int), (0 : Int)] : (List Int))] : (List (List Int)))))), (4, (pEq (.int .i64 x2)))]) ⟨rfl, rfl, rfl, trivial⟩ ?_
    refine Tr.seq ?_
    replace h := bind_some h; obtain ⟨x12, hx12, h⟩ := h
    replace h := bind_some h; obtain ⟨x13, hx13, h⟩ := h
    replace h := bind_some h; obtain ⟨x14, hx14, h⟩ := h
    replace h := bind_some h; obtain ⟨x15, hx15, h⟩ := h
    replace h := bind_some h; obtain ⟨x16, hx16, h⟩ := h
    replace h := bind_some h; obtain ⟨x17, hx17, h⟩ := h
    replace h := bind_some h; obtain ⟨x18, hx18, h⟩ := h
    replace h := bind_some h; obtain ⟨x19, hx19, h⟩ := h
    replace h := bind_some h; obtain ⟨x20, hx20, h⟩ := h
    refine Tr.draw (n := 45) (es := [Ent.mk [(4, (pEq (.int .i64 x2)))] (pEq (.int .i64 x2)) true, Ent.mk [(25, (pEq (.int .i64 x2)))] (pEq (.int .i64 (w64 (x2 - (1 : Int))))) true, Ent.mk [(3, (pPtr ((cArr (cArr (cK .i64))) ([([(0 : Int), (50000 : Int)] : (List Int)), ([(8 : Int), (10000 : Int)] : (List Int)), ([(30 : Int), (1000 : Int)] : (List Int)), ([(60 : Int), (100 : Int)] : (List Int)), ([(100 : Int), (10 : Int)] : (List Int)), ([(150 : Int), (1 : Int)] : (List Int)), ([(200 : Int), (0 : Int)] : (List Int))] : (List (List Int)))))), (26, (pEq (.int .i64 (w64 (x2 - (1 : Int))))))] (pPtr ((cArr (cK .i64)) x12)) true, Ent.mk [(27, (pPtr ((cArr (cK .i64)) x12)))] (pPtr ((cK .i64) x13)) true, Ent.mk [(28, (pPtr ((cK .i64) x13)))] (pEq (.int .i64 x13)) true, Ent.mk [(4, (pEq (.int .i64 x2)))] (pEq (.int .i64 x2)) true, Ent.mk [(30, (pEq (.int .i64 x2)))] (pEq (.int .i64 (w64 (x2 - (1 : Int))))) true, Ent.mk [(3, (pPtr ((cArr (cArr (cK .i64))) ([([(0 : Int), (50000 : Int)] : (List Int)), ([(8 : Int), (10000 : Int)] : (List Int)), ([(30 : Int), (1000 : Int)] : (List Int)), ([(60 : Int), (100 : Int)] : (List Int)), ([(100 : Int), (10 : Int)] : (List Int)), ([(150 : Int), (1 : Int)] : (List Int)), ([(200 : Int), (0 : Int)] : (List Int))] : (List (List Int)))))), (31, (pEq (.int .i64 (w64 (x2 - (1 : Int))))))] (pPtr ((cArr (cK .i64)) x14)) true, Ent.mk [(32, (pPtr ((cArr (cK .i64)) x14)))] (pPtr ((cK .i64) x15)) true, Ent.mk [(33, (pPtr ((cK .i64) x15)))] (pEq (.int .i64 x15)) true, Ent.mk [(4, (pEq (.int .i64 x2)))] (pEq (.int .i64 x2)) true, Ent.mk [(3, (pPtr ((cArr (cArr (cK .i64))) ([([(0 : Int), (50000 : Int)] : (List Int)), ([(8 : Int), (10000 : Int)] : (List Int)), ([(30 : Int), (1000 : Int)] : (List Int)), ([(60 : Int), (100 : Int)] : (List Int)), ([(100 : Int), (10 : Int)] : (List Int)), ([(150 : Int), (1 : Int)] : (List Int)), ([(200 : Int), (0 : Int)] : (List Int))] : (List (List Int)))))), (35, (pEq (.int .i64 x2)))] (pPtr ((cArr (cK .i64)) x16)) true, Ent.mk [(36, (pPtr ((cArr (cK .i64)) x16)))] (pPtr ((cK .i64) x17)) true, Ent.mk [(37, (pPtr ((cK .i64) x17)))] (pEq (.int .i64 x17)) true, Ent.mk [(4, (pEq (.int .i64 x2)))] (pEq (.int .i64 x2)) true, Ent.mk [(3, (pPtr ((cArr (cArr (cK .i64))) ([([(0 : Int), (50000 : Int)] : (List Int)), ([(8 : Int), (10000 : Int)] : (List Int)), ([(30 : Int), (1000 : Int)] : (List Int)), ([(60 : Int), (100 : Int)] : (List Int)), ([(100 : Int), (10 : Int)] : (List Int)), ([(150 : Int), (1 : Int)] : (List Int)), ([(200 : Int), (0 : Int)] : (List Int))] : (List (List Int)))))), (39, (pEq (.int .i64 x2)))] (pPtr ((cArr (cK .i64)) x18)) true, Ent.mk [(40, (pPtr ((cArr (cK .i64)) x18)))] (pPtr ((cK .i64) x19)) true, Ent.mk [(41, (pPtr ((cK .i64) x19)))] (pEq (.int .i64 x19)) true, Ent.mk [(0, (pEq (.int .i64 rain_0)))] (pEq (.int .i64 rain_0)) true, Ent.mk [(29, (pEq (.int .i64 x13))), (34, (pEq (.int .i64 x15))), (38, (pEq (.int .i64 x17))), (42, (pEq (.int .i64 x19))), (43, (pEq (.int .i64 rain_0)))] (pEq (.int .i64 x20)) true, Ent.mk [(44, (pEq (.int .i64 x20)))] (pEq (.int .i64 x20)) true]) (rd := [[4], [25], [3, 26], [27], [28], [4], [30], [3, 31], [32], [33], [4], [3, 35], [36], [37], [4], [3, 39], [40], [41], [0], [29, 34, 38, 42, 43], [44]]) rfl hmix rfl (by kernel_rfl) ⟨⟨(OpJ.w (J_move rfl (Opd.tmp rfl))), ⟨rfl, trivial⟩, rfl⟩, ⟨(OpJ.w (J_bin rfl (Opd.tmp rfl) Opd.con B_sub)), ⟨rfl, trivial⟩, rfl⟩, ⟨(OpJ.w (J_aidxAddr rfl Try.underlying52 sz51 (Opd.tmp rfl) (Opd.tmp rfl) rfl rfl hx12)), ⟨rfl, rfl, trivial⟩, rfl⟩, ⟨(OpJ.w (J_aidxAddr rfl Try.underlying51 sz2 (Opd.tmp rfl) Opd.con (idx_len (n := 2) rfl hx12) (all_of (f := (cK .i64)) (k := 1) fun _ => rfl) hx13)), ⟨rfl, trivial⟩, rfl⟩, ⟨(OpJ.w (J_load rfl Try.isAgg2 (Opd.tmp rfl))), ⟨rfl, trivial⟩, rfl⟩, ⟨(OpJ.w (J_move rfl (Opd.tmp rfl))), ⟨rfl, trivial⟩, rfl⟩, ⟨(OpJ.w (J_bin rfl (Opd.tmp rfl) Opd.con B_sub)), ⟨rfl, trivial⟩, rfl⟩, ⟨(OpJ.w (J_aidxAddr rfl Try.underlying52 sz51 (Opd.tmp rfl) (Opd.tmp rfl) rfl rfl hx14)), ⟨rfl, rfl, trivial⟩, rfl⟩, ⟨(OpJ.w (J_aidxAddr rfl Try.underlying51 sz2 (Opd.tmp rfl) Opd.con (idx_len (n := 2) rfl hx14) (all_of (f := (cK .i64)) (k := 1) fun _ => rfl) hx15)), ⟨rfl, trivial⟩, rfl⟩, ⟨(OpJ.w (J_load rfl Try.isAgg2 (Opd.tmp rfl))), ⟨rfl, trivial⟩, rfl⟩, ⟨(OpJ.w (J_move rfl (Opd.tmp rfl))), ⟨rfl, trivial⟩, rfl⟩, ⟨(OpJ.w (J_aidxAddr rfl Try.underlying52 sz51 (Opd.tmp rfl) (Opd.tmp rfl) rfl rfl hx16)), ⟨rfl, rfl, trivial⟩, rfl⟩, ⟨(OpJ.w (J_aidxAddr rfl Try.underlying51 sz2 (Opd.tmp rfl) Opd.con (idx_len (n := 2) rfl hx16) (all_of (f := (cK .i64)) (k := 1) fun _ => rfl) hx17)), ⟨rfl, trivial⟩, rfl⟩, ⟨(OpJ.w (J_load rfl Try.isAgg2 (Opd.tmp rfl))), ⟨rfl, trivial⟩, rfl⟩, ⟨(OpJ.w (J_move rfl (Opd.tmp rfl))), ⟨rfl, trivial⟩, rfl⟩, ⟨(OpJ.w (J_aidxAddr rfl Try.underlying52 sz51 (Opd.tmp rfl) (Opd.tmp rfl) rfl rfl hx18)), ⟨rfl, rfl, trivial⟩, rfl⟩, ⟨(OpJ.w (J_aidxAddr rfl Try.underlying51 sz2 (Opd.tmp rfl) Opd.con (idx_len (n := 2) rfl hx18) (all_of (f := (cK .i64)) (k := 1) fun _ => rfl) hx19)), ⟨rfl, trivial⟩, rfl⟩, ⟨(OpJ.w (J_load rfl Try.isAgg2 (Opd.tmp rfl))), ⟨rfl, trivial⟩, rfl⟩, ⟨(OpJ.w (J_move rfl (Opd.tmp rfl))), ⟨rfl, trivial⟩, rfl⟩, ⟨(OpJ.w (J_call rfl Try.call41 (c_impl_blend hx20) (Opds.cons (Opd.tmp rfl) (Opds.cons (Opd.tmp rfl) (Opds.cons (Opd.tmp rfl) (Opds.cons (Opd.tmp rfl) (Opds.cons (Opd.tmp rfl) Opds.nil))))))), ⟨rfl, rfl, rfl, rfl, rfl, trivial⟩, rfl⟩, ⟨(OpJ.w (J_assign rfl (Opd.tmp rfl))), ⟨rfl, trivial⟩, rfl⟩, trivial⟩ ?_
    refine Ct.then_tr ?_
    refine Tr.weak (Γ' := [(2, (pEq (.int .i64 x20)))]) ⟨rfl, trivial⟩ ?_
    refine Tr.ret ?_
    replace h := Option.some.inj h; subst h
    exact Ct.ret1 rfl rfl

theorem c_impl_ExceedanceOf {rain_0 : Int} {r : (Int × Int)} (h : m_impl_ExceedanceOf rain_0 = some r) : CallJ Try.prog 22 [(pEq (.int .i64 rain_0))] (pTup [(pEq (.int .i64 r.1)), (pEq (.int .i64 r.2))]) := by
  unfold m_impl_ExceedanceOf at h
  refine CallJ.enter Try.func22 rfl Try.ntmps22 rfl fun W I0 => ?_
  refine Tr.weak (Γ' := [(0, (pEq (.int .i64 rain_0)))]) ⟨rfl, trivial⟩ ?_
  refine Tr.seq ?_
  refine Tr.region ?_
  refine RegL.pure (p := (pEq (.int .i64 (0 : Int)))) rfl rfl rfl (J_assign rfl Opd.con) ?_
  refine RegL.pure (p := (pEq (.int .i64 (0 : Int)))) rfl rfl rfl (J_assign rfl Opd.con) ?_
  refine RegL.nil ?_
  refine Ct.then_tr ?_
  refine Tr.weak (Γ' := [(0, (pEq (.int .i64 rain_0)))]) ⟨rfl, trivial⟩ ?_
  refine Tr.seq ?_
  refine Tr.seq ?_
  refine Tr.region ?_
  refine RegL.pure (p := (pEq (.int .i64 rain_0))) rfl rfl rfl (J_move rfl (Opd.tmp rfl)) ?_
  replace h := bind_some h; obtain ⟨x1, hx1, h⟩ := h
  refine RegL.pure (p := (pEq (.bool x1))) rfl rfl rfl (J_call rfl Try.call27 (c_impl_within hx1) (Opds.cons (Opd.tmp rfl) (Opds.cons Opd.con (Opds.cons Opd.con Opds.nil)))) ?_
  refine RegL.pure (p := (pEq (.bool (!x1)))) rfl rfl rfl (J_not rfl (Opd.tmp rfl)) ?_
  refine RegL.nil ?_
  refine Ct.then_tr ?_
  refine Tr.weak (Γ' := [(0, (pEq (.int .i64 rain_0))), (6, (pEq (.bool (!x1))))]) ⟨rfl, rfl, trivial⟩ ?_
  refine Tr.cond (Opd.tmp rfl) (fun hc => ?_) (fun hc => ?_)
  · replace h := bif_t hc h
    refine Tr.seq ?_
    refine Tr.region ?_
    refine RegL.pure (p := (pEq (.int .i64 (0 : Int)))) rfl rfl rfl (J_assign rfl Opd.con) ?_
    refine RegL.pure (p := (pEq (.int .i64 (2 : Int)))) rfl rfl rfl (J_assign rfl Opd.con) ?_
    refine RegL.nil ?_
    refine Ct.then_tr ?_
    refine Tr.weak (Γ' := [(2, (pEq (.int .i64 (0 : Int)))), (3, (pEq (.int .i64 (2 : Int))))]) ⟨rfl, rfl, trivial⟩ ?_
    refine Tr.ret ?_
    refine Ct.then_ret ?_
    replace h := Option.some.inj h; subst h
    exact Ct.ret2 rfl rfl rfl
  · replace h := bif_f hc h
    refine Tr.skip ?_
    refine Ct.then_tr ?_
    refine Tr.weak (Γ' := [(0, (pEq (.int .i64 rain_0)))]) ⟨rfl, trivial⟩ ?_
    refine Tr.seq ?_
    refine Tr.region ?_
    refine RegL.pure (p := (pEq (.int .i64 rain_0))) rfl rfl rfl (J_move rfl (Opd.tmp rfl)) ?_
    replace h := bind_some h; obtain ⟨x2, hx2, h⟩ := h
    refine RegL.pure (p := (pEq (.int .i64 x2))) rfl rfl rfl (J_call rfl Try.call32 (c_impl_exceedanceOf hx2) (Opds.cons (Opd.tmp rfl) Opds.nil)) ?_
    refine RegL.pure (p := (pEq (.int .i64 x2))) rfl rfl rfl (J_assign rfl (Opd.tmp rfl)) ?_
    refine RegL.pure (p := (pEq (.int .i64 (0 : Int)))) rfl rfl rfl (J_assign rfl Opd.con) ?_
    refine RegL.nil ?_
    refine Ct.then_tr ?_
    refine Tr.weak (Γ' := [(2, (pEq (.int .i64 x2))), (3, (pEq (.int .i64 (0 : Int))))]) ⟨rfl, rfl, trivial⟩ ?_
    refine Tr.ret ?_
    replace h := Option.some.inj h; subst h
    exact Ct.ret2 rfl rfl rfl

theorem c_laws_FnExactExceedanceOf {aRain_0 : Int} {r : Bool} (h : m_laws_FnExactExceedanceOf aRain_0 = some r) : CallJ Try.prog 7 [(pEq (.int .i64 aRain_0))] (pEq (.bool r)) := by
  unfold m_laws_FnExactExceedanceOf at h
  refine CallJ.enter Try.func7 rfl Try.ntmps7 rfl fun W I0 => ?_
  refine Tr.weak (Γ' := [(0, (pEq (.int .i64 aRain_0)))]) ⟨rfl, trivial⟩ ?_
  refine Tr.seq ?_
  refine Tr.region ?_
  refine RegL.pure (p := (pEq (.bool false))) rfl rfl rfl (J_assign rfl Opd.con) ?_
  refine RegL.nil ?_
  refine Ct.then_tr ?_
  refine Tr.weak (Γ' := [(0, (pEq (.int .i64 aRain_0)))]) ⟨rfl, trivial⟩ ?_
  refine Tr.seq ?_
  refine Tr.region ?_
  refine RegL.pure (p := (pEq (.int .i64 aRain_0))) rfl rfl rfl (J_move rfl (Opd.tmp rfl)) ?_
  replace h := bind_some h; obtain ⟨x1, hx1, h⟩ := h
  refine RegL.pure (p := (pTup [(pEq (.int .i64 x1.1)), (pEq (.int .i64 x1.2))])) rfl rfl rfl (J_call rfl Try.call21 (c_spec_ExceedanceOf hx1) (Opds.cons (Opd.tmp rfl) Opds.nil)) ?_
  refine RegL.pure (p := (pTup [(pEq (.int .i64 x1.1)), (pEq (.int .i64 x1.2))])) rfl rfl rfl (J_move rfl (Opd.tmp rfl)) ?_
  refine RegL.pure (p := (pEq (.int .i64 x1.1))) rfl rfl rfl (J_extract rfl (Opd.tmp rfl) rfl) ?_
  refine RegL.pure (p := (pEq (.int .i64 x1.2))) rfl rfl rfl (J_extract rfl (Opd.tmp rfl) rfl) ?_
  refine RegL.pure (p := (pEq (.int .i64 x1.1))) rfl rfl rfl (J_assign rfl (Opd.tmp rfl)) ?_
  refine RegL.pure (p := (pEq (.int .i64 x1.2))) rfl rfl rfl (J_assign rfl (Opd.tmp rfl)) ?_
  refine RegL.nil ?_
  refine Ct.then_tr ?_
  refine Tr.weak (Γ' := [(0, (pEq (.int .i64 aRain_0))), (3, (pEq (.int .i64 x1.1))), (4, (pEq (.int .i64 x1.2)))]) ⟨rfl, rfl, rfl, trivial⟩ ?_
  refine Tr.seq ?_
  refine Tr.region ?_
  refine RegL.pure (p := (pEq (.int .i64 aRain_0))) rfl rfl rfl (J_move rfl (Opd.tmp rfl)) ?_
  replace h := bind_some h; obtain ⟨x2, hx2, h⟩ := h
  refine RegL.pure (p := (pTup [(pEq (.int .i64 x2.1)), (pEq (.int .i64 x2.2))])) rfl rfl rfl (J_call rfl Try.call22 (c_impl_ExceedanceOf hx2) (Opds.cons (Opd.tmp rfl) Opds.nil)) ?_
  refine RegL.pure (p := (pTup [(pEq (.int .i64 x2.1)), (pEq (.int .i64 x2.2))])) rfl rfl rfl (J_move rfl (Opd.tmp rfl)) ?_
  refine RegL.pure (p := (pEq (.int .i64 x2.1))) rfl rfl rfl (J_extract rfl (Opd.tmp rfl) rfl) ?_
  refine RegL.pure (p := (pEq (.int .i64 x2.2))) rfl rfl rfl (J_extract rfl (Opd.tmp rfl) rfl) ?_
  refine RegL.pure (p := (pEq (.int .i64 x2.1))) rfl rfl rfl (J_assign rfl (Opd.tmp rfl)) ?_
  refine RegL.pure (p := (pEq (.int .i64 x2.2))) rfl rfl rfl (J_assign rfl (Opd.tmp rfl)) ?_
  refine RegL.nil ?_
  refine Ct.then_tr ?_
  refine Tr.weak (Γ' := [(3, (pEq (.int .i64 x1.1))), (4, (pEq (.int .i64 x1.2))), (5, (pEq (.int .i64 x2.1))), (6, (pEq (.int .i64 x2.2)))]) ⟨rfl, rfl, rfl, rfl, trivial⟩ ?_
  refine Tr.seq ?_
  refine Tr.seq ?_
  replace h := bind_some h; obtain ⟨x3, hx3, h⟩ := h
  refine Tr.cut (γ := Unit) (Γm := fun g => [(24, (pEq (.bool x3)))]) (Ωm := fun g => []) ?_ (fun g5 => ?_)
  · clear h
    have h := hx3
    clear hx3
    refine Tr.region ?_
    refine RegL.pure (p := (pEq (.int .i64 x2.1))) rfl rfl rfl (J_move rfl (Opd.tmp rfl)) ?_
    refine RegL.pure (p := (pEq (.int .i64 x1.1))) rfl rfl rfl (J_move rfl (Opd.tmp rfl)) ?_
    refine RegL.pure (p := (pEq (.bool (x2.1 != x1.1)))) rfl rfl rfl (J_bin rfl (Opd.tmp rfl) (Opd.tmp rfl) B_neq) ?_
    refine RegL.pure (p := (pEq (.bool (x2.1 != x1.1)))) rfl rfl rfl (J_move rfl (Opd.tmp rfl)) ?_
    rcases Bool.eq_false_or_eq_true (x2.1 != x1.1) with hc4 | hc4
    · replace h := bif_t hc4 h
      refine RegL.skipG rfl rfl rfl hc4 rfl rfl ?_
      refine RegL.skipG rfl rfl rfl hc4 rfl rfl ?_
      refine RegL.skipG rfl rfl rfl hc4 rfl rfl ?_
      refine RegL.pure (p := (pEq (.bool true))) rfl rfl rfl (J_pick rfl (Opd.tmp rfl) (fun _ => Opd.con) (fun hf => absurd (hc4.symm.trans hf) (by decide))) ?_
      refine RegL.nil ?_
      replace h := Option.some.inj h; subst h
      exact Ct.mid () rfl ⟨rfl, trivial⟩
    · replace h := bif_f hc4 h
      refine RegL.pureG (p := (pEq (.int .i64 x2.2))) rfl rfl rfl hc4 rfl rfl (J_move rfl (Opd.tmp rfl)) ?_
      refine RegL.pureG (p := (pEq (.int .i64 x1.2))) rfl rfl rfl hc4 rfl rfl (J_move rfl (Opd.tmp rfl)) ?_
      refine RegL.pureG (p := (pEq (.bool (x2.2 != x1.2)))) rfl rfl rfl hc4 rfl rfl (J_bin rfl (Opd.tmp rfl) (Opd.tmp rfl) B_neq) ?_
      refine RegL.pure (p := (pEq (.bool (x2.2 != x1.2)))) rfl rfl rfl (J_pick rfl (Opd.tmp rfl) (fun hf => absurd (hc4.symm.trans hf) (by decide)) (fun _ => (Opd.tmp rfl))) ?_
      refine RegL.nil ?_
      replace h := Option.some.inj h; subst h
      exact Ct.mid () rfl ⟨rfl, trivial⟩
  · clear hx3
    refine Ct.then_tr ?_
    refine Tr.weak (Γ' := [(24, (pEq (.bool x3)))]) ⟨rfl, trivial⟩ ?_
    refine Tr.cond (Opd.tmp rfl) (fun hc => ?_) (fun hc => ?_)
    · replace h := bif_t hc h
      refine Tr.seq ?_
      refine Tr.region ?_
      refine RegL.pure (p := (pEq (.bool false))) rfl rfl rfl (J_assign rfl Opd.con) ?_
      refine RegL.nil ?_
      refine Ct.then_tr ?_
      refine Tr.weak (Γ' := [(2, (pEq (.bool false)))]) ⟨rfl, trivial⟩ ?_
      refine Tr.ret ?_
      refine Ct.then_ret ?_
      replace h := Option.some.inj h; subst h
      exact Ct.ret1 rfl rfl
    · replace h := bif_f hc h
      refine Tr.skip ?_
      refine Ct.then_tr ?_
      refine Tr.weak (Γ' := []) trivial ?_
      refine Tr.seq ?_
      refine Tr.region ?_
      refine RegL.pure (p := (pEq (.bool true))) rfl rfl rfl (J_assign rfl Opd.con) ?_
      refine RegL.nil ?_
      refine Ct.then_tr ?_
      refine Tr.weak (Γ' := [(2, (pEq (.bool true)))]) ⟨rfl, trivial⟩ ?_
      refine Tr.ret ?_
      replace h := Option.some.inj h; subst h
      exact Ct.ret1 rfl rfl
end Go.Proofs.Ytbogkiihgejbnaa.fnExactExceedanceOfW
