/-
  The walks that the law FnExactMarginFor reaches: each function computes its model. Printed by our own program.
-/
import Derived.Test.YtgianbkngpfpnaaDoorProg
import Derived.Test.YtgianbkngpfpnaaDoorMod
import Derived.Test.YtgianbkngpfpnaaDoorZero
import Derived.KernelRfl
import Derived.Test.YtgianbkngpfpnaaDoorTab
import Derived.Shelf.Strconv.Itoa4
namespace Go.Proofs.YtgianbkngpfpnaaDoor.fnExactMarginForW
open Go Go.RowKit Go.Wk
set_option linter.unusedVariables false
set_option maxRecDepth 100000
theorem hmix : Tryd.prog.follows .mixedOrders = true := by kernel_rfl
theorem sz2 : ∀ w, (Go.sizeOf 2).run Tryd.prog w = .ok 1 w := fun _ => by kernel_rfl
theorem sz42 : ∀ w, (Go.sizeOf 42).run Tryd.prog w = .ok 2 w := fun _ => by kernel_rfl
theorem zero42 : Zero Tryd.prog 42 [(pEq (.int .i64 (0 : Int))), (pEq (.int .i64 (0 : Int)))] := ⟨(.agg #[.int .i64 0, .int .i64 0]), [.int .i64 0, .int .i64 0], fun _ => by kernel_rfl, rfl, fun _ _ => ⟨rfl, ⟨rfl, trivial⟩⟩⟩
theorem bl42 : ∀ ps, Tryd.prog.built 42 ps = Instr.fill (fun x => (#[(0, 1), (1, 1)] : Array (Nat × Nat))[x]?) (List.toArray [.int .i64 0, .int .i64 0]) ps := fun _ => by kernel_rfl
theorem bz42 : ∀ I w, Vals I w [(pEq (.int .i64 (0 : Int))), (pEq (.int .i64 (0 : Int)))] [.int .i64 0, .int .i64 0] := fun _ _ => ⟨rfl, ⟨rfl, trivial⟩⟩
theorem bz42o : ∀ I w, Vals I w [(pEq (.int .i64 (0 : Int))), (pEq (.int .i64 (0 : Int)))] [.int .i64 0, .int .i64 0] := fun _ _ => ⟨rfl, ⟨rfl, trivial⟩⟩
section
open Go.Shelf
def lays61_ren : Go.Shelf.Ren := ⟨fun | 173 => 61 | 246 => 65 | 283 => 66 | 284 => 67 | 285 => 68 | 286 => 69 | 129 => 71 | 317 => 70 | 318 => 72 | 319 => 73 | 320 => 74 | 337 => 75 | 338 => 76 | n => n, fun | 2 => 2 | 3 => 3 | 9 => 9 | 4 => 4 | 171 => 54 | 0 => 0 | 53 => 55 | 37 => 58 | 5 => 5 | 173 => 59 | 212 => 63 | 51 => 64 | 20 => 20 | 213 => 65 | 46 => 44 | 232 => 68 | 233 => 69 | n => n, fun | 17 => 0 | 18 => 1 | 19 => 2 | n => n⟩
theorem lays61 : Go.Proofs.LaysM.n173 Tryd.prog lays61_ren := {
  mixed := by kernel_rfl
  f129 := Tryd.func71.trans (congrArg some (by kernel_rfl))
  f173 := Tryd.func61.trans (congrArg some (by kernel_rfl))
  f246 := Tryd.func65.trans (congrArg some (by kernel_rfl))
  f283 := Tryd.func66.trans (congrArg some (by kernel_rfl))
  f284 := Tryd.func67.trans (congrArg some (by kernel_rfl))
  f285 := Tryd.func68.trans (congrArg some (by kernel_rfl))
  f286 := Tryd.func69.trans (congrArg some (by kernel_rfl))
  f317 := Tryd.func70.trans (congrArg some (by kernel_rfl))
  f318 := Tryd.func72.trans (congrArg some (by kernel_rfl))
  f319 := Tryd.func73.trans (congrArg some (by kernel_rfl))
  f320 := Tryd.func74.trans (congrArg some (by kernel_rfl))
  f337 := Tryd.func75.trans (congrArg some (by kernel_rfl))
  f338 := Tryd.func76.trans (congrArg some (by kernel_rfl))
  t0 := Tryd.underlying0
  a0 := Tryd.isAgg0
  z0 := Tryd.sizeOf0
  v0 := Tryd.zeroValue0
  t2 := Tryd.underlying2
  a2 := Tryd.isAgg2
  z2 := Tryd.sizeOf2
  v2 := Tryd.zeroValue2
  t3 := Tryd.underlying3
  a3 := Tryd.isAgg3
  z3 := Tryd.sizeOf3
  v3 := Tryd.zeroValue3
  t4 := Tryd.underlying4
  a4 := Tryd.isAgg4
  z4 := Tryd.sizeOf4
  v4 := Tryd.zeroValue4
  t5 := Tryd.underlying5
  a5 := Tryd.isAgg5
  z5 := Tryd.sizeOf5
  v5 := Tryd.zeroValue5
  t9 := Tryd.underlying9
  a9 := Tryd.isAgg9
  z9 := Tryd.sizeOf9
  v9 := Tryd.zeroValue9
  t20 := Tryd.underlying20
  a20 := Tryd.isAgg20
  z20 := Tryd.sizeOf20
  v20 := Tryd.zeroValue20
  t37 := Tryd.underlying58
  a37 := Tryd.isAgg58
  z37 := Tryd.sizeOf58
  v37 := Tryd.zeroValue58
  t46 := Tryd.underlying44
  a46 := Tryd.isAgg44
  z46 := Tryd.sizeOf44
  v46 := Tryd.zeroValue44
  t51 := Tryd.underlying64
  a51 := Tryd.isAgg64
  z51 := Tryd.sizeOf64
  v51 := Tryd.zeroValue64
  t53 := Tryd.underlying55
  a53 := Tryd.isAgg55
  z53 := Tryd.sizeOf55
  v53 := Tryd.zeroValue55
  t171 := Tryd.underlying54
  a171 := Tryd.isAgg54
  z171 := Tryd.sizeOf54
  v171 := Tryd.zeroValue54
  t173 := Tryd.underlying59
  a173 := Tryd.isAgg59
  z173 := Tryd.sizeOf59
  v173 := Tryd.zeroValue59
  t212 := Tryd.underlying63
  a212 := Tryd.isAgg63
  z212 := Tryd.sizeOf63
  v212 := Tryd.zeroValue63
  t213 := Tryd.underlying65
  a213 := Tryd.isAgg65
  z213 := Tryd.sizeOf65
  t232 := Tryd.underlying68
  a232 := Tryd.isAgg68
  z232 := Tryd.sizeOf68
  v232 := Tryd.zeroValue68
  t233 := Tryd.underlying69
  a233 := Tryd.isAgg69
  z233 := Tryd.sizeOf69
  v233 := Tryd.zeroValue69
  g17 := by kernel_rfl
  g18 := by kernel_rfl
  g19 := by kernel_rfl
  i0 := by kernel_rfl
  i2 := by kernel_rfl
  i3 := by kernel_rfl
  i4 := by kernel_rfl
  i5 := by kernel_rfl
  i9 := by kernel_rfl
  i20 := by kernel_rfl
  i37 := by kernel_rfl
  i46 := by kernel_rfl
  i51 := by kernel_rfl
  i53 := by kernel_rfl
  i171 := by kernel_rfl
  i173 := by kernel_rfl
  i212 := by kernel_rfl
  i232 := by kernel_rfl
  i233 := by kernel_rfl
  m17 := by kernel_rfl
  m18 := by kernel_rfl
  m19 := by kernel_rfl }
end



theorem c_spec_l00In {n_0 : Int} {low_1 : Int} {high_2 : Int} {r : Bool} (h : m_spec_l00In n_0 low_1 high_2 = some r) : CallJ Tryd.prog 34 [(pEq (.int .i64 n_0)), (pEq (.int .i64 low_1)), (pEq (.int .i64 high_2))] (pEq (.bool r)) := by
  unfold m_spec_l00In at h
  refine CallJ.enterH Tryd.func34 rfl Tryd.ntmps34 rfl fun W I0 H => ?_
  refine Tr.weak (Γ' := [(0, (pEq (.int .i64 n_0))), (1, (pEq (.int .i64 low_1))), (2, (pEq (.int .i64 high_2)))]) ⟨rfl, rfl, rfl, trivial⟩ ?_
  refine Tr.seq ?_
  refine Tr.region ?_
  refine RegL.pure (p := (pEq (.bool false))) rfl rfl rfl (J_assign rfl Opd.con) ?_
  refine RegL.nil ?_
  refine Ct.then_tr ?_
  refine Tr.weak (Γ' := [(0, (pEq (.int .i64 n_0))), (1, (pEq (.int .i64 low_1))), (2, (pEq (.int .i64 high_2)))]) ⟨rfl, rfl, rfl, trivial⟩ ?_
  refine Tr.seq ?_
  replace h := bind_some h; obtain ⟨x1, hx1, h⟩ := h
  refine Tr.cut (γ := Unit) (Γm := fun g => [(6, (pEq (.bool x1)))]) (Ωm := fun g => []) ?_ (fun g3 => ?_)
  · clear h
    have h := hx1
    clear hx1
    refine Tr.region ?_
    refine RegL.pure (p := (pEq (.int .i64 n_0))) rfl rfl rfl (J_move rfl (Opd.tmp rfl)) ?_
    refine RegL.pure (p := (pEq (.int .i64 low_1))) rfl rfl rfl (J_move rfl (Opd.tmp rfl)) ?_
    refine RegL.pure (p := (pEq (.bool (decide (low_1 ≤ n_0))))) rfl rfl rfl (J_bin rfl (Opd.tmp rfl) (Opd.tmp rfl) B_geq) ?_
    refine RegL.pure (p := (pEq (.bool (decide (low_1 ≤ n_0))))) rfl rfl rfl (J_move rfl (Opd.tmp rfl)) ?_
    rcases Bool.eq_false_or_eq_true (decide (low_1 ≤ n_0)) with hc2 | hc2
    · replace h := bif_t hc2 h
      refine RegL.pureG (p := (pEq (.int .i64 n_0))) rfl rfl rfl hc2 rfl rfl (J_move rfl (Opd.tmp rfl)) ?_
      refine RegL.pureG (p := (pEq (.int .i64 high_2))) rfl rfl rfl hc2 rfl rfl (J_move rfl (Opd.tmp rfl)) ?_
      refine RegL.pureG (p := (pEq (.bool (decide (n_0 ≤ high_2))))) rfl rfl rfl hc2 rfl rfl (J_bin rfl (Opd.tmp rfl) (Opd.tmp rfl) B_leq) ?_
      refine RegL.pure (p := (pEq (.bool (decide (n_0 ≤ high_2))))) rfl rfl rfl (J_pick rfl (Opd.tmp rfl) (fun _ => (Opd.tmp rfl)) (fun hf => absurd (hc2.symm.trans hf) (by decide))) ?_
      refine RegL.pure (p := (pEq (.bool (decide (n_0 ≤ high_2))))) rfl rfl rfl (J_assign rfl (Opd.tmp rfl)) ?_
      refine RegL.nil ?_
      replace h := Option.some.inj h; subst h
      exact Ct.mid () rfl ⟨rfl, trivial⟩
    · replace h := bif_f hc2 h
      refine RegL.skipG rfl rfl rfl hc2 rfl rfl ?_
      refine RegL.skipG rfl rfl rfl hc2 rfl rfl ?_
      refine RegL.skipG rfl rfl rfl hc2 rfl rfl ?_
      refine RegL.pure (p := (pEq (.bool false))) rfl rfl rfl (J_pick rfl (Opd.tmp rfl) (fun hf => absurd (hc2.symm.trans hf) (by decide)) (fun _ => Opd.con)) ?_
      refine RegL.pure (p := (pEq (.bool false))) rfl rfl rfl (J_assign rfl (Opd.tmp rfl)) ?_
      refine RegL.nil ?_
      replace h := Option.some.inj h; subst h
      exact Ct.mid () rfl ⟨rfl, trivial⟩
  · clear hx1
    refine Ct.then_tr ?_
    refine Tr.weak (Γ' := [(6, (pEq (.bool x1)))]) ⟨rfl, trivial⟩ ?_
    refine Tr.ret ?_
    replace h := Option.some.inj h; subst h
    exact Ct.retH1 (Ωx := []) () rfl (RvOk.tmp rfl) rfl

theorem c_spec_l09Frequency {f_0 : Int} {r : Bool} (h : m_spec_l09Frequency f_0 = some r) : CallJ Tryd.prog 15 [(pEq (.int .i64 f_0))] (pEq (.bool r)) := by
  unfold m_spec_l09Frequency at h
  refine CallJ.enterH Tryd.func15 rfl Tryd.ntmps15 rfl fun W I0 H => ?_
  refine Tr.weak (Γ' := [(0, (pEq (.int .i64 f_0)))]) ⟨rfl, trivial⟩ ?_
  refine Tr.seq ?_
  refine Tr.region ?_
  refine RegL.pure (p := (pEq (.bool false))) rfl rfl rfl (J_assign rfl Opd.con) ?_
  refine RegL.nil ?_
  refine Ct.then_tr ?_
  refine Tr.weak (Γ' := [(0, (pEq (.int .i64 f_0)))]) ⟨rfl, trivial⟩ ?_
  refine Tr.seq ?_
  refine Tr.region ?_
  refine RegL.pure (p := (pEq (.int .i64 f_0))) rfl rfl rfl (J_move rfl (Opd.tmp rfl)) ?_
  replace h := bind_some h; obtain ⟨x1, hx1, h⟩ := h
  refine RegL.pure (p := (pEq (.bool x1))) rfl rfl rfl (J_call rfl Tryd.call34 (c_spec_l00In hx1) (Opds.cons (Opd.tmp rfl) (Opds.cons Opd.con (Opds.cons Opd.con Opds.nil)))) ?_
  refine RegL.pure (p := (pEq (.bool x1))) rfl rfl rfl (J_assign rfl (Opd.tmp rfl)) ?_
  refine RegL.nil ?_
  refine Ct.then_tr ?_
  refine Tr.weak (Γ' := [(2, (pEq (.bool x1)))]) ⟨rfl, trivial⟩ ?_
  refine Tr.ret ?_
  replace h := Option.some.inj h; subst h
  exact Ct.retH1 (Ωx := []) () rfl (RvOk.tmp rfl) rfl

theorem c_spec_l09Distance {d_0 : Int} {r : Bool} (h : m_spec_l09Distance d_0 = some r) : CallJ Tryd.prog 16 [(pEq (.int .i64 d_0))] (pEq (.bool r)) := by
  unfold m_spec_l09Distance at h
  refine CallJ.enterH Tryd.func16 rfl Tryd.ntmps16 rfl fun W I0 H => ?_
  refine Tr.weak (Γ' := [(0, (pEq (.int .i64 d_0)))]) ⟨rfl, trivial⟩ ?_
  refine Tr.seq ?_
  refine Tr.region ?_
  refine RegL.pure (p := (pEq (.bool false))) rfl rfl rfl (J_assign rfl Opd.con) ?_
  refine RegL.nil ?_
  refine Ct.then_tr ?_
  refine Tr.weak (Γ' := [(0, (pEq (.int .i64 d_0)))]) ⟨rfl, trivial⟩ ?_
  refine Tr.seq ?_
  refine Tr.region ?_
  refine RegL.pure (p := (pEq (.int .i64 d_0))) rfl rfl rfl (J_move rfl (Opd.tmp rfl)) ?_
  replace h := bind_some h; obtain ⟨x1, hx1, h⟩ := h
  refine RegL.pure (p := (pEq (.bool x1))) rfl rfl rfl (J_call rfl Tryd.call34 (c_spec_l00In hx1) (Opds.cons (Opd.tmp rfl) (Opds.cons Opd.con (Opds.cons Opd.con Opds.nil)))) ?_
  refine RegL.pure (p := (pEq (.bool x1))) rfl rfl rfl (J_assign rfl (Opd.tmp rfl)) ?_
  refine RegL.nil ?_
  refine Ct.then_tr ?_
  refine Tr.weak (Γ' := [(2, (pEq (.bool x1)))]) ⟨rfl, trivial⟩ ?_
  refine Tr.ret ?_
  replace h := Option.some.inj h; subst h
  exact Ct.retH1 (Ωx := []) () rfl (RvOk.tmp rfl) rfl

theorem c_spec_l13Climate {c_0 : Int} {r : Bool} (h : m_spec_l13Climate c_0 = some r) : CallJ Tryd.prog 17 [(pEq (.int .i64 c_0))] (pEq (.bool r)) := by
  unfold m_spec_l13Climate at h
  refine CallJ.enterH Tryd.func17 rfl Tryd.ntmps17 rfl fun W I0 H => ?_
  refine Tr.weak (Γ' := [(0, (pEq (.int .i64 c_0)))]) ⟨rfl, trivial⟩ ?_
  refine Tr.seq ?_
  refine Tr.region ?_
  refine RegL.pure (p := (pEq (.bool false))) rfl rfl rfl (J_assign rfl Opd.con) ?_
  refine RegL.nil ?_
  refine Ct.then_tr ?_
  refine Tr.weak (Γ' := [(0, (pEq (.int .i64 c_0)))]) ⟨rfl, trivial⟩ ?_
  refine Tr.seq ?_
  refine Tr.region ?_
  refine RegL.pure (p := (pEq (.int .i64 c_0))) rfl rfl rfl (J_move rfl (Opd.tmp rfl)) ?_
  replace h := bind_some h; obtain ⟨x1, hx1, h⟩ := h
  refine RegL.pure (p := (pEq (.bool x1))) rfl rfl rfl (J_call rfl Tryd.call34 (c_spec_l00In hx1) (Opds.cons (Opd.tmp rfl) (Opds.cons Opd.con (Opds.cons Opd.con Opds.nil)))) ?_
  refine RegL.pure (p := (pEq (.bool x1))) rfl rfl rfl (J_assign rfl (Opd.tmp rfl)) ?_
  refine RegL.nil ?_
  refine Ct.then_tr ?_
  refine Tr.weak (Γ' := [(2, (pEq (.bool x1)))]) ⟨rfl, trivial⟩ ?_
  refine Tr.ret ?_
  replace h := Option.some.inj h; subst h
  exact Ct.retH1 (Ωx := []) () rfl (RvOk.tmp rfl) rfl

theorem c_spec_l13Outage {p_0 : Int} {r : Bool} (h : m_spec_l13Outage p_0 = some r) : CallJ Tryd.prog 23 [(pEq (.int .i64 p_0))] (pEq (.bool r)) := by
  unfold m_spec_l13Outage at h
  refine CallJ.enterH Tryd.func23 rfl Tryd.ntmps23 rfl fun W I0 H => ?_
  refine Tr.weak (Γ' := [(0, (pEq (.int .i64 p_0)))]) ⟨rfl, trivial⟩ ?_
  refine Tr.seq ?_
  refine Tr.region ?_
  refine RegL.pure (p := (pEq (.bool false))) rfl rfl rfl (J_assign rfl Opd.con) ?_
  refine RegL.nil ?_
  refine Ct.then_tr ?_
  refine Tr.weak (Γ' := [(0, (pEq (.int .i64 p_0)))]) ⟨rfl, trivial⟩ ?_
  refine Tr.seq ?_
  refine Tr.region ?_
  refine RegL.pure (p := (pEq (.int .i64 p_0))) rfl rfl rfl (J_move rfl (Opd.tmp rfl)) ?_
  replace h := bind_some h; obtain ⟨x1, hx1, h⟩ := h
  refine RegL.pure (p := (pEq (.bool x1))) rfl rfl rfl (J_call rfl Tryd.call34 (c_spec_l00In hx1) (Opds.cons (Opd.tmp rfl) (Opds.cons Opd.con (Opds.cons Opd.con Opds.nil)))) ?_
  refine RegL.pure (p := (pEq (.bool x1))) rfl rfl rfl (J_assign rfl (Opd.tmp rfl)) ?_
  refine RegL.nil ?_
  refine Ct.then_tr ?_
  refine Tr.weak (Γ' := [(2, (pEq (.bool x1)))]) ⟨rfl, trivial⟩ ?_
  refine Tr.ret ?_
  replace h := Option.some.inj h; subst h
  exact Ct.retH1 (Ωx := []) () rfl (RvOk.tmp rfl) rfl

theorem c_spec_l02Times {a_0 : Int} {b_1 : Int} {r : (Int × Int)} (h : m_spec_l02Times a_0 b_1 = some r) : CallJ Tryd.prog 60 [(pEq (.int .i64 a_0)), (pEq (.int .i64 b_1))] (pTup [(pEq (.int .i64 r.1)), (pEq (.int .i64 r.2))]) := by
  unfold m_spec_l02Times at h
  refine CallJ.enterH Tryd.func60 rfl Tryd.ntmps60 rfl fun W I0 H => ?_
  refine Tr.weak (Γ' := [(0, (pEq (.int .i64 a_0))), (1, (pEq (.int .i64 b_1)))]) ⟨rfl, rfl, trivial⟩ ?_
  refine Tr.seq ?_
  refine Tr.region ?_
  refine RegL.pure (p := (pEq (.int .i64 (0 : Int)))) rfl rfl rfl (J_assign rfl Opd.con) ?_
  refine RegL.pure (p := (pEq (.int .i64 (0 : Int)))) rfl rfl rfl (J_assign rfl Opd.con) ?_
  refine RegL.nil ?_
  refine Ct.then_tr ?_
  refine Tr.weak (Γ' := [(0, (pEq (.int .i64 a_0))), (1, (pEq (.int .i64 b_1)))]) ⟨rfl, rfl, trivial⟩ ?_
  refine Tr.seq ?_
  refine Tr.region ?_
  refine RegL.pure (p := (pEq (.int .i64 a_0))) rfl rfl rfl (J_move rfl (Opd.tmp rfl)) ?_
  refine RegL.pure (p := (pEq (.int .i64 b_1))) rfl rfl rfl (J_move rfl (Opd.tmp rfl)) ?_
  refine RegL.pure (p := (pEq (.int .i64 (w64 (a_0 * b_1))))) rfl rfl rfl (J_bin rfl (Opd.tmp rfl) (Opd.tmp rfl) B_mul) ?_
  refine RegL.pure (p := (pEq (.int .i64 (w64 ((w64 (a_0 * b_1)).tdiv (100000000 : Int)))))) rfl rfl rfl (J_bin rfl (Opd.tmp rfl) Opd.con (B_quo (n := (100000000 : Int)) (by decide))) ?_
  refine RegL.pure (p := (pEq (.int .i64 (w64 ((w64 (a_0 * b_1)).tdiv (100000000 : Int)))))) rfl rfl rfl (J_assign rfl (Opd.tmp rfl)) ?_
  refine RegL.nil ?_
  refine Ct.then_tr ?_
  refine Tr.weak (Γ' := [(6, (pEq (.int .i64 (w64 ((w64 (a_0 * b_1)).tdiv (100000000 : Int))))))]) ⟨rfl, trivial⟩ ?_
  refine Tr.seq ?_
  refine Tr.seq ?_
  refine Tr.region ?_
  refine RegL.pure (p := (pEq (.int .i64 (w64 ((w64 (a_0 * b_1)).tdiv (100000000 : Int)))))) rfl rfl rfl (J_move rfl (Opd.tmp rfl)) ?_
  refine RegL.pure (p := (pEq (.bool (decide ((1000000000 : Int) ≤ (w64 ((w64 (a_0 * b_1)).tdiv (100000000 : Int)))))))) rfl rfl rfl (J_bin rfl (Opd.tmp rfl) Opd.con B_geq) ?_
  refine RegL.nil ?_
  refine Ct.then_tr ?_
  refine Tr.weak (Γ' := [(6, (pEq (.int .i64 (w64 ((w64 (a_0 * b_1)).tdiv (100000000 : Int)))))), (12, (pEq (.bool (decide ((1000000000 : Int) ≤ (w64 ((w64 (a_0 * b_1)).tdiv (100000000 : Int))))))))]) ⟨rfl, rfl, trivial⟩ ?_
  refine Tr.cond (Opd.tmp rfl) (fun hc => ?_) (fun hc => ?_)
  · replace h := bif_t hc h
    refine Tr.seq ?_
    refine Tr.region ?_
    refine RegL.pure (p := (pEq (.int .i64 (w64 ((w64 (a_0 * b_1)).tdiv (100000000 : Int)))))) rfl rfl rfl (J_move rfl (Opd.tmp rfl)) ?_
    refine RegL.pure (p := (pEq (.int .i64 (w64 ((w64 ((w64 (a_0 * b_1)).tdiv (100000000 : Int))).tdiv (10 : Int)))))) rfl rfl rfl (J_bin rfl (Opd.tmp rfl) Opd.con (B_quo (n := (10 : Int)) (by decide))) ?_
    refine RegL.pure (p := (pEq (.int .i64 (w64 ((w64 ((w64 (a_0 * b_1)).tdiv (100000000 : Int))).tdiv (10 : Int)))))) rfl rfl rfl (J_assign rfl (Opd.tmp rfl)) ?_
    refine RegL.pure (p := (pEq (.int .i64 (1 : Int)))) rfl rfl rfl (J_assign rfl Opd.con) ?_
    refine RegL.nil ?_
    refine Ct.then_tr ?_
    refine Tr.weak (Γ' := [(4, (pEq (.int .i64 (w64 ((w64 ((w64 (a_0 * b_1)).tdiv (100000000 : Int))).tdiv (10 : Int)))))), (5, (pEq (.int .i64 (1 : Int))))]) ⟨rfl, rfl, trivial⟩ ?_
    refine Tr.ret ?_
    refine Ct.then_ret ?_
    replace h := Option.some.inj h; subst h
    exact Ct.retH2 (Ωx := []) () rfl (RvOk.tmp rfl) (RvOk.tmp rfl) rfl rfl
  · replace h := bif_f hc h
    refine Tr.skip ?_
    refine Ct.then_tr ?_
    refine Tr.weak (Γ' := [(6, (pEq (.int .i64 (w64 ((w64 (a_0 * b_1)).tdiv (100000000 : Int))))))]) ⟨rfl, trivial⟩ ?_
    refine Tr.seq ?_
    refine Tr.region ?_
    refine RegL.pure (p := (pEq (.int .i64 (w64 ((w64 (a_0 * b_1)).tdiv (100000000 : Int)))))) rfl rfl rfl (J_move rfl (Opd.tmp rfl)) ?_
    refine RegL.pure (p := (pEq (.int .i64 (w64 ((w64 (a_0 * b_1)).tdiv (100000000 : Int)))))) rfl rfl rfl (J_assign rfl (Opd.tmp rfl)) ?_
    refine RegL.pure (p := (pEq (.int .i64 (0 : Int)))) rfl rfl rfl (J_assign rfl Opd.con) ?_
    refine RegL.nil ?_
    refine Ct.then_tr ?_
    refine Tr.weak (Γ' := [(4, (pEq (.int .i64 (w64 ((w64 (a_0 * b_1)).tdiv (100000000 : Int)))))), (5, (pEq (.int .i64 (0 : Int))))]) ⟨rfl, rfl, trivial⟩ ?_
    refine Tr.ret ?_
    replace h := Option.some.inj h; subst h
    exact Ct.retH2 (Ωx := []) () rfl (RvOk.tmp rfl) (RvOk.tmp rfl) rfl rfl

theorem c_spec_l02Tenth {x_0 : Int} {r : (Int × Int)} (h : m_spec_l02Tenth x_0 = some r) : CallJ Tryd.prog 51 [(pEq (.int .i64 x_0))] (pTup [(pEq (.int .i64 r.1)), (pEq (.int .i64 r.2))]) := by
  unfold m_spec_l02Tenth at h
  refine CallJ.enterH Tryd.func51 rfl Tryd.ntmps51 rfl fun W I0 H => ?_
  refine Tr.weak (Γ' := [(0, (pEq (.int .i64 x_0)))]) ⟨rfl, trivial⟩ ?_
  refine Tr.seq ?_
  refine Tr.region ?_
  refine RegL.pure (p := (pEq (.int .i64 (0 : Int)))) rfl rfl rfl (J_assign rfl Opd.con) ?_
  refine RegL.pure (p := (pEq (.int .i64 (0 : Int)))) rfl rfl rfl (J_assign rfl Opd.con) ?_
  refine RegL.nil ?_
  refine Ct.then_tr ?_
  refine Tr.weak (Γ' := [(0, (pEq (.int .i64 x_0)))]) ⟨rfl, trivial⟩ ?_
  refine Tr.seq ?_
  refine Tr.region ?_
  refine RegL.pure (p := (pEq (.int .i64 x_0))) rfl rfl rfl (J_move rfl (Opd.tmp rfl)) ?_
  refine RegL.pure (p := (pEq (.int .i64 x_0))) rfl rfl rfl (J_move rfl (Opd.tmp rfl)) ?_
  replace h := bind_some h; obtain ⟨x1, hx1, h⟩ := h
  refine RegL.pure (p := (pTup [(pEq (.int .i64 x1.1)), (pEq (.int .i64 x1.2))])) rfl rfl rfl (J_call rfl Tryd.call60 (c_spec_l02Times hx1) (Opds.cons (Opd.tmp rfl) (Opds.cons (Opd.tmp rfl) Opds.nil))) ?_
  refine RegL.pure (p := (pTup [(pEq (.int .i64 x1.1)), (pEq (.int .i64 x1.2))])) rfl rfl rfl (J_move rfl (Opd.tmp rfl)) ?_
  refine RegL.pure (p := (pEq (.int .i64 x1.1))) rfl rfl rfl (J_extract rfl (Opd.tmp rfl) rfl) ?_
  refine RegL.pure (p := (pEq (.int .i64 x1.2))) rfl rfl rfl (J_extract rfl (Opd.tmp rfl) rfl) ?_
  refine RegL.pure (p := (pEq (.int .i64 x1.1))) rfl rfl rfl (J_assign rfl (Opd.tmp rfl)) ?_
  refine RegL.pure (p := (pEq (.int .i64 x1.2))) rfl rfl rfl (J_assign rfl (Opd.tmp rfl)) ?_
  refine RegL.nil ?_
  refine Ct.then_tr ?_
  refine Tr.weak (Γ' := [(0, (pEq (.int .i64 x_0))), (4, (pEq (.int .i64 x1.1))), (5, (pEq (.int .i64 x1.2)))]) ⟨rfl, rfl, rfl, trivial⟩ ?_
  refine Tr.seq ?_
  refine Tr.region ?_
  refine RegL.pure (p := (pEq (.int .i64 x1.1))) rfl rfl rfl (J_move rfl (Opd.tmp rfl)) ?_
  refine RegL.pure (p := (pEq (.int .i64 x1.1))) rfl rfl rfl (J_move rfl (Opd.tmp rfl)) ?_
  replace h := bind_some h; obtain ⟨x2, hx2, h⟩ := h
  refine RegL.pure (p := (pTup [(pEq (.int .i64 x2.1)), (pEq (.int .i64 x2.2))])) rfl rfl rfl (J_call rfl Tryd.call60 (c_spec_l02Times hx2) (Opds.cons (Opd.tmp rfl) (Opds.cons (Opd.tmp rfl) Opds.nil))) ?_
  refine RegL.pure (p := (pTup [(pEq (.int .i64 x2.1)), (pEq (.int .i64 x2.2))])) rfl rfl rfl (J_move rfl (Opd.tmp rfl)) ?_
  refine RegL.pure (p := (pEq (.int .i64 x2.1))) rfl rfl rfl (J_extract rfl (Opd.tmp rfl) rfl) ?_
  refine RegL.pure (p := (pEq (.int .i64 x2.2))) rfl rfl rfl (J_extract rfl (Opd.tmp rfl) rfl) ?_
  refine RegL.pure (p := (pEq (.int .i64 x2.1))) rfl rfl rfl (J_assign rfl (Opd.tmp rfl)) ?_
  refine RegL.pure (p := (pEq (.int .i64 x2.2))) rfl rfl rfl (J_assign rfl (Opd.tmp rfl)) ?_
  refine RegL.nil ?_
  refine Ct.then_tr ?_
  refine Tr.weak (Γ' := [(0, (pEq (.int .i64 x_0))), (5, (pEq (.int .i64 x1.2))), (6, (pEq (.int .i64 x2.1))), (7, (pEq (.int .i64 x2.2)))]) ⟨rfl, rfl, rfl, rfl, trivial⟩ ?_
  refine Tr.seq ?_
  refine Tr.region ?_
  refine RegL.pure (p := (pEq (.int .i64 x2.1))) rfl rfl rfl (J_move rfl (Opd.tmp rfl)) ?_
  refine RegL.pure (p := (pEq (.int .i64 x_0))) rfl rfl rfl (J_move rfl (Opd.tmp rfl)) ?_
  replace h := bind_some h; obtain ⟨x3, hx3, h⟩ := h
  refine RegL.pure (p := (pTup [(pEq (.int .i64 x3.1)), (pEq (.int .i64 x3.2))])) rfl rfl rfl (J_call rfl Tryd.call60 (c_spec_l02Times hx3) (Opds.cons (Opd.tmp rfl) (Opds.cons (Opd.tmp rfl) Opds.nil))) ?_
  refine RegL.pure (p := (pTup [(pEq (.int .i64 x3.1)), (pEq (.int .i64 x3.2))])) rfl rfl rfl (J_move rfl (Opd.tmp rfl)) ?_
  refine RegL.pure (p := (pEq (.int .i64 x3.1))) rfl rfl rfl (J_extract rfl (Opd.tmp rfl) rfl) ?_
  refine RegL.pure (p := (pEq (.int .i64 x3.2))) rfl rfl rfl (J_extract rfl (Opd.tmp rfl) rfl) ?_
  refine RegL.pure (p := (pEq (.int .i64 x3.1))) rfl rfl rfl (J_assign rfl (Opd.tmp rfl)) ?_
  refine RegL.pure (p := (pEq (.int .i64 x3.2))) rfl rfl rfl (J_assign rfl (Opd.tmp rfl)) ?_
  refine RegL.nil ?_
  refine Ct.then_tr ?_
  refine Tr.weak (Γ' := [(5, (pEq (.int .i64 x1.2))), (7, (pEq (.int .i64 x2.2))), (8, (pEq (.int .i64 x3.1))), (9, (pEq (.int .i64 x3.2)))]) ⟨rfl, rfl, rfl, rfl, trivial⟩ ?_
  refine Tr.seq ?_
  refine Tr.region ?_
  refine RegL.pure (p := (pEq (.int .i64 x3.1))) rfl rfl rfl (J_move rfl (Opd.tmp rfl)) ?_
  refine RegL.pure (p := (pEq (.int .i64 x3.1))) rfl rfl rfl (J_move rfl (Opd.tmp rfl)) ?_
  replace h := bind_some h; obtain ⟨x4, hx4, h⟩ := h
  refine RegL.pure (p := (pTup [(pEq (.int .i64 x4.1)), (pEq (.int .i64 x4.2))])) rfl rfl rfl (J_call rfl Tryd.call60 (c_spec_l02Times hx4) (Opds.cons (Opd.tmp rfl) (Opds.cons (Opd.tmp rfl) Opds.nil))) ?_
  refine RegL.pure (p := (pTup [(pEq (.int .i64 x4.1)), (pEq (.int .i64 x4.2))])) rfl rfl rfl (J_move rfl (Opd.tmp rfl)) ?_
  refine RegL.pure (p := (pEq (.int .i64 x4.1))) rfl rfl rfl (J_extract rfl (Opd.tmp rfl) rfl) ?_
  refine RegL.pure (p := (pEq (.int .i64 x4.2))) rfl rfl rfl (J_extract rfl (Opd.tmp rfl) rfl) ?_
  refine RegL.pure (p := (pEq (.int .i64 x4.1))) rfl rfl rfl (J_assign rfl (Opd.tmp rfl)) ?_
  refine RegL.pure (p := (pEq (.int .i64 x4.2))) rfl rfl rfl (J_assign rfl (Opd.tmp rfl)) ?_
  refine RegL.nil ?_
  refine Ct.then_tr ?_
  refine Tr.weak (Γ' := [(5, (pEq (.int .i64 x1.2))), (7, (pEq (.int .i64 x2.2))), (9, (pEq (.int .i64 x3.2))), (10, (pEq (.int .i64 x4.1))), (11, (pEq (.int .i64 x4.2)))]) ⟨rfl, rfl, rfl, rfl, rfl, trivial⟩ ?_
  refine Tr.seq ?_
  refine Tr.region ?_
  refine RegL.pure (p := (pEq (.int .i64 x4.1))) rfl rfl rfl (J_move rfl (Opd.tmp rfl)) ?_
  refine RegL.pure (p := (pEq (.int .i64 x1.2))) rfl rfl rfl (J_move rfl (Opd.tmp rfl)) ?_
  refine RegL.pure (p := (pEq (.int .i64 (w64 ((2 : Int) * x1.2))))) rfl rfl rfl (J_bin rfl Opd.con (Opd.tmp rfl) B_mul) ?_
  refine RegL.pure (p := (pEq (.int .i64 x2.2))) rfl rfl rfl (J_move rfl (Opd.tmp rfl)) ?_
  refine RegL.pure (p := (pEq (.int .i64 (w64 ((w64 ((2 : Int) * x1.2)) + x2.2))))) rfl rfl rfl (J_bin rfl (Opd.tmp rfl) (Opd.tmp rfl) B_add) ?_
  refine RegL.pure (p := (pEq (.int .i64 x3.2))) rfl rfl rfl (J_move rfl (Opd.tmp rfl)) ?_
  refine RegL.pure (p := (pEq (.int .i64 (w64 ((w64 ((w64 ((2 : Int) * x1.2)) + x2.2)) + x3.2))))) rfl rfl rfl (J_bin rfl (Opd.tmp rfl) (Opd.tmp rfl) B_add) ?_
  refine RegL.pure (p := (pEq (.int .i64 (w64 ((2 : Int) * (w64 ((w64 ((w64 ((2 : Int) * x1.2)) + x2.2)) + x3.2))))))) rfl rfl rfl (J_bin rfl Opd.con (Opd.tmp rfl) B_mul) ?_
  refine RegL.pure (p := (pEq (.int .i64 x4.2))) rfl rfl rfl (J_move rfl (Opd.tmp rfl)) ?_
  refine RegL.pure (p := (pEq (.int .i64 (w64 ((w64 ((2 : Int) * (w64 ((w64 ((w64 ((2 : Int) * x1.2)) + x2.2)) + x3.2)))) + x4.2))))) rfl rfl rfl (J_bin rfl (Opd.tmp rfl) (Opd.tmp rfl) B_add) ?_
  refine RegL.pure (p := (pEq (.int .i64 x4.1))) rfl rfl rfl (J_assign rfl (Opd.tmp rfl)) ?_
  refine RegL.pure (p := (pEq (.int .i64 (w64 ((w64 ((2 : Int) * (w64 ((w64 ((w64 ((2 : Int) * x1.2)) + x2.2)) + x3.2)))) + x4.2))))) rfl rfl rfl (J_assign rfl (Opd.tmp rfl)) ?_
  refine RegL.nil ?_
  refine Ct.then_tr ?_
  refine Tr.weak (Γ' := [(2, (pEq (.int .i64 x4.1))), (3, (pEq (.int .i64 (w64 ((w64 ((2 : Int) * (w64 ((w64 ((w64 ((2 : Int) * x1.2)) + x2.2)) + x3.2)))) + x4.2)))))]) ⟨rfl, rfl, trivial⟩ ?_
  refine Tr.ret ?_
  replace h := Option.some.inj h; subst h
  exact Ct.retH2 (Ωx := []) () rfl (RvOk.tmp rfl) (RvOk.tmp rfl) rfl rfl

theorem c_spec_l02Log {n_0 : Int} {r : Int} (h : m_spec_l02Log n_0 = some r) : CallJ Tryd.prog 35 [(pEq (.int .i64 n_0))] (pEq (.int .i64 r)) := by
  unfold m_spec_l02Log at h
  refine CallJ.enterH Tryd.func35 rfl Tryd.ntmps35 rfl fun W I0 H => ?_
  refine Tr.weak (Γ' := [(0, (pEq (.int .i64 n_0)))]) ⟨rfl, trivial⟩ ?_
  refine Tr.seq ?_
  refine Tr.region ?_
  refine RegL.pure (p := (pEq (.int .i64 (0 : Int)))) rfl rfl rfl (J_assign rfl Opd.con) ?_
  refine RegL.nil ?_
  refine Ct.then_tr ?_
  refine Tr.weak (Γ' := [(0, (pEq (.int .i64 n_0)))]) ⟨rfl, trivial⟩ ?_
  refine Tr.seq ?_
  refine Tr.region ?_
  refine RegL.pure (p := (pEq (.int .i64 (0 : Int)))) rfl rfl rfl (J_assign rfl Opd.con) ?_
  refine RegL.nil ?_
  refine Ct.then_tr ?_
  refine Tr.weak (Γ' := [(0, (pEq (.int .i64 n_0))), (3, (pEq (.int .i64 (0 : Int))))]) ⟨rfl, rfl, trivial⟩ ?_
  refine Tr.seq ?_
  refine Tr.seq ?_
  refine Tr.region ?_
  refine RegL.pure (p := (pEq (.int .i64 n_0))) rfl rfl rfl (J_move rfl (Opd.tmp rfl)) ?_
  refine RegL.pure (p := (pEq (.int .i64 n_0))) rfl rfl rfl (J_assign rfl (Opd.tmp rfl)) ?_
  refine RegL.nil ?_
  refine Ct.then_tr ?_
  refine Tr.weak (Γ' := [(0, (pEq (.int .i64 n_0))), (3, (pEq (.int .i64 (0 : Int)))), (4, (pEq (.int .i64 n_0)))]) ⟨rfl, rfl, rfl, trivial⟩ ?_
  replace h := bind_some h; obtain ⟨x1, hx1, h⟩ := h
  refine Tr.cut (γ := Unit) (Γm := fun g => [(0, (pEq (.int .i64 n_0))), (3, (pEq (.int .i64 x1)))]) (Ωm := fun g => []) ?_ (fun g6 => ?_)
  · clear h
    have h := hx1
    clear hx1
    refine Tr.block ?_
    refine Tr.weak (Γ' := [(0, (pEq (.int .i64 n_0))), (3, (pEq (.int .i64 (0 : Int)))), (4, (pEq (.int .i64 n_0)))]) ⟨rfl, rfl, rfl, trivial⟩ ?_
    refine Tr.loop (γ := Unit) (σ := (Int × Int)) (Γσ := fun s g => [(0, (pEq (.int .i64 n_0))), (3, (pEq (.int .i64 s.1))), (4, (pEq (.int .i64 s.2)))]) (Ωσ := fun s g => []) (g := ()) h ?_
    clear h
    rintro ⟨v3, v4⟩ g5 t h
    replace h : m_spec_l02Log_B2  v3 v4 = some t := h
    unfold m_spec_l02Log_B2 at h
    refine Tr.weakO (Γ' := [(0, (pEq (.int .i64 n_0))), (3, (pEq (.int .i64 v3))), (4, (pEq (.int .i64 v4)))]) (Ω' := []) rfl ⟨rfl, rfl, rfl, trivial⟩ ?_
    refine Tr.seq ?_
    refine Tr.seq ?_
    refine Tr.region ?_
    refine RegL.pure (p := (pEq (.int .i64 v4))) rfl rfl rfl (J_move rfl (Opd.tmp rfl)) ?_
    refine RegL.pure (p := (pEq (.bool (decide ((10 : Int) ≤ v4))))) rfl rfl rfl (J_bin rfl (Opd.tmp rfl) Opd.con B_geq) ?_
    refine RegL.nil ?_
    refine Ct.then_tr ?_
    refine Tr.weak (Γ' := [(0, (pEq (.int .i64 n_0))), (3, (pEq (.int .i64 v3))), (4, (pEq (.int .i64 v4))), (13, (pEq (.bool (decide ((10 : Int) ≤ v4)))))]) ⟨rfl, rfl, rfl, rfl, trivial⟩ ?_
    refine Tr.cond (Opd.tmp rfl) (fun hc => ?_) (fun hc => ?_)
    · replace h := bif_t hc h
      refine Tr.skip ?_
      refine Ct.then_tr ?_
      refine Tr.weak (Γ' := [(0, (pEq (.int .i64 n_0))), (3, (pEq (.int .i64 v3))), (4, (pEq (.int .i64 v4)))]) ⟨rfl, rfl, rfl, trivial⟩ ?_
      refine Tr.seq ?_
      refine Tr.block ?_
      refine Tr.region ?_
      refine RegL.pure (p := (pEq (.int .i64 v3))) rfl rfl rfl (J_move rfl (Opd.tmp rfl)) ?_
      refine RegL.pure (p := (pEq (.int .i64 (w64 (v3 + (1 : Int)))))) rfl rfl rfl (J_bin rfl (Opd.tmp rfl) Opd.con B_add) ?_
      refine RegL.pure (p := (pEq (.int .i64 (w64 (v3 + (1 : Int)))))) rfl rfl rfl (J_assign rfl (Opd.tmp rfl)) ?_
      refine RegL.nil ?_
      refine Ct.blk_normal ?_
      refine Ct.then_tr ?_
      refine Tr.weak (Γ' := [(0, (pEq (.int .i64 n_0))), (3, (pEq (.int .i64 (w64 (v3 + (1 : Int)))))), (4, (pEq (.int .i64 v4)))]) ⟨rfl, rfl, rfl, trivial⟩ ?_
      refine Tr.region ?_
      refine RegL.pure (p := (pEq (.int .i64 v4))) rfl rfl rfl (J_move rfl (Opd.tmp rfl)) ?_
      refine RegL.pure (p := (pEq (.int .i64 (w64 (v4.tdiv (10 : Int)))))) rfl rfl rfl (J_bin rfl (Opd.tmp rfl) Opd.con (B_quo (n := (10 : Int)) (by decide))) ?_
      refine RegL.pure (p := (pEq (.int .i64 (w64 (v4.tdiv (10 : Int)))))) rfl rfl rfl (J_assign rfl (Opd.tmp rfl)) ?_
      refine RegL.nil ?_
      replace h := Option.some.inj h; subst h
      exact Ct.again () rfl ⟨rfl, rfl, rfl, trivial⟩
    · replace h := bif_f hc h
      refine Tr.exit ?_
      refine Ct.then_exit ?_
      replace h := map_some h; obtain ⟨r1, h, rfl⟩ := h
      refine Ct.out_exit fun e => ?_
      subst e
      refine Ct.blk_exit ?_
      replace h := Option.some.inj h; subst h
      exact Ct.mid () rfl ⟨rfl, rfl, trivial⟩
  · clear hx1
    refine Ct.then_tr ?_
    refine Tr.weak (Γ' := [(0, (pEq (.int .i64 n_0))), (3, (pEq (.int .i64 x1)))]) ⟨rfl, rfl, trivial⟩ ?_
    refine Tr.seq ?_
    refine Tr.region ?_
    refine RegL.pure (p := (pEq (.int .i64 n_0))) rfl rfl rfl (J_move rfl (Opd.tmp rfl)) ?_
    refine RegL.pure (p := (pEq (.int .i64 n_0))) rfl rfl rfl (J_assign rfl (Opd.tmp rfl)) ?_
    refine RegL.nil ?_
    refine Ct.then_tr ?_
    refine Tr.weak (Γ' := [(3, (pEq (.int .i64 x1))), (5, (pEq (.int .i64 n_0)))]) ⟨rfl, rfl, trivial⟩ ?_
    refine Tr.seq ?_
    refine Tr.seq ?_
    refine Tr.region ?_
    refine RegL.pure (p := (pEq (.int .i64 x1))) rfl rfl rfl (J_move rfl (Opd.tmp rfl)) ?_
    refine RegL.pure (p := (pEq (.int .i64 x1))) rfl rfl rfl (J_assign rfl (Opd.tmp rfl)) ?_
    refine RegL.nil ?_
    refine Ct.then_tr ?_
    refine Tr.weak (Γ' := [(3, (pEq (.int .i64 x1))), (5, (pEq (.int .i64 n_0))), (6, (pEq (.int .i64 x1)))]) ⟨rfl, rfl, rfl, trivial⟩ ?_
    replace h := bind_some h; obtain ⟨x7, hx7, h⟩ := h
    refine Tr.cut (γ := Unit) (Γm := fun g => [(3, (pEq (.int .i64 x1))), (5, (pEq (.int .i64 x7)))]) (Ωm := fun g => []) ?_ (fun g12 => ?_)
    · clear h
      have h := hx7
      clear hx7
      refine Tr.block ?_
      refine Tr.weak (Γ' := [(3, (pEq (.int .i64 x1))), (5, (pEq (.int .i64 n_0))), (6, (pEq (.int .i64 x1)))]) ⟨rfl, rfl, rfl, trivial⟩ ?_
      refine Tr.loop (γ := Unit) (σ := (Int × Int)) (Γσ := fun s g => [(3, (pEq (.int .i64 x1))), (5, (pEq (.int .i64 s.1))), (6, (pEq (.int .i64 s.2)))]) (Ωσ := fun s g => []) (g := ()) h ?_
      clear h
      rintro ⟨v9, v10⟩ g11 t h
      replace h : m_spec_l02Log_B8  v9 v10 = some t := h
      unfold m_spec_l02Log_B8 at h
      refine Tr.weakO (Γ' := [(3, (pEq (.int .i64 x1))), (5, (pEq (.int .i64 v9))), (6, (pEq (.int .i64 v10)))]) (Ω' := []) rfl ⟨rfl, rfl, rfl, trivial⟩ ?_
      refine Tr.seq ?_
      refine Tr.seq ?_
      refine Tr.region ?_
      refine RegL.pure (p := (pEq (.int .i64 v10))) rfl rfl rfl (J_move rfl (Opd.tmp rfl)) ?_
      refine RegL.pure (p := (pEq (.bool (decide (v10 < (8 : Int)))))) rfl rfl rfl (J_bin rfl (Opd.tmp rfl) Opd.con B_lss) ?_
      refine RegL.nil ?_
      refine Ct.then_tr ?_
      refine Tr.weak (Γ' := [(3, (pEq (.int .i64 x1))), (5, (pEq (.int .i64 v9))), (6, (pEq (.int .i64 v10))), (21, (pEq (.bool (decide (v10 < (8 : Int))))))]) ⟨rfl, rfl, rfl, rfl, trivial⟩ ?_
      refine Tr.cond (Opd.tmp rfl) (fun hc => ?_) (fun hc => ?_)
      · replace h := bif_t hc h
        refine Tr.skip ?_
        refine Ct.then_tr ?_
        refine Tr.weak (Γ' := [(3, (pEq (.int .i64 x1))), (5, (pEq (.int .i64 v9))), (6, (pEq (.int .i64 v10)))]) ⟨rfl, rfl, rfl, trivial⟩ ?_
        refine Tr.seq ?_
        refine Tr.block ?_
        refine Tr.region ?_
        refine RegL.pure (p := (pEq (.int .i64 v9))) rfl rfl rfl (J_move rfl (Opd.tmp rfl)) ?_
        refine RegL.pure (p := (pEq (.int .i64 (w64 (v9 * (10 : Int)))))) rfl rfl rfl (J_bin rfl (Opd.tmp rfl) Opd.con B_mul) ?_
        refine RegL.pure (p := (pEq (.int .i64 (w64 (v9 * (10 : Int)))))) rfl rfl rfl (J_assign rfl (Opd.tmp rfl)) ?_
        refine RegL.nil ?_
        refine Ct.blk_normal ?_
        refine Ct.then_tr ?_
        refine Tr.weak (Γ' := [(3, (pEq (.int .i64 x1))), (5, (pEq (.int .i64 (w64 (v9 * (10 : Int)))))), (6, (pEq (.int .i64 v10)))]) ⟨rfl, rfl, rfl, trivial⟩ ?_
        refine Tr.region ?_
        refine RegL.pure (p := (pEq (.int .i64 v10))) rfl rfl rfl (J_move rfl (Opd.tmp rfl)) ?_
        refine RegL.pure (p := (pEq (.int .i64 (w64 (v10 + (1 : Int)))))) rfl rfl rfl (J_bin rfl (Opd.tmp rfl) Opd.con B_add) ?_
        refine RegL.pure (p := (pEq (.int .i64 (w64 (v10 + (1 : Int)))))) rfl rfl rfl (J_assign rfl (Opd.tmp rfl)) ?_
        refine RegL.nil ?_
        replace h := Option.some.inj h; subst h
        exact Ct.again () rfl ⟨rfl, rfl, rfl, trivial⟩
      · replace h := bif_f hc h
        refine Tr.exit ?_
        refine Ct.then_exit ?_
        replace h := map_some h; obtain ⟨r1, h, rfl⟩ := h
        refine Ct.out_exit fun e => ?_
        subst e
        refine Ct.blk_exit ?_
        replace h := Option.some.inj h; subst h
        exact Ct.mid () rfl ⟨rfl, rfl, trivial⟩
    · clear hx7
      refine Ct.then_tr ?_
      refine Tr.weak (Γ' := [(3, (pEq (.int .i64 x1))), (5, (pEq (.int .i64 x7)))]) ⟨rfl, rfl, trivial⟩ ?_
      refine Tr.seq ?_
      refine Tr.seq ?_
      refine Tr.region ?_
      refine RegL.pure (p := (pEq (.int .i64 x1))) rfl rfl rfl (J_move rfl (Opd.tmp rfl)) ?_
      refine RegL.pure (p := (pEq (.int .i64 x1))) rfl rfl rfl (J_assign rfl (Opd.tmp rfl)) ?_
      refine RegL.nil ?_
      refine Ct.then_tr ?_
      refine Tr.weak (Γ' := [(3, (pEq (.int .i64 x1))), (5, (pEq (.int .i64 x7))), (7, (pEq (.int .i64 x1)))]) ⟨rfl, rfl, rfl, trivial⟩ ?_
      replace h := bind_some h; obtain ⟨x13, hx13, h⟩ := h
      refine Tr.cut (γ := Unit) (Γm := fun g => [(3, (pEq (.int .i64 x1))), (5, (pEq (.int .i64 x13)))]) (Ωm := fun g => []) ?_ (fun g18 => ?_)
      · clear h
        have h := hx13
        clear hx13
        refine Tr.block ?_
        refine Tr.weak (Γ' := [(3, (pEq (.int .i64 x1))), (5, (pEq (.int .i64 x7))), (7, (pEq (.int .i64 x1)))]) ⟨rfl, rfl, rfl, trivial⟩ ?_
        refine Tr.loop (γ := Unit) (σ := (Int × Int)) (Γσ := fun s g => [(3, (pEq (.int .i64 x1))), (5, (pEq (.int .i64 s.1))), (7, (pEq (.int .i64 s.2)))]) (Ωσ := fun s g => []) (g := ()) h ?_
        clear h
        rintro ⟨v15, v16⟩ g17 t h
        replace h : m_spec_l02Log_B14  v15 v16 = some t := h
        unfold m_spec_l02Log_B14 at h
        refine Tr.weakO (Γ' := [(3, (pEq (.int .i64 x1))), (5, (pEq (.int .i64 v15))), (7, (pEq (.int .i64 v16)))]) (Ω' := []) rfl ⟨rfl, rfl, rfl, trivial⟩ ?_
        refine Tr.seq ?_
        refine Tr.seq ?_
        refine Tr.region ?_
        refine RegL.pure (p := (pEq (.int .i64 v16))) rfl rfl rfl (J_move rfl (Opd.tmp rfl)) ?_
        refine RegL.pure (p := (pEq (.bool (decide ((8 : Int) < v16))))) rfl rfl rfl (J_bin rfl (Opd.tmp rfl) Opd.con B_gtr) ?_
        refine RegL.nil ?_
        refine Ct.then_tr ?_
        refine Tr.weak (Γ' := [(3, (pEq (.int .i64 x1))), (5, (pEq (.int .i64 v15))), (7, (pEq (.int .i64 v16))), (28, (pEq (.bool (decide ((8 : Int) < v16)))))]) ⟨rfl, rfl, rfl, rfl, trivial⟩ ?_
        refine Tr.cond (Opd.tmp rfl) (fun hc => ?_) (fun hc => ?_)
        · replace h := bif_t hc h
          refine Tr.skip ?_
          refine Ct.then_tr ?_
          refine Tr.weak (Γ' := [(3, (pEq (.int .i64 x1))), (5, (pEq (.int .i64 v15))), (7, (pEq (.int .i64 v16)))]) ⟨rfl, rfl, rfl, trivial⟩ ?_
          refine Tr.seq ?_
          refine Tr.block ?_
          refine Tr.region ?_
          refine RegL.pure (p := (pEq (.int .i64 v15))) rfl rfl rfl (J_move rfl (Opd.tmp rfl)) ?_
          refine RegL.pure (p := (pEq (.int .i64 (w64 (v15.tdiv (10 : Int)))))) rfl rfl rfl (J_bin rfl (Opd.tmp rfl) Opd.con (B_quo (n := (10 : Int)) (by decide))) ?_
          refine RegL.pure (p := (pEq (.int .i64 (w64 (v15.tdiv (10 : Int)))))) rfl rfl rfl (J_assign rfl (Opd.tmp rfl)) ?_
          refine RegL.nil ?_
          refine Ct.blk_normal ?_
          refine Ct.then_tr ?_
          refine Tr.weak (Γ' := [(3, (pEq (.int .i64 x1))), (5, (pEq (.int .i64 (w64 (v15.tdiv (10 : Int)))))), (7, (pEq (.int .i64 v16)))]) ⟨rfl, rfl, rfl, trivial⟩ ?_
          refine Tr.region ?_
          refine RegL.pure (p := (pEq (.int .i64 v16))) rfl rfl rfl (J_move rfl (Opd.tmp rfl)) ?_
          refine RegL.pure (p := (pEq (.int .i64 (w64 (v16 - (1 : Int)))))) rfl rfl rfl (J_bin rfl (Opd.tmp rfl) Opd.con B_sub) ?_
          refine RegL.pure (p := (pEq (.int .i64 (w64 (v16 - (1 : Int)))))) rfl rfl rfl (J_assign rfl (Opd.tmp rfl)) ?_
          refine RegL.nil ?_
          replace h := Option.some.inj h; subst h
          exact Ct.again () rfl ⟨rfl, rfl, rfl, trivial⟩
        · replace h := bif_f hc h
          refine Tr.exit ?_
          refine Ct.then_exit ?_
          replace h := map_some h; obtain ⟨r1, h, rfl⟩ := h
          refine Ct.out_exit fun e => ?_
          subst e
          refine Ct.blk_exit ?_
          replace h := Option.some.inj h; subst h
          exact Ct.mid () rfl ⟨rfl, rfl, trivial⟩
      · clear hx13
        refine Ct.then_tr ?_
        refine Tr.weak (Γ' := [(3, (pEq (.int .i64 x1))), (5, (pEq (.int .i64 x13)))]) ⟨rfl, rfl, trivial⟩ ?_
        refine Tr.seq ?_
        refine Tr.seq ?_
        refine Tr.region ?_
        refine RegL.pure (p := (pEq (.int .i64 (0 : Int)))) rfl rfl rfl (J_assign rfl Opd.con) ?_
        refine RegL.nil ?_
        refine Ct.then_tr ?_
        refine Tr.weak (Γ' := [(3, (pEq (.int .i64 x1))), (5, (pEq (.int .i64 x13))), (8, (pEq (.int .i64 (0 : Int))))]) ⟨rfl, rfl, rfl, trivial⟩ ?_
        replace h := bind_some h; obtain ⟨x19, hx19, h⟩ := h
        refine Tr.cut (γ := Unit) (Γm := fun g => [(3, (pEq (.int .i64 x19)))]) (Ωm := fun g => []) ?_ (fun g26 => ?_)
        · clear h
          have h := hx19
          clear hx19
          refine Tr.block ?_
          refine Tr.weak (Γ' := [(3, (pEq (.int .i64 x1))), (5, (pEq (.int .i64 x13))), (8, (pEq (.int .i64 (0 : Int))))]) ⟨rfl, rfl, rfl, trivial⟩ ?_
          refine Tr.loop (γ := Unit) (σ := (Int × Int × Int)) (Γσ := fun s g => [(3, (pEq (.int .i64 s.1))), (5, (pEq (.int .i64 s.2.1))), (8, (pEq (.int .i64 s.2.2)))]) (Ωσ := fun s g => []) (g := ()) h ?_
          clear h
          rintro ⟨v21, v22, v23⟩ g24 t h
          replace h : m_spec_l02Log_B20  v21 v22 v23 = some t := h
          unfold m_spec_l02Log_B20 at h
          refine Tr.weakO (Γ' := [(3, (pEq (.int .i64 v21))), (5, (pEq (.int .i64 v22))), (8, (pEq (.int .i64 v23)))]) (Ω' := []) rfl ⟨rfl, rfl, rfl, trivial⟩ ?_
          refine Tr.seq ?_
          refine Tr.seq ?_
          refine Tr.region ?_
          refine RegL.pure (p := (pEq (.int .i64 v23))) rfl rfl rfl (J_move rfl (Opd.tmp rfl)) ?_
          refine RegL.pure (p := (pEq (.bool (decide (v23 < (4 : Int)))))) rfl rfl rfl (J_bin rfl (Opd.tmp rfl) Opd.con B_lss) ?_
          refine RegL.nil ?_
          refine Ct.then_tr ?_
          refine Tr.weak (Γ' := [(3, (pEq (.int .i64 v21))), (5, (pEq (.int .i64 v22))), (8, (pEq (.int .i64 v23))), (34, (pEq (.bool (decide (v23 < (4 : Int))))))]) ⟨rfl, rfl, rfl, rfl, trivial⟩ ?_
          refine Tr.cond (Opd.tmp rfl) (fun hc => ?_) (fun hc => ?_)
          · replace h := bif_t hc h
            refine Tr.skip ?_
            refine Ct.then_tr ?_
            refine Tr.weak (Γ' := [(3, (pEq (.int .i64 v21))), (5, (pEq (.int .i64 v22))), (8, (pEq (.int .i64 v23)))]) ⟨rfl, rfl, rfl, trivial⟩ ?_
            refine Tr.seq ?_
            refine Tr.block ?_
            refine Tr.seq ?_
            refine Tr.region ?_
            refine RegL.pure (p := (pEq (.int .i64 v22))) rfl rfl rfl (J_move rfl (Opd.tmp rfl)) ?_
            replace h := bind_some h; obtain ⟨x25, hx25, h⟩ := h
            refine RegL.pure (p := (pTup [(pEq (.int .i64 x25.1)), (pEq (.int .i64 x25.2))])) rfl rfl rfl (J_call rfl Tryd.call51 (c_spec_l02Tenth hx25) (Opds.cons (Opd.tmp rfl) Opds.nil)) ?_
            refine RegL.pure (p := (pTup [(pEq (.int .i64 x25.1)), (pEq (.int .i64 x25.2))])) rfl rfl rfl (J_move rfl (Opd.tmp rfl)) ?_
            refine RegL.pure (p := (pEq (.int .i64 x25.1))) rfl rfl rfl (J_extract rfl (Opd.tmp rfl) rfl) ?_
            refine RegL.pure (p := (pEq (.int .i64 x25.2))) rfl rfl rfl (J_extract rfl (Opd.tmp rfl) rfl) ?_
            refine RegL.pure (p := (pEq (.int .i64 x25.1))) rfl rfl rfl (J_assign rfl (Opd.tmp rfl)) ?_
            refine RegL.pure (p := (pEq (.int .i64 x25.2))) rfl rfl rfl (J_assign rfl (Opd.tmp rfl)) ?_
            refine RegL.nil ?_
            refine Ct.then_tr ?_
            refine Tr.weak (Γ' := [(3, (pEq (.int .i64 v21))), (8, (pEq (.int .i64 v23))), (9, (pEq (.int .i64 x25.1))), (10, (pEq (.int .i64 x25.2)))]) ⟨rfl, rfl, rfl, rfl, trivial⟩ ?_
            refine Tr.seq ?_
            refine Tr.region ?_
            refine RegL.pure (p := (pEq (.int .i64 x25.1))) rfl rfl rfl (J_move rfl (Opd.tmp rfl)) ?_
            refine RegL.pure (p := (pEq (.int .i64 x25.1))) rfl rfl rfl (J_assign rfl (Opd.tmp rfl)) ?_
            refine RegL.nil ?_
            refine Ct.then_tr ?_
            refine Tr.weak (Γ' := [(3, (pEq (.int .i64 v21))), (5, (pEq (.int .i64 x25.1))), (8, (pEq (.int .i64 v23))), (10, (pEq (.int .i64 x25.2)))]) ⟨rfl, rfl, rfl, rfl, trivial⟩ ?_
            refine Tr.region ?_
            refine RegL.pure (p := (pEq (.int .i64 v21))) rfl rfl rfl (J_move rfl (Opd.tmp rfl)) ?_
            refine RegL.pure (p := (pEq (.int .i64 (w64 ((10 : Int) * v21))))) rfl rfl rfl (J_bin rfl Opd.con (Opd.tmp rfl) B_mul) ?_
            refine RegL.pure (p := (pEq (.int .i64 x25.2))) rfl rfl rfl (J_move rfl (Opd.tmp rfl)) ?_
            refine RegL.pure (p := (pEq (.int .i64 (w64 ((w64 ((10 : Int) * v21)) + x25.2))))) rfl rfl rfl (J_bin rfl (Opd.tmp rfl) (Opd.tmp rfl) B_add) ?_
            refine RegL.pure (p := (pEq (.int .i64 (w64 ((w64 ((10 : Int) * v21)) + x25.2))))) rfl rfl rfl (J_assign rfl (Opd.tmp rfl)) ?_
            refine RegL.nil ?_
            refine Ct.blk_normal ?_
            refine Ct.then_tr ?_
            refine Tr.weak (Γ' := [(3, (pEq (.int .i64 (w64 ((w64 ((10 : Int) * v21)) + x25.2))))), (5, (pEq (.int .i64 x25.1))), (8, (pEq (.int .i64 v23)))]) ⟨rfl, rfl, rfl, trivial⟩ ?_
            refine Tr.region ?_
            refine RegL.pure (p := (pEq (.int .i64 v23))) rfl rfl rfl (J_move rfl (Opd.tmp rfl)) ?_
            refine RegL.pure (p := (pEq (.int .i64 (w64 (v23 + (1 : Int)))))) rfl rfl rfl (J_bin rfl (Opd.tmp rfl) Opd.con B_add) ?_
            refine RegL.pure (p := (pEq (.int .i64 (w64 (v23 + (1 : Int)))))) rfl rfl rfl (J_assign rfl (Opd.tmp rfl)) ?_
            refine RegL.nil ?_
            replace h := Option.some.inj h; subst h
            exact Ct.again () rfl ⟨rfl, rfl, rfl, trivial⟩
          · replace h := bif_f hc h
            refine Tr.exit ?_
            refine Ct.then_exit ?_
            replace h := map_some h; obtain ⟨r1, h, rfl⟩ := h
            refine Ct.out_exit fun e => ?_
            subst e
            refine Ct.blk_exit ?_
            replace h := Option.some.inj h; subst h
            exact Ct.mid () rfl ⟨rfl, trivial⟩
        · clear hx19
          refine Ct.then_tr ?_
          refine Tr.weak (Γ' := [(3, (pEq (.int .i64 x19)))]) ⟨rfl, trivial⟩ ?_
          refine Tr.seq ?_
          refine Tr.region ?_
          refine RegL.pure (p := (pEq (.int .i64 x19))) rfl rfl rfl (J_move rfl (Opd.tmp rfl)) ?_
          refine RegL.pure (p := (pEq (.int .i64 x19))) rfl rfl rfl (J_assign rfl (Opd.tmp rfl)) ?_
          refine RegL.nil ?_
          refine Ct.then_tr ?_
          refine Tr.weak (Γ' := [(2, (pEq (.int .i64 x19)))]) ⟨rfl, trivial⟩ ?_
          refine Tr.ret ?_
          replace h := Option.some.inj h; subst h
          exact Ct.retH1 (Ωx := []) () rfl (RvOk.tmp rfl) rfl

theorem c_spec_l00Max {a_0 : Int} {b_1 : Int} {r : Int} (h : m_spec_l00Max a_0 b_1 = some r) : CallJ Tryd.prog 36 [(pEq (.int .i64 a_0)), (pEq (.int .i64 b_1))] (pEq (.int .i64 r)) := by
  unfold m_spec_l00Max at h
  refine CallJ.enterH Tryd.func36 rfl Tryd.ntmps36 rfl fun W I0 H => ?_
  refine Tr.weak (Γ' := [(0, (pEq (.int .i64 a_0))), (1, (pEq (.int .i64 b_1)))]) ⟨rfl, rfl, trivial⟩ ?_
  refine Tr.seq ?_
  refine Tr.region ?_
  refine RegL.pure (p := (pEq (.int .i64 (0 : Int)))) rfl rfl rfl (J_assign rfl Opd.con) ?_
  refine RegL.nil ?_
  refine Ct.then_tr ?_
  refine Tr.weak (Γ' := [(0, (pEq (.int .i64 a_0))), (1, (pEq (.int .i64 b_1)))]) ⟨rfl, rfl, trivial⟩ ?_
  refine Tr.seq ?_
  refine Tr.seq ?_
  refine Tr.region ?_
  refine RegL.pure (p := (pEq (.int .i64 a_0))) rfl rfl rfl (J_move rfl (Opd.tmp rfl)) ?_
  refine RegL.pure (p := (pEq (.int .i64 b_1))) rfl rfl rfl (J_move rfl (Opd.tmp rfl)) ?_
  refine RegL.pure (p := (pEq (.bool (decide (b_1 < a_0))))) rfl rfl rfl (J_bin rfl (Opd.tmp rfl) (Opd.tmp rfl) B_gtr) ?_
  refine RegL.nil ?_
  refine Ct.then_tr ?_
  refine Tr.weak (Γ' := [(0, (pEq (.int .i64 a_0))), (1, (pEq (.int .i64 b_1))), (7, (pEq (.bool (decide (b_1 < a_0)))))]) ⟨rfl, rfl, rfl, trivial⟩ ?_
  refine Tr.cond (Opd.tmp rfl) (fun hc => ?_) (fun hc => ?_)
  · replace h := bif_t hc h
    refine Tr.seq ?_
    refine Tr.region ?_
    refine RegL.pure (p := (pEq (.int .i64 a_0))) rfl rfl rfl (J_move rfl (Opd.tmp rfl)) ?_
    refine RegL.pure (p := (pEq (.int .i64 a_0))) rfl rfl rfl (J_assign rfl (Opd.tmp rfl)) ?_
    refine RegL.nil ?_
    refine Ct.then_tr ?_
    refine Tr.weak (Γ' := [(4, (pEq (.int .i64 a_0)))]) ⟨rfl, trivial⟩ ?_
    refine Tr.ret ?_
    refine Ct.then_ret ?_
    replace h := Option.some.inj h; subst h
    exact Ct.retH1 (Ωx := []) () rfl (RvOk.tmp rfl) rfl
  · replace h := bif_f hc h
    refine Tr.skip ?_
    refine Ct.then_tr ?_
    refine Tr.weak (Γ' := [(1, (pEq (.int .i64 b_1)))]) ⟨rfl, trivial⟩ ?_
    refine Tr.seq ?_
    refine Tr.region ?_
    refine RegL.pure (p := (pEq (.int .i64 b_1))) rfl rfl rfl (J_move rfl (Opd.tmp rfl)) ?_
    refine RegL.pure (p := (pEq (.int .i64 b_1))) rfl rfl rfl (J_assign rfl (Opd.tmp rfl)) ?_
    refine RegL.nil ?_
    refine Ct.then_tr ?_
    refine Tr.weak (Γ' := [(4, (pEq (.int .i64 b_1)))]) ⟨rfl, trivial⟩ ?_
    refine Tr.ret ?_
    replace h := Option.some.inj h; subst h
    exact Ct.retH1 (Ωx := []) () rfl (RvOk.tmp rfl) rfl

theorem c_spec_l02Pow {v_0 : Int} {r : Int} (h : m_spec_l02Pow v_0 = some r) : CallJ Tryd.prog 38 [(pEq (.int .i64 v_0))] (pEq (.int .i64 r)) := by
  unfold m_spec_l02Pow at h
  refine CallJ.enterH Tryd.func38 rfl Tryd.ntmps38 rfl fun W I0 H => ?_
  refine Tr.weak (Γ' := [(0, (pEq (.int .i64 v_0)))]) ⟨rfl, trivial⟩ ?_
  refine Tr.seq ?_
  refine Tr.region ?_
  refine RegL.pure (p := (pEq (.int .i64 (0 : Int)))) rfl rfl rfl (J_assign rfl Opd.con) ?_
  refine RegL.nil ?_
  refine Ct.then_tr ?_
  refine Tr.weak (Γ' := [(0, (pEq (.int .i64 v_0)))]) ⟨rfl, trivial⟩ ?_
  refine Tr.seq ?_
  refine Tr.region ?_
  refine RegL.pure (p := (pEq (.int .i64 (1 : Int)))) rfl rfl rfl (J_assign rfl Opd.con) ?_
  refine RegL.nil ?_
  refine Ct.then_tr ?_
  refine Tr.weak (Γ' := [(0, (pEq (.int .i64 v_0))), (3, (pEq (.int .i64 (1 : Int))))]) ⟨rfl, rfl, trivial⟩ ?_
  refine Tr.seq ?_
  refine Tr.region ?_
  refine RegL.pure (p := (pEq (.int .i64 (1000000000000000000 : Int)))) rfl rfl rfl (J_assign rfl Opd.con) ?_
  refine RegL.nil ?_
  refine Ct.then_tr ?_
  refine Tr.weak (Γ' := [(0, (pEq (.int .i64 v_0))), (3, (pEq (.int .i64 (1 : Int)))), (4, (pEq (.int .i64 (1000000000000000000 : Int))))]) ⟨rfl, rfl, rfl, trivial⟩ ?_
  refine Tr.seq ?_
  replace h := bind_some h; obtain ⟨x1, hx1, h⟩ := h
  refine Tr.cut (γ := Unit) (Γm := fun g => [(3, (pEq (.int .i64 x1)))]) (Ωm := fun g => []) ?_ (fun g9 => ?_)
  · clear h
    have h := hx1
    clear hx1
    refine Tr.block ?_
    refine Tr.weak (Γ' := [(0, (pEq (.int .i64 v_0))), (3, (pEq (.int .i64 (1 : Int)))), (4, (pEq (.int .i64 (1000000000000000000 : Int))))]) ⟨rfl, rfl, rfl, trivial⟩ ?_
    refine Tr.loop (γ := Unit) (σ := (Int × Int)) (Γσ := fun s g => [(0, (pEq (.int .i64 v_0))), (3, (pEq (.int .i64 s.1))), (4, (pEq (.int .i64 s.2)))]) (Ωσ := fun s g => []) (g := ()) h ?_
    clear h
    rintro ⟨v3, v4⟩ g5 t h
    replace h : m_spec_l02Pow_B2 v_0 v3 v4 = some t := h
    unfold m_spec_l02Pow_B2 at h
    refine Tr.weakO (Γ' := [(0, (pEq (.int .i64 v_0))), (3, (pEq (.int .i64 v3))), (4, (pEq (.int .i64 v4)))]) (Ω' := []) rfl ⟨rfl, rfl, rfl, trivial⟩ ?_
    refine Tr.seq ?_
    refine Tr.seq ?_
    refine Tr.region ?_
    refine RegL.pure (p := (pEq (.int .i64 v3))) rfl rfl rfl (J_move rfl (Opd.tmp rfl)) ?_
    refine RegL.pure (p := (pEq (.int .i64 v4))) rfl rfl rfl (J_move rfl (Opd.tmp rfl)) ?_
    refine RegL.pure (p := (pEq (.bool (decide (v3 < v4))))) rfl rfl rfl (J_bin rfl (Opd.tmp rfl) (Opd.tmp rfl) B_lss) ?_
    refine RegL.nil ?_
    refine Ct.then_tr ?_
    refine Tr.weak (Γ' := [(0, (pEq (.int .i64 v_0))), (3, (pEq (.int .i64 v3))), (4, (pEq (.int .i64 v4))), (8, (pEq (.bool (decide (v3 < v4)))))]) ⟨rfl, rfl, rfl, rfl, trivial⟩ ?_
    refine Tr.cond (Opd.tmp rfl) (fun hc => ?_) (fun hc => ?_)
    · replace h := bif_t hc h
      refine Tr.skip ?_
      refine Ct.then_tr ?_
      refine Tr.weak (Γ' := [(0, (pEq (.int .i64 v_0))), (3, (pEq (.int .i64 v3))), (4, (pEq (.int .i64 v4)))]) ⟨rfl, rfl, rfl, trivial⟩ ?_
      refine Tr.block ?_
      refine Tr.seq ?_
      refine Tr.region ?_
      refine RegL.pure (p := (pEq (.int .i64 v3))) rfl rfl rfl (J_move rfl (Opd.tmp rfl)) ?_
      refine RegL.pure (p := (pEq (.int .i64 v4))) rfl rfl rfl (J_move rfl (Opd.tmp rfl)) ?_
      refine RegL.pure (p := (pEq (.int .i64 (w64 (v3 + v4))))) rfl rfl rfl (J_bin rfl (Opd.tmp rfl) (Opd.tmp rfl) B_add) ?_
      refine RegL.pure (p := (pEq (.int .i64 (w64 ((w64 (v3 + v4)).tdiv (2 : Int)))))) rfl rfl rfl (J_bin rfl (Opd.tmp rfl) Opd.con (B_quo (n := (2 : Int)) (by decide))) ?_
      refine RegL.pure (p := (pEq (.int .i64 (w64 ((w64 (v3 + v4)).tdiv (2 : Int)))))) rfl rfl rfl (J_assign rfl (Opd.tmp rfl)) ?_
      refine RegL.nil ?_
      refine Ct.then_tr ?_
      refine Tr.weak (Γ' := [(0, (pEq (.int .i64 v_0))), (3, (pEq (.int .i64 v3))), (4, (pEq (.int .i64 v4))), (5, (pEq (.int .i64 (w64 ((w64 (v3 + v4)).tdiv (2 : Int))))))]) ⟨rfl, rfl, rfl, rfl, trivial⟩ ?_
      refine Tr.seq ?_
      refine Tr.region ?_
      refine RegL.pure (p := (pEq (.int .i64 (w64 ((w64 (v3 + v4)).tdiv (2 : Int)))))) rfl rfl rfl (J_move rfl (Opd.tmp rfl)) ?_
      replace h := bind_some h; obtain ⟨x6, hx6, h⟩ := h
      refine RegL.pure (p := (pEq (.int .i64 x6))) rfl rfl rfl (J_call rfl Tryd.call35 (c_spec_l02Log hx6) (Opds.cons (Opd.tmp rfl) Opds.nil)) ?_
      refine RegL.pure (p := (pEq (.int .i64 v_0))) rfl rfl rfl (J_move rfl (Opd.tmp rfl)) ?_
      refine RegL.pure (p := (pEq (.bool (decide (v_0 ≤ x6))))) rfl rfl rfl (J_bin rfl (Opd.tmp rfl) (Opd.tmp rfl) B_geq) ?_
      refine RegL.nil ?_
      refine Ct.then_tr ?_
      refine Tr.weak (Γ' := [(0, (pEq (.int .i64 v_0))), (3, (pEq (.int .i64 v3))), (4, (pEq (.int .i64 v4))), (5, (pEq (.int .i64 (w64 ((w64 (v3 + v4)).tdiv (2 : Int)))))), (16, (pEq (.bool (decide (v_0 ≤ x6)))))]) ⟨rfl, rfl, rfl, rfl, rfl, trivial⟩ ?_
      replace h := bind_some h; obtain ⟨x7, hx7, h⟩ := h
      refine Tr.cut (γ := Unit) (Γm := fun g => [(0, (pEq (.int .i64 v_0))), (3, (pEq (.int .i64 x7.1))), (4, (pEq (.int .i64 x7.2)))]) (Ωm := fun g => []) ?_ (fun g8 => ?_)
      · clear h
        have h := hx7
        clear hx7
        refine Tr.cond (Opd.tmp rfl) (fun hc => ?_) (fun hc => ?_)
        · replace h := bif_t hc h
          refine Tr.region ?_
          refine RegL.pure (p := (pEq (.int .i64 (w64 ((w64 (v3 + v4)).tdiv (2 : Int)))))) rfl rfl rfl (J_move rfl (Opd.tmp rfl)) ?_
          refine RegL.pure (p := (pEq (.int .i64 (w64 ((w64 (v3 + v4)).tdiv (2 : Int)))))) rfl rfl rfl (J_assign rfl (Opd.tmp rfl)) ?_
          refine RegL.nil ?_
          replace h := Option.some.inj h; subst h
          exact Ct.mid () rfl ⟨rfl, rfl, rfl, trivial⟩
        · replace h := bif_f hc h
          refine Tr.region ?_
          refine RegL.pure (p := (pEq (.int .i64 (w64 ((w64 (v3 + v4)).tdiv (2 : Int)))))) rfl rfl rfl (J_move rfl (Opd.tmp rfl)) ?_
          refine RegL.pure (p := (pEq (.int .i64 (w64 ((w64 ((w64 (v3 + v4)).tdiv (2 : Int))) + (1 : Int)))))) rfl rfl rfl (J_bin rfl (Opd.tmp rfl) Opd.con B_add) ?_
          refine RegL.pure (p := (pEq (.int .i64 (w64 ((w64 ((w64 (v3 + v4)).tdiv (2 : Int))) + (1 : Int)))))) rfl rfl rfl (J_assign rfl (Opd.tmp rfl)) ?_
          refine RegL.nil ?_
          replace h := Option.some.inj h; subst h
          exact Ct.mid () rfl ⟨rfl, rfl, rfl, trivial⟩
      · clear hx7
        refine Ct.blk_normal ?_
        replace h := Option.some.inj h; subst h
        exact Ct.again () rfl ⟨rfl, rfl, rfl, trivial⟩
    · replace h := bif_f hc h
      refine Tr.exit ?_
      refine Ct.then_exit ?_
      replace h := map_some h; obtain ⟨r1, h, rfl⟩ := h
      refine Ct.out_exit fun e => ?_
      subst e
      refine Ct.blk_exit ?_
      replace h := Option.some.inj h; subst h
      exact Ct.mid () rfl ⟨rfl, trivial⟩
  · clear hx1
    refine Ct.then_tr ?_
    refine Tr.weak (Γ' := [(3, (pEq (.int .i64 x1)))]) ⟨rfl, trivial⟩ ?_
    refine Tr.seq ?_
    refine Tr.region ?_
    refine RegL.pure (p := (pEq (.int .i64 x1))) rfl rfl rfl (J_move rfl (Opd.tmp rfl)) ?_
    refine RegL.pure (p := (pEq (.int .i64 x1))) rfl rfl rfl (J_assign rfl (Opd.tmp rfl)) ?_
    refine RegL.nil ?_
    refine Ct.then_tr ?_
    refine Tr.weak (Γ' := [(2, (pEq (.int .i64 x1)))]) ⟨rfl, trivial⟩ ?_
    refine Tr.ret ?_
    replace h := Option.some.inj h; subst h
    exact Ct.retH1 (Ωx := []) () rfl (RvOk.tmp rfl) rfl

theorem c_spec_l00Min {a_0 : Int} {b_1 : Int} {r : Int} (h : m_spec_l00Min a_0 b_1 = some r) : CallJ Tryd.prog 37 [(pEq (.int .i64 a_0)), (pEq (.int .i64 b_1))] (pEq (.int .i64 r)) := by
  unfold m_spec_l00Min at h
  refine CallJ.enterH Tryd.func37 rfl Tryd.ntmps37 rfl fun W I0 H => ?_
  refine Tr.weak (Γ' := [(0, (pEq (.int .i64 a_0))), (1, (pEq (.int .i64 b_1)))]) ⟨rfl, rfl, trivial⟩ ?_
  refine Tr.seq ?_
  refine Tr.region ?_
  refine RegL.pure (p := (pEq (.int .i64 (0 : Int)))) rfl rfl rfl (J_assign rfl Opd.con) ?_
  refine RegL.nil ?_
  refine Ct.then_tr ?_
  refine Tr.weak (Γ' := [(0, (pEq (.int .i64 a_0))), (1, (pEq (.int .i64 b_1)))]) ⟨rfl, rfl, trivial⟩ ?_
  refine Tr.seq ?_
  refine Tr.seq ?_
  refine Tr.region ?_
  refine RegL.pure (p := (pEq (.int .i64 a_0))) rfl rfl rfl (J_move rfl (Opd.tmp rfl)) ?_
  refine RegL.pure (p := (pEq (.int .i64 b_1))) rfl rfl rfl (J_move rfl (Opd.tmp rfl)) ?_
  refine RegL.pure (p := (pEq (.bool (decide (a_0 < b_1))))) rfl rfl rfl (J_bin rfl (Opd.tmp rfl) (Opd.tmp rfl) B_lss) ?_
  refine RegL.nil ?_
  refine Ct.then_tr ?_
  refine Tr.weak (Γ' := [(0, (pEq (.int .i64 a_0))), (1, (pEq (.int .i64 b_1))), (7, (pEq (.bool (decide (a_0 < b_1)))))]) ⟨rfl, rfl, rfl, trivial⟩ ?_
  refine Tr.cond (Opd.tmp rfl) (fun hc => ?_) (fun hc => ?_)
  · replace h := bif_t hc h
    refine Tr.seq ?_
    refine Tr.region ?_
    refine RegL.pure (p := (pEq (.int .i64 a_0))) rfl rfl rfl (J_move rfl (Opd.tmp rfl)) ?_
    refine RegL.pure (p := (pEq (.int .i64 a_0))) rfl rfl rfl (J_assign rfl (Opd.tmp rfl)) ?_
    refine RegL.nil ?_
    refine Ct.then_tr ?_
    refine Tr.weak (Γ' := [(4, (pEq (.int .i64 a_0)))]) ⟨rfl, trivial⟩ ?_
    refine Tr.ret ?_
    refine Ct.then_ret ?_
    replace h := Option.some.inj h; subst h
    exact Ct.retH1 (Ωx := []) () rfl (RvOk.tmp rfl) rfl
  · replace h := bif_f hc h
    refine Tr.skip ?_
    refine Ct.then_tr ?_
    refine Tr.weak (Γ' := [(1, (pEq (.int .i64 b_1)))]) ⟨rfl, trivial⟩ ?_
    refine Tr.seq ?_
    refine Tr.region ?_
    refine RegL.pure (p := (pEq (.int .i64 b_1))) rfl rfl rfl (J_move rfl (Opd.tmp rfl)) ?_
    refine RegL.pure (p := (pEq (.int .i64 b_1))) rfl rfl rfl (J_assign rfl (Opd.tmp rfl)) ?_
    refine RegL.nil ?_
    refine Ct.then_tr ?_
    refine Tr.weak (Γ' := [(4, (pEq (.int .i64 b_1)))]) ⟨rfl, trivial⟩ ?_
    refine Tr.ret ?_
    replace h := Option.some.inj h; subst h
    exact Ct.retH1 (Ωx := []) () rfl (RvOk.tmp rfl) rfl

theorem c_spec_l13Fade {f_0 : Int} {d_1 : Int} {climate_2 : Int} {margin_3 : Int} {r : Int} (h : m_spec_l13Fade f_0 d_1 climate_2 margin_3 = some r) : CallJ Tryd.prog 19 [(pEq (.int .i64 f_0)), (pEq (.int .i64 d_1)), (pEq (.int .i64 climate_2)), (pEq (.int .i64 margin_3))] (pEq (.int .i64 r)) := by
  unfold m_spec_l13Fade at h
  refine CallJ.enterH Tryd.func19 rfl Tryd.ntmps19 rfl fun W I0 H => ?_
  refine Tr.weak (Γ' := [(0, (pEq (.int .i64 f_0))), (1, (pEq (.int .i64 d_1))), (2, (pEq (.int .i64 climate_2))), (3, (pEq (.int .i64 margin_3)))]) ⟨rfl, rfl, rfl, rfl, trivial⟩ ?_
  refine Tr.seq ?_
  refine Tr.region ?_
  refine RegL.pure (p := (pEq (.int .i64 (0 : Int)))) rfl rfl rfl (J_assign rfl Opd.con) ?_
  refine RegL.nil ?_
  refine Ct.then_tr ?_
  refine Tr.weak (Γ' := [(0, (pEq (.int .i64 f_0))), (1, (pEq (.int .i64 d_1))), (2, (pEq (.int .i64 climate_2))), (3, (pEq (.int .i64 margin_3)))]) ⟨rfl, rfl, rfl, rfl, trivial⟩ ?_
  refine Tr.seq ?_
  refine Tr.region ?_
  refine RegL.pure (p := (pEq (.int .i64 climate_2))) rfl rfl rfl (J_move rfl (Opd.tmp rfl)) ?_
  replace h := bind_some h; obtain ⟨x1, hx1, h⟩ := h
  refine RegL.pure (p := (pEq (.int .i64 x1))) rfl rfl rfl (J_call rfl Tryd.call35 (c_spec_l02Log hx1) (Opds.cons (Opd.tmp rfl) Opds.nil)) ?_
  refine RegL.pure (p := (pEq (.int .i64 f_0))) rfl rfl rfl (J_move rfl (Opd.tmp rfl)) ?_
  refine RegL.pure (p := (pEq (.int .i64 (w64 (f_0.tdiv (1000 : Int)))))) rfl rfl rfl (J_bin rfl (Opd.tmp rfl) Opd.con (B_quo (n := (1000 : Int)) (by decide))) ?_
  replace h := bind_some h; obtain ⟨x2, hx2, h⟩ := h
  refine RegL.pure (p := (pEq (.int .i64 x2))) rfl rfl rfl (J_call rfl Tryd.call36 (c_spec_l00Max hx2) (Opds.cons Opd.con (Opds.cons (Opd.tmp rfl) Opds.nil))) ?_
  replace h := bind_some h; obtain ⟨x3, hx3, h⟩ := h
  refine RegL.pure (p := (pEq (.int .i64 x3))) rfl rfl rfl (J_call rfl Tryd.call35 (c_spec_l02Log hx3) (Opds.cons (Opd.tmp rfl) Opds.nil)) ?_
  refine RegL.pure (p := (pEq (.int .i64 (w64 (x1 + x3))))) rfl rfl rfl (J_bin rfl (Opd.tmp rfl) (Opd.tmp rfl) B_add) ?_
  refine RegL.pure (p := (pEq (.int .i64 d_1))) rfl rfl rfl (J_move rfl (Opd.tmp rfl)) ?_
  replace h := bind_some h; obtain ⟨x4, hx4, h⟩ := h
  refine RegL.pure (p := (pEq (.int .i64 x4))) rfl rfl rfl (J_call rfl Tryd.call35 (c_spec_l02Log hx4) (Opds.cons (Opd.tmp rfl) Opds.nil)) ?_
  refine RegL.pure (p := (pEq (.int .i64 (w64 ((3 : Int) * x4))))) rfl rfl rfl (J_bin rfl Opd.con (Opd.tmp rfl) B_mul) ?_
  refine RegL.pure (p := (pEq (.int .i64 (w64 ((w64 (x1 + x3)) + (w64 ((3 : Int) * x4))))))) rfl rfl rfl (J_bin rfl (Opd.tmp rfl) (Opd.tmp rfl) B_add) ?_
  refine RegL.pure (p := (pEq (.int .i64 (w64 ((w64 ((w64 (x1 + x3)) + (w64 ((3 : Int) * x4)))) - (142218 : Int)))))) rfl rfl rfl (J_bin rfl (Opd.tmp rfl) Opd.con B_sub) ?_
  refine RegL.pure (p := (pEq (.int .i64 margin_3))) rfl rfl rfl (J_move rfl (Opd.tmp rfl)) ?_
  refine RegL.pure (p := (pEq (.int .i64 (w64 ((w64 ((w64 ((w64 (x1 + x3)) + (w64 ((3 : Int) * x4)))) - (142218 : Int))) - margin_3))))) rfl rfl rfl (J_bin rfl (Opd.tmp rfl) (Opd.tmp rfl) B_sub) ?_
  refine RegL.pure (p := (pEq (.int .i64 (w64 ((w64 ((w64 ((w64 (x1 + x3)) + (w64 ((3 : Int) * x4)))) - (142218 : Int))) - margin_3))))) rfl rfl rfl (J_assign rfl (Opd.tmp rfl)) ?_
  refine RegL.nil ?_
  refine Ct.then_tr ?_
  refine Tr.weak (Γ' := [(9, (pEq (.int .i64 (w64 ((w64 ((w64 ((w64 (x1 + x3)) + (w64 ((3 : Int) * x4)))) - (142218 : Int))) - margin_3)))))]) ⟨rfl, trivial⟩ ?_
  refine Tr.seq ?_
  refine Tr.seq ?_
  refine Tr.region ?_
  refine RegL.pure (p := (pEq (.int .i64 (w64 ((w64 ((w64 ((w64 (x1 + x3)) + (w64 ((3 : Int) * x4)))) - (142218 : Int))) - margin_3))))) rfl rfl rfl (J_move rfl (Opd.tmp rfl)) ?_
  refine RegL.pure (p := (pEq (.bool (decide ((w64 ((w64 ((w64 ((w64 (x1 + x3)) + (w64 ((3 : Int) * x4)))) - (142218 : Int))) - margin_3)) < (0 : Int)))))) rfl rfl rfl (J_bin rfl (Opd.tmp rfl) Opd.con B_lss) ?_
  refine RegL.nil ?_
  refine Ct.then_tr ?_
  refine Tr.weak (Γ' := [(9, (pEq (.int .i64 (w64 ((w64 ((w64 ((w64 (x1 + x3)) + (w64 ((3 : Int) * x4)))) - (142218 : Int))) - margin_3))))), (25, (pEq (.bool (decide ((w64 ((w64 ((w64 ((w64 (x1 + x3)) + (w64 ((3 : Int) * x4)))) - (142218 : Int))) - margin_3)) < (0 : Int))))))]) ⟨rfl, rfl, trivial⟩ ?_
  refine Tr.cond (Opd.tmp rfl) (fun hc => ?_) (fun hc => ?_)
  · replace h := bif_t hc h
    refine Tr.seq ?_
    refine Tr.region ?_
    refine RegL.pure (p := (pEq (.int .i64 (0 : Int)))) rfl rfl rfl (J_assign rfl Opd.con) ?_
    refine RegL.nil ?_
    refine Ct.then_tr ?_
    refine Tr.weak (Γ' := [(8, (pEq (.int .i64 (0 : Int))))]) ⟨rfl, trivial⟩ ?_
    refine Tr.ret ?_
    refine Ct.then_ret ?_
    replace h := Option.some.inj h; subst h
    exact Ct.retH1 (Ωx := []) () rfl (RvOk.tmp rfl) rfl
  · replace h := bif_f hc h
    refine Tr.skip ?_
    refine Ct.then_tr ?_
    refine Tr.weak (Γ' := [(9, (pEq (.int .i64 (w64 ((w64 ((w64 ((w64 (x1 + x3)) + (w64 ((3 : Int) * x4)))) - (142218 : Int))) - margin_3)))))]) ⟨rfl, trivial⟩ ?_
    refine Tr.seq ?_
    refine Tr.region ?_
    refine RegL.pure (p := (pEq (.int .i64 (w64 ((w64 ((w64 ((w64 (x1 + x3)) + (w64 ((3 : Int) * x4)))) - (142218 : Int))) - margin_3))))) rfl rfl rfl (J_move rfl (Opd.tmp rfl)) ?_
    replace h := bind_some h; obtain ⟨x5, hx5, h⟩ := h
    refine RegL.pure (p := (pEq (.int .i64 x5))) rfl rfl rfl (J_call rfl Tryd.call38 (c_spec_l02Pow hx5) (Opds.cons (Opd.tmp rfl) Opds.nil)) ?_
    replace h := bind_some h; obtain ⟨x6, hx6, h⟩ := h
    refine RegL.pure (p := (pEq (.int .i64 x6))) rfl rfl rfl (J_call rfl Tryd.call37 (c_spec_l00Min hx6) (Opds.cons Opd.con (Opds.cons (Opd.tmp rfl) Opds.nil))) ?_
    refine RegL.pure (p := (pEq (.int .i64 x6))) rfl rfl rfl (J_assign rfl (Opd.tmp rfl)) ?_
    refine RegL.nil ?_
    refine Ct.then_tr ?_
    refine Tr.weak (Γ' := [(8, (pEq (.int .i64 x6)))]) ⟨rfl, trivial⟩ ?_
    refine Tr.ret ?_
    replace h := Option.some.inj h; subst h
    exact Ct.retH1 (Ωx := []) () rfl (RvOk.tmp rfl) rfl

theorem c_spec_MarginFor {f_0 : Int} {d_1 : Int} {climate_2 : Int} {outage_3 : Int} {r : (Int × Int)} (h : m_spec_MarginFor f_0 d_1 climate_2 outage_3 = some r) : CallJ Tryd.prog 9 [(pEq (.int .i64 f_0)), (pEq (.int .i64 d_1)), (pEq (.int .i64 climate_2)), (pEq (.int .i64 outage_3))] (pTup [(pEq (.int .i64 r.1)), (pEq (.int .i64 r.2))]) := by
  unfold m_spec_MarginFor at h
  refine CallJ.enterH Tryd.func9 rfl Tryd.ntmps9 rfl fun W I0 H => ?_
  refine Tr.weak (Γ' := [(0, (pEq (.int .i64 f_0))), (1, (pEq (.int .i64 d_1))), (2, (pEq (.int .i64 climate_2))), (3, (pEq (.int .i64 outage_3)))]) ⟨rfl, rfl, rfl, rfl, trivial⟩ ?_
  refine Tr.seq ?_
  refine Tr.region ?_
  refine RegL.pure (p := (pEq (.int .i64 (0 : Int)))) rfl rfl rfl (J_assign rfl Opd.con) ?_
  refine RegL.pure (p := (pEq (.int .i64 (0 : Int)))) rfl rfl rfl (J_assign rfl Opd.con) ?_
  refine RegL.nil ?_
  refine Ct.then_tr ?_
  refine Tr.weak (Γ' := [(0, (pEq (.int .i64 f_0))), (1, (pEq (.int .i64 d_1))), (2, (pEq (.int .i64 climate_2))), (3, (pEq (.int .i64 outage_3)))]) ⟨rfl, rfl, rfl, rfl, trivial⟩ ?_
  refine Tr.seq ?_
  refine Tr.seq ?_
  replace h := bind_some h; obtain ⟨x1, hx1, h⟩ := h
  refine Tr.cut (γ := Unit) (Γm := fun g => [(0, (pEq (.int .i64 f_0))), (1, (pEq (.int .i64 d_1))), (2, (pEq (.int .i64 climate_2))), (3, (pEq (.int .i64 outage_3))), (30, (pEq (.bool x1)))]) (Ωm := fun g => []) ?_ (fun g9 => ?_)
  · clear h
    have h := hx1
    clear hx1
    refine Tr.region ?_
    refine RegL.pure (p := (pEq (.int .i64 f_0))) rfl rfl rfl (J_move rfl (Opd.tmp rfl)) ?_
    replace h := bind_some h; obtain ⟨x2, hx2, h⟩ := h
    refine RegL.pure (p := (pEq (.bool x2))) rfl rfl rfl (J_call rfl Tryd.call15 (c_spec_l09Frequency hx2) (Opds.cons (Opd.tmp rfl) Opds.nil)) ?_
    refine RegL.pure (p := (pEq (.bool (!x2)))) rfl rfl rfl (J_not rfl (Opd.tmp rfl)) ?_
    refine RegL.pure (p := (pEq (.bool (!x2)))) rfl rfl rfl (J_move rfl (Opd.tmp rfl)) ?_
    rcases Bool.eq_false_or_eq_true (!x2) with hc3 | hc3
    · replace h := bif_t hc3 h
      refine RegL.skipG rfl rfl rfl hc3 rfl rfl ?_
      refine RegL.skipG rfl rfl rfl hc3 rfl rfl ?_
      refine RegL.skipG rfl rfl rfl hc3 rfl rfl ?_
      refine RegL.pure (p := (pEq (.bool true))) rfl rfl rfl (J_pick rfl (Opd.tmp rfl) (fun _ => Opd.con) (fun hf => absurd (hc3.symm.trans hf) (by decide))) ?_
      refine RegL.pure (p := (pEq (.bool true))) rfl rfl rfl (J_move rfl (Opd.tmp rfl)) ?_
      refine RegL.skipG rfl rfl rfl rfl rfl rfl ?_
      refine RegL.skipG rfl rfl rfl rfl rfl rfl ?_
      refine RegL.skipG rfl rfl rfl rfl rfl rfl ?_
      refine RegL.pure (p := (pEq (.bool true))) rfl rfl rfl (J_pick rfl (Opd.tmp rfl) (fun _ => Opd.con) (fun hf => absurd hf (by decide))) ?_
      refine RegL.pure (p := (pEq (.bool true))) rfl rfl rfl (J_move rfl (Opd.tmp rfl)) ?_
      refine RegL.skipG rfl rfl rfl rfl rfl rfl ?_
      refine RegL.skipG rfl rfl rfl rfl rfl rfl ?_
      refine RegL.skipG rfl rfl rfl rfl rfl rfl ?_
      refine RegL.pure (p := (pEq (.bool true))) rfl rfl rfl (J_pick rfl (Opd.tmp rfl) (fun _ => Opd.con) (fun hf => absurd hf (by decide))) ?_
      refine RegL.nil ?_
      replace h := Option.some.inj h; subst h
      exact Ct.mid () rfl ⟨rfl, rfl, rfl, rfl, rfl, trivial⟩
    · replace h := bif_f hc3 h
      refine RegL.pureG (p := (pEq (.int .i64 d_1))) rfl rfl rfl hc3 rfl rfl (J_move rfl (Opd.tmp rfl)) ?_
      replace h := bind_some h; obtain ⟨x4, hx4, h⟩ := h
      refine RegL.pureG (p := (pEq (.bool x4))) rfl rfl rfl hc3 rfl rfl (J_call rfl Tryd.call16 (c_spec_l09Distance hx4) (Opds.cons (Opd.tmp rfl) Opds.nil)) ?_
      refine RegL.pureG (p := (pEq (.bool (!x4)))) rfl rfl rfl hc3 rfl rfl (J_not rfl (Opd.tmp rfl)) ?_
      refine RegL.pure (p := (pEq (.bool (!x4)))) rfl rfl rfl (J_pick rfl (Opd.tmp rfl) (fun hf => absurd (hc3.symm.trans hf) (by decide)) (fun _ => (Opd.tmp rfl))) ?_
      refine RegL.pure (p := (pEq (.bool (!x4)))) rfl rfl rfl (J_move rfl (Opd.tmp rfl)) ?_
      rcases Bool.eq_false_or_eq_true (!x4) with hc5 | hc5
      · replace h := bif_t hc5 h
        refine RegL.skipG rfl rfl rfl hc5 rfl rfl ?_
        refine RegL.skipG rfl rfl rfl hc5 rfl rfl ?_
        refine RegL.skipG rfl rfl rfl hc5 rfl rfl ?_
        refine RegL.pure (p := (pEq (.bool true))) rfl rfl rfl (J_pick rfl (Opd.tmp rfl) (fun _ => Opd.con) (fun hf => absurd (hc5.symm.trans hf) (by decide))) ?_
        refine RegL.pure (p := (pEq (.bool true))) rfl rfl rfl (J_move rfl (Opd.tmp rfl)) ?_
        refine RegL.skipG rfl rfl rfl rfl rfl rfl ?_
        refine RegL.skipG rfl rfl rfl rfl rfl rfl ?_
        refine RegL.skipG rfl rfl rfl rfl rfl rfl ?_
        refine RegL.pure (p := (pEq (.bool true))) rfl rfl rfl (J_pick rfl (Opd.tmp rfl) (fun _ => Opd.con) (fun hf => absurd hf (by decide))) ?_
        refine RegL.nil ?_
        replace h := Option.some.inj h; subst h
        exact Ct.mid () rfl ⟨rfl, rfl, rfl, rfl, rfl, trivial⟩
      · replace h := bif_f hc5 h
        refine RegL.pureG (p := (pEq (.int .i64 climate_2))) rfl rfl rfl hc5 rfl rfl (J_move rfl (Opd.tmp rfl)) ?_
        replace h := bind_some h; obtain ⟨x6, hx6, h⟩ := h
        refine RegL.pureG (p := (pEq (.bool x6))) rfl rfl rfl hc5 rfl rfl (J_call rfl Tryd.call17 (c_spec_l13Climate hx6) (Opds.cons (Opd.tmp rfl) Opds.nil)) ?_
        refine RegL.pureG (p := (pEq (.bool (!x6)))) rfl rfl rfl hc5 rfl rfl (J_not rfl (Opd.tmp rfl)) ?_
        refine RegL.pure (p := (pEq (.bool (!x6)))) rfl rfl rfl (J_pick rfl (Opd.tmp rfl) (fun hf => absurd (hc5.symm.trans hf) (by decide)) (fun _ => (Opd.tmp rfl))) ?_
        refine RegL.pure (p := (pEq (.bool (!x6)))) rfl rfl rfl (J_move rfl (Opd.tmp rfl)) ?_
        rcases Bool.eq_false_or_eq_true (!x6) with hc7 | hc7
        · replace h := bif_t hc7 h
          refine RegL.skipG rfl rfl rfl hc7 rfl rfl ?_
          refine RegL.skipG rfl rfl rfl hc7 rfl rfl ?_
          refine RegL.skipG rfl rfl rfl hc7 rfl rfl ?_
          refine RegL.pure (p := (pEq (.bool true))) rfl rfl rfl (J_pick rfl (Opd.tmp rfl) (fun _ => Opd.con) (fun hf => absurd (hc7.symm.trans hf) (by decide))) ?_
          refine RegL.nil ?_
          replace h := Option.some.inj h; subst h
          exact Ct.mid () rfl ⟨rfl, rfl, rfl, rfl, rfl, trivial⟩
        · replace h := bif_f hc7 h
          refine RegL.pureG (p := (pEq (.int .i64 outage_3))) rfl rfl rfl hc7 rfl rfl (J_move rfl (Opd.tmp rfl)) ?_
          replace h := bind_some h; obtain ⟨x8, hx8, h⟩ := h
          refine RegL.pureG (p := (pEq (.bool x8))) rfl rfl rfl hc7 rfl rfl (J_call rfl Tryd.call23 (c_spec_l13Outage hx8) (Opds.cons (Opd.tmp rfl) Opds.nil)) ?_
          refine RegL.pureG (p := (pEq (.bool (!x8)))) rfl rfl rfl hc7 rfl rfl (J_not rfl (Opd.tmp rfl)) ?_
          refine RegL.pure (p := (pEq (.bool (!x8)))) rfl rfl rfl (J_pick rfl (Opd.tmp rfl) (fun hf => absurd (hc7.symm.trans hf) (by decide)) (fun _ => (Opd.tmp rfl))) ?_
          refine RegL.nil ?_
          replace h := Option.some.inj h; subst h
          exact Ct.mid () rfl ⟨rfl, rfl, rfl, rfl, rfl, trivial⟩
  · clear hx1
    refine Ct.then_tr ?_
    refine Tr.weak (Γ' := [(0, (pEq (.int .i64 f_0))), (1, (pEq (.int .i64 d_1))), (2, (pEq (.int .i64 climate_2))), (3, (pEq (.int .i64 outage_3))), (30, (pEq (.bool x1)))]) ⟨rfl, rfl, rfl, rfl, rfl, trivial⟩ ?_
    refine Tr.cond (Opd.tmp rfl) (fun hc => ?_) (fun hc => ?_)
    · replace h := bif_t hc h
      refine Tr.seq ?_
      refine Tr.region ?_
      refine RegL.pure (p := (pEq (.int .i64 (0 : Int)))) rfl rfl rfl (J_assign rfl Opd.con) ?_
      refine RegL.pure (p := (pEq (.int .i64 (2 : Int)))) rfl rfl rfl (J_assign rfl Opd.con) ?_
      refine RegL.nil ?_
      refine Ct.then_tr ?_
      refine Tr.weak (Γ' := [(8, (pEq (.int .i64 (0 : Int)))), (9, (pEq (.int .i64 (2 : Int))))]) ⟨rfl, rfl, trivial⟩ ?_
      refine Tr.ret ?_
      refine Ct.then_ret ?_
      replace h := Option.some.inj h; subst h
      exact Ct.retH2 (Ωx := []) () rfl (RvOk.tmp rfl) (RvOk.tmp rfl) rfl rfl
    · replace h := bif_f hc h
      refine Tr.skip ?_
      refine Ct.then_tr ?_
      refine Tr.weak (Γ' := [(0, (pEq (.int .i64 f_0))), (1, (pEq (.int .i64 d_1))), (2, (pEq (.int .i64 climate_2))), (3, (pEq (.int .i64 outage_3)))]) ⟨rfl, rfl, rfl, rfl, trivial⟩ ?_
      refine Tr.seq ?_
      refine Tr.region ?_
      refine RegL.pure (p := (pEq (.int .i64 (0 : Int)))) rfl rfl rfl (J_assign rfl Opd.con) ?_
      refine RegL.nil ?_
      refine Ct.then_tr ?_
      refine Tr.weak (Γ' := [(0, (pEq (.int .i64 f_0))), (1, (pEq (.int .i64 d_1))), (2, (pEq (.int .i64 climate_2))), (3, (pEq (.int .i64 outage_3))), (10, (pEq (.int .i64 (0 : Int))))]) ⟨rfl, rfl, rfl, rfl, rfl, trivial⟩ ?_
      refine Tr.seq ?_
      refine Tr.region ?_
      refine RegL.pure (p := (pEq (.int .i64 (100001 : Int)))) rfl rfl rfl (J_assign rfl Opd.con) ?_
      refine RegL.nil ?_
      refine Ct.then_tr ?_
      refine Tr.weak (Γ' := [(0, (pEq (.int .i64 f_0))), (1, (pEq (.int .i64 d_1))), (2, (pEq (.int .i64 climate_2))), (3, (pEq (.int .i64 outage_3))), (10, (pEq (.int .i64 (0 : Int)))), (11, (pEq (.int .i64 (100001 : Int))))]) ⟨rfl, rfl, rfl, rfl, rfl, rfl, trivial⟩ ?_
      refine Tr.seq ?_
      replace h := bind_some h; obtain ⟨x10, hx10, h⟩ := h
      refine Tr.cut (γ := Unit) (Γm := fun g => [(10, (pEq (.int .i64 x10)))]) (Ωm := fun g => []) ?_ (fun g18 => ?_)
      · clear h
        have h := hx10
        clear hx10
        refine Tr.block ?_
        refine Tr.weak (Γ' := [(0, (pEq (.int .i64 f_0))), (1, (pEq (.int .i64 d_1))), (2, (pEq (.int .i64 climate_2))), (3, (pEq (.int .i64 outage_3))), (10, (pEq (.int .i64 (0 : Int)))), (11, (pEq (.int .i64 (100001 : Int))))]) ⟨rfl, rfl, rfl, rfl, rfl, rfl, trivial⟩ ?_
        refine Tr.loop (γ := Unit) (σ := (Int × Int)) (Γσ := fun s g => [(0, (pEq (.int .i64 f_0))), (1, (pEq (.int .i64 d_1))), (2, (pEq (.int .i64 climate_2))), (3, (pEq (.int .i64 outage_3))), (10, (pEq (.int .i64 s.1))), (11, (pEq (.int .i64 s.2)))]) (Ωσ := fun s g => []) (g := ()) h ?_
        clear h
        rintro ⟨v12, v13⟩ g14 t h
        replace h : m_spec_MarginFor_B11 f_0 d_1 climate_2 outage_3 v12 v13 = some t := h
        unfold m_spec_MarginFor_B11 at h
        refine Tr.weakO (Γ' := [(0, (pEq (.int .i64 f_0))), (1, (pEq (.int .i64 d_1))), (2, (pEq (.int .i64 climate_2))), (3, (pEq (.int .i64 outage_3))), (10, (pEq (.int .i64 v12))), (11, (pEq (.int .i64 v13)))]) (Ω' := []) rfl ⟨rfl, rfl, rfl, rfl, rfl, rfl, trivial⟩ ?_
        refine Tr.seq ?_
        refine Tr.seq ?_
        refine Tr.region ?_
        refine RegL.pure (p := (pEq (.int .i64 v12))) rfl rfl rfl (J_move rfl (Opd.tmp rfl)) ?_
        refine RegL.pure (p := (pEq (.int .i64 v13))) rfl rfl rfl (J_move rfl (Opd.tmp rfl)) ?_
        refine RegL.pure (p := (pEq (.bool (decide (v12 < v13))))) rfl rfl rfl (J_bin rfl (Opd.tmp rfl) (Opd.tmp rfl) B_lss) ?_
        refine RegL.nil ?_
        refine Ct.then_tr ?_
        refine Tr.weak (Γ' := [(0, (pEq (.int .i64 f_0))), (1, (pEq (.int .i64 d_1))), (2, (pEq (.int .i64 climate_2))), (3, (pEq (.int .i64 outage_3))), (10, (pEq (.int .i64 v12))), (11, (pEq (.int .i64 v13))), (33, (pEq (.bool (decide (v12 < v13)))))]) ⟨rfl, rfl, rfl, rfl, rfl, rfl, rfl, trivial⟩ ?_
        refine Tr.cond (Opd.tmp rfl) (fun hc => ?_) (fun hc => ?_)
        · replace h := bif_t hc h
          refine Tr.skip ?_
          refine Ct.then_tr ?_
          refine Tr.weak (Γ' := [(0, (pEq (.int .i64 f_0))), (1, (pEq (.int .i64 d_1))), (2, (pEq (.int .i64 climate_2))), (3, (pEq (.int .i64 outage_3))), (10, (pEq (.int .i64 v12))), (11, (pEq (.int .i64 v13)))]) ⟨rfl, rfl, rfl, rfl, rfl, rfl, trivial⟩ ?_
          refine Tr.block ?_
          refine Tr.seq ?_
          refine Tr.region ?_
          refine RegL.pure (p := (pEq (.int .i64 v12))) rfl rfl rfl (J_move rfl (Opd.tmp rfl)) ?_
          refine RegL.pure (p := (pEq (.int .i64 v13))) rfl rfl rfl (J_move rfl (Opd.tmp rfl)) ?_
          refine RegL.pure (p := (pEq (.int .i64 (w64 (v12 + v13))))) rfl rfl rfl (J_bin rfl (Opd.tmp rfl) (Opd.tmp rfl) B_add) ?_
          refine RegL.pure (p := (pEq (.int .i64 (w64 ((w64 (v12 + v13)).tdiv (2 : Int)))))) rfl rfl rfl (J_bin rfl (Opd.tmp rfl) Opd.con (B_quo (n := (2 : Int)) (by decide))) ?_
          refine RegL.pure (p := (pEq (.int .i64 (w64 ((w64 (v12 + v13)).tdiv (2 : Int)))))) rfl rfl rfl (J_assign rfl (Opd.tmp rfl)) ?_
          refine RegL.nil ?_
          refine Ct.then_tr ?_
          refine Tr.weak (Γ' := [(0, (pEq (.int .i64 f_0))), (1, (pEq (.int .i64 d_1))), (2, (pEq (.int .i64 climate_2))), (3, (pEq (.int .i64 outage_3))), (10, (pEq (.int .i64 v12))), (11, (pEq (.int .i64 v13))), (12, (pEq (.int .i64 (w64 ((w64 (v12 + v13)).tdiv (2 : Int))))))]) ⟨rfl, rfl, rfl, rfl, rfl, rfl, rfl, trivial⟩ ?_
          refine Tr.seq ?_
          refine Tr.region ?_
          refine RegL.pure (p := (pEq (.int .i64 f_0))) rfl rfl rfl (J_move rfl (Opd.tmp rfl)) ?_
          refine RegL.pure (p := (pEq (.int .i64 d_1))) rfl rfl rfl (J_move rfl (Opd.tmp rfl)) ?_
          refine RegL.pure (p := (pEq (.int .i64 climate_2))) rfl rfl rfl (J_move rfl (Opd.tmp rfl)) ?_
          refine RegL.pure (p := (pEq (.int .i64 (w64 ((w64 (v12 + v13)).tdiv (2 : Int)))))) rfl rfl rfl (J_move rfl (Opd.tmp rfl)) ?_
          replace h := bind_some h; obtain ⟨x15, hx15, h⟩ := h
          refine RegL.pure (p := (pEq (.int .i64 x15))) rfl rfl rfl (J_call rfl Tryd.call19 (c_spec_l13Fade hx15) (Opds.cons (Opd.tmp rfl) (Opds.cons (Opd.tmp rfl) (Opds.cons (Opd.tmp rfl) (Opds.cons (Opd.tmp rfl) Opds.nil))))) ?_
          refine RegL.pure (p := (pEq (.int .i64 outage_3))) rfl rfl rfl (J_move rfl (Opd.tmp rfl)) ?_
          refine RegL.pure (p := (pEq (.bool (decide (x15 ≤ outage_3))))) rfl rfl rfl (J_bin rfl (Opd.tmp rfl) (Opd.tmp rfl) B_leq) ?_
          refine RegL.nil ?_
          refine Ct.then_tr ?_
          refine Tr.weak (Γ' := [(0, (pEq (.int .i64 f_0))), (1, (pEq (.int .i64 d_1))), (2, (pEq (.int .i64 climate_2))), (3, (pEq (.int .i64 outage_3))), (10, (pEq (.int .i64 v12))), (11, (pEq (.int .i64 v13))), (12, (pEq (.int .i64 (w64 ((w64 (v12 + v13)).tdiv (2 : Int)))))), (44, (pEq (.bool (decide (x15 ≤ outage_3)))))]) ⟨rfl, rfl, rfl, rfl, rfl, rfl, rfl, rfl, trivial⟩ ?_
          replace h := bind_some h; obtain ⟨x16, hx16, h⟩ := h
          refine Tr.cut (γ := Unit) (Γm := fun g => [(0, (pEq (.int .i64 f_0))), (1, (pEq (.int .i64 d_1))), (2, (pEq (.int .i64 climate_2))), (3, (pEq (.int .i64 outage_3))), (10, (pEq (.int .i64 x16.1))), (11, (pEq (.int .i64 x16.2)))]) (Ωm := fun g => []) ?_ (fun g17 => ?_)
          · clear h
            have h := hx16
            clear hx16
            refine Tr.cond (Opd.tmp rfl) (fun hc => ?_) (fun hc => ?_)
            · replace h := bif_t hc h
              refine Tr.region ?_
              refine RegL.pure (p := (pEq (.int .i64 (w64 ((w64 (v12 + v13)).tdiv (2 : Int)))))) rfl rfl rfl (J_move rfl (Opd.tmp rfl)) ?_
              refine RegL.pure (p := (pEq (.int .i64 (w64 ((w64 (v12 + v13)).tdiv (2 : Int)))))) rfl rfl rfl (J_assign rfl (Opd.tmp rfl)) ?_
              refine RegL.nil ?_
              replace h := Option.some.inj h; subst h
              exact Ct.mid () rfl ⟨rfl, rfl, rfl, rfl, rfl, rfl, trivial⟩
            · replace h := bif_f hc h
              refine Tr.region ?_
              refine RegL.pure (p := (pEq (.int .i64 (w64 ((w64 (v12 + v13)).tdiv (2 : Int)))))) rfl rfl rfl (J_move rfl (Opd.tmp rfl)) ?_
              refine RegL.pure (p := (pEq (.int .i64 (w64 ((w64 ((w64 (v12 + v13)).tdiv (2 : Int))) + (1 : Int)))))) rfl rfl rfl (J_bin rfl (Opd.tmp rfl) Opd.con B_add) ?_
              refine RegL.pure (p := (pEq (.int .i64 (w64 ((w64 ((w64 (v12 + v13)).tdiv (2 : Int))) + (1 : Int)))))) rfl rfl rfl (J_assign rfl (Opd.tmp rfl)) ?_
              refine RegL.nil ?_
              replace h := Option.some.inj h; subst h
              exact Ct.mid () rfl ⟨rfl, rfl, rfl, rfl, rfl, rfl, trivial⟩
          · clear hx16
            refine Ct.blk_normal ?_
            replace h := Option.some.inj h; subst h
            exact Ct.again () rfl ⟨rfl, rfl, rfl, rfl, rfl, rfl, trivial⟩
        · replace h := bif_f hc h
          refine Tr.exit ?_
          refine Ct.then_exit ?_
          replace h := map_some h; obtain ⟨r1, h, rfl⟩ := h
          refine Ct.out_exit fun e => ?_
          subst e
          refine Ct.blk_exit ?_
          replace h := Option.some.inj h; subst h
          exact Ct.mid () rfl ⟨rfl, trivial⟩
      · clear hx10
        refine Ct.then_tr ?_
        refine Tr.weak (Γ' := [(10, (pEq (.int .i64 x10)))]) ⟨rfl, trivial⟩ ?_
        refine Tr.seq ?_
        refine Tr.seq ?_
        refine Tr.region ?_
        refine RegL.pure (p := (pEq (.int .i64 x10))) rfl rfl rfl (J_move rfl (Opd.tmp rfl)) ?_
        refine RegL.pure (p := (pEq (.bool (decide ((100000 : Int) < x10))))) rfl rfl rfl (J_bin rfl (Opd.tmp rfl) Opd.con B_gtr) ?_
        refine RegL.nil ?_
        refine Ct.then_tr ?_
        refine Tr.weak (Γ' := [(10, (pEq (.int .i64 x10))), (49, (pEq (.bool (decide ((100000 : Int) < x10)))))]) ⟨rfl, rfl, trivial⟩ ?_
        refine Tr.cond (Opd.tmp rfl) (fun hc => ?_) (fun hc => ?_)
        · replace h := bif_t hc h
          refine Tr.seq ?_
          refine Tr.region ?_
          refine RegL.pure (p := (pEq (.int .i64 (0 : Int)))) rfl rfl rfl (J_assign rfl Opd.con) ?_
          refine RegL.pure (p := (pEq (.int .i64 (3 : Int)))) rfl rfl rfl (J_assign rfl Opd.con) ?_
          refine RegL.nil ?_
          refine Ct.then_tr ?_
          refine Tr.weak (Γ' := [(8, (pEq (.int .i64 (0 : Int)))), (9, (pEq (.int .i64 (3 : Int))))]) ⟨rfl, rfl, trivial⟩ ?_
          refine Tr.ret ?_
          refine Ct.then_ret ?_
          replace h := Option.some.inj h; subst h
          exact Ct.retH2 (Ωx := []) () rfl (RvOk.tmp rfl) (RvOk.tmp rfl) rfl rfl
        · replace h := bif_f hc h
          refine Tr.skip ?_
          refine Ct.then_tr ?_
          refine Tr.weak (Γ' := [(10, (pEq (.int .i64 x10)))]) ⟨rfl, trivial⟩ ?_
          refine Tr.seq ?_
          refine Tr.region ?_
          refine RegL.pure (p := (pEq (.int .i64 x10))) rfl rfl rfl (J_move rfl (Opd.tmp rfl)) ?_
          refine RegL.pure (p := (pEq (.int .i64 x10))) rfl rfl rfl (J_assign rfl (Opd.tmp rfl)) ?_
          refine RegL.pure (p := (pEq (.int .i64 (0 : Int)))) rfl rfl rfl (J_assign rfl Opd.con) ?_
          refine RegL.nil ?_
          refine Ct.then_tr ?_
          refine Tr.weak (Γ' := [(8, (pEq (.int .i64 x10))), (9, (pEq (.int .i64 (0 : Int))))]) ⟨rfl, rfl, trivial⟩ ?_
          refine Tr.ret ?_
          replace h := Option.some.inj h; subst h
          exact Ct.retH2 (Ωx := []) () rfl (RvOk.tmp rfl) (RvOk.tmp rfl) rfl rfl

theorem c_impl_within {n_0 : Int} {low_1 : Int} {high_2 : Int} {r : Bool} (h : m_impl_within n_0 low_1 high_2 = some r) : CallJ Tryd.prog 24 [(pEq (.int .i64 n_0)), (pEq (.int .i64 low_1)), (pEq (.int .i64 high_2))] (pEq (.bool r)) := by
  unfold m_impl_within at h
  refine CallJ.enterH Tryd.func24 rfl Tryd.ntmps24 rfl fun W I0 H => ?_
  refine Tr.weak (Γ' := [(0, (pEq (.int .i64 n_0))), (1, (pEq (.int .i64 low_1))), (2, (pEq (.int .i64 high_2)))]) ⟨rfl, rfl, rfl, trivial⟩ ?_
  refine Tr.seq ?_
  refine Tr.region ?_
  refine RegL.pure (p := (pEq (.bool false))) rfl rfl rfl (J_assign rfl Opd.con) ?_
  refine RegL.nil ?_
  refine Ct.then_tr ?_
  refine Tr.weak (Γ' := [(0, (pEq (.int .i64 n_0))), (1, (pEq (.int .i64 low_1))), (2, (pEq (.int .i64 high_2)))]) ⟨rfl, rfl, rfl, trivial⟩ ?_
  refine Tr.seq ?_
  replace h := bind_some h; obtain ⟨x1, hx1, h⟩ := h
  refine Tr.cut (γ := Unit) (Γm := fun g => [(6, (pEq (.bool x1)))]) (Ωm := fun g => []) ?_ (fun g3 => ?_)
  · clear h
    have h := hx1
    clear hx1
    refine Tr.region ?_
    refine RegL.pure (p := (pEq (.int .i64 n_0))) rfl rfl rfl (J_move rfl (Opd.tmp rfl)) ?_
    refine RegL.pure (p := (pEq (.int .i64 low_1))) rfl rfl rfl (J_move rfl (Opd.tmp rfl)) ?_
    refine RegL.pure (p := (pEq (.bool (decide (low_1 ≤ n_0))))) rfl rfl rfl (J_bin rfl (Opd.tmp rfl) (Opd.tmp rfl) B_geq) ?_
    refine RegL.pure (p := (pEq (.bool (decide (low_1 ≤ n_0))))) rfl rfl rfl (J_move rfl (Opd.tmp rfl)) ?_
    rcases Bool.eq_false_or_eq_true (decide (low_1 ≤ n_0)) with hc2 | hc2
    · replace h := bif_t hc2 h
      refine RegL.pureG (p := (pEq (.int .i64 n_0))) rfl rfl rfl hc2 rfl rfl (J_move rfl (Opd.tmp rfl)) ?_
      refine RegL.pureG (p := (pEq (.int .i64 high_2))) rfl rfl rfl hc2 rfl rfl (J_move rfl (Opd.tmp rfl)) ?_
      refine RegL.pureG (p := (pEq (.bool (decide (n_0 ≤ high_2))))) rfl rfl rfl hc2 rfl rfl (J_bin rfl (Opd.tmp rfl) (Opd.tmp rfl) B_leq) ?_
      refine RegL.pure (p := (pEq (.bool (decide (n_0 ≤ high_2))))) rfl rfl rfl (J_pick rfl (Opd.tmp rfl) (fun _ => (Opd.tmp rfl)) (fun hf => absurd (hc2.symm.trans hf) (by decide))) ?_
      refine RegL.pure (p := (pEq (.bool (decide (n_0 ≤ high_2))))) rfl rfl rfl (J_assign rfl (Opd.tmp rfl)) ?_
      refine RegL.nil ?_
      replace h := Option.some.inj h; subst h
      exact Ct.mid () rfl ⟨rfl, trivial⟩
    · replace h := bif_f hc2 h
      refine RegL.skipG rfl rfl rfl hc2 rfl rfl ?_
      refine RegL.skipG rfl rfl rfl hc2 rfl rfl ?_
      refine RegL.skipG rfl rfl rfl hc2 rfl rfl ?_
      refine RegL.pure (p := (pEq (.bool false))) rfl rfl rfl (J_pick rfl (Opd.tmp rfl) (fun hf => absurd (hc2.symm.trans hf) (by decide)) (fun _ => Opd.con)) ?_
      refine RegL.pure (p := (pEq (.bool false))) rfl rfl rfl (J_assign rfl (Opd.tmp rfl)) ?_
      refine RegL.nil ?_
      replace h := Option.some.inj h; subst h
      exact Ct.mid () rfl ⟨rfl, trivial⟩
  · clear hx1
    refine Ct.then_tr ?_
    refine Tr.weak (Γ' := [(6, (pEq (.bool x1)))]) ⟨rfl, trivial⟩ ?_
    refine Tr.ret ?_
    replace h := Option.some.inj h; subst h
    exact Ct.retH1 (Ωx := []) () rfl (RvOk.tmp rfl) rfl

theorem c_impl_frequencyOk {f_0 : Int} {r : Bool} (h : m_impl_frequencyOk f_0 = some r) : CallJ Tryd.prog 29 [(pEq (.int .i64 f_0))] (pEq (.bool r)) := by
  unfold m_impl_frequencyOk at h
  refine CallJ.enterH Tryd.func29 rfl Tryd.ntmps29 rfl fun W I0 H => ?_
  refine Tr.weak (Γ' := [(0, (pEq (.int .i64 f_0)))]) ⟨rfl, trivial⟩ ?_
  refine Tr.seq ?_
  refine Tr.region ?_
  refine RegL.pure (p := (pEq (.bool false))) rfl rfl rfl (J_assign rfl Opd.con) ?_
  refine RegL.nil ?_
  refine Ct.then_tr ?_
  refine Tr.weak (Γ' := [(0, (pEq (.int .i64 f_0)))]) ⟨rfl, trivial⟩ ?_
  refine Tr.seq ?_
  refine Tr.region ?_
  refine RegL.pure (p := (pEq (.int .i64 f_0))) rfl rfl rfl (J_move rfl (Opd.tmp rfl)) ?_
  replace h := bind_some h; obtain ⟨x1, hx1, h⟩ := h
  refine RegL.pure (p := (pEq (.bool x1))) rfl rfl rfl (J_call rfl Tryd.call24 (c_impl_within hx1) (Opds.cons (Opd.tmp rfl) (Opds.cons Opd.con (Opds.cons Opd.con Opds.nil)))) ?_
  refine RegL.pure (p := (pEq (.bool x1))) rfl rfl rfl (J_assign rfl (Opd.tmp rfl)) ?_
  refine RegL.nil ?_
  refine Ct.then_tr ?_
  refine Tr.weak (Γ' := [(2, (pEq (.bool x1)))]) ⟨rfl, trivial⟩ ?_
  refine Tr.ret ?_
  replace h := Option.some.inj h; subst h
  exact Ct.retH1 (Ωx := []) () rfl (RvOk.tmp rfl) rfl

theorem c_impl_distanceOk {d_0 : Int} {r : Bool} (h : m_impl_distanceOk d_0 = some r) : CallJ Tryd.prog 30 [(pEq (.int .i64 d_0))] (pEq (.bool r)) := by
  unfold m_impl_distanceOk at h
  refine CallJ.enterH Tryd.func30 rfl Tryd.ntmps30 rfl fun W I0 H => ?_
  refine Tr.weak (Γ' := [(0, (pEq (.int .i64 d_0)))]) ⟨rfl, trivial⟩ ?_
  refine Tr.seq ?_
  refine Tr.region ?_
  refine RegL.pure (p := (pEq (.bool false))) rfl rfl rfl (J_assign rfl Opd.con) ?_
  refine RegL.nil ?_
  refine Ct.then_tr ?_
  refine Tr.weak (Γ' := [(0, (pEq (.int .i64 d_0)))]) ⟨rfl, trivial⟩ ?_
  refine Tr.seq ?_
  refine Tr.region ?_
  refine RegL.pure (p := (pEq (.int .i64 d_0))) rfl rfl rfl (J_move rfl (Opd.tmp rfl)) ?_
  replace h := bind_some h; obtain ⟨x1, hx1, h⟩ := h
  refine RegL.pure (p := (pEq (.bool x1))) rfl rfl rfl (J_call rfl Tryd.call24 (c_impl_within hx1) (Opds.cons (Opd.tmp rfl) (Opds.cons Opd.con (Opds.cons Opd.con Opds.nil)))) ?_
  refine RegL.pure (p := (pEq (.bool x1))) rfl rfl rfl (J_assign rfl (Opd.tmp rfl)) ?_
  refine RegL.nil ?_
  refine Ct.then_tr ?_
  refine Tr.weak (Γ' := [(2, (pEq (.bool x1)))]) ⟨rfl, trivial⟩ ?_
  refine Tr.ret ?_
  replace h := Option.some.inj h; subst h
  exact Ct.retH1 (Ωx := []) () rfl (RvOk.tmp rfl) rfl

theorem c_impl_fadingOk {f_0 : Int} {d_1 : Int} {climate_2 : Int} {r : Bool} (h : m_impl_fadingOk f_0 d_1 climate_2 = some r) : CallJ Tryd.prog 20 [(pEq (.int .i64 f_0)), (pEq (.int .i64 d_1)), (pEq (.int .i64 climate_2))] (pEq (.bool r)) := by
  unfold m_impl_fadingOk at h
  refine CallJ.enterH Tryd.func20 rfl Tryd.ntmps20 rfl fun W I0 H => ?_
  refine Tr.weak (Γ' := [(0, (pEq (.int .i64 f_0))), (1, (pEq (.int .i64 d_1))), (2, (pEq (.int .i64 climate_2)))]) ⟨rfl, rfl, rfl, trivial⟩ ?_
  refine Tr.seq ?_
  refine Tr.region ?_
  refine RegL.pure (p := (pEq (.bool false))) rfl rfl rfl (J_assign rfl Opd.con) ?_
  refine RegL.nil ?_
  refine Ct.then_tr ?_
  refine Tr.weak (Γ' := [(0, (pEq (.int .i64 f_0))), (1, (pEq (.int .i64 d_1))), (2, (pEq (.int .i64 climate_2)))]) ⟨rfl, rfl, rfl, trivial⟩ ?_
  refine Tr.seq ?_
  replace h := bind_some h; obtain ⟨x1, hx1, h⟩ := h
  refine Tr.cut (γ := Unit) (Γm := fun g => [(6, (pEq (.bool x1)))]) (Ωm := fun g => []) ?_ (fun g7 => ?_)
  · clear h
    have h := hx1
    clear hx1
    refine Tr.region ?_
    refine RegL.pure (p := (pEq (.int .i64 f_0))) rfl rfl rfl (J_move rfl (Opd.tmp rfl)) ?_
    replace h := bind_some h; obtain ⟨x2, hx2, h⟩ := h
    refine RegL.pure (p := (pEq (.bool x2))) rfl rfl rfl (J_call rfl Tryd.call29 (c_impl_frequencyOk hx2) (Opds.cons (Opd.tmp rfl) Opds.nil)) ?_
    refine RegL.pure (p := (pEq (.bool x2))) rfl rfl rfl (J_move rfl (Opd.tmp rfl)) ?_
    rcases Bool.eq_false_or_eq_true x2 with hc3 | hc3
    · replace h := bif_t hc3 h
      refine RegL.pureG (p := (pEq (.int .i64 d_1))) rfl rfl rfl hc3 rfl rfl (J_move rfl (Opd.tmp rfl)) ?_
      replace h := bind_some h; obtain ⟨x4, hx4, h⟩ := h
      refine RegL.pureG (p := (pEq (.bool x4))) rfl rfl rfl hc3 rfl rfl (J_call rfl Tryd.call30 (c_impl_distanceOk hx4) (Opds.cons (Opd.tmp rfl) Opds.nil)) ?_
      refine RegL.pure (p := (pEq (.bool x4))) rfl rfl rfl (J_pick rfl (Opd.tmp rfl) (fun _ => (Opd.tmp rfl)) (fun hf => absurd (hc3.symm.trans hf) (by decide))) ?_
      refine RegL.pure (p := (pEq (.bool x4))) rfl rfl rfl (J_move rfl (Opd.tmp rfl)) ?_
      rcases Bool.eq_false_or_eq_true x4 with hc5 | hc5
      · replace h := bif_t hc5 h
        refine RegL.pureG (p := (pEq (.int .i64 climate_2))) rfl rfl rfl hc5 rfl rfl (J_move rfl (Opd.tmp rfl)) ?_
        replace h := bind_some h; obtain ⟨x6, hx6, h⟩ := h
        refine RegL.pureG (p := (pEq (.bool x6))) rfl rfl rfl hc5 rfl rfl (J_call rfl Tryd.call24 (c_impl_within hx6) (Opds.cons (Opd.tmp rfl) (Opds.cons Opd.con (Opds.cons Opd.con Opds.nil)))) ?_
        refine RegL.pure (p := (pEq (.bool x6))) rfl rfl rfl (J_pick rfl (Opd.tmp rfl) (fun _ => (Opd.tmp rfl)) (fun hf => absurd (hc5.symm.trans hf) (by decide))) ?_
        refine RegL.pure (p := (pEq (.bool x6))) rfl rfl rfl (J_assign rfl (Opd.tmp rfl)) ?_
        refine RegL.nil ?_
        replace h := Option.some.inj h; subst h
        exact Ct.mid () rfl ⟨rfl, trivial⟩
      · replace h := bif_f hc5 h
        refine RegL.skipG rfl rfl rfl hc5 rfl rfl ?_
        refine RegL.skipG rfl rfl rfl hc5 rfl rfl ?_
        refine RegL.pure (p := (pEq (.bool false))) rfl rfl rfl (J_pick rfl (Opd.tmp rfl) (fun hf => absurd (hc5.symm.trans hf) (by decide)) (fun _ => Opd.con)) ?_
        refine RegL.pure (p := (pEq (.bool false))) rfl rfl rfl (J_assign rfl (Opd.tmp rfl)) ?_
        refine RegL.nil ?_
        replace h := Option.some.inj h; subst h
        exact Ct.mid () rfl ⟨rfl, trivial⟩
    · replace h := bif_f hc3 h
      refine RegL.skipG rfl rfl rfl hc3 rfl rfl ?_
      refine RegL.skipG rfl rfl rfl hc3 rfl rfl ?_
      refine RegL.pure (p := (pEq (.bool false))) rfl rfl rfl (J_pick rfl (Opd.tmp rfl) (fun hf => absurd (hc3.symm.trans hf) (by decide)) (fun _ => Opd.con)) ?_
      refine RegL.pure (p := (pEq (.bool false))) rfl rfl rfl (J_move rfl (Opd.tmp rfl)) ?_
      refine RegL.skipG rfl rfl rfl rfl rfl rfl ?_
      refine RegL.skipG rfl rfl rfl rfl rfl rfl ?_
      refine RegL.pure (p := (pEq (.bool false))) rfl rfl rfl (J_pick rfl (Opd.tmp rfl) (fun hf => absurd hf (by decide)) (fun _ => Opd.con)) ?_
      refine RegL.pure (p := (pEq (.bool false))) rfl rfl rfl (J_assign rfl (Opd.tmp rfl)) ?_
      refine RegL.nil ?_
      replace h := Option.some.inj h; subst h
      exact Ct.mid () rfl ⟨rfl, trivial⟩
  · clear hx1
    refine Ct.then_tr ?_
    refine Tr.weak (Γ' := [(6, (pEq (.bool x1)))]) ⟨rfl, trivial⟩ ?_
    refine Tr.ret ?_
    replace h := Option.some.inj h; subst h
    exact Ct.retH1 (Ωx := []) () rfl (RvOk.tmp rfl) rfl

theorem c_strconv_FormatInt {n_0 b_1 : Int} {r : ByteArray} (h : m_strconv_FormatInt n_0 b_1 = some r) : CallJ Tryd.prog 61 [(pG (pTab 0 .u64 Lib.pow10Tab) (pEq (.int .i64 n_0))), (pEq (.int .i64 b_1))] (pEq (.string r)) :=
  fmt_contract (Go.Proofs.Any.strconv_FormatInt_10 lays61) (by kernel_rfl) h

theorem c_impl_Decimal {n_0 : Int} {r : ByteArray} (h : m_impl_Decimal n_0 = some r) : CallJ Tryd.prog 52 [(pG (pTab 0 .u64 Lib.pow10Tab) (pEq (.int .i64 n_0)))] (pEq (.string r)) := by
  unfold m_impl_Decimal at h
  refine CallJ.enterH Tryd.func52 rfl Tryd.ntmps52 rfl fun W I0 H => ?_
  refine Tr.tab (s := 0) (k := 99999) rfl ?_; refine Tr.weak (Γ' := [(0, (pEq (.int .i64 n_0))), (99999, (pTab 0 .u64 Lib.pow10Tab))]) ⟨rfl, rfl, trivial⟩ ?_
  refine Tr.seq ?_
  refine Tr.region ?_
  refine RegL.pure (p := (pEq (.string (ByteArray.mk #[])))) rfl rfl rfl (J_assign rfl Opd.con) ?_
  refine RegL.nil ?_
  refine Ct.then_tr ?_
  refine Tr.weak (Γ' := [(0, (pEq (.int .i64 n_0))), (99999, (pTab 0 .u64 Lib.pow10Tab))]) ⟨rfl, rfl, trivial⟩ ?_
  refine Tr.seq ?_
  refine Tr.region ?_
  refine RegL.pure (p := (pEq (.int .i64 n_0))) rfl rfl rfl (J_move rfl (Opd.tmp rfl)) ?_
  replace h := bind_some h; obtain ⟨x1, hx1, h⟩ := h
  refine RegL.pure (p := (pEq (.string x1))) rfl rfl rfl (J_call rfl Tryd.call61 (c_strconv_FormatInt hx1) (Opds.cons (Opd.tab (Opd.tmp rfl) 99999 rfl) (Opds.cons Opd.con Opds.nil))) ?_
  refine RegL.pure (p := (pEq (.string x1))) rfl rfl rfl (J_assign rfl (Opd.tmp rfl)) ?_
  refine RegL.nil ?_
  refine Ct.then_tr ?_
  refine Tr.weak (Γ' := [(2, (pEq (.string x1))), (99999, (pTab 0 .u64 Lib.pow10Tab))]) ⟨rfl, rfl, trivial⟩ ?_
  refine Tr.ret ?_
  replace h := Option.some.inj h; subst h
  exact Ct.retH1 (Ωx := []) () rfl (RvOk.tmp rfl) rfl

theorem c_impl_scaled_times {x_0 : GScaled} {y_1 : GScaled} {r : GScaled} (h : m_impl_scaled_times x_0 y_1 = some r) : CallJ Tryd.prog 53 [(pAgg (cGScaled x_0)), (pAgg (cGScaled y_1))] (pAgg (cGScaled r)) := by
  unfold m_impl_scaled_times at h
  refine CallJ.enterH Tryd.func53 rfl Tryd.ntmps53 rfl fun W I0 H => ?_
  refine Tr.weak (Γ' := [(0, (pAgg (cGScaled x_0))), (1, (pAgg (cGScaled y_1)))]) ⟨rfl, rfl, trivial⟩ ?_
  refine Tr.seq ?_
  refine Tr.region ?_
  refine RegL.pure (p := (pPtr (cGScaled x_0))) rfl rfl rfl (J_boxA rfl (Opd.tmp rfl)) ?_
  refine RegL.pure (p := (pPtr (cGScaled y_1))) rfl rfl rfl (J_boxA rfl (Opd.tmp rfl)) ?_
  refine RegL.step (γ := Nat) (p := fun b => pEq (.pointer (some ⟨b, 0, none⟩))) (Ω' := fun b => [oBlk b [(pEq (.int .i64 (0 : Int))), (pEq (.int .i64 (0 : Int)))]]) rfl rfl rfl (M_alloc rfl zero42) fun b1 => ?_
  refine RegL.nil ?_
  refine Ct.then_tr ?_
  refine Tr.weak (Γ' := [(2, (pPtr (cGScaled x_0))), (3, (pPtr (cGScaled y_1))), (4, (pEq (.pointer (some ⟨b1, 0, none⟩))))]) ⟨rfl, rfl, rfl, trivial⟩ ?_
  refine Tr.seq ?_
  refine Tr.region ?_
  refine RegL.pure (p := (pPtr ((cK .i64) x_0.number))) rfl rfl rfl (J_fieldAddr rfl Tryd.underlying42 rfl sz2 (by decide) (Opd.tmp rfl) rfl) ?_
  refine RegL.pure (p := (pEq (.int .i64 x_0.number))) rfl rfl rfl (J_load rfl Tryd.isAgg2 (Opd.tmp rfl)) ?_
  refine RegL.pure (p := (pPtr ((cK .i64) y_1.number))) rfl rfl rfl (J_fieldAddr rfl Tryd.underlying42 rfl sz2 (by decide) (Opd.tmp rfl) rfl) ?_
  refine RegL.pure (p := (pEq (.int .i64 y_1.number))) rfl rfl rfl (J_load rfl Tryd.isAgg2 (Opd.tmp rfl)) ?_
  refine RegL.pure (p := (pEq (.int .i64 (w64 (x_0.number * y_1.number))))) rfl rfl rfl (J_bin rfl (Opd.tmp rfl) (Opd.tmp rfl) B_mul) ?_
  refine RegL.pure (p := (pEq (.int .i64 (w64 ((w64 (x_0.number * y_1.number)).tdiv (100000000 : Int)))))) rfl rfl rfl (J_bin rfl (Opd.tmp rfl) Opd.con (B_quo (n := (100000000 : Int)) (by decide))) ?_
  refine RegL.pure (p := (pPtr ((cK .i64) x_0.exponent))) rfl rfl rfl (J_fieldAddr rfl Tryd.underlying42 rfl sz2 (by decide) (Opd.tmp rfl) rfl) ?_
  refine RegL.pure (p := (pEq (.int .i64 x_0.exponent))) rfl rfl rfl (J_load rfl Tryd.isAgg2 (Opd.tmp rfl)) ?_
  refine RegL.pure (p := (pPtr ((cK .i64) y_1.exponent))) rfl rfl rfl (J_fieldAddr rfl Tryd.underlying42 rfl sz2 (by decide) (Opd.tmp rfl) rfl) ?_
  refine RegL.pure (p := (pEq (.int .i64 y_1.exponent))) rfl rfl rfl (J_load rfl Tryd.isAgg2 (Opd.tmp rfl)) ?_
  refine RegL.pure (p := (pEq (.int .i64 (w64 (x_0.exponent + y_1.exponent))))) rfl rfl rfl (J_bin rfl (Opd.tmp rfl) (Opd.tmp rfl) B_add) ?_
  refine RegL.pure (p := (pAgg (cGScaled (GScaled.mk (w64 ((w64 (x_0.number * y_1.number)).tdiv (100000000 : Int))) (w64 (x_0.exponent + y_1.exponent)))))) rfl rfl rfl (J_build (qss := [(0, (cK .i64) (w64 ((w64 (x_0.number * y_1.number)).tdiv (100000000 : Int)))), (1, (cK .i64) (w64 (x_0.exponent + y_1.exponent)))]) rfl bl42 bz42o (Parts.cons (Part.one (Opd.tmp rfl) OneC.int) (Parts.cons (Part.one (Opd.tmp rfl) OneC.int) Parts.nil)) rfl) ?_
  refine RegL.step (γ := Nat) (p := fun b => pEq (.pointer (some ⟨b, 0, none⟩))) (Ω' := fun b => [oBlk b [(pEq (.int .i64 (0 : Int))), (pEq (.int .i64 (0 : Int)))], oBlk b1 [(pEq (.int .i64 (0 : Int))), (pEq (.int .i64 (0 : Int)))]]) rfl rfl rfl (M_alloc rfl zero42) fun b2 => ?_
  refine RegL.stepN (γ := Unit) (p := fun _ => pAny) (Ω' := fun _ => [oBlk b2 [(pEq (.int .i64 (GScaled.mk (w64 ((w64 (x_0.number * y_1.number)).tdiv (100000000 : Int))) (w64 (x_0.exponent + y_1.exponent))).number)), (pEq (.int .i64 (GScaled.mk (w64 ((w64 (x_0.number * y_1.number)).tdiv (100000000 : Int))) (w64 (x_0.exponent + y_1.exponent))).exponent))], oBlk b1 [(pEq (.int .i64 (0 : Int))), (pEq (.int .i64 (0 : Int)))]]) rfl rfl (M_storeA rfl sz42 (Opd.tmp rfl) (Opd.tmp rfl) (fun _ _ _ h => ones_of ((OneCs.cons OneC.int (OneCs.cons OneC.int OneCs.nil))) h) rfl rfl) fun g3 => ?_
  refine RegL.nil ?_
  refine Ct.then_tr ?_
  refine Tr.weak (Γ' := [(4, (pEq (.pointer (some ⟨b1, 0, none⟩)))), (5, (pEq (.pointer (some ⟨b2, 0, none⟩))))]) ⟨rfl, rfl, trivial⟩ ?_
  refine Tr.seq ?_
  refine Tr.seq ?_
  refine Tr.region ?_
  refine RegL.pure (p := (pEq (.pointer (some ⟨b2, 0, none⟩)))) rfl rfl rfl (J_fieldAddrE rfl Tryd.underlying42 rfl sz2 (by decide) (Opd.tmp rfl) rfl) ?_
  refine RegL.pureW (p := (pEq (.int .i64 (GScaled.mk (w64 ((w64 (x_0.number * y_1.number)).tdiv (100000000 : Int))) (w64 (x_0.exponent + y_1.exponent))).number))) rfl rfl rfl (W_load (i := 0) rfl Tryd.isAgg2 (Opd.tmp rfl) rfl rfl) ?_
  refine RegL.pure (p := (pEq (.bool (decide ((1000000000 : Int) ≤ (GScaled.mk (w64 ((w64 (x_0.number * y_1.number)).tdiv (100000000 : Int))) (w64 (x_0.exponent + y_1.exponent))).number))))) rfl rfl rfl (J_bin rfl (Opd.tmp rfl) Opd.con B_geq) ?_
  refine RegL.nil ?_
  refine Ct.then_tr ?_
  refine Tr.weak (Γ' := [(4, (pEq (.pointer (some ⟨b1, 0, none⟩)))), (5, (pEq (.pointer (some ⟨b2, 0, none⟩)))), (20, (pEq (.bool (decide ((1000000000 : Int) ≤ (GScaled.mk (w64 ((w64 (x_0.number * y_1.number)).tdiv (100000000 : Int))) (w64 (x_0.exponent + y_1.exponent))).number)))))]) ⟨rfl, rfl, rfl, trivial⟩ ?_
  replace h := bind_some h; obtain ⟨x4, hx4, h⟩ := h
  refine Tr.cut (γ := Unit) (Γm := fun g => [(4, (pEq (.pointer (some ⟨b1, 0, none⟩)))), (5, (pEq (.pointer (some ⟨b2, 0, none⟩))))]) (Ωm := fun g => [oBlk b2 [(pEq (.int .i64 x4.1)), (pEq (.int .i64 x4.2))], oBlk b1 [(pEq (.int .i64 (0 : Int))), (pEq (.int .i64 (0 : Int)))]]) ?_ (fun g7 => ?_)
  · clear h
    have h := hx4
    clear hx4
    refine Tr.cond (Opd.tmp rfl) (fun hc => ?_) (fun hc => ?_)
    · replace h := bif_t hc h
      refine Tr.seq ?_
      refine Tr.region ?_
      refine RegL.pure (p := (pEq (.pointer (some ⟨b2, 0, none⟩)))) rfl rfl rfl (J_fieldAddrE rfl Tryd.underlying42 rfl sz2 (by decide) (Opd.tmp rfl) rfl) ?_
      refine RegL.pureW (p := (pEq (.int .i64 (GScaled.mk (w64 ((w64 (x_0.number * y_1.number)).tdiv (100000000 : Int))) (w64 (x_0.exponent + y_1.exponent))).number))) rfl rfl rfl (W_load (i := 0) rfl Tryd.isAgg2 (Opd.tmp rfl) rfl rfl) ?_
      refine RegL.pure (p := (pEq (.int .i64 (w64 ((GScaled.mk (w64 ((w64 (x_0.number * y_1.number)).tdiv (100000000 : Int))) (w64 (x_0.exponent + y_1.exponent))).number.tdiv (10 : Int)))))) rfl rfl rfl (J_bin rfl (Opd.tmp rfl) Opd.con (B_quo (n := (10 : Int)) (by decide))) ?_
      refine RegL.pure (p := (pEq (.pointer (some ⟨b2, 0, none⟩)))) rfl rfl rfl (J_fieldAddrE rfl Tryd.underlying42 rfl sz2 (by decide) (Opd.tmp rfl) rfl) ?_
      refine RegL.stepN (γ := Unit) (p := fun _ => pAny) (Ω' := fun _ => [oBlk b2 [(pEq (.int .i64 (w64 ((GScaled.mk (w64 ((w64 (x_0.number * y_1.number)).tdiv (100000000 : Int))) (w64 (x_0.exponent + y_1.exponent))).number.tdiv (10 : Int))))), (pEq (.int .i64 (GScaled.mk (w64 ((w64 (x_0.number * y_1.number)).tdiv (100000000 : Int))) (w64 (x_0.exponent + y_1.exponent))).exponent))], oBlk b1 [(pEq (.int .i64 (0 : Int))), (pEq (.int .i64 (0 : Int)))]]) rfl rfl (M_store rfl sz2 (Opd.tmp rfl) (Opd.tmp rfl) OneC.int rfl rfl) fun g5 => ?_
      refine RegL.nil ?_
      refine Ct.then_tr ?_
      refine Tr.weak (Γ' := [(4, (pEq (.pointer (some ⟨b1, 0, none⟩)))), (5, (pEq (.pointer (some ⟨b2, 0, none⟩))))]) ⟨rfl, rfl, trivial⟩ ?_
      refine Tr.region ?_
      refine RegL.pure (p := (pEq (.pointer (some ⟨b2, 1, none⟩)))) rfl rfl rfl (J_fieldAddrE rfl Tryd.underlying42 rfl sz2 (by decide) (Opd.tmp rfl) rfl) ?_
      refine RegL.pureW (p := (pEq (.int .i64 (GScaled.mk (w64 ((w64 (x_0.number * y_1.number)).tdiv (100000000 : Int))) (w64 (x_0.exponent + y_1.exponent))).exponent))) rfl rfl rfl (W_load (i := 0) rfl Tryd.isAgg2 (Opd.tmp rfl) rfl rfl) ?_
      refine RegL.pure (p := (pEq (.int .i64 (w64 ((GScaled.mk (w64 ((w64 (x_0.number * y_1.number)).tdiv (100000000 : Int))) (w64 (x_0.exponent + y_1.exponent))).exponent + (1 : Int)))))) rfl rfl rfl (J_bin rfl (Opd.tmp rfl) Opd.con B_add) ?_
      refine RegL.pure (p := (pEq (.pointer (some ⟨b2, 1, none⟩)))) rfl rfl rfl (J_fieldAddrE rfl Tryd.underlying42 rfl sz2 (by decide) (Opd.tmp rfl) rfl) ?_
      refine RegL.stepN (γ := Unit) (p := fun _ => pAny) (Ω' := fun _ => [oBlk b2 [(pEq (.int .i64 (w64 ((GScaled.mk (w64 ((w64 (x_0.number * y_1.number)).tdiv (100000000 : Int))) (w64 (x_0.exponent + y_1.exponent))).number.tdiv (10 : Int))))), (pEq (.int .i64 (w64 ((GScaled.mk (w64 ((w64 (x_0.number * y_1.number)).tdiv (100000000 : Int))) (w64 (x_0.exponent + y_1.exponent))).exponent + (1 : Int)))))], oBlk b1 [(pEq (.int .i64 (0 : Int))), (pEq (.int .i64 (0 : Int)))]]) rfl rfl (M_store rfl sz2 (Opd.tmp rfl) (Opd.tmp rfl) OneC.int rfl rfl) fun g6 => ?_
      refine RegL.nil ?_
      replace h := Option.some.inj h; subst h
      exact Ct.mid () rfl ⟨rfl, rfl, trivial⟩
    · replace h := bif_f hc h
      refine Tr.skip ?_
      replace h := Option.some.inj h; subst h
      exact Ct.mid () rfl ⟨rfl, rfl, trivial⟩
  · clear hx4
    refine Ct.then_tr ?_
    refine Tr.weak (Γ' := [(4, (pEq (.pointer (some ⟨b1, 0, none⟩)))), (5, (pEq (.pointer (some ⟨b2, 0, none⟩))))]) ⟨rfl, rfl, trivial⟩ ?_
    refine Tr.seq ?_
    refine Tr.region ?_
    refine RegL.pureW (p := (pAgg (cGScaled (GScaled.mk x4.1 x4.2)))) rfl rfl rfl (W_loadA (i := 0) rfl Tryd.isAgg42 sz42 (Opd.tmp rfl) rfl rfl) ?_
    refine RegL.re (Ω2 := [oBlk b1 [(pEq (.int .i64 (0 : Int))), (pEq (.int .i64 (0 : Int)))], oBlk b2 [(pEq (.int .i64 x4.1)), (pEq (.int .i64 x4.2))]]) (fun h => SatO.pick 1 h) ?_
    refine RegL.stepN (γ := Unit) (p := fun _ => pAny) (Ω' := fun _ => [oBlk b1 [(pEq (.int .i64 (GScaled.mk x4.1 x4.2).number)), (pEq (.int .i64 (GScaled.mk x4.1 x4.2).exponent))], oBlk b2 [(pEq (.int .i64 x4.1)), (pEq (.int .i64 x4.2))]]) rfl rfl (M_storeA rfl sz42 (Opd.tmp rfl) (Opd.tmp rfl) (fun _ _ _ h => ones_of ((OneCs.cons OneC.int (OneCs.cons OneC.int OneCs.nil))) h) rfl rfl) fun g8 => ?_
    refine RegL.nil ?_
    refine Ct.then_tr ?_
    refine Tr.weak (Γ' := [(4, (pEq (.pointer (some ⟨b1, 0, none⟩))))]) ⟨rfl, trivial⟩ ?_
    refine Tr.ret ?_
    replace h := Option.some.inj h; subst h
    exact Ct.retH1 (Ωx := [oBlk b1 [(pEq (.int .i64 (GScaled.mk x4.1 x4.2).number)), (pEq (.int .i64 (GScaled.mk x4.1 x4.2).exponent))], oBlk b2 [(pEq (.int .i64 x4.1)), (pEq (.int .i64 x4.2))]]) () rfl (RvOk.cellA (i := 0) Tryd.isAgg42 sz42 rfl rfl rfl) rfl

theorem c_impl_LogDb {n_0 : Int} {r : Int} (h : m_impl_LogDb n_0 = some r) : CallJ Tryd.prog 39 [(pG (pTab 0 .u64 Lib.pow10Tab) (pEq (.int .i64 n_0)))] (pEq (.int .i64 r)) := by
  unfold m_impl_LogDb at h
  refine CallJ.enterH Tryd.func39 rfl Tryd.ntmps39 rfl fun W I0 H => ?_
  refine Tr.tab (s := 0) (k := 99999) rfl ?_; refine Tr.weak (Γ' := [(0, (pEq (.int .i64 n_0))), (99999, (pTab 0 .u64 Lib.pow10Tab))]) ⟨rfl, rfl, trivial⟩ ?_
  refine Tr.seq ?_
  refine Tr.region ?_
  refine RegL.pure (p := (pEq (.int .i64 (0 : Int)))) rfl rfl rfl (J_assign rfl Opd.con) ?_
  refine RegL.nil ?_
  refine Ct.then_tr ?_
  refine Tr.weak (Γ' := [(0, (pEq (.int .i64 n_0))), (99999, (pTab 0 .u64 Lib.pow10Tab))]) ⟨rfl, rfl, trivial⟩ ?_
  refine Tr.seq ?_
  refine Tr.seq ?_
  refine Tr.region ?_
  refine RegL.pure (p := (pEq (.int .i64 n_0))) rfl rfl rfl (J_move rfl (Opd.tmp rfl)) ?_
  refine RegL.pure (p := (pEq (.bool (decide (n_0 < (1 : Int)))))) rfl rfl rfl (J_bin rfl (Opd.tmp rfl) Opd.con B_lss) ?_
  refine RegL.nil ?_
  refine Ct.then_tr ?_
  refine Tr.weak (Γ' := [(0, (pEq (.int .i64 n_0))), (9, (pEq (.bool (decide (n_0 < (1 : Int)))))), (99999, (pTab 0 .u64 Lib.pow10Tab))]) ⟨rfl, rfl, rfl, trivial⟩ ?_
  refine Tr.cond (Opd.tmp rfl) (fun hc => ?_) (fun hc => ?_)
  · replace h := bif_t hc h
    refine Tr.seq ?_
    refine Tr.region ?_
    refine RegL.pure (p := (pEq (.int .i64 (0 : Int)))) rfl rfl rfl (J_assign rfl Opd.con) ?_
    refine RegL.nil ?_
    refine Ct.then_tr ?_
    refine Tr.weak (Γ' := [(2, (pEq (.int .i64 (0 : Int)))), (99999, (pTab 0 .u64 Lib.pow10Tab))]) ⟨rfl, rfl, trivial⟩ ?_
    refine Tr.ret ?_
    refine Ct.then_ret ?_
    replace h := Option.some.inj h; subst h
    exact Ct.retH1 (Ωx := []) () rfl (RvOk.tmp rfl) rfl
  · replace h := bif_f hc h
    refine Tr.skip ?_
    refine Ct.then_tr ?_
    refine Tr.weak (Γ' := [(0, (pEq (.int .i64 n_0))), (99999, (pTab 0 .u64 Lib.pow10Tab))]) ⟨rfl, rfl, trivial⟩ ?_
    refine Tr.seq ?_
    refine Tr.region ?_
    refine RegL.pure (p := (pEq (.int .i64 n_0))) rfl rfl rfl (J_move rfl (Opd.tmp rfl)) ?_
    replace h := bind_some h; obtain ⟨x1, hx1, h⟩ := h
    refine RegL.pure (p := (pEq (.string x1))) rfl rfl rfl (J_call rfl Tryd.call52 (c_impl_Decimal hx1) (Opds.cons (Opd.tab (Opd.tmp rfl) 99999 rfl) Opds.nil)) ?_
    refine RegL.pure (p := (pEq (.int .i64 (x1.size : Int)))) rfl rfl rfl (J_slen rfl Tryd.underlying9 (Opd.tmp rfl) rfl) ?_
    refine RegL.pure (p := (pEq (.int .i64 (w64 ((x1.size : Int) - (1 : Int)))))) rfl rfl rfl (J_bin rfl (Opd.tmp rfl) Opd.con B_sub) ?_
    refine RegL.pure (p := (pEq (.int .i64 (w64 ((x1.size : Int) - (1 : Int)))))) rfl rfl rfl (J_assign rfl (Opd.tmp rfl)) ?_
    refine RegL.nil ?_
    refine Ct.then_tr ?_
    refine Tr.weak (Γ' := [(0, (pEq (.int .i64 n_0))), (3, (pEq (.int .i64 (w64 ((x1.size : Int) - (1 : Int)))))), (99999, (pTab 0 .u64 Lib.pow10Tab))]) ⟨rfl, rfl, rfl, trivial⟩ ?_
    refine Tr.seq ?_
    refine Tr.region ?_
    refine RegL.pure (p := (pEq (.int .i64 n_0))) rfl rfl rfl (J_move rfl (Opd.tmp rfl)) ?_
    refine RegL.pure (p := (pEq (.int .i64 n_0))) rfl rfl rfl (J_assign rfl (Opd.tmp rfl)) ?_
    refine RegL.nil ?_
    refine Ct.then_tr ?_
    refine Tr.weak (Γ' := [(3, (pEq (.int .i64 (w64 ((x1.size : Int) - (1 : Int)))))), (4, (pEq (.int .i64 n_0))), (99999, (pTab 0 .u64 Lib.pow10Tab))]) ⟨rfl, rfl, rfl, trivial⟩ ?_
    refine Tr.seq ?_
    refine Tr.seq ?_
    refine Tr.region ?_
    refine RegL.pure (p := (pEq (.int .i64 (w64 ((x1.size : Int) - (1 : Int)))))) rfl rfl rfl (J_move rfl (Opd.tmp rfl)) ?_
    refine RegL.pure (p := (pEq (.int .i64 (w64 ((8 : Int) - (w64 ((x1.size : Int) - (1 : Int)))))))) rfl rfl rfl (J_bin rfl Opd.con (Opd.tmp rfl) B_sub) ?_
    refine RegL.pure (p := (pEq (.int .i64 (if (0 : Int) > (w64 ((8 : Int) - (w64 ((x1.size : Int) - (1 : Int))))) then (0 : Int) else (w64 ((8 : Int) - (w64 ((x1.size : Int) - (1 : Int))))))))) rfl rfl rfl (J_max2 rfl (Opd.tmp rfl) Opd.con) ?_
    refine RegL.pure (p := (pEq (.int .i64 (0 : Int)))) rfl rfl rfl (J_move rfl Opd.con) ?_
    refine RegL.nil ?_
    refine Ct.then_tr ?_
    refine Tr.weak (Γ' := [(3, (pEq (.int .i64 (w64 ((x1.size : Int) - (1 : Int)))))), (4, (pEq (.int .i64 n_0))), (17, (pEq (.int .i64 (if (0 : Int) > (w64 ((8 : Int) - (w64 ((x1.size : Int) - (1 : Int))))) then (0 : Int) else (w64 ((8 : Int) - (w64 ((x1.size : Int) - (1 : Int))))))))), (18, (pEq (.int .i64 (0 : Int)))), (99999, (pTab 0 .u64 Lib.pow10Tab))]) ⟨rfl, rfl, rfl, rfl, rfl, trivial⟩ ?_
    replace h := bind_some h; obtain ⟨x2, hx2, h⟩ := h
    refine Tr.cut (γ := Unit) (Γm := fun g => [(3, (pEq (.int .i64 (w64 ((x1.size : Int) - (1 : Int)))))), (4, (pEq (.int .i64 x2))), (99999, (pTab 0 .u64 Lib.pow10Tab))]) (Ωm := fun g => []) ?_ (fun g7 => ?_)
    · clear h
      have h := hx2
      clear hx2
      refine Tr.block ?_
      refine Tr.weak (Γ' := [(3, (pEq (.int .i64 (w64 ((x1.size : Int) - (1 : Int)))))), (4, (pEq (.int .i64 n_0))), (17, (pEq (.int .i64 (if (0 : Int) > (w64 ((8 : Int) - (w64 ((x1.size : Int) - (1 : Int))))) then (0 : Int) else (w64 ((8 : Int) - (w64 ((x1.size : Int) - (1 : Int))))))))), (18, (pEq (.int .i64 (0 : Int)))), (99999, (pTab 0 .u64 Lib.pow10Tab))]) ⟨rfl, rfl, rfl, rfl, rfl, trivial⟩ ?_
      refine Tr.loop (γ := Unit) (σ := (Int × Int)) (Γσ := fun s g => [(3, (pEq (.int .i64 (w64 ((x1.size : Int) - (1 : Int)))))), (4, (pEq (.int .i64 s.1))), (17, (pEq (.int .i64 (if (0 : Int) > (w64 ((8 : Int) - (w64 ((x1.size : Int) - (1 : Int))))) then (0 : Int) else (w64 ((8 : Int) - (w64 ((x1.size : Int) - (1 : Int))))))))), (18, (pEq (.int .i64 s.2))), (99999, (pTab 0 .u64 Lib.pow10Tab))]) (Ωσ := fun s g => []) (g := ()) h ?_
      clear h
      rintro ⟨v4, v5⟩ g6 t h
      replace h : m_impl_LogDb_B3 x1 v4 v5 = some t := h
      unfold m_impl_LogDb_B3 at h
      refine Tr.weakO (Γ' := [(3, (pEq (.int .i64 (w64 ((x1.size : Int) - (1 : Int)))))), (4, (pEq (.int .i64 v4))), (17, (pEq (.int .i64 (if (0 : Int) > (w64 ((8 : Int) - (w64 ((x1.size : Int) - (1 : Int))))) then (0 : Int) else (w64 ((8 : Int) - (w64 ((x1.size : Int) - (1 : Int))))))))), (18, (pEq (.int .i64 v5))), (99999, (pTab 0 .u64 Lib.pow10Tab))]) (Ω' := []) rfl ⟨rfl, rfl, rfl, rfl, rfl, trivial⟩ ?_
      refine Tr.seq ?_
      refine Tr.region ?_
      refine RegL.pure (p := (pEq (.bool (decide (v5 < (if (0 : Int) > (w64 ((8 : Int) - (w64 ((x1.size : Int) - (1 : Int))))) then (0 : Int) else (w64 ((8 : Int) - (w64 ((x1.size : Int) - (1 : Int))))))))))) rfl rfl rfl (J_bin rfl (Opd.tmp rfl) (Opd.tmp rfl) B_lss) ?_
      refine RegL.nil ?_
      refine Ct.then_tr ?_
      refine Tr.weak (Γ' := [(3, (pEq (.int .i64 (w64 ((x1.size : Int) - (1 : Int)))))), (4, (pEq (.int .i64 v4))), (17, (pEq (.int .i64 (if (0 : Int) > (w64 ((8 : Int) - (w64 ((x1.size : Int) - (1 : Int))))) then (0 : Int) else (w64 ((8 : Int) - (w64 ((x1.size : Int) - (1 : Int))))))))), (18, (pEq (.int .i64 v5))), (19, (pEq (.bool (decide (v5 < (if (0 : Int) > (w64 ((8 : Int) - (w64 ((x1.size : Int) - (1 : Int))))) then (0 : Int) else (w64 ((8 : Int) - (w64 ((x1.size : Int) - (1 : Int))))))))))), (99999, (pTab 0 .u64 Lib.pow10Tab))]) ⟨rfl, rfl, rfl, rfl, rfl, rfl, trivial⟩ ?_
      refine Tr.seq ?_
      refine Tr.cond (Opd.tmp rfl) (fun hc => ?_) (fun hc => ?_)
      · replace h := bif_t hc h
        refine Tr.skip ?_
        refine Ct.then_tr ?_
        refine Tr.weak (Γ' := [(3, (pEq (.int .i64 (w64 ((x1.size : Int) - (1 : Int)))))), (4, (pEq (.int .i64 v4))), (17, (pEq (.int .i64 (if (0 : Int) > (w64 ((8 : Int) - (w64 ((x1.size : Int) - (1 : Int))))) then (0 : Int) else (w64 ((8 : Int) - (w64 ((x1.size : Int) - (1 : Int))))))))), (18, (pEq (.int .i64 v5))), (99999, (pTab 0 .u64 Lib.pow10Tab))]) ⟨rfl, rfl, rfl, rfl, rfl, trivial⟩ ?_
        refine Tr.seq ?_
        refine Tr.block ?_
        refine Tr.region ?_
        refine RegL.pure (p := (pEq (.int .i64 v4))) rfl rfl rfl (J_move rfl (Opd.tmp rfl)) ?_
        refine RegL.pure (p := (pEq (.int .i64 (w64 (v4 * (10 : Int)))))) rfl rfl rfl (J_bin rfl (Opd.tmp rfl) Opd.con B_mul) ?_
        refine RegL.pure (p := (pEq (.int .i64 (w64 (v4 * (10 : Int)))))) rfl rfl rfl (J_assign rfl (Opd.tmp rfl)) ?_
        refine RegL.nil ?_
        refine Ct.blk_normal ?_
        refine Ct.then_tr ?_
        refine Tr.weak (Γ' := [(3, (pEq (.int .i64 (w64 ((x1.size : Int) - (1 : Int)))))), (4, (pEq (.int .i64 (w64 (v4 * (10 : Int)))))), (17, (pEq (.int .i64 (if (0 : Int) > (w64 ((8 : Int) - (w64 ((x1.size : Int) - (1 : Int))))) then (0 : Int) else (w64 ((8 : Int) - (w64 ((x1.size : Int) - (1 : Int))))))))), (18, (pEq (.int .i64 v5))), (99999, (pTab 0 .u64 Lib.pow10Tab))]) ⟨rfl, rfl, rfl, rfl, rfl, trivial⟩ ?_
        refine Tr.region ?_
        refine RegL.pure (p := (pEq (.int .i64 (w64 (v5 + (1 : Int)))))) rfl rfl rfl (J_bin rfl (Opd.tmp rfl) Opd.con B_add) ?_
        refine RegL.pure (p := (pEq (.int .i64 (w64 (v5 + (1 : Int)))))) rfl rfl rfl (J_move rfl (Opd.tmp rfl)) ?_
        refine RegL.nil ?_
        replace h := Option.some.inj h; subst h
        exact Ct.again () rfl ⟨rfl, rfl, rfl, rfl, rfl, trivial⟩
      · replace h := bif_f hc h
        refine Tr.exit ?_
        refine Ct.then_exit ?_
        replace h := map_some h; obtain ⟨r1, h, rfl⟩ := h
        refine Ct.out_exit fun e => ?_
        subst e
        refine Ct.blk_exit ?_
        replace h := Option.some.inj h; subst h
        exact Ct.mid () rfl ⟨rfl, rfl, rfl, trivial⟩
    · clear hx2
      refine Ct.then_tr ?_
      refine Tr.weak (Γ' := [(3, (pEq (.int .i64 (w64 ((x1.size : Int) - (1 : Int)))))), (4, (pEq (.int .i64 x2))), (99999, (pTab 0 .u64 Lib.pow10Tab))]) ⟨rfl, rfl, rfl, trivial⟩ ?_
      refine Tr.seq ?_
      refine Tr.seq ?_
      refine Tr.region ?_
      refine RegL.pure (p := (pEq (.int .i64 (w64 ((x1.size : Int) - (1 : Int)))))) rfl rfl rfl (J_move rfl (Opd.tmp rfl)) ?_
      refine RegL.pure (p := (pEq (.int .i64 (w64 ((w64 ((x1.size : Int) - (1 : Int))) - (8 : Int)))))) rfl rfl rfl (J_bin rfl (Opd.tmp rfl) Opd.con B_sub) ?_
      refine RegL.pure (p := (pEq (.int .i64 (if (0 : Int) > (w64 ((w64 ((x1.size : Int) - (1 : Int))) - (8 : Int))) then (0 : Int) else (w64 ((w64 ((x1.size : Int) - (1 : Int))) - (8 : Int))))))) rfl rfl rfl (J_max2 rfl (Opd.tmp rfl) Opd.con) ?_
      refine RegL.pure (p := (pEq (.int .i64 (0 : Int)))) rfl rfl rfl (J_move rfl Opd.con) ?_
      refine RegL.nil ?_
      refine Ct.then_tr ?_
      refine Tr.weak (Γ' := [(3, (pEq (.int .i64 (w64 ((x1.size : Int) - (1 : Int)))))), (4, (pEq (.int .i64 x2))), (25, (pEq (.int .i64 (if (0 : Int) > (w64 ((w64 ((x1.size : Int) - (1 : Int))) - (8 : Int))) then (0 : Int) else (w64 ((w64 ((x1.size : Int) - (1 : Int))) - (8 : Int))))))), (26, (pEq (.int .i64 (0 : Int)))), (99999, (pTab 0 .u64 Lib.pow10Tab))]) ⟨rfl, rfl, rfl, rfl, rfl, trivial⟩ ?_
      replace h := bind_some h; obtain ⟨x8, hx8, h⟩ := h
      refine Tr.cut (γ := Unit) (Γm := fun g => [(3, (pEq (.int .i64 (w64 ((x1.size : Int) - (1 : Int)))))), (4, (pEq (.int .i64 x8))), (99999, (pTab 0 .u64 Lib.pow10Tab))]) (Ωm := fun g => []) ?_ (fun g13 => ?_)
      · clear h
        have h := hx8
        clear hx8
        refine Tr.block ?_
        refine Tr.weak (Γ' := [(3, (pEq (.int .i64 (w64 ((x1.size : Int) - (1 : Int)))))), (4, (pEq (.int .i64 x2))), (25, (pEq (.int .i64 (if (0 : Int) > (w64 ((w64 ((x1.size : Int) - (1 : Int))) - (8 : Int))) then (0 : Int) else (w64 ((w64 ((x1.size : Int) - (1 : Int))) - (8 : Int))))))), (26, (pEq (.int .i64 (0 : Int)))), (99999, (pTab 0 .u64 Lib.pow10Tab))]) ⟨rfl, rfl, rfl, rfl, rfl, trivial⟩ ?_
        refine Tr.loop (γ := Unit) (σ := (Int × Int)) (Γσ := fun s g => [(3, (pEq (.int .i64 (w64 ((x1.size : Int) - (1 : Int)))))), (4, (pEq (.int .i64 s.1))), (25, (pEq (.int .i64 (if (0 : Int) > (w64 ((w64 ((x1.size : Int) - (1 : Int))) - (8 : Int))) then (0 : Int) else (w64 ((w64 ((x1.size : Int) - (1 : Int))) - (8 : Int))))))), (26, (pEq (.int .i64 s.2))), (99999, (pTab 0 .u64 Lib.pow10Tab))]) (Ωσ := fun s g => []) (g := ()) h ?_
        clear h
        rintro ⟨v10, v11⟩ g12 t h
        replace h : m_impl_LogDb_B9 x1 v10 v11 = some t := h
        unfold m_impl_LogDb_B9 at h
        refine Tr.weakO (Γ' := [(3, (pEq (.int .i64 (w64 ((x1.size : Int) - (1 : Int)))))), (4, (pEq (.int .i64 v10))), (25, (pEq (.int .i64 (if (0 : Int) > (w64 ((w64 ((x1.size : Int) - (1 : Int))) - (8 : Int))) then (0 : Int) else (w64 ((w64 ((x1.size : Int) - (1 : Int))) - (8 : Int))))))), (26, (pEq (.int .i64 v11))), (99999, (pTab 0 .u64 Lib.pow10Tab))]) (Ω' := []) rfl ⟨rfl, rfl, rfl, rfl, rfl, trivial⟩ ?_
        refine Tr.seq ?_
        refine Tr.region ?_
        refine RegL.pure (p := (pEq (.bool (decide (v11 < (if (0 : Int) > (w64 ((w64 ((x1.size : Int) - (1 : Int))) - (8 : Int))) then (0 : Int) else (w64 ((w64 ((x1.size : Int) - (1 : Int))) - (8 : Int))))))))) rfl rfl rfl (J_bin rfl (Opd.tmp rfl) (Opd.tmp rfl) B_lss) ?_
        refine RegL.nil ?_
        refine Ct.then_tr ?_
        refine Tr.weak (Γ' := [(3, (pEq (.int .i64 (w64 ((x1.size : Int) - (1 : Int)))))), (4, (pEq (.int .i64 v10))), (25, (pEq (.int .i64 (if (0 : Int) > (w64 ((w64 ((x1.size : Int) - (1 : Int))) - (8 : Int))) then (0 : Int) else (w64 ((w64 ((x1.size : Int) - (1 : Int))) - (8 : Int))))))), (26, (pEq (.int .i64 v11))), (27, (pEq (.bool (decide (v11 < (if (0 : Int) > (w64 ((w64 ((x1.size : Int) - (1 : Int))) - (8 : Int))) then (0 : Int) else (w64 ((w64 ((x1.size : Int) - (1 : Int))) - (8 : Int))))))))), (99999, (pTab 0 .u64 Lib.pow10Tab))]) ⟨rfl, rfl, rfl, rfl, rfl, rfl, trivial⟩ ?_
        refine Tr.seq ?_
        refine Tr.cond (Opd.tmp rfl) (fun hc => ?_) (fun hc => ?_)
        · replace h := bif_t hc h
          refine Tr.skip ?_
          refine Ct.then_tr ?_
          refine Tr.weak (Γ' := [(3, (pEq (.int .i64 (w64 ((x1.size : Int) - (1 : Int)))))), (4, (pEq (.int .i64 v10))), (25, (pEq (.int .i64 (if (0 : Int) > (w64 ((w64 ((x1.size : Int) - (1 : Int))) - (8 : Int))) then (0 : Int) else (w64 ((w64 ((x1.size : Int) - (1 : Int))) - (8 : Int))))))), (26, (pEq (.int .i64 v11))), (99999, (pTab 0 .u64 Lib.pow10Tab))]) ⟨rfl, rfl, rfl, rfl, rfl, trivial⟩ ?_
          refine Tr.seq ?_
          refine Tr.block ?_
          refine Tr.region ?_
          refine RegL.pure (p := (pEq (.int .i64 v10))) rfl rfl rfl (J_move rfl (Opd.tmp rfl)) ?_
          refine RegL.pure (p := (pEq (.int .i64 (w64 (v10.tdiv (10 : Int)))))) rfl rfl rfl (J_bin rfl (Opd.tmp rfl) Opd.con (B_quo (n := (10 : Int)) (by decide))) ?_
          refine RegL.pure (p := (pEq (.int .i64 (w64 (v10.tdiv (10 : Int)))))) rfl rfl rfl (J_assign rfl (Opd.tmp rfl)) ?_
          refine RegL.nil ?_
          refine Ct.blk_normal ?_
          refine Ct.then_tr ?_
          refine Tr.weak (Γ' := [(3, (pEq (.int .i64 (w64 ((x1.size : Int) - (1 : Int)))))), (4, (pEq (.int .i64 (w64 (v10.tdiv (10 : Int)))))), (25, (pEq (.int .i64 (if (0 : Int) > (w64 ((w64 ((x1.size : Int) - (1 : Int))) - (8 : Int))) then (0 : Int) else (w64 ((w64 ((x1.size : Int) - (1 : Int))) - (8 : Int))))))), (26, (pEq (.int .i64 v11))), (99999, (pTab 0 .u64 Lib.pow10Tab))]) ⟨rfl, rfl, rfl, rfl, rfl, trivial⟩ ?_
          refine Tr.region ?_
          refine RegL.pure (p := (pEq (.int .i64 (w64 (v11 + (1 : Int)))))) rfl rfl rfl (J_bin rfl (Opd.tmp rfl) Opd.con B_add) ?_
          refine RegL.pure (p := (pEq (.int .i64 (w64 (v11 + (1 : Int)))))) rfl rfl rfl (J_move rfl (Opd.tmp rfl)) ?_
          refine RegL.nil ?_
          replace h := Option.some.inj h; subst h
          exact Ct.again () rfl ⟨rfl, rfl, rfl, rfl, rfl, trivial⟩
        · replace h := bif_f hc h
          refine Tr.exit ?_
          refine Ct.then_exit ?_
          replace h := map_some h; obtain ⟨r1, h, rfl⟩ := h
          refine Ct.out_exit fun e => ?_
          subst e
          refine Ct.blk_exit ?_
          replace h := Option.some.inj h; subst h
          exact Ct.mid () rfl ⟨rfl, rfl, rfl, trivial⟩
      · clear hx8
        refine Ct.then_tr ?_
        refine Tr.weak (Γ' := [(3, (pEq (.int .i64 (w64 ((x1.size : Int) - (1 : Int)))))), (4, (pEq (.int .i64 x8))), (99999, (pTab 0 .u64 Lib.pow10Tab))]) ⟨rfl, rfl, rfl, trivial⟩ ?_
        refine Tr.seq ?_
        refine Tr.seq ?_
        refine Tr.region ?_
        refine RegL.pure (p := (pEq (.int .i64 (0 : Int)))) rfl rfl rfl (J_move rfl Opd.con) ?_
        refine RegL.nil ?_
        refine Ct.then_tr ?_
        refine Tr.weak (Γ' := [(3, (pEq (.int .i64 (w64 ((x1.size : Int) - (1 : Int)))))), (4, (pEq (.int .i64 x8))), (31, (pEq (.int .i64 (0 : Int)))), (99999, (pTab 0 .u64 Lib.pow10Tab))]) ⟨rfl, rfl, rfl, rfl, trivial⟩ ?_
        replace h := bind_some h; obtain ⟨x14, hx14, h⟩ := h
        refine Tr.cut (γ := Unit) (Γm := fun g => [(3, (pEq (.int .i64 x14))), (99999, (pTab 0 .u64 Lib.pow10Tab))]) (Ωm := fun g => []) ?_ (fun g31 => ?_)
        · clear h
          have h := hx14
          clear hx14
          refine Tr.block ?_
          refine Tr.weak (Γ' := [(3, (pEq (.int .i64 (w64 ((x1.size : Int) - (1 : Int)))))), (4, (pEq (.int .i64 x8))), (31, (pEq (.int .i64 (0 : Int)))), (99999, (pTab 0 .u64 Lib.pow10Tab))]) ⟨rfl, rfl, rfl, rfl, trivial⟩ ?_
          refine Tr.loop (γ := Unit) (σ := (Int × Int × Int)) (Γσ := fun s g => [(3, (pEq (.int .i64 s.1))), (4, (pEq (.int .i64 s.2.1))), (31, (pEq (.int .i64 s.2.2))), (99999, (pTab 0 .u64 Lib.pow10Tab))]) (Ωσ := fun s g => []) (g := ()) h ?_
          clear h
          rintro ⟨v16, v17, v18⟩ g19 t h
          replace h : m_impl_LogDb_B15  v16 v17 v18 = some t := h
          unfold m_impl_LogDb_B15 at h
          refine Tr.weakO (Γ' := [(3, (pEq (.int .i64 v16))), (4, (pEq (.int .i64 v17))), (31, (pEq (.int .i64 v18))), (99999, (pTab 0 .u64 Lib.pow10Tab))]) (Ω' := []) rfl ⟨rfl, rfl, rfl, rfl, trivial⟩ ?_
          refine Tr.seq ?_
          refine Tr.region ?_
          refine RegL.pure (p := (pEq (.bool (decide (v18 < (4 : Int)))))) rfl rfl rfl (J_bin rfl (Opd.tmp rfl) Opd.con B_lss) ?_
          refine RegL.nil ?_
          refine Ct.then_tr ?_
          refine Tr.weak (Γ' := [(3, (pEq (.int .i64 v16))), (4, (pEq (.int .i64 v17))), (31, (pEq (.int .i64 v18))), (32, (pEq (.bool (decide (v18 < (4 : Int)))))), (99999, (pTab 0 .u64 Lib.pow10Tab))]) ⟨rfl, rfl, rfl, rfl, rfl, trivial⟩ ?_
          refine Tr.seq ?_
          refine Tr.cond (Opd.tmp rfl) (fun hc => ?_) (fun hc => ?_)
          · replace h := bif_t hc h
            refine Tr.skip ?_
            refine Ct.then_tr ?_
            refine Tr.weak (Γ' := [(3, (pEq (.int .i64 v16))), (4, (pEq (.int .i64 v17))), (31, (pEq (.int .i64 v18))), (99999, (pTab 0 .u64 Lib.pow10Tab))]) ⟨rfl, rfl, rfl, rfl, trivial⟩ ?_
            refine Tr.seq ?_
            refine Tr.block ?_
            refine Tr.seq ?_
            refine Tr.region ?_
            refine RegL.pure (p := (pEq (.int .i64 v17))) rfl rfl rfl (J_move rfl (Opd.tmp rfl)) ?_
            refine RegL.pure (p := (pAgg (cGScaled (GScaled.mk v17 (0 : Int))))) rfl rfl rfl (J_build (qss := [(0, (cK .i64) v17), (1, (cK .i64) (0 : Int))]) rfl bl42 bz42 (Parts.cons (Part.one (Opd.tmp rfl) OneC.int) (Parts.cons (Part.one Opd.con OneC.int) Parts.nil)) rfl) ?_
            refine RegL.step (γ := Nat) (p := fun b => pEq (.pointer (some ⟨b, 0, none⟩))) (Ω' := fun b => [oBlk b [(pEq (.int .i64 (0 : Int))), (pEq (.int .i64 (0 : Int)))]]) rfl rfl rfl (M_alloc rfl zero42) fun b20 => ?_
            refine RegL.stepN (γ := Unit) (p := fun _ => pAny) (Ω' := fun _ => [oBlk b20 [(pEq (.int .i64 (GScaled.mk v17 (0 : Int)).number)), (pEq (.int .i64 (GScaled.mk v17 (0 : Int)).exponent))]]) rfl rfl (M_storeA rfl sz42 (Opd.tmp rfl) (Opd.tmp rfl) (fun _ _ _ h => ones_of ((OneCs.cons OneC.int (OneCs.cons OneC.int OneCs.nil))) h) rfl rfl) fun g21 => ?_
            refine RegL.freeze (s := 5) rfl ?_
            refine RegL.nil ?_
            refine Ct.then_tr ?_
            refine Tr.weak (Γ' := [(3, (pEq (.int .i64 v16))), (5, (pPtr (cGScaled (GScaled.mk v17 (0 : Int))))), (31, (pEq (.int .i64 v18))), (99999, (pTab 0 .u64 Lib.pow10Tab))]) ⟨rfl, rfl, rfl, rfl, trivial⟩ ?_
            refine Tr.seq ?_
            refine Tr.region ?_
            refine RegL.pure (p := (pAgg (cGScaled (GScaled.mk v17 (0 : Int))))) rfl rfl rfl (J_loadA rfl Tryd.isAgg42 sz42 (Opd.tmp rfl) rfl) ?_
            refine RegL.pure (p := (pAgg (cGScaled (GScaled.mk v17 (0 : Int))))) rfl rfl rfl (J_loadA rfl Tryd.isAgg42 sz42 (Opd.tmp rfl) rfl) ?_
            replace h := bind_some h; obtain ⟨x22, hx22, h⟩ := h
            refine RegL.pure (p := (pAgg (cGScaled x22))) rfl rfl rfl (J_call rfl Tryd.call53 (c_impl_scaled_times hx22) (Opds.cons (Opd.tmp rfl) (Opds.cons (Opd.tmp rfl) Opds.nil))) ?_
            refine RegL.step (γ := Nat) (p := fun b => pEq (.pointer (some ⟨b, 0, none⟩))) (Ω' := fun b => [oBlk b [(pEq (.int .i64 (0 : Int))), (pEq (.int .i64 (0 : Int)))]]) rfl rfl rfl (M_alloc rfl zero42) fun b23 => ?_
            refine RegL.stepN (γ := Unit) (p := fun _ => pAny) (Ω' := fun _ => [oBlk b23 [(pEq (.int .i64 x22.number)), (pEq (.int .i64 x22.exponent))]]) rfl rfl (M_storeA rfl sz42 (Opd.tmp rfl) (Opd.tmp rfl) (fun _ _ _ h => ones_of ((OneCs.cons OneC.int (OneCs.cons OneC.int OneCs.nil))) h) rfl rfl) fun g24 => ?_
            refine RegL.freeze (s := 6) rfl ?_
            refine RegL.nil ?_
            refine Ct.then_tr ?_
            refine Tr.weak (Γ' := [(3, (pEq (.int .i64 v16))), (5, (pPtr (cGScaled (GScaled.mk v17 (0 : Int))))), (6, (pPtr (cGScaled x22))), (31, (pEq (.int .i64 v18))), (99999, (pTab 0 .u64 Lib.pow10Tab))]) ⟨rfl, rfl, rfl, rfl, rfl, trivial⟩ ?_
            refine Tr.seq ?_
            replace h := bind_some h; obtain ⟨x25, hx25, h⟩ := h
            replace h := bind_some h; obtain ⟨x26, hx26, h⟩ := h
            refine Tr.drawD (n := 55) (m := 6) (es := [some (Ent.mk [(6, (pPtr (cGScaled x22)))] (pAgg (cGScaled x22)) true), some (Ent.mk [(6, (pPtr (cGScaled x22)))] (pAgg (cGScaled x22)) true), some (Ent.mk [(38, (pAgg (cGScaled x22))), (39, (pAgg (cGScaled x22)))] (pAgg (cGScaled x25)) true), some (Ent.mk [(5, (pPtr (cGScaled (GScaled.mk v17 (0 : Int)))))] (pAgg (cGScaled (GScaled.mk v17 (0 : Int)))) true), some (Ent.mk [(40, (pAgg (cGScaled x25))), (41, (pAgg (cGScaled (GScaled.mk v17 (0 : Int)))))] (pAgg (cGScaled x26)) true), none]) (rd := [[6], [6], [38, 39], [5], [40, 41], []]) rfl hmix (by kernel_rfl) fun hD => ?_
            refine RD.step hD (es := [some (Ent.mk [(6, (pPtr (cGScaled x22)))] (pAgg (cGScaled x22)) true), some (Ent.mk [(6, (pPtr (cGScaled x22)))] (pAgg (cGScaled x22)) true), some (Ent.mk [(38, (pAgg (cGScaled x22))), (39, (pAgg (cGScaled x22)))] (pAgg (cGScaled x25)) true), some (Ent.mk [(5, (pPtr (cGScaled (GScaled.mk v17 (0 : Int)))))] (pAgg (cGScaled (GScaled.mk v17 (0 : Int)))) true), some (Ent.mk [(40, (pAgg (cGScaled x25))), (41, (pAgg (cGScaled (GScaled.mk v17 (0 : Int)))))] (pAgg (cGScaled x26)) true), none]) (done := []) (mask := [true, true, true, true, true, false]) (γ := Nat) (p := fun b => pEq (.pointer (some ⟨b, 0, none⟩))) (Ω' := fun b => [oBlk b [(pEq (.int .i64 (0 : Int))), (pEq (.int .i64 (0 : Int)))]]) (es' := fun b27 => [some (Ent.mk [(6, (pPtr (cGScaled x22)))] (pAgg (cGScaled x22)) true), some (Ent.mk [(6, (pPtr (cGScaled x22)))] (pAgg (cGScaled x22)) true), some (Ent.mk [(38, (pAgg (cGScaled x22))), (39, (pAgg (cGScaled x22)))] (pAgg (cGScaled x25)) true), some (Ent.mk [(5, (pPtr (cGScaled (GScaled.mk v17 (0 : Int)))))] (pAgg (cGScaled (GScaled.mk v17 (0 : Int)))) true), some (Ent.mk [(40, (pAgg (cGScaled x25))), (41, (pAgg (cGScaled (GScaled.mk v17 (0 : Int)))))] (pAgg (cGScaled x26)) true), some (Ent.mk [] (pEq (.pointer (some ⟨b27, 0, none⟩))) true)]) (Γc := []) 5 rfl rfl rfl (by kernel_rfl) ⟨.inr ⟨(OpJ.w (J_loadA rfl Tryd.isAgg42 sz42 (Opd.tmp rfl) rfl)), ⟨rfl, trivial⟩, rfl, rfl⟩, ⟨.inr ⟨(OpJ.w (J_loadA rfl Tryd.isAgg42 sz42 (Opd.tmp rfl) rfl)), ⟨rfl, trivial⟩, rfl, rfl⟩, ⟨.inr ⟨(OpJ.w (J_call rfl Tryd.call53 (c_impl_scaled_times hx25) (Opds.cons (Opd.tmp rfl) (Opds.cons (Opd.tmp rfl) Opds.nil)))), ⟨rfl, rfl, trivial⟩, rfl, rfl⟩, ⟨.inr ⟨(OpJ.w (J_loadA rfl Tryd.isAgg42 sz42 (Opd.tmp rfl) rfl)), ⟨rfl, trivial⟩, rfl, rfl⟩, ⟨.inr ⟨(OpJ.w (J_call rfl Tryd.call53 (c_impl_scaled_times hx26) (Opds.cons (Opd.tmp rfl) (Opds.cons (Opd.tmp rfl) Opds.nil)))), ⟨rfl, rfl, trivial⟩, rfl, rfl⟩, trivial⟩⟩⟩⟩⟩ rfl rfl trivial (fun _ => M_alloc rfl zero42) (fun b27 => ⟨rfl, ⟨rfl, ⟨rfl, ⟨rfl, ⟨rfl, trivial⟩⟩⟩⟩⟩) (fun b27 => rfl) rfl fun b27 => ?_
            refine RD.fin (es := [Ent.mk [(6, (pPtr (cGScaled x22)))] (pAgg (cGScaled x22)) true, Ent.mk [(6, (pPtr (cGScaled x22)))] (pAgg (cGScaled x22)) true, Ent.mk [(38, (pAgg (cGScaled x22))), (39, (pAgg (cGScaled x22)))] (pAgg (cGScaled x25)) true, Ent.mk [(5, (pPtr (cGScaled (GScaled.mk v17 (0 : Int)))))] (pAgg (cGScaled (GScaled.mk v17 (0 : Int)))) true, Ent.mk [(40, (pAgg (cGScaled x25))), (41, (pAgg (cGScaled (GScaled.mk v17 (0 : Int)))))] (pAgg (cGScaled x26)) true, Ent.mk [] (pEq (.pointer (some ⟨b27, 0, none⟩))) true]) (done := [5]) hD ⟨.inr ⟨(OpJ.w (J_loadA rfl Tryd.isAgg42 sz42 (Opd.tmp rfl) rfl)), ⟨rfl, trivial⟩, rfl, rfl⟩, ⟨.inr ⟨(OpJ.w (J_loadA rfl Tryd.isAgg42 sz42 (Opd.tmp rfl) rfl)), ⟨rfl, trivial⟩, rfl, rfl⟩, ⟨.inr ⟨(OpJ.w (J_call rfl Tryd.call53 (c_impl_scaled_times hx25) (Opds.cons (Opd.tmp rfl) (Opds.cons (Opd.tmp rfl) Opds.nil)))), ⟨rfl, rfl, trivial⟩, rfl, rfl⟩, ⟨.inr ⟨(OpJ.w (J_loadA rfl Tryd.isAgg42 sz42 (Opd.tmp rfl) rfl)), ⟨rfl, trivial⟩, rfl, rfl⟩, ⟨.inr ⟨(OpJ.w (J_call rfl Tryd.call53 (c_impl_scaled_times hx26) (Opds.cons (Opd.tmp rfl) (Opds.cons (Opd.tmp rfl) Opds.nil)))), ⟨rfl, rfl, trivial⟩, rfl, rfl⟩, ⟨.inl rfl, trivial⟩⟩⟩⟩⟩⟩ ?_
            refine RegL.stepN (γ := Unit) (p := fun _ => pAny) (Ω' := fun _ => [oBlk b27 [(pEq (.int .i64 x26.number)), (pEq (.int .i64 x26.exponent))]]) rfl rfl (M_storeA rfl sz42 (Opd.tmp rfl) (Opd.tmp rfl) (fun _ _ _ h => ones_of ((OneCs.cons OneC.int (OneCs.cons OneC.int OneCs.nil))) h) rfl rfl) fun g28 => ?_
            refine RegL.nil ?_
            refine Ct.then_tr ?_
            refine Tr.weak (Γ' := [(3, (pEq (.int .i64 v16))), (7, (pEq (.pointer (some ⟨b27, 0, none⟩)))), (31, (pEq (.int .i64 v18))), (99999, (pTab 0 .u64 Lib.pow10Tab))]) ⟨rfl, rfl, rfl, rfl, trivial⟩ ?_
            refine Tr.seq ?_
            refine Tr.region ?_
            refine RegL.pureW (p := (pAgg (cGScaled x26))) rfl rfl rfl (W_loadA (i := 0) rfl Tryd.isAgg42 sz42 (Opd.tmp rfl) rfl rfl) ?_
            refine RegL.pureW (p := (pAgg (cGScaled x26))) rfl rfl rfl (W_loadA (i := 0) rfl Tryd.isAgg42 sz42 (Opd.tmp rfl) rfl rfl) ?_
            replace h := bind_some h; obtain ⟨x29, hx29, h⟩ := h
            refine RegL.pure (p := (pAgg (cGScaled x29))) rfl rfl rfl (J_call rfl Tryd.call53 (c_impl_scaled_times hx29) (Opds.cons (Opd.tmp rfl) (Opds.cons (Opd.tmp rfl) Opds.nil))) ?_
            refine RegL.stepN (γ := Unit) (p := fun _ => pAny) (Ω' := fun _ => [oBlk b27 [(pEq (.int .i64 x29.number)), (pEq (.int .i64 x29.exponent))]]) rfl rfl (M_storeA rfl sz42 (Opd.tmp rfl) (Opd.tmp rfl) (fun _ _ _ h => ones_of ((OneCs.cons OneC.int (OneCs.cons OneC.int OneCs.nil))) h) rfl rfl) fun g30 => ?_
            refine RegL.nil ?_
            refine Ct.then_tr ?_
            refine Tr.weak (Γ' := [(3, (pEq (.int .i64 v16))), (7, (pEq (.pointer (some ⟨b27, 0, none⟩)))), (31, (pEq (.int .i64 v18))), (99999, (pTab 0 .u64 Lib.pow10Tab))]) ⟨rfl, rfl, rfl, rfl, trivial⟩ ?_
            refine Tr.drawD (n := 55) (m := 8) (es := [some (Ent.mk [(7, (pEq (.pointer (some ⟨b27, 0, none⟩))))] (pEq (.pointer (some ⟨b27, 0, none⟩))) true), some (Ent.mk [(46, (pEq (.pointer (some ⟨b27, 0, none⟩))))] (pEq (.int .i64 x29.number)) true), some (Ent.mk [(3, (pEq (.int .i64 v16)))] (pEq (.int .i64 v16)) true), some (Ent.mk [(48, (pEq (.int .i64 v16)))] (pEq (.int .i64 (w64 ((10 : Int) * v16)))) true), some (Ent.mk [(7, (pEq (.pointer (some ⟨b27, 0, none⟩))))] (pEq (.pointer (some ⟨b27, 1, none⟩))) true), some (Ent.mk [(50, (pEq (.pointer (some ⟨b27, 1, none⟩))))] (pEq (.int .i64 x29.exponent)) true), some (Ent.mk [(49, (pEq (.int .i64 (w64 ((10 : Int) * v16))))), (51, (pEq (.int .i64 x29.exponent)))] (pEq (.int .i64 (w64 ((w64 ((10 : Int) * v16)) + x29.exponent)))) true), some (Ent.mk [(47, (pEq (.int .i64 x29.number)))] (pEq (.int .i64 x29.number)) true)]) (rd := [[7], [46], [3], [48], [7], [50], [49, 51], [47]]) rfl hmix (by kernel_rfl) fun hD => ?_
            refine RD.fin (es := [Ent.mk [(7, (pEq (.pointer (some ⟨b27, 0, none⟩))))] (pEq (.pointer (some ⟨b27, 0, none⟩))) true, Ent.mk [(46, (pEq (.pointer (some ⟨b27, 0, none⟩))))] (pEq (.int .i64 x29.number)) true, Ent.mk [(3, (pEq (.int .i64 v16)))] (pEq (.int .i64 v16)) true, Ent.mk [(48, (pEq (.int .i64 v16)))] (pEq (.int .i64 (w64 ((10 : Int) * v16)))) true, Ent.mk [(7, (pEq (.pointer (some ⟨b27, 0, none⟩))))] (pEq (.pointer (some ⟨b27, 1, none⟩))) true, Ent.mk [(50, (pEq (.pointer (some ⟨b27, 1, none⟩))))] (pEq (.int .i64 x29.exponent)) true, Ent.mk [(49, (pEq (.int .i64 (w64 ((10 : Int) * v16))))), (51, (pEq (.int .i64 x29.exponent)))] (pEq (.int .i64 (w64 ((w64 ((10 : Int) * v16)) + x29.exponent)))) true, Ent.mk [(47, (pEq (.int .i64 x29.number)))] (pEq (.int .i64 x29.number)) true]) (done := []) hD ⟨.inr ⟨(OpJ.w (J_fieldAddrE rfl Tryd.underlying42 rfl sz2 (by decide) (Opd.tmp rfl) rfl)), ⟨rfl, trivial⟩, rfl, rfl⟩, ⟨.inr ⟨(W_load (i := 0) rfl Tryd.isAgg2 (Opd.tmp rfl) rfl rfl), ⟨rfl, trivial⟩, rfl, rfl⟩, ⟨.inr ⟨(OpJ.w (J_move rfl (Opd.tmp rfl))), ⟨rfl, trivial⟩, rfl, rfl⟩, ⟨.inr ⟨(OpJ.w (J_bin rfl Opd.con (Opd.tmp rfl) B_mul)), ⟨rfl, trivial⟩, rfl, rfl⟩, ⟨.inr ⟨(OpJ.w (J_fieldAddrE rfl Tryd.underlying42 rfl sz2 (by decide) (Opd.tmp rfl) rfl)), ⟨rfl, trivial⟩, rfl, rfl⟩, ⟨.inr ⟨(W_load (i := 0) rfl Tryd.isAgg2 (Opd.tmp rfl) rfl rfl), ⟨rfl, trivial⟩, rfl, rfl⟩, ⟨.inr ⟨(OpJ.w (J_bin rfl (Opd.tmp rfl) (Opd.tmp rfl) B_add)), ⟨rfl, rfl, trivial⟩, rfl, rfl⟩, ⟨.inr ⟨(OpJ.w (J_assign rfl (Opd.tmp rfl))), ⟨rfl, trivial⟩, rfl, rfl⟩, trivial⟩⟩⟩⟩⟩⟩⟩⟩ ?_
            refine RegL.pure (p := (pEq (.int .i64 (w64 ((w64 ((10 : Int) * v16)) + x29.exponent))))) rfl rfl rfl (J_assign rfl (Opd.tmp rfl)) ?_
            refine RegL.nil ?_
            refine Ct.blk_normal ?_
            refine Ct.then_tr ?_
            refine Tr.weak (Γ' := [(3, (pEq (.int .i64 (w64 ((w64 ((10 : Int) * v16)) + x29.exponent))))), (4, (pEq (.int .i64 x29.number))), (31, (pEq (.int .i64 v18))), (99999, (pTab 0 .u64 Lib.pow10Tab))]) ⟨rfl, rfl, rfl, rfl, trivial⟩ ?_
            refine Tr.region ?_
            refine RegL.pure (p := (pEq (.int .i64 (w64 (v18 + (1 : Int)))))) rfl rfl rfl (J_bin rfl (Opd.tmp rfl) Opd.con B_add) ?_
            refine RegL.pure (p := (pEq (.int .i64 (w64 (v18 + (1 : Int)))))) rfl rfl rfl (J_move rfl (Opd.tmp rfl)) ?_
            refine RegL.nil ?_
            refine Ct.re (Ω2 := []) (fun h => SatO.rest h) ?_
            replace h := Option.some.inj h; subst h
            exact Ct.again () rfl ⟨rfl, rfl, rfl, rfl, trivial⟩
          · replace h := bif_f hc h
            refine Tr.exit ?_
            refine Ct.then_exit ?_
            replace h := map_some h; obtain ⟨r1, h, rfl⟩ := h
            refine Ct.out_exit fun e => ?_
            subst e
            refine Ct.blk_exit ?_
            replace h := Option.some.inj h; subst h
            exact Ct.mid () rfl ⟨rfl, rfl, trivial⟩
        · clear hx14
          refine Ct.then_tr ?_
          refine Tr.weak (Γ' := [(3, (pEq (.int .i64 x14))), (99999, (pTab 0 .u64 Lib.pow10Tab))]) ⟨rfl, rfl, trivial⟩ ?_
          refine Tr.seq ?_
          refine Tr.region ?_
          refine RegL.pure (p := (pEq (.int .i64 x14))) rfl rfl rfl (J_move rfl (Opd.tmp rfl)) ?_
          refine RegL.pure (p := (pEq (.int .i64 x14))) rfl rfl rfl (J_assign rfl (Opd.tmp rfl)) ?_
          refine RegL.nil ?_
          refine Ct.then_tr ?_
          refine Tr.weak (Γ' := [(2, (pEq (.int .i64 x14))), (99999, (pTab 0 .u64 Lib.pow10Tab))]) ⟨rfl, rfl, trivial⟩ ?_
          refine Tr.ret ?_
          replace h := Option.some.inj h; subst h
          exact Ct.retH1 (Ωx := []) () rfl (RvOk.tmp rfl) rfl

theorem c_impl_PowDb {v_0 : Int} {r : Int} (h : m_impl_PowDb v_0 = some r) : CallJ Tryd.prog 40 [(pG (pTab 0 .u64 Lib.pow10Tab) (pEq (.int .i64 v_0)))] (pEq (.int .i64 r)) := by
  unfold m_impl_PowDb at h
  refine CallJ.enterH Tryd.func40 rfl Tryd.ntmps40 rfl fun W I0 H => ?_
  refine Tr.tab (s := 0) (k := 99999) rfl ?_; refine Tr.weak (Γ' := [(0, (pEq (.int .i64 v_0))), (99999, (pTab 0 .u64 Lib.pow10Tab))]) ⟨rfl, rfl, trivial⟩ ?_
  refine Tr.seq ?_
  refine Tr.region ?_
  refine RegL.pure (p := (pEq (.int .i64 (0 : Int)))) rfl rfl rfl (J_assign rfl Opd.con) ?_
  refine RegL.nil ?_
  refine Ct.then_tr ?_
  refine Tr.weak (Γ' := [(0, (pEq (.int .i64 v_0))), (99999, (pTab 0 .u64 Lib.pow10Tab))]) ⟨rfl, rfl, trivial⟩ ?_
  refine Tr.seq ?_
  refine Tr.seq ?_
  refine Tr.region ?_
  refine RegL.pure (p := (pEq (.int .i64 v_0))) rfl rfl rfl (J_move rfl (Opd.tmp rfl)) ?_
  replace h := bind_some h; obtain ⟨x1, hx1, h⟩ := h
  refine RegL.pure (p := (pEq (.bool x1))) rfl rfl rfl (J_call rfl Tryd.call24 (c_impl_within hx1) (Opds.cons (Opd.tmp rfl) (Opds.cons Opd.con (Opds.cons Opd.con Opds.nil)))) ?_
  refine RegL.pure (p := (pEq (.bool (!x1)))) rfl rfl rfl (J_not rfl (Opd.tmp rfl)) ?_
  refine RegL.nil ?_
  refine Ct.then_tr ?_
  refine Tr.weak (Γ' := [(0, (pEq (.int .i64 v_0))), (8, (pEq (.bool (!x1)))), (99999, (pTab 0 .u64 Lib.pow10Tab))]) ⟨rfl, rfl, rfl, trivial⟩ ?_
  refine Tr.cond (Opd.tmp rfl) (fun hc => ?_) (fun hc => ?_)
  · replace h := bif_t hc h
    refine Tr.seq ?_
    refine Tr.region ?_
    refine RegL.pure (p := (pEq (.int .i64 (0 : Int)))) rfl rfl rfl (J_assign rfl Opd.con) ?_
    refine RegL.nil ?_
    refine Ct.then_tr ?_
    refine Tr.weak (Γ' := [(2, (pEq (.int .i64 (0 : Int)))), (99999, (pTab 0 .u64 Lib.pow10Tab))]) ⟨rfl, rfl, trivial⟩ ?_
    refine Tr.ret ?_
    refine Ct.then_ret ?_
    replace h := Option.some.inj h; subst h
    exact Ct.retH1 (Ωx := []) () rfl (RvOk.tmp rfl) rfl
  · replace h := bif_f hc h
    refine Tr.skip ?_
    refine Ct.then_tr ?_
    refine Tr.weak (Γ' := [(0, (pEq (.int .i64 v_0))), (99999, (pTab 0 .u64 Lib.pow10Tab))]) ⟨rfl, rfl, trivial⟩ ?_
    refine Tr.seq ?_
    refine Tr.region ?_
    refine RegL.pure (p := (pEq (.int .i64 (1 : Int)))) rfl rfl rfl (J_assign rfl Opd.con) ?_
    refine RegL.pure (p := (pEq (.int .i64 (1000000000000000000 : Int)))) rfl rfl rfl (J_assign rfl Opd.con) ?_
    refine RegL.nil ?_
    refine Ct.then_tr ?_
    refine Tr.weak (Γ' := [(0, (pEq (.int .i64 v_0))), (3, (pEq (.int .i64 (1 : Int)))), (4, (pEq (.int .i64 (1000000000000000000 : Int)))), (99999, (pTab 0 .u64 Lib.pow10Tab))]) ⟨rfl, rfl, rfl, rfl, trivial⟩ ?_
    refine Tr.seq ?_
    replace h := bind_some h; obtain ⟨x2, hx2, h⟩ := h
    refine Tr.cut (γ := Unit) (Γm := fun g => [(3, (pEq (.int .i64 x2))), (99999, (pTab 0 .u64 Lib.pow10Tab))]) (Ωm := fun g => []) ?_ (fun g10 => ?_)
    · clear h
      have h := hx2
      clear hx2
      refine Tr.block ?_
      refine Tr.weak (Γ' := [(0, (pEq (.int .i64 v_0))), (3, (pEq (.int .i64 (1 : Int)))), (4, (pEq (.int .i64 (1000000000000000000 : Int)))), (99999, (pTab 0 .u64 Lib.pow10Tab))]) ⟨rfl, rfl, rfl, rfl, trivial⟩ ?_
      refine Tr.loop (γ := Unit) (σ := (Int × Int)) (Γσ := fun s g => [(0, (pEq (.int .i64 v_0))), (3, (pEq (.int .i64 s.1))), (4, (pEq (.int .i64 s.2))), (99999, (pTab 0 .u64 Lib.pow10Tab))]) (Ωσ := fun s g => []) (g := ()) h ?_
      clear h
      rintro ⟨v4, v5⟩ g6 t h
      replace h : m_impl_PowDb_B3 v_0 v4 v5 = some t := h
      unfold m_impl_PowDb_B3 at h
      refine Tr.weakO (Γ' := [(0, (pEq (.int .i64 v_0))), (3, (pEq (.int .i64 v4))), (4, (pEq (.int .i64 v5))), (99999, (pTab 0 .u64 Lib.pow10Tab))]) (Ω' := []) rfl ⟨rfl, rfl, rfl, rfl, trivial⟩ ?_
      refine Tr.seq ?_
      refine Tr.seq ?_
      refine Tr.region ?_
      refine RegL.pure (p := (pEq (.int .i64 v4))) rfl rfl rfl (J_move rfl (Opd.tmp rfl)) ?_
      refine RegL.pure (p := (pEq (.int .i64 v5))) rfl rfl rfl (J_move rfl (Opd.tmp rfl)) ?_
      refine RegL.pure (p := (pEq (.bool (decide (v4 < v5))))) rfl rfl rfl (J_bin rfl (Opd.tmp rfl) (Opd.tmp rfl) B_lss) ?_
      refine RegL.nil ?_
      refine Ct.then_tr ?_
      refine Tr.weak (Γ' := [(0, (pEq (.int .i64 v_0))), (3, (pEq (.int .i64 v4))), (4, (pEq (.int .i64 v5))), (11, (pEq (.bool (decide (v4 < v5))))), (99999, (pTab 0 .u64 Lib.pow10Tab))]) ⟨rfl, rfl, rfl, rfl, rfl, trivial⟩ ?_
      refine Tr.cond (Opd.tmp rfl) (fun hc => ?_) (fun hc => ?_)
      · replace h := bif_t hc h
        refine Tr.skip ?_
        refine Ct.then_tr ?_
        refine Tr.weak (Γ' := [(0, (pEq (.int .i64 v_0))), (3, (pEq (.int .i64 v4))), (4, (pEq (.int .i64 v5))), (99999, (pTab 0 .u64 Lib.pow10Tab))]) ⟨rfl, rfl, rfl, rfl, trivial⟩ ?_
        refine Tr.block ?_
        refine Tr.seq ?_
        refine Tr.region ?_
        refine RegL.pure (p := (pEq (.int .i64 v4))) rfl rfl rfl (J_move rfl (Opd.tmp rfl)) ?_
        refine RegL.pure (p := (pEq (.int .i64 v5))) rfl rfl rfl (J_move rfl (Opd.tmp rfl)) ?_
        refine RegL.pure (p := (pEq (.int .i64 v4))) rfl rfl rfl (J_move rfl (Opd.tmp rfl)) ?_
        refine RegL.pure (p := (pEq (.int .i64 (w64 (v5 - v4))))) rfl rfl rfl (J_bin rfl (Opd.tmp rfl) (Opd.tmp rfl) B_sub) ?_
        refine RegL.pure (p := (pEq (.int .i64 (w64 ((w64 (v5 - v4)).tdiv (2 : Int)))))) rfl rfl rfl (J_bin rfl (Opd.tmp rfl) Opd.con (B_quo (n := (2 : Int)) (by decide))) ?_
        refine RegL.pure (p := (pEq (.int .i64 (w64 (v4 + (w64 ((w64 (v5 - v4)).tdiv (2 : Int)))))))) rfl rfl rfl (J_bin rfl (Opd.tmp rfl) (Opd.tmp rfl) B_add) ?_
        refine RegL.pure (p := (pEq (.int .i64 (w64 (v4 + (w64 ((w64 (v5 - v4)).tdiv (2 : Int)))))))) rfl rfl rfl (J_assign rfl (Opd.tmp rfl)) ?_
        refine RegL.nil ?_
        refine Ct.then_tr ?_
        refine Tr.weak (Γ' := [(0, (pEq (.int .i64 v_0))), (3, (pEq (.int .i64 v4))), (4, (pEq (.int .i64 v5))), (5, (pEq (.int .i64 (w64 (v4 + (w64 ((w64 (v5 - v4)).tdiv (2 : Int)))))))), (99999, (pTab 0 .u64 Lib.pow10Tab))]) ⟨rfl, rfl, rfl, rfl, rfl, trivial⟩ ?_
        refine Tr.seq ?_
        refine Tr.region ?_
        refine RegL.pure (p := (pEq (.int .i64 (w64 (v4 + (w64 ((w64 (v5 - v4)).tdiv (2 : Int)))))))) rfl rfl rfl (J_move rfl (Opd.tmp rfl)) ?_
        replace h := bind_some h; obtain ⟨x7, hx7, h⟩ := h
        refine RegL.pure (p := (pEq (.int .i64 x7))) rfl rfl rfl (J_call rfl Tryd.call39 (c_impl_LogDb hx7) (Opds.cons (Opd.tab (Opd.tmp rfl) 99999 rfl) Opds.nil)) ?_
        refine RegL.pure (p := (pEq (.int .i64 v_0))) rfl rfl rfl (J_move rfl (Opd.tmp rfl)) ?_
        refine RegL.pure (p := (pEq (.bool (decide (v_0 ≤ x7))))) rfl rfl rfl (J_bin rfl (Opd.tmp rfl) (Opd.tmp rfl) B_geq) ?_
        refine RegL.nil ?_
        refine Ct.then_tr ?_
        refine Tr.weak (Γ' := [(0, (pEq (.int .i64 v_0))), (3, (pEq (.int .i64 v4))), (4, (pEq (.int .i64 v5))), (5, (pEq (.int .i64 (w64 (v4 + (w64 ((w64 (v5 - v4)).tdiv (2 : Int)))))))), (21, (pEq (.bool (decide (v_0 ≤ x7))))), (99999, (pTab 0 .u64 Lib.pow10Tab))]) ⟨rfl, rfl, rfl, rfl, rfl, rfl, trivial⟩ ?_
        replace h := bind_some h; obtain ⟨x8, hx8, h⟩ := h
        refine Tr.cut (γ := Unit) (Γm := fun g => [(0, (pEq (.int .i64 v_0))), (3, (pEq (.int .i64 x8.1))), (4, (pEq (.int .i64 x8.2))), (99999, (pTab 0 .u64 Lib.pow10Tab))]) (Ωm := fun g => []) ?_ (fun g9 => ?_)
        · clear h
          have h := hx8
          clear hx8
          refine Tr.cond (Opd.tmp rfl) (fun hc => ?_) (fun hc => ?_)
          · replace h := bif_t hc h
            refine Tr.region ?_
            refine RegL.pure (p := (pEq (.int .i64 (w64 (v4 + (w64 ((w64 (v5 - v4)).tdiv (2 : Int)))))))) rfl rfl rfl (J_move rfl (Opd.tmp rfl)) ?_
            refine RegL.pure (p := (pEq (.int .i64 (w64 (v4 + (w64 ((w64 (v5 - v4)).tdiv (2 : Int)))))))) rfl rfl rfl (J_assign rfl (Opd.tmp rfl)) ?_
            refine RegL.nil ?_
            replace h := Option.some.inj h; subst h
            exact Ct.mid () rfl ⟨rfl, rfl, rfl, rfl, trivial⟩
          · replace h := bif_f hc h
            refine Tr.region ?_
            refine RegL.pure (p := (pEq (.int .i64 (w64 (v4 + (w64 ((w64 (v5 - v4)).tdiv (2 : Int)))))))) rfl rfl rfl (J_move rfl (Opd.tmp rfl)) ?_
            refine RegL.pure (p := (pEq (.int .i64 (w64 ((w64 (v4 + (w64 ((w64 (v5 - v4)).tdiv (2 : Int))))) + (1 : Int)))))) rfl rfl rfl (J_bin rfl (Opd.tmp rfl) Opd.con B_add) ?_
            refine RegL.pure (p := (pEq (.int .i64 (w64 ((w64 (v4 + (w64 ((w64 (v5 - v4)).tdiv (2 : Int))))) + (1 : Int)))))) rfl rfl rfl (J_assign rfl (Opd.tmp rfl)) ?_
            refine RegL.nil ?_
            replace h := Option.some.inj h; subst h
            exact Ct.mid () rfl ⟨rfl, rfl, rfl, rfl, trivial⟩
        · clear hx8
          refine Ct.blk_normal ?_
          replace h := Option.some.inj h; subst h
          exact Ct.again () rfl ⟨rfl, rfl, rfl, rfl, trivial⟩
      · replace h := bif_f hc h
        refine Tr.exit ?_
        refine Ct.then_exit ?_
        replace h := map_some h; obtain ⟨r1, h, rfl⟩ := h
        refine Ct.out_exit fun e => ?_
        subst e
        refine Ct.blk_exit ?_
        replace h := Option.some.inj h; subst h
        exact Ct.mid () rfl ⟨rfl, rfl, trivial⟩
    · clear hx2
      refine Ct.then_tr ?_
      refine Tr.weak (Γ' := [(3, (pEq (.int .i64 x2))), (99999, (pTab 0 .u64 Lib.pow10Tab))]) ⟨rfl, rfl, trivial⟩ ?_
      refine Tr.seq ?_
      refine Tr.region ?_
      refine RegL.pure (p := (pEq (.int .i64 x2))) rfl rfl rfl (J_move rfl (Opd.tmp rfl)) ?_
      refine RegL.pure (p := (pEq (.int .i64 x2))) rfl rfl rfl (J_assign rfl (Opd.tmp rfl)) ?_
      refine RegL.nil ?_
      refine Ct.then_tr ?_
      refine Tr.weak (Γ' := [(2, (pEq (.int .i64 x2))), (99999, (pTab 0 .u64 Lib.pow10Tab))]) ⟨rfl, rfl, trivial⟩ ?_
      refine Tr.ret ?_
      replace h := Option.some.inj h; subst h
      exact Ct.retH1 (Ωx := []) () rfl (RvOk.tmp rfl) rfl

theorem c_impl_outageOf {f_0 : Int} {d_1 : Int} {climate_2 : Int} {margin_3 : Int} {r : Int} (h : m_impl_outageOf f_0 d_1 climate_2 margin_3 = some r) : CallJ Tryd.prog 22 [(pG (pTab 0 .u64 Lib.pow10Tab) (pEq (.int .i64 f_0))), (pEq (.int .i64 d_1)), (pEq (.int .i64 climate_2)), (pEq (.int .i64 margin_3))] (pEq (.int .i64 r)) := by
  unfold m_impl_outageOf at h
  refine CallJ.enterH Tryd.func22 rfl Tryd.ntmps22 rfl fun W I0 H => ?_
  refine Tr.tab (s := 0) (k := 99999) rfl ?_; refine Tr.weak (Γ' := [(0, (pEq (.int .i64 f_0))), (1, (pEq (.int .i64 d_1))), (2, (pEq (.int .i64 climate_2))), (3, (pEq (.int .i64 margin_3))), (99999, (pTab 0 .u64 Lib.pow10Tab))]) ⟨rfl, rfl, rfl, rfl, rfl, trivial⟩ ?_
  refine Tr.seq ?_
  refine Tr.region ?_
  refine RegL.pure (p := (pEq (.int .i64 (0 : Int)))) rfl rfl rfl (J_assign rfl Opd.con) ?_
  refine RegL.nil ?_
  refine Ct.then_tr ?_
  refine Tr.weak (Γ' := [(0, (pEq (.int .i64 f_0))), (1, (pEq (.int .i64 d_1))), (2, (pEq (.int .i64 climate_2))), (3, (pEq (.int .i64 margin_3))), (99999, (pTab 0 .u64 Lib.pow10Tab))]) ⟨rfl, rfl, rfl, rfl, rfl, trivial⟩ ?_
  refine Tr.seq ?_
  refine Tr.region ?_
  refine RegL.pure (p := (pEq (.int .i64 climate_2))) rfl rfl rfl (J_move rfl (Opd.tmp rfl)) ?_
  replace h := bind_some h; obtain ⟨x1, hx1, h⟩ := h
  refine RegL.pure (p := (pEq (.int .i64 x1))) rfl rfl rfl (J_call rfl Tryd.call39 (c_impl_LogDb hx1) (Opds.cons (Opd.tab (Opd.tmp rfl) 99999 rfl) Opds.nil)) ?_
  refine RegL.pure (p := (pEq (.int .i64 f_0))) rfl rfl rfl (J_move rfl (Opd.tmp rfl)) ?_
  refine RegL.pure (p := (pEq (.int .i64 (w64 (f_0.tdiv (1000 : Int)))))) rfl rfl rfl (J_bin rfl (Opd.tmp rfl) Opd.con (B_quo (n := (1000 : Int)) (by decide))) ?_
  refine RegL.pure (p := (pEq (.int .i64 (if (1 : Int) > (w64 (f_0.tdiv (1000 : Int))) then (1 : Int) else (w64 (f_0.tdiv (1000 : Int))))))) rfl rfl rfl (J_max2 rfl (Opd.tmp rfl) Opd.con) ?_
  replace h := bind_some h; obtain ⟨x2, hx2, h⟩ := h
  refine RegL.pure (p := (pEq (.int .i64 x2))) rfl rfl rfl (J_call rfl Tryd.call39 (c_impl_LogDb hx2) (Opds.cons (Opd.tab (Opd.tmp rfl) 99999 rfl) Opds.nil)) ?_
  refine RegL.pure (p := (pEq (.int .i64 (w64 (x1 + x2))))) rfl rfl rfl (J_bin rfl (Opd.tmp rfl) (Opd.tmp rfl) B_add) ?_
  refine RegL.pure (p := (pEq (.int .i64 d_1))) rfl rfl rfl (J_move rfl (Opd.tmp rfl)) ?_
  replace h := bind_some h; obtain ⟨x3, hx3, h⟩ := h
  refine RegL.pure (p := (pEq (.int .i64 x3))) rfl rfl rfl (J_call rfl Tryd.call39 (c_impl_LogDb hx3) (Opds.cons (Opd.tab (Opd.tmp rfl) 99999 rfl) Opds.nil)) ?_
  refine RegL.pure (p := (pEq (.int .i64 (w64 ((3 : Int) * x3))))) rfl rfl rfl (J_bin rfl Opd.con (Opd.tmp rfl) B_mul) ?_
  refine RegL.pure (p := (pEq (.int .i64 (w64 ((w64 (x1 + x2)) + (w64 ((3 : Int) * x3))))))) rfl rfl rfl (J_bin rfl (Opd.tmp rfl) (Opd.tmp rfl) B_add) ?_
  refine RegL.pure (p := (pEq (.int .i64 (w64 ((w64 ((w64 (x1 + x2)) + (w64 ((3 : Int) * x3)))) - (142218 : Int)))))) rfl rfl rfl (J_bin rfl (Opd.tmp rfl) Opd.con B_sub) ?_
  refine RegL.pure (p := (pEq (.int .i64 margin_3))) rfl rfl rfl (J_move rfl (Opd.tmp rfl)) ?_
  refine RegL.pure (p := (pEq (.int .i64 (w64 ((w64 ((w64 ((w64 (x1 + x2)) + (w64 ((3 : Int) * x3)))) - (142218 : Int))) - margin_3))))) rfl rfl rfl (J_bin rfl (Opd.tmp rfl) (Opd.tmp rfl) B_sub) ?_
  refine RegL.pure (p := (pEq (.int .i64 (w64 ((w64 ((w64 ((w64 (x1 + x2)) + (w64 ((3 : Int) * x3)))) - (142218 : Int))) - margin_3))))) rfl rfl rfl (J_assign rfl (Opd.tmp rfl)) ?_
  refine RegL.nil ?_
  refine Ct.then_tr ?_
  refine Tr.weak (Γ' := [(9, (pEq (.int .i64 (w64 ((w64 ((w64 ((w64 (x1 + x2)) + (w64 ((3 : Int) * x3)))) - (142218 : Int))) - margin_3))))), (99999, (pTab 0 .u64 Lib.pow10Tab))]) ⟨rfl, rfl, trivial⟩ ?_
  refine Tr.seq ?_
  refine Tr.seq ?_
  refine Tr.region ?_
  refine RegL.pure (p := (pEq (.int .i64 (w64 ((w64 ((w64 ((w64 (x1 + x2)) + (w64 ((3 : Int) * x3)))) - (142218 : Int))) - margin_3))))) rfl rfl rfl (J_move rfl (Opd.tmp rfl)) ?_
  refine RegL.pure (p := (pEq (.bool (decide ((w64 ((w64 ((w64 ((w64 (x1 + x2)) + (w64 ((3 : Int) * x3)))) - (142218 : Int))) - margin_3)) < (0 : Int)))))) rfl rfl rfl (J_bin rfl (Opd.tmp rfl) Opd.con B_lss) ?_
  refine RegL.nil ?_
  refine Ct.then_tr ?_
  refine Tr.weak (Γ' := [(9, (pEq (.int .i64 (w64 ((w64 ((w64 ((w64 (x1 + x2)) + (w64 ((3 : Int) * x3)))) - (142218 : Int))) - margin_3))))), (25, (pEq (.bool (decide ((w64 ((w64 ((w64 ((w64 (x1 + x2)) + (w64 ((3 : Int) * x3)))) - (142218 : Int))) - margin_3)) < (0 : Int)))))), (99999, (pTab 0 .u64 Lib.pow10Tab))]) ⟨rfl, rfl, rfl, trivial⟩ ?_
  refine Tr.cond (Opd.tmp rfl) (fun hc => ?_) (fun hc => ?_)
  · replace h := bif_t hc h
    refine Tr.seq ?_
    refine Tr.region ?_
    refine RegL.pure (p := (pEq (.int .i64 (0 : Int)))) rfl rfl rfl (J_assign rfl Opd.con) ?_
    refine RegL.nil ?_
    refine Ct.then_tr ?_
    refine Tr.weak (Γ' := [(8, (pEq (.int .i64 (0 : Int)))), (99999, (pTab 0 .u64 Lib.pow10Tab))]) ⟨rfl, rfl, trivial⟩ ?_
    refine Tr.ret ?_
    refine Ct.then_ret ?_
    replace h := Option.some.inj h; subst h
    exact Ct.retH1 (Ωx := []) () rfl (RvOk.tmp rfl) rfl
  · replace h := bif_f hc h
    refine Tr.skip ?_
    refine Ct.then_tr ?_
    refine Tr.weak (Γ' := [(9, (pEq (.int .i64 (w64 ((w64 ((w64 ((w64 (x1 + x2)) + (w64 ((3 : Int) * x3)))) - (142218 : Int))) - margin_3))))), (99999, (pTab 0 .u64 Lib.pow10Tab))]) ⟨rfl, rfl, trivial⟩ ?_
    refine Tr.seq ?_
    refine Tr.region ?_
    refine RegL.pure (p := (pEq (.int .i64 (w64 ((w64 ((w64 ((w64 (x1 + x2)) + (w64 ((3 : Int) * x3)))) - (142218 : Int))) - margin_3))))) rfl rfl rfl (J_move rfl (Opd.tmp rfl)) ?_
    replace h := bind_some h; obtain ⟨x4, hx4, h⟩ := h
    refine RegL.pure (p := (pEq (.int .i64 x4))) rfl rfl rfl (J_call rfl Tryd.call40 (c_impl_PowDb hx4) (Opds.cons (Opd.tab (Opd.tmp rfl) 99999 rfl) Opds.nil)) ?_
    refine RegL.pure (p := (pEq (.int .i64 (if (1000000 : Int) < x4 then (1000000 : Int) else x4)))) rfl rfl rfl (J_min2 rfl (Opd.tmp rfl) Opd.con) ?_
    refine RegL.pure (p := (pEq (.int .i64 (if (1000000 : Int) < x4 then (1000000 : Int) else x4)))) rfl rfl rfl (J_assign rfl (Opd.tmp rfl)) ?_
    refine RegL.nil ?_
    refine Ct.then_tr ?_
    refine Tr.weak (Γ' := [(8, (pEq (.int .i64 (if (1000000 : Int) < x4 then (1000000 : Int) else x4)))), (99999, (pTab 0 .u64 Lib.pow10Tab))]) ⟨rfl, rfl, trivial⟩ ?_
    refine Tr.ret ?_
    replace h := Option.some.inj h; subst h
    exact Ct.retH1 (Ωx := []) () rfl (RvOk.tmp rfl) rfl

theorem c_impl_MarginFor_1 {margin_0 : Int} {a_1 : Int} {a_2 : Int} {a_3 : Int} {a_4 : Int} {r : Bool} (h : m_impl_MarginFor_1 margin_0 a_1 a_2 a_3 a_4 = some r) : CallJ Tryd.prog 27 [(pEq (.int .i64 margin_0)), (pG (pTab 0 .u64 Lib.pow10Tab) (pPtr ((cK .i64) a_1))), (pPtr ((cK .i64) a_2)), (pPtr ((cK .i64) a_3)), (pPtr ((cK .i64) a_4))] (pEq (.bool r)) := by
  unfold m_impl_MarginFor_1 at h
  refine CallJ.enterH Tryd.func27 rfl Tryd.ntmps27 rfl fun W I0 H => ?_
  refine Tr.tab (s := 1) (k := 99999) rfl ?_; refine Tr.weak (Γ' := [(0, (pEq (.int .i64 margin_0))), (1, (pPtr ((cK .i64) a_1))), (2, (pPtr ((cK .i64) a_2))), (3, (pPtr ((cK .i64) a_3))), (4, (pPtr ((cK .i64) a_4))), (99999, (pTab 0 .u64 Lib.pow10Tab))]) ⟨rfl, rfl, rfl, rfl, rfl, rfl, trivial⟩ ?_
  refine Tr.seq ?_
  refine Tr.region ?_
  refine RegL.pure (p := (pEq (.bool false))) rfl rfl rfl (J_assign rfl Opd.con) ?_
  refine RegL.nil ?_
  refine Ct.then_tr ?_
  refine Tr.weak (Γ' := [(0, (pEq (.int .i64 margin_0))), (1, (pPtr ((cK .i64) a_1))), (2, (pPtr ((cK .i64) a_2))), (3, (pPtr ((cK .i64) a_3))), (4, (pPtr ((cK .i64) a_4))), (99999, (pTab 0 .u64 Lib.pow10Tab))]) ⟨rfl, rfl, rfl, rfl, rfl, rfl, trivial⟩ ?_
  refine Tr.seq ?_
  replace h := bind_some h; obtain ⟨x1, hx1, h⟩ := h
  refine Tr.drawD (n := 14) (m := 7) (es := [some (Ent.mk [(1, (pPtr ((cK .i64) a_1)))] (pEq (.int .i64 a_1)) true), some (Ent.mk [(2, (pPtr ((cK .i64) a_2)))] (pEq (.int .i64 a_2)) true), some (Ent.mk [(3, (pPtr ((cK .i64) a_3)))] (pEq (.int .i64 a_3)) true), some (Ent.mk [(0, (pEq (.int .i64 margin_0)))] (pEq (.int .i64 margin_0)) true), some (Ent.mk [(7, (pEq (.int .i64 a_1))), (8, (pEq (.int .i64 a_2))), (9, (pEq (.int .i64 a_3))), (10, (pEq (.int .i64 margin_0))), (99999, (pTab 0 .u64 Lib.pow10Tab))] (pEq (.int .i64 x1)) true), some (Ent.mk [(4, (pPtr ((cK .i64) a_4)))] (pEq (.int .i64 a_4)) true), some (Ent.mk [(11, (pEq (.int .i64 x1))), (12, (pEq (.int .i64 a_4)))] (pEq (.bool (decide (x1 ≤ a_4)))) true)]) (rd := [[1], [2], [3], [0], [7, 8, 9, 10, 99999], [4], [11, 12]]) rfl hmix (by kernel_rfl) fun hD => ?_
  refine RD.fin (es := [Ent.mk [(1, (pPtr ((cK .i64) a_1)))] (pEq (.int .i64 a_1)) true, Ent.mk [(2, (pPtr ((cK .i64) a_2)))] (pEq (.int .i64 a_2)) true, Ent.mk [(3, (pPtr ((cK .i64) a_3)))] (pEq (.int .i64 a_3)) true, Ent.mk [(0, (pEq (.int .i64 margin_0)))] (pEq (.int .i64 margin_0)) true, Ent.mk [(7, (pEq (.int .i64 a_1))), (8, (pEq (.int .i64 a_2))), (9, (pEq (.int .i64 a_3))), (10, (pEq (.int .i64 margin_0))), (99999, (pTab 0 .u64 Lib.pow10Tab))] (pEq (.int .i64 x1)) true, Ent.mk [(4, (pPtr ((cK .i64) a_4)))] (pEq (.int .i64 a_4)) true, Ent.mk [(11, (pEq (.int .i64 x1))), (12, (pEq (.int .i64 a_4)))] (pEq (.bool (decide (x1 ≤ a_4)))) true]) (done := []) hD ⟨.inr ⟨(OpJ.w (J_load rfl Tryd.isAgg2 (Opd.tmp rfl))), ⟨rfl, trivial⟩, rfl, rfl⟩, ⟨.inr ⟨(OpJ.w (J_load rfl Tryd.isAgg2 (Opd.tmp rfl))), ⟨rfl, trivial⟩, rfl, rfl⟩, ⟨.inr ⟨(OpJ.w (J_load rfl Tryd.isAgg2 (Opd.tmp rfl))), ⟨rfl, trivial⟩, rfl, rfl⟩, ⟨.inr ⟨(OpJ.w (J_move rfl (Opd.tmp rfl))), ⟨rfl, trivial⟩, rfl, rfl⟩, ⟨.inr ⟨(OpJ.w (J_call rfl Tryd.call22 (c_impl_outageOf hx1) (Opds.cons (Opd.tab (Opd.tmp rfl) 99999 rfl) (Opds.cons (Opd.tmp rfl) (Opds.cons (Opd.tmp rfl) (Opds.cons (Opd.tmp rfl) Opds.nil)))))), ⟨rfl, rfl, rfl, rfl, rfl, trivial⟩, rfl, rfl⟩, ⟨.inr ⟨(OpJ.w (J_load rfl Tryd.isAgg2 (Opd.tmp rfl))), ⟨rfl, trivial⟩, rfl, rfl⟩, ⟨.inr ⟨(OpJ.w (J_bin rfl (Opd.tmp rfl) (Opd.tmp rfl) B_leq)), ⟨rfl, rfl, trivial⟩, rfl, rfl⟩, trivial⟩⟩⟩⟩⟩⟩⟩ ?_
  refine RegL.pure (p := (pEq (.bool (decide (x1 ≤ a_4))))) rfl rfl rfl (J_assign rfl (Opd.tmp rfl)) ?_
  refine RegL.nil ?_
  refine Ct.then_tr ?_
  refine Tr.weak (Γ' := [(6, (pEq (.bool (decide (x1 ≤ a_4))))), (99999, (pTab 0 .u64 Lib.pow10Tab))]) ⟨rfl, rfl, trivial⟩ ?_
  refine Tr.ret ?_
  replace h := Option.some.inj h; subst h
  exact Ct.retH1 (Ωx := []) () rfl (RvOk.tmp rfl) rfl

theorem c_impl_firstIn_1 {i_0 : Int} {a_1 : (Int → Option Bool)} {a_2 : Int} {r : Bool} (h : m_impl_firstIn_1 i_0 a_1 a_2 = some r) : CallJ Tryd.prog 42 [(pEq (.int .i64 i_0)), (pPtr ((fun e => [(pFn Tryd.prog (fun x => [(pEq (.int .i64 x))]) e (fun y => (pEq (.bool y))))]) a_1)), (pPtr ((cK .i64) a_2))] (pEq (.bool r)) := by
  unfold m_impl_firstIn_1 at h
  refine CallJ.enterH Tryd.func42 rfl Tryd.ntmps42 rfl fun W I0 H => ?_
  refine Tr.weak (Γ' := [(0, (pEq (.int .i64 i_0))), (1, (pPtr ((fun e => [(pFn Tryd.prog (fun x => [(pEq (.int .i64 x))]) e (fun y => (pEq (.bool y))))]) a_1))), (2, (pPtr ((cK .i64) a_2)))]) ⟨rfl, rfl, rfl, trivial⟩ ?_
  refine Tr.seq ?_
  refine Tr.region ?_
  refine RegL.pure (p := (pEq (.bool false))) rfl rfl rfl (J_assign rfl Opd.con) ?_
  refine RegL.nil ?_
  refine Ct.then_tr ?_
  refine Tr.weak (Γ' := [(0, (pEq (.int .i64 i_0))), (1, (pPtr ((fun e => [(pFn Tryd.prog (fun x => [(pEq (.int .i64 x))]) e (fun y => (pEq (.bool y))))]) a_1))), (2, (pPtr ((cK .i64) a_2)))]) ⟨rfl, rfl, rfl, trivial⟩ ?_
  refine Tr.seq ?_
  refine Tr.region ?_
  refine RegL.pure (p := (pFn Tryd.prog (fun x => [(pEq (.int .i64 x))]) a_1 (fun y => (pEq (.bool y))))) rfl rfl rfl (J_load rfl Tryd.isAgg27 (Opd.tmp rfl)) ?_
  refine RegL.pure (p := (pEq (.int .i64 a_2))) rfl rfl rfl (J_load rfl Tryd.isAgg2 (Opd.tmp rfl)) ?_
  refine RegL.pure (p := (pEq (.int .i64 i_0))) rfl rfl rfl (J_move rfl (Opd.tmp rfl)) ?_
  refine RegL.pure (p := (pEq (.int .i64 (w64 (a_2 + i_0))))) rfl rfl rfl (J_bin rfl (Opd.tmp rfl) (Opd.tmp rfl) B_add) ?_
  replace h := bind_some h; obtain ⟨x1, hx1, h⟩ := h
  refine RegL.pure (p := (pEq (.bool x1))) rfl rfl rfl (J_callv (x := (w64 (a_2 + i_0))) rfl (Opd.tmp rfl) rfl (Opds.cons (Opd.tmp rfl) Opds.nil) hx1 rfl) ?_
  refine RegL.pure (p := (pEq (.bool x1))) rfl rfl rfl (J_assign rfl (Opd.tmp rfl)) ?_
  refine RegL.nil ?_
  refine Ct.then_tr ?_
  refine Tr.weak (Γ' := [(4, (pEq (.bool x1)))]) ⟨rfl, trivial⟩ ?_
  refine Tr.ret ?_
  replace h := Option.some.inj h; subst h
  exact Ct.retH1 (Ωx := []) () rfl (RvOk.tmp rfl) rfl

theorem c_sort_Search {n_0 : Int} {f_1 : (Int → Option Bool)} {r : Int} (h : m_sort_Search n_0 f_1 = some r) : CallJ Tryd.prog 41 [(pEq (.int .i64 n_0)), (pFn Tryd.prog (fun x => [(pEq (.int .i64 x))]) f_1 (fun y => (pEq (.bool y))))] (pEq (.int .i64 r)) := by
  unfold m_sort_Search at h
  refine CallJ.enterH Tryd.func41 rfl Tryd.ntmps41 rfl fun W I0 H => ?_
  refine Tr.weak (Γ' := [(0, (pEq (.int .i64 n_0))), (1, (pFn Tryd.prog (fun x => [(pEq (.int .i64 x))]) f_1 (fun y => (pEq (.bool y)))))]) ⟨rfl, rfl, trivial⟩ ?_
  refine Tr.seq ?_
  refine Tr.region ?_
  refine RegL.pure (p := (pEq (.int .i64 (0 : Int)))) rfl rfl rfl (J_assign rfl Opd.con) ?_
  refine RegL.nil ?_
  refine Ct.then_tr ?_
  refine Tr.weak (Γ' := [(0, (pEq (.int .i64 n_0))), (1, (pFn Tryd.prog (fun x => [(pEq (.int .i64 x))]) f_1 (fun y => (pEq (.bool y)))))]) ⟨rfl, rfl, trivial⟩ ?_
  refine Tr.seq ?_
  refine Tr.region ?_
  refine RegL.pure (p := (pEq (.int .i64 n_0))) rfl rfl rfl (J_move rfl (Opd.tmp rfl)) ?_
  refine RegL.pure (p := (pEq (.int .i64 (0 : Int)))) rfl rfl rfl (J_assign rfl Opd.con) ?_
  refine RegL.pure (p := (pEq (.int .i64 n_0))) rfl rfl rfl (J_assign rfl (Opd.tmp rfl)) ?_
  refine RegL.nil ?_
  refine Ct.then_tr ?_
  refine Tr.weak (Γ' := [(1, (pFn Tryd.prog (fun x => [(pEq (.int .i64 x))]) f_1 (fun y => (pEq (.bool y))))), (5, (pEq (.int .i64 (0 : Int)))), (6, (pEq (.int .i64 n_0)))]) ⟨rfl, rfl, rfl, trivial⟩ ?_
  refine Tr.seq ?_
  replace h := bind_some h; obtain ⟨x1, hx1, h⟩ := h
  refine Tr.cut (γ := Unit) (Γm := fun g => [(5, (pEq (.int .i64 x1)))]) (Ωm := fun g => []) ?_ (fun g10 => ?_)
  · clear h
    have h := hx1
    clear hx1
    refine Tr.block ?_
    refine Tr.weak (Γ' := [(1, (pFn Tryd.prog (fun x => [(pEq (.int .i64 x))]) f_1 (fun y => (pEq (.bool y))))), (5, (pEq (.int .i64 (0 : Int)))), (6, (pEq (.int .i64 n_0)))]) ⟨rfl, rfl, rfl, trivial⟩ ?_
    refine Tr.loop (γ := Unit) (σ := (Int × Int)) (Γσ := fun s g => [(1, (pFn Tryd.prog (fun x => [(pEq (.int .i64 x))]) f_1 (fun y => (pEq (.bool y))))), (5, (pEq (.int .i64 s.1))), (6, (pEq (.int .i64 s.2)))]) (Ωσ := fun s g => []) (g := ()) h ?_
    clear h
    rintro ⟨v3, v4⟩ g5 t h
    replace h : m_sort_Search_B2 f_1 v3 v4 = some t := h
    unfold m_sort_Search_B2 at h
    refine Tr.weakO (Γ' := [(1, (pFn Tryd.prog (fun x => [(pEq (.int .i64 x))]) f_1 (fun y => (pEq (.bool y))))), (5, (pEq (.int .i64 v3))), (6, (pEq (.int .i64 v4)))]) (Ω' := []) rfl ⟨rfl, rfl, rfl, trivial⟩ ?_
    refine Tr.seq ?_
    refine Tr.seq ?_
    refine Tr.region ?_
    refine RegL.pure (p := (pEq (.int .i64 v3))) rfl rfl rfl (J_move rfl (Opd.tmp rfl)) ?_
    refine RegL.pure (p := (pEq (.int .i64 v4))) rfl rfl rfl (J_move rfl (Opd.tmp rfl)) ?_
    refine RegL.pure (p := (pEq (.bool (decide (v3 < v4))))) rfl rfl rfl (J_bin rfl (Opd.tmp rfl) (Opd.tmp rfl) B_lss) ?_
    refine RegL.nil ?_
    refine Ct.then_tr ?_
    refine Tr.weak (Γ' := [(1, (pFn Tryd.prog (fun x => [(pEq (.int .i64 x))]) f_1 (fun y => (pEq (.bool y))))), (5, (pEq (.int .i64 v3))), (6, (pEq (.int .i64 v4))), (11, (pEq (.bool (decide (v3 < v4)))))]) ⟨rfl, rfl, rfl, rfl, trivial⟩ ?_
    refine Tr.cond (Opd.tmp rfl) (fun hc => ?_) (fun hc => ?_)
    · replace h := bif_t hc h
      refine Tr.skip ?_
      refine Ct.then_tr ?_
      refine Tr.weak (Γ' := [(1, (pFn Tryd.prog (fun x => [(pEq (.int .i64 x))]) f_1 (fun y => (pEq (.bool y))))), (5, (pEq (.int .i64 v3))), (6, (pEq (.int .i64 v4)))]) ⟨rfl, rfl, rfl, trivial⟩ ?_
      refine Tr.block ?_
      refine Tr.seq ?_
      refine Tr.region ?_
      refine RegL.pure (p := (pEq (.int .i64 v3))) rfl rfl rfl (J_move rfl (Opd.tmp rfl)) ?_
      refine RegL.pure (p := (pEq (.int .i64 v4))) rfl rfl rfl (J_move rfl (Opd.tmp rfl)) ?_
      refine RegL.pure (p := (pEq (.int .i64 (w64 (v3 + v4))))) rfl rfl rfl (J_bin rfl (Opd.tmp rfl) (Opd.tmp rfl) B_add) ?_
      refine RegL.pure (p := (pEq (.int .u64 (IntKind.wrap .u64 ((w64 (v3 + v4))))))) rfl rfl rfl (J_conv rfl Tryd.underlying3 Tryd.underlying44 (Opd.tmp rfl)) ?_
      replace h := bind_some h; obtain ⟨x6, hx6, h⟩ := h
      refine RegL.pure (p := (pEq (.int .u64 x6))) rfl rfl rfl (J_bin rfl (Opd.tmp rfl) Opd.con (B_bitshr hx6)) ?_
      refine RegL.pure (p := (pEq (.int .i64 (w64 (x6))))) rfl rfl rfl (J_conv rfl Tryd.underlying44 Tryd.underlying3 (Opd.tmp rfl)) ?_
      refine RegL.pure (p := (pEq (.int .i64 (w64 (x6))))) rfl rfl rfl (J_assign rfl (Opd.tmp rfl)) ?_
      refine RegL.nil ?_
      refine Ct.then_tr ?_
      refine Tr.weak (Γ' := [(1, (pFn Tryd.prog (fun x => [(pEq (.int .i64 x))]) f_1 (fun y => (pEq (.bool y))))), (5, (pEq (.int .i64 v3))), (6, (pEq (.int .i64 v4))), (7, (pEq (.int .i64 (w64 (x6)))))]) ⟨rfl, rfl, rfl, rfl, trivial⟩ ?_
      refine Tr.seq ?_
      refine Tr.region ?_
      refine RegL.pure (p := (pFn Tryd.prog (fun x => [(pEq (.int .i64 x))]) f_1 (fun y => (pEq (.bool y))))) rfl rfl rfl (J_move rfl (Opd.tmp rfl)) ?_
      refine RegL.pure (p := (pEq (.int .i64 (w64 (x6))))) rfl rfl rfl (J_move rfl (Opd.tmp rfl)) ?_
      replace h := bind_some h; obtain ⟨x7, hx7, h⟩ := h
      refine RegL.pure (p := (pEq (.bool x7))) rfl rfl rfl (J_callv (x := (w64 (x6))) rfl (Opd.tmp rfl) rfl (Opds.cons (Opd.tmp rfl) Opds.nil) hx7 rfl) ?_
      refine RegL.pure (p := (pEq (.bool (!x7)))) rfl rfl rfl (J_not rfl (Opd.tmp rfl)) ?_
      refine RegL.nil ?_
      refine Ct.then_tr ?_
      refine Tr.weak (Γ' := [(1, (pFn Tryd.prog (fun x => [(pEq (.int .i64 x))]) f_1 (fun y => (pEq (.bool y))))), (5, (pEq (.int .i64 v3))), (6, (pEq (.int .i64 v4))), (7, (pEq (.int .i64 (w64 (x6))))), (21, (pEq (.bool (!x7))))]) ⟨rfl, rfl, rfl, rfl, rfl, trivial⟩ ?_
      replace h := bind_some h; obtain ⟨x8, hx8, h⟩ := h
      refine Tr.cut (γ := Unit) (Γm := fun g => [(1, (pFn Tryd.prog (fun x => [(pEq (.int .i64 x))]) f_1 (fun y => (pEq (.bool y))))), (5, (pEq (.int .i64 x8.1))), (6, (pEq (.int .i64 x8.2)))]) (Ωm := fun g => []) ?_ (fun g9 => ?_)
      · clear h
        have h := hx8
        clear hx8
        refine Tr.cond (Opd.tmp rfl) (fun hc => ?_) (fun hc => ?_)
        · replace h := bif_t hc h
          refine Tr.region ?_
          refine RegL.pure (p := (pEq (.int .i64 (w64 (x6))))) rfl rfl rfl (J_move rfl (Opd.tmp rfl)) ?_
          refine RegL.pure (p := (pEq (.int .i64 (w64 ((w64 (x6)) + (1 : Int)))))) rfl rfl rfl (J_bin rfl (Opd.tmp rfl) Opd.con B_add) ?_
          refine RegL.pure (p := (pEq (.int .i64 (w64 ((w64 (x6)) + (1 : Int)))))) rfl rfl rfl (J_assign rfl (Opd.tmp rfl)) ?_
          refine RegL.nil ?_
          replace h := Option.some.inj h; subst h
          exact Ct.mid () rfl ⟨rfl, rfl, rfl, trivial⟩
        · replace h := bif_f hc h
          refine Tr.region ?_
          refine RegL.pure (p := (pEq (.int .i64 (w64 (x6))))) rfl rfl rfl (J_move rfl (Opd.tmp rfl)) ?_
          refine RegL.pure (p := (pEq (.int .i64 (w64 (x6))))) rfl rfl rfl (J_assign rfl (Opd.tmp rfl)) ?_
          refine RegL.nil ?_
          replace h := Option.some.inj h; subst h
          exact Ct.mid () rfl ⟨rfl, rfl, rfl, trivial⟩
      · clear hx8
        refine Ct.blk_normal ?_
        replace h := Option.some.inj h; subst h
        exact Ct.again () rfl ⟨rfl, rfl, rfl, trivial⟩
    · replace h := bif_f hc h
      refine Tr.exit ?_
      refine Ct.then_exit ?_
      replace h := map_some h; obtain ⟨r1, h, rfl⟩ := h
      refine Ct.out_exit fun e => ?_
      subst e
      refine Ct.blk_exit ?_
      replace h := Option.some.inj h; subst h
      exact Ct.mid () rfl ⟨rfl, trivial⟩
  · clear hx1
    refine Ct.then_tr ?_
    refine Tr.weak (Γ' := [(5, (pEq (.int .i64 x1)))]) ⟨rfl, trivial⟩ ?_
    refine Tr.seq ?_
    refine Tr.region ?_
    refine RegL.pure (p := (pEq (.int .i64 x1))) rfl rfl rfl (J_move rfl (Opd.tmp rfl)) ?_
    refine RegL.pure (p := (pEq (.int .i64 x1))) rfl rfl rfl (J_assign rfl (Opd.tmp rfl)) ?_
    refine RegL.nil ?_
    refine Ct.then_tr ?_
    refine Tr.weak (Γ' := [(4, (pEq (.int .i64 x1)))]) ⟨rfl, trivial⟩ ?_
    refine Tr.ret ?_
    replace h := Option.some.inj h; subst h
    exact Ct.retH1 (Ωx := []) () rfl (RvOk.tmp rfl) rfl

theorem c_impl_firstIn {low_0 : Int} {high_1 : Int} {has_2 : (Int → Option Bool)} {r : (Int × Bool)} (h : m_impl_firstIn low_0 high_1 has_2 = some r) : CallJ Tryd.prog 26 [(pEq (.int .i64 low_0)), (pEq (.int .i64 high_1)), (pFn Tryd.prog (fun x => [(pEq (.int .i64 x))]) has_2 (fun y => (pEq (.bool y))))] (pTup [(pEq (.int .i64 r.1)), (pEq (.bool r.2))]) := by
  unfold m_impl_firstIn at h
  refine CallJ.enterH Tryd.func26 rfl Tryd.ntmps26 rfl fun W I0 H => ?_
  refine Tr.weak (Γ' := [(0, (pEq (.int .i64 low_0))), (1, (pEq (.int .i64 high_1))), (2, (pFn Tryd.prog (fun x => [(pEq (.int .i64 x))]) has_2 (fun y => (pEq (.bool y)))))]) ⟨rfl, rfl, rfl, trivial⟩ ?_
  refine Tr.seq ?_
  refine Tr.region ?_
  refine RegL.pure (p := (pPtr ((cK .i64) low_0))) rfl rfl rfl (J_box rfl (Opd.tmp rfl) OneC.int) ?_
  refine RegL.pure (p := (pPtr ((fun e => [(pFn Tryd.prog (fun x => [(pEq (.int .i64 x))]) e (fun y => (pEq (.bool y))))]) has_2))) rfl rfl rfl (J_box rfl (Opd.tmp rfl) OneC.fn) ?_
  refine RegL.pure (p := (pEq (.int .i64 (0 : Int)))) rfl rfl rfl (J_assign rfl Opd.con) ?_
  refine RegL.pure (p := (pEq (.bool false))) rfl rfl rfl (J_assign rfl Opd.con) ?_
  refine RegL.nil ?_
  refine Ct.then_tr ?_
  refine Tr.weak (Γ' := [(1, (pEq (.int .i64 high_1))), (3, (pPtr ((cK .i64) low_0))), (5, (pPtr ((fun e => [(pFn Tryd.prog (fun x => [(pEq (.int .i64 x))]) e (fun y => (pEq (.bool y))))]) has_2)))]) ⟨rfl, rfl, rfl, trivial⟩ ?_
  refine Tr.seq ?_
  refine Tr.region ?_
  refine RegL.pure (p := (pEq (.int .i64 high_1))) rfl rfl rfl (J_move rfl (Opd.tmp rfl)) ?_
  refine RegL.pure (p := (pEq (.int .i64 low_0))) rfl rfl rfl (J_load rfl Tryd.isAgg2 (Opd.tmp rfl)) ?_
  refine RegL.pure (p := (pEq (.int .i64 (w64 (high_1 - low_0))))) rfl rfl rfl (J_bin rfl (Opd.tmp rfl) (Opd.tmp rfl) B_sub) ?_
  refine RegL.pure (p := (pEq (.int .i64 (w64 ((w64 (high_1 - low_0)) + (1 : Int)))))) rfl rfl rfl (J_bin rfl (Opd.tmp rfl) Opd.con B_add) ?_
  refine RegL.pure (p := (pEq (.int .i64 (w64 ((w64 (high_1 - low_0)) + (1 : Int)))))) rfl rfl rfl (J_assign rfl (Opd.tmp rfl)) ?_
  refine RegL.nil ?_
  refine Ct.then_tr ?_
  refine Tr.weak (Γ' := [(3, (pPtr ((cK .i64) low_0))), (5, (pPtr ((fun e => [(pFn Tryd.prog (fun x => [(pEq (.int .i64 x))]) e (fun y => (pEq (.bool y))))]) has_2))), (8, (pEq (.int .i64 (w64 ((w64 (high_1 - low_0)) + (1 : Int))))))]) ⟨rfl, rfl, rfl, trivial⟩ ?_
  refine Tr.seq ?_
  refine Tr.region ?_
  refine RegL.pure (p := (pEq (.int .i64 (w64 ((w64 (high_1 - low_0)) + (1 : Int)))))) rfl rfl rfl (J_move rfl (Opd.tmp rfl)) ?_
  refine RegL.pure (p := (pFn Tryd.prog (fun x => [(pEq (.int .i64 x))]) (fun x => m_impl_firstIn_1 x has_2 low_0) (fun y => (pEq (.bool y))))) rfl rfl rfl (J_makeFn rfl Tryd.call42 (Opds.cons (Opd.tmp rfl) (Opds.cons (Opd.tmp rfl) Opds.nil)) (fun _ _ h => c_impl_firstIn_1 h)) ?_
  replace h := bind_some h; obtain ⟨x1, hx1, h⟩ := h
  refine RegL.pure (p := (pEq (.int .i64 x1))) rfl rfl rfl (J_call rfl Tryd.call41 (c_sort_Search hx1) (Opds.cons (Opd.tmp rfl) (Opds.cons (Opd.tmp rfl) Opds.nil))) ?_
  refine RegL.pure (p := (pEq (.int .i64 x1))) rfl rfl rfl (J_assign rfl (Opd.tmp rfl)) ?_
  refine RegL.nil ?_
  refine Ct.then_tr ?_
  refine Tr.weak (Γ' := [(3, (pPtr ((cK .i64) low_0))), (8, (pEq (.int .i64 (w64 ((w64 (high_1 - low_0)) + (1 : Int)))))), (9, (pEq (.int .i64 x1)))]) ⟨rfl, rfl, rfl, trivial⟩ ?_
  refine Tr.seq ?_
  refine Tr.region ?_
  refine RegL.pure (p := (pEq (.int .i64 low_0))) rfl rfl rfl (J_load rfl Tryd.isAgg2 (Opd.tmp rfl)) ?_
  refine RegL.pure (p := (pEq (.int .i64 x1))) rfl rfl rfl (J_move rfl (Opd.tmp rfl)) ?_
  refine RegL.pure (p := (pEq (.int .i64 (w64 (low_0 + x1))))) rfl rfl rfl (J_bin rfl (Opd.tmp rfl) (Opd.tmp rfl) B_add) ?_
  refine RegL.pure (p := (pEq (.int .i64 x1))) rfl rfl rfl (J_move rfl (Opd.tmp rfl)) ?_
  refine RegL.pure (p := (pEq (.int .i64 (w64 ((w64 (high_1 - low_0)) + (1 : Int)))))) rfl rfl rfl (J_move rfl (Opd.tmp rfl)) ?_
  refine RegL.pure (p := (pEq (.bool (decide (x1 < (w64 ((w64 (high_1 - low_0)) + (1 : Int)))))))) rfl rfl rfl (J_bin rfl (Opd.tmp rfl) (Opd.tmp rfl) B_lss) ?_
  refine RegL.pure (p := (pEq (.int .i64 (w64 (low_0 + x1))))) rfl rfl rfl (J_assign rfl (Opd.tmp rfl)) ?_
  refine RegL.pure (p := (pEq (.bool (decide (x1 < (w64 ((w64 (high_1 - low_0)) + (1 : Int)))))))) rfl rfl rfl (J_assign rfl (Opd.tmp rfl)) ?_
  refine RegL.nil ?_
  refine Ct.then_tr ?_
  refine Tr.weak (Γ' := [(6, (pEq (.int .i64 (w64 (low_0 + x1))))), (7, (pEq (.bool (decide (x1 < (w64 ((w64 (high_1 - low_0)) + (1 : Int))))))))]) ⟨rfl, rfl, trivial⟩ ?_
  refine Tr.ret ?_
  replace h := Option.some.inj h; subst h
  exact Ct.retH2 (Ωx := []) () rfl (RvOk.tmp rfl) (RvOk.tmp rfl) rfl rfl

theorem c_impl_orNotFound {n_0 : Int} {ok_1 : Bool} {r : (Int × Int)} (h : m_impl_orNotFound n_0 ok_1 = some r) : CallJ Tryd.prog 25 [(pEq (.int .i64 n_0)), (pEq (.bool ok_1))] (pTup [(pEq (.int .i64 r.1)), (pEq (.int .i64 r.2))]) := by
  unfold m_impl_orNotFound at h
  refine CallJ.enterH Tryd.func25 rfl Tryd.ntmps25 rfl fun W I0 H => ?_
  refine Tr.weak (Γ' := [(0, (pEq (.int .i64 n_0))), (1, (pEq (.bool ok_1)))]) ⟨rfl, rfl, trivial⟩ ?_
  refine Tr.seq ?_
  refine Tr.region ?_
  refine RegL.pure (p := (pEq (.int .i64 (0 : Int)))) rfl rfl rfl (J_assign rfl Opd.con) ?_
  refine RegL.pure (p := (pEq (.int .i64 (0 : Int)))) rfl rfl rfl (J_assign rfl Opd.con) ?_
  refine RegL.nil ?_
  refine Ct.then_tr ?_
  refine Tr.weak (Γ' := [(0, (pEq (.int .i64 n_0))), (1, (pEq (.bool ok_1)))]) ⟨rfl, rfl, trivial⟩ ?_
  refine Tr.seq ?_
  refine Tr.seq ?_
  refine Tr.region ?_
  refine RegL.pure (p := (pEq (.bool ok_1))) rfl rfl rfl (J_move rfl (Opd.tmp rfl)) ?_
  refine RegL.pure (p := (pEq (.bool (!ok_1)))) rfl rfl rfl (J_not rfl (Opd.tmp rfl)) ?_
  refine RegL.nil ?_
  refine Ct.then_tr ?_
  refine Tr.weak (Γ' := [(0, (pEq (.int .i64 n_0))), (7, (pEq (.bool (!ok_1))))]) ⟨rfl, rfl, trivial⟩ ?_
  refine Tr.cond (Opd.tmp rfl) (fun hc => ?_) (fun hc => ?_)
  · replace h := bif_t hc h
    refine Tr.seq ?_
    refine Tr.region ?_
    refine RegL.pure (p := (pEq (.int .i64 (0 : Int)))) rfl rfl rfl (J_assign rfl Opd.con) ?_
    refine RegL.pure (p := (pEq (.int .i64 (3 : Int)))) rfl rfl rfl (J_assign rfl Opd.con) ?_
    refine RegL.nil ?_
    refine Ct.then_tr ?_
    refine Tr.weak (Γ' := [(4, (pEq (.int .i64 (0 : Int)))), (5, (pEq (.int .i64 (3 : Int))))]) ⟨rfl, rfl, trivial⟩ ?_
    refine Tr.ret ?_
    refine Ct.then_ret ?_
    replace h := Option.some.inj h; subst h
    exact Ct.retH2 (Ωx := []) () rfl (RvOk.tmp rfl) (RvOk.tmp rfl) rfl rfl
  · replace h := bif_f hc h
    refine Tr.skip ?_
    refine Ct.then_tr ?_
    refine Tr.weak (Γ' := [(0, (pEq (.int .i64 n_0)))]) ⟨rfl, trivial⟩ ?_
    refine Tr.seq ?_
    refine Tr.region ?_
    refine RegL.pure (p := (pEq (.int .i64 n_0))) rfl rfl rfl (J_move rfl (Opd.tmp rfl)) ?_
    refine RegL.pure (p := (pEq (.int .i64 n_0))) rfl rfl rfl (J_assign rfl (Opd.tmp rfl)) ?_
    refine RegL.pure (p := (pEq (.int .i64 (0 : Int)))) rfl rfl rfl (J_assign rfl Opd.con) ?_
    refine RegL.nil ?_
    refine Ct.then_tr ?_
    refine Tr.weak (Γ' := [(4, (pEq (.int .i64 n_0))), (5, (pEq (.int .i64 (0 : Int))))]) ⟨rfl, rfl, trivial⟩ ?_
    refine Tr.ret ?_
    replace h := Option.some.inj h; subst h
    exact Ct.retH2 (Ωx := []) () rfl (RvOk.tmp rfl) (RvOk.tmp rfl) rfl rfl

theorem c_impl_MarginFor {f_0 : Int} {d_1 : Int} {climate_2 : Int} {outage_3 : Int} {r : (Int × Int)} (h : m_impl_MarginFor f_0 d_1 climate_2 outage_3 = some r) : CallJ Tryd.prog 10 [(pG (pTab 0 .u64 Lib.pow10Tab) (pEq (.int .i64 f_0))), (pEq (.int .i64 d_1)), (pEq (.int .i64 climate_2)), (pEq (.int .i64 outage_3))] (pTup [(pEq (.int .i64 r.1)), (pEq (.int .i64 r.2))]) := by
  unfold m_impl_MarginFor at h
  refine CallJ.enterH Tryd.func10 rfl Tryd.ntmps10 rfl fun W I0 H => ?_
  refine Tr.tab (s := 0) (k := 99999) rfl ?_; refine Tr.weak (Γ' := [(0, (pEq (.int .i64 f_0))), (1, (pEq (.int .i64 d_1))), (2, (pEq (.int .i64 climate_2))), (3, (pEq (.int .i64 outage_3))), (99999, (pTab 0 .u64 Lib.pow10Tab))]) ⟨rfl, rfl, rfl, rfl, rfl, trivial⟩ ?_
  refine Tr.seq ?_
  refine Tr.region ?_
  refine RegL.pure (p := (pPtr ((cK .i64) f_0))) rfl rfl rfl (J_box rfl (Opd.tmp rfl) OneC.int) ?_
  refine RegL.pure (p := (pPtr ((cK .i64) d_1))) rfl rfl rfl (J_box rfl (Opd.tmp rfl) OneC.int) ?_
  refine RegL.pure (p := (pPtr ((cK .i64) climate_2))) rfl rfl rfl (J_box rfl (Opd.tmp rfl) OneC.int) ?_
  refine RegL.pure (p := (pPtr ((cK .i64) outage_3))) rfl rfl rfl (J_box rfl (Opd.tmp rfl) OneC.int) ?_
  refine RegL.pure (p := (pEq (.int .i64 (0 : Int)))) rfl rfl rfl (J_assign rfl Opd.con) ?_
  refine RegL.pure (p := (pEq (.int .i64 (0 : Int)))) rfl rfl rfl (J_assign rfl Opd.con) ?_
  refine RegL.nil ?_
  refine Ct.then_tr ?_
  refine Tr.weak (Γ' := [(4, (pPtr ((cK .i64) f_0))), (5, (pPtr ((cK .i64) d_1))), (6, (pPtr ((cK .i64) climate_2))), (7, (pPtr ((cK .i64) outage_3))), (99999, (pTab 0 .u64 Lib.pow10Tab))]) ⟨rfl, rfl, rfl, rfl, rfl, trivial⟩ ?_
  refine Tr.seq ?_
  refine Tr.seq ?_
  replace h := bind_some h; obtain ⟨x1, hx1, h⟩ := h
  refine Tr.cut (γ := Unit) (Γm := fun g => [(4, (pPtr ((cK .i64) f_0))), (5, (pPtr ((cK .i64) d_1))), (6, (pPtr ((cK .i64) climate_2))), (7, (pPtr ((cK .i64) outage_3))), (19, (pEq (.bool x1))), (99999, (pTab 0 .u64 Lib.pow10Tab))]) (Ωm := fun g => []) ?_ (fun g5 => ?_)
  · clear h
    have h := hx1
    clear hx1
    refine Tr.region ?_
    refine RegL.pure (p := (pEq (.int .i64 f_0))) rfl rfl rfl (J_load rfl Tryd.isAgg2 (Opd.tmp rfl)) ?_
    refine RegL.pure (p := (pEq (.int .i64 d_1))) rfl rfl rfl (J_load rfl Tryd.isAgg2 (Opd.tmp rfl)) ?_
    refine RegL.pure (p := (pEq (.int .i64 climate_2))) rfl rfl rfl (J_load rfl Tryd.isAgg2 (Opd.tmp rfl)) ?_
    replace h := bind_some h; obtain ⟨x2, hx2, h⟩ := h
    refine RegL.pure (p := (pEq (.bool x2))) rfl rfl rfl (J_call rfl Tryd.call20 (c_impl_fadingOk hx2) (Opds.cons (Opd.tmp rfl) (Opds.cons (Opd.tmp rfl) (Opds.cons (Opd.tmp rfl) Opds.nil)))) ?_
    refine RegL.pure (p := (pEq (.bool (!x2)))) rfl rfl rfl (J_not rfl (Opd.tmp rfl)) ?_
    refine RegL.pure (p := (pEq (.bool (!x2)))) rfl rfl rfl (J_move rfl (Opd.tmp rfl)) ?_
    rcases Bool.eq_false_or_eq_true (!x2) with hc3 | hc3
    · replace h := bif_t hc3 h
      refine RegL.skipG rfl rfl rfl hc3 rfl rfl ?_
      refine RegL.skipG rfl rfl rfl hc3 rfl rfl ?_
      refine RegL.skipG rfl rfl rfl hc3 rfl rfl ?_
      refine RegL.pure (p := (pEq (.bool true))) rfl rfl rfl (J_pick rfl (Opd.tmp rfl) (fun _ => Opd.con) (fun hf => absurd (hc3.symm.trans hf) (by decide))) ?_
      refine RegL.nil ?_
      replace h := Option.some.inj h; subst h
      exact Ct.mid () rfl ⟨rfl, rfl, rfl, rfl, rfl, rfl, trivial⟩
    · replace h := bif_f hc3 h
      refine RegL.pureG (p := (pEq (.int .i64 outage_3))) rfl rfl rfl hc3 rfl rfl (J_load rfl Tryd.isAgg2 (Opd.tmp rfl)) ?_
      replace h := bind_some h; obtain ⟨x4, hx4, h⟩ := h
      refine RegL.pureG (p := (pEq (.bool x4))) rfl rfl rfl hc3 rfl rfl (J_call rfl Tryd.call24 (c_impl_within hx4) (Opds.cons (Opd.tmp rfl) (Opds.cons Opd.con (Opds.cons Opd.con Opds.nil)))) ?_
      refine RegL.pureG (p := (pEq (.bool (!x4)))) rfl rfl rfl hc3 rfl rfl (J_not rfl (Opd.tmp rfl)) ?_
      refine RegL.pure (p := (pEq (.bool (!x4)))) rfl rfl rfl (J_pick rfl (Opd.tmp rfl) (fun hf => absurd (hc3.symm.trans hf) (by decide)) (fun _ => (Opd.tmp rfl))) ?_
      refine RegL.nil ?_
      replace h := Option.some.inj h; subst h
      exact Ct.mid () rfl ⟨rfl, rfl, rfl, rfl, rfl, rfl, trivial⟩
  · clear hx1
    refine Ct.then_tr ?_
    refine Tr.weak (Γ' := [(4, (pPtr ((cK .i64) f_0))), (5, (pPtr ((cK .i64) d_1))), (6, (pPtr ((cK .i64) climate_2))), (7, (pPtr ((cK .i64) outage_3))), (19, (pEq (.bool x1))), (99999, (pTab 0 .u64 Lib.pow10Tab))]) ⟨rfl, rfl, rfl, rfl, rfl, rfl, trivial⟩ ?_
    refine Tr.cond (Opd.tmp rfl) (fun hc => ?_) (fun hc => ?_)
    · replace h := bif_t hc h
      refine Tr.seq ?_
      refine Tr.region ?_
      refine RegL.pure (p := (pEq (.int .i64 (0 : Int)))) rfl rfl rfl (J_assign rfl Opd.con) ?_
      refine RegL.pure (p := (pEq (.int .i64 (2 : Int)))) rfl rfl rfl (J_assign rfl Opd.con) ?_
      refine RegL.nil ?_
      refine Ct.then_tr ?_
      refine Tr.weak (Γ' := [(8, (pEq (.int .i64 (0 : Int)))), (9, (pEq (.int .i64 (2 : Int)))), (99999, (pTab 0 .u64 Lib.pow10Tab))]) ⟨rfl, rfl, rfl, trivial⟩ ?_
      refine Tr.ret ?_
      refine Ct.then_ret ?_
      replace h := Option.some.inj h; subst h
      exact Ct.retH2 (Ωx := []) () rfl (RvOk.tmp rfl) (RvOk.tmp rfl) rfl rfl
    · replace h := bif_f hc h
      refine Tr.skip ?_
      refine Ct.then_tr ?_
      refine Tr.weak (Γ' := [(4, (pPtr ((cK .i64) f_0))), (5, (pPtr ((cK .i64) d_1))), (6, (pPtr ((cK .i64) climate_2))), (7, (pPtr ((cK .i64) outage_3))), (99999, (pTab 0 .u64 Lib.pow10Tab))]) ⟨rfl, rfl, rfl, rfl, rfl, trivial⟩ ?_
      refine Tr.seq ?_
      refine Tr.region ?_
      refine RegL.pure (p := (pFn Tryd.prog (fun x => [(pEq (.int .i64 x))]) (fun x => m_impl_MarginFor_1 x f_0 d_1 climate_2 outage_3) (fun y => (pEq (.bool y))))) rfl rfl rfl (J_makeFn rfl Tryd.call27 (Opds.cons (Opd.tab (Opd.tmp rfl) 99999 rfl) (Opds.cons (Opd.tmp rfl) (Opds.cons (Opd.tmp rfl) (Opds.cons (Opd.tmp rfl) Opds.nil)))) (fun _ _ h => c_impl_MarginFor_1 h)) ?_
      replace h := bind_some h; obtain ⟨x6, hx6, h⟩ := h
      refine RegL.pure (p := (pTup [(pEq (.int .i64 x6.1)), (pEq (.bool x6.2))])) rfl rfl rfl (J_call rfl Tryd.call26 (c_impl_firstIn hx6) (Opds.cons Opd.con (Opds.cons Opd.con (Opds.cons (Opd.tmp rfl) Opds.nil)))) ?_
      refine RegL.pure (p := (pEq (.int .i64 x6.1))) rfl rfl rfl (J_extract rfl (Opd.tmp rfl) rfl) ?_
      refine RegL.pure (p := (pEq (.bool x6.2))) rfl rfl rfl (J_extract rfl (Opd.tmp rfl) rfl) ?_
      replace h := bind_some h; obtain ⟨x7, hx7, h⟩ := h
      refine RegL.pure (p := (pTup [(pEq (.int .i64 x7.1)), (pEq (.int .i64 x7.2))])) rfl rfl rfl (J_call rfl Tryd.call25 (c_impl_orNotFound hx7) (Opds.cons (Opd.tmp rfl) (Opds.cons (Opd.tmp rfl) Opds.nil))) ?_
      refine RegL.pure (p := (pEq (.int .i64 x7.1))) rfl rfl rfl (J_extract rfl (Opd.tmp rfl) rfl) ?_
      refine RegL.pure (p := (pEq (.int .i64 x7.2))) rfl rfl rfl (J_extract rfl (Opd.tmp rfl) rfl) ?_
      refine RegL.pure (p := (pEq (.int .i64 x7.1))) rfl rfl rfl (J_assign rfl (Opd.tmp rfl)) ?_
      refine RegL.pure (p := (pEq (.int .i64 x7.2))) rfl rfl rfl (J_assign rfl (Opd.tmp rfl)) ?_
      refine RegL.nil ?_
      refine Ct.then_tr ?_
      refine Tr.weak (Γ' := [(8, (pEq (.int .i64 x7.1))), (9, (pEq (.int .i64 x7.2))), (99999, (pTab 0 .u64 Lib.pow10Tab))]) ⟨rfl, rfl, rfl, trivial⟩ ?_
      refine Tr.ret ?_
      replace h := Option.some.inj h; subst h
      exact Ct.retH2 (Ωx := []) () rfl (RvOk.tmp rfl) (RvOk.tmp rfl) rfl rfl

theorem c_laws_FnExactMarginFor {aF_0 : Int} {aD_1 : Int} {aClimate_2 : Int} {aOutage_3 : Int} {r : Bool} (h : m_laws_FnExactMarginFor aF_0 aD_1 aClimate_2 aOutage_3 = some r) : CallJ Tryd.prog 4 [(pG (pTab 0 .u64 Lib.pow10Tab) (pEq (.int .i64 aF_0))), (pEq (.int .i64 aD_1)), (pEq (.int .i64 aClimate_2)), (pEq (.int .i64 aOutage_3))] (pEq (.bool r)) := by
  unfold m_laws_FnExactMarginFor at h
  refine CallJ.enterH Tryd.func4 rfl Tryd.ntmps4 rfl fun W I0 H => ?_
  refine Tr.tab (s := 0) (k := 99999) rfl ?_; refine Tr.weak (Γ' := [(0, (pEq (.int .i64 aF_0))), (1, (pEq (.int .i64 aD_1))), (2, (pEq (.int .i64 aClimate_2))), (3, (pEq (.int .i64 aOutage_3))), (99999, (pTab 0 .u64 Lib.pow10Tab))]) ⟨rfl, rfl, rfl, rfl, rfl, trivial⟩ ?_
  refine Tr.seq ?_
  refine Tr.region ?_
  refine RegL.pure (p := (pEq (.bool false))) rfl rfl rfl (J_assign rfl Opd.con) ?_
  refine RegL.nil ?_
  refine Ct.then_tr ?_
  refine Tr.weak (Γ' := [(0, (pEq (.int .i64 aF_0))), (1, (pEq (.int .i64 aD_1))), (2, (pEq (.int .i64 aClimate_2))), (3, (pEq (.int .i64 aOutage_3))), (99999, (pTab 0 .u64 Lib.pow10Tab))]) ⟨rfl, rfl, rfl, rfl, rfl, trivial⟩ ?_
  refine Tr.seq ?_
  refine Tr.region ?_
  refine RegL.pure (p := (pEq (.int .i64 aF_0))) rfl rfl rfl (J_move rfl (Opd.tmp rfl)) ?_
  refine RegL.pure (p := (pEq (.int .i64 aD_1))) rfl rfl rfl (J_move rfl (Opd.tmp rfl)) ?_
  refine RegL.pure (p := (pEq (.int .i64 aClimate_2))) rfl rfl rfl (J_move rfl (Opd.tmp rfl)) ?_
  refine RegL.pure (p := (pEq (.int .i64 aOutage_3))) rfl rfl rfl (J_move rfl (Opd.tmp rfl)) ?_
  replace h := bind_some h; obtain ⟨x1, hx1, h⟩ := h
  refine RegL.pure (p := (pTup [(pEq (.int .i64 x1.1)), (pEq (.int .i64 x1.2))])) rfl rfl rfl (J_call rfl Tryd.call9 (c_spec_MarginFor hx1) (Opds.cons (Opd.tmp rfl) (Opds.cons (Opd.tmp rfl) (Opds.cons (Opd.tmp rfl) (Opds.cons (Opd.tmp rfl) Opds.nil))))) ?_
  refine RegL.pure (p := (pTup [(pEq (.int .i64 x1.1)), (pEq (.int .i64 x1.2))])) rfl rfl rfl (J_move rfl (Opd.tmp rfl)) ?_
  refine RegL.pure (p := (pEq (.int .i64 x1.1))) rfl rfl rfl (J_extract rfl (Opd.tmp rfl) rfl) ?_
  refine RegL.pure (p := (pEq (.int .i64 x1.2))) rfl rfl rfl (J_extract rfl (Opd.tmp rfl) rfl) ?_
  refine RegL.pure (p := (pEq (.int .i64 x1.1))) rfl rfl rfl (J_assign rfl (Opd.tmp rfl)) ?_
  refine RegL.pure (p := (pEq (.int .i64 x1.2))) rfl rfl rfl (J_assign rfl (Opd.tmp rfl)) ?_
  refine RegL.nil ?_
  refine Ct.then_tr ?_
  refine Tr.weak (Γ' := [(0, (pEq (.int .i64 aF_0))), (1, (pEq (.int .i64 aD_1))), (2, (pEq (.int .i64 aClimate_2))), (3, (pEq (.int .i64 aOutage_3))), (9, (pEq (.int .i64 x1.1))), (10, (pEq (.int .i64 x1.2))), (99999, (pTab 0 .u64 Lib.pow10Tab))]) ⟨rfl, rfl, rfl, rfl, rfl, rfl, rfl, trivial⟩ ?_
  refine Tr.seq ?_
  refine Tr.region ?_
  refine RegL.pure (p := (pEq (.int .i64 aF_0))) rfl rfl rfl (J_move rfl (Opd.tmp rfl)) ?_
  refine RegL.pure (p := (pEq (.int .i64 aD_1))) rfl rfl rfl (J_move rfl (Opd.tmp rfl)) ?_
  refine RegL.pure (p := (pEq (.int .i64 aClimate_2))) rfl rfl rfl (J_move rfl (Opd.tmp rfl)) ?_
  refine RegL.pure (p := (pEq (.int .i64 aOutage_3))) rfl rfl rfl (J_move rfl (Opd.tmp rfl)) ?_
  replace h := bind_some h; obtain ⟨x2, hx2, h⟩ := h
  refine RegL.pure (p := (pTup [(pEq (.int .i64 x2.1)), (pEq (.int .i64 x2.2))])) rfl rfl rfl (J_call rfl Tryd.call10 (c_impl_MarginFor hx2) (Opds.cons (Opd.tab (Opd.tmp rfl) 99999 rfl) (Opds.cons (Opd.tmp rfl) (Opds.cons (Opd.tmp rfl) (Opds.cons (Opd.tmp rfl) Opds.nil))))) ?_
  refine RegL.pure (p := (pTup [(pEq (.int .i64 x2.1)), (pEq (.int .i64 x2.2))])) rfl rfl rfl (J_move rfl (Opd.tmp rfl)) ?_
  refine RegL.pure (p := (pEq (.int .i64 x2.1))) rfl rfl rfl (J_extract rfl (Opd.tmp rfl) rfl) ?_
  refine RegL.pure (p := (pEq (.int .i64 x2.2))) rfl rfl rfl (J_extract rfl (Opd.tmp rfl) rfl) ?_
  refine RegL.pure (p := (pEq (.int .i64 x2.1))) rfl rfl rfl (J_assign rfl (Opd.tmp rfl)) ?_
  refine RegL.pure (p := (pEq (.int .i64 x2.2))) rfl rfl rfl (J_assign rfl (Opd.tmp rfl)) ?_
  refine RegL.nil ?_
  refine Ct.then_tr ?_
  refine Tr.weak (Γ' := [(9, (pEq (.int .i64 x1.1))), (10, (pEq (.int .i64 x1.2))), (11, (pEq (.int .i64 x2.1))), (12, (pEq (.int .i64 x2.2))), (99999, (pTab 0 .u64 Lib.pow10Tab))]) ⟨rfl, rfl, rfl, rfl, rfl, trivial⟩ ?_
  refine Tr.seq ?_
  refine Tr.seq ?_
  replace h := bind_some h; obtain ⟨x3, hx3, h⟩ := h
  refine Tr.cut (γ := Unit) (Γm := fun g => [(36, (pEq (.bool x3))), (99999, (pTab 0 .u64 Lib.pow10Tab))]) (Ωm := fun g => []) ?_ (fun g5 => ?_)
  · clear h
    have h := hx3
    clear hx3
    refine Tr.region ?_
    refine RegL.pure (p := (pEq (.int .i64 x2.1))) rfl rfl rfl (J_move rfl (Opd.tmp rfl)) ?_
    refine RegL.pure (p := (pEq (.int .i64 x1.1))) rfl rfl rfl (J_move rfl (Opd.tmp rfl)) ?_
    refine RegL.pure (p := (pEq (.bool (x2.1 != x1.1)))) rfl rfl rfl (J_bin rfl (Opd.tmp rfl) (Opd.tmp rfl) B_neq) ?_
    refine RegL.pure (p := (pEq (.bool (x2.1 != x1.1)))) rfl rfl rfl (J_move rfl (Opd.tmp rfl)) ?_
    rcases Bool.eq_false_or_eq_true (x2.1 != x1.1) with hc4 | hc4
    · replace h := bif_t hc4 h
      refine RegL.skipG rfl rfl rfl hc4 rfl rfl ?_
      refine RegL.skipG rfl rfl rfl hc4 rfl rfl ?_
      refine RegL.skipG rfl rfl rfl hc4 rfl rfl ?_
      refine RegL.pure (p := (pEq (.bool true))) rfl rfl rfl (J_pick rfl (Opd.tmp rfl) (fun _ => Opd.con) (fun hf => absurd (hc4.symm.trans hf) (by decide))) ?_
      refine RegL.nil ?_
      replace h := Option.some.inj h; subst h
      exact Ct.mid () rfl ⟨rfl, rfl, trivial⟩
    · replace h := bif_f hc4 h
      refine RegL.pureG (p := (pEq (.int .i64 x2.2))) rfl rfl rfl hc4 rfl rfl (J_move rfl (Opd.tmp rfl)) ?_
      refine RegL.pureG (p := (pEq (.int .i64 x1.2))) rfl rfl rfl hc4 rfl rfl (J_move rfl (Opd.tmp rfl)) ?_
      refine RegL.pureG (p := (pEq (.bool (x2.2 != x1.2)))) rfl rfl rfl hc4 rfl rfl (J_bin rfl (Opd.tmp rfl) (Opd.tmp rfl) B_neq) ?_
      refine RegL.pure (p := (pEq (.bool (x2.2 != x1.2)))) rfl rfl rfl (J_pick rfl (Opd.tmp rfl) (fun hf => absurd (hc4.symm.trans hf) (by decide)) (fun _ => (Opd.tmp rfl))) ?_
      refine RegL.nil ?_
      replace h := Option.some.inj h; subst h
      exact Ct.mid () rfl ⟨rfl, rfl, trivial⟩
  · clear hx3
    refine Ct.then_tr ?_
    refine Tr.weak (Γ' := [(36, (pEq (.bool x3))), (99999, (pTab 0 .u64 Lib.pow10Tab))]) ⟨rfl, rfl, trivial⟩ ?_
    refine Tr.cond (Opd.tmp rfl) (fun hc => ?_) (fun hc => ?_)
    · replace h := bif_t hc h
      refine Tr.seq ?_
      refine Tr.region ?_
      refine RegL.pure (p := (pEq (.bool false))) rfl rfl rfl (J_assign rfl Opd.con) ?_
      refine RegL.nil ?_
      refine Ct.then_tr ?_
      refine Tr.weak (Γ' := [(8, (pEq (.bool false))), (99999, (pTab 0 .u64 Lib.pow10Tab))]) ⟨rfl, rfl, trivial⟩ ?_
      refine Tr.ret ?_
      refine Ct.then_ret ?_
      replace h := Option.some.inj h; subst h
      exact Ct.retH1 (Ωx := []) () rfl (RvOk.tmp rfl) rfl
    · replace h := bif_f hc h
      refine Tr.skip ?_
      refine Ct.then_tr ?_
      refine Tr.weak (Γ' := [(99999, (pTab 0 .u64 Lib.pow10Tab))]) ⟨rfl, trivial⟩ ?_
      refine Tr.seq ?_
      refine Tr.region ?_
      refine RegL.pure (p := (pEq (.bool true))) rfl rfl rfl (J_assign rfl Opd.con) ?_
      refine RegL.nil ?_
      refine Ct.then_tr ?_
      refine Tr.weak (Γ' := [(8, (pEq (.bool true))), (99999, (pTab 0 .u64 Lib.pow10Tab))]) ⟨rfl, rfl, trivial⟩ ?_
      refine Tr.ret ?_
      replace h := Option.some.inj h; subst h
      exact Ct.retH1 (Ωx := []) () rfl (RvOk.tmp rfl) rfl

end Go.Proofs.YtgianbkngpfpnaaDoor.fnExactMarginForW
