/-
  The walks that the law FnExactHopOutage reaches: each function computes its model. Printed by our own program.
-/
import Derived.Test.YtgianbkngpfpnaaDoorProg
import Derived.Test.YtgianbkngpfpnaaDoorMod
import Derived.Test.YtgianbkngpfpnaaDoorZero
import Derived.KernelRfl
import Derived.Test.YtgianbkngpfpnaaDoorTab
import Derived.Shelf.Strconv.Itoa4
namespace Go.Proofs.YtgianbkngpfpnaaDoor.fnExactHopOutageW
open Go Go.RowKit Go.Wk
set_option linter.unusedVariables false
set_option maxRecDepth 100000
theorem hmix : Tryd.prog.follows .mixedOrders = true := by kernel_rfl
theorem sz2 : ∀ w, (Go.sizeOf 2).run Tryd.prog w = .ok 1 w := fun _ => by kernel_rfl
theorem sz42 : ∀ w, (Go.sizeOf 42).run Tryd.prog w = .ok 2 w := fun _ => by kernel_rfl
theorem sz46 : ∀ w, (Go.sizeOf 46).run Tryd.prog w = .ok 2 w := fun _ => by kernel_rfl
theorem sz47 : ∀ w, (Go.sizeOf 47).run Tryd.prog w = .ok 14 w := fun _ => by kernel_rfl
theorem zero42 : Zero Tryd.prog 42 [(pEq (.int .i64 (0 : Int))), (pEq (.int .i64 (0 : Int)))] := ⟨(.agg #[.int .i64 0, .int .i64 0]), [.int .i64 0, .int .i64 0], fun _ => by kernel_rfl, rfl, fun _ _ => ⟨rfl, ⟨rfl, trivial⟩⟩⟩
theorem zero47 : Zero Tryd.prog 47 ((cArr (cArr (cK .i64))) (List.replicate 7 (List.replicate 2 (0 : Int)))) := ⟨(.agg #[.int .i64 0, .int .i64 0, .int .i64 0, .int .i64 0, .int .i64 0, .int .i64 0, .int .i64 0, .int .i64 0, .int .i64 0, .int .i64 0, .int .i64 0, .int .i64 0, .int .i64 0, .int .i64 0]), [.int .i64 0, .int .i64 0, .int .i64 0, .int .i64 0, .int .i64 0, .int .i64 0, .int .i64 0, .int .i64 0, .int .i64 0, .int .i64 0, .int .i64 0, .int .i64 0, .int .i64 0, .int .i64 0], fun _ => by kernel_rfl, rfl, fun _ _ => ⟨rfl, ⟨rfl, ⟨rfl, ⟨rfl, ⟨rfl, ⟨rfl, ⟨rfl, ⟨rfl, ⟨rfl, ⟨rfl, ⟨rfl, ⟨rfl, ⟨rfl, ⟨rfl, trivial⟩⟩⟩⟩⟩⟩⟩⟩⟩⟩⟩⟩⟩⟩⟩
theorem bl42 : ∀ ps, Tryd.prog.built 42 ps = Instr.fill (fun x => (#[(0, 1), (1, 1)] : Array (Nat × Nat))[x]?) (List.toArray [.int .i64 0, .int .i64 0]) ps := fun _ => by kernel_rfl
theorem bz42 : ∀ I w, Vals I w [(pEq (.int .i64 (0 : Int))), (pEq (.int .i64 (0 : Int)))] [.int .i64 0, .int .i64 0] := fun _ _ => ⟨rfl, ⟨rfl, trivial⟩⟩
theorem bz42o : ∀ I w, Vals I w [(pEq (.int .i64 (0 : Int))), (pEq (.int .i64 (0 : Int)))] [.int .i64 0, .int .i64 0] := fun _ _ => ⟨rfl, ⟨rfl, trivial⟩⟩
theorem bl46 : ∀ ps, Tryd.prog.built 46 ps = Instr.fill (fun i => some (i * 1, 1)) (List.toArray [.int .i64 0, .int .i64 0]) ps := fun _ => by kernel_rfl
theorem bz46 : ∀ I w, Vals I w [(pEq (.int .i64 (0 : Int))), (pEq (.int .i64 (0 : Int)))] [.int .i64 0, .int .i64 0] := fun _ _ => ⟨rfl, ⟨rfl, trivial⟩⟩
theorem bz46o : ∀ I w, Vals I w [(pEq (.int .i64 (0 : Int))), (pEq (.int .i64 (0 : Int)))] [.int .i64 0, .int .i64 0] := fun _ _ => ⟨rfl, ⟨rfl, trivial⟩⟩
theorem bl47 : ∀ ps, Tryd.prog.built 47 ps = Instr.fill (fun i => some (i * 2, 2)) (List.toArray [.int .i64 0, .int .i64 0, .int .i64 0, .int .i64 0, .int .i64 0, .int .i64 0, .int .i64 0, .int .i64 0, .int .i64 0, .int .i64 0, .int .i64 0, .int .i64 0, .int .i64 0, .int .i64 0]) ps := fun _ => by kernel_rfl
theorem bz47 : ∀ I w, Vals I w [(pEq (.int .i64 (0 : Int))), (pEq (.int .i64 (0 : Int))), (pEq (.int .i64 (0 : Int))), (pEq (.int .i64 (0 : Int))), (pEq (.int .i64 (0 : Int))), (pEq (.int .i64 (0 : Int))), (pEq (.int .i64 (0 : Int))), (pEq (.int .i64 (0 : Int))), (pEq (.int .i64 (0 : Int))), (pEq (.int .i64 (0 : Int))), (pEq (.int .i64 (0 : Int))), (pEq (.int .i64 (0 : Int))), (pEq (.int .i64 (0 : Int))), (pEq (.int .i64 (0 : Int)))] [.int .i64 0, .int .i64 0, .int .i64 0, .int .i64 0, .int .i64 0, .int .i64 0, .int .i64 0, .int .i64 0, .int .i64 0, .int .i64 0, .int .i64 0, .int .i64 0, .int .i64 0, .int .i64 0] := fun _ _ => ⟨rfl, ⟨rfl, ⟨rfl, ⟨rfl, ⟨rfl, ⟨rfl, ⟨rfl, ⟨rfl, ⟨rfl, ⟨rfl, ⟨rfl, ⟨rfl, ⟨rfl, ⟨rfl, trivial⟩⟩⟩⟩⟩⟩⟩⟩⟩⟩⟩⟩⟩⟩
theorem bz47o : ∀ I w, Vals I w [(pEq (.int .i64 (0 : Int))), (pEq (.int .i64 (0 : Int))), (pEq (.int .i64 (0 : Int))), (pEq (.int .i64 (0 : Int))), (pEq (.int .i64 (0 : Int))), (pEq (.int .i64 (0 : Int))), (pEq (.int .i64 (0 : Int))), (pEq (.int .i64 (0 : Int))), (pEq (.int .i64 (0 : Int))), (pEq (.int .i64 (0 : Int))), (pEq (.int .i64 (0 : Int))), (pEq (.int .i64 (0 : Int))), (pEq (.int .i64 (0 : Int))), (pEq (.int .i64 (0 : Int)))] [.int .i64 0, .int .i64 0, .int .i64 0, .int .i64 0, .int .i64 0, .int .i64 0, .int .i64 0, .int .i64 0, .int .i64 0, .int .i64 0, .int .i64 0, .int .i64 0, .int .i64 0, .int .i64 0] := fun _ _ => ⟨rfl, ⟨rfl, ⟨rfl, ⟨rfl, ⟨rfl, ⟨rfl, ⟨rfl, ⟨rfl, ⟨rfl, ⟨rfl, ⟨rfl, ⟨rfl, ⟨rfl, ⟨rfl, trivial⟩⟩⟩⟩⟩⟩⟩⟩⟩⟩⟩⟩⟩⟩
theorem el2i : (Tryd.prog.info? 2).map (fun i => (i.zero, i.size, i.bytes)) = some (some (.int .i64 0), 1, 8) := by kernel_rfl
theorem el2 : Elem Tryd.prog 2 1 8 (cK .i64) (0 : Int) := by
  obtain ⟨i, h1, h2, h3, h4⟩ := info_parts el2i
  exact ⟨i, (.int .i64 0), [.int .i64 0], h1, h2, h3, h4, rfl, rfl, by decide, fun _ _ => ⟨rfl, trivial⟩, fun _ => rfl, fun _ _ _ _ h => ones_of ((OneCs.cons OneC.int OneCs.nil)) h⟩
theorem el46i : (Tryd.prog.info? 46).map (fun i => (i.zero, i.size, i.bytes)) = some (some (.agg #[.int .i64 0, .int .i64 0]), 2, 16) := by kernel_rfl
theorem el46 : Elem Tryd.prog 46 2 16 (cArrF 2 (0 : Int) (cK .i64)) (List.replicate 2 (0 : Int)) := by
  obtain ⟨i, h1, h2, h3, h4⟩ := info_parts el46i
  exact ⟨i, (.agg #[.int .i64 0, .int .i64 0]), [.int .i64 0, .int .i64 0], h1, h2, h3, h4, rfl, rfl, by decide, fun _ _ => ⟨rfl, ⟨rfl, trivial⟩⟩, fun _ => cArrF_len (k := 1) (fun _ => rfl), fun _ _ _ _ h => cArrF_one (fun _ _ _ _ h => ones_of (OneCs.cons OneC.int OneCs.nil) h) h⟩
section
open Go.Shelf
def lays61_ren : Go.Shelf.Ren := ⟨fun | 173 => 61 | 246 => 65 | 283 => 66 | 284 => 67 | 285 => 68 | 286 => 69 | 129 => 71 | 317 => 70 | 318 => 72 | 319 => 73 | 320 => 74 | 337 => 75 | 338 => 76 | n => n, fun | 2 => 2 | 3 => 3 | 9 => 9 | 4 => 4 | 171 => 54 | 0 => 0 | 53 => 55 | 37 => 58 | 5 => 5 | 173 => 59 | 212 => 63 | 51 => 64 | 20 => 20 | 213 => 65 | 46 => 44 | 232 => 68 | 233 => 69 | n => n, fun | 17 => 0 | 18 => 1 | 19 => 2 | n => n⟩
theorem lays61 : Go.Proofs.LaysM.n173 Tryd.prog lays61_ren := {
  mixed := by kernel_rfl
  f129 := Tryd.func71.trans (congrArg some (by kernel_rfl))
  f173 := Tryd.func61.trans (congrArg some (by kernel_rfl))
  f246 := Tryd.func65.trans (congrArg some (by kernel_rfl))
  f283 := Tryd.func66.trans (congrArg some (by kernel_rfl))
  f284 := Tryd.func67.trans (congrArg some (by kernel_rfl))
  f285 := Tryd.func68.trans (congrArg some (by kernel_rfl))
  f286 := Tryd.func69.trans (congrArg some (by kernel_rfl))
  f317 := Tryd.func70.trans (congrArg some (by kernel_rfl))
  f318 := Tryd.func72.trans (congrArg some (by kernel_rfl))
  f319 := Tryd.func73.trans (congrArg some (by kernel_rfl))
  f320 := Tryd.func74.trans (congrArg some (by kernel_rfl))
  f337 := Tryd.func75.trans (congrArg some (by kernel_rfl))
  f338 := Tryd.func76.trans (congrArg some (by kernel_rfl))
  t0 := Tryd.underlying0
  a0 := Tryd.isAgg0
  z0 := Tryd.sizeOf0
  v0 := Tryd.zeroValue0
  t2 := Tryd.underlying2
  a2 := Tryd.isAgg2
  z2 := Tryd.sizeOf2
  v2 := Tryd.zeroValue2
  t3 := Tryd.underlying3
  a3 := Tryd.isAgg3
  z3 := Tryd.sizeOf3
  v3 := Tryd.zeroValue3
  t4 := Tryd.underlying4
  a4 := Tryd.isAgg4
  z4 := Tryd.sizeOf4
  v4 := Tryd.zeroValue4
  t5 := Tryd.underlying5
  a5 := Tryd.isAgg5
  z5 := Tryd.sizeOf5
  v5 := Tryd.zeroValue5
  t9 := Tryd.underlying9
  a9 := Tryd.isAgg9
  z9 := Tryd.sizeOf9
  v9 := Tryd.zeroValue9
  t20 := Tryd.underlying20
  a20 := Tryd.isAgg20
  z20 := Tryd.sizeOf20
  v20 := Tryd.zeroValue20
  t37 := Tryd.underlying58
  a37 := Tryd.isAgg58
  z37 := Tryd.sizeOf58
  v37 := Tryd.zeroValue58
  t46 := Tryd.underlying44
  a46 := Tryd.isAgg44
  z46 := Tryd.sizeOf44
  v46 := Tryd.zeroValue44
  t51 := Tryd.underlying64
  a51 := Tryd.isAgg64
  z51 := Tryd.sizeOf64
  v51 := Tryd.zeroValue64
  t53 := Tryd.underlying55
  a53 := Tryd.isAgg55
  z53 := Tryd.sizeOf55
  v53 := Tryd.zeroValue55
  t171 := Tryd.underlying54
  a171 := Tryd.isAgg54
  z171 := Tryd.sizeOf54
  v171 := Tryd.zeroValue54
  t173 := Tryd.underlying59
  a173 := Tryd.isAgg59
  z173 := Tryd.sizeOf59
  v173 := Tryd.zeroValue59
  t212 := Tryd.underlying63
  a212 := Tryd.isAgg63
  z212 := Tryd.sizeOf63
  v212 := Tryd.zeroValue63
  t213 := Tryd.underlying65
  a213 := Tryd.isAgg65
  z213 := Tryd.sizeOf65
  t232 := Tryd.underlying68
  a232 := Tryd.isAgg68
  z232 := Tryd.sizeOf68
  v232 := Tryd.zeroValue68
  t233 := Tryd.underlying69
  a233 := Tryd.isAgg69
  z233 := Tryd.sizeOf69
  v233 := Tryd.zeroValue69
  g17 := by kernel_rfl
  g18 := by kernel_rfl
  g19 := by kernel_rfl
  i0 := by kernel_rfl
  i2 := by kernel_rfl
  i3 := by kernel_rfl
  i4 := by kernel_rfl
  i5 := by kernel_rfl
  i9 := by kernel_rfl
  i20 := by kernel_rfl
  i37 := by kernel_rfl
  i46 := by kernel_rfl
  i51 := by kernel_rfl
  i53 := by kernel_rfl
  i171 := by kernel_rfl
  i173 := by kernel_rfl
  i212 := by kernel_rfl
  i232 := by kernel_rfl
  i233 := by kernel_rfl
  m17 := by kernel_rfl
  m18 := by kernel_rfl
  m19 := by kernel_rfl }
end



theorem c_spec_l00In {n_0 : Int} {low_1 : Int} {high_2 : Int} {r : Bool} (h : m_spec_l00In n_0 low_1 high_2 = some r) : CallJ Tryd.prog 34 [(pEq (.int .i64 n_0)), (pEq (.int .i64 low_1)), (pEq (.int .i64 high_2))] (pEq (.bool r)) := by
  unfold m_spec_l00In at h
  refine CallJ.enterH Tryd.func34 rfl Tryd.ntmps34 rfl fun W I0 H => ?_
  refine Tr.weak (Γ' := [(0, (pEq (.int .i64 n_0))), (1, (pEq (.int .i64 low_1))), (2, (pEq (.int .i64 high_2)))]) ⟨rfl, rfl, rfl, trivial⟩ ?_
  refine Tr.seq ?_
  refine Tr.region ?_
  refine RegL.pure (p := (pEq (.bool false))) rfl rfl rfl (J_assign rfl Opd.con) ?_
  refine RegL.nil ?_
  refine Ct.then_tr ?_
  refine Tr.weak (Γ' := [(0, (pEq (.int .i64 n_0))), (1, (pEq (.int .i64 low_1))), (2, (pEq (.int .i64 high_2)))]) ⟨rfl, rfl, rfl, trivial⟩ ?_
  refine Tr.seq ?_
  replace h := bind_some h; obtain ⟨x1, hx1, h⟩ := h
  refine Tr.cut (γ := Unit) (Γm := fun g => [(6, (pEq (.bool x1)))]) (Ωm := fun g => []) ?_ (fun g3 => ?_)
  · clear h
    have h := hx1
    clear hx1
    refine Tr.region ?_
    refine RegL.pure (p := (pEq (.int .i64 n_0))) rfl rfl rfl (J_move rfl (Opd.tmp rfl)) ?_
    refine RegL.pure (p := (pEq (.int .i64 low_1))) rfl rfl rfl (J_move rfl (Opd.tmp rfl)) ?_
    refine RegL.pure (p := (pEq (.bool (decide (low_1 ≤ n_0))))) rfl rfl rfl (J_bin rfl (Opd.tmp rfl) (Opd.tmp rfl) B_geq) ?_
    refine RegL.pure (p := (pEq (.bool (decide (low_1 ≤ n_0))))) rfl rfl rfl (J_move rfl (Opd.tmp rfl)) ?_
    rcases Bool.eq_false_or_eq_true (decide (low_1 ≤ n_0)) with hc2 | hc2
    · replace h := bif_t hc2 h
      refine RegL.pureG (p := (pEq (.int .i64 n_0))) rfl rfl rfl hc2 rfl rfl (J_move rfl (Opd.tmp rfl)) ?_
      refine RegL.pureG (p := (pEq (.int .i64 high_2))) rfl rfl rfl hc2 rfl rfl (J_move rfl (Opd.tmp rfl)) ?_
      refine RegL.pureG (p := (pEq (.bool (decide (n_0 ≤ high_2))))) rfl rfl rfl hc2 rfl rfl (J_bin rfl (Opd.tmp rfl) (Opd.tmp rfl) B_leq) ?_
      refine RegL.pure (p := (pEq (.bool (decide (n_0 ≤ high_2))))) rfl rfl rfl (J_pick rfl (Opd.tmp rfl) (fun _ => (Opd.tmp rfl)) (fun hf => absurd (hc2.symm.trans hf) (by decide))) ?_
      refine RegL.pure (p := (pEq (.bool (decide (n_0 ≤ high_2))))) rfl rfl rfl (J_assign rfl (Opd.tmp rfl)) ?_
      refine RegL.nil ?_
      replace h := Option.some.inj h; subst h
      exact Ct.mid () rfl ⟨rfl, trivial⟩
    · replace h := bif_f hc2 h
      refine RegL.skipG rfl rfl rfl hc2 rfl rfl ?_
      refine RegL.skipG rfl rfl rfl hc2 rfl rfl ?_
      refine RegL.skipG rfl rfl rfl hc2 rfl rfl ?_
      refine RegL.pure (p := (pEq (.bool false))) rfl rfl rfl (J_pick rfl (Opd.tmp rfl) (fun hf => absurd (hc2.symm.trans hf) (by decide)) (fun _ => Opd.con)) ?_
      refine RegL.pure (p := (pEq (.bool false))) rfl rfl rfl (J_assign rfl (Opd.tmp rfl)) ?_
      refine RegL.nil ?_
      replace h := Option.some.inj h; subst h
      exact Ct.mid () rfl ⟨rfl, trivial⟩
  · clear hx1
    refine Ct.then_tr ?_
    refine Tr.weak (Γ' := [(6, (pEq (.bool x1)))]) ⟨rfl, trivial⟩ ?_
    refine Tr.ret ?_
    replace h := Option.some.inj h; subst h
    exact Ct.retH1 (Ωx := []) () rfl (RvOk.tmp rfl) rfl

theorem c_spec_l09Frequency {f_0 : Int} {r : Bool} (h : m_spec_l09Frequency f_0 = some r) : CallJ Tryd.prog 15 [(pEq (.int .i64 f_0))] (pEq (.bool r)) := by
  unfold m_spec_l09Frequency at h
  refine CallJ.enterH Tryd.func15 rfl Tryd.ntmps15 rfl fun W I0 H => ?_
  refine Tr.weak (Γ' := [(0, (pEq (.int .i64 f_0)))]) ⟨rfl, trivial⟩ ?_
  refine Tr.seq ?_
  refine Tr.region ?_
  refine RegL.pure (p := (pEq (.bool false))) rfl rfl rfl (J_assign rfl Opd.con) ?_
  refine RegL.nil ?_
  refine Ct.then_tr ?_
  refine Tr.weak (Γ' := [(0, (pEq (.int .i64 f_0)))]) ⟨rfl, trivial⟩ ?_
  refine Tr.seq ?_
  refine Tr.region ?_
  refine RegL.pure (p := (pEq (.int .i64 f_0))) rfl rfl rfl (J_move rfl (Opd.tmp rfl)) ?_
  replace h := bind_some h; obtain ⟨x1, hx1, h⟩ := h
  refine RegL.pure (p := (pEq (.bool x1))) rfl rfl rfl (J_call rfl Tryd.call34 (c_spec_l00In hx1) (Opds.cons (Opd.tmp rfl) (Opds.cons Opd.con (Opds.cons Opd.con Opds.nil)))) ?_
  refine RegL.pure (p := (pEq (.bool x1))) rfl rfl rfl (J_assign rfl (Opd.tmp rfl)) ?_
  refine RegL.nil ?_
  refine Ct.then_tr ?_
  refine Tr.weak (Γ' := [(2, (pEq (.bool x1)))]) ⟨rfl, trivial⟩ ?_
  refine Tr.ret ?_
  replace h := Option.some.inj h; subst h
  exact Ct.retH1 (Ωx := []) () rfl (RvOk.tmp rfl) rfl

theorem c_spec_l09Distance {d_0 : Int} {r : Bool} (h : m_spec_l09Distance d_0 = some r) : CallJ Tryd.prog 16 [(pEq (.int .i64 d_0))] (pEq (.bool r)) := by
  unfold m_spec_l09Distance at h
  refine CallJ.enterH Tryd.func16 rfl Tryd.ntmps16 rfl fun W I0 H => ?_
  refine Tr.weak (Γ' := [(0, (pEq (.int .i64 d_0)))]) ⟨rfl, trivial⟩ ?_
  refine Tr.seq ?_
  refine Tr.region ?_
  refine RegL.pure (p := (pEq (.bool false))) rfl rfl rfl (J_assign rfl Opd.con) ?_
  refine RegL.nil ?_
  refine Ct.then_tr ?_
  refine Tr.weak (Γ' := [(0, (pEq (.int .i64 d_0)))]) ⟨rfl, trivial⟩ ?_
  refine Tr.seq ?_
  refine Tr.region ?_
  refine RegL.pure (p := (pEq (.int .i64 d_0))) rfl rfl rfl (J_move rfl (Opd.tmp rfl)) ?_
  replace h := bind_some h; obtain ⟨x1, hx1, h⟩ := h
  refine RegL.pure (p := (pEq (.bool x1))) rfl rfl rfl (J_call rfl Tryd.call34 (c_spec_l00In hx1) (Opds.cons (Opd.tmp rfl) (Opds.cons Opd.con (Opds.cons Opd.con Opds.nil)))) ?_
  refine RegL.pure (p := (pEq (.bool x1))) rfl rfl rfl (J_assign rfl (Opd.tmp rfl)) ?_
  refine RegL.nil ?_
  refine Ct.then_tr ?_
  refine Tr.weak (Γ' := [(2, (pEq (.bool x1)))]) ⟨rfl, trivial⟩ ?_
  refine Tr.ret ?_
  replace h := Option.some.inj h; subst h
  exact Ct.retH1 (Ωx := []) () rfl (RvOk.tmp rfl) rfl

theorem c_spec_l13Climate {c_0 : Int} {r : Bool} (h : m_spec_l13Climate c_0 = some r) : CallJ Tryd.prog 17 [(pEq (.int .i64 c_0))] (pEq (.bool r)) := by
  unfold m_spec_l13Climate at h
  refine CallJ.enterH Tryd.func17 rfl Tryd.ntmps17 rfl fun W I0 H => ?_
  refine Tr.weak (Γ' := [(0, (pEq (.int .i64 c_0)))]) ⟨rfl, trivial⟩ ?_
  refine Tr.seq ?_
  refine Tr.region ?_
  refine RegL.pure (p := (pEq (.bool false))) rfl rfl rfl (J_assign rfl Opd.con) ?_
  refine RegL.nil ?_
  refine Ct.then_tr ?_
  refine Tr.weak (Γ' := [(0, (pEq (.int .i64 c_0)))]) ⟨rfl, trivial⟩ ?_
  refine Tr.seq ?_
  refine Tr.region ?_
  refine RegL.pure (p := (pEq (.int .i64 c_0))) rfl rfl rfl (J_move rfl (Opd.tmp rfl)) ?_
  replace h := bind_some h; obtain ⟨x1, hx1, h⟩ := h
  refine RegL.pure (p := (pEq (.bool x1))) rfl rfl rfl (J_call rfl Tryd.call34 (c_spec_l00In hx1) (Opds.cons (Opd.tmp rfl) (Opds.cons Opd.con (Opds.cons Opd.con Opds.nil)))) ?_
  refine RegL.pure (p := (pEq (.bool x1))) rfl rfl rfl (J_assign rfl (Opd.tmp rfl)) ?_
  refine RegL.nil ?_
  refine Ct.then_tr ?_
  refine Tr.weak (Γ' := [(2, (pEq (.bool x1)))]) ⟨rfl, trivial⟩ ?_
  refine Tr.ret ?_
  replace h := Option.some.inj h; subst h
  exact Ct.retH1 (Ωx := []) () rfl (RvOk.tmp rfl) rfl

theorem c_spec_l13Margin {m_0 : Int} {r : Bool} (h : m_spec_l13Margin m_0 = some r) : CallJ Tryd.prog 18 [(pEq (.int .i64 m_0))] (pEq (.bool r)) := by
  unfold m_spec_l13Margin at h
  refine CallJ.enterH Tryd.func18 rfl Tryd.ntmps18 rfl fun W I0 H => ?_
  refine Tr.weak (Γ' := [(0, (pEq (.int .i64 m_0)))]) ⟨rfl, trivial⟩ ?_
  refine Tr.seq ?_
  refine Tr.region ?_
  refine RegL.pure (p := (pEq (.bool false))) rfl rfl rfl (J_assign rfl Opd.con) ?_
  refine RegL.nil ?_
  refine Ct.then_tr ?_
  refine Tr.weak (Γ' := [(0, (pEq (.int .i64 m_0)))]) ⟨rfl, trivial⟩ ?_
  refine Tr.seq ?_
  refine Tr.region ?_
  refine RegL.pure (p := (pEq (.int .i64 m_0))) rfl rfl rfl (J_move rfl (Opd.tmp rfl)) ?_
  replace h := bind_some h; obtain ⟨x1, hx1, h⟩ := h
  refine RegL.pure (p := (pEq (.bool x1))) rfl rfl rfl (J_call rfl Tryd.call34 (c_spec_l00In hx1) (Opds.cons (Opd.tmp rfl) (Opds.cons Opd.con (Opds.cons Opd.con Opds.nil)))) ?_
  refine RegL.pure (p := (pEq (.bool x1))) rfl rfl rfl (J_assign rfl (Opd.tmp rfl)) ?_
  refine RegL.nil ?_
  refine Ct.then_tr ?_
  refine Tr.weak (Γ' := [(2, (pEq (.bool x1)))]) ⟨rfl, trivial⟩ ?_
  refine Tr.ret ?_
  replace h := Option.some.inj h; subst h
  exact Ct.retH1 (Ωx := []) () rfl (RvOk.tmp rfl) rfl

theorem c_spec_l02Times {a_0 : Int} {b_1 : Int} {r : (Int × Int)} (h : m_spec_l02Times a_0 b_1 = some r) : CallJ Tryd.prog 60 [(pEq (.int .i64 a_0)), (pEq (.int .i64 b_1))] (pTup [(pEq (.int .i64 r.1)), (pEq (.int .i64 r.2))]) := by
  unfold m_spec_l02Times at h
  refine CallJ.enterH Tryd.func60 rfl Tryd.ntmps60 rfl fun W I0 H => ?_
  refine Tr.weak (Γ' := [(0, (pEq (.int .i64 a_0))), (1, (pEq (.int .i64 b_1)))]) ⟨rfl, rfl, trivial⟩ ?_
  refine Tr.seq ?_
  refine Tr.region ?_
  refine RegL.pure (p := (pEq (.int .i64 (0 : Int)))) rfl rfl rfl (J_assign rfl Opd.con) ?_
  refine RegL.pure (p := (pEq (.int .i64 (0 : Int)))) rfl rfl rfl (J_assign rfl Opd.con) ?_
  refine RegL.nil ?_
  refine Ct.then_tr ?_
  refine Tr.weak (Γ' := [(0, (pEq (.int .i64 a_0))), (1, (pEq (.int .i64 b_1)))]) ⟨rfl, rfl, trivial⟩ ?_
  refine Tr.seq ?_
  refine Tr.region ?_
  refine RegL.pure (p := (pEq (.int .i64 a_0))) rfl rfl rfl (J_move rfl (Opd.tmp rfl)) ?_
  refine RegL.pure (p := (pEq (.int .i64 b_1))) rfl rfl rfl (J_move rfl (Opd.tmp rfl)) ?_
  refine RegL.pure (p := (pEq (.int .i64 (w64 (a_0 * b_1))))) rfl rfl rfl (J_bin rfl (Opd.tmp rfl) (Opd.tmp rfl) B_mul) ?_
  refine RegL.pure (p := (pEq (.int .i64 (w64 ((w64 (a_0 * b_1)).tdiv (100000000 : Int)))))) rfl rfl rfl (J_bin rfl (Opd.tmp rfl) Opd.con (B_quo (n := (100000000 : Int)) (by decide))) ?_
  refine RegL.pure (p := (pEq (.int .i64 (w64 ((w64 (a_0 * b_1)).tdiv (100000000 : Int)))))) rfl rfl rfl (J_assign rfl (Opd.tmp rfl)) ?_
  refine RegL.nil ?_
  refine Ct.then_tr ?_
  refine Tr.weak (Γ' := [(6, (pEq (.int .i64 (w64 ((w64 (a_0 * b_1)).tdiv (100000000 : Int))))))]) ⟨rfl, trivial⟩ ?_
  refine Tr.seq ?_
  refine Tr.seq ?_
  refine Tr.region ?_
  refine RegL.pure (p := (pEq (.int .i64 (w64 ((w64 (a_0 * b_1)).tdiv (100000000 : Int)))))) rfl rfl rfl (J_move rfl (Opd.tmp rfl)) ?_
  refine RegL.pure (p := (pEq (.bool (decide ((1000000000 : Int) ≤ (w64 ((w64 (a_0 * b_1)).tdiv (100000000 : Int)))))))) rfl rfl rfl (J_bin rfl (Opd.tmp rfl) Opd.con B_geq) ?_
  refine RegL.nil ?_
  refine Ct.then_tr ?_
  refine Tr.weak (Γ' := [(6, (pEq (.int .i64 (w64 ((w64 (a_0 * b_1)).tdiv (100000000 : Int)))))), (12, (pEq (.bool (decide ((1000000000 : Int) ≤ (w64 ((w64 (a_0 * b_1)).tdiv (100000000 : Int))))))))]) ⟨rfl, rfl, trivial⟩ ?_
  refine Tr.cond (Opd.tmp rfl) (fun hc => ?_) (fun hc => ?_)
  · replace h := bif_t hc h
    refine Tr.seq ?_
    refine Tr.region ?_
    refine RegL.pure (p := (pEq (.int .i64 (w64 ((w64 (a_0 * b_1)).tdiv (100000000 : Int)))))) rfl rfl rfl (J_move rfl (Opd.tmp rfl)) ?_
    refine RegL.pure (p := (pEq (.int .i64 (w64 ((w64 ((w64 (a_0 * b_1)).tdiv (100000000 : Int))).tdiv (10 : Int)))))) rfl rfl rfl (J_bin rfl (Opd.tmp rfl) Opd.con (B_quo (n := (10 : Int)) (by decide))) ?_
    refine RegL.pure (p := (pEq (.int .i64 (w64 ((w64 ((w64 (a_0 * b_1)).tdiv (100000000 : Int))).tdiv (10 : Int)))))) rfl rfl rfl (J_assign rfl (Opd.tmp rfl)) ?_
    refine RegL.pure (p := (pEq (.int .i64 (1 : Int)))) rfl rfl rfl (J_assign rfl Opd.con) ?_
    refine RegL.nil ?_
    refine Ct.then_tr ?_
    refine Tr.weak (Γ' := [(4, (pEq (.int .i64 (w64 ((w64 ((w64 (a_0 * b_1)).tdiv (100000000 : Int))).tdiv (10 : Int)))))), (5, (pEq (.int .i64 (1 : Int))))]) ⟨rfl, rfl, trivial⟩ ?_
    refine Tr.ret ?_
    refine Ct.then_ret ?_
    replace h := Option.some.inj h; subst h
    exact Ct.retH2 (Ωx := []) () rfl (RvOk.tmp rfl) (RvOk.tmp rfl) rfl rfl
  · replace h := bif_f hc h
    refine Tr.skip ?_
    refine Ct.then_tr ?_
    refine Tr.weak (Γ' := [(6, (pEq (.int .i64 (w64 ((w64 (a_0 * b_1)).tdiv (100000000 : Int))))))]) ⟨rfl, trivial⟩ ?_
    refine Tr.seq ?_
    refine Tr.region ?_
    refine RegL.pure (p := (pEq (.int .i64 (w64 ((w64 (a_0 * b_1)).tdiv (100000000 : Int)))))) rfl rfl rfl (J_move rfl (Opd.tmp rfl)) ?_
    refine RegL.pure (p := (pEq (.int .i64 (w64 ((w64 (a_0 * b_1)).tdiv (100000000 : Int)))))) rfl rfl rfl (J_assign rfl (Opd.tmp rfl)) ?_
    refine RegL.pure (p := (pEq (.int .i64 (0 : Int)))) rfl rfl rfl (J_assign rfl Opd.con) ?_
    refine RegL.nil ?_
    refine Ct.then_tr ?_
    refine Tr.weak (Γ' := [(4, (pEq (.int .i64 (w64 ((w64 (a_0 * b_1)).tdiv (100000000 : Int)))))), (5, (pEq (.int .i64 (0 : Int))))]) ⟨rfl, rfl, trivial⟩ ?_
    refine Tr.ret ?_
    replace h := Option.some.inj h; subst h
    exact Ct.retH2 (Ωx := []) () rfl (RvOk.tmp rfl) (RvOk.tmp rfl) rfl rfl

theorem c_spec_l02Tenth {x_0 : Int} {r : (Int × Int)} (h : m_spec_l02Tenth x_0 = some r) : CallJ Tryd.prog 51 [(pEq (.int .i64 x_0))] (pTup [(pEq (.int .i64 r.1)), (pEq (.int .i64 r.2))]) := by
  unfold m_spec_l02Tenth at h
  refine CallJ.enterH Tryd.func51 rfl Tryd.ntmps51 rfl fun W I0 H => ?_
  refine Tr.weak (Γ' := [(0, (pEq (.int .i64 x_0)))]) ⟨rfl, trivial⟩ ?_
  refine Tr.seq ?_
  refine Tr.region ?_
  refine RegL.pure (p := (pEq (.int .i64 (0 : Int)))) rfl rfl rfl (J_assign rfl Opd.con) ?_
  refine RegL.pure (p := (pEq (.int .i64 (0 : Int)))) rfl rfl rfl (J_assign rfl Opd.con) ?_
  refine RegL.nil ?_
  refine Ct.then_tr ?_
  refine Tr.weak (Γ' := [(0, (pEq (.int .i64 x_0)))]) ⟨rfl, trivial⟩ ?_
  refine Tr.seq ?_
  refine Tr.region ?_
  refine RegL.pure (p := (pEq (.int .i64 x_0))) rfl rfl rfl (J_move rfl (Opd.tmp rfl)) ?_
  refine RegL.pure (p := (pEq (.int .i64 x_0))) rfl rfl rfl (J_move rfl (Opd.tmp rfl)) ?_
  replace h := bind_some h; obtain ⟨x1, hx1, h⟩ := h
  refine RegL.pure (p := (pTup [(pEq (.int .i64 x1.1)), (pEq (.int .i64 x1.2))])) rfl rfl rfl (J_call rfl Tryd.call60 (c_spec_l02Times hx1) (Opds.cons (Opd.tmp rfl) (Opds.cons (Opd.tmp rfl) Opds.nil))) ?_
  refine RegL.pure (p := (pTup [(pEq (.int .i64 x1.1)), (pEq (.int .i64 x1.2))])) rfl rfl rfl (J_move rfl (Opd.tmp rfl)) ?_
  refine RegL.pure (p := (pEq (.int .i64 x1.1))) rfl rfl rfl (J_extract rfl (Opd.tmp rfl) rfl) ?_
  refine RegL.pure (p := (pEq (.int .i64 x1.2))) rfl rfl rfl (J_extract rfl (Opd.tmp rfl) rfl) ?_
  refine RegL.pure (p := (pEq (.int .i64 x1.1))) rfl rfl rfl (J_assign rfl (Opd.tmp rfl)) ?_
  refine RegL.pure (p := (pEq (.int .i64 x1.2))) rfl rfl rfl (J_assign rfl (Opd.tmp rfl)) ?_
  refine RegL.nil ?_
  refine Ct.then_tr ?_
  refine Tr.weak (Γ' := [(0, (pEq (.int .i64 x_0))), (4, (pEq (.int .i64 x1.1))), (5, (pEq (.int .i64 x1.2)))]) ⟨rfl, rfl, rfl, trivial⟩ ?_
  refine Tr.seq ?_
  refine Tr.region ?_
  refine RegL.pure (p := (pEq (.int .i64 x1.1))) rfl rfl rfl (J_move rfl (Opd.tmp rfl)) ?_
  refine RegL.pure (p := (pEq (.int .i64 x1.1))) rfl rfl rfl (J_move rfl (Opd.tmp rfl)) ?_
  replace h := bind_some h; obtain ⟨x2, hx2, h⟩ := h
  refine RegL.pure (p := (pTup [(pEq (.int .i64 x2.1)), (pEq (.int .i64 x2.2))])) rfl rfl rfl (J_call rfl Tryd.call60 (c_spec_l02Times hx2) (Opds.cons (Opd.tmp rfl) (Opds.cons (Opd.tmp rfl) Opds.nil))) ?_
  refine RegL.pure (p := (pTup [(pEq (.int .i64 x2.1)), (pEq (.int .i64 x2.2))])) rfl rfl rfl (J_move rfl (Opd.tmp rfl)) ?_
  refine RegL.pure (p := (pEq (.int .i64 x2.1))) rfl rfl rfl (J_extract rfl (Opd.tmp rfl) rfl) ?_
  refine RegL.pure (p := (pEq (.int .i64 x2.2))) rfl rfl rfl (J_extract rfl (Opd.tmp rfl) rfl) ?_
  refine RegL.pure (p := (pEq (.int .i64 x2.1))) rfl rfl rfl (J_assign rfl (Opd.tmp rfl)) ?_
  refine RegL.pure (p := (pEq (.int .i64 x2.2))) rfl rfl rfl (J_assign rfl (Opd.tmp rfl)) ?_
  refine RegL.nil ?_
  refine Ct.then_tr ?_
  refine Tr.weak (Γ' := [(0, (pEq (.int .i64 x_0))), (5, (pEq (.int .i64 x1.2))), (6, (pEq (.int .i64 x2.1))), (7, (pEq (.int .i64 x2.2)))]) ⟨rfl, rfl, rfl, rfl, trivial⟩ ?_
  refine Tr.seq ?_
  refine Tr.region ?_
  refine RegL.pure (p := (pEq (.int .i64 x2.1))) rfl rfl rfl (J_move rfl (Opd.tmp rfl)) ?_
  refine RegL.pure (p := (pEq (.int .i64 x_0))) rfl rfl rfl (J_move rfl (Opd.tmp rfl)) ?_
  replace h := bind_some h; obtain ⟨x3, hx3, h⟩ := h
  refine RegL.pure (p := (pTup [(pEq (.int .i64 x3.1)), (pEq (.int .i64 x3.2))])) rfl rfl rfl (J_call rfl Tryd.call60 (c_spec_l02Times hx3) (Opds.cons (Opd.tmp rfl) (Opds.cons (Opd.tmp rfl) Opds.nil))) ?_
  refine RegL.pure (p := (pTup [(pEq (.int .i64 x3.1)), (pEq (.int .i64 x3.2))])) rfl rfl rfl (J_move rfl (Opd.tmp rfl)) ?_
  refine RegL.pure (p := (pEq (.int .i64 x3.1))) rfl rfl rfl (J_extract rfl (Opd.tmp rfl) rfl) ?_
  refine RegL.pure (p := (pEq (.int .i64 x3.2))) rfl rfl rfl (J_extract rfl (Opd.tmp rfl) rfl) ?_
  refine RegL.pure (p := (pEq (.int .i64 x3.1))) rfl rfl rfl (J_assign rfl (Opd.tmp rfl)) ?_
  refine RegL.pure (p := (pEq (.int .i64 x3.2))) rfl rfl rfl (J_assign rfl (Opd.tmp rfl)) ?_
  refine RegL.nil ?_
  refine Ct.then_tr ?_
  refine Tr.weak (Γ' := [(5, (pEq (.int .i64 x1.2))), (7, (pEq (.int .i64 x2.2))), (8, (pEq (.int .i64 x3.1))), (9, (pEq (.int .i64 x3.2)))]) ⟨rfl, rfl, rfl, rfl, trivial⟩ ?_
  refine Tr.seq ?_
  refine Tr.region ?_
  refine RegL.pure (p := (pEq (.int .i64 x3.1))) rfl rfl rfl (J_move rfl (Opd.tmp rfl)) ?_
  refine RegL.pure (p := (pEq (.int .i64 x3.1))) rfl rfl rfl (J_move rfl (Opd.tmp rfl)) ?_
  replace h := bind_some h; obtain ⟨x4, hx4, h⟩ := h
  refine RegL.pure (p := (pTup [(pEq (.int .i64 x4.1)), (pEq (.int .i64 x4.2))])) rfl rfl rfl (J_call rfl Tryd.call60 (c_spec_l02Times hx4) (Opds.cons (Opd.tmp rfl) (Opds.cons (Opd.tmp rfl) Opds.nil))) ?_
  refine RegL.pure (p := (pTup [(pEq (.int .i64 x4.1)), (pEq (.int .i64 x4.2))])) rfl rfl rfl (J_move rfl (Opd.tmp rfl)) ?_
  refine RegL.pure (p := (pEq (.int .i64 x4.1))) rfl rfl rfl (J_extract rfl (Opd.tmp rfl) rfl) ?_
  refine RegL.pure (p := (pEq (.int .i64 x4.2))) rfl rfl rfl (J_extract rfl (Opd.tmp rfl) rfl) ?_
  refine RegL.pure (p := (pEq (.int .i64 x4.1))) rfl rfl rfl (J_assign rfl (Opd.tmp rfl)) ?_
  refine RegL.pure (p := (pEq (.int .i64 x4.2))) rfl rfl rfl (J_assign rfl (Opd.tmp rfl)) ?_
  refine RegL.nil ?_
  refine Ct.then_tr ?_
  refine Tr.weak (Γ' := [(5, (pEq (.int .i64 x1.2))), (7, (pEq (.int .i64 x2.2))), (9, (pEq (.int .i64 x3.2))), (10, (pEq (.int .i64 x4.1))), (11, (pEq (.int .i64 x4.2)))]) ⟨rfl, rfl, rfl, rfl, rfl, trivial⟩ ?_
  refine Tr.seq ?_
  refine Tr.region ?_
  refine RegL.pure (p := (pEq (.int .i64 x4.1))) rfl rfl rfl (J_move rfl (Opd.tmp rfl)) ?_
  refine RegL.pure (p := (pEq (.int .i64 x1.2))) rfl rfl rfl (J_move rfl (Opd.tmp rfl)) ?_
  refine RegL.pure (p := (pEq (.int .i64 (w64 ((2 : Int) * x1.2))))) rfl rfl rfl (J_bin rfl Opd.con (Opd.tmp rfl) B_mul) ?_
  refine RegL.pure (p := (pEq (.int .i64 x2.2))) rfl rfl rfl (J_move rfl (Opd.tmp rfl)) ?_
  refine RegL.pure (p := (pEq (.int .i64 (w64 ((w64 ((2 : Int) * x1.2)) + x2.2))))) rfl rfl rfl (J_bin rfl (Opd.tmp rfl) (Opd.tmp rfl) B_add) ?_
  refine RegL.pure (p := (pEq (.int .i64 x3.2))) rfl rfl rfl (J_move rfl (Opd.tmp rfl)) ?_
  refine RegL.pure (p := (pEq (.int .i64 (w64 ((w64 ((w64 ((2 : Int) * x1.2)) + x2.2)) + x3.2))))) rfl rfl rfl (J_bin rfl (Opd.tmp rfl) (Opd.tmp rfl) B_add) ?_
  refine RegL.pure (p := (pEq (.int .i64 (w64 ((2 : Int) * (w64 ((w64 ((w64 ((2 : Int) * x1.2)) + x2.2)) + x3.2))))))) rfl rfl rfl (J_bin rfl Opd.con (Opd.tmp rfl) B_mul) ?_
  refine RegL.pure (p := (pEq (.int .i64 x4.2))) rfl rfl rfl (J_move rfl (Opd.tmp rfl)) ?_
  refine RegL.pure (p := (pEq (.int .i64 (w64 ((w64 ((2 : Int) * (w64 ((w64 ((w64 ((2 : Int) * x1.2)) + x2.2)) + x3.2)))) + x4.2))))) rfl rfl rfl (J_bin rfl (Opd.tmp rfl) (Opd.tmp rfl) B_add) ?_
  refine RegL.pure (p := (pEq (.int .i64 x4.1))) rfl rfl rfl (J_assign rfl (Opd.tmp rfl)) ?_
  refine RegL.pure (p := (pEq (.int .i64 (w64 ((w64 ((2 : Int) * (w64 ((w64 ((w64 ((2 : Int) * x1.2)) + x2.2)) + x3.2)))) + x4.2))))) rfl rfl rfl (J_assign rfl (Opd.tmp rfl)) ?_
  refine RegL.nil ?_
  refine Ct.then_tr ?_
  refine Tr.weak (Γ' := [(2, (pEq (.int .i64 x4.1))), (3, (pEq (.int .i64 (w64 ((w64 ((2 : Int) * (w64 ((w64 ((w64 ((2 : Int) * x1.2)) + x2.2)) + x3.2)))) + x4.2)))))]) ⟨rfl, rfl, trivial⟩ ?_
  refine Tr.ret ?_
  replace h := Option.some.inj h; subst h
  exact Ct.retH2 (Ωx := []) () rfl (RvOk.tmp rfl) (RvOk.tmp rfl) rfl rfl

theorem c_spec_l02Log {n_0 : Int} {r : Int} (h : m_spec_l02Log n_0 = some r) : CallJ Tryd.prog 35 [(pEq (.int .i64 n_0))] (pEq (.int .i64 r)) := by
  unfold m_spec_l02Log at h
  refine CallJ.enterH Tryd.func35 rfl Tryd.ntmps35 rfl fun W I0 H => ?_
  refine Tr.weak (Γ' := [(0, (pEq (.int .i64 n_0)))]) ⟨rfl, trivial⟩ ?_
  refine Tr.seq ?_
  refine Tr.region ?_
  refine RegL.pure (p := (pEq (.int .i64 (0 : Int)))) rfl rfl rfl (J_assign rfl Opd.con) ?_
  refine RegL.nil ?_
  refine Ct.then_tr ?_
  refine Tr.weak (Γ' := [(0, (pEq (.int .i64 n_0)))]) ⟨rfl, trivial⟩ ?_
  refine Tr.seq ?_
  refine Tr.region ?_
  refine RegL.pure (p := (pEq (.int .i64 (0 : Int)))) rfl rfl rfl (J_assign rfl Opd.con) ?_
  refine RegL.nil ?_
  refine Ct.then_tr ?_
  refine Tr.weak (Γ' := [(0, (pEq (.int .i64 n_0))), (3, (pEq (.int .i64 (0 : Int))))]) ⟨rfl, rfl, trivial⟩ ?_
  refine Tr.seq ?_
  refine Tr.seq ?_
  refine Tr.region ?_
  refine RegL.pure (p := (pEq (.int .i64 n_0))) rfl rfl rfl (J_move rfl (Opd.tmp rfl)) ?_
  refine RegL.pure (p := (pEq (.int .i64 n_0))) rfl rfl rfl (J_assign rfl (Opd.tmp rfl)) ?_
  refine RegL.nil ?_
  refine Ct.then_tr ?_
  refine Tr.weak (Γ' := [(0, (pEq (.int .i64 n_0))), (3, (pEq (.int .i64 (0 : Int)))), (4, (pEq (.int .i64 n_0)))]) ⟨rfl, rfl, rfl, trivial⟩ ?_
  replace h := bind_some h; obtain ⟨x1, hx1, h⟩ := h
  refine Tr.cut (γ := Unit) (Γm := fun g => [(0, (pEq (.int .i64 n_0))), (3, (pEq (.int .i64 x1)))]) (Ωm := fun g => []) ?_ (fun g6 => ?_)
  · clear h
    have h := hx1
    clear hx1
    refine Tr.block ?_
    refine Tr.weak (Γ' := [(0, (pEq (.int .i64 n_0))), (3, (pEq (.int .i64 (0 : Int)))), (4, (pEq (.int .i64 n_0)))]) ⟨rfl, rfl, rfl, trivial⟩ ?_
    refine Tr.loop (γ := Unit) (σ := (Int × Int)) (Γσ := fun s g => [(0, (pEq (.int .i64 n_0))), (3, (pEq (.int .i64 s.1))), (4, (pEq (.int .i64 s.2)))]) (Ωσ := fun s g => []) (g := ()) h ?_
    clear h
    rintro ⟨v3, v4⟩ g5 t h
    replace h : m_spec_l02Log_B2  v3 v4 = some t := h
    unfold m_spec_l02Log_B2 at h
    refine Tr.weakO (Γ' := [(0, (pEq (.int .i64 n_0))), (3, (pEq (.int .i64 v3))), (4, (pEq (.int .i64 v4)))]) (Ω' := []) rfl ⟨rfl, rfl, rfl, trivial⟩ ?_
    refine Tr.seq ?_
    refine Tr.seq ?_
    refine Tr.region ?_
    refine RegL.pure (p := (pEq (.int .i64 v4))) rfl rfl rfl (J_move rfl (Opd.tmp rfl)) ?_
    refine RegL.pure (p := (pEq (.bool (decide ((10 : Int) ≤ v4))))) rfl rfl rfl (J_bin rfl (Opd.tmp rfl) Opd.con B_geq) ?_
    refine RegL.nil ?_
    refine Ct.then_tr ?_
    refine Tr.weak (Γ' := [(0, (pEq (.int .i64 n_0))), (3, (pEq (.int .i64 v3))), (4, (pEq (.int .i64 v4))), (13, (pEq (.bool (decide ((10 : Int) ≤ v4)))))]) ⟨rfl, rfl, rfl, rfl, trivial⟩ ?_
    refine Tr.cond (Opd.tmp rfl) (fun hc => ?_) (fun hc => ?_)
    · replace h := bif_t hc h
      refine Tr.skip ?_
      refine Ct.then_tr ?_
      refine Tr.weak (Γ' := [(0, (pEq (.int .i64 n_0))), (3, (pEq (.int .i64 v3))), (4, (pEq (.int .i64 v4)))]) ⟨rfl, rfl, rfl, trivial⟩ ?_
      refine Tr.seq ?_
      refine Tr.block ?_
      refine Tr.region ?_
      refine RegL.pure (p := (pEq (.int .i64 v3))) rfl rfl rfl (J_move rfl (Opd.tmp rfl)) ?_
      refine RegL.pure (p := (pEq (.int .i64 (w64 (v3 + (1 : Int)))))) rfl rfl rfl (J_bin rfl (Opd.tmp rfl) Opd.con B_add) ?_
      refine RegL.pure (p := (pEq (.int .i64 (w64 (v3 + (1 : Int)))))) rfl rfl rfl (J_assign rfl (Opd.tmp rfl)) ?_
      refine RegL.nil ?_
      refine Ct.blk_normal ?_
      refine Ct.then_tr ?_
      refine Tr.weak (Γ' := [(0, (pEq (.int .i64 n_0))), (3, (pEq (.int .i64 (w64 (v3 + (1 : Int)))))), (4, (pEq (.int .i64 v4)))]) ⟨rfl, rfl, rfl, trivial⟩ ?_
      refine Tr.region ?_
      refine RegL.pure (p := (pEq (.int .i64 v4))) rfl rfl rfl (J_move rfl (Opd.tmp rfl)) ?_
      refine RegL.pure (p := (pEq (.int .i64 (w64 (v4.tdiv (10 : Int)))))) rfl rfl rfl (J_bin rfl (Opd.tmp rfl) Opd.con (B_quo (n := (10 : Int)) (by decide))) ?_
      refine RegL.pure (p := (pEq (.int .i64 (w64 (v4.tdiv (10 : Int)))))) rfl rfl rfl (J_assign rfl (Opd.tmp rfl)) ?_
      refine RegL.nil ?_
      replace h := Option.some.inj h; subst h
      exact Ct.again () rfl ⟨rfl, rfl, rfl, trivial⟩
    · replace h := bif_f hc h
      refine Tr.exit ?_
      refine Ct.then_exit ?_
      replace h := map_some h; obtain ⟨r1, h, rfl⟩ := h
      refine Ct.out_exit fun e => ?_
      subst e
      refine Ct.blk_exit ?_
      replace h := Option.some.inj h; subst h
      exact Ct.mid () rfl ⟨rfl, rfl, trivial⟩
  · clear hx1
    refine Ct.then_tr ?_
    refine Tr.weak (Γ' := [(0, (pEq (.int .i64 n_0))), (3, (pEq (.int .i64 x1)))]) ⟨rfl, rfl, trivial⟩ ?_
    refine Tr.seq ?_
    refine Tr.region ?_
    refine RegL.pure (p := (pEq (.int .i64 n_0))) rfl rfl rfl (J_move rfl (Opd.tmp rfl)) ?_
    refine RegL.pure (p := (pEq (.int .i64 n_0))) rfl rfl rfl (J_assign rfl (Opd.tmp rfl)) ?_
    refine RegL.nil ?_
    refine Ct.then_tr ?_
    refine Tr.weak (Γ' := [(3, (pEq (.int .i64 x1))), (5, (pEq (.int .i64 n_0)))]) ⟨rfl, rfl, trivial⟩ ?_
    refine Tr.seq ?_
    refine Tr.seq ?_
    refine Tr.region ?_
    refine RegL.pure (p := (pEq (.int .i64 x1))) rfl rfl rfl (J_move rfl (Opd.tmp rfl)) ?_
    refine RegL.pure (p := (pEq (.int .i64 x1))) rfl rfl rfl (J_assign rfl (Opd.tmp rfl)) ?_
    refine RegL.nil ?_
    refine Ct.then_tr ?_
    refine Tr.weak (Γ' := [(3, (pEq (.int .i64 x1))), (5, (pEq (.int .i64 n_0))), (6, (pEq (.int .i64 x1)))]) ⟨rfl, rfl, rfl, trivial⟩ ?_
    replace h := bind_some h; obtain ⟨x7, hx7, h⟩ := h
    refine Tr.cut (γ := Unit) (Γm := fun g => [(3, (pEq (.int .i64 x1))), (5, (pEq (.int .i64 x7)))]) (Ωm := fun g => []) ?_ (fun g12 => ?_)
    · clear h
      have h := hx7
      clear hx7
      refine Tr.block ?_
      refine Tr.weak (Γ' := [(3, (pEq (.int .i64 x1))), (5, (pEq (.int .i64 n_0))), (6, (pEq (.int .i64 x1)))]) ⟨rfl, rfl, rfl, trivial⟩ ?_
      refine Tr.loop (γ := Unit) (σ := (Int × Int)) (Γσ := fun s g => [(3, (pEq (.int .i64 x1))), (5, (pEq (.int .i64 s.1))), (6, (pEq (.int .i64 s.2)))]) (Ωσ := fun s g => []) (g := ()) h ?_
      clear h
      rintro ⟨v9, v10⟩ g11 t h
      replace h : m_spec_l02Log_B8  v9 v10 = some t := h
      unfold m_spec_l02Log_B8 at h
      refine Tr.weakO (Γ' := [(3, (pEq (.int .i64 x1))), (5, (pEq (.int .i64 v9))), (6, (pEq (.int .i64 v10)))]) (Ω' := []) rfl ⟨rfl, rfl, rfl, trivial⟩ ?_
      refine Tr.seq ?_
      refine Tr.seq ?_
      refine Tr.region ?_
      refine RegL.pure (p := (pEq (.int .i64 v10))) rfl rfl rfl (J_move rfl (Opd.tmp rfl)) ?_
      refine RegL.pure (p := (pEq (.bool (decide (v10 < (8 : Int)))))) rfl rfl rfl (J_bin rfl (Opd.tmp rfl) Opd.con B_lss) ?_
      refine RegL.nil ?_
      refine Ct.then_tr ?_
      refine Tr.weak (Γ' := [(3, (pEq (.int .i64 x1))), (5, (pEq (.int .i64 v9))), (6, (pEq (.int .i64 v10))), (21, (pEq (.bool (decide (v10 < (8 : Int))))))]) ⟨rfl, rfl, rfl, rfl, trivial⟩ ?_
      refine Tr.cond (Opd.tmp rfl) (fun hc => ?_) (fun hc => ?_)
      · replace h := bif_t hc h
        refine Tr.skip ?_
        refine Ct.then_tr ?_
        refine Tr.weak (Γ' := [(3, (pEq (.int .i64 x1))), (5, (pEq (.int .i64 v9))), (6, (pEq (.int .i64 v10)))]) ⟨rfl, rfl, rfl, trivial⟩ ?_
        refine Tr.seq ?_
        refine Tr.block ?_
        refine Tr.region ?_
        refine RegL.pure (p := (pEq (.int .i64 v9))) rfl rfl rfl (J_move rfl (Opd.tmp rfl)) ?_
        refine RegL.pure (p := (pEq (.int .i64 (w64 (v9 * (10 : Int)))))) rfl rfl rfl (J_bin rfl (Opd.tmp rfl) Opd.con B_mul) ?_
        refine RegL.pure (p := (pEq (.int .i64 (w64 (v9 * (10 : Int)))))) rfl rfl rfl (J_assign rfl (Opd.tmp rfl)) ?_
        refine RegL.nil ?_
        refine Ct.blk_normal ?_
        refine Ct.then_tr ?_
        refine Tr.weak (Γ' := [(3, (pEq (.int .i64 x1))), (5, (pEq (.int .i64 (w64 (v9 * (10 : Int)))))), (6, (pEq (.int .i64 v10)))]) ⟨rfl, rfl, rfl, trivial⟩ ?_
        refine Tr.region ?_
        refine RegL.pure (p := (pEq (.int .i64 v10))) rfl rfl rfl (J_move rfl (Opd.tmp rfl)) ?_
        refine RegL.pure (p := (pEq (.int .i64 (w64 (v10 + (1 : Int)))))) rfl rfl rfl (J_bin rfl (Opd.tmp rfl) Opd.con B_add) ?_
        refine RegL.pure (p := (pEq (.int .i64 (w64 (v10 + (1 : Int)))))) rfl rfl rfl (J_assign rfl (Opd.tmp rfl)) ?_
        refine RegL.nil ?_
        replace h := Option.some.inj h; subst h
        exact Ct.again () rfl ⟨rfl, rfl, rfl, trivial⟩
      · replace h := bif_f hc h
        refine Tr.exit ?_
        refine Ct.then_exit ?_
        replace h := map_some h; obtain ⟨r1, h, rfl⟩ := h
        refine Ct.out_exit fun e => ?_
        subst e
        refine Ct.blk_exit ?_
        replace h := Option.some.inj h; subst h
        exact Ct.mid () rfl ⟨rfl, rfl, trivial⟩
    · clear hx7
      refine Ct.then_tr ?_
      refine Tr.weak (Γ' := [(3, (pEq (.int .i64 x1))), (5, (pEq (.int .i64 x7)))]) ⟨rfl, rfl, trivial⟩ ?_
      refine Tr.seq ?_
      refine Tr.seq ?_
      refine Tr.region ?_
      refine RegL.pure (p := (pEq (.int .i64 x1))) rfl rfl rfl (J_move rfl (Opd.tmp rfl)) ?_
      refine RegL.pure (p := (pEq (.int .i64 x1))) rfl rfl rfl (J_assign rfl (Opd.tmp rfl)) ?_
      refine RegL.nil ?_
      refine Ct.then_tr ?_
      refine Tr.weak (Γ' := [(3, (pEq (.int .i64 x1))), (5, (pEq (.int .i64 x7))), (7, (pEq (.int .i64 x1)))]) ⟨rfl, rfl, rfl, trivial⟩ ?_
      replace h := bind_some h; obtain ⟨x13, hx13, h⟩ := h
      refine Tr.cut (γ := Unit) (Γm := fun g => [(3, (pEq (.int .i64 x1))), (5, (pEq (.int .i64 x13)))]) (Ωm := fun g => []) ?_ (fun g18 => ?_)
      · clear h
        have h := hx13
        clear hx13
        refine Tr.block ?_
        refine Tr.weak (Γ' := [(3, (pEq (.int .i64 x1))), (5, (pEq (.int .i64 x7))), (7, (pEq (.int .i64 x1)))]) ⟨rfl, rfl, rfl, trivial⟩ ?_
        refine Tr.loop (γ := Unit) (σ := (Int × Int)) (Γσ := fun s g => [(3, (pEq (.int .i64 x1))), (5, (pEq (.int .i64 s.1))), (7, (pEq (.int .i64 s.2)))]) (Ωσ := fun s g => []) (g := ()) h ?_
        clear h
        rintro ⟨v15, v16⟩ g17 t h
        replace h : m_spec_l02Log_B14  v15 v16 = some t := h
        unfold m_spec_l02Log_B14 at h
        refine Tr.weakO (Γ' := [(3, (pEq (.int .i64 x1))), (5, (pEq (.int .i64 v15))), (7, (pEq (.int .i64 v16)))]) (Ω' := []) rfl ⟨rfl, rfl, rfl, trivial⟩ ?_
        refine Tr.seq ?_
        refine Tr.seq ?_
        refine Tr.region ?_
        refine RegL.pure (p := (pEq (.int .i64 v16))) rfl rfl rfl (J_move rfl (Opd.tmp rfl)) ?_
        refine RegL.pure (p := (pEq (.bool (decide ((8 : Int) < v16))))) rfl rfl rfl (J_bin rfl (Opd.tmp rfl) Opd.con B_gtr) ?_
        refine RegL.nil ?_
        refine Ct.then_tr ?_
        refine Tr.weak (Γ' := [(3, (pEq (.int .i64 x1))), (5, (pEq (.int .i64 v15))), (7, (pEq (.int .i64 v16))), (28, (pEq (.bool (decide ((8 : Int) < v16)))))]) ⟨rfl, rfl, rfl, rfl, trivial⟩ ?_
        refine Tr.cond (Opd.tmp rfl) (fun hc => ?_) (fun hc => ?_)
        · replace h := bif_t hc h
          refine Tr.skip ?_
          refine Ct.then_tr ?_
          refine Tr.weak (Γ' := [(3, (pEq (.int .i64 x1))), (5, (pEq (.int .i64 v15))), (7, (pEq (.int .i64 v16)))]) ⟨rfl, rfl, rfl, trivial⟩ ?_
          refine Tr.seq ?_
          refine Tr.block ?_
          refine Tr.region ?_
          refine RegL.pure (p := (pEq (.int .i64 v15))) rfl rfl rfl (J_move rfl (Opd.tmp rfl)) ?_
          refine RegL.pure (p := (pEq (.int .i64 (w64 (v15.tdiv (10 : Int)))))) rfl rfl rfl (J_bin rfl (Opd.tmp rfl) Opd.con (B_quo (n := (10 : Int)) (by decide))) ?_
          refine RegL.pure (p := (pEq (.int .i64 (w64 (v15.tdiv (10 : Int)))))) rfl rfl rfl (J_assign rfl (Opd.tmp rfl)) ?_
          refine RegL.nil ?_
          refine Ct.blk_normal ?_
          refine Ct.then_tr ?_
          refine Tr.weak (Γ' := [(3, (pEq (.int .i64 x1))), (5, (pEq (.int .i64 (w64 (v15.tdiv (10 : Int)))))), (7, (pEq (.int .i64 v16)))]) ⟨rfl, rfl, rfl, trivial⟩ ?_
          refine Tr.region ?_
          refine RegL.pure (p := (pEq (.int .i64 v16))) rfl rfl rfl (J_move rfl (Opd.tmp rfl)) ?_
          refine RegL.pure (p := (pEq (.int .i64 (w64 (v16 - (1 : Int)))))) rfl rfl rfl (J_bin rfl (Opd.tmp rfl) Opd.con B_sub) ?_
          refine RegL.pure (p := (pEq (.int .i64 (w64 (v16 - (1 : Int)))))) rfl rfl rfl (J_assign rfl (Opd.tmp rfl)) ?_
          refine RegL.nil ?_
          replace h := Option.some.inj h; subst h
          exact Ct.again () rfl ⟨rfl, rfl, rfl, trivial⟩
        · replace h := bif_f hc h
          refine Tr.exit ?_
          refine Ct.then_exit ?_
          replace h := map_some h; obtain ⟨r1, h, rfl⟩ := h
          refine Ct.out_exit fun e => ?_
          subst e
          refine Ct.blk_exit ?_
          replace h := Option.some.inj h; subst h
          exact Ct.mid () rfl ⟨rfl, rfl, trivial⟩
      · clear hx13
        refine Ct.then_tr ?_
        refine Tr.weak (Γ' := [(3, (pEq (.int .i64 x1))), (5, (pEq (.int .i64 x13)))]) ⟨rfl, rfl, trivial⟩ ?_
        refine Tr.seq ?_
        refine Tr.seq ?_
        refine Tr.region ?_
        refine RegL.pure (p := (pEq (.int .i64 (0 : Int)))) rfl rfl rfl (J_assign rfl Opd.con) ?_
        refine RegL.nil ?_
        refine Ct.then_tr ?_
        refine Tr.weak (Γ' := [(3, (pEq (.int .i64 x1))), (5, (pEq (.int .i64 x13))), (8, (pEq (.int .i64 (0 : Int))))]) ⟨rfl, rfl, rfl, trivial⟩ ?_
        replace h := bind_some h; obtain ⟨x19, hx19, h⟩ := h
        refine Tr.cut (γ := Unit) (Γm := fun g => [(3, (pEq (.int .i64 x19)))]) (Ωm := fun g => []) ?_ (fun g26 => ?_)
        · clear h
          have h := hx19
          clear hx19
          refine Tr.block ?_
          refine Tr.weak (Γ' := [(3, (pEq (.int .i64 x1))), (5, (pEq (.int .i64 x13))), (8, (pEq (.int .i64 (0 : Int))))]) ⟨rfl, rfl, rfl, trivial⟩ ?_
          refine Tr.loop (γ := Unit) (σ := (Int × Int × Int)) (Γσ := fun s g => [(3, (pEq (.int .i64 s.1))), (5, (pEq (.int .i64 s.2.1))), (8, (pEq (.int .i64 s.2.2)))]) (Ωσ := fun s g => []) (g := ()) h ?_
          clear h
          rintro ⟨v21, v22, v23⟩ g24 t h
          replace h : m_spec_l02Log_B20  v21 v22 v23 = some t := h
          unfold m_spec_l02Log_B20 at h
          refine Tr.weakO (Γ' := [(3, (pEq (.int .i64 v21))), (5, (pEq (.int .i64 v22))), (8, (pEq (.int .i64 v23)))]) (Ω' := []) rfl ⟨rfl, rfl, rfl, trivial⟩ ?_
          refine Tr.seq ?_
          refine Tr.seq ?_
          refine Tr.region ?_
          refine RegL.pure (p := (pEq (.int .i64 v23))) rfl rfl rfl (J_move rfl (Opd.tmp rfl)) ?_
          refine RegL.pure (p := (pEq (.bool (decide (v23 < (4 : Int)))))) rfl rfl rfl (J_bin rfl (Opd.tmp rfl) Opd.con B_lss) ?_
          refine RegL.nil ?_
          refine Ct.then_tr ?_
          refine Tr.weak (Γ' := [(3, (pEq (.int .i64 v21))), (5, (pEq (.int .i64 v22))), (8, (pEq (.int .i64 v23))), (34, (pEq (.bool (decide (v23 < (4 : Int))))))]) ⟨rfl, rfl, rfl, rfl, trivial⟩ ?_
          refine Tr.cond (Opd.tmp rfl) (fun hc => ?_) (fun hc => ?_)
          · replace h := bif_t hc h
            refine Tr.skip ?_
            refine Ct.then_tr ?_
            refine Tr.weak (Γ' := [(3, (pEq (.int .i64 v21))), (5, (pEq (.int .i64 v22))), (8, (pEq (.int .i64 v23)))]) ⟨rfl, rfl, rfl, trivial⟩ ?_
            refine Tr.seq ?_
            refine Tr.block ?_
            refine Tr.seq ?_
            refine Tr.region ?_
            refine RegL.pure (p := (pEq (.int .i64 v22))) rfl rfl rfl (J_move rfl (Opd.tmp rfl)) ?_
            replace h := bind_some h; obtain ⟨x25, hx25, h⟩ := h
            refine RegL.pure (p := (pTup [(pEq (.int .i64 x25.1)), (pEq (.int .i64 x25.2))])) rfl rfl rfl (J_call rfl Tryd.call51 (c_spec_l02Tenth hx25) (Opds.cons (Opd.tmp rfl) Opds.nil)) ?_
            refine RegL.pure (p := (pTup [(pEq (.int .i64 x25.1)), (pEq (.int .i64 x25.2))])) rfl rfl rfl (J_move rfl (Opd.tmp rfl)) ?_
            refine RegL.pure (p := (pEq (.int .i64 x25.1))) rfl rfl rfl (J_extract rfl (Opd.tmp rfl) rfl) ?_
            refine RegL.pure (p := (pEq (.int .i64 x25.2))) rfl rfl rfl (J_extract rfl (Opd.tmp rfl) rfl) ?_
            refine RegL.pure (p := (pEq (.int .i64 x25.1))) rfl rfl rfl (J_assign rfl (Opd.tmp rfl)) ?_
            refine RegL.pure (p := (pEq (.int .i64 x25.2))) rfl rfl rfl (J_assign rfl (Opd.tmp rfl)) ?_
            refine RegL.nil ?_
            refine Ct.then_tr ?_
            refine Tr.weak (Γ' := [(3, (pEq (.int .i64 v21))), (8, (pEq (.int .i64 v23))), (9, (pEq (.int .i64 x25.1))), (10, (pEq (.int .i64 x25.2)))]) ⟨rfl, rfl, rfl, rfl, trivial⟩ ?_
            refine Tr.seq ?_
            refine Tr.region ?_
            refine RegL.pure (p := (pEq (.int .i64 x25.1))) rfl rfl rfl (J_move rfl (Opd.tmp rfl)) ?_
            refine RegL.pure (p := (pEq (.int .i64 x25.1))) rfl rfl rfl (J_assign rfl (Opd.tmp rfl)) ?_
            refine RegL.nil ?_
            refine Ct.then_tr ?_
            refine Tr.weak (Γ' := [(3, (pEq (.int .i64 v21))), (5, (pEq (.int .i64 x25.1))), (8, (pEq (.int .i64 v23))), (10, (pEq (.int .i64 x25.2)))]) ⟨rfl, rfl, rfl, rfl, trivial⟩ ?_
            refine Tr.region ?_
            refine RegL.pure (p := (pEq (.int .i64 v21))) rfl rfl rfl (J_move rfl (Opd.tmp rfl)) ?_
            refine RegL.pure (p := (pEq (.int .i64 (w64 ((10 : Int) * v21))))) rfl rfl rfl (J_bin rfl Opd.con (Opd.tmp rfl) B_mul) ?_
            refine RegL.pure (p := (pEq (.int .i64 x25.2))) rfl rfl rfl (J_move rfl (Opd.tmp rfl)) ?_
            refine RegL.pure (p := (pEq (.int .i64 (w64 ((w64 ((10 : Int) * v21)) + x25.2))))) rfl rfl rfl (J_bin rfl (Opd.tmp rfl) (Opd.tmp rfl) B_add) ?_
            refine RegL.pure (p := (pEq (.int .i64 (w64 ((w64 ((10 : Int) * v21)) + x25.2))))) rfl rfl rfl (J_assign rfl (Opd.tmp rfl)) ?_
            refine RegL.nil ?_
            refine Ct.blk_normal ?_
            refine Ct.then_tr ?_
            refine Tr.weak (Γ' := [(3, (pEq (.int .i64 (w64 ((w64 ((10 : Int) * v21)) + x25.2))))), (5, (pEq (.int .i64 x25.1))), (8, (pEq (.int .i64 v23)))]) ⟨rfl, rfl, rfl, trivial⟩ ?_
            refine Tr.region ?_
            refine RegL.pure (p := (pEq (.int .i64 v23))) rfl rfl rfl (J_move rfl (Opd.tmp rfl)) ?_
            refine RegL.pure (p := (pEq (.int .i64 (w64 (v23 + (1 : Int)))))) rfl rfl rfl (J_bin rfl (Opd.tmp rfl) Opd.con B_add) ?_
            refine RegL.pure (p := (pEq (.int .i64 (w64 (v23 + (1 : Int)))))) rfl rfl rfl (J_assign rfl (Opd.tmp rfl)) ?_
            refine RegL.nil ?_
            replace h := Option.some.inj h; subst h
            exact Ct.again () rfl ⟨rfl, rfl, rfl, trivial⟩
          · replace h := bif_f hc h
            refine Tr.exit ?_
            refine Ct.then_exit ?_
            replace h := map_some h; obtain ⟨r1, h, rfl⟩ := h
            refine Ct.out_exit fun e => ?_
            subst e
            refine Ct.blk_exit ?_
            replace h := Option.some.inj h; subst h
            exact Ct.mid () rfl ⟨rfl, trivial⟩
        · clear hx19
          refine Ct.then_tr ?_
          refine Tr.weak (Γ' := [(3, (pEq (.int .i64 x19)))]) ⟨rfl, trivial⟩ ?_
          refine Tr.seq ?_
          refine Tr.region ?_
          refine RegL.pure (p := (pEq (.int .i64 x19))) rfl rfl rfl (J_move rfl (Opd.tmp rfl)) ?_
          refine RegL.pure (p := (pEq (.int .i64 x19))) rfl rfl rfl (J_assign rfl (Opd.tmp rfl)) ?_
          refine RegL.nil ?_
          refine Ct.then_tr ?_
          refine Tr.weak (Γ' := [(2, (pEq (.int .i64 x19)))]) ⟨rfl, trivial⟩ ?_
          refine Tr.ret ?_
          replace h := Option.some.inj h; subst h
          exact Ct.retH1 (Ωx := []) () rfl (RvOk.tmp rfl) rfl

theorem c_spec_l00Max {a_0 : Int} {b_1 : Int} {r : Int} (h : m_spec_l00Max a_0 b_1 = some r) : CallJ Tryd.prog 36 [(pEq (.int .i64 a_0)), (pEq (.int .i64 b_1))] (pEq (.int .i64 r)) := by
  unfold m_spec_l00Max at h
  refine CallJ.enterH Tryd.func36 rfl Tryd.ntmps36 rfl fun W I0 H => ?_
  refine Tr.weak (Γ' := [(0, (pEq (.int .i64 a_0))), (1, (pEq (.int .i64 b_1)))]) ⟨rfl, rfl, trivial⟩ ?_
  refine Tr.seq ?_
  refine Tr.region ?_
  refine RegL.pure (p := (pEq (.int .i64 (0 : Int)))) rfl rfl rfl (J_assign rfl Opd.con) ?_
  refine RegL.nil ?_
  refine Ct.then_tr ?_
  refine Tr.weak (Γ' := [(0, (pEq (.int .i64 a_0))), (1, (pEq (.int .i64 b_1)))]) ⟨rfl, rfl, trivial⟩ ?_
  refine Tr.seq ?_
  refine Tr.seq ?_
  refine Tr.region ?_
  refine RegL.pure (p := (pEq (.int .i64 a_0))) rfl rfl rfl (J_move rfl (Opd.tmp rfl)) ?_
  refine RegL.pure (p := (pEq (.int .i64 b_1))) rfl rfl rfl (J_move rfl (Opd.tmp rfl)) ?_
  refine RegL.pure (p := (pEq (.bool (decide (b_1 < a_0))))) rfl rfl rfl (J_bin rfl (Opd.tmp rfl) (Opd.tmp rfl) B_gtr) ?_
  refine RegL.nil ?_
  refine Ct.then_tr ?_
  refine Tr.weak (Γ' := [(0, (pEq (.int .i64 a_0))), (1, (pEq (.int .i64 b_1))), (7, (pEq (.bool (decide (b_1 < a_0)))))]) ⟨rfl, rfl, rfl, trivial⟩ ?_
  refine Tr.cond (Opd.tmp rfl) (fun hc => ?_) (fun hc => ?_)
  · replace h := bif_t hc h
    refine Tr.seq ?_
    refine Tr.region ?_
    refine RegL.pure (p := (pEq (.int .i64 a_0))) rfl rfl rfl (J_move rfl (Opd.tmp rfl)) ?_
    refine RegL.pure (p := (pEq (.int .i64 a_0))) rfl rfl rfl (J_assign rfl (Opd.tmp rfl)) ?_
    refine RegL.nil ?_
    refine Ct.then_tr ?_
    refine Tr.weak (Γ' := [(4, (pEq (.int .i64 a_0)))]) ⟨rfl, trivial⟩ ?_
    refine Tr.ret ?_
    refine Ct.then_ret ?_
    replace h := Option.some.inj h; subst h
    exact Ct.retH1 (Ωx := []) () rfl (RvOk.tmp rfl) rfl
  · replace h := bif_f hc h
    refine Tr.skip ?_
    refine Ct.then_tr ?_
    refine Tr.weak (Γ' := [(1, (pEq (.int .i64 b_1)))]) ⟨rfl, trivial⟩ ?_
    refine Tr.seq ?_
    refine Tr.region ?_
    refine RegL.pure (p := (pEq (.int .i64 b_1))) rfl rfl rfl (J_move rfl (Opd.tmp rfl)) ?_
    refine RegL.pure (p := (pEq (.int .i64 b_1))) rfl rfl rfl (J_assign rfl (Opd.tmp rfl)) ?_
    refine RegL.nil ?_
    refine Ct.then_tr ?_
    refine Tr.weak (Γ' := [(4, (pEq (.int .i64 b_1)))]) ⟨rfl, trivial⟩ ?_
    refine Tr.ret ?_
    replace h := Option.some.inj h; subst h
    exact Ct.retH1 (Ωx := []) () rfl (RvOk.tmp rfl) rfl

theorem c_spec_l02Pow {v_0 : Int} {r : Int} (h : m_spec_l02Pow v_0 = some r) : CallJ Tryd.prog 38 [(pEq (.int .i64 v_0))] (pEq (.int .i64 r)) := by
  unfold m_spec_l02Pow at h
  refine CallJ.enterH Tryd.func38 rfl Tryd.ntmps38 rfl fun W I0 H => ?_
  refine Tr.weak (Γ' := [(0, (pEq (.int .i64 v_0)))]) ⟨rfl, trivial⟩ ?_
  refine Tr.seq ?_
  refine Tr.region ?_
  refine RegL.pure (p := (pEq (.int .i64 (0 : Int)))) rfl rfl rfl (J_assign rfl Opd.con) ?_
  refine RegL.nil ?_
  refine Ct.then_tr ?_
  refine Tr.weak (Γ' := [(0, (pEq (.int .i64 v_0)))]) ⟨rfl, trivial⟩ ?_
  refine Tr.seq ?_
  refine Tr.region ?_
  refine RegL.pure (p := (pEq (.int .i64 (1 : Int)))) rfl rfl rfl (J_assign rfl Opd.con) ?_
  refine RegL.nil ?_
  refine Ct.then_tr ?_
  refine Tr.weak (Γ' := [(0, (pEq (.int .i64 v_0))), (3, (pEq (.int .i64 (1 : Int))))]) ⟨rfl, rfl, trivial⟩ ?_
  refine Tr.seq ?_
  refine Tr.region ?_
  refine RegL.pure (p := (pEq (.int .i64 (1000000000000000000 : Int)))) rfl rfl rfl (J_assign rfl Opd.con) ?_
  refine RegL.nil ?_
  refine Ct.then_tr ?_
  refine Tr.weak (Γ' := [(0, (pEq (.int .i64 v_0))), (3, (pEq (.int .i64 (1 : Int)))), (4, (pEq (.int .i64 (1000000000000000000 : Int))))]) ⟨rfl, rfl, rfl, trivial⟩ ?_
  refine Tr.seq ?_
  replace h := bind_some h; obtain ⟨x1, hx1, h⟩ := h
  refine Tr.cut (γ := Unit) (Γm := fun g => [(3, (pEq (.int .i64 x1)))]) (Ωm := fun g => []) ?_ (fun g9 => ?_)
  · clear h
    have h := hx1
    clear hx1
    refine Tr.block ?_
    refine Tr.weak (Γ' := [(0, (pEq (.int .i64 v_0))), (3, (pEq (.int .i64 (1 : Int)))), (4, (pEq (.int .i64 (1000000000000000000 : Int))))]) ⟨rfl, rfl, rfl, trivial⟩ ?_
    refine Tr.loop (γ := Unit) (σ := (Int × Int)) (Γσ := fun s g => [(0, (pEq (.int .i64 v_0))), (3, (pEq (.int .i64 s.1))), (4, (pEq (.int .i64 s.2)))]) (Ωσ := fun s g => []) (g := ()) h ?_
    clear h
    rintro ⟨v3, v4⟩ g5 t h
    replace h : m_spec_l02Pow_B2 v_0 v3 v4 = some t := h
    unfold m_spec_l02Pow_B2 at h
    refine Tr.weakO (Γ' := [(0, (pEq (.int .i64 v_0))), (3, (pEq (.int .i64 v3))), (4, (pEq (.int .i64 v4)))]) (Ω' := []) rfl ⟨rfl, rfl, rfl, trivial⟩ ?_
    refine Tr.seq ?_
    refine Tr.seq ?_
    refine Tr.region ?_
    refine RegL.pure (p := (pEq (.int .i64 v3))) rfl rfl rfl (J_move rfl (Opd.tmp rfl)) ?_
    refine RegL.pure (p := (pEq (.int .i64 v4))) rfl rfl rfl (J_move rfl (Opd.tmp rfl)) ?_
    refine RegL.pure (p := (pEq (.bool (decide (v3 < v4))))) rfl rfl rfl (J_bin rfl (Opd.tmp rfl) (Opd.tmp rfl) B_lss) ?_
    refine RegL.nil ?_
    refine Ct.then_tr ?_
    refine Tr.weak (Γ' := [(0, (pEq (.int .i64 v_0))), (3, (pEq (.int .i64 v3))), (4, (pEq (.int .i64 v4))), (8, (pEq (.bool (decide (v3 < v4)))))]) ⟨rfl, rfl, rfl, rfl, trivial⟩ ?_
    refine Tr.cond (Opd.tmp rfl) (fun hc => ?_) (fun hc => ?_)
    · replace h := bif_t hc h
      refine Tr.skip ?_
      refine Ct.then_tr ?_
      refine Tr.weak (Γ' := [(0, (pEq (.int .i64 v_0))), (3, (pEq (.int .i64 v3))), (4, (pEq (.int .i64 v4)))]) ⟨rfl, rfl, rfl, trivial⟩ ?_
      refine Tr.block ?_
      refine Tr.seq ?_
      refine Tr.region ?_
      refine RegL.pure (p := (pEq (.int .i64 v3))) rfl rfl rfl (J_move rfl (Opd.tmp rfl)) ?_
      refine RegL.pure (p := (pEq (.int .i64 v4))) rfl rfl rfl (J_move rfl (Opd.tmp rfl)) ?_
      refine RegL.pure (p := (pEq (.int .i64 (w64 (v3 + v4))))) rfl rfl rfl (J_bin rfl (Opd.tmp rfl) (Opd.tmp rfl) B_add) ?_
      refine RegL.pure (p := (pEq (.int .i64 (w64 ((w64 (v3 + v4)).tdiv (2 : Int)))))) rfl rfl rfl (J_bin rfl (Opd.tmp rfl) Opd.con (B_quo (n := (2 : Int)) (by decide))) ?_
      refine RegL.pure (p := (pEq (.int .i64 (w64 ((w64 (v3 + v4)).tdiv (2 : Int)))))) rfl rfl rfl (J_assign rfl (Opd.tmp rfl)) ?_
      refine RegL.nil ?_
      refine Ct.then_tr ?_
      refine Tr.weak (Γ' := [(0, (pEq (.int .i64 v_0))), (3, (pEq (.int .i64 v3))), (4, (pEq (.int .i64 v4))), (5, (pEq (.int .i64 (w64 ((w64 (v3 + v4)).tdiv (2 : Int))))))]) ⟨rfl, rfl, rfl, rfl, trivial⟩ ?_
      refine Tr.seq ?_
      refine Tr.region ?_
      refine RegL.pure (p := (pEq (.int .i64 (w64 ((w64 (v3 + v4)).tdiv (2 : Int)))))) rfl rfl rfl (J_move rfl (Opd.tmp rfl)) ?_
      replace h := bind_some h; obtain ⟨x6, hx6, h⟩ := h
      refine RegL.pure (p := (pEq (.int .i64 x6))) rfl rfl rfl (J_call rfl Tryd.call35 (c_spec_l02Log hx6) (Opds.cons (Opd.tmp rfl) Opds.nil)) ?_
      refine RegL.pure (p := (pEq (.int .i64 v_0))) rfl rfl rfl (J_move rfl (Opd.tmp rfl)) ?_
      refine RegL.pure (p := (pEq (.bool (decide (v_0 ≤ x6))))) rfl rfl rfl (J_bin rfl (Opd.tmp rfl) (Opd.tmp rfl) B_geq) ?_
      refine RegL.nil ?_
      refine Ct.then_tr ?_
      refine Tr.weak (Γ' := [(0, (pEq (.int .i64 v_0))), (3, (pEq (.int .i64 v3))), (4, (pEq (.int .i64 v4))), (5, (pEq (.int .i64 (w64 ((w64 (v3 + v4)).tdiv (2 : Int)))))), (16, (pEq (.bool (decide (v_0 ≤ x6)))))]) ⟨rfl, rfl, rfl, rfl, rfl, trivial⟩ ?_
      replace h := bind_some h; obtain ⟨x7, hx7, h⟩ := h
      refine Tr.cut (γ := Unit) (Γm := fun g => [(0, (pEq (.int .i64 v_0))), (3, (pEq (.int .i64 x7.1))), (4, (pEq (.int .i64 x7.2)))]) (Ωm := fun g => []) ?_ (fun g8 => ?_)
      · clear h
        have h := hx7
        clear hx7
        refine Tr.cond (Opd.tmp rfl) (fun hc => ?_) (fun hc => ?_)
        · replace h := bif_t hc h
          refine Tr.region ?_
          refine RegL.pure (p := (pEq (.int .i64 (w64 ((w64 (v3 + v4)).tdiv (2 : Int)))))) rfl rfl rfl (J_move rfl (Opd.tmp rfl)) ?_
          refine RegL.pure (p := (pEq (.int .i64 (w64 ((w64 (v3 + v4)).tdiv (2 : Int)))))) rfl rfl rfl (J_assign rfl (Opd.tmp rfl)) ?_
          refine RegL.nil ?_
          replace h := Option.some.inj h; subst h
          exact Ct.mid () rfl ⟨rfl, rfl, rfl, trivial⟩
        · replace h := bif_f hc h
          refine Tr.region ?_
          refine RegL.pure (p := (pEq (.int .i64 (w64 ((w64 (v3 + v4)).tdiv (2 : Int)))))) rfl rfl rfl (J_move rfl (Opd.tmp rfl)) ?_
          refine RegL.pure (p := (pEq (.int .i64 (w64 ((w64 ((w64 (v3 + v4)).tdiv (2 : Int))) + (1 : Int)))))) rfl rfl rfl (J_bin rfl (Opd.tmp rfl) Opd.con B_add) ?_
          refine RegL.pure (p := (pEq (.int .i64 (w64 ((w64 ((w64 (v3 + v4)).tdiv (2 : Int))) + (1 : Int)))))) rfl rfl rfl (J_assign rfl (Opd.tmp rfl)) ?_
          refine RegL.nil ?_
          replace h := Option.some.inj h; subst h
          exact Ct.mid () rfl ⟨rfl, rfl, rfl, trivial⟩
      · clear hx7
        refine Ct.blk_normal ?_
        replace h := Option.some.inj h; subst h
        exact Ct.again () rfl ⟨rfl, rfl, rfl, trivial⟩
    · replace h := bif_f hc h
      refine Tr.exit ?_
      refine Ct.then_exit ?_
      replace h := map_some h; obtain ⟨r1, h, rfl⟩ := h
      refine Ct.out_exit fun e => ?_
      subst e
      refine Ct.blk_exit ?_
      replace h := Option.some.inj h; subst h
      exact Ct.mid () rfl ⟨rfl, trivial⟩
  · clear hx1
    refine Ct.then_tr ?_
    refine Tr.weak (Γ' := [(3, (pEq (.int .i64 x1)))]) ⟨rfl, trivial⟩ ?_
    refine Tr.seq ?_
    refine Tr.region ?_
    refine RegL.pure (p := (pEq (.int .i64 x1))) rfl rfl rfl (J_move rfl (Opd.tmp rfl)) ?_
    refine RegL.pure (p := (pEq (.int .i64 x1))) rfl rfl rfl (J_assign rfl (Opd.tmp rfl)) ?_
    refine RegL.nil ?_
    refine Ct.then_tr ?_
    refine Tr.weak (Γ' := [(2, (pEq (.int .i64 x1)))]) ⟨rfl, trivial⟩ ?_
    refine Tr.ret ?_
    replace h := Option.some.inj h; subst h
    exact Ct.retH1 (Ωx := []) () rfl (RvOk.tmp rfl) rfl

theorem c_spec_l00Min {a_0 : Int} {b_1 : Int} {r : Int} (h : m_spec_l00Min a_0 b_1 = some r) : CallJ Tryd.prog 37 [(pEq (.int .i64 a_0)), (pEq (.int .i64 b_1))] (pEq (.int .i64 r)) := by
  unfold m_spec_l00Min at h
  refine CallJ.enterH Tryd.func37 rfl Tryd.ntmps37 rfl fun W I0 H => ?_
  refine Tr.weak (Γ' := [(0, (pEq (.int .i64 a_0))), (1, (pEq (.int .i64 b_1)))]) ⟨rfl, rfl, trivial⟩ ?_
  refine Tr.seq ?_
  refine Tr.region ?_
  refine RegL.pure (p := (pEq (.int .i64 (0 : Int)))) rfl rfl rfl (J_assign rfl Opd.con) ?_
  refine RegL.nil ?_
  refine Ct.then_tr ?_
  refine Tr.weak (Γ' := [(0, (pEq (.int .i64 a_0))), (1, (pEq (.int .i64 b_1)))]) ⟨rfl, rfl, trivial⟩ ?_
  refine Tr.seq ?_
  refine Tr.seq ?_
  refine Tr.region ?_
  refine RegL.pure (p := (pEq (.int .i64 a_0))) rfl rfl rfl (J_move rfl (Opd.tmp rfl)) ?_
  refine RegL.pure (p := (pEq (.int .i64 b_1))) rfl rfl rfl (J_move rfl (Opd.tmp rfl)) ?_
  refine RegL.pure (p := (pEq (.bool (decide (a_0 < b_1))))) rfl rfl rfl (J_bin rfl (Opd.tmp rfl) (Opd.tmp rfl) B_lss) ?_
  refine RegL.nil ?_
  refine Ct.then_tr ?_
  refine Tr.weak (Γ' := [(0, (pEq (.int .i64 a_0))), (1, (pEq (.int .i64 b_1))), (7, (pEq (.bool (decide (a_0 < b_1)))))]) ⟨rfl, rfl, rfl, trivial⟩ ?_
  refine Tr.cond (Opd.tmp rfl) (fun hc => ?_) (fun hc => ?_)
  · replace h := bif_t hc h
    refine Tr.seq ?_
    refine Tr.region ?_
    refine RegL.pure (p := (pEq (.int .i64 a_0))) rfl rfl rfl (J_move rfl (Opd.tmp rfl)) ?_
    refine RegL.pure (p := (pEq (.int .i64 a_0))) rfl rfl rfl (J_assign rfl (Opd.tmp rfl)) ?_
    refine RegL.nil ?_
    refine Ct.then_tr ?_
    refine Tr.weak (Γ' := [(4, (pEq (.int .i64 a_0)))]) ⟨rfl, trivial⟩ ?_
    refine Tr.ret ?_
    refine Ct.then_ret ?_
    replace h := Option.some.inj h; subst h
    exact Ct.retH1 (Ωx := []) () rfl (RvOk.tmp rfl) rfl
  · replace h := bif_f hc h
    refine Tr.skip ?_
    refine Ct.then_tr ?_
    refine Tr.weak (Γ' := [(1, (pEq (.int .i64 b_1)))]) ⟨rfl, trivial⟩ ?_
    refine Tr.seq ?_
    refine Tr.region ?_
    refine RegL.pure (p := (pEq (.int .i64 b_1))) rfl rfl rfl (J_move rfl (Opd.tmp rfl)) ?_
    refine RegL.pure (p := (pEq (.int .i64 b_1))) rfl rfl rfl (J_assign rfl (Opd.tmp rfl)) ?_
    refine RegL.nil ?_
    refine Ct.then_tr ?_
    refine Tr.weak (Γ' := [(4, (pEq (.int .i64 b_1)))]) ⟨rfl, trivial⟩ ?_
    refine Tr.ret ?_
    replace h := Option.some.inj h; subst h
    exact Ct.retH1 (Ωx := []) () rfl (RvOk.tmp rfl) rfl

theorem c_spec_l13Fade {f_0 : Int} {d_1 : Int} {climate_2 : Int} {margin_3 : Int} {r : Int} (h : m_spec_l13Fade f_0 d_1 climate_2 margin_3 = some r) : CallJ Tryd.prog 19 [(pEq (.int .i64 f_0)), (pEq (.int .i64 d_1)), (pEq (.int .i64 climate_2)), (pEq (.int .i64 margin_3))] (pEq (.int .i64 r)) := by
  unfold m_spec_l13Fade at h
  refine CallJ.enterH Tryd.func19 rfl Tryd.ntmps19 rfl fun W I0 H => ?_
  refine Tr.weak (Γ' := [(0, (pEq (.int .i64 f_0))), (1, (pEq (.int .i64 d_1))), (2, (pEq (.int .i64 climate_2))), (3, (pEq (.int .i64 margin_3)))]) ⟨rfl, rfl, rfl, rfl, trivial⟩ ?_
  refine Tr.seq ?_
  refine Tr.region ?_
  refine RegL.pure (p := (pEq (.int .i64 (0 : Int)))) rfl rfl rfl (J_assign rfl Opd.con) ?_
  refine RegL.nil ?_
  refine Ct.then_tr ?_
  refine Tr.weak (Γ' := [(0, (pEq (.int .i64 f_0))), (1, (pEq (.int .i64 d_1))), (2, (pEq (.int .i64 climate_2))), (3, (pEq (.int .i64 margin_3)))]) ⟨rfl, rfl, rfl, rfl, trivial⟩ ?_
  refine Tr.seq ?_
  refine Tr.region ?_
  refine RegL.pure (p := (pEq (.int .i64 climate_2))) rfl rfl rfl (J_move rfl (Opd.tmp rfl)) ?_
  replace h := bind_some h; obtain ⟨x1, hx1, h⟩ := h
  refine RegL.pure (p := (pEq (.int .i64 x1))) rfl rfl rfl (J_call rfl Tryd.call35 (c_spec_l02Log hx1) (Opds.cons (Opd.tmp rfl) Opds.nil)) ?_
  refine RegL.pure (p := (pEq (.int .i64 f_0))) rfl rfl rfl (J_move rfl (Opd.tmp rfl)) ?_
  refine RegL.pure (p := (pEq (.int .i64 (w64 (f_0.tdiv (1000 : Int)))))) rfl rfl rfl (J_bin rfl (Opd.tmp rfl) Opd.con (B_quo (n := (1000 : Int)) (by decide))) ?_
  replace h := bind_some h; obtain ⟨x2, hx2, h⟩ := h
  refine RegL.pure (p := (pEq (.int .i64 x2))) rfl rfl rfl (J_call rfl Tryd.call36 (c_spec_l00Max hx2) (Opds.cons Opd.con (Opds.cons (Opd.tmp rfl) Opds.nil))) ?_
  replace h := bind_some h; obtain ⟨x3, hx3, h⟩ := h
  refine RegL.pure (p := (pEq (.int .i64 x3))) rfl rfl rfl (J_call rfl Tryd.call35 (c_spec_l02Log hx3) (Opds.cons (Opd.tmp rfl) Opds.nil)) ?_
  refine RegL.pure (p := (pEq (.int .i64 (w64 (x1 + x3))))) rfl rfl rfl (J_bin rfl (Opd.tmp rfl) (Opd.tmp rfl) B_add) ?_
  refine RegL.pure (p := (pEq (.int .i64 d_1))) rfl rfl rfl (J_move rfl (Opd.tmp rfl)) ?_
  replace h := bind_some h; obtain ⟨x4, hx4, h⟩ := h
  refine RegL.pure (p := (pEq (.int .i64 x4))) rfl rfl rfl (J_call rfl Tryd.call35 (c_spec_l02Log hx4) (Opds.cons (Opd.tmp rfl) Opds.nil)) ?_
  refine RegL.pure (p := (pEq (.int .i64 (w64 ((3 : Int) * x4))))) rfl rfl rfl (J_bin rfl Opd.con (Opd.tmp rfl) B_mul) ?_
  refine RegL.pure (p := (pEq (.int .i64 (w64 ((w64 (x1 + x3)) + (w64 ((3 : Int) * x4))))))) rfl rfl rfl (J_bin rfl (Opd.tmp rfl) (Opd.tmp rfl) B_add) ?_
  refine RegL.pure (p := (pEq (.int .i64 (w64 ((w64 ((w64 (x1 + x3)) + (w64 ((3 : Int) * x4)))) - (142218 : Int)))))) rfl rfl rfl (J_bin rfl (Opd.tmp rfl) Opd.con B_sub) ?_
  refine RegL.pure (p := (pEq (.int .i64 margin_3))) rfl rfl rfl (J_move rfl (Opd.tmp rfl)) ?_
  refine RegL.pure (p := (pEq (.int .i64 (w64 ((w64 ((w64 ((w64 (x1 + x3)) + (w64 ((3 : Int) * x4)))) - (142218 : Int))) - margin_3))))) rfl rfl rfl (J_bin rfl (Opd.tmp rfl) (Opd.tmp rfl) B_sub) ?_
  refine RegL.pure (p := (pEq (.int .i64 (w64 ((w64 ((w64 ((w64 (x1 + x3)) + (w64 ((3 : Int) * x4)))) - (142218 : Int))) - margin_3))))) rfl rfl rfl (J_assign rfl (Opd.tmp rfl)) ?_
  refine RegL.nil ?_
  refine Ct.then_tr ?_
  refine Tr.weak (Γ' := [(9, (pEq (.int .i64 (w64 ((w64 ((w64 ((w64 (x1 + x3)) + (w64 ((3 : Int) * x4)))) - (142218 : Int))) - margin_3)))))]) ⟨rfl, trivial⟩ ?_
  refine Tr.seq ?_
  refine Tr.seq ?_
  refine Tr.region ?_
  refine RegL.pure (p := (pEq (.int .i64 (w64 ((w64 ((w64 ((w64 (x1 + x3)) + (w64 ((3 : Int) * x4)))) - (142218 : Int))) - margin_3))))) rfl rfl rfl (J_move rfl (Opd.tmp rfl)) ?_
  refine RegL.pure (p := (pEq (.bool (decide ((w64 ((w64 ((w64 ((w64 (x1 + x3)) + (w64 ((3 : Int) * x4)))) - (142218 : Int))) - margin_3)) < (0 : Int)))))) rfl rfl rfl (J_bin rfl (Opd.tmp rfl) Opd.con B_lss) ?_
  refine RegL.nil ?_
  refine Ct.then_tr ?_
  refine Tr.weak (Γ' := [(9, (pEq (.int .i64 (w64 ((w64 ((w64 ((w64 (x1 + x3)) + (w64 ((3 : Int) * x4)))) - (142218 : Int))) - margin_3))))), (25, (pEq (.bool (decide ((w64 ((w64 ((w64 ((w64 (x1 + x3)) + (w64 ((3 : Int) * x4)))) - (142218 : Int))) - margin_3)) < (0 : Int))))))]) ⟨rfl, rfl, trivial⟩ ?_
  refine Tr.cond (Opd.tmp rfl) (fun hc => ?_) (fun hc => ?_)
  · replace h := bif_t hc h
    refine Tr.seq ?_
    refine Tr.region ?_
    refine RegL.pure (p := (pEq (.int .i64 (0 : Int)))) rfl rfl rfl (J_assign rfl Opd.con) ?_
    refine RegL.nil ?_
    refine Ct.then_tr ?_
    refine Tr.weak (Γ' := [(8, (pEq (.int .i64 (0 : Int))))]) ⟨rfl, trivial⟩ ?_
    refine Tr.ret ?_
    refine Ct.then_ret ?_
    replace h := Option.some.inj h; subst h
    exact Ct.retH1 (Ωx := []) () rfl (RvOk.tmp rfl) rfl
  · replace h := bif_f hc h
    refine Tr.skip ?_
    refine Ct.then_tr ?_
    refine Tr.weak (Γ' := [(9, (pEq (.int .i64 (w64 ((w64 ((w64 ((w64 (x1 + x3)) + (w64 ((3 : Int) * x4)))) - (142218 : Int))) - margin_3)))))]) ⟨rfl, trivial⟩ ?_
    refine Tr.seq ?_
    refine Tr.region ?_
    refine RegL.pure (p := (pEq (.int .i64 (w64 ((w64 ((w64 ((w64 (x1 + x3)) + (w64 ((3 : Int) * x4)))) - (142218 : Int))) - margin_3))))) rfl rfl rfl (J_move rfl (Opd.tmp rfl)) ?_
    replace h := bind_some h; obtain ⟨x5, hx5, h⟩ := h
    refine RegL.pure (p := (pEq (.int .i64 x5))) rfl rfl rfl (J_call rfl Tryd.call38 (c_spec_l02Pow hx5) (Opds.cons (Opd.tmp rfl) Opds.nil)) ?_
    replace h := bind_some h; obtain ⟨x6, hx6, h⟩ := h
    refine RegL.pure (p := (pEq (.int .i64 x6))) rfl rfl rfl (J_call rfl Tryd.call37 (c_spec_l00Min hx6) (Opds.cons Opd.con (Opds.cons (Opd.tmp rfl) Opds.nil))) ?_
    refine RegL.pure (p := (pEq (.int .i64 x6))) rfl rfl rfl (J_assign rfl (Opd.tmp rfl)) ?_
    refine RegL.nil ?_
    refine Ct.then_tr ?_
    refine Tr.weak (Γ' := [(8, (pEq (.int .i64 x6)))]) ⟨rfl, trivial⟩ ?_
    refine Tr.ret ?_
    replace h := Option.some.inj h; subst h
    exact Ct.retH1 (Ωx := []) () rfl (RvOk.tmp rfl) rfl

theorem c_spec_l01Div {a_0 : Int} {b_1 : Int} {r : Int} (h : m_spec_l01Div a_0 b_1 = some r) : CallJ Tryd.prog 54 [(pEq (.int .i64 a_0)), (pEq (.int .i64 b_1))] (pEq (.int .i64 r)) := by
  unfold m_spec_l01Div at h
  refine CallJ.enterH Tryd.func54 rfl Tryd.ntmps54 rfl fun W I0 H => ?_
  refine Tr.weak (Γ' := [(0, (pEq (.int .i64 a_0))), (1, (pEq (.int .i64 b_1)))]) ⟨rfl, rfl, trivial⟩ ?_
  refine Tr.seq ?_
  refine Tr.region ?_
  refine RegL.pure (p := (pEq (.int .i64 (0 : Int)))) rfl rfl rfl (J_assign rfl Opd.con) ?_
  refine RegL.nil ?_
  refine Ct.then_tr ?_
  refine Tr.weak (Γ' := [(0, (pEq (.int .i64 a_0))), (1, (pEq (.int .i64 b_1)))]) ⟨rfl, rfl, trivial⟩ ?_
  refine Tr.seq ?_
  refine Tr.seq ?_
  refine Tr.region ?_
  refine RegL.pure (p := (pEq (.int .i64 b_1))) rfl rfl rfl (J_move rfl (Opd.tmp rfl)) ?_
  refine RegL.pure (p := (pEq (.bool (decide (b_1 < (0 : Int)))))) rfl rfl rfl (J_bin rfl (Opd.tmp rfl) Opd.con B_lss) ?_
  refine RegL.nil ?_
  refine Ct.then_tr ?_
  refine Tr.weak (Γ' := [(0, (pEq (.int .i64 a_0))), (1, (pEq (.int .i64 b_1))), (6, (pEq (.bool (decide (b_1 < (0 : Int))))))]) ⟨rfl, rfl, rfl, trivial⟩ ?_
  replace h := bind_some h; obtain ⟨x1, hx1, h⟩ := h
  refine Tr.cut (γ := Unit) (Γm := fun g => [(0, (pEq (.int .i64 x1.1))), (1, (pEq (.int .i64 x1.2)))]) (Ωm := fun g => []) ?_ (fun g2 => ?_)
  · clear h
    have h := hx1
    clear hx1
    refine Tr.cond (Opd.tmp rfl) (fun hc => ?_) (fun hc => ?_)
    · replace h := bif_t hc h
      refine Tr.seq ?_
      refine Tr.region ?_
      refine RegL.pure (p := (pEq (.int .i64 a_0))) rfl rfl rfl (J_move rfl (Opd.tmp rfl)) ?_
      refine RegL.pure (p := (pEq (.int .i64 (w64 (0 - a_0))))) rfl rfl rfl (J_neg rfl (Opd.tmp rfl)) ?_
      refine RegL.pure (p := (pEq (.int .i64 (w64 (0 - a_0))))) rfl rfl rfl (J_assign rfl (Opd.tmp rfl)) ?_
      refine RegL.nil ?_
      refine Ct.then_tr ?_
      refine Tr.weak (Γ' := [(0, (pEq (.int .i64 (w64 (0 - a_0))))), (1, (pEq (.int .i64 b_1)))]) ⟨rfl, rfl, trivial⟩ ?_
      refine Tr.region ?_
      refine RegL.pure (p := (pEq (.int .i64 b_1))) rfl rfl rfl (J_move rfl (Opd.tmp rfl)) ?_
      refine RegL.pure (p := (pEq (.int .i64 (w64 (0 - b_1))))) rfl rfl rfl (J_neg rfl (Opd.tmp rfl)) ?_
      refine RegL.pure (p := (pEq (.int .i64 (w64 (0 - b_1))))) rfl rfl rfl (J_assign rfl (Opd.tmp rfl)) ?_
      refine RegL.nil ?_
      replace h := Option.some.inj h; subst h
      exact Ct.mid () rfl ⟨rfl, rfl, trivial⟩
    · replace h := bif_f hc h
      refine Tr.skip ?_
      replace h := Option.some.inj h; subst h
      exact Ct.mid () rfl ⟨rfl, rfl, trivial⟩
  · clear hx1
    refine Ct.then_tr ?_
    refine Tr.weak (Γ' := [(0, (pEq (.int .i64 x1.1))), (1, (pEq (.int .i64 x1.2)))]) ⟨rfl, rfl, trivial⟩ ?_
    refine Tr.seq ?_
    refine Tr.seq ?_
    refine Tr.region ?_
    refine RegL.pure (p := (pEq (.int .i64 x1.1))) rfl rfl rfl (J_move rfl (Opd.tmp rfl)) ?_
    refine RegL.pure (p := (pEq (.bool (decide (x1.1 < (0 : Int)))))) rfl rfl rfl (J_bin rfl (Opd.tmp rfl) Opd.con B_lss) ?_
    refine RegL.nil ?_
    refine Ct.then_tr ?_
    refine Tr.weak (Γ' := [(0, (pEq (.int .i64 x1.1))), (1, (pEq (.int .i64 x1.2))), (12, (pEq (.bool (decide (x1.1 < (0 : Int))))))]) ⟨rfl, rfl, rfl, trivial⟩ ?_
    refine Tr.cond (Opd.tmp rfl) (fun hc => ?_) (fun hc => ?_)
    · replace h := bif_t hc h
      refine Tr.seq ?_
      refine Tr.region ?_
      refine RegL.pure (p := (pEq (.int .i64 x1.2))) rfl rfl rfl (J_move rfl (Opd.tmp rfl)) ?_
      refine RegL.pure (p := (pEq (.int .i64 x1.1))) rfl rfl rfl (J_move rfl (Opd.tmp rfl)) ?_
      refine RegL.pure (p := (pEq (.int .i64 (w64 ((2 : Int) * x1.1))))) rfl rfl rfl (J_bin rfl Opd.con (Opd.tmp rfl) B_mul) ?_
      refine RegL.pure (p := (pEq (.int .i64 (w64 (x1.2 - (w64 ((2 : Int) * x1.1))))))) rfl rfl rfl (J_bin rfl (Opd.tmp rfl) (Opd.tmp rfl) B_sub) ?_
      refine RegL.pure (p := (pEq (.int .i64 x1.2))) rfl rfl rfl (J_move rfl (Opd.tmp rfl)) ?_
      refine RegL.pure (p := (pEq (.int .i64 (w64 ((2 : Int) * x1.2))))) rfl rfl rfl (J_bin rfl Opd.con (Opd.tmp rfl) B_mul) ?_
      replace h := bind_some h; obtain ⟨x3, hx3, h⟩ := h
      refine RegL.pure (p := (pEq (.int .i64 x3))) rfl rfl rfl (J_bin rfl (Opd.tmp rfl) (Opd.tmp rfl) (B_qdiv hx3)) ?_
      refine RegL.pure (p := (pEq (.int .i64 (w64 (0 - x3))))) rfl rfl rfl (J_neg rfl (Opd.tmp rfl)) ?_
      refine RegL.pure (p := (pEq (.int .i64 (w64 (0 - x3))))) rfl rfl rfl (J_assign rfl (Opd.tmp rfl)) ?_
      refine RegL.nil ?_
      refine Ct.then_tr ?_
      refine Tr.weak (Γ' := [(4, (pEq (.int .i64 (w64 (0 - x3)))))]) ⟨rfl, trivial⟩ ?_
      refine Tr.ret ?_
      refine Ct.then_ret ?_
      replace h := Option.some.inj h; subst h
      exact Ct.retH1 (Ωx := []) () rfl (RvOk.tmp rfl) rfl
    · replace h := bif_f hc h
      refine Tr.skip ?_
      refine Ct.then_tr ?_
      refine Tr.weak (Γ' := [(0, (pEq (.int .i64 x1.1))), (1, (pEq (.int .i64 x1.2)))]) ⟨rfl, rfl, trivial⟩ ?_
      refine Tr.seq ?_
      refine Tr.region ?_
      refine RegL.pure (p := (pEq (.int .i64 x1.1))) rfl rfl rfl (J_move rfl (Opd.tmp rfl)) ?_
      refine RegL.pure (p := (pEq (.int .i64 (w64 ((2 : Int) * x1.1))))) rfl rfl rfl (J_bin rfl Opd.con (Opd.tmp rfl) B_mul) ?_
      refine RegL.pure (p := (pEq (.int .i64 x1.2))) rfl rfl rfl (J_move rfl (Opd.tmp rfl)) ?_
      refine RegL.pure (p := (pEq (.int .i64 (w64 ((w64 ((2 : Int) * x1.1)) + x1.2))))) rfl rfl rfl (J_bin rfl (Opd.tmp rfl) (Opd.tmp rfl) B_add) ?_
      refine RegL.pure (p := (pEq (.int .i64 x1.2))) rfl rfl rfl (J_move rfl (Opd.tmp rfl)) ?_
      refine RegL.pure (p := (pEq (.int .i64 (w64 ((2 : Int) * x1.2))))) rfl rfl rfl (J_bin rfl Opd.con (Opd.tmp rfl) B_mul) ?_
      replace h := bind_some h; obtain ⟨x4, hx4, h⟩ := h
      refine RegL.pure (p := (pEq (.int .i64 x4))) rfl rfl rfl (J_bin rfl (Opd.tmp rfl) (Opd.tmp rfl) (B_qdiv hx4)) ?_
      refine RegL.pure (p := (pEq (.int .i64 x4))) rfl rfl rfl (J_assign rfl (Opd.tmp rfl)) ?_
      refine RegL.nil ?_
      refine Ct.then_tr ?_
      refine Tr.weak (Γ' := [(4, (pEq (.int .i64 x4)))]) ⟨rfl, trivial⟩ ?_
      refine Tr.ret ?_
      replace h := Option.some.inj h; subst h
      exact Ct.retH1 (Ωx := []) () rfl (RvOk.tmp rfl) rfl

theorem c_spec_l01Line {x0_0 : Int} {y0_1 : Int} {x1_2 : Int} {y1_3 : Int} {x_4 : Int} {r : Int} (h : m_spec_l01Line x0_0 y0_1 x1_2 y1_3 x_4 = some r) : CallJ Tryd.prog 62 [(pEq (.int .i64 x0_0)), (pEq (.int .i64 y0_1)), (pEq (.int .i64 x1_2)), (pEq (.int .i64 y1_3)), (pEq (.int .i64 x_4))] (pEq (.int .i64 r)) := by
  unfold m_spec_l01Line at h
  refine CallJ.enterH Tryd.func62 rfl Tryd.ntmps62 rfl fun W I0 H => ?_
  refine Tr.weak (Γ' := [(0, (pEq (.int .i64 x0_0))), (1, (pEq (.int .i64 y0_1))), (2, (pEq (.int .i64 x1_2))), (3, (pEq (.int .i64 y1_3))), (4, (pEq (.int .i64 x_4)))]) ⟨rfl, rfl, rfl, rfl, rfl, trivial⟩ ?_
  refine Tr.seq ?_
  refine Tr.region ?_
  refine RegL.pure (p := (pEq (.int .i64 (0 : Int)))) rfl rfl rfl (J_assign rfl Opd.con) ?_
  refine RegL.nil ?_
  refine Ct.then_tr ?_
  refine Tr.weak (Γ' := [(0, (pEq (.int .i64 x0_0))), (1, (pEq (.int .i64 y0_1))), (2, (pEq (.int .i64 x1_2))), (3, (pEq (.int .i64 y1_3))), (4, (pEq (.int .i64 x_4)))]) ⟨rfl, rfl, rfl, rfl, rfl, trivial⟩ ?_
  refine Tr.seq ?_
  refine Tr.seq ?_
  replace h := bind_some h; obtain ⟨x1, hx1, h⟩ := h
  refine Tr.cut (γ := Unit) (Γm := fun g => [(0, (pEq (.int .i64 x0_0))), (1, (pEq (.int .i64 y0_1))), (2, (pEq (.int .i64 x1_2))), (3, (pEq (.int .i64 y1_3))), (4, (pEq (.int .i64 x_4))), (18, (pEq (.bool x1)))]) (Ωm := fun g => []) ?_ (fun g3 => ?_)
  · clear h
    have h := hx1
    clear hx1
    refine Tr.region ?_
    refine RegL.pure (p := (pEq (.int .i64 x_4))) rfl rfl rfl (J_move rfl (Opd.tmp rfl)) ?_
    refine RegL.pure (p := (pEq (.int .i64 x0_0))) rfl rfl rfl (J_move rfl (Opd.tmp rfl)) ?_
    refine RegL.pure (p := (pEq (.bool (decide (x_4 ≤ x0_0))))) rfl rfl rfl (J_bin rfl (Opd.tmp rfl) (Opd.tmp rfl) B_leq) ?_
    refine RegL.pure (p := (pEq (.bool (decide (x_4 ≤ x0_0))))) rfl rfl rfl (J_move rfl (Opd.tmp rfl)) ?_
    rcases Bool.eq_false_or_eq_true (decide (x_4 ≤ x0_0)) with hc2 | hc2
    · replace h := bif_t hc2 h
      refine RegL.skipG rfl rfl rfl hc2 rfl rfl ?_
      refine RegL.skipG rfl rfl rfl hc2 rfl rfl ?_
      refine RegL.skipG rfl rfl rfl hc2 rfl rfl ?_
      refine RegL.pure (p := (pEq (.bool true))) rfl rfl rfl (J_pick rfl (Opd.tmp rfl) (fun _ => Opd.con) (fun hf => absurd (hc2.symm.trans hf) (by decide))) ?_
      refine RegL.nil ?_
      replace h := Option.some.inj h; subst h
      exact Ct.mid () rfl ⟨rfl, rfl, rfl, rfl, rfl, rfl, trivial⟩
    · replace h := bif_f hc2 h
      refine RegL.pureG (p := (pEq (.int .i64 x1_2))) rfl rfl rfl hc2 rfl rfl (J_move rfl (Opd.tmp rfl)) ?_
      refine RegL.pureG (p := (pEq (.int .i64 x0_0))) rfl rfl rfl hc2 rfl rfl (J_move rfl (Opd.tmp rfl)) ?_
      refine RegL.pureG (p := (pEq (.bool (decide (x1_2 ≤ x0_0))))) rfl rfl rfl hc2 rfl rfl (J_bin rfl (Opd.tmp rfl) (Opd.tmp rfl) B_leq) ?_
      refine RegL.pure (p := (pEq (.bool (decide (x1_2 ≤ x0_0))))) rfl rfl rfl (J_pick rfl (Opd.tmp rfl) (fun hf => absurd (hc2.symm.trans hf) (by decide)) (fun _ => (Opd.tmp rfl))) ?_
      refine RegL.nil ?_
      replace h := Option.some.inj h; subst h
      exact Ct.mid () rfl ⟨rfl, rfl, rfl, rfl, rfl, rfl, trivial⟩
  · clear hx1
    refine Ct.then_tr ?_
    refine Tr.weak (Γ' := [(0, (pEq (.int .i64 x0_0))), (1, (pEq (.int .i64 y0_1))), (2, (pEq (.int .i64 x1_2))), (3, (pEq (.int .i64 y1_3))), (4, (pEq (.int .i64 x_4))), (18, (pEq (.bool x1)))]) ⟨rfl, rfl, rfl, rfl, rfl, rfl, trivial⟩ ?_
    refine Tr.cond (Opd.tmp rfl) (fun hc => ?_) (fun hc => ?_)
    · replace h := bif_t hc h
      refine Tr.seq ?_
      refine Tr.region ?_
      refine RegL.pure (p := (pEq (.int .i64 y0_1))) rfl rfl rfl (J_move rfl (Opd.tmp rfl)) ?_
      refine RegL.pure (p := (pEq (.int .i64 y0_1))) rfl rfl rfl (J_assign rfl (Opd.tmp rfl)) ?_
      refine RegL.nil ?_
      refine Ct.then_tr ?_
      refine Tr.weak (Γ' := [(10, (pEq (.int .i64 y0_1)))]) ⟨rfl, trivial⟩ ?_
      refine Tr.ret ?_
      refine Ct.then_ret ?_
      replace h := Option.some.inj h; subst h
      exact Ct.retH1 (Ωx := []) () rfl (RvOk.tmp rfl) rfl
    · replace h := bif_f hc h
      refine Tr.skip ?_
      refine Ct.then_tr ?_
      refine Tr.weak (Γ' := [(0, (pEq (.int .i64 x0_0))), (1, (pEq (.int .i64 y0_1))), (2, (pEq (.int .i64 x1_2))), (3, (pEq (.int .i64 y1_3))), (4, (pEq (.int .i64 x_4)))]) ⟨rfl, rfl, rfl, rfl, rfl, trivial⟩ ?_
      refine Tr.seq ?_
      refine Tr.seq ?_
      refine Tr.region ?_
      refine RegL.pure (p := (pEq (.int .i64 x_4))) rfl rfl rfl (J_move rfl (Opd.tmp rfl)) ?_
      refine RegL.pure (p := (pEq (.int .i64 x1_2))) rfl rfl rfl (J_move rfl (Opd.tmp rfl)) ?_
      refine RegL.pure (p := (pEq (.bool (decide (x1_2 ≤ x_4))))) rfl rfl rfl (J_bin rfl (Opd.tmp rfl) (Opd.tmp rfl) B_geq) ?_
      refine RegL.nil ?_
      refine Ct.then_tr ?_
      refine Tr.weak (Γ' := [(0, (pEq (.int .i64 x0_0))), (1, (pEq (.int .i64 y0_1))), (2, (pEq (.int .i64 x1_2))), (3, (pEq (.int .i64 y1_3))), (4, (pEq (.int .i64 x_4))), (22, (pEq (.bool (decide (x1_2 ≤ x_4)))))]) ⟨rfl, rfl, rfl, rfl, rfl, rfl, trivial⟩ ?_
      refine Tr.cond (Opd.tmp rfl) (fun hc => ?_) (fun hc => ?_)
      · replace h := bif_t hc h
        refine Tr.seq ?_
        refine Tr.region ?_
        refine RegL.pure (p := (pEq (.int .i64 y1_3))) rfl rfl rfl (J_move rfl (Opd.tmp rfl)) ?_
        refine RegL.pure (p := (pEq (.int .i64 y1_3))) rfl rfl rfl (J_assign rfl (Opd.tmp rfl)) ?_
        refine RegL.nil ?_
        refine Ct.then_tr ?_
        refine Tr.weak (Γ' := [(10, (pEq (.int .i64 y1_3)))]) ⟨rfl, trivial⟩ ?_
        refine Tr.ret ?_
        refine Ct.then_ret ?_
        replace h := Option.some.inj h; subst h
        exact Ct.retH1 (Ωx := []) () rfl (RvOk.tmp rfl) rfl
      · replace h := bif_f hc h
        refine Tr.skip ?_
        refine Ct.then_tr ?_
        refine Tr.weak (Γ' := [(0, (pEq (.int .i64 x0_0))), (1, (pEq (.int .i64 y0_1))), (2, (pEq (.int .i64 x1_2))), (3, (pEq (.int .i64 y1_3))), (4, (pEq (.int .i64 x_4)))]) ⟨rfl, rfl, rfl, rfl, rfl, trivial⟩ ?_
        refine Tr.seq ?_
        refine Tr.region ?_
        refine RegL.pure (p := (pEq (.int .i64 y0_1))) rfl rfl rfl (J_move rfl (Opd.tmp rfl)) ?_
        refine RegL.pure (p := (pEq (.int .i64 y1_3))) rfl rfl rfl (J_move rfl (Opd.tmp rfl)) ?_
        refine RegL.pure (p := (pEq (.int .i64 y0_1))) rfl rfl rfl (J_move rfl (Opd.tmp rfl)) ?_
        refine RegL.pure (p := (pEq (.int .i64 (w64 (y1_3 - y0_1))))) rfl rfl rfl (J_bin rfl (Opd.tmp rfl) (Opd.tmp rfl) B_sub) ?_
        refine RegL.pure (p := (pEq (.int .i64 x_4))) rfl rfl rfl (J_move rfl (Opd.tmp rfl)) ?_
        refine RegL.pure (p := (pEq (.int .i64 x0_0))) rfl rfl rfl (J_move rfl (Opd.tmp rfl)) ?_
        refine RegL.pure (p := (pEq (.int .i64 (w64 (x_4 - x0_0))))) rfl rfl rfl (J_bin rfl (Opd.tmp rfl) (Opd.tmp rfl) B_sub) ?_
        refine RegL.pure (p := (pEq (.int .i64 (w64 ((w64 (y1_3 - y0_1)) * (w64 (x_4 - x0_0))))))) rfl rfl rfl (J_bin rfl (Opd.tmp rfl) (Opd.tmp rfl) B_mul) ?_
        refine RegL.pure (p := (pEq (.int .i64 x1_2))) rfl rfl rfl (J_move rfl (Opd.tmp rfl)) ?_
        refine RegL.pure (p := (pEq (.int .i64 x0_0))) rfl rfl rfl (J_move rfl (Opd.tmp rfl)) ?_
        refine RegL.pure (p := (pEq (.int .i64 (w64 (x1_2 - x0_0))))) rfl rfl rfl (J_bin rfl (Opd.tmp rfl) (Opd.tmp rfl) B_sub) ?_
        replace h := bind_some h; obtain ⟨x4, hx4, h⟩ := h
        refine RegL.pure (p := (pEq (.int .i64 x4))) rfl rfl rfl (J_call rfl Tryd.call54 (c_spec_l01Div hx4) (Opds.cons (Opd.tmp rfl) (Opds.cons (Opd.tmp rfl) Opds.nil))) ?_
        refine RegL.pure (p := (pEq (.int .i64 (w64 (y0_1 + x4))))) rfl rfl rfl (J_bin rfl (Opd.tmp rfl) (Opd.tmp rfl) B_add) ?_
        refine RegL.pure (p := (pEq (.int .i64 (w64 (y0_1 + x4))))) rfl rfl rfl (J_assign rfl (Opd.tmp rfl)) ?_
        refine RegL.nil ?_
        refine Ct.then_tr ?_
        refine Tr.weak (Γ' := [(10, (pEq (.int .i64 (w64 (y0_1 + x4)))))]) ⟨rfl, trivial⟩ ?_
        refine Tr.ret ?_
        replace h := Option.some.inj h; subst h
        exact Ct.retH1 (Ωx := []) () rfl (RvOk.tmp rfl) rfl

theorem c_spec_l11Table {x_0 : Int} {places_1 : (List Int)} {values_2 : (List Int)} {r : Int} (h : m_spec_l11Table x_0 places_1 values_2 = some r) : CallJ Tryd.prog 56 [(pEq (.int .i64 x_0)), (pSl 1 (cK .i64) places_1), (pSl 1 (cK .i64) values_2)] (pEq (.int .i64 r)) := by
  unfold m_spec_l11Table at h
  refine CallJ.enterH Tryd.func56 rfl Tryd.ntmps56 rfl fun W I0 H => ?_
  refine Tr.weak (Γ' := [(0, (pEq (.int .i64 x_0))), (1, (pSl 1 (cK .i64) places_1)), (2, (pSl 1 (cK .i64) values_2))]) ⟨rfl, rfl, rfl, trivial⟩ ?_
  refine Tr.seq ?_
  refine Tr.region ?_
  refine RegL.pure (p := (pEq (.int .i64 (0 : Int)))) rfl rfl rfl (J_assign rfl Opd.con) ?_
  refine RegL.nil ?_
  refine Ct.then_tr ?_
  refine Tr.weak (Γ' := [(0, (pEq (.int .i64 x_0))), (1, (pSl 1 (cK .i64) places_1)), (2, (pSl 1 (cK .i64) values_2))]) ⟨rfl, rfl, rfl, trivial⟩ ?_
  refine Tr.seq ?_
  refine Tr.region ?_
  refine RegL.pure (p := (pSl 1 (cK .i64) places_1)) rfl rfl rfl (J_move rfl (Opd.tmp rfl)) ?_
  refine RegL.pure (p := (pEq (.int .i64 (places_1.length : Int)))) rfl rfl rfl (J_len rfl Tryd.underlying38 (Opd.tmp rfl) rfl) ?_
  refine RegL.pure (p := (pEq (.int .i64 (w64 ((places_1.length : Int) - (1 : Int)))))) rfl rfl rfl (J_bin rfl (Opd.tmp rfl) Opd.con B_sub) ?_
  refine RegL.pure (p := (pEq (.int .i64 (w64 ((places_1.length : Int) - (1 : Int)))))) rfl rfl rfl (J_assign rfl (Opd.tmp rfl)) ?_
  refine RegL.nil ?_
  refine Ct.then_tr ?_
  refine Tr.weak (Γ' := [(0, (pEq (.int .i64 x_0))), (1, (pSl 1 (cK .i64) places_1)), (2, (pSl 1 (cK .i64) values_2)), (7, (pEq (.int .i64 (w64 ((places_1.length : Int) - (1 : Int))))))]) ⟨rfl, rfl, rfl, rfl, trivial⟩ ?_
  refine Tr.seq ?_
  refine Tr.seq ?_
  refine Tr.region ?_
  refine RegL.pure (p := (pEq (.int .i64 x_0))) rfl rfl rfl (J_move rfl (Opd.tmp rfl)) ?_
  refine RegL.pure (p := (pSl 1 (cK .i64) places_1)) rfl rfl rfl (J_move rfl (Opd.tmp rfl)) ?_
  replace h := bind_some h; obtain ⟨x1, hx1, h⟩ := h
  refine RegL.pure (p := (pPtr ((cK .i64) x1))) rfl rfl rfl (J_idx rfl Tryd.underlying38 sz2 (Opd.tmp rfl) Opd.con hx1) ?_
  refine RegL.pure (p := (pEq (.int .i64 x1))) rfl rfl rfl (J_load rfl Tryd.isAgg2 (Opd.tmp rfl)) ?_
  refine RegL.pure (p := (pEq (.bool (decide (x_0 ≤ x1))))) rfl rfl rfl (J_bin rfl (Opd.tmp rfl) (Opd.tmp rfl) B_leq) ?_
  refine RegL.nil ?_
  refine Ct.then_tr ?_
  refine Tr.weak (Γ' := [(0, (pEq (.int .i64 x_0))), (1, (pSl 1 (cK .i64) places_1)), (2, (pSl 1 (cK .i64) values_2)), (7, (pEq (.int .i64 (w64 ((places_1.length : Int) - (1 : Int)))))), (16, (pEq (.bool (decide (x_0 ≤ x1)))))]) ⟨rfl, rfl, rfl, rfl, rfl, trivial⟩ ?_
  refine Tr.cond (Opd.tmp rfl) (fun hc => ?_) (fun hc => ?_)
  · replace h := bif_t hc h
    refine Tr.seq ?_
    refine Tr.region ?_
    refine RegL.pure (p := (pSl 1 (cK .i64) values_2)) rfl rfl rfl (J_move rfl (Opd.tmp rfl)) ?_
    replace h := bind_some h; obtain ⟨x2, hx2, h⟩ := h
    refine RegL.pure (p := (pPtr ((cK .i64) x2))) rfl rfl rfl (J_idx rfl Tryd.underlying38 sz2 (Opd.tmp rfl) Opd.con hx2) ?_
    refine RegL.pure (p := (pEq (.int .i64 x2))) rfl rfl rfl (J_load rfl Tryd.isAgg2 (Opd.tmp rfl)) ?_
    refine RegL.pure (p := (pEq (.int .i64 x2))) rfl rfl rfl (J_assign rfl (Opd.tmp rfl)) ?_
    refine RegL.nil ?_
    refine Ct.then_tr ?_
    refine Tr.weak (Γ' := [(6, (pEq (.int .i64 x2)))]) ⟨rfl, trivial⟩ ?_
    refine Tr.ret ?_
    refine Ct.then_ret ?_
    replace h := Option.some.inj h; subst h
    exact Ct.retH1 (Ωx := []) () rfl (RvOk.tmp rfl) rfl
  · replace h := bif_f hc h
    refine Tr.skip ?_
    refine Ct.then_tr ?_
    refine Tr.weak (Γ' := [(0, (pEq (.int .i64 x_0))), (1, (pSl 1 (cK .i64) places_1)), (2, (pSl 1 (cK .i64) values_2)), (7, (pEq (.int .i64 (w64 ((places_1.length : Int) - (1 : Int))))))]) ⟨rfl, rfl, rfl, rfl, trivial⟩ ?_
    refine Tr.seq ?_
    refine Tr.seq ?_
    refine Tr.region ?_
    refine RegL.pure (p := (pEq (.int .i64 (1 : Int)))) rfl rfl rfl (J_assign rfl Opd.con) ?_
    refine RegL.nil ?_
    refine Ct.then_tr ?_
    refine Tr.weak (Γ' := [(0, (pEq (.int .i64 x_0))), (1, (pSl 1 (cK .i64) places_1)), (2, (pSl 1 (cK .i64) values_2)), (7, (pEq (.int .i64 (w64 ((places_1.length : Int) - (1 : Int)))))), (8, (pEq (.int .i64 (1 : Int))))]) ⟨rfl, rfl, rfl, rfl, rfl, trivial⟩ ?_
    refine Tr.block ?_
    refine Tr.weak (Γ' := [(0, (pEq (.int .i64 x_0))), (1, (pSl 1 (cK .i64) places_1)), (2, (pSl 1 (cK .i64) values_2)), (7, (pEq (.int .i64 (w64 ((places_1.length : Int) - (1 : Int)))))), (8, (pEq (.int .i64 (1 : Int))))]) ⟨rfl, rfl, rfl, rfl, rfl, trivial⟩ ?_
    refine Tr.loop (γ := Unit) (σ := Int) (Γσ := fun s g => [(0, (pEq (.int .i64 x_0))), (1, (pSl 1 (cK .i64) places_1)), (2, (pSl 1 (cK .i64) values_2)), (7, (pEq (.int .i64 (w64 ((places_1.length : Int) - (1 : Int)))))), (8, (pEq (.int .i64 s)))]) (Ωσ := fun s g => []) (g := ()) h ?_
    clear h
    rintro v4 g5 t h
    replace h : m_spec_l11Table_B3 x_0 places_1 values_2 v4 = some t := h
    unfold m_spec_l11Table_B3 at h
    refine Tr.weakO (Γ' := [(0, (pEq (.int .i64 x_0))), (1, (pSl 1 (cK .i64) places_1)), (2, (pSl 1 (cK .i64) values_2)), (7, (pEq (.int .i64 (w64 ((places_1.length : Int) - (1 : Int)))))), (8, (pEq (.int .i64 v4)))]) (Ω' := []) rfl ⟨rfl, rfl, rfl, rfl, rfl, trivial⟩ ?_
    refine Tr.seq ?_
    refine Tr.seq ?_
    refine Tr.region ?_
    refine RegL.pure (p := (pEq (.int .i64 v4))) rfl rfl rfl (J_move rfl (Opd.tmp rfl)) ?_
    refine RegL.pure (p := (pEq (.int .i64 (w64 ((places_1.length : Int) - (1 : Int)))))) rfl rfl rfl (J_move rfl (Opd.tmp rfl)) ?_
    refine RegL.pure (p := (pEq (.bool (decide (v4 ≤ (w64 ((places_1.length : Int) - (1 : Int)))))))) rfl rfl rfl (J_bin rfl (Opd.tmp rfl) (Opd.tmp rfl) B_leq) ?_
    refine RegL.nil ?_
    refine Ct.then_tr ?_
    refine Tr.weak (Γ' := [(0, (pEq (.int .i64 x_0))), (1, (pSl 1 (cK .i64) places_1)), (2, (pSl 1 (cK .i64) values_2)), (7, (pEq (.int .i64 (w64 ((places_1.length : Int) - (1 : Int)))))), (8, (pEq (.int .i64 v4))), (22, (pEq (.bool (decide (v4 ≤ (w64 ((places_1.length : Int) - (1 : Int))))))))]) ⟨rfl, rfl, rfl, rfl, rfl, rfl, trivial⟩ ?_
    refine Tr.cond (Opd.tmp rfl) (fun hc => ?_) (fun hc => ?_)
    · replace h := bif_t hc h
      refine Tr.skip ?_
      refine Ct.then_tr ?_
      refine Tr.weak (Γ' := [(0, (pEq (.int .i64 x_0))), (1, (pSl 1 (cK .i64) places_1)), (2, (pSl 1 (cK .i64) values_2)), (7, (pEq (.int .i64 (w64 ((places_1.length : Int) - (1 : Int)))))), (8, (pEq (.int .i64 v4)))]) ⟨rfl, rfl, rfl, rfl, rfl, trivial⟩ ?_
      refine Tr.seq ?_
      refine Tr.block ?_
      refine Tr.seq ?_
      refine Tr.region ?_
      refine RegL.pure (p := (pEq (.int .i64 x_0))) rfl rfl rfl (J_move rfl (Opd.tmp rfl)) ?_
      refine RegL.pure (p := (pSl 1 (cK .i64) places_1)) rfl rfl rfl (J_move rfl (Opd.tmp rfl)) ?_
      refine RegL.pure (p := (pEq (.int .i64 v4))) rfl rfl rfl (J_move rfl (Opd.tmp rfl)) ?_
      replace h := bind_some h; obtain ⟨x6, hx6, h⟩ := h
      refine RegL.pure (p := (pPtr ((cK .i64) x6))) rfl rfl rfl (J_idx rfl Tryd.underlying38 sz2 (Opd.tmp rfl) (Opd.tmp rfl) hx6) ?_
      refine RegL.pure (p := (pEq (.int .i64 x6))) rfl rfl rfl (J_load rfl Tryd.isAgg2 (Opd.tmp rfl)) ?_
      refine RegL.pure (p := (pEq (.bool (decide (x_0 ≤ x6))))) rfl rfl rfl (J_bin rfl (Opd.tmp rfl) (Opd.tmp rfl) B_leq) ?_
      refine RegL.nil ?_
      refine Ct.then_tr ?_
      refine Tr.weak (Γ' := [(0, (pEq (.int .i64 x_0))), (1, (pSl 1 (cK .i64) places_1)), (2, (pSl 1 (cK .i64) values_2)), (7, (pEq (.int .i64 (w64 ((places_1.length : Int) - (1 : Int)))))), (8, (pEq (.int .i64 v4))), (30, (pEq (.bool (decide (x_0 ≤ x6)))))]) ⟨rfl, rfl, rfl, rfl, rfl, rfl, trivial⟩ ?_
      refine Tr.cond (Opd.tmp rfl) (fun hc => ?_) (fun hc => ?_)
      · replace h := bif_t hc h
        refine Tr.seq ?_
        replace h := bind_some h; obtain ⟨x7, hx7, h⟩ := h
        replace h := bind_some h; obtain ⟨x8, hx8, h⟩ := h
        replace h := bind_some h; obtain ⟨x9, hx9, h⟩ := h
        replace h := bind_some h; obtain ⟨x10, hx10, h⟩ := h
        replace h := bind_some h; obtain ⟨x11, hx11, h⟩ := h
        refine Tr.drawD (n := 55) (m := 20) (es := [some (Ent.mk [(1, (pSl 1 (cK .i64) places_1))] (pSl 1 (cK .i64) places_1) true), some (Ent.mk [(8, (pEq (.int .i64 v4)))] (pEq (.int .i64 v4)) true), some (Ent.mk [(32, (pEq (.int .i64 v4)))] (pEq (.int .i64 (w64 (v4 - (1 : Int))))) true), some (Ent.mk [(31, (pSl 1 (cK .i64) places_1)), (33, (pEq (.int .i64 (w64 (v4 - (1 : Int))))))] (pPtr ((cK .i64) x7)) true), some (Ent.mk [(34, (pPtr ((cK .i64) x7)))] (pEq (.int .i64 x7)) true), some (Ent.mk [(2, (pSl 1 (cK .i64) values_2))] (pSl 1 (cK .i64) values_2) true), some (Ent.mk [(8, (pEq (.int .i64 v4)))] (pEq (.int .i64 v4)) true), some (Ent.mk [(37, (pEq (.int .i64 v4)))] (pEq (.int .i64 (w64 (v4 - (1 : Int))))) true), some (Ent.mk [(36, (pSl 1 (cK .i64) values_2)), (38, (pEq (.int .i64 (w64 (v4 - (1 : Int))))))] (pPtr ((cK .i64) x8)) true), some (Ent.mk [(39, (pPtr ((cK .i64) x8)))] (pEq (.int .i64 x8)) true), some (Ent.mk [(1, (pSl 1 (cK .i64) places_1))] (pSl 1 (cK .i64) places_1) true), some (Ent.mk [(8, (pEq (.int .i64 v4)))] (pEq (.int .i64 v4)) true), some (Ent.mk [(41, (pSl 1 (cK .i64) places_1)), (42, (pEq (.int .i64 v4)))] (pPtr ((cK .i64) x9)) true), some (Ent.mk [(43, (pPtr ((cK .i64) x9)))] (pEq (.int .i64 x9)) true), some (Ent.mk [(2, (pSl 1 (cK .i64) values_2))] (pSl 1 (cK .i64) values_2) true), some (Ent.mk [(8, (pEq (.int .i64 v4)))] (pEq (.int .i64 v4)) true), some (Ent.mk [(45, (pSl 1 (cK .i64) values_2)), (46, (pEq (.int .i64 v4)))] (pPtr ((cK .i64) x10)) true), some (Ent.mk [(47, (pPtr ((cK .i64) x10)))] (pEq (.int .i64 x10)) true), some (Ent.mk [(0, (pEq (.int .i64 x_0)))] (pEq (.int .i64 x_0)) true), some (Ent.mk [(35, (pEq (.int .i64 x7))), (40, (pEq (.int .i64 x8))), (44, (pEq (.int .i64 x9))), (48, (pEq (.int .i64 x10))), (49, (pEq (.int .i64 x_0)))] (pEq (.int .i64 x11)) true)]) (rd := [[1], [8], [32], [31, 33], [34], [2], [8], [37], [36, 38], [39], [1], [8], [41, 42], [43], [2], [8], [45, 46], [47], [0], [35, 40, 44, 48, 49]]) rfl hmix (by kernel_rfl) fun hD => ?_
        refine RD.fin (es := [Ent.mk [(1, (pSl 1 (cK .i64) places_1))] (pSl 1 (cK .i64) places_1) true, Ent.mk [(8, (pEq (.int .i64 v4)))] (pEq (.int .i64 v4)) true, Ent.mk [(32, (pEq (.int .i64 v4)))] (pEq (.int .i64 (w64 (v4 - (1 : Int))))) true, Ent.mk [(31, (pSl 1 (cK .i64) places_1)), (33, (pEq (.int .i64 (w64 (v4 - (1 : Int))))))] (pPtr ((cK .i64) x7)) true, Ent.mk [(34, (pPtr ((cK .i64) x7)))] (pEq (.int .i64 x7)) true, Ent.mk [(2, (pSl 1 (cK .i64) values_2))] (pSl 1 (cK .i64) values_2) true, Ent.mk [(8, (pEq (.int .i64 v4)))] (pEq (.int .i64 v4)) true, Ent.mk [(37, (pEq (.int .i64 v4)))] (pEq (.int .i64 (w64 (v4 - (1 : Int))))) true, Ent.mk [(36, (pSl 1 (cK .i64) values_2)), (38, (pEq (.int .i64 (w64 (v4 - (1 : Int))))))] (pPtr ((cK .i64) x8)) true, Ent.mk [(39, (pPtr ((cK .i64) x8)))] (pEq (.int .i64 x8)) true, Ent.mk [(1, (pSl 1 (cK .i64) places_1))] (pSl 1 (cK .i64) places_1) true, Ent.mk [(8, (pEq (.int .i64 v4)))] (pEq (.int .i64 v4)) true, Ent.mk [(41, (pSl 1 (cK .i64) places_1)), (42, (pEq (.int .i64 v4)))] (pPtr ((cK .i64) x9)) true, Ent.mk [(43, (pPtr ((cK .i64) x9)))] (pEq (.int .i64 x9)) true, Ent.mk [(2, (pSl 1 (cK .i64) values_2))] (pSl 1 (cK .i64) values_2) true, Ent.mk [(8, (pEq (.int .i64 v4)))] (pEq (.int .i64 v4)) true, Ent.mk [(45, (pSl 1 (cK .i64) values_2)), (46, (pEq (.int .i64 v4)))] (pPtr ((cK .i64) x10)) true, Ent.mk [(47, (pPtr ((cK .i64) x10)))] (pEq (.int .i64 x10)) true, Ent.mk [(0, (pEq (.int .i64 x_0)))] (pEq (.int .i64 x_0)) true, Ent.mk [(35, (pEq (.int .i64 x7))), (40, (pEq (.int .i64 x8))), (44, (pEq (.int .i64 x9))), (48, (pEq (.int .i64 x10))), (49, (pEq (.int .i64 x_0)))] (pEq (.int .i64 x11)) true]) (done := []) hD ⟨.inr ⟨(OpJ.w (J_move rfl (Opd.tmp rfl))), ⟨rfl, trivial⟩, rfl, rfl⟩, ⟨.inr ⟨(OpJ.w (J_move rfl (Opd.tmp rfl))), ⟨rfl, trivial⟩, rfl, rfl⟩, ⟨.inr ⟨(OpJ.w (J_bin rfl (Opd.tmp rfl) Opd.con B_sub)), ⟨rfl, trivial⟩, rfl, rfl⟩, ⟨.inr ⟨(OpJ.w (J_idx rfl Tryd.underlying38 sz2 (Opd.tmp rfl) (Opd.tmp rfl) hx7)), ⟨rfl, rfl, trivial⟩, rfl, rfl⟩, ⟨.inr ⟨(OpJ.w (J_load rfl Tryd.isAgg2 (Opd.tmp rfl))), ⟨rfl, trivial⟩, rfl, rfl⟩, ⟨.inr ⟨(OpJ.w (J_move rfl (Opd.tmp rfl))), ⟨rfl, trivial⟩, rfl, rfl⟩, ⟨.inr ⟨(OpJ.w (J_move rfl (Opd.tmp rfl))), ⟨rfl, trivial⟩, rfl, rfl⟩, ⟨.inr ⟨(OpJ.w (J_bin rfl (Opd.tmp rfl) Opd.con B_sub)), ⟨rfl, trivial⟩, rfl, rfl⟩, ⟨.inr ⟨(OpJ.w (J_idx rfl Tryd.underlying38 sz2 (Opd.tmp rfl) (Opd.tmp rfl) hx8)), ⟨rfl, rfl, trivial⟩, rfl, rfl⟩, ⟨.inr ⟨(OpJ.w (J_load rfl Tryd.isAgg2 (Opd.tmp rfl))), ⟨rfl, trivial⟩, rfl, rfl⟩, ⟨.inr ⟨(OpJ.w (J_move rfl (Opd.tmp rfl))), ⟨rfl, trivial⟩, rfl, rfl⟩, ⟨.inr ⟨(OpJ.w (J_move rfl (Opd.tmp rfl))), ⟨rfl, trivial⟩, rfl, rfl⟩, ⟨.inr ⟨(OpJ.w (J_idx rfl Tryd.underlying38 sz2 (Opd.tmp rfl) (Opd.tmp rfl) hx9)), ⟨rfl, rfl, trivial⟩, rfl, rfl⟩, ⟨.inr ⟨(OpJ.w (J_load rfl Tryd.isAgg2 (Opd.tmp rfl))), ⟨rfl, trivial⟩, rfl, rfl⟩, ⟨.inr ⟨(OpJ.w (J_move rfl (Opd.tmp rfl))), ⟨rfl, trivial⟩, rfl, rfl⟩, ⟨.inr ⟨(OpJ.w (J_move rfl (Opd.tmp rfl))), ⟨rfl, trivial⟩, rfl, rfl⟩, ⟨.inr ⟨(OpJ.w (J_idx rfl Tryd.underlying38 sz2 (Opd.tmp rfl) (Opd.tmp rfl) hx10)), ⟨rfl, rfl, trivial⟩, rfl, rfl⟩, ⟨.inr ⟨(OpJ.w (J_load rfl Tryd.isAgg2 (Opd.tmp rfl))), ⟨rfl, trivial⟩, rfl, rfl⟩, ⟨.inr ⟨(OpJ.w (J_move rfl (Opd.tmp rfl))), ⟨rfl, trivial⟩, rfl, rfl⟩, ⟨.inr ⟨(OpJ.w (J_call rfl Tryd.call62 (c_spec_l01Line hx11) (Opds.cons (Opd.tmp rfl) (Opds.cons (Opd.tmp rfl) (Opds.cons (Opd.tmp rfl) (Opds.cons (Opd.tmp rfl) (Opds.cons (Opd.tmp rfl) Opds.nil))))))), ⟨rfl, rfl, rfl, rfl, rfl, trivial⟩, rfl, rfl⟩, trivial⟩⟩⟩⟩⟩⟩⟩⟩⟩⟩⟩⟩⟩⟩⟩⟩⟩⟩⟩⟩ ?_
        refine RegL.pure (p := (pEq (.int .i64 x11))) rfl rfl rfl (J_assign rfl (Opd.tmp rfl)) ?_
        refine RegL.nil ?_
        refine Ct.then_tr ?_
        refine Tr.weak (Γ' := [(6, (pEq (.int .i64 x11)))]) ⟨rfl, trivial⟩ ?_
        refine Tr.ret ?_
        refine Ct.blk_ret ?_
        refine Ct.then_ret ?_
        replace h := map_some h; obtain ⟨r1, h, rfl⟩ := h
        refine Ct.out_ret fun e => ?_
        subst e
        refine Ct.blk_ret ?_
        refine Ct.then_ret ?_
        replace h := Option.some.inj h; subst h
        exact Ct.retH1 (Ωx := []) () rfl (RvOk.tmp rfl) rfl
      · replace h := bif_f hc h
        refine Tr.skip ?_
        refine Ct.blk_normal ?_
        refine Ct.then_tr ?_
        refine Tr.weak (Γ' := [(0, (pEq (.int .i64 x_0))), (1, (pSl 1 (cK .i64) places_1)), (2, (pSl 1 (cK .i64) values_2)), (7, (pEq (.int .i64 (w64 ((places_1.length : Int) - (1 : Int)))))), (8, (pEq (.int .i64 v4)))]) ⟨rfl, rfl, rfl, rfl, rfl, trivial⟩ ?_
        refine Tr.region ?_
        refine RegL.pure (p := (pEq (.int .i64 v4))) rfl rfl rfl (J_move rfl (Opd.tmp rfl)) ?_
        refine RegL.pure (p := (pEq (.int .i64 (w64 (v4 + (1 : Int)))))) rfl rfl rfl (J_bin rfl (Opd.tmp rfl) Opd.con B_add) ?_
        refine RegL.pure (p := (pEq (.int .i64 (w64 (v4 + (1 : Int)))))) rfl rfl rfl (J_assign rfl (Opd.tmp rfl)) ?_
        refine RegL.nil ?_
        replace h := Option.some.inj h; subst h
        exact Ct.again () rfl ⟨rfl, rfl, rfl, rfl, rfl, trivial⟩
    · replace h := bif_f hc h
      refine Tr.exit ?_
      refine Ct.then_exit ?_
      replace h := map_some h; obtain ⟨r1, h, rfl⟩ := h
      refine Ct.out_exit fun e => ?_
      subst e
      refine Ct.blk_exit ?_
      refine Ct.then_tr ?_
      refine Tr.weak (Γ' := [(2, (pSl 1 (cK .i64) values_2)), (7, (pEq (.int .i64 (w64 ((places_1.length : Int) - (1 : Int))))))]) ⟨rfl, rfl, trivial⟩ ?_
      refine Tr.seq ?_
      refine Tr.region ?_
      refine RegL.pure (p := (pSl 1 (cK .i64) values_2)) rfl rfl rfl (J_move rfl (Opd.tmp rfl)) ?_
      refine RegL.pure (p := (pEq (.int .i64 (w64 ((places_1.length : Int) - (1 : Int)))))) rfl rfl rfl (J_move rfl (Opd.tmp rfl)) ?_
      replace h := bind_some h; obtain ⟨x12, hx12, h⟩ := h
      refine RegL.pure (p := (pPtr ((cK .i64) x12))) rfl rfl rfl (J_idx rfl Tryd.underlying38 sz2 (Opd.tmp rfl) (Opd.tmp rfl) hx12) ?_
      refine RegL.pure (p := (pEq (.int .i64 x12))) rfl rfl rfl (J_load rfl Tryd.isAgg2 (Opd.tmp rfl)) ?_
      refine RegL.pure (p := (pEq (.int .i64 x12))) rfl rfl rfl (J_assign rfl (Opd.tmp rfl)) ?_
      refine RegL.nil ?_
      refine Ct.then_tr ?_
      refine Tr.weak (Γ' := [(6, (pEq (.int .i64 x12)))]) ⟨rfl, trivial⟩ ?_
      refine Tr.ret ?_
      replace h := Option.some.inj h; subst h
      exact Ct.retH1 (Ωx := []) () rfl (RvOk.tmp rfl) rfl

theorem c_spec_l11Rain {f_0 : Int} {rain_1 : Int} {r : Int} (h : m_spec_l11Rain f_0 rain_1 = some r) : CallJ Tryd.prog 55 [(pEq (.int .i64 f_0)), (pEq (.int .i64 rain_1))] (pEq (.int .i64 r)) := by
  unfold m_spec_l11Rain at h
  refine CallJ.enterH Tryd.func55 rfl Tryd.ntmps55 rfl fun W I0 H => ?_
  refine Tr.weak (Γ' := [(0, (pEq (.int .i64 f_0))), (1, (pEq (.int .i64 rain_1)))]) ⟨rfl, rfl, trivial⟩ ?_
  refine Tr.seq ?_
  refine Tr.region ?_
  refine RegL.pure (p := (pEq (.int .i64 (0 : Int)))) rfl rfl rfl (J_assign rfl Opd.con) ?_
  refine RegL.nil ?_
  refine Ct.then_tr ?_
  refine Tr.weak (Γ' := [(0, (pEq (.int .i64 f_0))), (1, (pEq (.int .i64 rain_1)))]) ⟨rfl, rfl, trivial⟩ ?_
  refine Tr.seq ?_
  refine Tr.seq ?_
  refine Tr.region ?_
  refine RegL.pure (p := (pEq (.int .i64 rain_1))) rfl rfl rfl (J_move rfl (Opd.tmp rfl)) ?_
  refine RegL.pure (p := (pEq (.bool (rain_1 == (0 : Int))))) rfl rfl rfl (J_bin rfl (Opd.tmp rfl) Opd.con B_eql) ?_
  refine RegL.nil ?_
  refine Ct.then_tr ?_
  refine Tr.weak (Γ' := [(0, (pEq (.int .i64 f_0))), (1, (pEq (.int .i64 rain_1))), (10, (pEq (.bool (rain_1 == (0 : Int)))))]) ⟨rfl, rfl, rfl, trivial⟩ ?_
  refine Tr.cond (Opd.tmp rfl) (fun hc => ?_) (fun hc => ?_)
  · replace h := bif_t hc h
    refine Tr.seq ?_
    refine Tr.region ?_
    refine RegL.pure (p := (pEq (.int .i64 (0 : Int)))) rfl rfl rfl (J_assign rfl Opd.con) ?_
    refine RegL.nil ?_
    refine Ct.then_tr ?_
    refine Tr.weak (Γ' := [(4, (pEq (.int .i64 (0 : Int))))]) ⟨rfl, trivial⟩ ?_
    refine Tr.ret ?_
    refine Ct.then_ret ?_
    replace h := Option.some.inj h; subst h
    exact Ct.retH1 (Ωx := []) () rfl (RvOk.tmp rfl) rfl
  · replace h := bif_f hc h
    refine Tr.skip ?_
    refine Ct.then_tr ?_
    refine Tr.weak (Γ' := [(0, (pEq (.int .i64 f_0))), (1, (pEq (.int .i64 rain_1)))]) ⟨rfl, rfl, trivial⟩ ?_
    refine Tr.seq ?_
    refine Tr.region ?_
    refine RegL.pure (p := (pSl 1 (cK .i64) ([(1000 : Int), (6000 : Int), (10000 : Int), (20000 : Int), (40000 : Int), (80000 : Int), (100000 : Int)] : (List Int)))) rfl rfl rfl (J_buildSlice (l := ([(1000 : Int), (6000 : Int), (10000 : Int), (20000 : Int), (40000 : Int), (80000 : Int), (100000 : Int)] : (List Int))) (qss := [(0, (cK .i64) (1000 : Int)), (1, (cK .i64) (6000 : Int)), (2, (cK .i64) (10000 : Int)), (3, (cK .i64) (20000 : Int)), (4, (cK .i64) (40000 : Int)), (5, (cK .i64) (80000 : Int)), (6, (cK .i64) (100000 : Int))]) rfl Tryd.underlying38 el2 rfl (Parts.cons (Part.one Opd.con OneC.int) (Parts.cons (Part.one Opd.con OneC.int) (Parts.cons (Part.one Opd.con OneC.int) (Parts.cons (Part.one Opd.con OneC.int) (Parts.cons (Part.one Opd.con OneC.int) (Parts.cons (Part.one Opd.con OneC.int) (Parts.cons (Part.one Opd.con OneC.int) Parts.nil))))))) rfl rfl) ?_
    refine RegL.pure (p := (pSl 1 (cK .i64) ([(1000 : Int), (6000 : Int), (10000 : Int), (20000 : Int), (40000 : Int), (80000 : Int), (100000 : Int)] : (List Int)))) rfl rfl rfl (J_assign rfl (Opd.tmp rfl)) ?_
    refine RegL.nil ?_
    refine Ct.then_tr ?_
    refine Tr.weak (Γ' := [(0, (pEq (.int .i64 f_0))), (1, (pEq (.int .i64 rain_1))), (5, (pSl 1 (cK .i64) ([(1000 : Int), (6000 : Int), (10000 : Int), (20000 : Int), (40000 : Int), (80000 : Int), (100000 : Int)] : (List Int))))]) ⟨rfl, rfl, rfl, trivial⟩ ?_
    refine Tr.seq ?_
    refine Tr.region ?_
    refine RegL.pure (p := (pEq (.int .i64 f_0))) rfl rfl rfl (J_move rfl (Opd.tmp rfl)) ?_
    refine RegL.pure (p := (pEq (.int .i64 (w64 (f_0.tdiv (1000 : Int)))))) rfl rfl rfl (J_bin rfl (Opd.tmp rfl) Opd.con (B_quo (n := (1000 : Int)) (by decide))) ?_
    refine RegL.pure (p := (pSl 1 (cK .i64) ([(1000 : Int), (6000 : Int), (10000 : Int), (20000 : Int), (40000 : Int), (80000 : Int), (100000 : Int)] : (List Int)))) rfl rfl rfl (J_move rfl (Opd.tmp rfl)) ?_
    refine RegL.pure (p := (pSl 1 (cK .i64) ([(-42000 : Int), (-28000 : Int), (-19500 : Int), (-11200 : Int), (-4000 : Int), (500 : Int), (900 : Int)] : (List Int)))) rfl rfl rfl (J_buildSlice (l := ([(-42000 : Int), (-28000 : Int), (-19500 : Int), (-11200 : Int), (-4000 : Int), (500 : Int), (900 : Int)] : (List Int))) (qss := [(0, (cK .i64) (-42000 : Int)), (1, (cK .i64) (-28000 : Int)), (2, (cK .i64) (-19500 : Int)), (3, (cK .i64) (-11200 : Int)), (4, (cK .i64) (-4000 : Int)), (5, (cK .i64) (500 : Int)), (6, (cK .i64) (900 : Int))]) rfl Tryd.underlying38 el2 rfl (Parts.cons (Part.one Opd.con OneC.int) (Parts.cons (Part.one Opd.con OneC.int) (Parts.cons (Part.one Opd.con OneC.int) (Parts.cons (Part.one Opd.con OneC.int) (Parts.cons (Part.one Opd.con OneC.int) (Parts.cons (Part.one Opd.con OneC.int) (Parts.cons (Part.one Opd.con OneC.int) Parts.nil))))))) rfl rfl) ?_
    replace h := bind_some h; obtain ⟨x1, hx1, h⟩ := h
    refine RegL.pure (p := (pEq (.int .i64 x1))) rfl rfl rfl (J_call rfl Tryd.call56 (c_spec_l11Table hx1) (Opds.cons (Opd.tmp rfl) (Opds.cons (Opd.tmp rfl) (Opds.cons (Opd.tmp rfl) Opds.nil)))) ?_
    refine RegL.pure (p := (pEq (.int .i64 x1))) rfl rfl rfl (J_assign rfl (Opd.tmp rfl)) ?_
    refine RegL.nil ?_
    refine Ct.then_tr ?_
    refine Tr.weak (Γ' := [(0, (pEq (.int .i64 f_0))), (1, (pEq (.int .i64 rain_1))), (5, (pSl 1 (cK .i64) ([(1000 : Int), (6000 : Int), (10000 : Int), (20000 : Int), (40000 : Int), (80000 : Int), (100000 : Int)] : (List Int)))), (6, (pEq (.int .i64 x1)))]) ⟨rfl, rfl, rfl, rfl, trivial⟩ ?_
    refine Tr.seq ?_
    refine Tr.region ?_
    refine RegL.pure (p := (pEq (.int .i64 f_0))) rfl rfl rfl (J_move rfl (Opd.tmp rfl)) ?_
    refine RegL.pure (p := (pEq (.int .i64 (w64 (f_0.tdiv (1000 : Int)))))) rfl rfl rfl (J_bin rfl (Opd.tmp rfl) Opd.con (B_quo (n := (1000 : Int)) (by decide))) ?_
    refine RegL.pure (p := (pSl 1 (cK .i64) ([(1000 : Int), (6000 : Int), (10000 : Int), (20000 : Int), (40000 : Int), (80000 : Int), (100000 : Int)] : (List Int)))) rfl rfl rfl (J_move rfl (Opd.tmp rfl)) ?_
    refine RegL.pure (p := (pSl 1 (cK .i64) ([(950 : Int), (1300 : Int), (1250 : Int), (1070 : Int), (920 : Int), (740 : Int), (700 : Int)] : (List Int)))) rfl rfl rfl (J_buildSlice (l := ([(950 : Int), (1300 : Int), (1250 : Int), (1070 : Int), (920 : Int), (740 : Int), (700 : Int)] : (List Int))) (qss := [(0, (cK .i64) (950 : Int)), (1, (cK .i64) (1300 : Int)), (2, (cK .i64) (1250 : Int)), (3, (cK .i64) (1070 : Int)), (4, (cK .i64) (920 : Int)), (5, (cK .i64) (740 : Int)), (6, (cK .i64) (700 : Int))]) rfl Tryd.underlying38 el2 rfl (Parts.cons (Part.one Opd.con OneC.int) (Parts.cons (Part.one Opd.con OneC.int) (Parts.cons (Part.one Opd.con OneC.int) (Parts.cons (Part.one Opd.con OneC.int) (Parts.cons (Part.one Opd.con OneC.int) (Parts.cons (Part.one Opd.con OneC.int) (Parts.cons (Part.one Opd.con OneC.int) Parts.nil))))))) rfl rfl) ?_
    replace h := bind_some h; obtain ⟨x2, hx2, h⟩ := h
    refine RegL.pure (p := (pEq (.int .i64 x2))) rfl rfl rfl (J_call rfl Tryd.call56 (c_spec_l11Table hx2) (Opds.cons (Opd.tmp rfl) (Opds.cons (Opd.tmp rfl) (Opds.cons (Opd.tmp rfl) Opds.nil)))) ?_
    refine RegL.pure (p := (pEq (.int .i64 x2))) rfl rfl rfl (J_assign rfl (Opd.tmp rfl)) ?_
    refine RegL.nil ?_
    refine Ct.then_tr ?_
    refine Tr.weak (Γ' := [(1, (pEq (.int .i64 rain_1))), (6, (pEq (.int .i64 x1))), (7, (pEq (.int .i64 x2)))]) ⟨rfl, rfl, rfl, trivial⟩ ?_
    refine Tr.seq ?_
    refine Tr.region ?_
    refine RegL.pure (p := (pEq (.int .i64 x1))) rfl rfl rfl (J_move rfl (Opd.tmp rfl)) ?_
    refine RegL.pure (p := (pEq (.int .i64 (w64 (x1 + (30000 : Int)))))) rfl rfl rfl (J_bin rfl (Opd.tmp rfl) Opd.con B_add) ?_
    refine RegL.pure (p := (pEq (.int .i64 x2))) rfl rfl rfl (J_move rfl (Opd.tmp rfl)) ?_
    refine RegL.pure (p := (pEq (.int .i64 rain_1))) rfl rfl rfl (J_move rfl (Opd.tmp rfl)) ?_
    replace h := bind_some h; obtain ⟨x3, hx3, h⟩ := h
    refine RegL.pure (p := (pEq (.int .i64 x3))) rfl rfl rfl (J_call rfl Tryd.call35 (c_spec_l02Log hx3) (Opds.cons (Opd.tmp rfl) Opds.nil)) ?_
    refine RegL.pure (p := (pEq (.int .i64 (w64 (x2 * x3))))) rfl rfl rfl (J_bin rfl (Opd.tmp rfl) (Opd.tmp rfl) B_mul) ?_
    replace h := bind_some h; obtain ⟨x4, hx4, h⟩ := h
    refine RegL.pure (p := (pEq (.int .i64 x4))) rfl rfl rfl (J_call rfl Tryd.call54 (c_spec_l01Div hx4) (Opds.cons (Opd.tmp rfl) (Opds.cons Opd.con Opds.nil))) ?_
    refine RegL.pure (p := (pEq (.int .i64 (w64 ((w64 (x1 + (30000 : Int))) + x4))))) rfl rfl rfl (J_bin rfl (Opd.tmp rfl) (Opd.tmp rfl) B_add) ?_
    refine RegL.pure (p := (pEq (.int .i64 (w64 ((w64 (x1 + (30000 : Int))) + x4))))) rfl rfl rfl (J_assign rfl (Opd.tmp rfl)) ?_
    refine RegL.nil ?_
    refine Ct.then_tr ?_
    refine Tr.weak (Γ' := [(8, (pEq (.int .i64 (w64 ((w64 (x1 + (30000 : Int))) + x4)))))]) ⟨rfl, trivial⟩ ?_
    refine Tr.seq ?_
    refine Tr.seq ?_
    refine Tr.region ?_
    refine RegL.pure (p := (pEq (.int .i64 (w64 ((w64 (x1 + (30000 : Int))) + x4))))) rfl rfl rfl (J_move rfl (Opd.tmp rfl)) ?_
    refine RegL.pure (p := (pEq (.bool (decide ((w64 ((w64 (x1 + (30000 : Int))) + x4)) < (0 : Int)))))) rfl rfl rfl (J_bin rfl (Opd.tmp rfl) Opd.con B_lss) ?_
    refine RegL.nil ?_
    refine Ct.then_tr ?_
    refine Tr.weak (Γ' := [(8, (pEq (.int .i64 (w64 ((w64 (x1 + (30000 : Int))) + x4))))), (31, (pEq (.bool (decide ((w64 ((w64 (x1 + (30000 : Int))) + x4)) < (0 : Int))))))]) ⟨rfl, rfl, trivial⟩ ?_
    refine Tr.cond (Opd.tmp rfl) (fun hc => ?_) (fun hc => ?_)
    · replace h := bif_t hc h
      refine Tr.seq ?_
      refine Tr.region ?_
      refine RegL.pure (p := (pEq (.int .i64 (0 : Int)))) rfl rfl rfl (J_assign rfl Opd.con) ?_
      refine RegL.nil ?_
      refine Ct.then_tr ?_
      refine Tr.weak (Γ' := [(4, (pEq (.int .i64 (0 : Int))))]) ⟨rfl, trivial⟩ ?_
      refine Tr.ret ?_
      refine Ct.then_ret ?_
      replace h := Option.some.inj h; subst h
      exact Ct.retH1 (Ωx := []) () rfl (RvOk.tmp rfl) rfl
    · replace h := bif_f hc h
      refine Tr.skip ?_
      refine Ct.then_tr ?_
      refine Tr.weak (Γ' := [(8, (pEq (.int .i64 (w64 ((w64 (x1 + (30000 : Int))) + x4)))))]) ⟨rfl, trivial⟩ ?_
      refine Tr.seq ?_
      refine Tr.region ?_
      refine RegL.pure (p := (pEq (.int .i64 (w64 ((w64 (x1 + (30000 : Int))) + x4))))) rfl rfl rfl (J_move rfl (Opd.tmp rfl)) ?_
      replace h := bind_some h; obtain ⟨x5, hx5, h⟩ := h
      refine RegL.pure (p := (pEq (.int .i64 x5))) rfl rfl rfl (J_call rfl Tryd.call38 (c_spec_l02Pow hx5) (Opds.cons (Opd.tmp rfl) Opds.nil)) ?_
      refine RegL.pure (p := (pEq (.int .i64 x5))) rfl rfl rfl (J_assign rfl (Opd.tmp rfl)) ?_
      refine RegL.nil ?_
      refine Ct.then_tr ?_
      refine Tr.weak (Γ' := [(4, (pEq (.int .i64 x5)))]) ⟨rfl, trivial⟩ ?_
      refine Tr.ret ?_
      replace h := Option.some.inj h; subst h
      exact Ct.retH1 (Ωx := []) () rfl (RvOk.tmp rfl) rfl

theorem c_spec_l11Wet {f_0 : Int} {rain_1 : Int} {d_2 : Int} {r : Int} (h : m_spec_l11Wet f_0 rain_1 d_2 = some r) : CallJ Tryd.prog 43 [(pEq (.int .i64 f_0)), (pEq (.int .i64 rain_1)), (pEq (.int .i64 d_2))] (pEq (.int .i64 r)) := by
  unfold m_spec_l11Wet at h
  refine CallJ.enterH Tryd.func43 rfl Tryd.ntmps43 rfl fun W I0 H => ?_
  refine Tr.weak (Γ' := [(0, (pEq (.int .i64 f_0))), (1, (pEq (.int .i64 rain_1))), (2, (pEq (.int .i64 d_2)))]) ⟨rfl, rfl, rfl, trivial⟩ ?_
  refine Tr.seq ?_
  refine Tr.region ?_
  refine RegL.pure (p := (pEq (.int .i64 (0 : Int)))) rfl rfl rfl (J_assign rfl Opd.con) ?_
  refine RegL.nil ?_
  refine Ct.then_tr ?_
  refine Tr.weak (Γ' := [(0, (pEq (.int .i64 f_0))), (1, (pEq (.int .i64 rain_1))), (2, (pEq (.int .i64 d_2)))]) ⟨rfl, rfl, rfl, trivial⟩ ?_
  refine Tr.seq ?_
  refine Tr.region ?_
  refine RegL.pure (p := (pEq (.int .i64 rain_1))) rfl rfl rfl (J_move rfl (Opd.tmp rfl)) ?_
  refine RegL.pure (p := (pEq (.int .i64 (w64 ((15 : Int) * rain_1))))) rfl rfl rfl (J_bin rfl Opd.con (Opd.tmp rfl) B_mul) ?_
  refine RegL.pure (p := (pEq (.int .i64 (w64 ((1000 : Int) + (w64 ((15 : Int) * rain_1))))))) rfl rfl rfl (J_bin rfl Opd.con (Opd.tmp rfl) B_add) ?_
  replace h := bind_some h; obtain ⟨x1, hx1, h⟩ := h
  refine RegL.pure (p := (pEq (.int .i64 x1))) rfl rfl rfl (J_call rfl Tryd.call54 (c_spec_l01Div hx1) (Opds.cons Opd.con (Opds.cons (Opd.tmp rfl) Opds.nil))) ?_
  refine RegL.pure (p := (pEq (.int .i64 x1))) rfl rfl rfl (J_assign rfl (Opd.tmp rfl)) ?_
  refine RegL.nil ?_
  refine Ct.then_tr ?_
  refine Tr.weak (Γ' := [(0, (pEq (.int .i64 f_0))), (1, (pEq (.int .i64 rain_1))), (2, (pEq (.int .i64 d_2))), (7, (pEq (.int .i64 x1)))]) ⟨rfl, rfl, rfl, rfl, trivial⟩ ?_
  refine Tr.seq ?_
  refine Tr.region ?_
  refine RegL.pure (p := (pEq (.int .i64 f_0))) rfl rfl rfl (J_move rfl (Opd.tmp rfl)) ?_
  refine RegL.pure (p := (pEq (.int .i64 rain_1))) rfl rfl rfl (J_move rfl (Opd.tmp rfl)) ?_
  replace h := bind_some h; obtain ⟨x2, hx2, h⟩ := h
  refine RegL.pure (p := (pEq (.int .i64 x2))) rfl rfl rfl (J_call rfl Tryd.call55 (c_spec_l11Rain hx2) (Opds.cons (Opd.tmp rfl) (Opds.cons (Opd.tmp rfl) Opds.nil))) ?_
  refine RegL.pure (p := (pEq (.int .i64 d_2))) rfl rfl rfl (J_move rfl (Opd.tmp rfl)) ?_
  refine RegL.pure (p := (pEq (.int .i64 (w64 (x2 * d_2))))) rfl rfl rfl (J_bin rfl (Opd.tmp rfl) (Opd.tmp rfl) B_mul) ?_
  refine RegL.pure (p := (pEq (.int .i64 x1))) rfl rfl rfl (J_move rfl (Opd.tmp rfl)) ?_
  refine RegL.pure (p := (pEq (.int .i64 (w64 ((w64 (x2 * d_2)) * x1))))) rfl rfl rfl (J_bin rfl (Opd.tmp rfl) (Opd.tmp rfl) B_mul) ?_
  refine RegL.pure (p := (pEq (.int .i64 d_2))) rfl rfl rfl (J_move rfl (Opd.tmp rfl)) ?_
  refine RegL.pure (p := (pEq (.int .i64 x1))) rfl rfl rfl (J_move rfl (Opd.tmp rfl)) ?_
  refine RegL.pure (p := (pEq (.int .i64 (w64 (d_2 + x1))))) rfl rfl rfl (J_bin rfl (Opd.tmp rfl) (Opd.tmp rfl) B_add) ?_
  refine RegL.pure (p := (pEq (.int .i64 (w64 ((1000 : Int) * (w64 (d_2 + x1))))))) rfl rfl rfl (J_bin rfl Opd.con (Opd.tmp rfl) B_mul) ?_
  replace h := bind_some h; obtain ⟨x3, hx3, h⟩ := h
  refine RegL.pure (p := (pEq (.int .i64 x3))) rfl rfl rfl (J_call rfl Tryd.call54 (c_spec_l01Div hx3) (Opds.cons (Opd.tmp rfl) (Opds.cons (Opd.tmp rfl) Opds.nil))) ?_
  refine RegL.pure (p := (pEq (.int .i64 x3))) rfl rfl rfl (J_assign rfl (Opd.tmp rfl)) ?_
  refine RegL.nil ?_
  refine Ct.then_tr ?_
  refine Tr.weak (Γ' := [(6, (pEq (.int .i64 x3)))]) ⟨rfl, trivial⟩ ?_
  refine Tr.ret ?_
  replace h := Option.some.inj h; subst h
  exact Ct.retH1 (Ωx := []) () rfl (RvOk.tmp rfl) rfl

theorem c_spec_l13Exceed {rain_0 : Int} {r : Int} (h : m_spec_l13Exceed rain_0 = some r) : CallJ Tryd.prog 44 [(pEq (.int .i64 rain_0))] (pEq (.int .i64 r)) := by
  unfold m_spec_l13Exceed at h
  refine CallJ.enterH Tryd.func44 rfl Tryd.ntmps44 rfl fun W I0 H => ?_
  refine Tr.weak (Γ' := [(0, (pEq (.int .i64 rain_0)))]) ⟨rfl, trivial⟩ ?_
  refine Tr.seq ?_
  refine Tr.region ?_
  refine RegL.pure (p := (pEq (.int .i64 (0 : Int)))) rfl rfl rfl (J_assign rfl Opd.con) ?_
  refine RegL.nil ?_
  refine Ct.then_tr ?_
  refine Tr.weak (Γ' := [(0, (pEq (.int .i64 rain_0)))]) ⟨rfl, trivial⟩ ?_
  refine Tr.seq ?_
  refine Tr.region ?_
  refine RegL.pure (p := (pEq (.int .i64 rain_0))) rfl rfl rfl (J_move rfl (Opd.tmp rfl)) ?_
  refine RegL.pure (p := (pSl 1 (cK .i64) ([(0 : Int), (8 : Int), (30 : Int), (60 : Int), (100 : Int), (150 : Int), (200 : Int)] : (List Int)))) rfl rfl rfl (J_buildSlice (l := ([(0 : Int), (8 : Int), (30 : Int), (60 : Int), (100 : Int), (150 : Int), (200 : Int)] : (List Int))) (qss := [(0, (cK .i64) (0 : Int)), (1, (cK .i64) (8 : Int)), (2, (cK .i64) (30 : Int)), (3, (cK .i64) (60 : Int)), (4, (cK .i64) (100 : Int)), (5, (cK .i64) (150 : Int)), (6, (cK .i64) (200 : Int))]) rfl Tryd.underlying38 el2 rfl (Parts.cons (Part.one Opd.con OneC.int) (Parts.cons (Part.one Opd.con OneC.int) (Parts.cons (Part.one Opd.con OneC.int) (Parts.cons (Part.one Opd.con OneC.int) (Parts.cons (Part.one Opd.con OneC.int) (Parts.cons (Part.one Opd.con OneC.int) (Parts.cons (Part.one Opd.con OneC.int) Parts.nil))))))) rfl rfl) ?_
  refine RegL.pure (p := (pSl 1 (cK .i64) ([(50000 : Int), (10000 : Int), (1000 : Int), (100 : Int), (10 : Int), (1 : Int), (0 : Int)] : (List Int)))) rfl rfl rfl (J_buildSlice (l := ([(50000 : Int), (10000 : Int), (1000 : Int), (100 : Int), (10 : Int), (1 : Int), (0 : Int)] : (List Int))) (qss := [(0, (cK .i64) (50000 : Int)), (1, (cK .i64) (10000 : Int)), (2, (cK .i64) (1000 : Int)), (3, (cK .i64) (100 : Int)), (4, (cK .i64) (10 : Int)), (5, (cK .i64) (1 : Int)), (6, (cK .i64) (0 : Int))]) rfl Tryd.underlying38 el2 rfl (Parts.cons (Part.one Opd.con OneC.int) (Parts.cons (Part.one Opd.con OneC.int) (Parts.cons (Part.one Opd.con OneC.int) (Parts.cons (Part.one Opd.con OneC.int) (Parts.cons (Part.one Opd.con OneC.int) (Parts.cons (Part.one Opd.con OneC.int) (Parts.cons (Part.one Opd.con OneC.int) Parts.nil))))))) rfl rfl) ?_
  replace h := bind_some h; obtain ⟨x1, hx1, h⟩ := h
  refine RegL.pure (p := (pEq (.int .i64 x1))) rfl rfl rfl (J_call rfl Tryd.call56 (c_spec_l11Table hx1) (Opds.cons (Opd.tmp rfl) (Opds.cons (Opd.tmp rfl) (Opds.cons (Opd.tmp rfl) Opds.nil)))) ?_
  refine RegL.pure (p := (pEq (.int .i64 x1))) rfl rfl rfl (J_assign rfl (Opd.tmp rfl)) ?_
  refine RegL.nil ?_
  refine Ct.then_tr ?_
  refine Tr.weak (Γ' := [(2, (pEq (.int .i64 x1)))]) ⟨rfl, trivial⟩ ?_
  refine Tr.ret ?_
  replace h := Option.some.inj h; subst h
  exact Ct.retH1 (Ωx := []) () rfl (RvOk.tmp rfl) rfl

theorem c_spec_l13Rain {f_0 : Int} {d_1 : Int} {margin_2 : Int} {r : Int} (h : m_spec_l13Rain f_0 d_1 margin_2 = some r) : CallJ Tryd.prog 28 [(pEq (.int .i64 f_0)), (pEq (.int .i64 d_1)), (pEq (.int .i64 margin_2))] (pEq (.int .i64 r)) := by
  unfold m_spec_l13Rain at h
  refine CallJ.enterH Tryd.func28 rfl Tryd.ntmps28 rfl fun W I0 H => ?_
  refine Tr.weak (Γ' := [(0, (pEq (.int .i64 f_0))), (1, (pEq (.int .i64 d_1))), (2, (pEq (.int .i64 margin_2)))]) ⟨rfl, rfl, rfl, trivial⟩ ?_
  refine Tr.seq ?_
  refine Tr.region ?_
  refine RegL.pure (p := (pEq (.int .i64 (0 : Int)))) rfl rfl rfl (J_assign rfl Opd.con) ?_
  refine RegL.nil ?_
  refine Ct.then_tr ?_
  refine Tr.weak (Γ' := [(0, (pEq (.int .i64 f_0))), (1, (pEq (.int .i64 d_1))), (2, (pEq (.int .i64 margin_2)))]) ⟨rfl, rfl, rfl, trivial⟩ ?_
  refine Tr.seq ?_
  refine Tr.seq ?_
  refine Tr.region ?_
  refine RegL.pure (p := (pEq (.int .i64 (0 : Int)))) rfl rfl rfl (J_assign rfl Opd.con) ?_
  refine RegL.nil ?_
  refine Ct.then_tr ?_
  refine Tr.weak (Γ' := [(0, (pEq (.int .i64 f_0))), (1, (pEq (.int .i64 d_1))), (2, (pEq (.int .i64 margin_2))), (7, (pEq (.int .i64 (0 : Int))))]) ⟨rfl, rfl, rfl, rfl, trivial⟩ ?_
  refine Tr.block ?_
  refine Tr.weak (Γ' := [(0, (pEq (.int .i64 f_0))), (1, (pEq (.int .i64 d_1))), (2, (pEq (.int .i64 margin_2))), (7, (pEq (.int .i64 (0 : Int))))]) ⟨rfl, rfl, rfl, rfl, trivial⟩ ?_
  refine Tr.loop (γ := Unit) (σ := Int) (Γσ := fun s g => [(0, (pEq (.int .i64 f_0))), (1, (pEq (.int .i64 d_1))), (2, (pEq (.int .i64 margin_2))), (7, (pEq (.int .i64 s)))]) (Ωσ := fun s g => []) (g := ()) h ?_
  clear h
  rintro v2 g3 t h
  replace h : m_spec_l13Rain_B1 f_0 d_1 margin_2 v2 = some t := h
  unfold m_spec_l13Rain_B1 at h
  refine Tr.weakO (Γ' := [(0, (pEq (.int .i64 f_0))), (1, (pEq (.int .i64 d_1))), (2, (pEq (.int .i64 margin_2))), (7, (pEq (.int .i64 v2)))]) (Ω' := []) rfl ⟨rfl, rfl, rfl, rfl, trivial⟩ ?_
  refine Tr.seq ?_
  refine Tr.seq ?_
  refine Tr.region ?_
  refine RegL.pure (p := (pEq (.int .i64 v2))) rfl rfl rfl (J_move rfl (Opd.tmp rfl)) ?_
  refine RegL.pure (p := (pEq (.bool (decide (v2 ≤ (200 : Int)))))) rfl rfl rfl (J_bin rfl (Opd.tmp rfl) Opd.con B_leq) ?_
  refine RegL.nil ?_
  refine Ct.then_tr ?_
  refine Tr.weak (Γ' := [(0, (pEq (.int .i64 f_0))), (1, (pEq (.int .i64 d_1))), (2, (pEq (.int .i64 margin_2))), (7, (pEq (.int .i64 v2))), (9, (pEq (.bool (decide (v2 ≤ (200 : Int))))))]) ⟨rfl, rfl, rfl, rfl, rfl, trivial⟩ ?_
  refine Tr.cond (Opd.tmp rfl) (fun hc => ?_) (fun hc => ?_)
  · replace h := bif_t hc h
    refine Tr.skip ?_
    refine Ct.then_tr ?_
    refine Tr.weak (Γ' := [(0, (pEq (.int .i64 f_0))), (1, (pEq (.int .i64 d_1))), (2, (pEq (.int .i64 margin_2))), (7, (pEq (.int .i64 v2)))]) ⟨rfl, rfl, rfl, rfl, trivial⟩ ?_
    refine Tr.seq ?_
    refine Tr.block ?_
    refine Tr.seq ?_
    refine Tr.region ?_
    refine RegL.pure (p := (pEq (.int .i64 f_0))) rfl rfl rfl (J_move rfl (Opd.tmp rfl)) ?_
    refine RegL.pure (p := (pEq (.int .i64 v2))) rfl rfl rfl (J_move rfl (Opd.tmp rfl)) ?_
    refine RegL.pure (p := (pEq (.int .i64 d_1))) rfl rfl rfl (J_move rfl (Opd.tmp rfl)) ?_
    replace h := bind_some h; obtain ⟨x4, hx4, h⟩ := h
    refine RegL.pure (p := (pEq (.int .i64 x4))) rfl rfl rfl (J_call rfl Tryd.call43 (c_spec_l11Wet hx4) (Opds.cons (Opd.tmp rfl) (Opds.cons (Opd.tmp rfl) (Opds.cons (Opd.tmp rfl) Opds.nil)))) ?_
    refine RegL.pure (p := (pEq (.int .i64 margin_2))) rfl rfl rfl (J_move rfl (Opd.tmp rfl)) ?_
    refine RegL.pure (p := (pEq (.bool (decide (margin_2 < x4))))) rfl rfl rfl (J_bin rfl (Opd.tmp rfl) (Opd.tmp rfl) B_gtr) ?_
    refine RegL.nil ?_
    refine Ct.then_tr ?_
    refine Tr.weak (Γ' := [(0, (pEq (.int .i64 f_0))), (1, (pEq (.int .i64 d_1))), (2, (pEq (.int .i64 margin_2))), (7, (pEq (.int .i64 v2))), (17, (pEq (.bool (decide (margin_2 < x4)))))]) ⟨rfl, rfl, rfl, rfl, rfl, trivial⟩ ?_
    refine Tr.cond (Opd.tmp rfl) (fun hc => ?_) (fun hc => ?_)
    · replace h := bif_t hc h
      refine Tr.seq ?_
      refine Tr.region ?_
      refine RegL.pure (p := (pEq (.int .i64 v2))) rfl rfl rfl (J_move rfl (Opd.tmp rfl)) ?_
      replace h := bind_some h; obtain ⟨x5, hx5, h⟩ := h
      refine RegL.pure (p := (pEq (.int .i64 x5))) rfl rfl rfl (J_call rfl Tryd.call44 (c_spec_l13Exceed hx5) (Opds.cons (Opd.tmp rfl) Opds.nil)) ?_
      refine RegL.pure (p := (pEq (.int .i64 x5))) rfl rfl rfl (J_assign rfl (Opd.tmp rfl)) ?_
      refine RegL.nil ?_
      refine Ct.then_tr ?_
      refine Tr.weak (Γ' := [(6, (pEq (.int .i64 x5)))]) ⟨rfl, trivial⟩ ?_
      refine Tr.ret ?_
      refine Ct.blk_ret ?_
      refine Ct.then_ret ?_
      replace h := map_some h; obtain ⟨r1, h, rfl⟩ := h
      refine Ct.out_ret fun e => ?_
      subst e
      refine Ct.blk_ret ?_
      refine Ct.then_ret ?_
      replace h := Option.some.inj h; subst h
      exact Ct.retH1 (Ωx := []) () rfl (RvOk.tmp rfl) rfl
    · replace h := bif_f hc h
      refine Tr.skip ?_
      refine Ct.blk_normal ?_
      refine Ct.then_tr ?_
      refine Tr.weak (Γ' := [(0, (pEq (.int .i64 f_0))), (1, (pEq (.int .i64 d_1))), (2, (pEq (.int .i64 margin_2))), (7, (pEq (.int .i64 v2)))]) ⟨rfl, rfl, rfl, rfl, trivial⟩ ?_
      refine Tr.region ?_
      refine RegL.pure (p := (pEq (.int .i64 v2))) rfl rfl rfl (J_move rfl (Opd.tmp rfl)) ?_
      refine RegL.pure (p := (pEq (.int .i64 (w64 (v2 + (1 : Int)))))) rfl rfl rfl (J_bin rfl (Opd.tmp rfl) Opd.con B_add) ?_
      refine RegL.pure (p := (pEq (.int .i64 (w64 (v2 + (1 : Int)))))) rfl rfl rfl (J_assign rfl (Opd.tmp rfl)) ?_
      refine RegL.nil ?_
      replace h := Option.some.inj h; subst h
      exact Ct.again () rfl ⟨rfl, rfl, rfl, rfl, trivial⟩
  · replace h := bif_f hc h
    refine Tr.exit ?_
    refine Ct.then_exit ?_
    replace h := map_some h; obtain ⟨r1, h, rfl⟩ := h
    refine Ct.out_exit fun e => ?_
    subst e
    refine Ct.blk_exit ?_
    refine Ct.then_tr ?_
    refine Tr.weak (Γ' := []) trivial ?_
    refine Tr.seq ?_
    refine Tr.region ?_
    refine RegL.pure (p := (pEq (.int .i64 (0 : Int)))) rfl rfl rfl (J_assign rfl Opd.con) ?_
    refine RegL.nil ?_
    refine Ct.then_tr ?_
    refine Tr.weak (Γ' := [(6, (pEq (.int .i64 (0 : Int))))]) ⟨rfl, trivial⟩ ?_
    refine Tr.ret ?_
    replace h := Option.some.inj h; subst h
    exact Ct.retH1 (Ωx := []) () rfl (RvOk.tmp rfl) rfl

theorem c_spec_l13Series {list_0 : (List Int)} {r : Int} (h : m_spec_l13Series list_0 = some r) : CallJ Tryd.prog 49 [(pSl 1 (cK .i64) list_0)] (pEq (.int .i64 r)) := by
  unfold m_spec_l13Series at h
  refine CallJ.enterH Tryd.func49 rfl Tryd.ntmps49 rfl fun W I0 H => ?_
  refine Tr.weak (Γ' := [(0, (pSl 1 (cK .i64) list_0))]) ⟨rfl, trivial⟩ ?_
  refine Tr.seq ?_
  refine Tr.region ?_
  refine RegL.pure (p := (pEq (.int .i64 (0 : Int)))) rfl rfl rfl (J_assign rfl Opd.con) ?_
  refine RegL.nil ?_
  refine Ct.then_tr ?_
  refine Tr.weak (Γ' := [(0, (pSl 1 (cK .i64) list_0))]) ⟨rfl, trivial⟩ ?_
  refine Tr.seq ?_
  refine Tr.region ?_
  refine RegL.pure (p := (pEq (.int .i64 (1000000 : Int)))) rfl rfl rfl (J_assign rfl Opd.con) ?_
  refine RegL.nil ?_
  refine Ct.then_tr ?_
  refine Tr.weak (Γ' := [(0, (pSl 1 (cK .i64) list_0)), (3, (pEq (.int .i64 (1000000 : Int))))]) ⟨rfl, rfl, trivial⟩ ?_
  refine Tr.seq ?_
  refine Tr.seq ?_
  refine Tr.region ?_
  refine RegL.pure (p := (pEq (.int .i64 (0 : Int)))) rfl rfl rfl (J_assign rfl Opd.con) ?_
  refine RegL.nil ?_
  refine Ct.then_tr ?_
  refine Tr.weak (Γ' := [(0, (pSl 1 (cK .i64) list_0)), (3, (pEq (.int .i64 (1000000 : Int)))), (4, (pEq (.int .i64 (0 : Int))))]) ⟨rfl, rfl, rfl, trivial⟩ ?_
  replace h := bind_some h; obtain ⟨x1, hx1, h⟩ := h
  refine Tr.cut (γ := Unit) (Γm := fun g => [(3, (pEq (.int .i64 x1)))]) (Ωm := fun g => []) ?_ (fun g7 => ?_)
  · clear h
    have h := hx1
    clear hx1
    refine Tr.block ?_
    refine Tr.weak (Γ' := [(0, (pSl 1 (cK .i64) list_0)), (3, (pEq (.int .i64 (1000000 : Int)))), (4, (pEq (.int .i64 (0 : Int))))]) ⟨rfl, rfl, rfl, trivial⟩ ?_
    refine Tr.loop (γ := Unit) (σ := (Int × Int)) (Γσ := fun s g => [(0, (pSl 1 (cK .i64) list_0)), (3, (pEq (.int .i64 s.1))), (4, (pEq (.int .i64 s.2)))]) (Ωσ := fun s g => []) (g := ()) h ?_
    clear h
    rintro ⟨v3, v4⟩ g5 t h
    replace h : m_spec_l13Series_B2 list_0 v3 v4 = some t := h
    unfold m_spec_l13Series_B2 at h
    refine Tr.weakO (Γ' := [(0, (pSl 1 (cK .i64) list_0)), (3, (pEq (.int .i64 v3))), (4, (pEq (.int .i64 v4)))]) (Ω' := []) rfl ⟨rfl, rfl, rfl, trivial⟩ ?_
    refine Tr.seq ?_
    refine Tr.seq ?_
    refine Tr.region ?_
    refine RegL.pure (p := (pEq (.int .i64 v4))) rfl rfl rfl (J_move rfl (Opd.tmp rfl)) ?_
    refine RegL.pure (p := (pSl 1 (cK .i64) list_0)) rfl rfl rfl (J_move rfl (Opd.tmp rfl)) ?_
    refine RegL.pure (p := (pEq (.int .i64 (list_0.length : Int)))) rfl rfl rfl (J_len rfl Tryd.underlying38 (Opd.tmp rfl) rfl) ?_
    refine RegL.pure (p := (pEq (.bool (decide (v4 < (list_0.length : Int)))))) rfl rfl rfl (J_bin rfl (Opd.tmp rfl) (Opd.tmp rfl) B_lss) ?_
    refine RegL.nil ?_
    refine Ct.then_tr ?_
    refine Tr.weak (Γ' := [(0, (pSl 1 (cK .i64) list_0)), (3, (pEq (.int .i64 v3))), (4, (pEq (.int .i64 v4))), (8, (pEq (.bool (decide (v4 < (list_0.length : Int))))))]) ⟨rfl, rfl, rfl, rfl, trivial⟩ ?_
    refine Tr.cond (Opd.tmp rfl) (fun hc => ?_) (fun hc => ?_)
    · replace h := bif_t hc h
      refine Tr.skip ?_
      refine Ct.then_tr ?_
      refine Tr.weak (Γ' := [(0, (pSl 1 (cK .i64) list_0)), (3, (pEq (.int .i64 v3))), (4, (pEq (.int .i64 v4)))]) ⟨rfl, rfl, rfl, trivial⟩ ?_
      refine Tr.seq ?_
      refine Tr.block ?_
      refine Tr.region ?_
      refine RegL.pure (p := (pEq (.int .i64 v3))) rfl rfl rfl (J_move rfl (Opd.tmp rfl)) ?_
      refine RegL.pure (p := (pSl 1 (cK .i64) list_0)) rfl rfl rfl (J_move rfl (Opd.tmp rfl)) ?_
      refine RegL.pure (p := (pEq (.int .i64 v4))) rfl rfl rfl (J_move rfl (Opd.tmp rfl)) ?_
      replace h := bind_some h; obtain ⟨x6, hx6, h⟩ := h
      refine RegL.pure (p := (pPtr ((cK .i64) x6))) rfl rfl rfl (J_idx rfl Tryd.underlying38 sz2 (Opd.tmp rfl) (Opd.tmp rfl) hx6) ?_
      refine RegL.pure (p := (pEq (.int .i64 x6))) rfl rfl rfl (J_load rfl Tryd.isAgg2 (Opd.tmp rfl)) ?_
      refine RegL.pure (p := (pEq (.int .i64 (w64 ((1000000 : Int) - x6))))) rfl rfl rfl (J_bin rfl Opd.con (Opd.tmp rfl) B_sub) ?_
      refine RegL.pure (p := (pEq (.int .i64 (w64 (v3 * (w64 ((1000000 : Int) - x6))))))) rfl rfl rfl (J_bin rfl (Opd.tmp rfl) (Opd.tmp rfl) B_mul) ?_
      refine RegL.pure (p := (pEq (.int .i64 (w64 ((w64 (v3 * (w64 ((1000000 : Int) - x6)))).tdiv (1000000 : Int)))))) rfl rfl rfl (J_bin rfl (Opd.tmp rfl) Opd.con (B_quo (n := (1000000 : Int)) (by decide))) ?_
      refine RegL.pure (p := (pEq (.int .i64 (w64 ((w64 (v3 * (w64 ((1000000 : Int) - x6)))).tdiv (1000000 : Int)))))) rfl rfl rfl (J_assign rfl (Opd.tmp rfl)) ?_
      refine RegL.nil ?_
      refine Ct.blk_normal ?_
      refine Ct.then_tr ?_
      refine Tr.weak (Γ' := [(0, (pSl 1 (cK .i64) list_0)), (3, (pEq (.int .i64 (w64 ((w64 (v3 * (w64 ((1000000 : Int) - x6)))).tdiv (1000000 : Int)))))), (4, (pEq (.int .i64 v4)))]) ⟨rfl, rfl, rfl, trivial⟩ ?_
      refine Tr.region ?_
      refine RegL.pure (p := (pEq (.int .i64 v4))) rfl rfl rfl (J_move rfl (Opd.tmp rfl)) ?_
      refine RegL.pure (p := (pEq (.int .i64 (w64 (v4 + (1 : Int)))))) rfl rfl rfl (J_bin rfl (Opd.tmp rfl) Opd.con B_add) ?_
      refine RegL.pure (p := (pEq (.int .i64 (w64 (v4 + (1 : Int)))))) rfl rfl rfl (J_assign rfl (Opd.tmp rfl)) ?_
      refine RegL.nil ?_
      replace h := Option.some.inj h; subst h
      exact Ct.again () rfl ⟨rfl, rfl, rfl, trivial⟩
    · replace h := bif_f hc h
      refine Tr.exit ?_
      refine Ct.then_exit ?_
      replace h := map_some h; obtain ⟨r1, h, rfl⟩ := h
      refine Ct.out_exit fun e => ?_
      subst e
      refine Ct.blk_exit ?_
      replace h := Option.some.inj h; subst h
      exact Ct.mid () rfl ⟨rfl, trivial⟩
  · clear hx1
    refine Ct.then_tr ?_
    refine Tr.weak (Γ' := [(3, (pEq (.int .i64 x1)))]) ⟨rfl, trivial⟩ ?_
    refine Tr.seq ?_
    refine Tr.region ?_
    refine RegL.pure (p := (pEq (.int .i64 x1))) rfl rfl rfl (J_move rfl (Opd.tmp rfl)) ?_
    refine RegL.pure (p := (pEq (.int .i64 (w64 ((1000000 : Int) - x1))))) rfl rfl rfl (J_bin rfl Opd.con (Opd.tmp rfl) B_sub) ?_
    refine RegL.pure (p := (pEq (.int .i64 (w64 ((1000000 : Int) - x1))))) rfl rfl rfl (J_assign rfl (Opd.tmp rfl)) ?_
    refine RegL.nil ?_
    refine Ct.then_tr ?_
    refine Tr.weak (Γ' := [(2, (pEq (.int .i64 (w64 ((1000000 : Int) - x1)))))]) ⟨rfl, trivial⟩ ?_
    refine Tr.ret ?_
    replace h := Option.some.inj h; subst h
    exact Ct.retH1 (Ωx := []) () rfl (RvOk.tmp rfl) rfl

theorem c_spec_l13Hop {f_0 : Int} {d_1 : Int} {climate_2 : Int} {margin_3 : Int} {r : Int} (h : m_spec_l13Hop f_0 d_1 climate_2 margin_3 = some r) : CallJ Tryd.prog 32 [(pEq (.int .i64 f_0)), (pEq (.int .i64 d_1)), (pEq (.int .i64 climate_2)), (pEq (.int .i64 margin_3))] (pEq (.int .i64 r)) := by
  unfold m_spec_l13Hop at h
  refine CallJ.enterH Tryd.func32 rfl Tryd.ntmps32 rfl fun W I0 H => ?_
  refine Tr.weak (Γ' := [(0, (pEq (.int .i64 f_0))), (1, (pEq (.int .i64 d_1))), (2, (pEq (.int .i64 climate_2))), (3, (pEq (.int .i64 margin_3)))]) ⟨rfl, rfl, rfl, rfl, trivial⟩ ?_
  refine Tr.seq ?_
  refine Tr.region ?_
  refine RegL.pure (p := (pEq (.int .i64 (0 : Int)))) rfl rfl rfl (J_assign rfl Opd.con) ?_
  refine RegL.nil ?_
  refine Ct.then_tr ?_
  refine Tr.weak (Γ' := [(0, (pEq (.int .i64 f_0))), (1, (pEq (.int .i64 d_1))), (2, (pEq (.int .i64 climate_2))), (3, (pEq (.int .i64 margin_3)))]) ⟨rfl, rfl, rfl, rfl, trivial⟩ ?_
  refine Tr.seq ?_
  refine Tr.region ?_
  refine RegL.pure (p := (pEq (.int .i64 f_0))) rfl rfl rfl (J_move rfl (Opd.tmp rfl)) ?_
  refine RegL.pure (p := (pEq (.int .i64 d_1))) rfl rfl rfl (J_move rfl (Opd.tmp rfl)) ?_
  refine RegL.pure (p := (pEq (.int .i64 climate_2))) rfl rfl rfl (J_move rfl (Opd.tmp rfl)) ?_
  refine RegL.pure (p := (pEq (.int .i64 margin_3))) rfl rfl rfl (J_move rfl (Opd.tmp rfl)) ?_
  replace h := bind_some h; obtain ⟨x1, hx1, h⟩ := h
  refine RegL.pure (p := (pEq (.int .i64 x1))) rfl rfl rfl (J_call rfl Tryd.call19 (c_spec_l13Fade hx1) (Opds.cons (Opd.tmp rfl) (Opds.cons (Opd.tmp rfl) (Opds.cons (Opd.tmp rfl) (Opds.cons (Opd.tmp rfl) Opds.nil))))) ?_
  refine RegL.pure (p := (pEq (.int .i64 f_0))) rfl rfl rfl (J_move rfl (Opd.tmp rfl)) ?_
  refine RegL.pure (p := (pEq (.int .i64 d_1))) rfl rfl rfl (J_move rfl (Opd.tmp rfl)) ?_
  refine RegL.pure (p := (pEq (.int .i64 margin_3))) rfl rfl rfl (J_move rfl (Opd.tmp rfl)) ?_
  replace h := bind_some h; obtain ⟨x2, hx2, h⟩ := h
  refine RegL.pure (p := (pEq (.int .i64 x2))) rfl rfl rfl (J_call rfl Tryd.call28 (c_spec_l13Rain hx2) (Opds.cons (Opd.tmp rfl) (Opds.cons (Opd.tmp rfl) (Opds.cons (Opd.tmp rfl) Opds.nil)))) ?_
  refine RegL.pure (p := (pSl 1 (cK .i64) ([x1, x2] : (List Int)))) rfl rfl rfl (J_buildSlice (l := ([x1, x2] : (List Int))) (qss := [(0, (cK .i64) x1), (1, (cK .i64) x2)]) rfl Tryd.underlying38 el2 rfl (Parts.cons (Part.one (Opd.tmp rfl) OneC.int) (Parts.cons (Part.one (Opd.tmp rfl) OneC.int) Parts.nil)) rfl rfl) ?_
  replace h := bind_some h; obtain ⟨x3, hx3, h⟩ := h
  refine RegL.pure (p := (pEq (.int .i64 x3))) rfl rfl rfl (J_call rfl Tryd.call49 (c_spec_l13Series hx3) (Opds.cons (Opd.tmp rfl) Opds.nil)) ?_
  refine RegL.pure (p := (pEq (.int .i64 x3))) rfl rfl rfl (J_assign rfl (Opd.tmp rfl)) ?_
  refine RegL.nil ?_
  refine Ct.then_tr ?_
  refine Tr.weak (Γ' := [(8, (pEq (.int .i64 x3)))]) ⟨rfl, trivial⟩ ?_
  refine Tr.ret ?_
  replace h := Option.some.inj h; subst h
  exact Ct.retH1 (Ωx := []) () rfl (RvOk.tmp rfl) rfl

theorem c_spec_HopOutage {f_0 : Int} {d_1 : Int} {climate_2 : Int} {margin_3 : Int} {r : (Int × Int)} (h : m_spec_HopOutage f_0 d_1 climate_2 margin_3 = some r) : CallJ Tryd.prog 13 [(pEq (.int .i64 f_0)), (pEq (.int .i64 d_1)), (pEq (.int .i64 climate_2)), (pEq (.int .i64 margin_3))] (pTup [(pEq (.int .i64 r.1)), (pEq (.int .i64 r.2))]) := by
  unfold m_spec_HopOutage at h
  refine CallJ.enterH Tryd.func13 rfl Tryd.ntmps13 rfl fun W I0 H => ?_
  refine Tr.weak (Γ' := [(0, (pEq (.int .i64 f_0))), (1, (pEq (.int .i64 d_1))), (2, (pEq (.int .i64 climate_2))), (3, (pEq (.int .i64 margin_3)))]) ⟨rfl, rfl, rfl, rfl, trivial⟩ ?_
  refine Tr.seq ?_
  refine Tr.region ?_
  refine RegL.pure (p := (pEq (.int .i64 (0 : Int)))) rfl rfl rfl (J_assign rfl Opd.con) ?_
  refine RegL.pure (p := (pEq (.int .i64 (0 : Int)))) rfl rfl rfl (J_assign rfl Opd.con) ?_
  refine RegL.nil ?_
  refine Ct.then_tr ?_
  refine Tr.weak (Γ' := [(0, (pEq (.int .i64 f_0))), (1, (pEq (.int .i64 d_1))), (2, (pEq (.int .i64 climate_2))), (3, (pEq (.int .i64 margin_3)))]) ⟨rfl, rfl, rfl, rfl, trivial⟩ ?_
  refine Tr.seq ?_
  refine Tr.seq ?_
  replace h := bind_some h; obtain ⟨x1, hx1, h⟩ := h
  refine Tr.cut (γ := Unit) (Γm := fun g => [(0, (pEq (.int .i64 f_0))), (1, (pEq (.int .i64 d_1))), (2, (pEq (.int .i64 climate_2))), (3, (pEq (.int .i64 margin_3))), (27, (pEq (.bool x1)))]) (Ωm := fun g => []) ?_ (fun g9 => ?_)
  · clear h
    have h := hx1
    clear hx1
    refine Tr.region ?_
    refine RegL.pure (p := (pEq (.int .i64 f_0))) rfl rfl rfl (J_move rfl (Opd.tmp rfl)) ?_
    replace h := bind_some h; obtain ⟨x2, hx2, h⟩ := h
    refine RegL.pure (p := (pEq (.bool x2))) rfl rfl rfl (J_call rfl Tryd.call15 (c_spec_l09Frequency hx2) (Opds.cons (Opd.tmp rfl) Opds.nil)) ?_
    refine RegL.pure (p := (pEq (.bool (!x2)))) rfl rfl rfl (J_not rfl (Opd.tmp rfl)) ?_
    refine RegL.pure (p := (pEq (.bool (!x2)))) rfl rfl rfl (J_move rfl (Opd.tmp rfl)) ?_
    rcases Bool.eq_false_or_eq_true (!x2) with hc3 | hc3
    · replace h := bif_t hc3 h
      refine RegL.skipG rfl rfl rfl hc3 rfl rfl ?_
      refine RegL.skipG rfl rfl rfl hc3 rfl rfl ?_
      refine RegL.skipG rfl rfl rfl hc3 rfl rfl ?_
      refine RegL.pure (p := (pEq (.bool true))) rfl rfl rfl (J_pick rfl (Opd.tmp rfl) (fun _ => Opd.con) (fun hf => absurd (hc3.symm.trans hf) (by decide))) ?_
      refine RegL.pure (p := (pEq (.bool true))) rfl rfl rfl (J_move rfl (Opd.tmp rfl)) ?_
      refine RegL.skipG rfl rfl rfl rfl rfl rfl ?_
      refine RegL.skipG rfl rfl rfl rfl rfl rfl ?_
      refine RegL.skipG rfl rfl rfl rfl rfl rfl ?_
      refine RegL.pure (p := (pEq (.bool true))) rfl rfl rfl (J_pick rfl (Opd.tmp rfl) (fun _ => Opd.con) (fun hf => absurd hf (by decide))) ?_
      refine RegL.pure (p := (pEq (.bool true))) rfl rfl rfl (J_move rfl (Opd.tmp rfl)) ?_
      refine RegL.skipG rfl rfl rfl rfl rfl rfl ?_
      refine RegL.skipG rfl rfl rfl rfl rfl rfl ?_
      refine RegL.skipG rfl rfl rfl rfl rfl rfl ?_
      refine RegL.pure (p := (pEq (.bool true))) rfl rfl rfl (J_pick rfl (Opd.tmp rfl) (fun _ => Opd.con) (fun hf => absurd hf (by decide))) ?_
      refine RegL.nil ?_
      replace h := Option.some.inj h; subst h
      exact Ct.mid () rfl ⟨rfl, rfl, rfl, rfl, rfl, trivial⟩
    · replace h := bif_f hc3 h
      refine RegL.pureG (p := (pEq (.int .i64 d_1))) rfl rfl rfl hc3 rfl rfl (J_move rfl (Opd.tmp rfl)) ?_
      replace h := bind_some h; obtain ⟨x4, hx4, h⟩ := h
      refine RegL.pureG (p := (pEq (.bool x4))) rfl rfl rfl hc3 rfl rfl (J_call rfl Tryd.call16 (c_spec_l09Distance hx4) (Opds.cons (Opd.tmp rfl) Opds.nil)) ?_
      refine RegL.pureG (p := (pEq (.bool (!x4)))) rfl rfl rfl hc3 rfl rfl (J_not rfl (Opd.tmp rfl)) ?_
      refine RegL.pure (p := (pEq (.bool (!x4)))) rfl rfl rfl (J_pick rfl (Opd.tmp rfl) (fun hf => absurd (hc3.symm.trans hf) (by decide)) (fun _ => (Opd.tmp rfl))) ?_
      refine RegL.pure (p := (pEq (.bool (!x4)))) rfl rfl rfl (J_move rfl (Opd.tmp rfl)) ?_
      rcases Bool.eq_false_or_eq_true (!x4) with hc5 | hc5
      · replace h := bif_t hc5 h
        refine RegL.skipG rfl rfl rfl hc5 rfl rfl ?_
        refine RegL.skipG rfl rfl rfl hc5 rfl rfl ?_
        refine RegL.skipG rfl rfl rfl hc5 rfl rfl ?_
        refine RegL.pure (p := (pEq (.bool true))) rfl rfl rfl (J_pick rfl (Opd.tmp rfl) (fun _ => Opd.con) (fun hf => absurd (hc5.symm.trans hf) (by decide))) ?_
        refine RegL.pure (p := (pEq (.bool true))) rfl rfl rfl (J_move rfl (Opd.tmp rfl)) ?_
        refine RegL.skipG rfl rfl rfl rfl rfl rfl ?_
        refine RegL.skipG rfl rfl rfl rfl rfl rfl ?_
        refine RegL.skipG rfl rfl rfl rfl rfl rfl ?_
        refine RegL.pure (p := (pEq (.bool true))) rfl rfl rfl (J_pick rfl (Opd.tmp rfl) (fun _ => Opd.con) (fun hf => absurd hf (by decide))) ?_
        refine RegL.nil ?_
        replace h := Option.some.inj h; subst h
        exact Ct.mid () rfl ⟨rfl, rfl, rfl, rfl, rfl, trivial⟩
      · replace h := bif_f hc5 h
        refine RegL.pureG (p := (pEq (.int .i64 climate_2))) rfl rfl rfl hc5 rfl rfl (J_move rfl (Opd.tmp rfl)) ?_
        replace h := bind_some h; obtain ⟨x6, hx6, h⟩ := h
        refine RegL.pureG (p := (pEq (.bool x6))) rfl rfl rfl hc5 rfl rfl (J_call rfl Tryd.call17 (c_spec_l13Climate hx6) (Opds.cons (Opd.tmp rfl) Opds.nil)) ?_
        refine RegL.pureG (p := (pEq (.bool (!x6)))) rfl rfl rfl hc5 rfl rfl (J_not rfl (Opd.tmp rfl)) ?_
        refine RegL.pure (p := (pEq (.bool (!x6)))) rfl rfl rfl (J_pick rfl (Opd.tmp rfl) (fun hf => absurd (hc5.symm.trans hf) (by decide)) (fun _ => (Opd.tmp rfl))) ?_
        refine RegL.pure (p := (pEq (.bool (!x6)))) rfl rfl rfl (J_move rfl (Opd.tmp rfl)) ?_
        rcases Bool.eq_false_or_eq_true (!x6) with hc7 | hc7
        · replace h := bif_t hc7 h
          refine RegL.skipG rfl rfl rfl hc7 rfl rfl ?_
          refine RegL.skipG rfl rfl rfl hc7 rfl rfl ?_
          refine RegL.skipG rfl rfl rfl hc7 rfl rfl ?_
          refine RegL.pure (p := (pEq (.bool true))) rfl rfl rfl (J_pick rfl (Opd.tmp rfl) (fun _ => Opd.con) (fun hf => absurd (hc7.symm.trans hf) (by decide))) ?_
          refine RegL.nil ?_
          replace h := Option.some.inj h; subst h
          exact Ct.mid () rfl ⟨rfl, rfl, rfl, rfl, rfl, trivial⟩
        · replace h := bif_f hc7 h
          refine RegL.pureG (p := (pEq (.int .i64 margin_3))) rfl rfl rfl hc7 rfl rfl (J_move rfl (Opd.tmp rfl)) ?_
          replace h := bind_some h; obtain ⟨x8, hx8, h⟩ := h
          refine RegL.pureG (p := (pEq (.bool x8))) rfl rfl rfl hc7 rfl rfl (J_call rfl Tryd.call18 (c_spec_l13Margin hx8) (Opds.cons (Opd.tmp rfl) Opds.nil)) ?_
          refine RegL.pureG (p := (pEq (.bool (!x8)))) rfl rfl rfl hc7 rfl rfl (J_not rfl (Opd.tmp rfl)) ?_
          refine RegL.pure (p := (pEq (.bool (!x8)))) rfl rfl rfl (J_pick rfl (Opd.tmp rfl) (fun hf => absurd (hc7.symm.trans hf) (by decide)) (fun _ => (Opd.tmp rfl))) ?_
          refine RegL.nil ?_
          replace h := Option.some.inj h; subst h
          exact Ct.mid () rfl ⟨rfl, rfl, rfl, rfl, rfl, trivial⟩
  · clear hx1
    refine Ct.then_tr ?_
    refine Tr.weak (Γ' := [(0, (pEq (.int .i64 f_0))), (1, (pEq (.int .i64 d_1))), (2, (pEq (.int .i64 climate_2))), (3, (pEq (.int .i64 margin_3))), (27, (pEq (.bool x1)))]) ⟨rfl, rfl, rfl, rfl, rfl, trivial⟩ ?_
    refine Tr.cond (Opd.tmp rfl) (fun hc => ?_) (fun hc => ?_)
    · replace h := bif_t hc h
      refine Tr.seq ?_
      refine Tr.region ?_
      refine RegL.pure (p := (pEq (.int .i64 (0 : Int)))) rfl rfl rfl (J_assign rfl Opd.con) ?_
      refine RegL.pure (p := (pEq (.int .i64 (2 : Int)))) rfl rfl rfl (J_assign rfl Opd.con) ?_
      refine RegL.nil ?_
      refine Ct.then_tr ?_
      refine Tr.weak (Γ' := [(8, (pEq (.int .i64 (0 : Int)))), (9, (pEq (.int .i64 (2 : Int))))]) ⟨rfl, rfl, trivial⟩ ?_
      refine Tr.ret ?_
      refine Ct.then_ret ?_
      replace h := Option.some.inj h; subst h
      exact Ct.retH2 (Ωx := []) () rfl (RvOk.tmp rfl) (RvOk.tmp rfl) rfl rfl
    · replace h := bif_f hc h
      refine Tr.skip ?_
      refine Ct.then_tr ?_
      refine Tr.weak (Γ' := [(0, (pEq (.int .i64 f_0))), (1, (pEq (.int .i64 d_1))), (2, (pEq (.int .i64 climate_2))), (3, (pEq (.int .i64 margin_3)))]) ⟨rfl, rfl, rfl, rfl, trivial⟩ ?_
      refine Tr.seq ?_
      refine Tr.region ?_
      refine RegL.pure (p := (pEq (.int .i64 f_0))) rfl rfl rfl (J_move rfl (Opd.tmp rfl)) ?_
      refine RegL.pure (p := (pEq (.int .i64 d_1))) rfl rfl rfl (J_move rfl (Opd.tmp rfl)) ?_
      refine RegL.pure (p := (pEq (.int .i64 climate_2))) rfl rfl rfl (J_move rfl (Opd.tmp rfl)) ?_
      refine RegL.pure (p := (pEq (.int .i64 margin_3))) rfl rfl rfl (J_move rfl (Opd.tmp rfl)) ?_
      replace h := bind_some h; obtain ⟨x10, hx10, h⟩ := h
      refine RegL.pure (p := (pEq (.int .i64 x10))) rfl rfl rfl (J_call rfl Tryd.call32 (c_spec_l13Hop hx10) (Opds.cons (Opd.tmp rfl) (Opds.cons (Opd.tmp rfl) (Opds.cons (Opd.tmp rfl) (Opds.cons (Opd.tmp rfl) Opds.nil))))) ?_
      refine RegL.pure (p := (pEq (.int .i64 x10))) rfl rfl rfl (J_assign rfl (Opd.tmp rfl)) ?_
      refine RegL.pure (p := (pEq (.int .i64 (0 : Int)))) rfl rfl rfl (J_assign rfl Opd.con) ?_
      refine RegL.nil ?_
      refine Ct.then_tr ?_
      refine Tr.weak (Γ' := [(8, (pEq (.int .i64 x10))), (9, (pEq (.int .i64 (0 : Int))))]) ⟨rfl, rfl, trivial⟩ ?_
      refine Tr.ret ?_
      replace h := Option.some.inj h; subst h
      exact Ct.retH2 (Ωx := []) () rfl (RvOk.tmp rfl) (RvOk.tmp rfl) rfl rfl

theorem c_impl_within {n_0 : Int} {low_1 : Int} {high_2 : Int} {r : Bool} (h : m_impl_within n_0 low_1 high_2 = some r) : CallJ Tryd.prog 24 [(pEq (.int .i64 n_0)), (pEq (.int .i64 low_1)), (pEq (.int .i64 high_2))] (pEq (.bool r)) := by
  unfold m_impl_within at h
  refine CallJ.enterH Tryd.func24 rfl Tryd.ntmps24 rfl fun W I0 H => ?_
  refine Tr.weak (Γ' := [(0, (pEq (.int .i64 n_0))), (1, (pEq (.int .i64 low_1))), (2, (pEq (.int .i64 high_2)))]) ⟨rfl, rfl, rfl, trivial⟩ ?_
  refine Tr.seq ?_
  refine Tr.region ?_
  refine RegL.pure (p := (pEq (.bool false))) rfl rfl rfl (J_assign rfl Opd.con) ?_
  refine RegL.nil ?_
  refine Ct.then_tr ?_
  refine Tr.weak (Γ' := [(0, (pEq (.int .i64 n_0))), (1, (pEq (.int .i64 low_1))), (2, (pEq (.int .i64 high_2)))]) ⟨rfl, rfl, rfl, trivial⟩ ?_
  refine Tr.seq ?_
  replace h := bind_some h; obtain ⟨x1, hx1, h⟩ := h
  refine Tr.cut (γ := Unit) (Γm := fun g => [(6, (pEq (.bool x1)))]) (Ωm := fun g => []) ?_ (fun g3 => ?_)
  · clear h
    have h := hx1
    clear hx1
    refine Tr.region ?_
    refine RegL.pure (p := (pEq (.int .i64 n_0))) rfl rfl rfl (J_move rfl (Opd.tmp rfl)) ?_
    refine RegL.pure (p := (pEq (.int .i64 low_1))) rfl rfl rfl (J_move rfl (Opd.tmp rfl)) ?_
    refine RegL.pure (p := (pEq (.bool (decide (low_1 ≤ n_0))))) rfl rfl rfl (J_bin rfl (Opd.tmp rfl) (Opd.tmp rfl) B_geq) ?_
    refine RegL.pure (p := (pEq (.bool (decide (low_1 ≤ n_0))))) rfl rfl rfl (J_move rfl (Opd.tmp rfl)) ?_
    rcases Bool.eq_false_or_eq_true (decide (low_1 ≤ n_0)) with hc2 | hc2
    · replace h := bif_t hc2 h
      refine RegL.pureG (p := (pEq (.int .i64 n_0))) rfl rfl rfl hc2 rfl rfl (J_move rfl (Opd.tmp rfl)) ?_
      refine RegL.pureG (p := (pEq (.int .i64 high_2))) rfl rfl rfl hc2 rfl rfl (J_move rfl (Opd.tmp rfl)) ?_
      refine RegL.pureG (p := (pEq (.bool (decide (n_0 ≤ high_2))))) rfl rfl rfl hc2 rfl rfl (J_bin rfl (Opd.tmp rfl) (Opd.tmp rfl) B_leq) ?_
      refine RegL.pure (p := (pEq (.bool (decide (n_0 ≤ high_2))))) rfl rfl rfl (J_pick rfl (Opd.tmp rfl) (fun _ => (Opd.tmp rfl)) (fun hf => absurd (hc2.symm.trans hf) (by decide))) ?_
      refine RegL.pure (p := (pEq (.bool (decide (n_0 ≤ high_2))))) rfl rfl rfl (J_assign rfl (Opd.tmp rfl)) ?_
      refine RegL.nil ?_
      replace h := Option.some.inj h; subst h
      exact Ct.mid () rfl ⟨rfl, trivial⟩
    · replace h := bif_f hc2 h
      refine RegL.skipG rfl rfl rfl hc2 rfl rfl ?_
      refine RegL.skipG rfl rfl rfl hc2 rfl rfl ?_
      refine RegL.skipG rfl rfl rfl hc2 rfl rfl ?_
      refine RegL.pure (p := (pEq (.bool false))) rfl rfl rfl (J_pick rfl (Opd.tmp rfl) (fun hf => absurd (hc2.symm.trans hf) (by decide)) (fun _ => Opd.con)) ?_
      refine RegL.pure (p := (pEq (.bool false))) rfl rfl rfl (J_assign rfl (Opd.tmp rfl)) ?_
      refine RegL.nil ?_
      replace h := Option.some.inj h; subst h
      exact Ct.mid () rfl ⟨rfl, trivial⟩
  · clear hx1
    refine Ct.then_tr ?_
    refine Tr.weak (Γ' := [(6, (pEq (.bool x1)))]) ⟨rfl, trivial⟩ ?_
    refine Tr.ret ?_
    replace h := Option.some.inj h; subst h
    exact Ct.retH1 (Ωx := []) () rfl (RvOk.tmp rfl) rfl

theorem c_impl_frequencyOk {f_0 : Int} {r : Bool} (h : m_impl_frequencyOk f_0 = some r) : CallJ Tryd.prog 29 [(pEq (.int .i64 f_0))] (pEq (.bool r)) := by
  unfold m_impl_frequencyOk at h
  refine CallJ.enterH Tryd.func29 rfl Tryd.ntmps29 rfl fun W I0 H => ?_
  refine Tr.weak (Γ' := [(0, (pEq (.int .i64 f_0)))]) ⟨rfl, trivial⟩ ?_
  refine Tr.seq ?_
  refine Tr.region ?_
  refine RegL.pure (p := (pEq (.bool false))) rfl rfl rfl (J_assign rfl Opd.con) ?_
  refine RegL.nil ?_
  refine Ct.then_tr ?_
  refine Tr.weak (Γ' := [(0, (pEq (.int .i64 f_0)))]) ⟨rfl, trivial⟩ ?_
  refine Tr.seq ?_
  refine Tr.region ?_
  refine RegL.pure (p := (pEq (.int .i64 f_0))) rfl rfl rfl (J_move rfl (Opd.tmp rfl)) ?_
  replace h := bind_some h; obtain ⟨x1, hx1, h⟩ := h
  refine RegL.pure (p := (pEq (.bool x1))) rfl rfl rfl (J_call rfl Tryd.call24 (c_impl_within hx1) (Opds.cons (Opd.tmp rfl) (Opds.cons Opd.con (Opds.cons Opd.con Opds.nil)))) ?_
  refine RegL.pure (p := (pEq (.bool x1))) rfl rfl rfl (J_assign rfl (Opd.tmp rfl)) ?_
  refine RegL.nil ?_
  refine Ct.then_tr ?_
  refine Tr.weak (Γ' := [(2, (pEq (.bool x1)))]) ⟨rfl, trivial⟩ ?_
  refine Tr.ret ?_
  replace h := Option.some.inj h; subst h
  exact Ct.retH1 (Ωx := []) () rfl (RvOk.tmp rfl) rfl

theorem c_impl_distanceOk {d_0 : Int} {r : Bool} (h : m_impl_distanceOk d_0 = some r) : CallJ Tryd.prog 30 [(pEq (.int .i64 d_0))] (pEq (.bool r)) := by
  unfold m_impl_distanceOk at h
  refine CallJ.enterH Tryd.func30 rfl Tryd.ntmps30 rfl fun W I0 H => ?_
  refine Tr.weak (Γ' := [(0, (pEq (.int .i64 d_0)))]) ⟨rfl, trivial⟩ ?_
  refine Tr.seq ?_
  refine Tr.region ?_
  refine RegL.pure (p := (pEq (.bool false))) rfl rfl rfl (J_assign rfl Opd.con) ?_
  refine RegL.nil ?_
  refine Ct.then_tr ?_
  refine Tr.weak (Γ' := [(0, (pEq (.int .i64 d_0)))]) ⟨rfl, trivial⟩ ?_
  refine Tr.seq ?_
  refine Tr.region ?_
  refine RegL.pure (p := (pEq (.int .i64 d_0))) rfl rfl rfl (J_move rfl (Opd.tmp rfl)) ?_
  replace h := bind_some h; obtain ⟨x1, hx1, h⟩ := h
  refine RegL.pure (p := (pEq (.bool x1))) rfl rfl rfl (J_call rfl Tryd.call24 (c_impl_within hx1) (Opds.cons (Opd.tmp rfl) (Opds.cons Opd.con (Opds.cons Opd.con Opds.nil)))) ?_
  refine RegL.pure (p := (pEq (.bool x1))) rfl rfl rfl (J_assign rfl (Opd.tmp rfl)) ?_
  refine RegL.nil ?_
  refine Ct.then_tr ?_
  refine Tr.weak (Γ' := [(2, (pEq (.bool x1)))]) ⟨rfl, trivial⟩ ?_
  refine Tr.ret ?_
  replace h := Option.some.inj h; subst h
  exact Ct.retH1 (Ωx := []) () rfl (RvOk.tmp rfl) rfl

theorem c_impl_fadingOk {f_0 : Int} {d_1 : Int} {climate_2 : Int} {r : Bool} (h : m_impl_fadingOk f_0 d_1 climate_2 = some r) : CallJ Tryd.prog 20 [(pEq (.int .i64 f_0)), (pEq (.int .i64 d_1)), (pEq (.int .i64 climate_2))] (pEq (.bool r)) := by
  unfold m_impl_fadingOk at h
  refine CallJ.enterH Tryd.func20 rfl Tryd.ntmps20 rfl fun W I0 H => ?_
  refine Tr.weak (Γ' := [(0, (pEq (.int .i64 f_0))), (1, (pEq (.int .i64 d_1))), (2, (pEq (.int .i64 climate_2)))]) ⟨rfl, rfl, rfl, trivial⟩ ?_
  refine Tr.seq ?_
  refine Tr.region ?_
  refine RegL.pure (p := (pEq (.bool false))) rfl rfl rfl (J_assign rfl Opd.con) ?_
  refine RegL.nil ?_
  refine Ct.then_tr ?_
  refine Tr.weak (Γ' := [(0, (pEq (.int .i64 f_0))), (1, (pEq (.int .i64 d_1))), (2, (pEq (.int .i64 climate_2)))]) ⟨rfl, rfl, rfl, trivial⟩ ?_
  refine Tr.seq ?_
  replace h := bind_some h; obtain ⟨x1, hx1, h⟩ := h
  refine Tr.cut (γ := Unit) (Γm := fun g => [(6, (pEq (.bool x1)))]) (Ωm := fun g => []) ?_ (fun g7 => ?_)
  · clear h
    have h := hx1
    clear hx1
    refine Tr.region ?_
    refine RegL.pure (p := (pEq (.int .i64 f_0))) rfl rfl rfl (J_move rfl (Opd.tmp rfl)) ?_
    replace h := bind_some h; obtain ⟨x2, hx2, h⟩ := h
    refine RegL.pure (p := (pEq (.bool x2))) rfl rfl rfl (J_call rfl Tryd.call29 (c_impl_frequencyOk hx2) (Opds.cons (Opd.tmp rfl) Opds.nil)) ?_
    refine RegL.pure (p := (pEq (.bool x2))) rfl rfl rfl (J_move rfl (Opd.tmp rfl)) ?_
    rcases Bool.eq_false_or_eq_true x2 with hc3 | hc3
    · replace h := bif_t hc3 h
      refine RegL.pureG (p := (pEq (.int .i64 d_1))) rfl rfl rfl hc3 rfl rfl (J_move rfl (Opd.tmp rfl)) ?_
      replace h := bind_some h; obtain ⟨x4, hx4, h⟩ := h
      refine RegL.pureG (p := (pEq (.bool x4))) rfl rfl rfl hc3 rfl rfl (J_call rfl Tryd.call30 (c_impl_distanceOk hx4) (Opds.cons (Opd.tmp rfl) Opds.nil)) ?_
      refine RegL.pure (p := (pEq (.bool x4))) rfl rfl rfl (J_pick rfl (Opd.tmp rfl) (fun _ => (Opd.tmp rfl)) (fun hf => absurd (hc3.symm.trans hf) (by decide))) ?_
      refine RegL.pure (p := (pEq (.bool x4))) rfl rfl rfl (J_move rfl (Opd.tmp rfl)) ?_
      rcases Bool.eq_false_or_eq_true x4 with hc5 | hc5
      · replace h := bif_t hc5 h
        refine RegL.pureG (p := (pEq (.int .i64 climate_2))) rfl rfl rfl hc5 rfl rfl (J_move rfl (Opd.tmp rfl)) ?_
        replace h := bind_some h; obtain ⟨x6, hx6, h⟩ := h
        refine RegL.pureG (p := (pEq (.bool x6))) rfl rfl rfl hc5 rfl rfl (J_call rfl Tryd.call24 (c_impl_within hx6) (Opds.cons (Opd.tmp rfl) (Opds.cons Opd.con (Opds.cons Opd.con Opds.nil)))) ?_
        refine RegL.pure (p := (pEq (.bool x6))) rfl rfl rfl (J_pick rfl (Opd.tmp rfl) (fun _ => (Opd.tmp rfl)) (fun hf => absurd (hc5.symm.trans hf) (by decide))) ?_
        refine RegL.pure (p := (pEq (.bool x6))) rfl rfl rfl (J_assign rfl (Opd.tmp rfl)) ?_
        refine RegL.nil ?_
        replace h := Option.some.inj h; subst h
        exact Ct.mid () rfl ⟨rfl, trivial⟩
      · replace h := bif_f hc5 h
        refine RegL.skipG rfl rfl rfl hc5 rfl rfl ?_
        refine RegL.skipG rfl rfl rfl hc5 rfl rfl ?_
        refine RegL.pure (p := (pEq (.bool false))) rfl rfl rfl (J_pick rfl (Opd.tmp rfl) (fun hf => absurd (hc5.symm.trans hf) (by decide)) (fun _ => Opd.con)) ?_
        refine RegL.pure (p := (pEq (.bool false))) rfl rfl rfl (J_assign rfl (Opd.tmp rfl)) ?_
        refine RegL.nil ?_
        replace h := Option.some.inj h; subst h
        exact Ct.mid () rfl ⟨rfl, trivial⟩
    · replace h := bif_f hc3 h
      refine RegL.skipG rfl rfl rfl hc3 rfl rfl ?_
      refine RegL.skipG rfl rfl rfl hc3 rfl rfl ?_
      refine RegL.pure (p := (pEq (.bool false))) rfl rfl rfl (J_pick rfl (Opd.tmp rfl) (fun hf => absurd (hc3.symm.trans hf) (by decide)) (fun _ => Opd.con)) ?_
      refine RegL.pure (p := (pEq (.bool false))) rfl rfl rfl (J_move rfl (Opd.tmp rfl)) ?_
      refine RegL.skipG rfl rfl rfl rfl rfl rfl ?_
      refine RegL.skipG rfl rfl rfl rfl rfl rfl ?_
      refine RegL.pure (p := (pEq (.bool false))) rfl rfl rfl (J_pick rfl (Opd.tmp rfl) (fun hf => absurd hf (by decide)) (fun _ => Opd.con)) ?_
      refine RegL.pure (p := (pEq (.bool false))) rfl rfl rfl (J_assign rfl (Opd.tmp rfl)) ?_
      refine RegL.nil ?_
      replace h := Option.some.inj h; subst h
      exact Ct.mid () rfl ⟨rfl, trivial⟩
  · clear hx1
    refine Ct.then_tr ?_
    refine Tr.weak (Γ' := [(6, (pEq (.bool x1)))]) ⟨rfl, trivial⟩ ?_
    refine Tr.ret ?_
    replace h := Option.some.inj h; subst h
    exact Ct.retH1 (Ωx := []) () rfl (RvOk.tmp rfl) rfl

theorem c_impl_marginOk {n_0 : Int} {r : Bool} (h : m_impl_marginOk n_0 = some r) : CallJ Tryd.prog 21 [(pEq (.int .i64 n_0))] (pEq (.bool r)) := by
  unfold m_impl_marginOk at h
  refine CallJ.enterH Tryd.func21 rfl Tryd.ntmps21 rfl fun W I0 H => ?_
  refine Tr.weak (Γ' := [(0, (pEq (.int .i64 n_0)))]) ⟨rfl, trivial⟩ ?_
  refine Tr.seq ?_
  refine Tr.region ?_
  refine RegL.pure (p := (pEq (.bool false))) rfl rfl rfl (J_assign rfl Opd.con) ?_
  refine RegL.nil ?_
  refine Ct.then_tr ?_
  refine Tr.weak (Γ' := [(0, (pEq (.int .i64 n_0)))]) ⟨rfl, trivial⟩ ?_
  refine Tr.seq ?_
  refine Tr.region ?_
  refine RegL.pure (p := (pEq (.int .i64 n_0))) rfl rfl rfl (J_move rfl (Opd.tmp rfl)) ?_
  replace h := bind_some h; obtain ⟨x1, hx1, h⟩ := h
  refine RegL.pure (p := (pEq (.bool x1))) rfl rfl rfl (J_call rfl Tryd.call24 (c_impl_within hx1) (Opds.cons (Opd.tmp rfl) (Opds.cons Opd.con (Opds.cons Opd.con Opds.nil)))) ?_
  refine RegL.pure (p := (pEq (.bool x1))) rfl rfl rfl (J_assign rfl (Opd.tmp rfl)) ?_
  refine RegL.nil ?_
  refine Ct.then_tr ?_
  refine Tr.weak (Γ' := [(2, (pEq (.bool x1)))]) ⟨rfl, trivial⟩ ?_
  refine Tr.ret ?_
  replace h := Option.some.inj h; subst h
  exact Ct.retH1 (Ωx := []) () rfl (RvOk.tmp rfl) rfl

theorem c_strconv_FormatInt {n_0 b_1 : Int} {r : ByteArray} (h : m_strconv_FormatInt n_0 b_1 = some r) : CallJ Tryd.prog 61 [(pG (pTab 0 .u64 Lib.pow10Tab) (pEq (.int .i64 n_0))), (pEq (.int .i64 b_1))] (pEq (.string r)) :=
  fmt_contract (Go.Proofs.Any.strconv_FormatInt_10 lays61) (by kernel_rfl) h

theorem c_impl_Decimal {n_0 : Int} {r : ByteArray} (h : m_impl_Decimal n_0 = some r) : CallJ Tryd.prog 52 [(pG (pTab 0 .u64 Lib.pow10Tab) (pEq (.int .i64 n_0)))] (pEq (.string r)) := by
  unfold m_impl_Decimal at h
  refine CallJ.enterH Tryd.func52 rfl Tryd.ntmps52 rfl fun W I0 H => ?_
  refine Tr.tab (s := 0) (k := 99999) rfl ?_; refine Tr.weak (Γ' := [(0, (pEq (.int .i64 n_0))), (99999, (pTab 0 .u64 Lib.pow10Tab))]) ⟨rfl, rfl, trivial⟩ ?_
  refine Tr.seq ?_
  refine Tr.region ?_
  refine RegL.pure (p := (pEq (.string (ByteArray.mk #[])))) rfl rfl rfl (J_assign rfl Opd.con) ?_
  refine RegL.nil ?_
  refine Ct.then_tr ?_
  refine Tr.weak (Γ' := [(0, (pEq (.int .i64 n_0))), (99999, (pTab 0 .u64 Lib.pow10Tab))]) ⟨rfl, rfl, trivial⟩ ?_
  refine Tr.seq ?_
  refine Tr.region ?_
  refine RegL.pure (p := (pEq (.int .i64 n_0))) rfl rfl rfl (J_move rfl (Opd.tmp rfl)) ?_
  replace h := bind_some h; obtain ⟨x1, hx1, h⟩ := h
  refine RegL.pure (p := (pEq (.string x1))) rfl rfl rfl (J_call rfl Tryd.call61 (c_strconv_FormatInt hx1) (Opds.cons (Opd.tab (Opd.tmp rfl) 99999 rfl) (Opds.cons Opd.con Opds.nil))) ?_
  refine RegL.pure (p := (pEq (.string x1))) rfl rfl rfl (J_assign rfl (Opd.tmp rfl)) ?_
  refine RegL.nil ?_
  refine Ct.then_tr ?_
  refine Tr.weak (Γ' := [(2, (pEq (.string x1))), (99999, (pTab 0 .u64 Lib.pow10Tab))]) ⟨rfl, rfl, trivial⟩ ?_
  refine Tr.ret ?_
  replace h := Option.some.inj h; subst h
  exact Ct.retH1 (Ωx := []) () rfl (RvOk.tmp rfl) rfl

theorem c_impl_scaled_times {x_0 : GScaled} {y_1 : GScaled} {r : GScaled} (h : m_impl_scaled_times x_0 y_1 = some r) : CallJ Tryd.prog 53 [(pAgg (cGScaled x_0)), (pAgg (cGScaled y_1))] (pAgg (cGScaled r)) := by
  unfold m_impl_scaled_times at h
  refine CallJ.enterH Tryd.func53 rfl Tryd.ntmps53 rfl fun W I0 H => ?_
  refine Tr.weak (Γ' := [(0, (pAgg (cGScaled x_0))), (1, (pAgg (cGScaled y_1)))]) ⟨rfl, rfl, trivial⟩ ?_
  refine Tr.seq ?_
  refine Tr.region ?_
  refine RegL.pure (p := (pPtr (cGScaled x_0))) rfl rfl rfl (J_boxA rfl (Opd.tmp rfl)) ?_
  refine RegL.pure (p := (pPtr (cGScaled y_1))) rfl rfl rfl (J_boxA rfl (Opd.tmp rfl)) ?_
  refine RegL.step (γ := Nat) (p := fun b => pEq (.pointer (some ⟨b, 0, none⟩))) (Ω' := fun b => [oBlk b [(pEq (.int .i64 (0 : Int))), (pEq (.int .i64 (0 : Int)))]]) rfl rfl rfl (M_alloc rfl zero42) fun b1 => ?_
  refine RegL.nil ?_
  refine Ct.then_tr ?_
  refine Tr.weak (Γ' := [(2, (pPtr (cGScaled x_0))), (3, (pPtr (cGScaled y_1))), (4, (pEq (.pointer (some ⟨b1, 0, none⟩))))]) ⟨rfl, rfl, rfl, trivial⟩ ?_
  refine Tr.seq ?_
  refine Tr.region ?_
  refine RegL.pure (p := (pPtr ((cK .i64) x_0.number))) rfl rfl rfl (J_fieldAddr rfl Tryd.underlying42 rfl sz2 (by decide) (Opd.tmp rfl) rfl) ?_
  refine RegL.pure (p := (pEq (.int .i64 x_0.number))) rfl rfl rfl (J_load rfl Tryd.isAgg2 (Opd.tmp rfl)) ?_
  refine RegL.pure (p := (pPtr ((cK .i64) y_1.number))) rfl rfl rfl (J_fieldAddr rfl Tryd.underlying42 rfl sz2 (by decide) (Opd.tmp rfl) rfl) ?_
  refine RegL.pure (p := (pEq (.int .i64 y_1.number))) rfl rfl rfl (J_load rfl Tryd.isAgg2 (Opd.tmp rfl)) ?_
  refine RegL.pure (p := (pEq (.int .i64 (w64 (x_0.number * y_1.number))))) rfl rfl rfl (J_bin rfl (Opd.tmp rfl) (Opd.tmp rfl) B_mul) ?_
  refine RegL.pure (p := (pEq (.int .i64 (w64 ((w64 (x_0.number * y_1.number)).tdiv (100000000 : Int)))))) rfl rfl rfl (J_bin rfl (Opd.tmp rfl) Opd.con (B_quo (n := (100000000 : Int)) (by decide))) ?_
  refine RegL.pure (p := (pPtr ((cK .i64) x_0.exponent))) rfl rfl rfl (J_fieldAddr rfl Tryd.underlying42 rfl sz2 (by decide) (Opd.tmp rfl) rfl) ?_
  refine RegL.pure (p := (pEq (.int .i64 x_0.exponent))) rfl rfl rfl (J_load rfl Tryd.isAgg2 (Opd.tmp rfl)) ?_
  refine RegL.pure (p := (pPtr ((cK .i64) y_1.exponent))) rfl rfl rfl (J_fieldAddr rfl Tryd.underlying42 rfl sz2 (by decide) (Opd.tmp rfl) rfl) ?_
  refine RegL.pure (p := (pEq (.int .i64 y_1.exponent))) rfl rfl rfl (J_load rfl Tryd.isAgg2 (Opd.tmp rfl)) ?_
  refine RegL.pure (p := (pEq (.int .i64 (w64 (x_0.exponent + y_1.exponent))))) rfl rfl rfl (J_bin rfl (Opd.tmp rfl) (Opd.tmp rfl) B_add) ?_
  refine RegL.pure (p := (pAgg (cGScaled (GScaled.mk (w64 ((w64 (x_0.number * y_1.number)).tdiv (100000000 : Int))) (w64 (x_0.exponent + y_1.exponent)))))) rfl rfl rfl (J_build (qss := [(0, (cK .i64) (w64 ((w64 (x_0.number * y_1.number)).tdiv (100000000 : Int)))), (1, (cK .i64) (w64 (x_0.exponent + y_1.exponent)))]) rfl bl42 bz42o (Parts.cons (Part.one (Opd.tmp rfl) OneC.int) (Parts.cons (Part.one (Opd.tmp rfl) OneC.int) Parts.nil)) rfl) ?_
  refine RegL.step (γ := Nat) (p := fun b => pEq (.pointer (some ⟨b, 0, none⟩))) (Ω' := fun b => [oBlk b [(pEq (.int .i64 (0 : Int))), (pEq (.int .i64 (0 : Int)))], oBlk b1 [(pEq (.int .i64 (0 : Int))), (pEq (.int .i64 (0 : Int)))]]) rfl rfl rfl (M_alloc rfl zero42) fun b2 => ?_
  refine RegL.stepN (γ := Unit) (p := fun _ => pAny) (Ω' := fun _ => [oBlk b2 [(pEq (.int .i64 (GScaled.mk (w64 ((w64 (x_0.number * y_1.number)).tdiv (100000000 : Int))) (w64 (x_0.exponent + y_1.exponent))).number)), (pEq (.int .i64 (GScaled.mk (w64 ((w64 (x_0.number * y_1.number)).tdiv (100000000 : Int))) (w64 (x_0.exponent + y_1.exponent))).exponent))], oBlk b1 [(pEq (.int .i64 (0 : Int))), (pEq (.int .i64 (0 : Int)))]]) rfl rfl (M_storeA rfl sz42 (Opd.tmp rfl) (Opd.tmp rfl) (fun _ _ _ h => ones_of ((OneCs.cons OneC.int (OneCs.cons OneC.int OneCs.nil))) h) rfl rfl) fun g3 => ?_
  refine RegL.nil ?_
  refine Ct.then_tr ?_
  refine Tr.weak (Γ' := [(4, (pEq (.pointer (some ⟨b1, 0, none⟩)))), (5, (pEq (.pointer (some ⟨b2, 0, none⟩))))]) ⟨rfl, rfl, trivial⟩ ?_
  refine Tr.seq ?_
  refine Tr.seq ?_
  refine Tr.region ?_
  refine RegL.pure (p := (pEq (.pointer (some ⟨b2, 0, none⟩)))) rfl rfl rfl (J_fieldAddrE rfl Tryd.underlying42 rfl sz2 (by decide) (Opd.tmp rfl) rfl) ?_
  refine RegL.pureW (p := (pEq (.int .i64 (GScaled.mk (w64 ((w64 (x_0.number * y_1.number)).tdiv (100000000 : Int))) (w64 (x_0.exponent + y_1.exponent))).number))) rfl rfl rfl (W_load (i := 0) rfl Tryd.isAgg2 (Opd.tmp rfl) rfl rfl) ?_
  refine RegL.pure (p := (pEq (.bool (decide ((1000000000 : Int) ≤ (GScaled.mk (w64 ((w64 (x_0.number * y_1.number)).tdiv (100000000 : Int))) (w64 (x_0.exponent + y_1.exponent))).number))))) rfl rfl rfl (J_bin rfl (Opd.tmp rfl) Opd.con B_geq) ?_
  refine RegL.nil ?_
  refine Ct.then_tr ?_
  refine Tr.weak (Γ' := [(4, (pEq (.pointer (some ⟨b1, 0, none⟩)))), (5, (pEq (.pointer (some ⟨b2, 0, none⟩)))), (20, (pEq (.bool (decide ((1000000000 : Int) ≤ (GScaled.mk (w64 ((w64 (x_0.number * y_1.number)).tdiv (100000000 : Int))) (w64 (x_0.exponent + y_1.exponent))).number)))))]) ⟨rfl, rfl, rfl, trivial⟩ ?_
  replace h := bind_some h; obtain ⟨x4, hx4, h⟩ := h
  refine Tr.cut (γ := Unit) (Γm := fun g => [(4, (pEq (.pointer (some ⟨b1, 0, none⟩)))), (5, (pEq (.pointer (some ⟨b2, 0, none⟩))))]) (Ωm := fun g => [oBlk b2 [(pEq (.int .i64 x4.1)), (pEq (.int .i64 x4.2))], oBlk b1 [(pEq (.int .i64 (0 : Int))), (pEq (.int .i64 (0 : Int)))]]) ?_ (fun g7 => ?_)
  · clear h
    have h := hx4
    clear hx4
    refine Tr.cond (Opd.tmp rfl) (fun hc => ?_) (fun hc => ?_)
    · replace h := bif_t hc h
      refine Tr.seq ?_
      refine Tr.region ?_
      refine RegL.pure (p := (pEq (.pointer (some ⟨b2, 0, none⟩)))) rfl rfl rfl (J_fieldAddrE rfl Tryd.underlying42 rfl sz2 (by decide) (Opd.tmp rfl) rfl) ?_
      refine RegL.pureW (p := (pEq (.int .i64 (GScaled.mk (w64 ((w64 (x_0.number * y_1.number)).tdiv (100000000 : Int))) (w64 (x_0.exponent + y_1.exponent))).number))) rfl rfl rfl (W_load (i := 0) rfl Tryd.isAgg2 (Opd.tmp rfl) rfl rfl) ?_
      refine RegL.pure (p := (pEq (.int .i64 (w64 ((GScaled.mk (w64 ((w64 (x_0.number * y_1.number)).tdiv (100000000 : Int))) (w64 (x_0.exponent + y_1.exponent))).number.tdiv (10 : Int)))))) rfl rfl rfl (J_bin rfl (Opd.tmp rfl) Opd.con (B_quo (n := (10 : Int)) (by decide))) ?_
      refine RegL.pure (p := (pEq (.pointer (some ⟨b2, 0, none⟩)))) rfl rfl rfl (J_fieldAddrE rfl Tryd.underlying42 rfl sz2 (by decide) (Opd.tmp rfl) rfl) ?_
      refine RegL.stepN (γ := Unit) (p := fun _ => pAny) (Ω' := fun _ => [oBlk b2 [(pEq (.int .i64 (w64 ((GScaled.mk (w64 ((w64 (x_0.number * y_1.number)).tdiv (100000000 : Int))) (w64 (x_0.exponent + y_1.exponent))).number.tdiv (10 : Int))))), (pEq (.int .i64 (GScaled.mk (w64 ((w64 (x_0.number * y_1.number)).tdiv (100000000 : Int))) (w64 (x_0.exponent + y_1.exponent))).exponent))], oBlk b1 [(pEq (.int .i64 (0 : Int))), (pEq (.int .i64 (0 : Int)))]]) rfl rfl (M_store rfl sz2 (Opd.tmp rfl) (Opd.tmp rfl) OneC.int rfl rfl) fun g5 => ?_
      refine RegL.nil ?_
      refine Ct.then_tr ?_
      refine Tr.weak (Γ' := [(4, (pEq (.pointer (some ⟨b1, 0, none⟩)))), (5, (pEq (.pointer (some ⟨b2, 0, none⟩))))]) ⟨rfl, rfl, trivial⟩ ?_
      refine Tr.region ?_
      refine RegL.pure (p := (pEq (.pointer (some ⟨b2, 1, none⟩)))) rfl rfl rfl (J_fieldAddrE rfl Tryd.underlying42 rfl sz2 (by decide) (Opd.tmp rfl) rfl) ?_
      refine RegL.pureW (p := (pEq (.int .i64 (GScaled.mk (w64 ((w64 (x_0.number * y_1.number)).tdiv (100000000 : Int))) (w64 (x_0.exponent + y_1.exponent))).exponent))) rfl rfl rfl (W_load (i := 0) rfl Tryd.isAgg2 (Opd.tmp rfl) rfl rfl) ?_
      refine RegL.pure (p := (pEq (.int .i64 (w64 ((GScaled.mk (w64 ((w64 (x_0.number * y_1.number)).tdiv (100000000 : Int))) (w64 (x_0.exponent + y_1.exponent))).exponent + (1 : Int)))))) rfl rfl rfl (J_bin rfl (Opd.tmp rfl) Opd.con B_add) ?_
      refine RegL.pure (p := (pEq (.pointer (some ⟨b2, 1, none⟩)))) rfl rfl rfl (J_fieldAddrE rfl Tryd.underlying42 rfl sz2 (by decide) (Opd.tmp rfl) rfl) ?_
      refine RegL.stepN (γ := Unit) (p := fun _ => pAny) (Ω' := fun _ => [oBlk b2 [(pEq (.int .i64 (w64 ((GScaled.mk (w64 ((w64 (x_0.number * y_1.number)).tdiv (100000000 : Int))) (w64 (x_0.exponent + y_1.exponent))).number.tdiv (10 : Int))))), (pEq (.int .i64 (w64 ((GScaled.mk (w64 ((w64 (x_0.number * y_1.number)).tdiv (100000000 : Int))) (w64 (x_0.exponent + y_1.exponent))).exponent + (1 : Int)))))], oBlk b1 [(pEq (.int .i64 (0 : Int))), (pEq (.int .i64 (0 : Int)))]]) rfl rfl (M_store rfl sz2 (Opd.tmp rfl) (Opd.tmp rfl) OneC.int rfl rfl) fun g6 => ?_
      refine RegL.nil ?_
      replace h := Option.some.inj h; subst h
      exact Ct.mid () rfl ⟨rfl, rfl, trivial⟩
    · replace h := bif_f hc h
      refine Tr.skip ?_
      replace h := Option.some.inj h; subst h
      exact Ct.mid () rfl ⟨rfl, rfl, trivial⟩
  · clear hx4
    refine Ct.then_tr ?_
    refine Tr.weak (Γ' := [(4, (pEq (.pointer (some ⟨b1, 0, none⟩)))), (5, (pEq (.pointer (some ⟨b2, 0, none⟩))))]) ⟨rfl, rfl, trivial⟩ ?_
    refine Tr.seq ?_
    refine Tr.region ?_
    refine RegL.pureW (p := (pAgg (cGScaled (GScaled.mk x4.1 x4.2)))) rfl rfl rfl (W_loadA (i := 0) rfl Tryd.isAgg42 sz42 (Opd.tmp rfl) rfl rfl) ?_
    refine RegL.re (Ω2 := [oBlk b1 [(pEq (.int .i64 (0 : Int))), (pEq (.int .i64 (0 : Int)))], oBlk b2 [(pEq (.int .i64 x4.1)), (pEq (.int .i64 x4.2))]]) (fun h => SatO.pick 1 h) ?_
    refine RegL.stepN (γ := Unit) (p := fun _ => pAny) (Ω' := fun _ => [oBlk b1 [(pEq (.int .i64 (GScaled.mk x4.1 x4.2).number)), (pEq (.int .i64 (GScaled.mk x4.1 x4.2).exponent))], oBlk b2 [(pEq (.int .i64 x4.1)), (pEq (.int .i64 x4.2))]]) rfl rfl (M_storeA rfl sz42 (Opd.tmp rfl) (Opd.tmp rfl) (fun _ _ _ h => ones_of ((OneCs.cons OneC.int (OneCs.cons OneC.int OneCs.nil))) h) rfl rfl) fun g8 => ?_
    refine RegL.nil ?_
    refine Ct.then_tr ?_
    refine Tr.weak (Γ' := [(4, (pEq (.pointer (some ⟨b1, 0, none⟩))))]) ⟨rfl, trivial⟩ ?_
    refine Tr.ret ?_
    replace h := Option.some.inj h; subst h
    exact Ct.retH1 (Ωx := [oBlk b1 [(pEq (.int .i64 (GScaled.mk x4.1 x4.2).number)), (pEq (.int .i64 (GScaled.mk x4.1 x4.2).exponent))], oBlk b2 [(pEq (.int .i64 x4.1)), (pEq (.int .i64 x4.2))]]) () rfl (RvOk.cellA (i := 0) Tryd.isAgg42 sz42 rfl rfl rfl) rfl

theorem c_impl_LogDb {n_0 : Int} {r : Int} (h : m_impl_LogDb n_0 = some r) : CallJ Tryd.prog 39 [(pG (pTab 0 .u64 Lib.pow10Tab) (pEq (.int .i64 n_0)))] (pEq (.int .i64 r)) := by
  unfold m_impl_LogDb at h
  refine CallJ.enterH Tryd.func39 rfl Tryd.ntmps39 rfl fun W I0 H => ?_
  refine Tr.tab (s := 0) (k := 99999) rfl ?_; refine Tr.weak (Γ' := [(0, (pEq (.int .i64 n_0))), (99999, (pTab 0 .u64 Lib.pow10Tab))]) ⟨rfl, rfl, trivial⟩ ?_
  refine Tr.seq ?_
  refine Tr.region ?_
  refine RegL.pure (p := (pEq (.int .i64 (0 : Int)))) rfl rfl rfl (J_assign rfl Opd.con) ?_
  refine RegL.nil ?_
  refine Ct.then_tr ?_
  refine Tr.weak (Γ' := [(0, (pEq (.int .i64 n_0))), (99999, (pTab 0 .u64 Lib.pow10Tab))]) ⟨rfl, rfl, trivial⟩ ?_
  refine Tr.seq ?_
  refine Tr.seq ?_
  refine Tr.region ?_
  refine RegL.pure (p := (pEq (.int .i64 n_0))) rfl rfl rfl (J_move rfl (Opd.tmp rfl)) ?_
  refine RegL.pure (p := (pEq (.bool (decide (n_0 < (1 : Int)))))) rfl rfl rfl (J_bin rfl (Opd.tmp rfl) Opd.con B_lss) ?_
  refine RegL.nil ?_
  refine Ct.then_tr ?_
  refine Tr.weak (Γ' := [(0, (pEq (.int .i64 n_0))), (9, (pEq (.bool (decide (n_0 < (1 : Int)))))), (99999, (pTab 0 .u64 Lib.pow10Tab))]) ⟨rfl, rfl, rfl, trivial⟩ ?_
  refine Tr.cond (Opd.tmp rfl) (fun hc => ?_) (fun hc => ?_)
  · replace h := bif_t hc h
    refine Tr.seq ?_
    refine Tr.region ?_
    refine RegL.pure (p := (pEq (.int .i64 (0 : Int)))) rfl rfl rfl (J_assign rfl Opd.con) ?_
    refine RegL.nil ?_
    refine Ct.then_tr ?_
    refine Tr.weak (Γ' := [(2, (pEq (.int .i64 (0 : Int)))), (99999, (pTab 0 .u64 Lib.pow10Tab))]) ⟨rfl, rfl, trivial⟩ ?_
    refine Tr.ret ?_
    refine Ct.then_ret ?_
    replace h := Option.some.inj h; subst h
    exact Ct.retH1 (Ωx := []) () rfl (RvOk.tmp rfl) rfl
  · replace h := bif_f hc h
    refine Tr.skip ?_
    refine Ct.then_tr ?_
    refine Tr.weak (Γ' := [(0, (pEq (.int .i64 n_0))), (99999, (pTab 0 .u64 Lib.pow10Tab))]) ⟨rfl, rfl, trivial⟩ ?_
    refine Tr.seq ?_
    refine Tr.region ?_
    refine RegL.pure (p := (pEq (.int .i64 n_0))) rfl rfl rfl (J_move rfl (Opd.tmp rfl)) ?_
    replace h := bind_some h; obtain ⟨x1, hx1, h⟩ := h
    refine RegL.pure (p := (pEq (.string x1))) rfl rfl rfl (J_call rfl Tryd.call52 (c_impl_Decimal hx1) (Opds.cons (Opd.tab (Opd.tmp rfl) 99999 rfl) Opds.nil)) ?_
    refine RegL.pure (p := (pEq (.int .i64 (x1.size : Int)))) rfl rfl rfl (J_slen rfl Tryd.underlying9 (Opd.tmp rfl) rfl) ?_
    refine RegL.pure (p := (pEq (.int .i64 (w64 ((x1.size : Int) - (1 : Int)))))) rfl rfl rfl (J_bin rfl (Opd.tmp rfl) Opd.con B_sub) ?_
    refine RegL.pure (p := (pEq (.int .i64 (w64 ((x1.size : Int) - (1 : Int)))))) rfl rfl rfl (J_assign rfl (Opd.tmp rfl)) ?_
    refine RegL.nil ?_
    refine Ct.then_tr ?_
    refine Tr.weak (Γ' := [(0, (pEq (.int .i64 n_0))), (3, (pEq (.int .i64 (w64 ((x1.size : Int) - (1 : Int)))))), (99999, (pTab 0 .u64 Lib.pow10Tab))]) ⟨rfl, rfl, rfl, trivial⟩ ?_
    refine Tr.seq ?_
    refine Tr.region ?_
    refine RegL.pure (p := (pEq (.int .i64 n_0))) rfl rfl rfl (J_move rfl (Opd.tmp rfl)) ?_
    refine RegL.pure (p := (pEq (.int .i64 n_0))) rfl rfl rfl (J_assign rfl (Opd.tmp rfl)) ?_
    refine RegL.nil ?_
    refine Ct.then_tr ?_
    refine Tr.weak (Γ' := [(3, (pEq (.int .i64 (w64 ((x1.size : Int) - (1 : Int)))))), (4, (pEq (.int .i64 n_0))), (99999, (pTab 0 .u64 Lib.pow10Tab))]) ⟨rfl, rfl, rfl, trivial⟩ ?_
    refine Tr.seq ?_
    refine Tr.seq ?_
    refine Tr.region ?_
    refine RegL.pure (p := (pEq (.int .i64 (w64 ((x1.size : Int) - (1 : Int)))))) rfl rfl rfl (J_move rfl (Opd.tmp rfl)) ?_
    refine RegL.pure (p := (pEq (.int .i64 (w64 ((8 : Int) - (w64 ((x1.size : Int) - (1 : Int)))))))) rfl rfl rfl (J_bin rfl Opd.con (Opd.tmp rfl) B_sub) ?_
    refine RegL.pure (p := (pEq (.int .i64 (if (0 : Int) > (w64 ((8 : Int) - (w64 ((x1.size : Int) - (1 : Int))))) then (0 : Int) else (w64 ((8 : Int) - (w64 ((x1.size : Int) - (1 : Int))))))))) rfl rfl rfl (J_max2 rfl (Opd.tmp rfl) Opd.con) ?_
    refine RegL.pure (p := (pEq (.int .i64 (0 : Int)))) rfl rfl rfl (J_move rfl Opd.con) ?_
    refine RegL.nil ?_
    refine Ct.then_tr ?_
    refine Tr.weak (Γ' := [(3, (pEq (.int .i64 (w64 ((x1.size : Int) - (1 : Int)))))), (4, (pEq (.int .i64 n_0))), (17, (pEq (.int .i64 (if (0 : Int) > (w64 ((8 : Int) - (w64 ((x1.size : Int) - (1 : Int))))) then (0 : Int) else (w64 ((8 : Int) - (w64 ((x1.size : Int) - (1 : Int))))))))), (18, (pEq (.int .i64 (0 : Int)))), (99999, (pTab 0 .u64 Lib.pow10Tab))]) ⟨rfl, rfl, rfl, rfl, rfl, trivial⟩ ?_
    replace h := bind_some h; obtain ⟨x2, hx2, h⟩ := h
    refine Tr.cut (γ := Unit) (Γm := fun g => [(3, (pEq (.int .i64 (w64 ((x1.size : Int) - (1 : Int)))))), (4, (pEq (.int .i64 x2))), (99999, (pTab 0 .u64 Lib.pow10Tab))]) (Ωm := fun g => []) ?_ (fun g7 => ?_)
    · clear h
      have h := hx2
      clear hx2
      refine Tr.block ?_
      refine Tr.weak (Γ' := [(3, (pEq (.int .i64 (w64 ((x1.size : Int) - (1 : Int)))))), (4, (pEq (.int .i64 n_0))), (17, (pEq (.int .i64 (if (0 : Int) > (w64 ((8 : Int) - (w64 ((x1.size : Int) - (1 : Int))))) then (0 : Int) else (w64 ((8 : Int) - (w64 ((x1.size : Int) - (1 : Int))))))))), (18, (pEq (.int .i64 (0 : Int)))), (99999, (pTab 0 .u64 Lib.pow10Tab))]) ⟨rfl, rfl, rfl, rfl, rfl, trivial⟩ ?_
      refine Tr.loop (γ := Unit) (σ := (Int × Int)) (Γσ := fun s g => [(3, (pEq (.int .i64 (w64 ((x1.size : Int) - (1 : Int)))))), (4, (pEq (.int .i64 s.1))), (17, (pEq (.int .i64 (if (0 : Int) > (w64 ((8 : Int) - (w64 ((x1.size : Int) - (1 : Int))))) then (0 : Int) else (w64 ((8 : Int) - (w64 ((x1.size : Int) - (1 : Int))))))))), (18, (pEq (.int .i64 s.2))), (99999, (pTab 0 .u64 Lib.pow10Tab))]) (Ωσ := fun s g => []) (g := ()) h ?_
      clear h
      rintro ⟨v4, v5⟩ g6 t h
      replace h : m_impl_LogDb_B3 x1 v4 v5 = some t := h
      unfold m_impl_LogDb_B3 at h
      refine Tr.weakO (Γ' := [(3, (pEq (.int .i64 (w64 ((x1.size : Int) - (1 : Int)))))), (4, (pEq (.int .i64 v4))), (17, (pEq (.int .i64 (if (0 : Int) > (w64 ((8 : Int) - (w64 ((x1.size : Int) - (1 : Int))))) then (0 : Int) else (w64 ((8 : Int) - (w64 ((x1.size : Int) - (1 : Int))))))))), (18, (pEq (.int .i64 v5))), (99999, (pTab 0 .u64 Lib.pow10Tab))]) (Ω' := []) rfl ⟨rfl, rfl, rfl, rfl, rfl, trivial⟩ ?_
      refine Tr.seq ?_
      refine Tr.region ?_
      refine RegL.pure (p := (pEq (.bool (decide (v5 < (if (0 : Int) > (w64 ((8 : Int) - (w64 ((x1.size : Int) - (1 : Int))))) then (0 : Int) else (w64 ((8 : Int) - (w64 ((x1.size : Int) - (1 : Int))))))))))) rfl rfl rfl (J_bin rfl (Opd.tmp rfl) (Opd.tmp rfl) B_lss) ?_
      refine RegL.nil ?_
      refine Ct.then_tr ?_
      refine Tr.weak (Γ' := [(3, (pEq (.int .i64 (w64 ((x1.size : Int) - (1 : Int)))))), (4, (pEq (.int .i64 v4))), (17, (pEq (.int .i64 (if (0 : Int) > (w64 ((8 : Int) - (w64 ((x1.size : Int) - (1 : Int))))) then (0 : Int) else (w64 ((8 : Int) - (w64 ((x1.size : Int) - (1 : Int))))))))), (18, (pEq (.int .i64 v5))), (19, (pEq (.bool (decide (v5 < (if (0 : Int) > (w64 ((8 : Int) - (w64 ((x1.size : Int) - (1 : Int))))) then (0 : Int) else (w64 ((8 : Int) - (w64 ((x1.size : Int) - (1 : Int))))))))))), (99999, (pTab 0 .u64 Lib.pow10Tab))]) ⟨rfl, rfl, rfl, rfl, rfl, rfl, trivial⟩ ?_
      refine Tr.seq ?_
      refine Tr.cond (Opd.tmp rfl) (fun hc => ?_) (fun hc => ?_)
      · replace h := bif_t hc h
        refine Tr.skip ?_
        refine Ct.then_tr ?_
        refine Tr.weak (Γ' := [(3, (pEq (.int .i64 (w64 ((x1.size : Int) - (1 : Int)))))), (4, (pEq (.int .i64 v4))), (17, (pEq (.int .i64 (if (0 : Int) > (w64 ((8 : Int) - (w64 ((x1.size : Int) - (1 : Int))))) then (0 : Int) else (w64 ((8 : Int) - (w64 ((x1.size : Int) - (1 : Int))))))))), (18, (pEq (.int .i64 v5))), (99999, (pTab 0 .u64 Lib.pow10Tab))]) ⟨rfl, rfl, rfl, rfl, rfl, trivial⟩ ?_
        refine Tr.seq ?_
        refine Tr.block ?_
        refine Tr.region ?_
        refine RegL.pure (p := (pEq (.int .i64 v4))) rfl rfl rfl (J_move rfl (Opd.tmp rfl)) ?_
        refine RegL.pure (p := (pEq (.int .i64 (w64 (v4 * (10 : Int)))))) rfl rfl rfl (J_bin rfl (Opd.tmp rfl) Opd.con B_mul) ?_
        refine RegL.pure (p := (pEq (.int .i64 (w64 (v4 * (10 : Int)))))) rfl rfl rfl (J_assign rfl (Opd.tmp rfl)) ?_
        refine RegL.nil ?_
        refine Ct.blk_normal ?_
        refine Ct.then_tr ?_
        refine Tr.weak (Γ' := [(3, (pEq (.int .i64 (w64 ((x1.size : Int) - (1 : Int)))))), (4, (pEq (.int .i64 (w64 (v4 * (10 : Int)))))), (17, (pEq (.int .i64 (if (0 : Int) > (w64 ((8 : Int) - (w64 ((x1.size : Int) - (1 : Int))))) then (0 : Int) else (w64 ((8 : Int) - (w64 ((x1.size : Int) - (1 : Int))))))))), (18, (pEq (.int .i64 v5))), (99999, (pTab 0 .u64 Lib.pow10Tab))]) ⟨rfl, rfl, rfl, rfl, rfl, trivial⟩ ?_
        refine Tr.region ?_
        refine RegL.pure (p := (pEq (.int .i64 (w64 (v5 + (1 : Int)))))) rfl rfl rfl (J_bin rfl (Opd.tmp rfl) Opd.con B_add) ?_
        refine RegL.pure (p := (pEq (.int .i64 (w64 (v5 + (1 : Int)))))) rfl rfl rfl (J_move rfl (Opd.tmp rfl)) ?_
        refine RegL.nil ?_
        replace h := Option.some.inj h; subst h
        exact Ct.again () rfl ⟨rfl, rfl, rfl, rfl, rfl, trivial⟩
      · replace h := bif_f hc h
        refine Tr.exit ?_
        refine Ct.then_exit ?_
        replace h := map_some h; obtain ⟨r1, h, rfl⟩ := h
        refine Ct.out_exit fun e => ?_
        subst e
        refine Ct.blk_exit ?_
        replace h := Option.some.inj h; subst h
        exact Ct.mid () rfl ⟨rfl, rfl, rfl, trivial⟩
    · clear hx2
      refine Ct.then_tr ?_
      refine Tr.weak (Γ' := [(3, (pEq (.int .i64 (w64 ((x1.size : Int) - (1 : Int)))))), (4, (pEq (.int .i64 x2))), (99999, (pTab 0 .u64 Lib.pow10Tab))]) ⟨rfl, rfl, rfl, trivial⟩ ?_
      refine Tr.seq ?_
      refine Tr.seq ?_
      refine Tr.region ?_
      refine RegL.pure (p := (pEq (.int .i64 (w64 ((x1.size : Int) - (1 : Int)))))) rfl rfl rfl (J_move rfl (Opd.tmp rfl)) ?_
      refine RegL.pure (p := (pEq (.int .i64 (w64 ((w64 ((x1.size : Int) - (1 : Int))) - (8 : Int)))))) rfl rfl rfl (J_bin rfl (Opd.tmp rfl) Opd.con B_sub) ?_
      refine RegL.pure (p := (pEq (.int .i64 (if (0 : Int) > (w64 ((w64 ((x1.size : Int) - (1 : Int))) - (8 : Int))) then (0 : Int) else (w64 ((w64 ((x1.size : Int) - (1 : Int))) - (8 : Int))))))) rfl rfl rfl (J_max2 rfl (Opd.tmp rfl) Opd.con) ?_
      refine RegL.pure (p := (pEq (.int .i64 (0 : Int)))) rfl rfl rfl (J_move rfl Opd.con) ?_
      refine RegL.nil ?_
      refine Ct.then_tr ?_
      refine Tr.weak (Γ' := [(3, (pEq (.int .i64 (w64 ((x1.size : Int) - (1 : Int)))))), (4, (pEq (.int .i64 x2))), (25, (pEq (.int .i64 (if (0 : Int) > (w64 ((w64 ((x1.size : Int) - (1 : Int))) - (8 : Int))) then (0 : Int) else (w64 ((w64 ((x1.size : Int) - (1 : Int))) - (8 : Int))))))), (26, (pEq (.int .i64 (0 : Int)))), (99999, (pTab 0 .u64 Lib.pow10Tab))]) ⟨rfl, rfl, rfl, rfl, rfl, trivial⟩ ?_
      replace h := bind_some h; obtain ⟨x8, hx8, h⟩ := h
      refine Tr.cut (γ := Unit) (Γm := fun g => [(3, (pEq (.int .i64 (w64 ((x1.size : Int) - (1 : Int)))))), (4, (pEq (.int .i64 x8))), (99999, (pTab 0 .u64 Lib.pow10Tab))]) (Ωm := fun g => []) ?_ (fun g13 => ?_)
      · clear h
        have h := hx8
        clear hx8
        refine Tr.block ?_
        refine Tr.weak (Γ' := [(3, (pEq (.int .i64 (w64 ((x1.size : Int) - (1 : Int)))))), (4, (pEq (.int .i64 x2))), (25, (pEq (.int .i64 (if (0 : Int) > (w64 ((w64 ((x1.size : Int) - (1 : Int))) - (8 : Int))) then (0 : Int) else (w64 ((w64 ((x1.size : Int) - (1 : Int))) - (8 : Int))))))), (26, (pEq (.int .i64 (0 : Int)))), (99999, (pTab 0 .u64 Lib.pow10Tab))]) ⟨rfl, rfl, rfl, rfl, rfl, trivial⟩ ?_
        refine Tr.loop (γ := Unit) (σ := (Int × Int)) (Γσ := fun s g => [(3, (pEq (.int .i64 (w64 ((x1.size : Int) - (1 : Int)))))), (4, (pEq (.int .i64 s.1))), (25, (pEq (.int .i64 (if (0 : Int) > (w64 ((w64 ((x1.size : Int) - (1 : Int))) - (8 : Int))) then (0 : Int) else (w64 ((w64 ((x1.size : Int) - (1 : Int))) - (8 : Int))))))), (26, (pEq (.int .i64 s.2))), (99999, (pTab 0 .u64 Lib.pow10Tab))]) (Ωσ := fun s g => []) (g := ()) h ?_
        clear h
        rintro ⟨v10, v11⟩ g12 t h
        replace h : m_impl_LogDb_B9 x1 v10 v11 = some t := h
        unfold m_impl_LogDb_B9 at h
        refine Tr.weakO (Γ' := [(3, (pEq (.int .i64 (w64 ((x1.size : Int) - (1 : Int)))))), (4, (pEq (.int .i64 v10))), (25, (pEq (.int .i64 (if (0 : Int) > (w64 ((w64 ((x1.size : Int) - (1 : Int))) - (8 : Int))) then (0 : Int) else (w64 ((w64 ((x1.size : Int) - (1 : Int))) - (8 : Int))))))), (26, (pEq (.int .i64 v11))), (99999, (pTab 0 .u64 Lib.pow10Tab))]) (Ω' := []) rfl ⟨rfl, rfl, rfl, rfl, rfl, trivial⟩ ?_
        refine Tr.seq ?_
        refine Tr.region ?_
        refine RegL.pure (p := (pEq (.bool (decide (v11 < (if (0 : Int) > (w64 ((w64 ((x1.size : Int) - (1 : Int))) - (8 : Int))) then (0 : Int) else (w64 ((w64 ((x1.size : Int) - (1 : Int))) - (8 : Int))))))))) rfl rfl rfl (J_bin rfl (Opd.tmp rfl) (Opd.tmp rfl) B_lss) ?_
        refine RegL.nil ?_
        refine Ct.then_tr ?_
        refine Tr.weak (Γ' := [(3, (pEq (.int .i64 (w64 ((x1.size : Int) - (1 : Int)))))), (4, (pEq (.int .i64 v10))), (25, (pEq (.int .i64 (if (0 : Int) > (w64 ((w64 ((x1.size : Int) - (1 : Int))) - (8 : Int))) then (0 : Int) else (w64 ((w64 ((x1.size : Int) - (1 : Int))) - (8 : Int))))))), (26, (pEq (.int .i64 v11))), (27, (pEq (.bool (decide (v11 < (if (0 : Int) > (w64 ((w64 ((x1.size : Int) - (1 : Int))) - (8 : Int))) then (0 : Int) else (w64 ((w64 ((x1.size : Int) - (1 : Int))) - (8 : Int))))))))), (99999, (pTab 0 .u64 Lib.pow10Tab))]) ⟨rfl, rfl, rfl, rfl, rfl, rfl, trivial⟩ ?_
        refine Tr.seq ?_
        refine Tr.cond (Opd.tmp rfl) (fun hc => ?_) (fun hc => ?_)
        · replace h := bif_t hc h
          refine Tr.skip ?_
          refine Ct.then_tr ?_
          refine Tr.weak (Γ' := [(3, (pEq (.int .i64 (w64 ((x1.size : Int) - (1 : Int)))))), (4, (pEq (.int .i64 v10))), (25, (pEq (.int .i64 (if (0 : Int) > (w64 ((w64 ((x1.size : Int) - (1 : Int))) - (8 : Int))) then (0 : Int) else (w64 ((w64 ((x1.size : Int) - (1 : Int))) - (8 : Int))))))), (26, (pEq (.int .i64 v11))), (99999, (pTab 0 .u64 Lib.pow10Tab))]) ⟨rfl, rfl, rfl, rfl, rfl, trivial⟩ ?_
          refine Tr.seq ?_
          refine Tr.block ?_
          refine Tr.region ?_
          refine RegL.pure (p := (pEq (.int .i64 v10))) rfl rfl rfl (J_move rfl (Opd.tmp rfl)) ?_
          refine RegL.pure (p := (pEq (.int .i64 (w64 (v10.tdiv (10 : Int)))))) rfl rfl rfl (J_bin rfl (Opd.tmp rfl) Opd.con (B_quo (n := (10 : Int)) (by decide))) ?_
          refine RegL.pure (p := (pEq (.int .i64 (w64 (v10.tdiv (10 : Int)))))) rfl rfl rfl (J_assign rfl (Opd.tmp rfl)) ?_
          refine RegL.nil ?_
          refine Ct.blk_normal ?_
          refine Ct.then_tr ?_
          refine Tr.weak (Γ' := [(3, (pEq (.int .i64 (w64 ((x1.size : Int) - (1 : Int)))))), (4, (pEq (.int .i64 (w64 (v10.tdiv (10 : Int)))))), (25, (pEq (.int .i64 (if (0 : Int) > (w64 ((w64 ((x1.size : Int) - (1 : Int))) - (8 : Int))) then (0 : Int) else (w64 ((w64 ((x1.size : Int) - (1 : Int))) - (8 : Int))))))), (26, (pEq (.int .i64 v11))), (99999, (pTab 0 .u64 Lib.pow10Tab))]) ⟨rfl, rfl, rfl, rfl, rfl, trivial⟩ ?_
          refine Tr.region ?_
          refine RegL.pure (p := (pEq (.int .i64 (w64 (v11 + (1 : Int)))))) rfl rfl rfl (J_bin rfl (Opd.tmp rfl) Opd.con B_add) ?_
          refine RegL.pure (p := (pEq (.int .i64 (w64 (v11 + (1 : Int)))))) rfl rfl rfl (J_move rfl (Opd.tmp rfl)) ?_
          refine RegL.nil ?_
          replace h := Option.some.inj h; subst h
          exact Ct.again () rfl ⟨rfl, rfl, rfl, rfl, rfl, trivial⟩
        · replace h := bif_f hc h
          refine Tr.exit ?_
          refine Ct.then_exit ?_
          replace h := map_some h; obtain ⟨r1, h, rfl⟩ := h
          refine Ct.out_exit fun e => ?_
          subst e
          refine Ct.blk_exit ?_
          replace h := Option.some.inj h; subst h
          exact Ct.mid () rfl ⟨rfl, rfl, rfl, trivial⟩
      · clear hx8
        refine Ct.then_tr ?_
        refine Tr.weak (Γ' := [(3, (pEq (.int .i64 (w64 ((x1.size : Int) - (1 : Int)))))), (4, (pEq (.int .i64 x8))), (99999, (pTab 0 .u64 Lib.pow10Tab))]) ⟨rfl, rfl, rfl, trivial⟩ ?_
        refine Tr.seq ?_
        refine Tr.seq ?_
        refine Tr.region ?_
        refine RegL.pure (p := (pEq (.int .i64 (0 : Int)))) rfl rfl rfl (J_move rfl Opd.con) ?_
        refine RegL.nil ?_
        refine Ct.then_tr ?_
        refine Tr.weak (Γ' := [(3, (pEq (.int .i64 (w64 ((x1.size : Int) - (1 : Int)))))), (4, (pEq (.int .i64 x8))), (31, (pEq (.int .i64 (0 : Int)))), (99999, (pTab 0 .u64 Lib.pow10Tab))]) ⟨rfl, rfl, rfl, rfl, trivial⟩ ?_
        replace h := bind_some h; obtain ⟨x14, hx14, h⟩ := h
        refine Tr.cut (γ := Unit) (Γm := fun g => [(3, (pEq (.int .i64 x14))), (99999, (pTab 0 .u64 Lib.pow10Tab))]) (Ωm := fun g => []) ?_ (fun g31 => ?_)
        · clear h
          have h := hx14
          clear hx14
          refine Tr.block ?_
          refine Tr.weak (Γ' := [(3, (pEq (.int .i64 (w64 ((x1.size : Int) - (1 : Int)))))), (4, (pEq (.int .i64 x8))), (31, (pEq (.int .i64 (0 : Int)))), (99999, (pTab 0 .u64 Lib.pow10Tab))]) ⟨rfl, rfl, rfl, rfl, trivial⟩ ?_
          refine Tr.loop (γ := Unit) (σ := (Int × Int × Int)) (Γσ := fun s g => [(3, (pEq (.int .i64 s.1))), (4, (pEq (.int .i64 s.2.1))), (31, (pEq (.int .i64 s.2.2))), (99999, (pTab 0 .u64 Lib.pow10Tab))]) (Ωσ := fun s g => []) (g := ()) h ?_
          clear h
          rintro ⟨v16, v17, v18⟩ g19 t h
          replace h : m_impl_LogDb_B15  v16 v17 v18 = some t := h
          unfold m_impl_LogDb_B15 at h
          refine Tr.weakO (Γ' := [(3, (pEq (.int .i64 v16))), (4, (pEq (.int .i64 v17))), (31, (pEq (.int .i64 v18))), (99999, (pTab 0 .u64 Lib.pow10Tab))]) (Ω' := []) rfl ⟨rfl, rfl, rfl, rfl, trivial⟩ ?_
          refine Tr.seq ?_
          refine Tr.region ?_
          refine RegL.pure (p := (pEq (.bool (decide (v18 < (4 : Int)))))) rfl rfl rfl (J_bin rfl (Opd.tmp rfl) Opd.con B_lss) ?_
          refine RegL.nil ?_
          refine Ct.then_tr ?_
          refine Tr.weak (Γ' := [(3, (pEq (.int .i64 v16))), (4, (pEq (.int .i64 v17))), (31, (pEq (.int .i64 v18))), (32, (pEq (.bool (decide (v18 < (4 : Int)))))), (99999, (pTab 0 .u64 Lib.pow10Tab))]) ⟨rfl, rfl, rfl, rfl, rfl, trivial⟩ ?_
          refine Tr.seq ?_
          refine Tr.cond (Opd.tmp rfl) (fun hc => ?_) (fun hc => ?_)
          · replace h := bif_t hc h
            refine Tr.skip ?_
            refine Ct.then_tr ?_
            refine Tr.weak (Γ' := [(3, (pEq (.int .i64 v16))), (4, (pEq (.int .i64 v17))), (31, (pEq (.int .i64 v18))), (99999, (pTab 0 .u64 Lib.pow10Tab))]) ⟨rfl, rfl, rfl, rfl, trivial⟩ ?_
            refine Tr.seq ?_
            refine Tr.block ?_
            refine Tr.seq ?_
            refine Tr.region ?_
            refine RegL.pure (p := (pEq (.int .i64 v17))) rfl rfl rfl (J_move rfl (Opd.tmp rfl)) ?_
            refine RegL.pure (p := (pAgg (cGScaled (GScaled.mk v17 (0 : Int))))) rfl rfl rfl (J_build (qss := [(0, (cK .i64) v17), (1, (cK .i64) (0 : Int))]) rfl bl42 bz42 (Parts.cons (Part.one (Opd.tmp rfl) OneC.int) (Parts.cons (Part.one Opd.con OneC.int) Parts.nil)) rfl) ?_
            refine RegL.step (γ := Nat) (p := fun b => pEq (.pointer (some ⟨b, 0, none⟩))) (Ω' := fun b => [oBlk b [(pEq (.int .i64 (0 : Int))), (pEq (.int .i64 (0 : Int)))]]) rfl rfl rfl (M_alloc rfl zero42) fun b20 => ?_
            refine RegL.stepN (γ := Unit) (p := fun _ => pAny) (Ω' := fun _ => [oBlk b20 [(pEq (.int .i64 (GScaled.mk v17 (0 : Int)).number)), (pEq (.int .i64 (GScaled.mk v17 (0 : Int)).exponent))]]) rfl rfl (M_storeA rfl sz42 (Opd.tmp rfl) (Opd.tmp rfl) (fun _ _ _ h => ones_of ((OneCs.cons OneC.int (OneCs.cons OneC.int OneCs.nil))) h) rfl rfl) fun g21 => ?_
            refine RegL.freeze (s := 5) rfl ?_
            refine RegL.nil ?_
            refine Ct.then_tr ?_
            refine Tr.weak (Γ' := [(3, (pEq (.int .i64 v16))), (5, (pPtr (cGScaled (GScaled.mk v17 (0 : Int))))), (31, (pEq (.int .i64 v18))), (99999, (pTab 0 .u64 Lib.pow10Tab))]) ⟨rfl, rfl, rfl, rfl, trivial⟩ ?_
            refine Tr.seq ?_
            refine Tr.region ?_
            refine RegL.pure (p := (pAgg (cGScaled (GScaled.mk v17 (0 : Int))))) rfl rfl rfl (J_loadA rfl Tryd.isAgg42 sz42 (Opd.tmp rfl) rfl) ?_
            refine RegL.pure (p := (pAgg (cGScaled (GScaled.mk v17 (0 : Int))))) rfl rfl rfl (J_loadA rfl Tryd.isAgg42 sz42 (Opd.tmp rfl) rfl) ?_
            replace h := bind_some h; obtain ⟨x22, hx22, h⟩ := h
            refine RegL.pure (p := (pAgg (cGScaled x22))) rfl rfl rfl (J_call rfl Tryd.call53 (c_impl_scaled_times hx22) (Opds.cons (Opd.tmp rfl) (Opds.cons (Opd.tmp rfl) Opds.nil))) ?_
            refine RegL.step (γ := Nat) (p := fun b => pEq (.pointer (some ⟨b, 0, none⟩))) (Ω' := fun b => [oBlk b [(pEq (.int .i64 (0 : Int))), (pEq (.int .i64 (0 : Int)))]]) rfl rfl rfl (M_alloc rfl zero42) fun b23 => ?_
            refine RegL.stepN (γ := Unit) (p := fun _ => pAny) (Ω' := fun _ => [oBlk b23 [(pEq (.int .i64 x22.number)), (pEq (.int .i64 x22.exponent))]]) rfl rfl (M_storeA rfl sz42 (Opd.tmp rfl) (Opd.tmp rfl) (fun _ _ _ h => ones_of ((OneCs.cons OneC.int (OneCs.cons OneC.int OneCs.nil))) h) rfl rfl) fun g24 => ?_
            refine RegL.freeze (s := 6) rfl ?_
            refine RegL.nil ?_
            refine Ct.then_tr ?_
            refine Tr.weak (Γ' := [(3, (pEq (.int .i64 v16))), (5, (pPtr (cGScaled (GScaled.mk v17 (0 : Int))))), (6, (pPtr (cGScaled x22))), (31, (pEq (.int .i64 v18))), (99999, (pTab 0 .u64 Lib.pow10Tab))]) ⟨rfl, rfl, rfl, rfl, rfl, trivial⟩ ?_
            refine Tr.seq ?_
            replace h := bind_some h; obtain ⟨x25, hx25, h⟩ := h
            replace h := bind_some h; obtain ⟨x26, hx26, h⟩ := h
            refine Tr.drawD (n := 55) (m := 6) (es := [some (Ent.mk [(6, (pPtr (cGScaled x22)))] (pAgg (cGScaled x22)) true), some (Ent.mk [(6, (pPtr (cGScaled x22)))] (pAgg (cGScaled x22)) true), some (Ent.mk [(38, (pAgg (cGScaled x22))), (39, (pAgg (cGScaled x22)))] (pAgg (cGScaled x25)) true), some (Ent.mk [(5, (pPtr (cGScaled (GScaled.mk v17 (0 : Int)))))] (pAgg (cGScaled (GScaled.mk v17 (0 : Int)))) true), some (Ent.mk [(40, (pAgg (cGScaled x25))), (41, (pAgg (cGScaled (GScaled.mk v17 (0 : Int)))))] (pAgg (cGScaled x26)) true), none]) (rd := [[6], [6], [38, 39], [5], [40, 41], []]) rfl hmix (by kernel_rfl) fun hD => ?_
            refine RD.step hD (es := [some (Ent.mk [(6, (pPtr (cGScaled x22)))] (pAgg (cGScaled x22)) true), some (Ent.mk [(6, (pPtr (cGScaled x22)))] (pAgg (cGScaled x22)) true), some (Ent.mk [(38, (pAgg (cGScaled x22))), (39, (pAgg (cGScaled x22)))] (pAgg (cGScaled x25)) true), some (Ent.mk [(5, (pPtr (cGScaled (GScaled.mk v17 (0 : Int)))))] (pAgg (cGScaled (GScaled.mk v17 (0 : Int)))) true), some (Ent.mk [(40, (pAgg (cGScaled x25))), (41, (pAgg (cGScaled (GScaled.mk v17 (0 : Int)))))] (pAgg (cGScaled x26)) true), none]) (done := []) (mask := [true, true, true, true, true, false]) (γ := Nat) (p := fun b => pEq (.pointer (some ⟨b, 0, none⟩))) (Ω' := fun b => [oBlk b [(pEq (.int .i64 (0 : Int))), (pEq (.int .i64 (0 : Int)))]]) (es' := fun b27 => [some (Ent.mk [(6, (pPtr (cGScaled x22)))] (pAgg (cGScaled x22)) true), some (Ent.mk [(6, (pPtr (cGScaled x22)))] (pAgg (cGScaled x22)) true), some (Ent.mk [(38, (pAgg (cGScaled x22))), (39, (pAgg (cGScaled x22)))] (pAgg (cGScaled x25)) true), some (Ent.mk [(5, (pPtr (cGScaled (GScaled.mk v17 (0 : Int)))))] (pAgg (cGScaled (GScaled.mk v17 (0 : Int)))) true), some (Ent.mk [(40, (pAgg (cGScaled x25))), (41, (pAgg (cGScaled (GScaled.mk v17 (0 : Int)))))] (pAgg (cGScaled x26)) true), some (Ent.mk [] (pEq (.pointer (some ⟨b27, 0, none⟩))) true)]) (Γc := []) 5 rfl rfl rfl (by kernel_rfl) ⟨.inr ⟨(OpJ.w (J_loadA rfl Tryd.isAgg42 sz42 (Opd.tmp rfl) rfl)), ⟨rfl, trivial⟩, rfl, rfl⟩, ⟨.inr ⟨(OpJ.w (J_loadA rfl Tryd.isAgg42 sz42 (Opd.tmp rfl) rfl)), ⟨rfl, trivial⟩, rfl, rfl⟩, ⟨.inr ⟨(OpJ.w (J_call rfl Tryd.call53 (c_impl_scaled_times hx25) (Opds.cons (Opd.tmp rfl) (Opds.cons (Opd.tmp rfl) Opds.nil)))), ⟨rfl, rfl, trivial⟩, rfl, rfl⟩, ⟨.inr ⟨(OpJ.w (J_loadA rfl Tryd.isAgg42 sz42 (Opd.tmp rfl) rfl)), ⟨rfl, trivial⟩, rfl, rfl⟩, ⟨.inr ⟨(OpJ.w (J_call rfl Tryd.call53 (c_impl_scaled_times hx26) (Opds.cons (Opd.tmp rfl) (Opds.cons (Opd.tmp rfl) Opds.nil)))), ⟨rfl, rfl, trivial⟩, rfl, rfl⟩, trivial⟩⟩⟩⟩⟩ rfl rfl trivial (fun _ => M_alloc rfl zero42) (fun b27 => ⟨rfl, ⟨rfl, ⟨rfl, ⟨rfl, ⟨rfl, trivial⟩⟩⟩⟩⟩) (fun b27 => rfl) rfl fun b27 => ?_
            refine RD.fin (es := [Ent.mk [(6, (pPtr (cGScaled x22)))] (pAgg (cGScaled x22)) true, Ent.mk [(6, (pPtr (cGScaled x22)))] (pAgg (cGScaled x22)) true, Ent.mk [(38, (pAgg (cGScaled x22))), (39, (pAgg (cGScaled x22)))] (pAgg (cGScaled x25)) true, Ent.mk [(5, (pPtr (cGScaled (GScaled.mk v17 (0 : Int)))))] (pAgg (cGScaled (GScaled.mk v17 (0 : Int)))) true, Ent.mk [(40, (pAgg (cGScaled x25))), (41, (pAgg (cGScaled (GScaled.mk v17 (0 : Int)))))] (pAgg (cGScaled x26)) true, Ent.mk [] (pEq (.pointer (some ⟨b27, 0, none⟩))) true]) (done := [5]) hD ⟨.inr ⟨(OpJ.w (J_loadA rfl Tryd.isAgg42 sz42 (Opd.tmp rfl) rfl)), ⟨rfl, trivial⟩, rfl, rfl⟩, ⟨.inr ⟨(OpJ.w (J_loadA rfl Tryd.isAgg42 sz42 (Opd.tmp rfl) rfl)), ⟨rfl, trivial⟩, rfl, rfl⟩, ⟨.inr ⟨(OpJ.w (J_call rfl Tryd.call53 (c_impl_scaled_times hx25) (Opds.cons (Opd.tmp rfl) (Opds.cons (Opd.tmp rfl) Opds.nil)))), ⟨rfl, rfl, trivial⟩, rfl, rfl⟩, ⟨.inr ⟨(OpJ.w (J_loadA rfl Tryd.isAgg42 sz42 (Opd.tmp rfl) rfl)), ⟨rfl, trivial⟩, rfl, rfl⟩, ⟨.inr ⟨(OpJ.w (J_call rfl Tryd.call53 (c_impl_scaled_times hx26) (Opds.cons (Opd.tmp rfl) (Opds.cons (Opd.tmp rfl) Opds.nil)))), ⟨rfl, rfl, trivial⟩, rfl, rfl⟩, ⟨.inl rfl, trivial⟩⟩⟩⟩⟩⟩ ?_
            refine RegL.stepN (γ := Unit) (p := fun _ => pAny) (Ω' := fun _ => [oBlk b27 [(pEq (.int .i64 x26.number)), (pEq (.int .i64 x26.exponent))]]) rfl rfl (M_storeA rfl sz42 (Opd.tmp rfl) (Opd.tmp rfl) (fun _ _ _ h => ones_of ((OneCs.cons OneC.int (OneCs.cons OneC.int OneCs.nil))) h) rfl rfl) fun g28 => ?_
            refine RegL.nil ?_
            refine Ct.then_tr ?_
            refine Tr.weak (Γ' := [(3, (pEq (.int .i64 v16))), (7, (pEq (.pointer (some ⟨b27, 0, none⟩)))), (31, (pEq (.int .i64 v18))), (99999, (pTab 0 .u64 Lib.pow10Tab))]) ⟨rfl, rfl, rfl, rfl, trivial⟩ ?_
            refine Tr.seq ?_
            refine Tr.region ?_
            refine RegL.pureW (p := (pAgg (cGScaled x26))) rfl rfl rfl (W_loadA (i := 0) rfl Tryd.isAgg42 sz42 (Opd.tmp rfl) rfl rfl) ?_
            refine RegL.pureW (p := (pAgg (cGScaled x26))) rfl rfl rfl (W_loadA (i := 0) rfl Tryd.isAgg42 sz42 (Opd.tmp rfl) rfl rfl) ?_
            replace h := bind_some h; obtain ⟨x29, hx29, h⟩ := h
            refine RegL.pure (p := (pAgg (cGScaled x29))) rfl rfl rfl (J_call rfl Tryd.call53 (c_impl_scaled_times hx29) (Opds.cons (Opd.tmp rfl) (Opds.cons (Opd.tmp rfl) Opds.nil))) ?_
            refine RegL.stepN (γ := Unit) (p := fun _ => pAny) (Ω' := fun _ => [oBlk b27 [(pEq (.int .i64 x29.number)), (pEq (.int .i64 x29.exponent))]]) rfl rfl (M_storeA rfl sz42 (Opd.tmp rfl) (Opd.tmp rfl) (fun _ _ _ h => ones_of ((OneCs.cons OneC.int (OneCs.cons OneC.int OneCs.nil))) h) rfl rfl) fun g30 => ?_
            refine RegL.nil ?_
            refine Ct.then_tr ?_
            refine Tr.weak (Γ' := [(3, (pEq (.int .i64 v16))), (7, (pEq (.pointer (some ⟨b27, 0, none⟩)))), (31, (pEq (.int .i64 v18))), (99999, (pTab 0 .u64 Lib.pow10Tab))]) ⟨rfl, rfl, rfl, rfl, trivial⟩ ?_
            refine Tr.drawD (n := 55) (m := 8) (es := [some (Ent.mk [(7, (pEq (.pointer (some ⟨b27, 0, none⟩))))] (pEq (.pointer (some ⟨b27, 0, none⟩))) true), some (Ent.mk [(46, (pEq (.pointer (some ⟨b27, 0, none⟩))))] (pEq (.int .i64 x29.number)) true), some (Ent.mk [(3, (pEq (.int .i64 v16)))] (pEq (.int .i64 v16)) true), some (Ent.mk [(48, (pEq (.int .i64 v16)))] (pEq (.int .i64 (w64 ((10 : Int) * v16)))) true), some (Ent.mk [(7, (pEq (.pointer (some ⟨b27, 0, none⟩))))] (pEq (.pointer (some ⟨b27, 1, none⟩))) true), some (Ent.mk [(50, (pEq (.pointer (some ⟨b27, 1, none⟩))))] (pEq (.int .i64 x29.exponent)) true), some (Ent.mk [(49, (pEq (.int .i64 (w64 ((10 : Int) * v16))))), (51, (pEq (.int .i64 x29.exponent)))] (pEq (.int .i64 (w64 ((w64 ((10 : Int) * v16)) + x29.exponent)))) true), some (Ent.mk [(47, (pEq (.int .i64 x29.number)))] (pEq (.int .i64 x29.number)) true)]) (rd := [[7], [46], [3], [48], [7], [50], [49, 51], [47]]) rfl hmix (by kernel_rfl) fun hD => ?_
            refine RD.fin (es := [Ent.mk [(7, (pEq (.pointer (some ⟨b27, 0, none⟩))))] (pEq (.pointer (some ⟨b27, 0, none⟩))) true, Ent.mk [(46, (pEq (.pointer (some ⟨b27, 0, none⟩))))] (pEq (.int .i64 x29.number)) true, Ent.mk [(3, (pEq (.int .i64 v16)))] (pEq (.int .i64 v16)) true, Ent.mk [(48, (pEq (.int .i64 v16)))] (pEq (.int .i64 (w64 ((10 : Int) * v16)))) true, Ent.mk [(7, (pEq (.pointer (some ⟨b27, 0, none⟩))))] (pEq (.pointer (some ⟨b27, 1, none⟩))) true, Ent.mk [(50, (pEq (.pointer (some ⟨b27, 1, none⟩))))] (pEq (.int .i64 x29.exponent)) true, Ent.mk [(49, (pEq (.int .i64 (w64 ((10 : Int) * v16))))), (51, (pEq (.int .i64 x29.exponent)))] (pEq (.int .i64 (w64 ((w64 ((10 : Int) * v16)) + x29.exponent)))) true, Ent.mk [(47, (pEq (.int .i64 x29.number)))] (pEq (.int .i64 x29.number)) true]) (done := []) hD ⟨.inr ⟨(OpJ.w (J_fieldAddrE rfl Tryd.underlying42 rfl sz2 (by decide) (Opd.tmp rfl) rfl)), ⟨rfl, trivial⟩, rfl, rfl⟩, ⟨.inr ⟨(W_load (i := 0) rfl Tryd.isAgg2 (Opd.tmp rfl) rfl rfl), ⟨rfl, trivial⟩, rfl, rfl⟩, ⟨.inr ⟨(OpJ.w (J_move rfl (Opd.tmp rfl))), ⟨rfl, trivial⟩, rfl, rfl⟩, ⟨.inr ⟨(OpJ.w (J_bin rfl Opd.con (Opd.tmp rfl) B_mul)), ⟨rfl, trivial⟩, rfl, rfl⟩, ⟨.inr ⟨(OpJ.w (J_fieldAddrE rfl Tryd.underlying42 rfl sz2 (by decide) (Opd.tmp rfl) rfl)), ⟨rfl, trivial⟩, rfl, rfl⟩, ⟨.inr ⟨(W_load (i := 0) rfl Tryd.isAgg2 (Opd.tmp rfl) rfl rfl), ⟨rfl, trivial⟩, rfl, rfl⟩, ⟨.inr ⟨(OpJ.w (J_bin rfl (Opd.tmp rfl) (Opd.tmp rfl) B_add)), ⟨rfl, rfl, trivial⟩, rfl, rfl⟩, ⟨.inr ⟨(OpJ.w (J_assign rfl (Opd.tmp rfl))), ⟨rfl, trivial⟩, rfl, rfl⟩, trivial⟩⟩⟩⟩⟩⟩⟩⟩ ?_
            refine RegL.pure (p := (pEq (.int .i64 (w64 ((w64 ((10 : Int) * v16)) + x29.exponent))))) rfl rfl rfl (J_assign rfl (Opd.tmp rfl)) ?_
            refine RegL.nil ?_
            refine Ct.blk_normal ?_
            refine Ct.then_tr ?_
            refine Tr.weak (Γ' := [(3, (pEq (.int .i64 (w64 ((w64 ((10 : Int) * v16)) + x29.exponent))))), (4, (pEq (.int .i64 x29.number))), (31, (pEq (.int .i64 v18))), (99999, (pTab 0 .u64 Lib.pow10Tab))]) ⟨rfl, rfl, rfl, rfl, trivial⟩ ?_
            refine Tr.region ?_
            refine RegL.pure (p := (pEq (.int .i64 (w64 (v18 + (1 : Int)))))) rfl rfl rfl (J_bin rfl (Opd.tmp rfl) Opd.con B_add) ?_
            refine RegL.pure (p := (pEq (.int .i64 (w64 (v18 + (1 : Int)))))) rfl rfl rfl (J_move rfl (Opd.tmp rfl)) ?_
            refine RegL.nil ?_
            refine Ct.re (Ω2 := []) (fun h => SatO.rest h) ?_
            replace h := Option.some.inj h; subst h
            exact Ct.again () rfl ⟨rfl, rfl, rfl, rfl, trivial⟩
          · replace h := bif_f hc h
            refine Tr.exit ?_
            refine Ct.then_exit ?_
            replace h := map_some h; obtain ⟨r1, h, rfl⟩ := h
            refine Ct.out_exit fun e => ?_
            subst e
            refine Ct.blk_exit ?_
            replace h := Option.some.inj h; subst h
            exact Ct.mid () rfl ⟨rfl, rfl, trivial⟩
        · clear hx14
          refine Ct.then_tr ?_
          refine Tr.weak (Γ' := [(3, (pEq (.int .i64 x14))), (99999, (pTab 0 .u64 Lib.pow10Tab))]) ⟨rfl, rfl, trivial⟩ ?_
          refine Tr.seq ?_
          refine Tr.region ?_
          refine RegL.pure (p := (pEq (.int .i64 x14))) rfl rfl rfl (J_move rfl (Opd.tmp rfl)) ?_
          refine RegL.pure (p := (pEq (.int .i64 x14))) rfl rfl rfl (J_assign rfl (Opd.tmp rfl)) ?_
          refine RegL.nil ?_
          refine Ct.then_tr ?_
          refine Tr.weak (Γ' := [(2, (pEq (.int .i64 x14))), (99999, (pTab 0 .u64 Lib.pow10Tab))]) ⟨rfl, rfl, trivial⟩ ?_
          refine Tr.ret ?_
          replace h := Option.some.inj h; subst h
          exact Ct.retH1 (Ωx := []) () rfl (RvOk.tmp rfl) rfl

theorem c_impl_PowDb {v_0 : Int} {r : Int} (h : m_impl_PowDb v_0 = some r) : CallJ Tryd.prog 40 [(pG (pTab 0 .u64 Lib.pow10Tab) (pEq (.int .i64 v_0)))] (pEq (.int .i64 r)) := by
  unfold m_impl_PowDb at h
  refine CallJ.enterH Tryd.func40 rfl Tryd.ntmps40 rfl fun W I0 H => ?_
  refine Tr.tab (s := 0) (k := 99999) rfl ?_; refine Tr.weak (Γ' := [(0, (pEq (.int .i64 v_0))), (99999, (pTab 0 .u64 Lib.pow10Tab))]) ⟨rfl, rfl, trivial⟩ ?_
  refine Tr.seq ?_
  refine Tr.region ?_
  refine RegL.pure (p := (pEq (.int .i64 (0 : Int)))) rfl rfl rfl (J_assign rfl Opd.con) ?_
  refine RegL.nil ?_
  refine Ct.then_tr ?_
  refine Tr.weak (Γ' := [(0, (pEq (.int .i64 v_0))), (99999, (pTab 0 .u64 Lib.pow10Tab))]) ⟨rfl, rfl, trivial⟩ ?_
  refine Tr.seq ?_
  refine Tr.seq ?_
  refine Tr.region ?_
  refine RegL.pure (p := (pEq (.int .i64 v_0))) rfl rfl rfl (J_move rfl (Opd.tmp rfl)) ?_
  replace h := bind_some h; obtain ⟨x1, hx1, h⟩ := h
  refine RegL.pure (p := (pEq (.bool x1))) rfl rfl rfl (J_call rfl Tryd.call24 (c_impl_within hx1) (Opds.cons (Opd.tmp rfl) (Opds.cons Opd.con (Opds.cons Opd.con Opds.nil)))) ?_
  refine RegL.pure (p := (pEq (.bool (!x1)))) rfl rfl rfl (J_not rfl (Opd.tmp rfl)) ?_
  refine RegL.nil ?_
  refine Ct.then_tr ?_
  refine Tr.weak (Γ' := [(0, (pEq (.int .i64 v_0))), (8, (pEq (.bool (!x1)))), (99999, (pTab 0 .u64 Lib.pow10Tab))]) ⟨rfl, rfl, rfl, trivial⟩ ?_
  refine Tr.cond (Opd.tmp rfl) (fun hc => ?_) (fun hc => ?_)
  · replace h := bif_t hc h
    refine Tr.seq ?_
    refine Tr.region ?_
    refine RegL.pure (p := (pEq (.int .i64 (0 : Int)))) rfl rfl rfl (J_assign rfl Opd.con) ?_
    refine RegL.nil ?_
    refine Ct.then_tr ?_
    refine Tr.weak (Γ' := [(2, (pEq (.int .i64 (0 : Int)))), (99999, (pTab 0 .u64 Lib.pow10Tab))]) ⟨rfl, rfl, trivial⟩ ?_
    refine Tr.ret ?_
    refine Ct.then_ret ?_
    replace h := Option.some.inj h; subst h
    exact Ct.retH1 (Ωx := []) () rfl (RvOk.tmp rfl) rfl
  · replace h := bif_f hc h
    refine Tr.skip ?_
    refine Ct.then_tr ?_
    refine Tr.weak (Γ' := [(0, (pEq (.int .i64 v_0))), (99999, (pTab 0 .u64 Lib.pow10Tab))]) ⟨rfl, rfl, trivial⟩ ?_
    refine Tr.seq ?_
    refine Tr.region ?_
    refine RegL.pure (p := (pEq (.int .i64 (1 : Int)))) rfl rfl rfl (J_assign rfl Opd.con) ?_
    refine RegL.pure (p := (pEq (.int .i64 (1000000000000000000 : Int)))) rfl rfl rfl (J_assign rfl Opd.con) ?_
    refine RegL.nil ?_
    refine Ct.then_tr ?_
    refine Tr.weak (Γ' := [(0, (pEq (.int .i64 v_0))), (3, (pEq (.int .i64 (1 : Int)))), (4, (pEq (.int .i64 (1000000000000000000 : Int)))), (99999, (pTab 0 .u64 Lib.pow10Tab))]) ⟨rfl, rfl, rfl, rfl, trivial⟩ ?_
    refine Tr.seq ?_
    replace h := bind_some h; obtain ⟨x2, hx2, h⟩ := h
    refine Tr.cut (γ := Unit) (Γm := fun g => [(3, (pEq (.int .i64 x2))), (99999, (pTab 0 .u64 Lib.pow10Tab))]) (Ωm := fun g => []) ?_ (fun g10 => ?_)
    · clear h
      have h := hx2
      clear hx2
      refine Tr.block ?_
      refine Tr.weak (Γ' := [(0, (pEq (.int .i64 v_0))), (3, (pEq (.int .i64 (1 : Int)))), (4, (pEq (.int .i64 (1000000000000000000 : Int)))), (99999, (pTab 0 .u64 Lib.pow10Tab))]) ⟨rfl, rfl, rfl, rfl, trivial⟩ ?_
      refine Tr.loop (γ := Unit) (σ := (Int × Int)) (Γσ := fun s g => [(0, (pEq (.int .i64 v_0))), (3, (pEq (.int .i64 s.1))), (4, (pEq (.int .i64 s.2))), (99999, (pTab 0 .u64 Lib.pow10Tab))]) (Ωσ := fun s g => []) (g := ()) h ?_
      clear h
      rintro ⟨v4, v5⟩ g6 t h
      replace h : m_impl_PowDb_B3 v_0 v4 v5 = some t := h
      unfold m_impl_PowDb_B3 at h
      refine Tr.weakO (Γ' := [(0, (pEq (.int .i64 v_0))), (3, (pEq (.int .i64 v4))), (4, (pEq (.int .i64 v5))), (99999, (pTab 0 .u64 Lib.pow10Tab))]) (Ω' := []) rfl ⟨rfl, rfl, rfl, rfl, trivial⟩ ?_
      refine Tr.seq ?_
      refine Tr.seq ?_
      refine Tr.region ?_
      refine RegL.pure (p := (pEq (.int .i64 v4))) rfl rfl rfl (J_move rfl (Opd.tmp rfl)) ?_
      refine RegL.pure (p := (pEq (.int .i64 v5))) rfl rfl rfl (J_move rfl (Opd.tmp rfl)) ?_
      refine RegL.pure (p := (pEq (.bool (decide (v4 < v5))))) rfl rfl rfl (J_bin rfl (Opd.tmp rfl) (Opd.tmp rfl) B_lss) ?_
      refine RegL.nil ?_
      refine Ct.then_tr ?_
      refine Tr.weak (Γ' := [(0, (pEq (.int .i64 v_0))), (3, (pEq (.int .i64 v4))), (4, (pEq (.int .i64 v5))), (11, (pEq (.bool (decide (v4 < v5))))), (99999, (pTab 0 .u64 Lib.pow10Tab))]) ⟨rfl, rfl, rfl, rfl, rfl, trivial⟩ ?_
      refine Tr.cond (Opd.tmp rfl) (fun hc => ?_) (fun hc => ?_)
      · replace h := bif_t hc h
        refine Tr.skip ?_
        refine Ct.then_tr ?_
        refine Tr.weak (Γ' := [(0, (pEq (.int .i64 v_0))), (3, (pEq (.int .i64 v4))), (4, (pEq (.int .i64 v5))), (99999, (pTab 0 .u64 Lib.pow10Tab))]) ⟨rfl, rfl, rfl, rfl, trivial⟩ ?_
        refine Tr.block ?_
        refine Tr.seq ?_
        refine Tr.region ?_
        refine RegL.pure (p := (pEq (.int .i64 v4))) rfl rfl rfl (J_move rfl (Opd.tmp rfl)) ?_
        refine RegL.pure (p := (pEq (.int .i64 v5))) rfl rfl rfl (J_move rfl (Opd.tmp rfl)) ?_
        refine RegL.pure (p := (pEq (.int .i64 v4))) rfl rfl rfl (J_move rfl (Opd.tmp rfl)) ?_
        refine RegL.pure (p := (pEq (.int .i64 (w64 (v5 - v4))))) rfl rfl rfl (J_bin rfl (Opd.tmp rfl) (Opd.tmp rfl) B_sub) ?_
        refine RegL.pure (p := (pEq (.int .i64 (w64 ((w64 (v5 - v4)).tdiv (2 : Int)))))) rfl rfl rfl (J_bin rfl (Opd.tmp rfl) Opd.con (B_quo (n := (2 : Int)) (by decide))) ?_
        refine RegL.pure (p := (pEq (.int .i64 (w64 (v4 + (w64 ((w64 (v5 - v4)).tdiv (2 : Int)))))))) rfl rfl rfl (J_bin rfl (Opd.tmp rfl) (Opd.tmp rfl) B_add) ?_
        refine RegL.pure (p := (pEq (.int .i64 (w64 (v4 + (w64 ((w64 (v5 - v4)).tdiv (2 : Int)))))))) rfl rfl rfl (J_assign rfl (Opd.tmp rfl)) ?_
        refine RegL.nil ?_
        refine Ct.then_tr ?_
        refine Tr.weak (Γ' := [(0, (pEq (.int .i64 v_0))), (3, (pEq (.int .i64 v4))), (4, (pEq (.int .i64 v5))), (5, (pEq (.int .i64 (w64 (v4 + (w64 ((w64 (v5 - v4)).tdiv (2 : Int)))))))), (99999, (pTab 0 .u64 Lib.pow10Tab))]) ⟨rfl, rfl, rfl, rfl, rfl, trivial⟩ ?_
        refine Tr.seq ?_
        refine Tr.region ?_
        refine RegL.pure (p := (pEq (.int .i64 (w64 (v4 + (w64 ((w64 (v5 - v4)).tdiv (2 : Int)))))))) rfl rfl rfl (J_move rfl (Opd.tmp rfl)) ?_
        replace h := bind_some h; obtain ⟨x7, hx7, h⟩ := h
        refine RegL.pure (p := (pEq (.int .i64 x7))) rfl rfl rfl (J_call rfl Tryd.call39 (c_impl_LogDb hx7) (Opds.cons (Opd.tab (Opd.tmp rfl) 99999 rfl) Opds.nil)) ?_
        refine RegL.pure (p := (pEq (.int .i64 v_0))) rfl rfl rfl (J_move rfl (Opd.tmp rfl)) ?_
        refine RegL.pure (p := (pEq (.bool (decide (v_0 ≤ x7))))) rfl rfl rfl (J_bin rfl (Opd.tmp rfl) (Opd.tmp rfl) B_geq) ?_
        refine RegL.nil ?_
        refine Ct.then_tr ?_
        refine Tr.weak (Γ' := [(0, (pEq (.int .i64 v_0))), (3, (pEq (.int .i64 v4))), (4, (pEq (.int .i64 v5))), (5, (pEq (.int .i64 (w64 (v4 + (w64 ((w64 (v5 - v4)).tdiv (2 : Int)))))))), (21, (pEq (.bool (decide (v_0 ≤ x7))))), (99999, (pTab 0 .u64 Lib.pow10Tab))]) ⟨rfl, rfl, rfl, rfl, rfl, rfl, trivial⟩ ?_
        replace h := bind_some h; obtain ⟨x8, hx8, h⟩ := h
        refine Tr.cut (γ := Unit) (Γm := fun g => [(0, (pEq (.int .i64 v_0))), (3, (pEq (.int .i64 x8.1))), (4, (pEq (.int .i64 x8.2))), (99999, (pTab 0 .u64 Lib.pow10Tab))]) (Ωm := fun g => []) ?_ (fun g9 => ?_)
        · clear h
          have h := hx8
          clear hx8
          refine Tr.cond (Opd.tmp rfl) (fun hc => ?_) (fun hc => ?_)
          · replace h := bif_t hc h
            refine Tr.region ?_
            refine RegL.pure (p := (pEq (.int .i64 (w64 (v4 + (w64 ((w64 (v5 - v4)).tdiv (2 : Int)))))))) rfl rfl rfl (J_move rfl (Opd.tmp rfl)) ?_
            refine RegL.pure (p := (pEq (.int .i64 (w64 (v4 + (w64 ((w64 (v5 - v4)).tdiv (2 : Int)))))))) rfl rfl rfl (J_assign rfl (Opd.tmp rfl)) ?_
            refine RegL.nil ?_
            replace h := Option.some.inj h; subst h
            exact Ct.mid () rfl ⟨rfl, rfl, rfl, rfl, trivial⟩
          · replace h := bif_f hc h
            refine Tr.region ?_
            refine RegL.pure (p := (pEq (.int .i64 (w64 (v4 + (w64 ((w64 (v5 - v4)).tdiv (2 : Int)))))))) rfl rfl rfl (J_move rfl (Opd.tmp rfl)) ?_
            refine RegL.pure (p := (pEq (.int .i64 (w64 ((w64 (v4 + (w64 ((w64 (v5 - v4)).tdiv (2 : Int))))) + (1 : Int)))))) rfl rfl rfl (J_bin rfl (Opd.tmp rfl) Opd.con B_add) ?_
            refine RegL.pure (p := (pEq (.int .i64 (w64 ((w64 (v4 + (w64 ((w64 (v5 - v4)).tdiv (2 : Int))))) + (1 : Int)))))) rfl rfl rfl (J_assign rfl (Opd.tmp rfl)) ?_
            refine RegL.nil ?_
            replace h := Option.some.inj h; subst h
            exact Ct.mid () rfl ⟨rfl, rfl, rfl, rfl, trivial⟩
        · clear hx8
          refine Ct.blk_normal ?_
          replace h := Option.some.inj h; subst h
          exact Ct.again () rfl ⟨rfl, rfl, rfl, rfl, trivial⟩
      · replace h := bif_f hc h
        refine Tr.exit ?_
        refine Ct.then_exit ?_
        replace h := map_some h; obtain ⟨r1, h, rfl⟩ := h
        refine Ct.out_exit fun e => ?_
        subst e
        refine Ct.blk_exit ?_
        replace h := Option.some.inj h; subst h
        exact Ct.mid () rfl ⟨rfl, rfl, trivial⟩
    · clear hx2
      refine Ct.then_tr ?_
      refine Tr.weak (Γ' := [(3, (pEq (.int .i64 x2))), (99999, (pTab 0 .u64 Lib.pow10Tab))]) ⟨rfl, rfl, trivial⟩ ?_
      refine Tr.seq ?_
      refine Tr.region ?_
      refine RegL.pure (p := (pEq (.int .i64 x2))) rfl rfl rfl (J_move rfl (Opd.tmp rfl)) ?_
      refine RegL.pure (p := (pEq (.int .i64 x2))) rfl rfl rfl (J_assign rfl (Opd.tmp rfl)) ?_
      refine RegL.nil ?_
      refine Ct.then_tr ?_
      refine Tr.weak (Γ' := [(2, (pEq (.int .i64 x2))), (99999, (pTab 0 .u64 Lib.pow10Tab))]) ⟨rfl, rfl, trivial⟩ ?_
      refine Tr.ret ?_
      replace h := Option.some.inj h; subst h
      exact Ct.retH1 (Ωx := []) () rfl (RvOk.tmp rfl) rfl

theorem c_impl_outageOf {f_0 : Int} {d_1 : Int} {climate_2 : Int} {margin_3 : Int} {r : Int} (h : m_impl_outageOf f_0 d_1 climate_2 margin_3 = some r) : CallJ Tryd.prog 22 [(pG (pTab 0 .u64 Lib.pow10Tab) (pEq (.int .i64 f_0))), (pEq (.int .i64 d_1)), (pEq (.int .i64 climate_2)), (pEq (.int .i64 margin_3))] (pEq (.int .i64 r)) := by
  unfold m_impl_outageOf at h
  refine CallJ.enterH Tryd.func22 rfl Tryd.ntmps22 rfl fun W I0 H => ?_
  refine Tr.tab (s := 0) (k := 99999) rfl ?_; refine Tr.weak (Γ' := [(0, (pEq (.int .i64 f_0))), (1, (pEq (.int .i64 d_1))), (2, (pEq (.int .i64 climate_2))), (3, (pEq (.int .i64 margin_3))), (99999, (pTab 0 .u64 Lib.pow10Tab))]) ⟨rfl, rfl, rfl, rfl, rfl, trivial⟩ ?_
  refine Tr.seq ?_
  refine Tr.region ?_
  refine RegL.pure (p := (pEq (.int .i64 (0 : Int)))) rfl rfl rfl (J_assign rfl Opd.con) ?_
  refine RegL.nil ?_
  refine Ct.then_tr ?_
  refine Tr.weak (Γ' := [(0, (pEq (.int .i64 f_0))), (1, (pEq (.int .i64 d_1))), (2, (pEq (.int .i64 climate_2))), (3, (pEq (.int .i64 margin_3))), (99999, (pTab 0 .u64 Lib.pow10Tab))]) ⟨rfl, rfl, rfl, rfl, rfl, trivial⟩ ?_
  refine Tr.seq ?_
  refine Tr.region ?_
  refine RegL.pure (p := (pEq (.int .i64 climate_2))) rfl rfl rfl (J_move rfl (Opd.tmp rfl)) ?_
  replace h := bind_some h; obtain ⟨x1, hx1, h⟩ := h
  refine RegL.pure (p := (pEq (.int .i64 x1))) rfl rfl rfl (J_call rfl Tryd.call39 (c_impl_LogDb hx1) (Opds.cons (Opd.tab (Opd.tmp rfl) 99999 rfl) Opds.nil)) ?_
  refine RegL.pure (p := (pEq (.int .i64 f_0))) rfl rfl rfl (J_move rfl (Opd.tmp rfl)) ?_
  refine RegL.pure (p := (pEq (.int .i64 (w64 (f_0.tdiv (1000 : Int)))))) rfl rfl rfl (J_bin rfl (Opd.tmp rfl) Opd.con (B_quo (n := (1000 : Int)) (by decide))) ?_
  refine RegL.pure (p := (pEq (.int .i64 (if (1 : Int) > (w64 (f_0.tdiv (1000 : Int))) then (1 : Int) else (w64 (f_0.tdiv (1000 : Int))))))) rfl rfl rfl (J_max2 rfl (Opd.tmp rfl) Opd.con) ?_
  replace h := bind_some h; obtain ⟨x2, hx2, h⟩ := h
  refine RegL.pure (p := (pEq (.int .i64 x2))) rfl rfl rfl (J_call rfl Tryd.call39 (c_impl_LogDb hx2) (Opds.cons (Opd.tab (Opd.tmp rfl) 99999 rfl) Opds.nil)) ?_
  refine RegL.pure (p := (pEq (.int .i64 (w64 (x1 + x2))))) rfl rfl rfl (J_bin rfl (Opd.tmp rfl) (Opd.tmp rfl) B_add) ?_
  refine RegL.pure (p := (pEq (.int .i64 d_1))) rfl rfl rfl (J_move rfl (Opd.tmp rfl)) ?_
  replace h := bind_some h; obtain ⟨x3, hx3, h⟩ := h
  refine RegL.pure (p := (pEq (.int .i64 x3))) rfl rfl rfl (J_call rfl Tryd.call39 (c_impl_LogDb hx3) (Opds.cons (Opd.tab (Opd.tmp rfl) 99999 rfl) Opds.nil)) ?_
  refine RegL.pure (p := (pEq (.int .i64 (w64 ((3 : Int) * x3))))) rfl rfl rfl (J_bin rfl Opd.con (Opd.tmp rfl) B_mul) ?_
  refine RegL.pure (p := (pEq (.int .i64 (w64 ((w64 (x1 + x2)) + (w64 ((3 : Int) * x3))))))) rfl rfl rfl (J_bin rfl (Opd.tmp rfl) (Opd.tmp rfl) B_add) ?_
  refine RegL.pure (p := (pEq (.int .i64 (w64 ((w64 ((w64 (x1 + x2)) + (w64 ((3 : Int) * x3)))) - (142218 : Int)))))) rfl rfl rfl (J_bin rfl (Opd.tmp rfl) Opd.con B_sub) ?_
  refine RegL.pure (p := (pEq (.int .i64 margin_3))) rfl rfl rfl (J_move rfl (Opd.tmp rfl)) ?_
  refine RegL.pure (p := (pEq (.int .i64 (w64 ((w64 ((w64 ((w64 (x1 + x2)) + (w64 ((3 : Int) * x3)))) - (142218 : Int))) - margin_3))))) rfl rfl rfl (J_bin rfl (Opd.tmp rfl) (Opd.tmp rfl) B_sub) ?_
  refine RegL.pure (p := (pEq (.int .i64 (w64 ((w64 ((w64 ((w64 (x1 + x2)) + (w64 ((3 : Int) * x3)))) - (142218 : Int))) - margin_3))))) rfl rfl rfl (J_assign rfl (Opd.tmp rfl)) ?_
  refine RegL.nil ?_
  refine Ct.then_tr ?_
  refine Tr.weak (Γ' := [(9, (pEq (.int .i64 (w64 ((w64 ((w64 ((w64 (x1 + x2)) + (w64 ((3 : Int) * x3)))) - (142218 : Int))) - margin_3))))), (99999, (pTab 0 .u64 Lib.pow10Tab))]) ⟨rfl, rfl, trivial⟩ ?_
  refine Tr.seq ?_
  refine Tr.seq ?_
  refine Tr.region ?_
  refine RegL.pure (p := (pEq (.int .i64 (w64 ((w64 ((w64 ((w64 (x1 + x2)) + (w64 ((3 : Int) * x3)))) - (142218 : Int))) - margin_3))))) rfl rfl rfl (J_move rfl (Opd.tmp rfl)) ?_
  refine RegL.pure (p := (pEq (.bool (decide ((w64 ((w64 ((w64 ((w64 (x1 + x2)) + (w64 ((3 : Int) * x3)))) - (142218 : Int))) - margin_3)) < (0 : Int)))))) rfl rfl rfl (J_bin rfl (Opd.tmp rfl) Opd.con B_lss) ?_
  refine RegL.nil ?_
  refine Ct.then_tr ?_
  refine Tr.weak (Γ' := [(9, (pEq (.int .i64 (w64 ((w64 ((w64 ((w64 (x1 + x2)) + (w64 ((3 : Int) * x3)))) - (142218 : Int))) - margin_3))))), (25, (pEq (.bool (decide ((w64 ((w64 ((w64 ((w64 (x1 + x2)) + (w64 ((3 : Int) * x3)))) - (142218 : Int))) - margin_3)) < (0 : Int)))))), (99999, (pTab 0 .u64 Lib.pow10Tab))]) ⟨rfl, rfl, rfl, trivial⟩ ?_
  refine Tr.cond (Opd.tmp rfl) (fun hc => ?_) (fun hc => ?_)
  · replace h := bif_t hc h
    refine Tr.seq ?_
    refine Tr.region ?_
    refine RegL.pure (p := (pEq (.int .i64 (0 : Int)))) rfl rfl rfl (J_assign rfl Opd.con) ?_
    refine RegL.nil ?_
    refine Ct.then_tr ?_
    refine Tr.weak (Γ' := [(8, (pEq (.int .i64 (0 : Int)))), (99999, (pTab 0 .u64 Lib.pow10Tab))]) ⟨rfl, rfl, trivial⟩ ?_
    refine Tr.ret ?_
    refine Ct.then_ret ?_
    replace h := Option.some.inj h; subst h
    exact Ct.retH1 (Ωx := []) () rfl (RvOk.tmp rfl) rfl
  · replace h := bif_f hc h
    refine Tr.skip ?_
    refine Ct.then_tr ?_
    refine Tr.weak (Γ' := [(9, (pEq (.int .i64 (w64 ((w64 ((w64 ((w64 (x1 + x2)) + (w64 ((3 : Int) * x3)))) - (142218 : Int))) - margin_3))))), (99999, (pTab 0 .u64 Lib.pow10Tab))]) ⟨rfl, rfl, trivial⟩ ?_
    refine Tr.seq ?_
    refine Tr.region ?_
    refine RegL.pure (p := (pEq (.int .i64 (w64 ((w64 ((w64 ((w64 (x1 + x2)) + (w64 ((3 : Int) * x3)))) - (142218 : Int))) - margin_3))))) rfl rfl rfl (J_move rfl (Opd.tmp rfl)) ?_
    replace h := bind_some h; obtain ⟨x4, hx4, h⟩ := h
    refine RegL.pure (p := (pEq (.int .i64 x4))) rfl rfl rfl (J_call rfl Tryd.call40 (c_impl_PowDb hx4) (Opds.cons (Opd.tab (Opd.tmp rfl) 99999 rfl) Opds.nil)) ?_
    refine RegL.pure (p := (pEq (.int .i64 (if (1000000 : Int) < x4 then (1000000 : Int) else x4)))) rfl rfl rfl (J_min2 rfl (Opd.tmp rfl) Opd.con) ?_
    refine RegL.pure (p := (pEq (.int .i64 (if (1000000 : Int) < x4 then (1000000 : Int) else x4)))) rfl rfl rfl (J_assign rfl (Opd.tmp rfl)) ?_
    refine RegL.nil ?_
    refine Ct.then_tr ?_
    refine Tr.weak (Γ' := [(8, (pEq (.int .i64 (if (1000000 : Int) < x4 then (1000000 : Int) else x4)))), (99999, (pTab 0 .u64 Lib.pow10Tab))]) ⟨rfl, rfl, trivial⟩ ?_
    refine Tr.ret ?_
    replace h := Option.some.inj h; subst h
    exact Ct.retH1 (Ωx := []) () rfl (RvOk.tmp rfl) rfl

theorem c_impl_abs {n_0 : Int} {r : Int} (h : m_impl_abs n_0 = some r) : CallJ Tryd.prog 63 [(pEq (.int .i64 n_0))] (pEq (.int .i64 r)) := by
  unfold m_impl_abs at h
  refine CallJ.enterH Tryd.func63 rfl Tryd.ntmps63 rfl fun W I0 H => ?_
  refine Tr.weak (Γ' := [(0, (pEq (.int .i64 n_0)))]) ⟨rfl, trivial⟩ ?_
  refine Tr.seq ?_
  refine Tr.region ?_
  refine RegL.pure (p := (pEq (.int .i64 (0 : Int)))) rfl rfl rfl (J_assign rfl Opd.con) ?_
  refine RegL.nil ?_
  refine Ct.then_tr ?_
  refine Tr.weak (Γ' := [(0, (pEq (.int .i64 n_0)))]) ⟨rfl, trivial⟩ ?_
  refine Tr.seq ?_
  refine Tr.region ?_
  refine RegL.pure (p := (pEq (.int .i64 n_0))) rfl rfl rfl (J_move rfl (Opd.tmp rfl)) ?_
  refine RegL.pure (p := (pEq (.int .i64 n_0))) rfl rfl rfl (J_move rfl (Opd.tmp rfl)) ?_
  refine RegL.pure (p := (pEq (.int .i64 (w64 (0 - n_0))))) rfl rfl rfl (J_neg rfl (Opd.tmp rfl)) ?_
  refine RegL.pure (p := (pEq (.int .i64 (if (w64 (0 - n_0)) > n_0 then (w64 (0 - n_0)) else n_0)))) rfl rfl rfl (J_max2 rfl (Opd.tmp rfl) (Opd.tmp rfl)) ?_
  refine RegL.pure (p := (pEq (.int .i64 (if (w64 (0 - n_0)) > n_0 then (w64 (0 - n_0)) else n_0)))) rfl rfl rfl (J_assign rfl (Opd.tmp rfl)) ?_
  refine RegL.nil ?_
  refine Ct.then_tr ?_
  refine Tr.weak (Γ' := [(2, (pEq (.int .i64 (if (w64 (0 - n_0)) > n_0 then (w64 (0 - n_0)) else n_0))))]) ⟨rfl, trivial⟩ ?_
  refine Tr.ret ?_
  replace h := Option.some.inj h; subst h
  exact Ct.retH1 (Ωx := []) () rfl (RvOk.tmp rfl) rfl

theorem c_impl_divRound {a_0 : Int} {b_1 : Int} {r : Int} (h : m_impl_divRound a_0 b_1 = some r) : CallJ Tryd.prog 57 [(pEq (.int .i64 a_0)), (pEq (.int .i64 b_1))] (pEq (.int .i64 r)) := by
  unfold m_impl_divRound at h
  refine CallJ.enterH Tryd.func57 rfl Tryd.ntmps57 rfl fun W I0 H => ?_
  refine Tr.weak (Γ' := [(0, (pEq (.int .i64 a_0))), (1, (pEq (.int .i64 b_1)))]) ⟨rfl, rfl, trivial⟩ ?_
  refine Tr.seq ?_
  refine Tr.region ?_
  refine RegL.pure (p := (pEq (.int .i64 (0 : Int)))) rfl rfl rfl (J_assign rfl Opd.con) ?_
  refine RegL.nil ?_
  refine Ct.then_tr ?_
  refine Tr.weak (Γ' := [(0, (pEq (.int .i64 a_0))), (1, (pEq (.int .i64 b_1)))]) ⟨rfl, rfl, trivial⟩ ?_
  refine Tr.seq ?_
  replace h := bind_some h; obtain ⟨x1, hx1, h⟩ := h
  replace h := bind_some h; obtain ⟨x2, hx2, h⟩ := h
  replace h := bind_some h; obtain ⟨x3, hx3, h⟩ := h
  refine Tr.drawD (n := 30) (m := 8) (es := [some (Ent.mk [(0, (pEq (.int .i64 a_0)))] (pEq (.int .i64 a_0)) true), some (Ent.mk [(1, (pEq (.int .i64 b_1)))] (pEq (.int .i64 b_1)) true), some (Ent.mk [(7, (pEq (.int .i64 a_0))), (8, (pEq (.int .i64 b_1)))] (pEq (.int .i64 x1)) true), some (Ent.mk [(0, (pEq (.int .i64 a_0)))] (pEq (.int .i64 a_0)) true), some (Ent.mk [(1, (pEq (.int .i64 b_1)))] (pEq (.int .i64 b_1)) true), some (Ent.mk [(10, (pEq (.int .i64 a_0))), (11, (pEq (.int .i64 b_1)))] (pEq (.int .i64 x2)) true), some (Ent.mk [(12, (pEq (.int .i64 x2)))] (pEq (.int .i64 x3)) true), some (Ent.mk [(9, (pEq (.int .i64 x1)))] (pEq (.int .i64 x1)) true)]) (rd := [[0], [1], [7, 8], [0], [1], [10, 11], [12], [9]]) rfl hmix (by kernel_rfl) fun hD => ?_
  refine RD.fin (es := [Ent.mk [(0, (pEq (.int .i64 a_0)))] (pEq (.int .i64 a_0)) true, Ent.mk [(1, (pEq (.int .i64 b_1)))] (pEq (.int .i64 b_1)) true, Ent.mk [(7, (pEq (.int .i64 a_0))), (8, (pEq (.int .i64 b_1)))] (pEq (.int .i64 x1)) true, Ent.mk [(0, (pEq (.int .i64 a_0)))] (pEq (.int .i64 a_0)) true, Ent.mk [(1, (pEq (.int .i64 b_1)))] (pEq (.int .i64 b_1)) true, Ent.mk [(10, (pEq (.int .i64 a_0))), (11, (pEq (.int .i64 b_1)))] (pEq (.int .i64 x2)) true, Ent.mk [(12, (pEq (.int .i64 x2)))] (pEq (.int .i64 x3)) true, Ent.mk [(9, (pEq (.int .i64 x1)))] (pEq (.int .i64 x1)) true]) (done := []) hD ⟨.inr ⟨(OpJ.w (J_move rfl (Opd.tmp rfl))), ⟨rfl, trivial⟩, rfl, rfl⟩, ⟨.inr ⟨(OpJ.w (J_move rfl (Opd.tmp rfl))), ⟨rfl, trivial⟩, rfl, rfl⟩, ⟨.inr ⟨(OpJ.w (J_bin rfl (Opd.tmp rfl) (Opd.tmp rfl) (B_qdiv hx1))), ⟨rfl, rfl, trivial⟩, rfl, rfl⟩, ⟨.inr ⟨(OpJ.w (J_move rfl (Opd.tmp rfl))), ⟨rfl, trivial⟩, rfl, rfl⟩, ⟨.inr ⟨(OpJ.w (J_move rfl (Opd.tmp rfl))), ⟨rfl, trivial⟩, rfl, rfl⟩, ⟨.inr ⟨(OpJ.w (J_bin rfl (Opd.tmp rfl) (Opd.tmp rfl) (B_rdiv hx2))), ⟨rfl, rfl, trivial⟩, rfl, rfl⟩, ⟨.inr ⟨(OpJ.w (J_call rfl Tryd.call63 (c_impl_abs hx3) (Opds.cons (Opd.tmp rfl) Opds.nil))), ⟨rfl, trivial⟩, rfl, rfl⟩, ⟨.inr ⟨(OpJ.w (J_assign rfl (Opd.tmp rfl))), ⟨rfl, trivial⟩, rfl, rfl⟩, trivial⟩⟩⟩⟩⟩⟩⟩⟩ ?_
  refine RegL.pure (p := (pEq (.int .i64 x3))) rfl rfl rfl (J_assign rfl (Opd.tmp rfl)) ?_
  refine RegL.nil ?_
  refine Ct.then_tr ?_
  refine Tr.weak (Γ' := [(0, (pEq (.int .i64 a_0))), (1, (pEq (.int .i64 b_1))), (5, (pEq (.int .i64 x1))), (6, (pEq (.int .i64 x3)))]) ⟨rfl, rfl, rfl, rfl, trivial⟩ ?_
  refine Tr.seq ?_
  refine Tr.seq ?_
  refine Tr.region ?_
  refine RegL.pure (p := (pEq (.int .i64 x3))) rfl rfl rfl (J_move rfl (Opd.tmp rfl)) ?_
  refine RegL.pure (p := (pEq (.int .i64 b_1))) rfl rfl rfl (J_move rfl (Opd.tmp rfl)) ?_
  replace h := bind_some h; obtain ⟨x4, hx4, h⟩ := h
  refine RegL.pure (p := (pEq (.int .i64 x4))) rfl rfl rfl (J_call rfl Tryd.call63 (c_impl_abs hx4) (Opds.cons (Opd.tmp rfl) Opds.nil)) ?_
  refine RegL.pure (p := (pEq (.int .i64 x3))) rfl rfl rfl (J_move rfl (Opd.tmp rfl)) ?_
  refine RegL.pure (p := (pEq (.int .i64 (w64 (x4 - x3))))) rfl rfl rfl (J_bin rfl (Opd.tmp rfl) (Opd.tmp rfl) B_sub) ?_
  refine RegL.pure (p := (pEq (.bool (decide ((w64 (x4 - x3)) ≤ x3))))) rfl rfl rfl (J_bin rfl (Opd.tmp rfl) (Opd.tmp rfl) B_geq) ?_
  refine RegL.nil ?_
  refine Ct.then_tr ?_
  refine Tr.weak (Γ' := [(0, (pEq (.int .i64 a_0))), (1, (pEq (.int .i64 b_1))), (5, (pEq (.int .i64 x1))), (19, (pEq (.bool (decide ((w64 (x4 - x3)) ≤ x3)))))]) ⟨rfl, rfl, rfl, rfl, trivial⟩ ?_
  refine Tr.cond (Opd.tmp rfl) (fun hc => ?_) (fun hc => ?_)
  · replace h := bif_t hc h
    refine Tr.seq ?_
    refine Tr.seq ?_
    refine Tr.region ?_
    refine RegL.pure (p := (pEq (.int .i64 a_0))) rfl rfl rfl (J_move rfl (Opd.tmp rfl)) ?_
    refine RegL.pure (p := (pEq (.bool (decide (a_0 < (0 : Int)))))) rfl rfl rfl (J_bin rfl (Opd.tmp rfl) Opd.con B_lss) ?_
    refine RegL.pure (p := (pEq (.int .i64 b_1))) rfl rfl rfl (J_move rfl (Opd.tmp rfl)) ?_
    refine RegL.pure (p := (pEq (.bool (decide (b_1 < (0 : Int)))))) rfl rfl rfl (J_bin rfl (Opd.tmp rfl) Opd.con B_lss) ?_
    refine RegL.pure (p := (pEq (.bool ((decide (a_0 < (0 : Int))) == (decide (b_1 < (0 : Int))))))) rfl rfl rfl (J_bin rfl (Opd.tmp rfl) (Opd.tmp rfl) (B_beql Tryd.underlying4)) ?_
    refine RegL.nil ?_
    refine Ct.then_tr ?_
    refine Tr.weak (Γ' := [(5, (pEq (.int .i64 x1))), (24, (pEq (.bool ((decide (a_0 < (0 : Int))) == (decide (b_1 < (0 : Int)))))))]) ⟨rfl, rfl, trivial⟩ ?_
    refine Tr.cond (Opd.tmp rfl) (fun hc => ?_) (fun hc => ?_)
    · replace h := bif_t hc h
      refine Tr.seq ?_
      refine Tr.region ?_
      refine RegL.pure (p := (pEq (.int .i64 x1))) rfl rfl rfl (J_move rfl (Opd.tmp rfl)) ?_
      refine RegL.pure (p := (pEq (.int .i64 (w64 (x1 + (1 : Int)))))) rfl rfl rfl (J_bin rfl (Opd.tmp rfl) Opd.con B_add) ?_
      refine RegL.pure (p := (pEq (.int .i64 (w64 (x1 + (1 : Int)))))) rfl rfl rfl (J_assign rfl (Opd.tmp rfl)) ?_
      refine RegL.nil ?_
      refine Ct.then_tr ?_
      refine Tr.weak (Γ' := [(4, (pEq (.int .i64 (w64 (x1 + (1 : Int))))))]) ⟨rfl, trivial⟩ ?_
      refine Tr.ret ?_
      refine Ct.then_ret ?_
      refine Ct.then_ret ?_
      replace h := Option.some.inj h; subst h
      exact Ct.retH1 (Ωx := []) () rfl (RvOk.tmp rfl) rfl
    · replace h := bif_f hc h
      refine Tr.skip ?_
      refine Ct.then_tr ?_
      refine Tr.weak (Γ' := [(5, (pEq (.int .i64 x1)))]) ⟨rfl, trivial⟩ ?_
      refine Tr.seq ?_
      refine Tr.region ?_
      refine RegL.pure (p := (pEq (.int .i64 x1))) rfl rfl rfl (J_move rfl (Opd.tmp rfl)) ?_
      refine RegL.pure (p := (pEq (.int .i64 (w64 (x1 - (1 : Int)))))) rfl rfl rfl (J_bin rfl (Opd.tmp rfl) Opd.con B_sub) ?_
      refine RegL.pure (p := (pEq (.int .i64 (w64 (x1 - (1 : Int)))))) rfl rfl rfl (J_assign rfl (Opd.tmp rfl)) ?_
      refine RegL.nil ?_
      refine Ct.then_tr ?_
      refine Tr.weak (Γ' := [(4, (pEq (.int .i64 (w64 (x1 - (1 : Int))))))]) ⟨rfl, trivial⟩ ?_
      refine Tr.ret ?_
      refine Ct.then_ret ?_
      replace h := Option.some.inj h; subst h
      exact Ct.retH1 (Ωx := []) () rfl (RvOk.tmp rfl) rfl
  · replace h := bif_f hc h
    refine Tr.skip ?_
    refine Ct.then_tr ?_
    refine Tr.weak (Γ' := [(5, (pEq (.int .i64 x1)))]) ⟨rfl, trivial⟩ ?_
    refine Tr.seq ?_
    refine Tr.region ?_
    refine RegL.pure (p := (pEq (.int .i64 x1))) rfl rfl rfl (J_move rfl (Opd.tmp rfl)) ?_
    refine RegL.pure (p := (pEq (.int .i64 x1))) rfl rfl rfl (J_assign rfl (Opd.tmp rfl)) ?_
    refine RegL.nil ?_
    refine Ct.then_tr ?_
    refine Tr.weak (Γ' := [(4, (pEq (.int .i64 x1)))]) ⟨rfl, trivial⟩ ?_
    refine Tr.ret ?_
    replace h := Option.some.inj h; subst h
    exact Ct.retH1 (Ωx := []) () rfl (RvOk.tmp rfl) rfl

theorem c_impl_blend {x0_0 : Int} {y0_1 : Int} {x1_2 : Int} {y1_3 : Int} {x_4 : Int} {r : Int} (h : m_impl_blend x0_0 y0_1 x1_2 y1_3 x_4 = some r) : CallJ Tryd.prog 59 [(pEq (.int .i64 x0_0)), (pEq (.int .i64 y0_1)), (pEq (.int .i64 x1_2)), (pEq (.int .i64 y1_3)), (pEq (.int .i64 x_4))] (pEq (.int .i64 r)) := by
  unfold m_impl_blend at h
  refine CallJ.enterH Tryd.func59 rfl Tryd.ntmps59 rfl fun W I0 H => ?_
  refine Tr.weak (Γ' := [(0, (pEq (.int .i64 x0_0))), (1, (pEq (.int .i64 y0_1))), (2, (pEq (.int .i64 x1_2))), (3, (pEq (.int .i64 y1_3))), (4, (pEq (.int .i64 x_4)))]) ⟨rfl, rfl, rfl, rfl, rfl, trivial⟩ ?_
  refine Tr.seq ?_
  refine Tr.region ?_
  refine RegL.pure (p := (pEq (.int .i64 (0 : Int)))) rfl rfl rfl (J_assign rfl Opd.con) ?_
  refine RegL.nil ?_
  refine Ct.then_tr ?_
  refine Tr.weak (Γ' := [(0, (pEq (.int .i64 x0_0))), (1, (pEq (.int .i64 y0_1))), (2, (pEq (.int .i64 x1_2))), (3, (pEq (.int .i64 y1_3))), (4, (pEq (.int .i64 x_4)))]) ⟨rfl, rfl, rfl, rfl, rfl, trivial⟩ ?_
  refine Tr.seq ?_
  refine Tr.block ?_
  refine Tr.seq ?_
  replace h := bind_some h; obtain ⟨x1, hx1, h⟩ := h
  refine Tr.cut (γ := Unit) (Γm := fun g => [(0, (pEq (.int .i64 x0_0))), (1, (pEq (.int .i64 y0_1))), (2, (pEq (.int .i64 x1_2))), (3, (pEq (.int .i64 y1_3))), (4, (pEq (.int .i64 x_4))), (11, (pEq (.bool x1)))]) (Ωm := fun g => []) ?_ (fun g3 => ?_)
  · clear h
    have h := hx1
    clear hx1
    refine Tr.region ?_
    refine RegL.pure (p := (pEq (.int .i64 x_4))) rfl rfl rfl (J_move rfl (Opd.tmp rfl)) ?_
    refine RegL.pure (p := (pEq (.int .i64 x0_0))) rfl rfl rfl (J_move rfl (Opd.tmp rfl)) ?_
    refine RegL.pure (p := (pEq (.bool (decide (x_4 ≤ x0_0))))) rfl rfl rfl (J_bin rfl (Opd.tmp rfl) (Opd.tmp rfl) B_leq) ?_
    refine RegL.pure (p := (pEq (.bool (decide (x_4 ≤ x0_0))))) rfl rfl rfl (J_move rfl (Opd.tmp rfl)) ?_
    rcases Bool.eq_false_or_eq_true (decide (x_4 ≤ x0_0)) with hc2 | hc2
    · replace h := bif_t hc2 h
      refine RegL.skipG rfl rfl rfl hc2 rfl rfl ?_
      refine RegL.skipG rfl rfl rfl hc2 rfl rfl ?_
      refine RegL.skipG rfl rfl rfl hc2 rfl rfl ?_
      refine RegL.pure (p := (pEq (.bool true))) rfl rfl rfl (J_pick rfl (Opd.tmp rfl) (fun _ => Opd.con) (fun hf => absurd (hc2.symm.trans hf) (by decide))) ?_
      refine RegL.pure (p := (pEq (.bool true))) rfl rfl rfl (J_assign rfl (Opd.tmp rfl)) ?_
      refine RegL.nil ?_
      replace h := Option.some.inj h; subst h
      exact Ct.mid () rfl ⟨rfl, rfl, rfl, rfl, rfl, rfl, trivial⟩
    · replace h := bif_f hc2 h
      refine RegL.pureG (p := (pEq (.int .i64 x1_2))) rfl rfl rfl hc2 rfl rfl (J_move rfl (Opd.tmp rfl)) ?_
      refine RegL.pureG (p := (pEq (.int .i64 x0_0))) rfl rfl rfl hc2 rfl rfl (J_move rfl (Opd.tmp rfl)) ?_
      refine RegL.pureG (p := (pEq (.bool (decide (x1_2 ≤ x0_0))))) rfl rfl rfl hc2 rfl rfl (J_bin rfl (Opd.tmp rfl) (Opd.tmp rfl) B_leq) ?_
      refine RegL.pure (p := (pEq (.bool (decide (x1_2 ≤ x0_0))))) rfl rfl rfl (J_pick rfl (Opd.tmp rfl) (fun hf => absurd (hc2.symm.trans hf) (by decide)) (fun _ => (Opd.tmp rfl))) ?_
      refine RegL.pure (p := (pEq (.bool (decide (x1_2 ≤ x0_0))))) rfl rfl rfl (J_assign rfl (Opd.tmp rfl)) ?_
      refine RegL.nil ?_
      replace h := Option.some.inj h; subst h
      exact Ct.mid () rfl ⟨rfl, rfl, rfl, rfl, rfl, rfl, trivial⟩
  · clear hx1
    refine Ct.then_tr ?_
    refine Tr.weak (Γ' := [(0, (pEq (.int .i64 x0_0))), (1, (pEq (.int .i64 y0_1))), (2, (pEq (.int .i64 x1_2))), (3, (pEq (.int .i64 y1_3))), (4, (pEq (.int .i64 x_4))), (11, (pEq (.bool x1)))]) ⟨rfl, rfl, rfl, rfl, rfl, rfl, trivial⟩ ?_
    refine Tr.cond (Opd.tmp rfl) (fun hc => ?_) (fun hc => ?_)
    · replace h := bif_t hc h
      refine Tr.seq ?_
      refine Tr.region ?_
      refine RegL.pure (p := (pEq (.int .i64 y0_1))) rfl rfl rfl (J_move rfl (Opd.tmp rfl)) ?_
      refine RegL.pure (p := (pEq (.int .i64 y0_1))) rfl rfl rfl (J_assign rfl (Opd.tmp rfl)) ?_
      refine RegL.nil ?_
      refine Ct.then_tr ?_
      refine Tr.weak (Γ' := [(10, (pEq (.int .i64 y0_1)))]) ⟨rfl, trivial⟩ ?_
      refine Tr.ret ?_
      refine Ct.blk_ret ?_
      refine Ct.then_ret ?_
      replace h := Option.some.inj h; subst h
      exact Ct.retH1 (Ωx := []) () rfl (RvOk.tmp rfl) rfl
    · replace h := bif_f hc h
      refine Tr.seq ?_
      refine Tr.region ?_
      refine RegL.pure (p := (pEq (.int .i64 x_4))) rfl rfl rfl (J_move rfl (Opd.tmp rfl)) ?_
      refine RegL.pure (p := (pEq (.int .i64 x1_2))) rfl rfl rfl (J_move rfl (Opd.tmp rfl)) ?_
      refine RegL.pure (p := (pEq (.bool (decide (x1_2 ≤ x_4))))) rfl rfl rfl (J_bin rfl (Opd.tmp rfl) (Opd.tmp rfl) B_geq) ?_
      refine RegL.pure (p := (pEq (.bool (decide (x1_2 ≤ x_4))))) rfl rfl rfl (J_assign rfl (Opd.tmp rfl)) ?_
      refine RegL.nil ?_
      refine Ct.then_tr ?_
      refine Tr.weak (Γ' := [(0, (pEq (.int .i64 x0_0))), (1, (pEq (.int .i64 y0_1))), (2, (pEq (.int .i64 x1_2))), (3, (pEq (.int .i64 y1_3))), (4, (pEq (.int .i64 x_4))), (21, (pEq (.bool (decide (x1_2 ≤ x_4)))))]) ⟨rfl, rfl, rfl, rfl, rfl, rfl, trivial⟩ ?_
      refine Tr.cond (Opd.tmp rfl) (fun hc => ?_) (fun hc => ?_)
      · replace h := bif_t hc h
        refine Tr.seq ?_
        refine Tr.region ?_
        refine RegL.pure (p := (pEq (.int .i64 y1_3))) rfl rfl rfl (J_move rfl (Opd.tmp rfl)) ?_
        refine RegL.pure (p := (pEq (.int .i64 y1_3))) rfl rfl rfl (J_assign rfl (Opd.tmp rfl)) ?_
        refine RegL.nil ?_
        refine Ct.then_tr ?_
        refine Tr.weak (Γ' := [(10, (pEq (.int .i64 y1_3)))]) ⟨rfl, trivial⟩ ?_
        refine Tr.ret ?_
        refine Ct.blk_ret ?_
        refine Ct.then_ret ?_
        replace h := Option.some.inj h; subst h
        exact Ct.retH1 (Ωx := []) () rfl (RvOk.tmp rfl) rfl
      · replace h := bif_f hc h
        refine Tr.skip ?_
        refine Ct.blk_normal ?_
        refine Ct.then_tr ?_
        refine Tr.weak (Γ' := [(0, (pEq (.int .i64 x0_0))), (1, (pEq (.int .i64 y0_1))), (2, (pEq (.int .i64 x1_2))), (3, (pEq (.int .i64 y1_3))), (4, (pEq (.int .i64 x_4)))]) ⟨rfl, rfl, rfl, rfl, rfl, trivial⟩ ?_
        refine Tr.seq ?_
        refine Tr.region ?_
        refine RegL.pure (p := (pEq (.int .i64 y0_1))) rfl rfl rfl (J_move rfl (Opd.tmp rfl)) ?_
        refine RegL.pure (p := (pEq (.int .i64 y1_3))) rfl rfl rfl (J_move rfl (Opd.tmp rfl)) ?_
        refine RegL.pure (p := (pEq (.int .i64 y0_1))) rfl rfl rfl (J_move rfl (Opd.tmp rfl)) ?_
        refine RegL.pure (p := (pEq (.int .i64 (w64 (y1_3 - y0_1))))) rfl rfl rfl (J_bin rfl (Opd.tmp rfl) (Opd.tmp rfl) B_sub) ?_
        refine RegL.pure (p := (pEq (.int .i64 x_4))) rfl rfl rfl (J_move rfl (Opd.tmp rfl)) ?_
        refine RegL.pure (p := (pEq (.int .i64 x0_0))) rfl rfl rfl (J_move rfl (Opd.tmp rfl)) ?_
        refine RegL.pure (p := (pEq (.int .i64 (w64 (x_4 - x0_0))))) rfl rfl rfl (J_bin rfl (Opd.tmp rfl) (Opd.tmp rfl) B_sub) ?_
        refine RegL.pure (p := (pEq (.int .i64 (w64 ((w64 (y1_3 - y0_1)) * (w64 (x_4 - x0_0))))))) rfl rfl rfl (J_bin rfl (Opd.tmp rfl) (Opd.tmp rfl) B_mul) ?_
        refine RegL.pure (p := (pEq (.int .i64 x1_2))) rfl rfl rfl (J_move rfl (Opd.tmp rfl)) ?_
        refine RegL.pure (p := (pEq (.int .i64 x0_0))) rfl rfl rfl (J_move rfl (Opd.tmp rfl)) ?_
        refine RegL.pure (p := (pEq (.int .i64 (w64 (x1_2 - x0_0))))) rfl rfl rfl (J_bin rfl (Opd.tmp rfl) (Opd.tmp rfl) B_sub) ?_
        replace h := bind_some h; obtain ⟨x4, hx4, h⟩ := h
        refine RegL.pure (p := (pEq (.int .i64 x4))) rfl rfl rfl (J_call rfl Tryd.call57 (c_impl_divRound hx4) (Opds.cons (Opd.tmp rfl) (Opds.cons (Opd.tmp rfl) Opds.nil))) ?_
        refine RegL.pure (p := (pEq (.int .i64 (w64 (y0_1 + x4))))) rfl rfl rfl (J_bin rfl (Opd.tmp rfl) (Opd.tmp rfl) B_add) ?_
        refine RegL.pure (p := (pEq (.int .i64 (w64 (y0_1 + x4))))) rfl rfl rfl (J_assign rfl (Opd.tmp rfl)) ?_
        refine RegL.nil ?_
        refine Ct.then_tr ?_
        refine Tr.weak (Γ' := [(10, (pEq (.int .i64 (w64 (y0_1 + x4)))))]) ⟨rfl, trivial⟩ ?_
        refine Tr.ret ?_
        replace h := Option.some.inj h; subst h
        exact Ct.retH1 (Ωx := []) () rfl (RvOk.tmp rfl) rfl

theorem c_impl_rowsAt {rows_0 : (List (List Int))} {f_1 : Int} {r : Int} (h : m_impl_rowsAt rows_0 f_1 = some r) : CallJ Tryd.prog 64 [(pSl 2 (cArrF 2 (0 : Int) (cK .i64)) rows_0), (pEq (.int .i64 f_1))] (pEq (.int .i64 r)) := by
  unfold m_impl_rowsAt at h
  refine CallJ.enterH Tryd.func64 rfl Tryd.ntmps64 rfl fun W I0 H => ?_
  refine Tr.weak (Γ' := [(0, (pSl 2 (cArrF 2 (0 : Int) (cK .i64)) rows_0)), (1, (pEq (.int .i64 f_1)))]) ⟨rfl, rfl, trivial⟩ ?_
  refine Tr.seq ?_
  refine Tr.region ?_
  refine RegL.pure (p := (pEq (.int .i64 (0 : Int)))) rfl rfl rfl (J_assign rfl Opd.con) ?_
  refine RegL.nil ?_
  refine Ct.then_tr ?_
  refine Tr.weak (Γ' := [(0, (pSl 2 (cArrF 2 (0 : Int) (cK .i64)) rows_0)), (1, (pEq (.int .i64 f_1)))]) ⟨rfl, rfl, trivial⟩ ?_
  refine Tr.seq ?_
  refine Tr.region ?_
  refine RegL.pure (p := (pEq (.int .i64 f_1))) rfl rfl rfl (J_move rfl (Opd.tmp rfl)) ?_
  refine RegL.pure (p := (pEq (.int .i64 (w64 (f_1.tdiv (1000 : Int)))))) rfl rfl rfl (J_bin rfl (Opd.tmp rfl) Opd.con (B_quo (n := (1000 : Int)) (by decide))) ?_
  refine RegL.pure (p := (pEq (.int .i64 (w64 (f_1.tdiv (1000 : Int)))))) rfl rfl rfl (J_assign rfl (Opd.tmp rfl)) ?_
  refine RegL.nil ?_
  refine Ct.then_tr ?_
  refine Tr.weak (Γ' := [(0, (pSl 2 (cArrF 2 (0 : Int) (cK .i64)) rows_0)), (5, (pEq (.int .i64 (w64 (f_1.tdiv (1000 : Int))))))]) ⟨rfl, rfl, trivial⟩ ?_
  refine Tr.seq ?_
  refine Tr.region ?_
  refine RegL.pure (p := (pEq (.int .i64 (1 : Int)))) rfl rfl rfl (J_assign rfl Opd.con) ?_
  refine RegL.nil ?_
  refine Ct.then_tr ?_
  refine Tr.weak (Γ' := [(0, (pSl 2 (cArrF 2 (0 : Int) (cK .i64)) rows_0)), (5, (pEq (.int .i64 (w64 (f_1.tdiv (1000 : Int)))))), (6, (pEq (.int .i64 (1 : Int))))]) ⟨rfl, rfl, rfl, trivial⟩ ?_
  refine Tr.seq ?_
  replace h := bind_some h; obtain ⟨x1, hx1, h⟩ := h
  refine Tr.cut (γ := Unit) (Γm := fun g => [(0, (pSl 2 (cArrF 2 (0 : Int) (cK .i64)) rows_0)), (5, (pEq (.int .i64 (w64 (f_1.tdiv (1000 : Int)))))), (6, (pEq (.int .i64 x1)))]) (Ωm := fun g => []) ?_ (fun g10 => ?_)
  · clear h
    have h := hx1
    clear hx1
    refine Tr.block ?_
    refine Tr.weak (Γ' := [(0, (pSl 2 (cArrF 2 (0 : Int) (cK .i64)) rows_0)), (5, (pEq (.int .i64 (w64 (f_1.tdiv (1000 : Int)))))), (6, (pEq (.int .i64 (1 : Int))))]) ⟨rfl, rfl, rfl, trivial⟩ ?_
    refine Tr.loop (γ := Unit) (σ := Int) (Γσ := fun s g => [(0, (pSl 2 (cArrF 2 (0 : Int) (cK .i64)) rows_0)), (5, (pEq (.int .i64 (w64 (f_1.tdiv (1000 : Int)))))), (6, (pEq (.int .i64 s)))]) (Ωσ := fun s g => []) (g := ()) h ?_
    clear h
    rintro v3 g4 t h
    replace h : m_impl_rowsAt_B2 rows_0 f_1 v3 = some t := h
    unfold m_impl_rowsAt_B2 at h
    refine Tr.weakO (Γ' := [(0, (pSl 2 (cArrF 2 (0 : Int) (cK .i64)) rows_0)), (5, (pEq (.int .i64 (w64 (f_1.tdiv (1000 : Int)))))), (6, (pEq (.int .i64 v3)))]) (Ω' := []) rfl ⟨rfl, rfl, rfl, trivial⟩ ?_
    refine Tr.seq ?_
    refine Tr.seq ?_
    replace h := bind_some h; obtain ⟨x5, hx5, h⟩ := h
    refine Tr.cut (γ := Unit) (Γm := fun g => [(0, (pSl 2 (cArrF 2 (0 : Int) (cK .i64)) rows_0)), (5, (pEq (.int .i64 (w64 (f_1.tdiv (1000 : Int)))))), (6, (pEq (.int .i64 v3))), (22, (pEq (.bool x5)))]) (Ωm := fun g => []) ?_ (fun g9 => ?_)
    · clear h
      have h := hx5
      clear hx5
      refine Tr.region ?_
      refine RegL.pure (p := (pEq (.int .i64 v3))) rfl rfl rfl (J_move rfl (Opd.tmp rfl)) ?_
      refine RegL.pure (p := (pSl 2 (cArrF 2 (0 : Int) (cK .i64)) rows_0)) rfl rfl rfl (J_move rfl (Opd.tmp rfl)) ?_
      refine RegL.pure (p := (pEq (.int .i64 (rows_0.length : Int)))) rfl rfl rfl (J_len rfl Tryd.underlying52 (Opd.tmp rfl) rfl) ?_
      refine RegL.pure (p := (pEq (.int .i64 (w64 ((rows_0.length : Int) - (1 : Int)))))) rfl rfl rfl (J_bin rfl (Opd.tmp rfl) Opd.con B_sub) ?_
      refine RegL.pure (p := (pEq (.bool (decide (v3 < (w64 ((rows_0.length : Int) - (1 : Int)))))))) rfl rfl rfl (J_bin rfl (Opd.tmp rfl) (Opd.tmp rfl) B_lss) ?_
      refine RegL.pure (p := (pEq (.bool (decide (v3 < (w64 ((rows_0.length : Int) - (1 : Int)))))))) rfl rfl rfl (J_move rfl (Opd.tmp rfl)) ?_
      rcases Bool.eq_false_or_eq_true (decide (v3 < (w64 ((rows_0.length : Int) - (1 : Int))))) with hc6 | hc6
      · replace h := bif_t hc6 h
        refine RegL.pureG (p := (pSl 2 (cArrF 2 (0 : Int) (cK .i64)) rows_0)) rfl rfl rfl hc6 rfl rfl (J_move rfl (Opd.tmp rfl)) ?_
        refine RegL.pureG (p := (pEq (.int .i64 v3))) rfl rfl rfl hc6 rfl rfl (J_move rfl (Opd.tmp rfl)) ?_
        replace h := bind_some h; obtain ⟨x7, hx7, h⟩ := h
        refine RegL.pureG (p := (pPtr ((cArrF 2 (0 : Int) (cK .i64)) x7))) rfl rfl rfl hc6 rfl rfl (J_idx rfl Tryd.underlying52 sz46 (Opd.tmp rfl) (Opd.tmp rfl) hx7) ?_
        replace h := bind_some h; obtain ⟨x8, hx8, h⟩ := h
        refine RegL.pureG (p := (pPtr ((cK .i64) x8))) rfl rfl rfl hc6 rfl rfl (J_aidxAddr rfl Tryd.underlying46 sz2 (Opd.tmp rfl) Opd.con fit_len (all_of (f := (cK .i64)) (k := 1) fun _ => rfl) hx8) ?_
        refine RegL.pureG (p := (pEq (.int .i64 x8))) rfl rfl rfl hc6 rfl rfl (J_load rfl Tryd.isAgg2 (Opd.tmp rfl)) ?_
        refine RegL.pureG (p := (pEq (.int .i64 (w64 (f_1.tdiv (1000 : Int)))))) rfl rfl rfl hc6 rfl rfl (J_move rfl (Opd.tmp rfl)) ?_
        refine RegL.pureG (p := (pEq (.bool (decide (x8 < (w64 (f_1.tdiv (1000 : Int)))))))) rfl rfl rfl hc6 rfl rfl (J_bin rfl (Opd.tmp rfl) (Opd.tmp rfl) B_lss) ?_
        refine RegL.pure (p := (pEq (.bool (decide (x8 < (w64 (f_1.tdiv (1000 : Int)))))))) rfl rfl rfl (J_pick rfl (Opd.tmp rfl) (fun _ => (Opd.tmp rfl)) (fun hf => absurd (hc6.symm.trans hf) (by decide))) ?_
        refine RegL.nil ?_
        replace h := Option.some.inj h; subst h
        exact Ct.mid () rfl ⟨rfl, rfl, rfl, rfl, trivial⟩
      · replace h := bif_f hc6 h
        refine RegL.skipG rfl rfl rfl hc6 rfl rfl ?_
        refine RegL.skipG rfl rfl rfl hc6 rfl rfl ?_
        refine RegL.skipG rfl rfl rfl hc6 rfl rfl ?_
        refine RegL.skipG rfl rfl rfl hc6 rfl rfl ?_
        refine RegL.skipG rfl rfl rfl hc6 rfl rfl ?_
        refine RegL.skipG rfl rfl rfl hc6 rfl rfl ?_
        refine RegL.skipG rfl rfl rfl hc6 rfl rfl ?_
        refine RegL.pure (p := (pEq (.bool false))) rfl rfl rfl (J_pick rfl (Opd.tmp rfl) (fun hf => absurd (hc6.symm.trans hf) (by decide)) (fun _ => Opd.con)) ?_
        refine RegL.nil ?_
        replace h := Option.some.inj h; subst h
        exact Ct.mid () rfl ⟨rfl, rfl, rfl, rfl, trivial⟩
    · clear hx5
      refine Ct.then_tr ?_
      refine Tr.weak (Γ' := [(0, (pSl 2 (cArrF 2 (0 : Int) (cK .i64)) rows_0)), (5, (pEq (.int .i64 (w64 (f_1.tdiv (1000 : Int)))))), (6, (pEq (.int .i64 v3))), (22, (pEq (.bool x5)))]) ⟨rfl, rfl, rfl, rfl, trivial⟩ ?_
      refine Tr.cond (Opd.tmp rfl) (fun hc => ?_) (fun hc => ?_)
      · replace h := bif_t hc h
        refine Tr.skip ?_
        refine Ct.then_tr ?_
        refine Tr.weak (Γ' := [(0, (pSl 2 (cArrF 2 (0 : Int) (cK .i64)) rows_0)), (5, (pEq (.int .i64 (w64 (f_1.tdiv (1000 : Int)))))), (6, (pEq (.int .i64 v3)))]) ⟨rfl, rfl, rfl, trivial⟩ ?_
        refine Tr.block ?_
        refine Tr.region ?_
        refine RegL.pure (p := (pEq (.int .i64 v3))) rfl rfl rfl (J_move rfl (Opd.tmp rfl)) ?_
        refine RegL.pure (p := (pEq (.int .i64 (w64 (v3 + (1 : Int)))))) rfl rfl rfl (J_bin rfl (Opd.tmp rfl) Opd.con B_add) ?_
        refine RegL.pure (p := (pEq (.int .i64 (w64 (v3 + (1 : Int)))))) rfl rfl rfl (J_assign rfl (Opd.tmp rfl)) ?_
        refine RegL.nil ?_
        refine Ct.blk_normal ?_
        replace h := Option.some.inj h; subst h
        exact Ct.again () rfl ⟨rfl, rfl, rfl, trivial⟩
      · replace h := bif_f hc h
        refine Tr.exit ?_
        refine Ct.then_exit ?_
        replace h := map_some h; obtain ⟨r1, h, rfl⟩ := h
        refine Ct.out_exit fun e => ?_
        subst e
        refine Ct.blk_exit ?_
        replace h := Option.some.inj h; subst h
        exact Ct.mid () rfl ⟨rfl, rfl, rfl, trivial⟩
  · clear hx1
    refine Ct.then_tr ?_
    refine Tr.weak (Γ' := [(0, (pSl 2 (cArrF 2 (0 : Int) (cK .i64)) rows_0)), (5, (pEq (.int .i64 (w64 (f_1.tdiv (1000 : Int)))))), (6, (pEq (.int .i64 x1)))]) ⟨rfl, rfl, rfl, trivial⟩ ?_
    refine Tr.seq ?_
    replace h := bind_some h; obtain ⟨x11, hx11, h⟩ := h
    replace h := bind_some h; obtain ⟨x12, hx12, h⟩ := h
    replace h := bind_some h; obtain ⟨x13, hx13, h⟩ := h
    replace h := bind_some h; obtain ⟨x14, hx14, h⟩ := h
    replace h := bind_some h; obtain ⟨x15, hx15, h⟩ := h
    replace h := bind_some h; obtain ⟨x16, hx16, h⟩ := h
    replace h := bind_some h; obtain ⟨x17, hx17, h⟩ := h
    replace h := bind_some h; obtain ⟨x18, hx18, h⟩ := h
    replace h := bind_some h; obtain ⟨x19, hx19, h⟩ := h
    refine Tr.drawD (n := 49) (m := 24) (es := [some (Ent.mk [(0, (pSl 2 (cArrF 2 (0 : Int) (cK .i64)) rows_0))] (pSl 2 (cArrF 2 (0 : Int) (cK .i64)) rows_0) true), some (Ent.mk [(6, (pEq (.int .i64 x1)))] (pEq (.int .i64 x1)) true), some (Ent.mk [(26, (pEq (.int .i64 x1)))] (pEq (.int .i64 (w64 (x1 - (1 : Int))))) true), some (Ent.mk [(25, (pSl 2 (cArrF 2 (0 : Int) (cK .i64)) rows_0)), (27, (pEq (.int .i64 (w64 (x1 - (1 : Int))))))] (pPtr ((cArrF 2 (0 : Int) (cK .i64)) x11)) true), some (Ent.mk [(28, (pPtr ((cArrF 2 (0 : Int) (cK .i64)) x11)))] (pPtr ((cK .i64) x12)) true), some (Ent.mk [(29, (pPtr ((cK .i64) x12)))] (pEq (.int .i64 x12)) true), some (Ent.mk [(0, (pSl 2 (cArrF 2 (0 : Int) (cK .i64)) rows_0))] (pSl 2 (cArrF 2 (0 : Int) (cK .i64)) rows_0) true), some (Ent.mk [(6, (pEq (.int .i64 x1)))] (pEq (.int .i64 x1)) true), some (Ent.mk [(32, (pEq (.int .i64 x1)))] (pEq (.int .i64 (w64 (x1 - (1 : Int))))) true), some (Ent.mk [(31, (pSl 2 (cArrF 2 (0 : Int) (cK .i64)) rows_0)), (33, (pEq (.int .i64 (w64 (x1 - (1 : Int))))))] (pPtr ((cArrF 2 (0 : Int) (cK .i64)) x13)) true), some (Ent.mk [(34, (pPtr ((cArrF 2 (0 : Int) (cK .i64)) x13)))] (pPtr ((cK .i64) x14)) true), some (Ent.mk [(35, (pPtr ((cK .i64) x14)))] (pEq (.int .i64 x14)) true), some (Ent.mk [(0, (pSl 2 (cArrF 2 (0 : Int) (cK .i64)) rows_0))] (pSl 2 (cArrF 2 (0 : Int) (cK .i64)) rows_0) true), some (Ent.mk [(6, (pEq (.int .i64 x1)))] (pEq (.int .i64 x1)) true), some (Ent.mk [(37, (pSl 2 (cArrF 2 (0 : Int) (cK .i64)) rows_0)), (38, (pEq (.int .i64 x1)))] (pPtr ((cArrF 2 (0 : Int) (cK .i64)) x15)) true), some (Ent.mk [(39, (pPtr ((cArrF 2 (0 : Int) (cK .i64)) x15)))] (pPtr ((cK .i64) x16)) true), some (Ent.mk [(40, (pPtr ((cK .i64) x16)))] (pEq (.int .i64 x16)) true), some (Ent.mk [(0, (pSl 2 (cArrF 2 (0 : Int) (cK .i64)) rows_0))] (pSl 2 (cArrF 2 (0 : Int) (cK .i64)) rows_0) true), some (Ent.mk [(6, (pEq (.int .i64 x1)))] (pEq (.int .i64 x1)) true), some (Ent.mk [(42, (pSl 2 (cArrF 2 (0 : Int) (cK .i64)) rows_0)), (43, (pEq (.int .i64 x1)))] (pPtr ((cArrF 2 (0 : Int) (cK .i64)) x17)) true), some (Ent.mk [(44, (pPtr ((cArrF 2 (0 : Int) (cK .i64)) x17)))] (pPtr ((cK .i64) x18)) true), some (Ent.mk [(45, (pPtr ((cK .i64) x18)))] (pEq (.int .i64 x18)) true), some (Ent.mk [(5, (pEq (.int .i64 (w64 (f_1.tdiv (1000 : Int))))))] (pEq (.int .i64 (w64 (f_1.tdiv (1000 : Int))))) true), some (Ent.mk [(30, (pEq (.int .i64 x12))), (36, (pEq (.int .i64 x14))), (41, (pEq (.int .i64 x16))), (46, (pEq (.int .i64 x18))), (47, (pEq (.int .i64 (w64 (f_1.tdiv (1000 : Int))))))] (pEq (.int .i64 x19)) true)]) (rd := [[0], [6], [26], [25, 27], [28], [29], [0], [6], [32], [31, 33], [34], [35], [0], [6], [37, 38], [39], [40], [0], [6], [42, 43], [44], [45], [5], [30, 36, 41, 46, 47]]) rfl hmix (by kernel_rfl) fun hD => ?_
    refine RD.fin (es := [Ent.mk [(0, (pSl 2 (cArrF 2 (0 : Int) (cK .i64)) rows_0))] (pSl 2 (cArrF 2 (0 : Int) (cK .i64)) rows_0) true, Ent.mk [(6, (pEq (.int .i64 x1)))] (pEq (.int .i64 x1)) true, Ent.mk [(26, (pEq (.int .i64 x1)))] (pEq (.int .i64 (w64 (x1 - (1 : Int))))) true, Ent.mk [(25, (pSl 2 (cArrF 2 (0 : Int) (cK .i64)) rows_0)), (27, (pEq (.int .i64 (w64 (x1 - (1 : Int))))))] (pPtr ((cArrF 2 (0 : Int) (cK .i64)) x11)) true, Ent.mk [(28, (pPtr ((cArrF 2 (0 : Int) (cK .i64)) x11)))] (pPtr ((cK .i64) x12)) true, Ent.mk [(29, (pPtr ((cK .i64) x12)))] (pEq (.int .i64 x12)) true, Ent.mk [(0, (pSl 2 (cArrF 2 (0 : Int) (cK .i64)) rows_0))] (pSl 2 (cArrF 2 (0 : Int) (cK .i64)) rows_0) true, Ent.mk [(6, (pEq (.int .i64 x1)))] (pEq (.int .i64 x1)) true, Ent.mk [(32, (pEq (.int .i64 x1)))] (pEq (.int .i64 (w64 (x1 - (1 : Int))))) true, Ent.mk [(31, (pSl 2 (cArrF 2 (0 : Int) (cK .i64)) rows_0)), (33, (pEq (.int .i64 (w64 (x1 - (1 : Int))))))] (pPtr ((cArrF 2 (0 : Int) (cK .i64)) x13)) true, Ent.mk [(34, (pPtr ((cArrF 2 (0 : Int) (cK .i64)) x13)))] (pPtr ((cK .i64) x14)) true, Ent.mk [(35, (pPtr ((cK .i64) x14)))] (pEq (.int .i64 x14)) true, Ent.mk [(0, (pSl 2 (cArrF 2 (0 : Int) (cK .i64)) rows_0))] (pSl 2 (cArrF 2 (0 : Int) (cK .i64)) rows_0) true, Ent.mk [(6, (pEq (.int .i64 x1)))] (pEq (.int .i64 x1)) true, Ent.mk [(37, (pSl 2 (cArrF 2 (0 : Int) (cK .i64)) rows_0)), (38, (pEq (.int .i64 x1)))] (pPtr ((cArrF 2 (0 : Int) (cK .i64)) x15)) true, Ent.mk [(39, (pPtr ((cArrF 2 (0 : Int) (cK .i64)) x15)))] (pPtr ((cK .i64) x16)) true, Ent.mk [(40, (pPtr ((cK .i64) x16)))] (pEq (.int .i64 x16)) true, Ent.mk [(0, (pSl 2 (cArrF 2 (0 : Int) (cK .i64)) rows_0))] (pSl 2 (cArrF 2 (0 : Int) (cK .i64)) rows_0) true, Ent.mk [(6, (pEq (.int .i64 x1)))] (pEq (.int .i64 x1)) true, Ent.mk [(42, (pSl 2 (cArrF 2 (0 : Int) (cK .i64)) rows_0)), (43, (pEq (.int .i64 x1)))] (pPtr ((cArrF 2 (0 : Int) (cK .i64)) x17)) true, Ent.mk [(44, (pPtr ((cArrF 2 (0 : Int) (cK .i64)) x17)))] (pPtr ((cK .i64) x18)) true, Ent.mk [(45, (pPtr ((cK .i64) x18)))] (pEq (.int .i64 x18)) true, Ent.mk [(5, (pEq (.int .i64 (w64 (f_1.tdiv (1000 : Int))))))] (pEq (.int .i64 (w64 (f_1.tdiv (1000 : Int))))) true, Ent.mk [(30, (pEq (.int .i64 x12))), (36, (pEq (.int .i64 x14))), (41, (pEq (.int .i64 x16))), (46, (pEq (.int .i64 x18))), (47, (pEq (.int .i64 (w64 (f_1.tdiv (1000 : Int))))))] (pEq (.int .i64 x19)) true]) (done := []) hD ⟨.inr ⟨(OpJ.w (J_move rfl (Opd.tmp rfl))), ⟨rfl, trivial⟩, rfl, rfl⟩, ⟨.inr ⟨(OpJ.w (J_move rfl (Opd.tmp rfl))), ⟨rfl, trivial⟩, rfl, rfl⟩, ⟨.inr ⟨(OpJ.w (J_bin rfl (Opd.tmp rfl) Opd.con B_sub)), ⟨rfl, trivial⟩, rfl, rfl⟩, ⟨.inr ⟨(OpJ.w (J_idx rfl Tryd.underlying52 sz46 (Opd.tmp rfl) (Opd.tmp rfl) hx11)), ⟨rfl, rfl, trivial⟩, rfl, rfl⟩, ⟨.inr ⟨(OpJ.w (J_aidxAddr rfl Tryd.underlying46 sz2 (Opd.tmp rfl) Opd.con fit_len (all_of (f := (cK .i64)) (k := 1) fun _ => rfl) hx12)), ⟨rfl, trivial⟩, rfl, rfl⟩, ⟨.inr ⟨(OpJ.w (J_load rfl Tryd.isAgg2 (Opd.tmp rfl))), ⟨rfl, trivial⟩, rfl, rfl⟩, ⟨.inr ⟨(OpJ.w (J_move rfl (Opd.tmp rfl))), ⟨rfl, trivial⟩, rfl, rfl⟩, ⟨.inr ⟨(OpJ.w (J_move rfl (Opd.tmp rfl))), ⟨rfl, trivial⟩, rfl, rfl⟩, ⟨.inr ⟨(OpJ.w (J_bin rfl (Opd.tmp rfl) Opd.con B_sub)), ⟨rfl, trivial⟩, rfl, rfl⟩, ⟨.inr ⟨(OpJ.w (J_idx rfl Tryd.underlying52 sz46 (Opd.tmp rfl) (Opd.tmp rfl) hx13)), ⟨rfl, rfl, trivial⟩, rfl, rfl⟩, ⟨.inr ⟨(OpJ.w (J_aidxAddr rfl Tryd.underlying46 sz2 (Opd.tmp rfl) Opd.con fit_len (all_of (f := (cK .i64)) (k := 1) fun _ => rfl) hx14)), ⟨rfl, trivial⟩, rfl, rfl⟩, ⟨.inr ⟨(OpJ.w (J_load rfl Tryd.isAgg2 (Opd.tmp rfl))), ⟨rfl, trivial⟩, rfl, rfl⟩, ⟨.inr ⟨(OpJ.w (J_move rfl (Opd.tmp rfl))), ⟨rfl, trivial⟩, rfl, rfl⟩, ⟨.inr ⟨(OpJ.w (J_move rfl (Opd.tmp rfl))), ⟨rfl, trivial⟩, rfl, rfl⟩, ⟨.inr ⟨(OpJ.w (J_idx rfl Tryd.underlying52 sz46 (Opd.tmp rfl) (Opd.tmp rfl) hx15)), ⟨rfl, rfl, trivial⟩, rfl, rfl⟩, ⟨.inr ⟨(OpJ.w (J_aidxAddr rfl Tryd.underlying46 sz2 (Opd.tmp rfl) Opd.con fit_len (all_of (f := (cK .i64)) (k := 1) fun _ => rfl) hx16)), ⟨rfl, trivial⟩, rfl, rfl⟩, ⟨.inr ⟨(OpJ.w (J_load rfl Tryd.isAgg2 (Opd.tmp rfl))), ⟨rfl, trivial⟩, rfl, rfl⟩, ⟨.inr ⟨(OpJ.w (J_move rfl (Opd.tmp rfl))), ⟨rfl, trivial⟩, rfl, rfl⟩, ⟨.inr ⟨(OpJ.w (J_move rfl (Opd.tmp rfl))), ⟨rfl, trivial⟩, rfl, rfl⟩, ⟨.inr ⟨(OpJ.w (J_idx rfl Tryd.underlying52 sz46 (Opd.tmp rfl) (Opd.tmp rfl) hx17)), ⟨rfl, rfl, trivial⟩, rfl, rfl⟩, ⟨.inr ⟨(OpJ.w (J_aidxAddr rfl Tryd.underlying46 sz2 (Opd.tmp rfl) Opd.con fit_len (all_of (f := (cK .i64)) (k := 1) fun _ => rfl) hx18)), ⟨rfl, trivial⟩, rfl, rfl⟩, ⟨.inr ⟨(OpJ.w (J_load rfl Tryd.isAgg2 (Opd.tmp rfl))), ⟨rfl, trivial⟩, rfl, rfl⟩, ⟨.inr ⟨(OpJ.w (J_move rfl (Opd.tmp rfl))), ⟨rfl, trivial⟩, rfl, rfl⟩, ⟨.inr ⟨(OpJ.w (J_call rfl Tryd.call59 (c_impl_blend hx19) (Opds.cons (Opd.tmp rfl) (Opds.cons (Opd.tmp rfl) (Opds.cons (Opd.tmp rfl) (Opds.cons (Opd.tmp rfl) (Opds.cons (Opd.tmp rfl) Opds.nil))))))), ⟨rfl, rfl, rfl, rfl, rfl, trivial⟩, rfl, rfl⟩, trivial⟩⟩⟩⟩⟩⟩⟩⟩⟩⟩⟩⟩⟩⟩⟩⟩⟩⟩⟩⟩⟩⟩⟩⟩ ?_
    refine RegL.pure (p := (pEq (.int .i64 x19))) rfl rfl rfl (J_assign rfl (Opd.tmp rfl)) ?_
    refine RegL.nil ?_
    refine Ct.then_tr ?_
    refine Tr.weak (Γ' := [(4, (pEq (.int .i64 x19)))]) ⟨rfl, trivial⟩ ?_
    refine Tr.ret ?_
    replace h := Option.some.inj h; subst h
    exact Ct.retH1 (Ωx := []) () rfl (RvOk.tmp rfl) rfl

theorem c_impl_rainSpecific {f_0 : Int} {rain_1 : Int} {r : Int} (h : m_impl_rainSpecific f_0 rain_1 = some r) : CallJ Tryd.prog 58 [(pG (pTab 0 .u64 Lib.pow10Tab) (pEq (.int .i64 f_0))), (pEq (.int .i64 rain_1))] (pEq (.int .i64 r)) := by
  unfold m_impl_rainSpecific at h
  refine CallJ.enterH Tryd.func58 rfl Tryd.ntmps58 rfl fun W I0 H => ?_
  refine Tr.tab (s := 0) (k := 99999) rfl ?_; refine Tr.weak (Γ' := [(0, (pEq (.int .i64 f_0))), (1, (pEq (.int .i64 rain_1))), (99999, (pTab 0 .u64 Lib.pow10Tab))]) ⟨rfl, rfl, rfl, trivial⟩ ?_
  refine Tr.seq ?_
  refine Tr.region ?_
  refine RegL.pure (p := (pEq (.int .i64 (0 : Int)))) rfl rfl rfl (J_assign rfl Opd.con) ?_
  refine RegL.nil ?_
  refine Ct.then_tr ?_
  refine Tr.weak (Γ' := [(0, (pEq (.int .i64 f_0))), (1, (pEq (.int .i64 rain_1))), (99999, (pTab 0 .u64 Lib.pow10Tab))]) ⟨rfl, rfl, rfl, trivial⟩ ?_
  refine Tr.seq ?_
  refine Tr.region ?_
  refine RegL.pure (p := (pAgg (cArr (cK .i64) ([(1000 : Int), (-42000 : Int)] : (List Int))))) rfl rfl rfl (J_build (qss := [(0, (cK .i64) (1000 : Int)), (1, (cK .i64) (-42000 : Int))]) rfl bl46 bz46 (Parts.cons (Part.one Opd.con OneC.int) (Parts.cons (Part.one Opd.con OneC.int) Parts.nil)) rfl) ?_
  refine RegL.pure (p := (pAgg (cArr (cK .i64) ([(6000 : Int), (-28000 : Int)] : (List Int))))) rfl rfl rfl (J_build (qss := [(0, (cK .i64) (6000 : Int)), (1, (cK .i64) (-28000 : Int))]) rfl bl46 bz46 (Parts.cons (Part.one Opd.con OneC.int) (Parts.cons (Part.one Opd.con OneC.int) Parts.nil)) rfl) ?_
  refine RegL.pure (p := (pAgg (cArr (cK .i64) ([(10000 : Int), (-19500 : Int)] : (List Int))))) rfl rfl rfl (J_build (qss := [(0, (cK .i64) (10000 : Int)), (1, (cK .i64) (-19500 : Int))]) rfl bl46 bz46 (Parts.cons (Part.one Opd.con OneC.int) (Parts.cons (Part.one Opd.con OneC.int) Parts.nil)) rfl) ?_
  refine RegL.pure (p := (pAgg (cArr (cK .i64) ([(20000 : Int), (-11200 : Int)] : (List Int))))) rfl rfl rfl (J_build (qss := [(0, (cK .i64) (20000 : Int)), (1, (cK .i64) (-11200 : Int))]) rfl bl46 bz46 (Parts.cons (Part.one Opd.con OneC.int) (Parts.cons (Part.one Opd.con OneC.int) Parts.nil)) rfl) ?_
  refine RegL.pure (p := (pAgg (cArr (cK .i64) ([(40000 : Int), (-4000 : Int)] : (List Int))))) rfl rfl rfl (J_build (qss := [(0, (cK .i64) (40000 : Int)), (1, (cK .i64) (-4000 : Int))]) rfl bl46 bz46 (Parts.cons (Part.one Opd.con OneC.int) (Parts.cons (Part.one Opd.con OneC.int) Parts.nil)) rfl) ?_
  refine RegL.pure (p := (pAgg (cArr (cK .i64) ([(80000 : Int), (500 : Int)] : (List Int))))) rfl rfl rfl (J_build (qss := [(0, (cK .i64) (80000 : Int)), (1, (cK .i64) (500 : Int))]) rfl bl46 bz46 (Parts.cons (Part.one Opd.con OneC.int) (Parts.cons (Part.one Opd.con OneC.int) Parts.nil)) rfl) ?_
  refine RegL.pure (p := (pAgg (cArr (cK .i64) ([(100000 : Int), (900 : Int)] : (List Int))))) rfl rfl rfl (J_build (qss := [(0, (cK .i64) (100000 : Int)), (1, (cK .i64) (900 : Int))]) rfl bl46 bz46 (Parts.cons (Part.one Opd.con OneC.int) (Parts.cons (Part.one Opd.con OneC.int) Parts.nil)) rfl) ?_
  refine RegL.pure (p := (pSl 2 (cArrF 2 (0 : Int) (cK .i64)) ([([(1000 : Int), (-42000 : Int)] : (List Int)), ([(6000 : Int), (-28000 : Int)] : (List Int)), ([(10000 : Int), (-19500 : Int)] : (List Int)), ([(20000 : Int), (-11200 : Int)] : (List Int)), ([(40000 : Int), (-4000 : Int)] : (List Int)), ([(80000 : Int), (500 : Int)] : (List Int)), ([(100000 : Int), (900 : Int)] : (List Int))] : (List (List Int))))) rfl rfl rfl (J_buildSlice (l := ([([(1000 : Int), (-42000 : Int)] : (List Int)), ([(6000 : Int), (-28000 : Int)] : (List Int)), ([(10000 : Int), (-19500 : Int)] : (List Int)), ([(20000 : Int), (-11200 : Int)] : (List Int)), ([(40000 : Int), (-4000 : Int)] : (List Int)), ([(80000 : Int), (500 : Int)] : (List Int)), ([(100000 : Int), (900 : Int)] : (List Int))] : (List (List Int)))) (qss := [(0, (cArrF 2 (0 : Int) (cK .i64)) ([(1000 : Int), (-42000 : Int)] : (List Int))), (1, (cArrF 2 (0 : Int) (cK .i64)) ([(6000 : Int), (-28000 : Int)] : (List Int))), (2, (cArrF 2 (0 : Int) (cK .i64)) ([(10000 : Int), (-19500 : Int)] : (List Int))), (3, (cArrF 2 (0 : Int) (cK .i64)) ([(20000 : Int), (-11200 : Int)] : (List Int))), (4, (cArrF 2 (0 : Int) (cK .i64)) ([(40000 : Int), (-4000 : Int)] : (List Int))), (5, (cArrF 2 (0 : Int) (cK .i64)) ([(80000 : Int), (500 : Int)] : (List Int))), (6, (cArrF 2 (0 : Int) (cK .i64)) ([(100000 : Int), (900 : Int)] : (List Int)))]) rfl Tryd.underlying52 el46 rfl (Parts.cons (Part.agg (Opd.tmp rfl)) (Parts.cons (Part.agg (Opd.tmp rfl)) (Parts.cons (Part.agg (Opd.tmp rfl)) (Parts.cons (Part.agg (Opd.tmp rfl)) (Parts.cons (Part.agg (Opd.tmp rfl)) (Parts.cons (Part.agg (Opd.tmp rfl)) (Parts.cons (Part.agg (Opd.tmp rfl)) Parts.nil))))))) rfl rfl) ?_
  refine RegL.pure (p := (pEq (.int .i64 f_0))) rfl rfl rfl (J_move rfl (Opd.tmp rfl)) ?_
  replace h := bind_some h; obtain ⟨x1, hx1, h⟩ := h
  refine RegL.pure (p := (pEq (.int .i64 x1))) rfl rfl rfl (J_call rfl Tryd.call64 (c_impl_rowsAt hx1) (Opds.cons (Opd.tmp rfl) (Opds.cons (Opd.tmp rfl) Opds.nil))) ?_
  refine RegL.pure (p := (pEq (.int .i64 x1))) rfl rfl rfl (J_assign rfl (Opd.tmp rfl)) ?_
  refine RegL.nil ?_
  refine Ct.then_tr ?_
  refine Tr.weak (Γ' := [(0, (pEq (.int .i64 f_0))), (1, (pEq (.int .i64 rain_1))), (5, (pEq (.int .i64 x1))), (99999, (pTab 0 .u64 Lib.pow10Tab))]) ⟨rfl, rfl, rfl, rfl, trivial⟩ ?_
  refine Tr.seq ?_
  refine Tr.region ?_
  refine RegL.pure (p := (pAgg (cArr (cK .i64) ([(1000 : Int), (950 : Int)] : (List Int))))) rfl rfl rfl (J_build (qss := [(0, (cK .i64) (1000 : Int)), (1, (cK .i64) (950 : Int))]) rfl bl46 bz46 (Parts.cons (Part.one Opd.con OneC.int) (Parts.cons (Part.one Opd.con OneC.int) Parts.nil)) rfl) ?_
  refine RegL.pure (p := (pAgg (cArr (cK .i64) ([(6000 : Int), (1300 : Int)] : (List Int))))) rfl rfl rfl (J_build (qss := [(0, (cK .i64) (6000 : Int)), (1, (cK .i64) (1300 : Int))]) rfl bl46 bz46 (Parts.cons (Part.one Opd.con OneC.int) (Parts.cons (Part.one Opd.con OneC.int) Parts.nil)) rfl) ?_
  refine RegL.pure (p := (pAgg (cArr (cK .i64) ([(10000 : Int), (1250 : Int)] : (List Int))))) rfl rfl rfl (J_build (qss := [(0, (cK .i64) (10000 : Int)), (1, (cK .i64) (1250 : Int))]) rfl bl46 bz46 (Parts.cons (Part.one Opd.con OneC.int) (Parts.cons (Part.one Opd.con OneC.int) Parts.nil)) rfl) ?_
  refine RegL.pure (p := (pAgg (cArr (cK .i64) ([(20000 : Int), (1070 : Int)] : (List Int))))) rfl rfl rfl (J_build (qss := [(0, (cK .i64) (20000 : Int)), (1, (cK .i64) (1070 : Int))]) rfl bl46 bz46 (Parts.cons (Part.one Opd.con OneC.int) (Parts.cons (Part.one Opd.con OneC.int) Parts.nil)) rfl) ?_
  refine RegL.pure (p := (pAgg (cArr (cK .i64) ([(40000 : Int), (920 : Int)] : (List Int))))) rfl rfl rfl (J_build (qss := [(0, (cK .i64) (40000 : Int)), (1, (cK .i64) (920 : Int))]) rfl bl46 bz46 (Parts.cons (Part.one Opd.con OneC.int) (Parts.cons (Part.one Opd.con OneC.int) Parts.nil)) rfl) ?_
  refine RegL.pure (p := (pAgg (cArr (cK .i64) ([(80000 : Int), (740 : Int)] : (List Int))))) rfl rfl rfl (J_build (qss := [(0, (cK .i64) (80000 : Int)), (1, (cK .i64) (740 : Int))]) rfl bl46 bz46 (Parts.cons (Part.one Opd.con OneC.int) (Parts.cons (Part.one Opd.con OneC.int) Parts.nil)) rfl) ?_
  refine RegL.pure (p := (pAgg (cArr (cK .i64) ([(100000 : Int), (700 : Int)] : (List Int))))) rfl rfl rfl (J_build (qss := [(0, (cK .i64) (100000 : Int)), (1, (cK .i64) (700 : Int))]) rfl bl46 bz46 (Parts.cons (Part.one Opd.con OneC.int) (Parts.cons (Part.one Opd.con OneC.int) Parts.nil)) rfl) ?_
  refine RegL.pure (p := (pSl 2 (cArrF 2 (0 : Int) (cK .i64)) ([([(1000 : Int), (950 : Int)] : (List Int)), ([(6000 : Int), (1300 : Int)] : (List Int)), ([(10000 : Int), (1250 : Int)] : (List Int)), ([(20000 : Int), (1070 : Int)] : (List Int)), ([(40000 : Int), (920 : Int)] : (List Int)), ([(80000 : Int), (740 : Int)] : (List Int)), ([(100000 : Int), (700 : Int)] : (List Int))] : (List (List Int))))) rfl rfl rfl (J_buildSlice (l := ([([(1000 : Int), (950 : Int)] : (List Int)), ([(6000 : Int), (1300 : Int)] : (List Int)), ([(10000 : Int), (1250 : Int)] : (List Int)), ([(20000 : Int), (1070 : Int)] : (List Int)), ([(40000 : Int), (920 : Int)] : (List Int)), ([(80000 : Int), (740 : Int)] : (List Int)), ([(100000 : Int), (700 : Int)] : (List Int))] : (List (List Int)))) (qss := [(0, (cArrF 2 (0 : Int) (cK .i64)) ([(1000 : Int), (950 : Int)] : (List Int))), (1, (cArrF 2 (0 : Int) (cK .i64)) ([(6000 : Int), (1300 : Int)] : (List Int))), (2, (cArrF 2 (0 : Int) (cK .i64)) ([(10000 : Int), (1250 : Int)] : (List Int))), (3, (cArrF 2 (0 : Int) (cK .i64)) ([(20000 : Int), (1070 : Int)] : (List Int))), (4, (cArrF 2 (0 : Int) (cK .i64)) ([(40000 : Int), (920 : Int)] : (List Int))), (5, (cArrF 2 (0 : Int) (cK .i64)) ([(80000 : Int), (740 : Int)] : (List Int))), (6, (cArrF 2 (0 : Int) (cK .i64)) ([(100000 : Int), (700 : Int)] : (List Int)))]) rfl Tryd.underlying52 el46 rfl (Parts.cons (Part.agg (Opd.tmp rfl)) (Parts.cons (Part.agg (Opd.tmp rfl)) (Parts.cons (Part.agg (Opd.tmp rfl)) (Parts.cons (Part.agg (Opd.tmp rfl)) (Parts.cons (Part.agg (Opd.tmp rfl)) (Parts.cons (Part.agg (Opd.tmp rfl)) (Parts.cons (Part.agg (Opd.tmp rfl)) Parts.nil))))))) rfl rfl) ?_
  refine RegL.pure (p := (pEq (.int .i64 f_0))) rfl rfl rfl (J_move rfl (Opd.tmp rfl)) ?_
  replace h := bind_some h; obtain ⟨x2, hx2, h⟩ := h
  refine RegL.pure (p := (pEq (.int .i64 x2))) rfl rfl rfl (J_call rfl Tryd.call64 (c_impl_rowsAt hx2) (Opds.cons (Opd.tmp rfl) (Opds.cons (Opd.tmp rfl) Opds.nil))) ?_
  refine RegL.pure (p := (pEq (.int .i64 x2))) rfl rfl rfl (J_assign rfl (Opd.tmp rfl)) ?_
  refine RegL.nil ?_
  refine Ct.then_tr ?_
  refine Tr.weak (Γ' := [(1, (pEq (.int .i64 rain_1))), (5, (pEq (.int .i64 x1))), (6, (pEq (.int .i64 x2))), (99999, (pTab 0 .u64 Lib.pow10Tab))]) ⟨rfl, rfl, rfl, rfl, trivial⟩ ?_
  refine Tr.seq ?_
  refine Tr.region ?_
  refine RegL.pure (p := (pEq (.int .i64 x1))) rfl rfl rfl (J_move rfl (Opd.tmp rfl)) ?_
  refine RegL.pure (p := (pEq (.int .i64 (w64 (x1 + (30000 : Int)))))) rfl rfl rfl (J_bin rfl (Opd.tmp rfl) Opd.con B_add) ?_
  refine RegL.pure (p := (pEq (.int .i64 x2))) rfl rfl rfl (J_move rfl (Opd.tmp rfl)) ?_
  refine RegL.pure (p := (pEq (.int .i64 rain_1))) rfl rfl rfl (J_move rfl (Opd.tmp rfl)) ?_
  replace h := bind_some h; obtain ⟨x3, hx3, h⟩ := h
  refine RegL.pure (p := (pEq (.int .i64 x3))) rfl rfl rfl (J_call rfl Tryd.call39 (c_impl_LogDb hx3) (Opds.cons (Opd.tab (Opd.tmp rfl) 99999 rfl) Opds.nil)) ?_
  refine RegL.pure (p := (pEq (.int .i64 (w64 (x2 * x3))))) rfl rfl rfl (J_bin rfl (Opd.tmp rfl) (Opd.tmp rfl) B_mul) ?_
  replace h := bind_some h; obtain ⟨x4, hx4, h⟩ := h
  refine RegL.pure (p := (pEq (.int .i64 x4))) rfl rfl rfl (J_call rfl Tryd.call57 (c_impl_divRound hx4) (Opds.cons (Opd.tmp rfl) (Opds.cons Opd.con Opds.nil))) ?_
  refine RegL.pure (p := (pEq (.int .i64 (w64 ((w64 (x1 + (30000 : Int))) + x4))))) rfl rfl rfl (J_bin rfl (Opd.tmp rfl) (Opd.tmp rfl) B_add) ?_
  refine RegL.pure (p := (pEq (.int .i64 (w64 ((w64 (x1 + (30000 : Int))) + x4))))) rfl rfl rfl (J_assign rfl (Opd.tmp rfl)) ?_
  refine RegL.nil ?_
  refine Ct.then_tr ?_
  refine Tr.weak (Γ' := [(1, (pEq (.int .i64 rain_1))), (7, (pEq (.int .i64 (w64 ((w64 (x1 + (30000 : Int))) + x4))))), (99999, (pTab 0 .u64 Lib.pow10Tab))]) ⟨rfl, rfl, rfl, trivial⟩ ?_
  refine Tr.seq ?_
  refine Tr.seq ?_
  replace h := bind_some h; obtain ⟨x5, hx5, h⟩ := h
  refine Tr.cut (γ := Unit) (Γm := fun g => [(7, (pEq (.int .i64 (w64 ((w64 (x1 + (30000 : Int))) + x4))))), (41, (pEq (.bool x5))), (99999, (pTab 0 .u64 Lib.pow10Tab))]) (Ωm := fun g => []) ?_ (fun g7 => ?_)
  · clear h
    have h := hx5
    clear hx5
    refine Tr.region ?_
    refine RegL.pure (p := (pEq (.int .i64 rain_1))) rfl rfl rfl (J_move rfl (Opd.tmp rfl)) ?_
    refine RegL.pure (p := (pEq (.bool (rain_1 == (0 : Int))))) rfl rfl rfl (J_bin rfl (Opd.tmp rfl) Opd.con B_eql) ?_
    refine RegL.pure (p := (pEq (.bool (rain_1 == (0 : Int))))) rfl rfl rfl (J_move rfl (Opd.tmp rfl)) ?_
    rcases Bool.eq_false_or_eq_true (rain_1 == (0 : Int)) with hc6 | hc6
    · replace h := bif_t hc6 h
      refine RegL.skipG rfl rfl rfl hc6 rfl rfl ?_
      refine RegL.skipG rfl rfl rfl hc6 rfl rfl ?_
      refine RegL.pure (p := (pEq (.bool true))) rfl rfl rfl (J_pick rfl (Opd.tmp rfl) (fun _ => Opd.con) (fun hf => absurd (hc6.symm.trans hf) (by decide))) ?_
      refine RegL.nil ?_
      replace h := Option.some.inj h; subst h
      exact Ct.mid () rfl ⟨rfl, rfl, rfl, trivial⟩
    · replace h := bif_f hc6 h
      refine RegL.pureG (p := (pEq (.int .i64 (w64 ((w64 (x1 + (30000 : Int))) + x4))))) rfl rfl rfl hc6 rfl rfl (J_move rfl (Opd.tmp rfl)) ?_
      refine RegL.pureG (p := (pEq (.bool (decide ((w64 ((w64 (x1 + (30000 : Int))) + x4)) < (0 : Int)))))) rfl rfl rfl hc6 rfl rfl (J_bin rfl (Opd.tmp rfl) Opd.con B_lss) ?_
      refine RegL.pure (p := (pEq (.bool (decide ((w64 ((w64 (x1 + (30000 : Int))) + x4)) < (0 : Int)))))) rfl rfl rfl (J_pick rfl (Opd.tmp rfl) (fun hf => absurd (hc6.symm.trans hf) (by decide)) (fun _ => (Opd.tmp rfl))) ?_
      refine RegL.nil ?_
      replace h := Option.some.inj h; subst h
      exact Ct.mid () rfl ⟨rfl, rfl, rfl, trivial⟩
  · clear hx5
    refine Ct.then_tr ?_
    refine Tr.weak (Γ' := [(7, (pEq (.int .i64 (w64 ((w64 (x1 + (30000 : Int))) + x4))))), (41, (pEq (.bool x5))), (99999, (pTab 0 .u64 Lib.pow10Tab))]) ⟨rfl, rfl, rfl, trivial⟩ ?_
    refine Tr.cond (Opd.tmp rfl) (fun hc => ?_) (fun hc => ?_)
    · replace h := bif_t hc h
      refine Tr.seq ?_
      refine Tr.region ?_
      refine RegL.pure (p := (pEq (.int .i64 (0 : Int)))) rfl rfl rfl (J_assign rfl Opd.con) ?_
      refine RegL.nil ?_
      refine Ct.then_tr ?_
      refine Tr.weak (Γ' := [(4, (pEq (.int .i64 (0 : Int)))), (99999, (pTab 0 .u64 Lib.pow10Tab))]) ⟨rfl, rfl, trivial⟩ ?_
      refine Tr.ret ?_
      refine Ct.then_ret ?_
      replace h := Option.some.inj h; subst h
      exact Ct.retH1 (Ωx := []) () rfl (RvOk.tmp rfl) rfl
    · replace h := bif_f hc h
      refine Tr.skip ?_
      refine Ct.then_tr ?_
      refine Tr.weak (Γ' := [(7, (pEq (.int .i64 (w64 ((w64 (x1 + (30000 : Int))) + x4))))), (99999, (pTab 0 .u64 Lib.pow10Tab))]) ⟨rfl, rfl, trivial⟩ ?_
      refine Tr.seq ?_
      refine Tr.region ?_
      refine RegL.pure (p := (pEq (.int .i64 (w64 ((w64 (x1 + (30000 : Int))) + x4))))) rfl rfl rfl (J_move rfl (Opd.tmp rfl)) ?_
      replace h := bind_some h; obtain ⟨x8, hx8, h⟩ := h
      refine RegL.pure (p := (pEq (.int .i64 x8))) rfl rfl rfl (J_call rfl Tryd.call40 (c_impl_PowDb hx8) (Opds.cons (Opd.tab (Opd.tmp rfl) 99999 rfl) Opds.nil)) ?_
      refine RegL.pure (p := (pEq (.int .i64 x8))) rfl rfl rfl (J_assign rfl (Opd.tmp rfl)) ?_
      refine RegL.nil ?_
      refine Ct.then_tr ?_
      refine Tr.weak (Γ' := [(4, (pEq (.int .i64 x8))), (99999, (pTab 0 .u64 Lib.pow10Tab))]) ⟨rfl, rfl, trivial⟩ ?_
      refine Tr.ret ?_
      replace h := Option.some.inj h; subst h
      exact Ct.retH1 (Ωx := []) () rfl (RvOk.tmp rfl) rfl

theorem c_impl_rainLoss {f_0 : Int} {rain_1 : Int} {d_2 : Int} {r : Int} (h : m_impl_rainLoss f_0 rain_1 d_2 = some r) : CallJ Tryd.prog 47 [(pG (pTab 0 .u64 Lib.pow10Tab) (pEq (.int .i64 f_0))), (pEq (.int .i64 rain_1)), (pEq (.int .i64 d_2))] (pEq (.int .i64 r)) := by
  unfold m_impl_rainLoss at h
  refine CallJ.enterH Tryd.func47 rfl Tryd.ntmps47 rfl fun W I0 H => ?_
  refine Tr.tab (s := 0) (k := 99999) rfl ?_; refine Tr.weak (Γ' := [(0, (pEq (.int .i64 f_0))), (1, (pEq (.int .i64 rain_1))), (2, (pEq (.int .i64 d_2))), (99999, (pTab 0 .u64 Lib.pow10Tab))]) ⟨rfl, rfl, rfl, rfl, trivial⟩ ?_
  refine Tr.seq ?_
  refine Tr.region ?_
  refine RegL.pure (p := (pEq (.int .i64 (0 : Int)))) rfl rfl rfl (J_assign rfl Opd.con) ?_
  refine RegL.nil ?_
  refine Ct.then_tr ?_
  refine Tr.weak (Γ' := [(0, (pEq (.int .i64 f_0))), (1, (pEq (.int .i64 rain_1))), (2, (pEq (.int .i64 d_2))), (99999, (pTab 0 .u64 Lib.pow10Tab))]) ⟨rfl, rfl, rfl, rfl, trivial⟩ ?_
  refine Tr.seq ?_
  refine Tr.region ?_
  refine RegL.pure (p := (pEq (.int .i64 rain_1))) rfl rfl rfl (J_move rfl (Opd.tmp rfl)) ?_
  refine RegL.pure (p := (pEq (.int .i64 (w64 ((15 : Int) * rain_1))))) rfl rfl rfl (J_bin rfl Opd.con (Opd.tmp rfl) B_mul) ?_
  refine RegL.pure (p := (pEq (.int .i64 (w64 ((1000 : Int) + (w64 ((15 : Int) * rain_1))))))) rfl rfl rfl (J_bin rfl Opd.con (Opd.tmp rfl) B_add) ?_
  replace h := bind_some h; obtain ⟨x1, hx1, h⟩ := h
  refine RegL.pure (p := (pEq (.int .i64 x1))) rfl rfl rfl (J_call rfl Tryd.call57 (c_impl_divRound hx1) (Opds.cons Opd.con (Opds.cons (Opd.tmp rfl) Opds.nil))) ?_
  refine RegL.pure (p := (pEq (.int .i64 x1))) rfl rfl rfl (J_assign rfl (Opd.tmp rfl)) ?_
  refine RegL.nil ?_
  refine Ct.then_tr ?_
  refine Tr.weak (Γ' := [(0, (pEq (.int .i64 f_0))), (1, (pEq (.int .i64 rain_1))), (2, (pEq (.int .i64 d_2))), (7, (pEq (.int .i64 x1))), (99999, (pTab 0 .u64 Lib.pow10Tab))]) ⟨rfl, rfl, rfl, rfl, rfl, trivial⟩ ?_
  refine Tr.seq ?_
  refine Tr.region ?_
  refine RegL.pure (p := (pEq (.int .i64 f_0))) rfl rfl rfl (J_move rfl (Opd.tmp rfl)) ?_
  refine RegL.pure (p := (pEq (.int .i64 rain_1))) rfl rfl rfl (J_move rfl (Opd.tmp rfl)) ?_
  replace h := bind_some h; obtain ⟨x2, hx2, h⟩ := h
  refine RegL.pure (p := (pEq (.int .i64 x2))) rfl rfl rfl (J_call rfl Tryd.call58 (c_impl_rainSpecific hx2) (Opds.cons (Opd.tab (Opd.tmp rfl) 99999 rfl) (Opds.cons (Opd.tmp rfl) Opds.nil))) ?_
  refine RegL.pure (p := (pEq (.int .i64 d_2))) rfl rfl rfl (J_move rfl (Opd.tmp rfl)) ?_
  refine RegL.pure (p := (pEq (.int .i64 (w64 (x2 * d_2))))) rfl rfl rfl (J_bin rfl (Opd.tmp rfl) (Opd.tmp rfl) B_mul) ?_
  refine RegL.pure (p := (pEq (.int .i64 x1))) rfl rfl rfl (J_move rfl (Opd.tmp rfl)) ?_
  refine RegL.pure (p := (pEq (.int .i64 (w64 ((w64 (x2 * d_2)) * x1))))) rfl rfl rfl (J_bin rfl (Opd.tmp rfl) (Opd.tmp rfl) B_mul) ?_
  refine RegL.pure (p := (pEq (.int .i64 d_2))) rfl rfl rfl (J_move rfl (Opd.tmp rfl)) ?_
  refine RegL.pure (p := (pEq (.int .i64 x1))) rfl rfl rfl (J_move rfl (Opd.tmp rfl)) ?_
  refine RegL.pure (p := (pEq (.int .i64 (w64 (d_2 + x1))))) rfl rfl rfl (J_bin rfl (Opd.tmp rfl) (Opd.tmp rfl) B_add) ?_
  refine RegL.pure (p := (pEq (.int .i64 (w64 ((1000 : Int) * (w64 (d_2 + x1))))))) rfl rfl rfl (J_bin rfl Opd.con (Opd.tmp rfl) B_mul) ?_
  replace h := bind_some h; obtain ⟨x3, hx3, h⟩ := h
  refine RegL.pure (p := (pEq (.int .i64 x3))) rfl rfl rfl (J_call rfl Tryd.call57 (c_impl_divRound hx3) (Opds.cons (Opd.tmp rfl) (Opds.cons (Opd.tmp rfl) Opds.nil))) ?_
  refine RegL.pure (p := (pEq (.int .i64 x3))) rfl rfl rfl (J_assign rfl (Opd.tmp rfl)) ?_
  refine RegL.nil ?_
  refine Ct.then_tr ?_
  refine Tr.weak (Γ' := [(6, (pEq (.int .i64 x3))), (99999, (pTab 0 .u64 Lib.pow10Tab))]) ⟨rfl, rfl, trivial⟩ ?_
  refine Tr.ret ?_
  replace h := Option.some.inj h; subst h
  exact Ct.retH1 (Ωx := []) () rfl (RvOk.tmp rfl) rfl


end Go.Proofs.YtgianbkngpfpnaaDoor.fnExactHopOutageW
