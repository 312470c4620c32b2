/-
  The walks that the law FnExactWorstRatio reaches: each function computes its model. Printed by our own program.
-/
import Derived.Test.YtbhegklilcpbmaaDoorProg
import Derived.Test.YtbhegklilcpbmaaDoorMod
import Derived.Test.YtbhegklilcpbmaaDoorZero
import Derived.KernelRfl
import Derived.Test.YtbhegklilcpbmaaDoorTab
import Derived.Shelf.Strconv.Itoa4
namespace Go.Proofs.YtbhegklilcpbmaaDoor.fnExactWorstRatioW
open Go Go.RowKit Go.Wk
set_option linter.unusedVariables false
set_option maxRecDepth 100000
theorem hmix : Tryd.prog.follows .mixedOrders = true := by kernel_rfl
theorem sz2 : ∀ w, (Go.sizeOf 2).run Tryd.prog w = .ok 1 w := fun _ => by kernel_rfl
theorem sz22 : ∀ w, (Go.sizeOf 22).run Tryd.prog w = .ok 1 w := fun _ => by kernel_rfl
theorem sz114 : ∀ w, (Go.sizeOf 114).run Tryd.prog w = .ok 2 w := fun _ => by kernel_rfl
theorem zero114 : Zero Tryd.prog 114 [(pEq (.int .i64 (0 : Int))), (pEq (.int .i64 (0 : Int)))] := ⟨(.agg #[.int .i64 0, .int .i64 0]), [.int .i64 0, .int .i64 0], fun _ => by kernel_rfl, rfl, fun _ _ => ⟨rfl, ⟨rfl, trivial⟩⟩⟩
theorem bl114 : ∀ ps, Tryd.prog.built 114 ps = Instr.fill (fun x => (#[(0, 1), (1, 1)] : Array (Nat × Nat))[x]?) (List.toArray [.int .i64 0, .int .i64 0]) ps := fun _ => by kernel_rfl
theorem bz114 : ∀ I w, Vals I w [(pEq (.int .i64 (0 : Int))), (pEq (.int .i64 (0 : Int)))] [.int .i64 0, .int .i64 0] := fun _ _ => ⟨rfl, ⟨rfl, trivial⟩⟩
theorem bz114o : ∀ I w, Vals I w [(pEq (.int .i64 (0 : Int))), (pEq (.int .i64 (0 : Int)))] [.int .i64 0, .int .i64 0] := fun _ _ => ⟨rfl, ⟨rfl, trivial⟩⟩
theorem el2i : (Tryd.prog.info? 2).map (fun i => (i.zero, i.size, i.bytes)) = some (some (.int .i64 0), 1, 8) := by kernel_rfl
theorem el2 : Elem Tryd.prog 2 1 8 (cK .i64) (0 : Int) := by
  obtain ⟨i, h1, h2, h3, h4⟩ := info_parts el2i
  exact ⟨i, (.int .i64 0), [.int .i64 0], h1, h2, h3, h4, rfl, rfl, by decide, fun _ _ => ⟨rfl, trivial⟩, fun _ => rfl, fun _ _ _ _ h => ones_of ((OneCs.cons OneC.int OneCs.nil)) h⟩
theorem elh22i : (Tryd.prog.info? 22).map (fun i => (i.zero, i.size, i.bytes)) = some (some (.slice none 0 0), 1, 24) := by kernel_rfl
theorem elh22 : Elem Tryd.prog 22 1 24 cHdr ((none, 0, 0) : G3) := by
  obtain ⟨i, h1, h2, h3, h4⟩ := info_parts elh22i
  exact ⟨i, .slice none 0 0, [.slice none 0 0], h1, h2, h3, h4, rfl, rfl, by decide, fun _ _ => ⟨rfl, trivial⟩, fun _ => rfl, fun _ _ _ _ h => ones_of (OneCs.cons OneC.slice OneCs.nil) h⟩
section
open Go.Shelf
def lays98_ren : Go.Shelf.Ren := ⟨fun | 173 => 98 | 246 => 117 | 283 => 129 | 284 => 130 | 285 => 131 | 286 => 132 | 129 => 144 | 317 => 143 | 318 => 145 | 319 => 146 | 320 => 147 | 337 => 158 | 338 => 159 | n => n, fun | 2 => 2 | 3 => 3 | 9 => 9 | 4 => 4 | 171 => 126 | 0 => 0 | 53 => 127 | 37 => 93 | 5 => 5 | 173 => 130 | 212 => 146 | 51 => 147 | 20 => 20 | 213 => 148 | 46 => 139 | 232 => 166 | 233 => 167 | n => n, fun | 17 => 1 | 18 => 6 | 19 => 7 | n => n⟩
theorem lays98 : Go.Proofs.LaysM.n173 Tryd.prog lays98_ren := {
  mixed := by kernel_rfl
  f129 := Tryd.func144.trans (congrArg some (by kernel_rfl))
  f173 := Tryd.func98.trans (congrArg some (by kernel_rfl))
  f246 := Tryd.func117.trans (congrArg some (by kernel_rfl))
  f283 := Tryd.func129.trans (congrArg some (by kernel_rfl))
  f284 := Tryd.func130.trans (congrArg some (by kernel_rfl))
  f285 := Tryd.func131.trans (congrArg some (by kernel_rfl))
  f286 := Tryd.func132.trans (congrArg some (by kernel_rfl))
  f317 := Tryd.func143.trans (congrArg some (by kernel_rfl))
  f318 := Tryd.func145.trans (congrArg some (by kernel_rfl))
  f319 := Tryd.func146.trans (congrArg some (by kernel_rfl))
  f320 := Tryd.func147.trans (congrArg some (by kernel_rfl))
  f337 := Tryd.func158.trans (congrArg some (by kernel_rfl))
  f338 := Tryd.func159.trans (congrArg some (by kernel_rfl))
  t0 := Tryd.underlying0
  a0 := Tryd.isAgg0
  z0 := Tryd.sizeOf0
  v0 := Tryd.zeroValue0
  t2 := Tryd.underlying2
  a2 := Tryd.isAgg2
  z2 := Tryd.sizeOf2
  v2 := Tryd.zeroValue2
  t3 := Tryd.underlying3
  a3 := Tryd.isAgg3
  z3 := Tryd.sizeOf3
  v3 := Tryd.zeroValue3
  t4 := Tryd.underlying4
  a4 := Tryd.isAgg4
  z4 := Tryd.sizeOf4
  v4 := Tryd.zeroValue4
  t5 := Tryd.underlying5
  a5 := Tryd.isAgg5
  z5 := Tryd.sizeOf5
  v5 := Tryd.zeroValue5
  t9 := Tryd.underlying9
  a9 := Tryd.isAgg9
  z9 := Tryd.sizeOf9
  v9 := Tryd.zeroValue9
  t20 := Tryd.underlying20
  a20 := Tryd.isAgg20
  z20 := Tryd.sizeOf20
  v20 := Tryd.zeroValue20
  t37 := Tryd.underlying93
  a37 := Tryd.isAgg93
  z37 := Tryd.sizeOf93
  v37 := Tryd.zeroValue93
  t46 := Tryd.underlying139
  a46 := Tryd.isAgg139
  z46 := Tryd.sizeOf139
  v46 := Tryd.zeroValue139
  t51 := Tryd.underlying147
  a51 := Tryd.isAgg147
  z51 := Tryd.sizeOf147
  v51 := Tryd.zeroValue147
  t53 := Tryd.underlying127
  a53 := Tryd.isAgg127
  z53 := Tryd.sizeOf127
  v53 := Tryd.zeroValue127
  t171 := Tryd.underlying126
  a171 := Tryd.isAgg126
  z171 := Tryd.sizeOf126
  v171 := Tryd.zeroValue126
  t173 := Tryd.underlying130
  a173 := Tryd.isAgg130
  z173 := Tryd.sizeOf130
  v173 := Tryd.zeroValue130
  t212 := Tryd.underlying146
  a212 := Tryd.isAgg146
  z212 := Tryd.sizeOf146
  v212 := Tryd.zeroValue146
  t213 := Tryd.underlying148
  a213 := Tryd.isAgg148
  z213 := Tryd.sizeOf148
  t232 := Tryd.underlying166
  a232 := Tryd.isAgg166
  z232 := Tryd.sizeOf166
  v232 := Tryd.zeroValue166
  t233 := Tryd.underlying167
  a233 := Tryd.isAgg167
  z233 := Tryd.sizeOf167
  v233 := Tryd.zeroValue167
  g17 := by kernel_rfl
  g18 := by kernel_rfl
  g19 := by kernel_rfl
  i0 := by kernel_rfl
  i2 := by kernel_rfl
  i3 := by kernel_rfl
  i4 := by kernel_rfl
  i5 := by kernel_rfl
  i9 := by kernel_rfl
  i20 := by kernel_rfl
  i37 := by kernel_rfl
  i46 := by kernel_rfl
  i51 := by kernel_rfl
  i53 := by kernel_rfl
  i171 := by kernel_rfl
  i173 := by kernel_rfl
  i212 := by kernel_rfl
  i232 := by kernel_rfl
  i233 := by kernel_rfl
  m17 := by kernel_rfl
  m18 := by kernel_rfl
  m19 := by kernel_rfl }
end



theorem c_laws_szInt64S {a_0 : (List Int)} {left_1 : Int} {r : Int} (h : m_laws_szInt64S a_0 left_1 = some r) : CallJ Tryd.prog 45 [(pSl 1 (cK .i64) a_0), (pEq (.int .i64 left_1))] (pEq (.int .i64 r)) := by
  unfold m_laws_szInt64S at h
  refine CallJ.enterH Tryd.func45 rfl Tryd.ntmps45 rfl fun W I0 H => ?_
  refine Tr.weak (Γ' := [(0, (pSl 1 (cK .i64) a_0)), (1, (pEq (.int .i64 left_1)))]) ⟨rfl, rfl, trivial⟩ ?_
  refine Tr.seq ?_
  refine Tr.region ?_
  refine RegL.pure (p := (pEq (.int .i64 (0 : Int)))) rfl rfl rfl (J_assign rfl Opd.con) ?_
  refine RegL.nil ?_
  refine Ct.then_tr ?_
  refine Tr.weak (Γ' := [(0, (pSl 1 (cK .i64) a_0)), (1, (pEq (.int .i64 left_1)))]) ⟨rfl, rfl, trivial⟩ ?_
  refine Tr.seq ?_
  refine Tr.region ?_
  refine RegL.pure (p := (pEq (.int .i64 left_1))) rfl rfl rfl (J_move rfl (Opd.tmp rfl)) ?_
  refine RegL.pure (p := (pSl 1 (cK .i64) a_0)) rfl rfl rfl (J_move rfl (Opd.tmp rfl)) ?_
  refine RegL.pure (p := (pEq (.int .i64 (a_0.length : Int)))) rfl rfl rfl (J_len rfl Tryd.underlying22 (Opd.tmp rfl) rfl) ?_
  refine RegL.pure (p := (pEq (.int .i64 (w64 (left_1 - (a_0.length : Int)))))) rfl rfl rfl (J_bin rfl (Opd.tmp rfl) (Opd.tmp rfl) B_sub) ?_
  refine RegL.pure (p := (pEq (.int .i64 (w64 (left_1 - (a_0.length : Int)))))) rfl rfl rfl (J_assign rfl (Opd.tmp rfl)) ?_
  refine RegL.nil ?_
  refine Ct.then_tr ?_
  refine Tr.weak (Γ' := [(1, (pEq (.int .i64 (w64 (left_1 - (a_0.length : Int))))))]) ⟨rfl, trivial⟩ ?_
  refine Tr.seq ?_
  refine Tr.seq ?_
  refine Tr.region ?_
  refine RegL.pure (p := (pEq (.int .i64 (w64 (left_1 - (a_0.length : Int)))))) rfl rfl rfl (J_move rfl (Opd.tmp rfl)) ?_
  refine RegL.pure (p := (pEq (.bool (decide ((w64 (left_1 - (a_0.length : Int))) < (0 : Int)))))) rfl rfl rfl (J_bin rfl (Opd.tmp rfl) Opd.con B_lss) ?_
  refine RegL.nil ?_
  refine Ct.then_tr ?_
  refine Tr.weak (Γ' := [(1, (pEq (.int .i64 (w64 (left_1 - (a_0.length : Int)))))), (10, (pEq (.bool (decide ((w64 (left_1 - (a_0.length : Int))) < (0 : Int))))))]) ⟨rfl, rfl, trivial⟩ ?_
  refine Tr.cond (Opd.tmp rfl) (fun hc => ?_) (fun hc => ?_)
  · replace h := bif_t hc h
    refine Tr.seq ?_
    refine Tr.region ?_
    refine RegL.pure (p := (pEq (.int .i64 (-1 : Int)))) rfl rfl rfl (J_assign rfl Opd.con) ?_
    refine RegL.nil ?_
    refine Ct.then_tr ?_
    refine Tr.weak (Γ' := [(4, (pEq (.int .i64 (-1 : Int))))]) ⟨rfl, trivial⟩ ?_
    refine Tr.ret ?_
    refine Ct.then_ret ?_
    replace h := Option.some.inj h; subst h
    exact Ct.retH1 (Ωx := []) () rfl (RvOk.tmp rfl) rfl
  · replace h := bif_f hc h
    refine Tr.skip ?_
    refine Ct.then_tr ?_
    refine Tr.weak (Γ' := [(1, (pEq (.int .i64 (w64 (left_1 - (a_0.length : Int))))))]) ⟨rfl, trivial⟩ ?_
    refine Tr.seq ?_
    refine Tr.region ?_
    refine RegL.pure (p := (pEq (.int .i64 (w64 (left_1 - (a_0.length : Int)))))) rfl rfl rfl (J_move rfl (Opd.tmp rfl)) ?_
    refine RegL.pure (p := (pEq (.int .i64 (w64 (left_1 - (a_0.length : Int)))))) rfl rfl rfl (J_assign rfl (Opd.tmp rfl)) ?_
    refine RegL.nil ?_
    refine Ct.then_tr ?_
    refine Tr.weak (Γ' := [(4, (pEq (.int .i64 (w64 (left_1 - (a_0.length : Int))))))]) ⟨rfl, trivial⟩ ?_
    refine Tr.ret ?_
    replace h := Option.some.inj h; subst h
    exact Ct.retH1 (Ωx := []) () rfl (RvOk.tmp rfl) rfl

theorem c_laws_szInt64SS {a_0 : (List (List Int))} {left_1 : Int} {r : Int} (h : m_laws_szInt64SS a_0 left_1 = some r) : CallJ Tryd.prog 13 [(pSl 1 (cSl 1 (cK .i64)) a_0), (pEq (.int .i64 left_1))] (pEq (.int .i64 r)) := by
  unfold m_laws_szInt64SS at h
  refine CallJ.enterH Tryd.func13 rfl Tryd.ntmps13 rfl fun W I0 H => ?_
  refine Tr.weak (Γ' := [(0, (pSl 1 (cSl 1 (cK .i64)) a_0)), (1, (pEq (.int .i64 left_1)))]) ⟨rfl, rfl, trivial⟩ ?_
  refine Tr.seq ?_
  refine Tr.region ?_
  refine RegL.pure (p := (pEq (.int .i64 (0 : Int)))) rfl rfl rfl (J_assign rfl Opd.con) ?_
  refine RegL.nil ?_
  refine Ct.then_tr ?_
  refine Tr.weak (Γ' := [(0, (pSl 1 (cSl 1 (cK .i64)) a_0)), (1, (pEq (.int .i64 left_1)))]) ⟨rfl, rfl, trivial⟩ ?_
  refine Tr.seq ?_
  refine Tr.region ?_
  refine RegL.pure (p := (pEq (.int .i64 left_1))) rfl rfl rfl (J_move rfl (Opd.tmp rfl)) ?_
  refine RegL.pure (p := (pSl 1 (cSl 1 (cK .i64)) a_0)) rfl rfl rfl (J_move rfl (Opd.tmp rfl)) ?_
  refine RegL.pure (p := (pEq (.int .i64 (a_0.length : Int)))) rfl rfl rfl (J_len rfl Tryd.underlying28 (Opd.tmp rfl) rfl) ?_
  refine RegL.pure (p := (pEq (.int .i64 (w64 (left_1 - (a_0.length : Int)))))) rfl rfl rfl (J_bin rfl (Opd.tmp rfl) (Opd.tmp rfl) B_sub) ?_
  refine RegL.pure (p := (pEq (.int .i64 (w64 (left_1 - (a_0.length : Int)))))) rfl rfl rfl (J_assign rfl (Opd.tmp rfl)) ?_
  refine RegL.nil ?_
  refine Ct.then_tr ?_
  refine Tr.weak (Γ' := [(0, (pSl 1 (cSl 1 (cK .i64)) a_0)), (1, (pEq (.int .i64 (w64 (left_1 - (a_0.length : Int))))))]) ⟨rfl, rfl, trivial⟩ ?_
  refine Tr.seq ?_
  refine Tr.seq ?_
  refine Tr.region ?_
  refine RegL.pure (p := (pEq (.int .i64 (w64 (left_1 - (a_0.length : Int)))))) rfl rfl rfl (J_move rfl (Opd.tmp rfl)) ?_
  refine RegL.pure (p := (pEq (.bool (decide ((w64 (left_1 - (a_0.length : Int))) < (0 : Int)))))) rfl rfl rfl (J_bin rfl (Opd.tmp rfl) Opd.con B_lss) ?_
  refine RegL.nil ?_
  refine Ct.then_tr ?_
  refine Tr.weak (Γ' := [(0, (pSl 1 (cSl 1 (cK .i64)) a_0)), (1, (pEq (.int .i64 (w64 (left_1 - (a_0.length : Int)))))), (11, (pEq (.bool (decide ((w64 (left_1 - (a_0.length : Int))) < (0 : Int))))))]) ⟨rfl, rfl, rfl, trivial⟩ ?_
  refine Tr.cond (Opd.tmp rfl) (fun hc => ?_) (fun hc => ?_)
  · replace h := bif_t hc h
    refine Tr.seq ?_
    refine Tr.region ?_
    refine RegL.pure (p := (pEq (.int .i64 (-1 : Int)))) rfl rfl rfl (J_assign rfl Opd.con) ?_
    refine RegL.nil ?_
    refine Ct.then_tr ?_
    refine Tr.weak (Γ' := [(4, (pEq (.int .i64 (-1 : Int))))]) ⟨rfl, trivial⟩ ?_
    refine Tr.ret ?_
    refine Ct.then_ret ?_
    replace h := Option.some.inj h; subst h
    exact Ct.retH1 (Ωx := []) () rfl (RvOk.tmp rfl) rfl
  · replace h := bif_f hc h
    refine Tr.skip ?_
    refine Ct.then_tr ?_
    refine Tr.weak (Γ' := [(0, (pSl 1 (cSl 1 (cK .i64)) a_0)), (1, (pEq (.int .i64 (w64 (left_1 - (a_0.length : Int))))))]) ⟨rfl, rfl, trivial⟩ ?_
    refine Tr.seq ?_
    refine Tr.seq ?_
    refine Tr.region ?_
    refine RegL.pure (p := (pEq (.int .i64 (0 : Int)))) rfl rfl rfl (J_assign rfl Opd.con) ?_
    refine RegL.nil ?_
    refine Ct.then_tr ?_
    refine Tr.weak (Γ' := [(0, (pSl 1 (cSl 1 (cK .i64)) a_0)), (1, (pEq (.int .i64 (w64 (left_1 - (a_0.length : Int)))))), (5, (pEq (.int .i64 (0 : Int))))]) ⟨rfl, rfl, rfl, trivial⟩ ?_
    refine Tr.block ?_
    refine Tr.weak (Γ' := [(0, (pSl 1 (cSl 1 (cK .i64)) a_0)), (1, (pEq (.int .i64 (w64 (left_1 - (a_0.length : Int)))))), (5, (pEq (.int .i64 (0 : Int))))]) ⟨rfl, rfl, rfl, trivial⟩ ?_
    refine Tr.loop (γ := Unit) (σ := (Int × Int)) (Γσ := fun s g => [(0, (pSl 1 (cSl 1 (cK .i64)) a_0)), (1, (pEq (.int .i64 s.1))), (5, (pEq (.int .i64 s.2)))]) (Ωσ := fun s g => []) (g := ()) h ?_
    clear h
    rintro ⟨v2, v3⟩ g4 t h
    replace h : m_laws_szInt64SS_B1 a_0 v2 v3 = some t := h
    unfold m_laws_szInt64SS_B1 at h
    refine Tr.weakO (Γ' := [(0, (pSl 1 (cSl 1 (cK .i64)) a_0)), (1, (pEq (.int .i64 v2))), (5, (pEq (.int .i64 v3)))]) (Ω' := []) rfl ⟨rfl, rfl, rfl, trivial⟩ ?_
    refine Tr.seq ?_
    refine Tr.seq ?_
    refine Tr.region ?_
    refine RegL.pure (p := (pEq (.int .i64 v3))) rfl rfl rfl (J_move rfl (Opd.tmp rfl)) ?_
    refine RegL.pure (p := (pSl 1 (cSl 1 (cK .i64)) a_0)) rfl rfl rfl (J_move rfl (Opd.tmp rfl)) ?_
    refine RegL.pure (p := (pEq (.int .i64 (a_0.length : Int)))) rfl rfl rfl (J_len rfl Tryd.underlying28 (Opd.tmp rfl) rfl) ?_
    refine RegL.pure (p := (pEq (.bool (decide (v3 < (a_0.length : Int)))))) rfl rfl rfl (J_bin rfl (Opd.tmp rfl) (Opd.tmp rfl) B_lss) ?_
    refine RegL.nil ?_
    refine Ct.then_tr ?_
    refine Tr.weak (Γ' := [(0, (pSl 1 (cSl 1 (cK .i64)) a_0)), (1, (pEq (.int .i64 v2))), (5, (pEq (.int .i64 v3))), (15, (pEq (.bool (decide (v3 < (a_0.length : Int))))))]) ⟨rfl, rfl, rfl, rfl, trivial⟩ ?_
    refine Tr.cond (Opd.tmp rfl) (fun hc => ?_) (fun hc => ?_)
    · replace h := bif_t hc h
      refine Tr.skip ?_
      refine Ct.then_tr ?_
      refine Tr.weak (Γ' := [(0, (pSl 1 (cSl 1 (cK .i64)) a_0)), (1, (pEq (.int .i64 v2))), (5, (pEq (.int .i64 v3)))]) ⟨rfl, rfl, rfl, trivial⟩ ?_
      refine Tr.seq ?_
      refine Tr.block ?_
      refine Tr.seq ?_
      refine Tr.region ?_
      refine RegL.pure (p := (pSl 1 (cSl 1 (cK .i64)) a_0)) rfl rfl rfl (J_move rfl (Opd.tmp rfl)) ?_
      refine RegL.pure (p := (pEq (.int .i64 v3))) rfl rfl rfl (J_move rfl (Opd.tmp rfl)) ?_
      replace h := bind_some h; obtain ⟨x5, hx5, h⟩ := h
      refine RegL.pure (p := (pPtr ((cSl 1 (cK .i64)) x5))) rfl rfl rfl (J_idx rfl Tryd.underlying28 sz22 (Opd.tmp rfl) (Opd.tmp rfl) hx5) ?_
      refine RegL.pure (p := (pSl 1 (cK .i64) x5)) rfl rfl rfl (J_load rfl Tryd.isAgg22 (Opd.tmp rfl)) ?_
      refine RegL.pure (p := (pEq (.int .i64 v2))) rfl rfl rfl (J_move rfl (Opd.tmp rfl)) ?_
      replace h := bind_some h; obtain ⟨x6, hx6, h⟩ := h
      refine RegL.pure (p := (pEq (.int .i64 x6))) rfl rfl rfl (J_call rfl Tryd.call45 (c_laws_szInt64S hx6) (Opds.cons (Opd.tmp rfl) (Opds.cons (Opd.tmp rfl) Opds.nil))) ?_
      refine RegL.pure (p := (pEq (.int .i64 x6))) rfl rfl rfl (J_assign rfl (Opd.tmp rfl)) ?_
      refine RegL.nil ?_
      refine Ct.then_tr ?_
      refine Tr.weak (Γ' := [(0, (pSl 1 (cSl 1 (cK .i64)) a_0)), (1, (pEq (.int .i64 x6))), (5, (pEq (.int .i64 v3)))]) ⟨rfl, rfl, rfl, trivial⟩ ?_
      refine Tr.seq ?_
      refine Tr.region ?_
      refine RegL.pure (p := (pEq (.int .i64 x6))) rfl rfl rfl (J_move rfl (Opd.tmp rfl)) ?_
      refine RegL.pure (p := (pEq (.bool (decide (x6 < (0 : Int)))))) rfl rfl rfl (J_bin rfl (Opd.tmp rfl) Opd.con B_lss) ?_
      refine RegL.nil ?_
      refine Ct.then_tr ?_
      refine Tr.weak (Γ' := [(0, (pSl 1 (cSl 1 (cK .i64)) a_0)), (1, (pEq (.int .i64 x6))), (5, (pEq (.int .i64 v3))), (25, (pEq (.bool (decide (x6 < (0 : Int))))))]) ⟨rfl, rfl, rfl, rfl, trivial⟩ ?_
      refine Tr.cond (Opd.tmp rfl) (fun hc => ?_) (fun hc => ?_)
      · replace h := bif_t hc h
        refine Tr.seq ?_
        refine Tr.region ?_
        refine RegL.pure (p := (pEq (.int .i64 (-1 : Int)))) rfl rfl rfl (J_assign rfl Opd.con) ?_
        refine RegL.nil ?_
        refine Ct.then_tr ?_
        refine Tr.weak (Γ' := [(4, (pEq (.int .i64 (-1 : Int))))]) ⟨rfl, trivial⟩ ?_
        refine Tr.ret ?_
        refine Ct.blk_ret ?_
        refine Ct.then_ret ?_
        replace h := map_some h; obtain ⟨r1, h, rfl⟩ := h
        refine Ct.out_ret fun e => ?_
        subst e
        refine Ct.blk_ret ?_
        refine Ct.then_ret ?_
        replace h := Option.some.inj h; subst h
        exact Ct.retH1 (Ωx := []) () rfl (RvOk.tmp rfl) rfl
      · replace h := bif_f hc h
        refine Tr.skip ?_
        refine Ct.blk_normal ?_
        refine Ct.then_tr ?_
        refine Tr.weak (Γ' := [(0, (pSl 1 (cSl 1 (cK .i64)) a_0)), (1, (pEq (.int .i64 x6))), (5, (pEq (.int .i64 v3)))]) ⟨rfl, rfl, rfl, trivial⟩ ?_
        refine Tr.region ?_
        refine RegL.pure (p := (pEq (.int .i64 v3))) rfl rfl rfl (J_move rfl (Opd.tmp rfl)) ?_
        refine RegL.pure (p := (pEq (.int .i64 (w64 (v3 + (1 : Int)))))) rfl rfl rfl (J_bin rfl (Opd.tmp rfl) Opd.con B_add) ?_
        refine RegL.pure (p := (pEq (.int .i64 (w64 (v3 + (1 : Int)))))) rfl rfl rfl (J_assign rfl (Opd.tmp rfl)) ?_
        refine RegL.nil ?_
        replace h := Option.some.inj h; subst h
        exact Ct.again () rfl ⟨rfl, rfl, rfl, trivial⟩
    · replace h := bif_f hc h
      refine Tr.exit ?_
      refine Ct.then_exit ?_
      replace h := map_some h; obtain ⟨r1, h, rfl⟩ := h
      refine Ct.out_exit fun e => ?_
      subst e
      refine Ct.blk_exit ?_
      refine Ct.then_tr ?_
      refine Tr.weak (Γ' := [(1, (pEq (.int .i64 v2)))]) ⟨rfl, trivial⟩ ?_
      refine Tr.seq ?_
      refine Tr.region ?_
      refine RegL.pure (p := (pEq (.int .i64 v2))) rfl rfl rfl (J_move rfl (Opd.tmp rfl)) ?_
      refine RegL.pure (p := (pEq (.int .i64 v2))) rfl rfl rfl (J_assign rfl (Opd.tmp rfl)) ?_
      refine RegL.nil ?_
      refine Ct.then_tr ?_
      refine Tr.weak (Γ' := [(4, (pEq (.int .i64 v2)))]) ⟨rfl, trivial⟩ ?_
      refine Tr.ret ?_
      replace h := Option.some.inj h; subst h
      exact Ct.retH1 (Ωx := []) () rfl (RvOk.tmp rfl) rfl

theorem o_laws_toInt64S {a_0 : (List Int)}  {r : (List Int)} (h : m_laws_toInt64S a_0 = some r) : CallH Tryd.prog 10 [(pSl 1 (cK .i64) a_0)] [] (fun g : G3 => (pEq (.slice g.1 g.2.1 g.2.2))) (fun g : G3 => [oSl 2 1 (cK .i64) g.1 g.2.1 g.2.2 r]) := by
  unfold m_laws_toInt64S at h
  refine CallH.enter Tryd.func10 rfl Tryd.ntmps10 rfl fun W I0 H => ?_
  refine Tr.weak (Γ' := [(0, (pSl 1 (cK .i64) a_0))]) ⟨rfl, trivial⟩ ?_
  refine Tr.seq ?_
  refine Tr.region ?_
  refine RegL.pure (p := (pEq (.slice none 0 0))) rfl rfl rfl (J_assign rfl Opd.con) ?_
  refine RegL.nil ?_
  refine Ct.then_tr ?_
  refine Tr.weak (Γ' := [(0, (pSl 1 (cK .i64) a_0))]) ⟨rfl, trivial⟩ ?_
  refine Tr.seq ?_
  refine Tr.region ?_
  refine RegL.pure (p := (pSl 1 (cK .i64) a_0)) rfl rfl rfl (J_move rfl (Opd.tmp rfl)) ?_
  refine RegL.pure (p := (pEq (.int .i64 (a_0.length : Int)))) rfl rfl rfl (J_len rfl Tryd.underlying22 (Opd.tmp rfl) rfl) ?_
  replace h := bind_some h; obtain ⟨x1, hx1, h⟩ := h
  refine RegL.step (γ := Option Addr) (p := fun a => pEq (.slice a ((a_0.length : Int)).toNat ((a_0.length : Int)).toNat)) (Ω' := fun a => [oSl 2 1 (cK .i64) a ((a_0.length : Int)).toNat ((a_0.length : Int)).toNat x1]) rfl rfl rfl (M_make rfl Tryd.underlying22 el2 (by decide) (Opd.tmp rfl) hx1) fun o2 => ?_
  refine RegL.pure (p := (pEq (.slice o2 ((a_0.length : Int)).toNat ((a_0.length : Int)).toNat))) rfl rfl rfl (J_assign rfl (Opd.tmp rfl)) ?_
  refine RegL.nil ?_
  refine Ct.then_tr ?_
  refine Tr.weak (Γ' := [(0, (pSl 1 (cK .i64) a_0)), (3, (pEq (.slice o2 ((a_0.length : Int)).toNat ((a_0.length : Int)).toNat)))]) ⟨rfl, rfl, trivial⟩ ?_
  refine Tr.seq ?_
  refine Tr.seq ?_
  refine Tr.region ?_
  refine RegL.pure (p := (pEq (.int .i64 (0 : Int)))) rfl rfl rfl (J_assign rfl Opd.con) ?_
  refine RegL.nil ?_
  refine Ct.then_tr ?_
  refine Tr.weak (Γ' := [(0, (pSl 1 (cK .i64) a_0)), (3, (pEq (.slice o2 ((a_0.length : Int)).toNat ((a_0.length : Int)).toNat))), (4, (pEq (.int .i64 (0 : Int))))]) ⟨rfl, rfl, rfl, trivial⟩ ?_
  replace h := bind_some h; obtain ⟨x4, hx4, h⟩ := h
  refine Tr.cut (γ := G3) (Γm := fun g => [(3, (pEq (.slice g.1 g.2.1 g.2.2)))]) (Ωm := fun g => [oSl 2 1 (cK .i64) g.1 g.2.1 g.2.2 x4]) ?_ (fun g12 => ?_)
  · clear h
    have h := hx4
    clear hx4
    refine Tr.block ?_
    refine Tr.weak (Γ' := [(0, (pSl 1 (cK .i64) a_0)), (3, (pEq (.slice o2 ((a_0.length : Int)).toNat ((a_0.length : Int)).toNat))), (4, (pEq (.int .i64 (0 : Int))))]) ⟨rfl, rfl, rfl, trivial⟩ ?_
    refine Tr.loop (γ := G3) (σ := (Int × (List Int))) (Γσ := fun s g => [(0, (pSl 1 (cK .i64) a_0)), (3, (pEq (.slice g.1 g.2.1 g.2.2))), (4, (pEq (.int .i64 s.1)))]) (Ωσ := fun s g => [oSl 2 1 (cK .i64) g.1 g.2.1 g.2.2 s.2]) (g := (o2, ((a_0.length : Int)).toNat, ((a_0.length : Int)).toNat)) h ?_
    clear h
    rintro ⟨v6, v7⟩ g8 t h
    replace h : m_laws_toInt64S_B5 a_0 v6 v7 = some t := h
    unfold m_laws_toInt64S_B5 at h
    refine Tr.weakO (Γ' := [(0, (pSl 1 (cK .i64) a_0)), (3, (pEq (.slice g8.1 g8.2.1 g8.2.2))), (4, (pEq (.int .i64 v6)))]) (Ω' := [oSl 2 1 (cK .i64) g8.1 g8.2.1 g8.2.2 v7]) rfl ⟨rfl, rfl, rfl, trivial⟩ ?_
    refine Tr.seq ?_
    refine Tr.seq ?_
    refine Tr.region ?_
    refine RegL.pure (p := (pEq (.int .i64 v6))) rfl rfl rfl (J_move rfl (Opd.tmp rfl)) ?_
    refine RegL.pure (p := (pSl 1 (cK .i64) a_0)) rfl rfl rfl (J_move rfl (Opd.tmp rfl)) ?_
    refine RegL.pure (p := (pEq (.int .i64 (a_0.length : Int)))) rfl rfl rfl (J_len rfl Tryd.underlying22 (Opd.tmp rfl) rfl) ?_
    refine RegL.pure (p := (pEq (.bool (decide (v6 < (a_0.length : Int)))))) rfl rfl rfl (J_bin rfl (Opd.tmp rfl) (Opd.tmp rfl) B_lss) ?_
    refine RegL.nil ?_
    refine Ct.then_tr ?_
    refine Tr.weak (Γ' := [(0, (pSl 1 (cK .i64) a_0)), (3, (pEq (.slice g8.1 g8.2.1 g8.2.2))), (4, (pEq (.int .i64 v6))), (11, (pEq (.bool (decide (v6 < (a_0.length : Int))))))]) ⟨rfl, rfl, rfl, rfl, trivial⟩ ?_
    refine Tr.cond (Opd.tmp rfl) (fun hc => ?_) (fun hc => ?_)
    · replace h := bif_t hc h
      refine Tr.skip ?_
      refine Ct.then_tr ?_
      refine Tr.weak (Γ' := [(0, (pSl 1 (cK .i64) a_0)), (3, (pEq (.slice g8.1 g8.2.1 g8.2.2))), (4, (pEq (.int .i64 v6)))]) ⟨rfl, rfl, rfl, trivial⟩ ?_
      refine Tr.seq ?_
      refine Tr.block ?_
      refine Tr.region ?_
      refine RegL.pure (p := (pEq (.slice g8.1 g8.2.1 g8.2.2))) rfl rfl rfl (J_move rfl (Opd.tmp rfl)) ?_
      refine RegL.pure (p := (pEq (.int .i64 v6))) rfl rfl rfl (J_move rfl (Opd.tmp rfl)) ?_
      refine RegL.pure (p := (pSl 1 (cK .i64) a_0)) rfl rfl rfl (J_move rfl (Opd.tmp rfl)) ?_
      refine RegL.pure (p := (pEq (.int .i64 v6))) rfl rfl rfl (J_move rfl (Opd.tmp rfl)) ?_
      replace h := bind_some h; obtain ⟨x9, hx9, h⟩ := h
      refine RegL.pure (p := (pPtr ((cK .i64) x9))) rfl rfl rfl (J_idx rfl Tryd.underlying22 sz2 (Opd.tmp rfl) (Opd.tmp rfl) hx9) ?_
      refine RegL.pure (p := (pEq (.int .i64 x9))) rfl rfl rfl (J_load rfl Tryd.isAgg2 (Opd.tmp rfl)) ?_
      replace h := bind_some h; obtain ⟨u10, hu10, h⟩ := h
      refine RegL.pureW (p := (pEq (.pointer (some ⟨blk g8.1, (v6).toNat * 1, none⟩)))) rfl rfl rfl (W_rowIdx (j := 0) rfl Tryd.underlying22 sz2 (Opd.tmp rfl) (Opd.tmp rfl) rfl (inB_some hu10)) ?_
      refine RegL.stepN (γ := Unit) (p := fun _ => pAny) (Ω' := fun _ => [oSl 2 1 (cK .i64) g8.1 g8.2.1 g8.2.2 (v7.set (v6).toNat x9)]) rfl rfl (M_rowStore rfl sz2 (fun _ => rfl) (Opd.tmp rfl) (Opd.tmp rfl) rfl OneC.int (setL_of (inB_some hu10))) fun g11 => ?_
      refine RegL.nil ?_
      refine Ct.blk_normal ?_
      refine Ct.then_tr ?_
      refine Tr.weak (Γ' := [(0, (pSl 1 (cK .i64) a_0)), (3, (pEq (.slice g8.1 g8.2.1 g8.2.2))), (4, (pEq (.int .i64 v6)))]) ⟨rfl, rfl, rfl, trivial⟩ ?_
      refine Tr.region ?_
      refine RegL.pure (p := (pEq (.int .i64 v6))) rfl rfl rfl (J_move rfl (Opd.tmp rfl)) ?_
      refine RegL.pure (p := (pEq (.int .i64 (w64 (v6 + (1 : Int)))))) rfl rfl rfl (J_bin rfl (Opd.tmp rfl) Opd.con B_add) ?_
      refine RegL.pure (p := (pEq (.int .i64 (w64 (v6 + (1 : Int)))))) rfl rfl rfl (J_assign rfl (Opd.tmp rfl)) ?_
      refine RegL.nil ?_
      replace h := Option.some.inj h; subst h
      exact Ct.again (g8.1, g8.2.1, g8.2.2) rfl ⟨rfl, rfl, rfl, trivial⟩
    · replace h := bif_f hc h
      refine Tr.exit ?_
      refine Ct.then_exit ?_
      replace h := map_some h; obtain ⟨r1, h, rfl⟩ := h
      refine Ct.out_exit fun e => ?_
      subst e
      refine Ct.blk_exit ?_
      replace h := Option.some.inj h; subst h
      exact Ct.mid (g8.1, g8.2.1, g8.2.2) rfl ⟨rfl, trivial⟩
  · clear hx4
    refine Ct.then_tr ?_
    refine Tr.weak (Γ' := [(3, (pEq (.slice g12.1 g12.2.1 g12.2.2)))]) ⟨rfl, trivial⟩ ?_
    refine Tr.seq ?_
    refine Tr.region ?_
    refine RegL.pure (p := (pEq (.slice g12.1 g12.2.1 g12.2.2))) rfl rfl rfl (J_move rfl (Opd.tmp rfl)) ?_
    refine RegL.pure (p := (pEq (.slice g12.1 g12.2.1 g12.2.2))) rfl rfl rfl (J_assign rfl (Opd.tmp rfl)) ?_
    refine RegL.nil ?_
    refine Ct.then_tr ?_
    refine Tr.weak (Γ' := [(2, (pEq (.slice g12.1 g12.2.1 g12.2.2)))]) ⟨rfl, trivial⟩ ?_
    refine Tr.ret ?_
    replace h := Option.some.inj h; subst h
    exact Ct.retH1 (Ωx := []) (g12.1, g12.2.1, g12.2.2) rfl (RvOk.tmp rfl) rfl

theorem c_laws_toInt64S {a_0 : (List Int)} {r : (List Int)} (h : m_laws_toInt64S a_0 = some r) : CallJ Tryd.prog 10 [(pSl 1 (cK .i64) a_0)] (pSl 1 (cK .i64) r) :=
  CallH.frozen (o_laws_toInt64S h) (fun g => (Conv.row (f := (cK .i64)) 0 (fun _ => rfl) rfl))

theorem o_laws_toInt64SS {a_0 : (List (List Int))}  {r : (List (List Int))} (h : m_laws_toInt64SS a_0 = some r) : CallH Tryd.prog 15 [(pSl 1 (cSl 1 (cK .i64)) a_0)] [] (fun g : (G3 × List G3) => (pEq (.slice g.1.1 g.1.2.1 g.1.2.2))) (fun g : (G3 × List G3) => [oSS 22 2 1 (cK .i64) g.1.1 g.1.2.1 g.1.2.2 g.2 r]) := by
  unfold m_laws_toInt64SS at h
  refine CallH.enter Tryd.func15 rfl Tryd.ntmps15 rfl fun W I0 H => ?_
  refine Tr.weak (Γ' := [(0, (pSl 1 (cSl 1 (cK .i64)) a_0))]) ⟨rfl, trivial⟩ ?_
  refine Tr.seq ?_
  refine Tr.region ?_
  refine RegL.pure (p := (pEq (.slice none 0 0))) rfl rfl rfl (J_assign rfl Opd.con) ?_
  refine RegL.nil ?_
  refine Ct.then_tr ?_
  refine Tr.weak (Γ' := [(0, (pSl 1 (cSl 1 (cK .i64)) a_0))]) ⟨rfl, trivial⟩ ?_
  refine Tr.seq ?_
  refine Tr.region ?_
  refine RegL.pure (p := (pSl 1 (cSl 1 (cK .i64)) a_0)) rfl rfl rfl (J_move rfl (Opd.tmp rfl)) ?_
  refine RegL.pure (p := (pEq (.int .i64 (a_0.length : Int)))) rfl rfl rfl (J_len rfl Tryd.underlying28 (Opd.tmp rfl) rfl) ?_
  replace h := bind_some h; obtain ⟨x1, hx1, h⟩ := h
  refine RegL.step (γ := Option Addr) (p := fun a => pEq (.slice a ((a_0.length : Int)).toNat ((a_0.length : Int)).toNat)) (Ω' := fun a => [oSl 22 1 cHdr a ((a_0.length : Int)).toNat ((a_0.length : Int)).toNat (List.replicate ((a_0.length : Int)).toNat ((none, 0, 0) : G3))]) rfl rfl rfl (M_make rfl Tryd.underlying28 elh22 (by decide) (Opd.tmp rfl) (mkL_hdr hx1)) fun o2 => ?_
  refine RegL.re (Ω2 := [oSS 22 2 1 (cK .i64) o2 ((a_0.length : Int)).toNat ((a_0.length : Int)).toNat (List.replicate ((a_0.length : Int)).toNat ((none, 0, 0) : G3)) x1]) (fun h => (by rw [(mkL_some hx1).2]; exact nest_rep h)) ?_
  refine RegL.pure (p := (pEq (.slice o2 ((a_0.length : Int)).toNat ((a_0.length : Int)).toNat))) rfl rfl rfl (J_assign rfl (Opd.tmp rfl)) ?_
  refine RegL.nil ?_
  refine Ct.then_tr ?_
  refine Tr.weak (Γ' := [(0, (pSl 1 (cSl 1 (cK .i64)) a_0)), (3, (pEq (.slice o2 ((a_0.length : Int)).toNat ((a_0.length : Int)).toNat)))]) ⟨rfl, rfl, trivial⟩ ?_
  refine Tr.seq ?_
  refine Tr.seq ?_
  refine Tr.region ?_
  refine RegL.pure (p := (pEq (.int .i64 (0 : Int)))) rfl rfl rfl (J_assign rfl Opd.con) ?_
  refine RegL.nil ?_
  refine Ct.then_tr ?_
  refine Tr.weak (Γ' := [(0, (pSl 1 (cSl 1 (cK .i64)) a_0)), (3, (pEq (.slice o2 ((a_0.length : Int)).toNat ((a_0.length : Int)).toNat))), (4, (pEq (.int .i64 (0 : Int))))]) ⟨rfl, rfl, rfl, trivial⟩ ?_
  replace h := bind_some h; obtain ⟨x4, hx4, h⟩ := h
  refine Tr.cut (γ := (G3 × List G3)) (Γm := fun g => [(3, (pEq (.slice g.1.1 g.1.2.1 g.1.2.2)))]) (Ωm := fun g => [oSS 22 2 1 (cK .i64) g.1.1 g.1.2.1 g.1.2.2 g.2 x4]) ?_ (fun g15 => ?_)
  · clear h
    have h := hx4
    clear hx4
    refine Tr.block ?_
    refine Tr.weak (Γ' := [(0, (pSl 1 (cSl 1 (cK .i64)) a_0)), (3, (pEq (.slice o2 ((a_0.length : Int)).toNat ((a_0.length : Int)).toNat))), (4, (pEq (.int .i64 (0 : Int))))]) ⟨rfl, rfl, rfl, trivial⟩ ?_
    refine Tr.loop (γ := (G3 × List G3)) (σ := (Int × (List (List Int)))) (Γσ := fun s g => [(0, (pSl 1 (cSl 1 (cK .i64)) a_0)), (3, (pEq (.slice g.1.1 g.1.2.1 g.1.2.2))), (4, (pEq (.int .i64 s.1)))]) (Ωσ := fun s g => [oSS 22 2 1 (cK .i64) g.1.1 g.1.2.1 g.1.2.2 g.2 s.2]) (g := ((o2, ((a_0.length : Int)).toNat, ((a_0.length : Int)).toNat), (List.replicate ((a_0.length : Int)).toNat ((none, 0, 0) : G3)))) h ?_
    clear h
    rintro ⟨v6, v7⟩ g8 t h
    replace h : m_laws_toInt64SS_B5 a_0 v6 v7 = some t := h
    unfold m_laws_toInt64SS_B5 at h
    refine Tr.weakO (Γ' := [(0, (pSl 1 (cSl 1 (cK .i64)) a_0)), (3, (pEq (.slice g8.1.1 g8.1.2.1 g8.1.2.2))), (4, (pEq (.int .i64 v6)))]) (Ω' := [oSS 22 2 1 (cK .i64) g8.1.1 g8.1.2.1 g8.1.2.2 g8.2 v7]) rfl ⟨rfl, rfl, rfl, trivial⟩ ?_
    refine Tr.seq ?_
    refine Tr.seq ?_
    refine Tr.region ?_
    refine RegL.pure (p := (pEq (.int .i64 v6))) rfl rfl rfl (J_move rfl (Opd.tmp rfl)) ?_
    refine RegL.pure (p := (pSl 1 (cSl 1 (cK .i64)) a_0)) rfl rfl rfl (J_move rfl (Opd.tmp rfl)) ?_
    refine RegL.pure (p := (pEq (.int .i64 (a_0.length : Int)))) rfl rfl rfl (J_len rfl Tryd.underlying28 (Opd.tmp rfl) rfl) ?_
    refine RegL.pure (p := (pEq (.bool (decide (v6 < (a_0.length : Int)))))) rfl rfl rfl (J_bin rfl (Opd.tmp rfl) (Opd.tmp rfl) B_lss) ?_
    refine RegL.nil ?_
    refine Ct.then_tr ?_
    refine Tr.weak (Γ' := [(0, (pSl 1 (cSl 1 (cK .i64)) a_0)), (3, (pEq (.slice g8.1.1 g8.1.2.1 g8.1.2.2))), (4, (pEq (.int .i64 v6))), (11, (pEq (.bool (decide (v6 < (a_0.length : Int))))))]) ⟨rfl, rfl, rfl, rfl, trivial⟩ ?_
    refine Tr.cond (Opd.tmp rfl) (fun hc => ?_) (fun hc => ?_)
    · replace h := bif_t hc h
      refine Tr.skip ?_
      refine Ct.then_tr ?_
      refine Tr.weak (Γ' := [(0, (pSl 1 (cSl 1 (cK .i64)) a_0)), (3, (pEq (.slice g8.1.1 g8.1.2.1 g8.1.2.2))), (4, (pEq (.int .i64 v6)))]) ⟨rfl, rfl, rfl, trivial⟩ ?_
      refine Tr.seq ?_
      refine Tr.block ?_
      refine Tr.region ?_
      refine RegL.pure (p := (pEq (.slice g8.1.1 g8.1.2.1 g8.1.2.2))) rfl rfl rfl (J_move rfl (Opd.tmp rfl)) ?_
      refine RegL.pure (p := (pEq (.int .i64 v6))) rfl rfl rfl (J_move rfl (Opd.tmp rfl)) ?_
      refine RegL.pure (p := (pSl 1 (cSl 1 (cK .i64)) a_0)) rfl rfl rfl (J_move rfl (Opd.tmp rfl)) ?_
      refine RegL.pure (p := (pEq (.int .i64 v6))) rfl rfl rfl (J_move rfl (Opd.tmp rfl)) ?_
      replace h := bind_some h; obtain ⟨x9, hx9, h⟩ := h
      refine RegL.pure (p := (pPtr ((cSl 1 (cK .i64)) x9))) rfl rfl rfl (J_idx rfl Tryd.underlying28 sz22 (Opd.tmp rfl) (Opd.tmp rfl) hx9) ?_
      refine RegL.pure (p := (pSl 1 (cK .i64) x9)) rfl rfl rfl (J_load rfl Tryd.isAgg22 (Opd.tmp rfl)) ?_
      replace h := bind_some h; obtain ⟨x10, hx10, h⟩ := h
      refine RegL.step (γ := G3) (p := fun g => (pEq (.slice g.1 g.2.1 g.2.2))) (Ω' := fun g => [oSl 2 1 (cK .i64) g.1 g.2.1 g.2.2 x10, oSS 22 2 1 (cK .i64) g8.1.1 g8.1.2.1 g8.1.2.2 g8.2 v7]) rfl rfl rfl (M_callH (Ωi := []) rfl Tryd.call10 (o_laws_toInt64S hx10) (Opds.cons (Opd.tmp rfl) Opds.nil)) fun g11 => ?_
      replace h := bind_some h; obtain ⟨u13, hu13, h⟩ := h
      refine RegL.pureW (p := (pEq (.pointer (some ⟨blk g8.1.1, (v6).toNat * 1, none⟩)))) rfl rfl rfl (W_nestIdx (j := 1) rfl Tryd.underlying28 sz22 (Opd.tmp rfl) (Opd.tmp rfl) rfl (inB_some hu13)) ?_
      refine RegL.re (Ω2 := [oSS 22 2 1 (cK .i64) g8.1.1 g8.1.2.1 g8.1.2.2 g8.2 v7, oSl 2 1 (cK .i64) g11.1 g11.2.1 g11.2.2 x10]) (fun h => SatO.pick 1 h) ?_
      refine RegL.stepN (γ := Unit) (p := fun _ => pAny) (Ω' := fun _ => [oSS 22 2 1 (cK .i64) g8.1.1 g8.1.2.1 g8.1.2.2 (g8.2.set (v6).toNat (g11.1, g11.2.1, g11.2.2)) (v7.set (v6).toNat x10)]) rfl rfl (M_nestStore rfl sz22 (Opd.tmp rfl) (Opd.tmp rfl) (inB_some hu13)) fun g14 => ?_
      refine RegL.nil ?_
      refine Ct.blk_normal ?_
      refine Ct.then_tr ?_
      refine Tr.weak (Γ' := [(0, (pSl 1 (cSl 1 (cK .i64)) a_0)), (3, (pEq (.slice g8.1.1 g8.1.2.1 g8.1.2.2))), (4, (pEq (.int .i64 v6)))]) ⟨rfl, rfl, rfl, trivial⟩ ?_
      refine Tr.region ?_
      refine RegL.pure (p := (pEq (.int .i64 v6))) rfl rfl rfl (J_move rfl (Opd.tmp rfl)) ?_
      refine RegL.pure (p := (pEq (.int .i64 (w64 (v6 + (1 : Int)))))) rfl rfl rfl (J_bin rfl (Opd.tmp rfl) Opd.con B_add) ?_
      refine RegL.pure (p := (pEq (.int .i64 (w64 (v6 + (1 : Int)))))) rfl rfl rfl (J_assign rfl (Opd.tmp rfl)) ?_
      refine RegL.nil ?_
      replace h := Option.some.inj h; subst h
      exact Ct.again ((g8.1.1, g8.1.2.1, g8.1.2.2), (g8.2.set (v6).toNat (g11.1, g11.2.1, g11.2.2))) rfl ⟨rfl, rfl, rfl, trivial⟩
    · replace h := bif_f hc h
      refine Tr.exit ?_
      refine Ct.then_exit ?_
      replace h := map_some h; obtain ⟨r1, h, rfl⟩ := h
      refine Ct.out_exit fun e => ?_
      subst e
      refine Ct.blk_exit ?_
      replace h := Option.some.inj h; subst h
      exact Ct.mid ((g8.1.1, g8.1.2.1, g8.1.2.2), g8.2) rfl ⟨rfl, trivial⟩
  · clear hx4
    refine Ct.then_tr ?_
    refine Tr.weak (Γ' := [(3, (pEq (.slice g15.1.1 g15.1.2.1 g15.1.2.2)))]) ⟨rfl, trivial⟩ ?_
    refine Tr.seq ?_
    refine Tr.region ?_
    refine RegL.pure (p := (pEq (.slice g15.1.1 g15.1.2.1 g15.1.2.2))) rfl rfl rfl (J_move rfl (Opd.tmp rfl)) ?_
    refine RegL.pure (p := (pEq (.slice g15.1.1 g15.1.2.1 g15.1.2.2))) rfl rfl rfl (J_assign rfl (Opd.tmp rfl)) ?_
    refine RegL.nil ?_
    refine Ct.then_tr ?_
    refine Tr.weak (Γ' := [(2, (pEq (.slice g15.1.1 g15.1.2.1 g15.1.2.2)))]) ⟨rfl, trivial⟩ ?_
    refine Tr.ret ?_
    replace h := Option.some.inj h; subst h
    exact Ct.retH1 (Ωx := []) ((g15.1.1, g15.1.2.1, g15.1.2.2), g15.2) rfl (RvOk.tmp rfl) rfl

theorem c_laws_toInt64SS {a_0 : (List (List Int))} {r : (List (List Int))} (h : m_laws_toInt64SS a_0 = some r) : CallJ Tryd.prog 15 [(pSl 1 (cSl 1 (cK .i64)) a_0)] (pSl 1 (cSl 1 (cK .i64)) r) :=
  CallH.frozen (o_laws_toInt64SS h) (fun g => (Conv.nest 0 (fun _ => rfl) rfl))

theorem c_spec_l00In {n_0 : Int} {low_1 : Int} {high_2 : Int} {r : Bool} (h : m_spec_l00In n_0 low_1 high_2 = some r) : CallJ Tryd.prog 38 [(pEq (.int .i64 n_0)), (pEq (.int .i64 low_1)), (pEq (.int .i64 high_2))] (pEq (.bool r)) := by
  unfold m_spec_l00In at h
  refine CallJ.enterH Tryd.func38 rfl Tryd.ntmps38 rfl fun W I0 H => ?_
  refine Tr.weak (Γ' := [(0, (pEq (.int .i64 n_0))), (1, (pEq (.int .i64 low_1))), (2, (pEq (.int .i64 high_2)))]) ⟨rfl, rfl, rfl, trivial⟩ ?_
  refine Tr.seq ?_
  refine Tr.region ?_
  refine RegL.pure (p := (pEq (.bool false))) rfl rfl rfl (J_assign rfl Opd.con) ?_
  refine RegL.nil ?_
  refine Ct.then_tr ?_
  refine Tr.weak (Γ' := [(0, (pEq (.int .i64 n_0))), (1, (pEq (.int .i64 low_1))), (2, (pEq (.int .i64 high_2)))]) ⟨rfl, rfl, rfl, trivial⟩ ?_
  refine Tr.seq ?_
  replace h := bind_some h; obtain ⟨x1, hx1, h⟩ := h
  refine Tr.cut (γ := Unit) (Γm := fun g => [(6, (pEq (.bool x1)))]) (Ωm := fun g => []) ?_ (fun g3 => ?_)
  · clear h
    have h := hx1
    clear hx1
    refine Tr.region ?_
    refine RegL.pure (p := (pEq (.int .i64 n_0))) rfl rfl rfl (J_move rfl (Opd.tmp rfl)) ?_
    refine RegL.pure (p := (pEq (.int .i64 low_1))) rfl rfl rfl (J_move rfl (Opd.tmp rfl)) ?_
    refine RegL.pure (p := (pEq (.bool (decide (low_1 ≤ n_0))))) rfl rfl rfl (J_bin rfl (Opd.tmp rfl) (Opd.tmp rfl) B_geq) ?_
    refine RegL.pure (p := (pEq (.bool (decide (low_1 ≤ n_0))))) rfl rfl rfl (J_move rfl (Opd.tmp rfl)) ?_
    rcases Bool.eq_false_or_eq_true (decide (low_1 ≤ n_0)) with hc2 | hc2
    · replace h := bif_t hc2 h
      refine RegL.pureG (p := (pEq (.int .i64 n_0))) rfl rfl rfl hc2 rfl rfl (J_move rfl (Opd.tmp rfl)) ?_
      refine RegL.pureG (p := (pEq (.int .i64 high_2))) rfl rfl rfl hc2 rfl rfl (J_move rfl (Opd.tmp rfl)) ?_
      refine RegL.pureG (p := (pEq (.bool (decide (n_0 ≤ high_2))))) rfl rfl rfl hc2 rfl rfl (J_bin rfl (Opd.tmp rfl) (Opd.tmp rfl) B_leq) ?_
      refine RegL.pure (p := (pEq (.bool (decide (n_0 ≤ high_2))))) rfl rfl rfl (J_pick rfl (Opd.tmp rfl) (fun _ => (Opd.tmp rfl)) (fun hf => absurd (hc2.symm.trans hf) (by decide))) ?_
      refine RegL.pure (p := (pEq (.bool (decide (n_0 ≤ high_2))))) rfl rfl rfl (J_assign rfl (Opd.tmp rfl)) ?_
      refine RegL.nil ?_
      replace h := Option.some.inj h; subst h
      exact Ct.mid () rfl ⟨rfl, trivial⟩
    · replace h := bif_f hc2 h
      refine RegL.skipG rfl rfl rfl hc2 rfl rfl ?_
      refine RegL.skipG rfl rfl rfl hc2 rfl rfl ?_
      refine RegL.skipG rfl rfl rfl hc2 rfl rfl ?_
      refine RegL.pure (p := (pEq (.bool false))) rfl rfl rfl (J_pick rfl (Opd.tmp rfl) (fun hf => absurd (hc2.symm.trans hf) (by decide)) (fun _ => Opd.con)) ?_
      refine RegL.pure (p := (pEq (.bool false))) rfl rfl rfl (J_assign rfl (Opd.tmp rfl)) ?_
      refine RegL.nil ?_
      replace h := Option.some.inj h; subst h
      exact Ct.mid () rfl ⟨rfl, trivial⟩
  · clear hx1
    refine Ct.then_tr ?_
    refine Tr.weak (Γ' := [(6, (pEq (.bool x1)))]) ⟨rfl, trivial⟩ ?_
    refine Tr.ret ?_
    replace h := Option.some.inj h; subst h
    exact Ct.retH1 (Ωx := []) () rfl (RvOk.tmp rfl) rfl

theorem c_spec_l02Level {v_0 : Int} {r : Bool} (h : m_spec_l02Level v_0 = some r) : CallJ Tryd.prog 67 [(pEq (.int .i64 v_0))] (pEq (.bool r)) := by
  unfold m_spec_l02Level at h
  refine CallJ.enterH Tryd.func67 rfl Tryd.ntmps67 rfl fun W I0 H => ?_
  refine Tr.weak (Γ' := [(0, (pEq (.int .i64 v_0)))]) ⟨rfl, trivial⟩ ?_
  refine Tr.seq ?_
  refine Tr.region ?_
  refine RegL.pure (p := (pEq (.bool false))) rfl rfl rfl (J_assign rfl Opd.con) ?_
  refine RegL.nil ?_
  refine Ct.then_tr ?_
  refine Tr.weak (Γ' := [(0, (pEq (.int .i64 v_0)))]) ⟨rfl, trivial⟩ ?_
  refine Tr.seq ?_
  refine Tr.region ?_
  refine RegL.pure (p := (pEq (.int .i64 v_0))) rfl rfl rfl (J_move rfl (Opd.tmp rfl)) ?_
  replace h := bind_some h; obtain ⟨x1, hx1, h⟩ := h
  refine RegL.pure (p := (pEq (.bool x1))) rfl rfl rfl (J_call rfl Tryd.call38 (c_spec_l00In hx1) (Opds.cons (Opd.tmp rfl) (Opds.cons Opd.con (Opds.cons Opd.con Opds.nil)))) ?_
  refine RegL.pure (p := (pEq (.bool x1))) rfl rfl rfl (J_assign rfl (Opd.tmp rfl)) ?_
  refine RegL.nil ?_
  refine Ct.then_tr ?_
  refine Tr.weak (Γ' := [(2, (pEq (.bool x1)))]) ⟨rfl, trivial⟩ ?_
  refine Tr.ret ?_
  replace h := Option.some.inj h; subst h
  exact Ct.retH1 (Ωx := []) () rfl (RvOk.tmp rfl) rfl

theorem c_spec_l16Row {row_0 : (List Int)} {r : Bool} (h : m_spec_l16Row row_0 = some r) : CallJ Tryd.prog 35 [(pSl 1 (cK .i64) row_0)] (pEq (.bool r)) := by
  unfold m_spec_l16Row at h
  refine CallJ.enterH Tryd.func35 rfl Tryd.ntmps35 rfl fun W I0 H => ?_
  refine Tr.weak (Γ' := [(0, (pSl 1 (cK .i64) row_0))]) ⟨rfl, trivial⟩ ?_
  refine Tr.seq ?_
  refine Tr.region ?_
  refine RegL.pure (p := (pEq (.bool false))) rfl rfl rfl (J_assign rfl Opd.con) ?_
  refine RegL.nil ?_
  refine Ct.then_tr ?_
  refine Tr.weak (Γ' := [(0, (pSl 1 (cK .i64) row_0))]) ⟨rfl, trivial⟩ ?_
  refine Tr.seq ?_
  refine Tr.seq ?_
  refine Tr.region ?_
  refine RegL.pure (p := (pEq (.int .i64 (0 : Int)))) rfl rfl rfl (J_assign rfl Opd.con) ?_
  refine RegL.nil ?_
  refine Ct.then_tr ?_
  refine Tr.weak (Γ' := [(0, (pSl 1 (cK .i64) row_0)), (3, (pEq (.int .i64 (0 : Int))))]) ⟨rfl, rfl, trivial⟩ ?_
  refine Tr.block ?_
  refine Tr.weak (Γ' := [(0, (pSl 1 (cK .i64) row_0)), (3, (pEq (.int .i64 (0 : Int))))]) ⟨rfl, rfl, trivial⟩ ?_
  refine Tr.loop (γ := Unit) (σ := Int) (Γσ := fun s g => [(0, (pSl 1 (cK .i64) row_0)), (3, (pEq (.int .i64 s)))]) (Ωσ := fun s g => []) (g := ()) h ?_
  clear h
  rintro v2 g3 t h
  replace h : m_spec_l16Row_B1 row_0 v2 = some t := h
  unfold m_spec_l16Row_B1 at h
  refine Tr.weakO (Γ' := [(0, (pSl 1 (cK .i64) row_0)), (3, (pEq (.int .i64 v2)))]) (Ω' := []) rfl ⟨rfl, rfl, trivial⟩ ?_
  refine Tr.seq ?_
  refine Tr.seq ?_
  refine Tr.region ?_
  refine RegL.pure (p := (pEq (.int .i64 v2))) rfl rfl rfl (J_move rfl (Opd.tmp rfl)) ?_
  refine RegL.pure (p := (pSl 1 (cK .i64) row_0)) rfl rfl rfl (J_move rfl (Opd.tmp rfl)) ?_
  refine RegL.pure (p := (pEq (.int .i64 (row_0.length : Int)))) rfl rfl rfl (J_len rfl Tryd.underlying22 (Opd.tmp rfl) rfl) ?_
  refine RegL.pure (p := (pEq (.bool (decide (v2 < (row_0.length : Int)))))) rfl rfl rfl (J_bin rfl (Opd.tmp rfl) (Opd.tmp rfl) B_lss) ?_
  refine RegL.nil ?_
  refine Ct.then_tr ?_
  refine Tr.weak (Γ' := [(0, (pSl 1 (cK .i64) row_0)), (3, (pEq (.int .i64 v2))), (7, (pEq (.bool (decide (v2 < (row_0.length : Int))))))]) ⟨rfl, rfl, rfl, trivial⟩ ?_
  refine Tr.cond (Opd.tmp rfl) (fun hc => ?_) (fun hc => ?_)
  · replace h := bif_t hc h
    refine Tr.skip ?_
    refine Ct.then_tr ?_
    refine Tr.weak (Γ' := [(0, (pSl 1 (cK .i64) row_0)), (3, (pEq (.int .i64 v2)))]) ⟨rfl, rfl, trivial⟩ ?_
    refine Tr.seq ?_
    refine Tr.block ?_
    refine Tr.seq ?_
    refine Tr.region ?_
    refine RegL.pure (p := (pSl 1 (cK .i64) row_0)) rfl rfl rfl (J_move rfl (Opd.tmp rfl)) ?_
    refine RegL.pure (p := (pEq (.int .i64 v2))) rfl rfl rfl (J_move rfl (Opd.tmp rfl)) ?_
    replace h := bind_some h; obtain ⟨x4, hx4, h⟩ := h
    refine RegL.pure (p := (pPtr ((cK .i64) x4))) rfl rfl rfl (J_idx rfl Tryd.underlying22 sz2 (Opd.tmp rfl) (Opd.tmp rfl) hx4) ?_
    refine RegL.pure (p := (pEq (.int .i64 x4))) rfl rfl rfl (J_load rfl Tryd.isAgg2 (Opd.tmp rfl)) ?_
    replace h := bind_some h; obtain ⟨x5, hx5, h⟩ := h
    refine RegL.pure (p := (pEq (.bool x5))) rfl rfl rfl (J_call rfl Tryd.call67 (c_spec_l02Level hx5) (Opds.cons (Opd.tmp rfl) Opds.nil)) ?_
    refine RegL.pure (p := (pEq (.bool (!x5)))) rfl rfl rfl (J_not rfl (Opd.tmp rfl)) ?_
    refine RegL.nil ?_
    refine Ct.then_tr ?_
    refine Tr.weak (Γ' := [(0, (pSl 1 (cK .i64) row_0)), (3, (pEq (.int .i64 v2))), (15, (pEq (.bool (!x5))))]) ⟨rfl, rfl, rfl, trivial⟩ ?_
    refine Tr.cond (Opd.tmp rfl) (fun hc => ?_) (fun hc => ?_)
    · replace h := bif_t hc h
      refine Tr.seq ?_
      refine Tr.region ?_
      refine RegL.pure (p := (pEq (.bool false))) rfl rfl rfl (J_assign rfl Opd.con) ?_
      refine RegL.nil ?_
      refine Ct.then_tr ?_
      refine Tr.weak (Γ' := [(2, (pEq (.bool false)))]) ⟨rfl, trivial⟩ ?_
      refine Tr.ret ?_
      refine Ct.blk_ret ?_
      refine Ct.then_ret ?_
      replace h := map_some h; obtain ⟨r1, h, rfl⟩ := h
      refine Ct.out_ret fun e => ?_
      subst e
      refine Ct.blk_ret ?_
      refine Ct.then_ret ?_
      replace h := Option.some.inj h; subst h
      exact Ct.retH1 (Ωx := []) () rfl (RvOk.tmp rfl) rfl
    · replace h := bif_f hc h
      refine Tr.skip ?_
      refine Ct.blk_normal ?_
      refine Ct.then_tr ?_
      refine Tr.weak (Γ' := [(0, (pSl 1 (cK .i64) row_0)), (3, (pEq (.int .i64 v2)))]) ⟨rfl, rfl, trivial⟩ ?_
      refine Tr.region ?_
      refine RegL.pure (p := (pEq (.int .i64 v2))) rfl rfl rfl (J_move rfl (Opd.tmp rfl)) ?_
      refine RegL.pure (p := (pEq (.int .i64 (w64 (v2 + (1 : Int)))))) rfl rfl rfl (J_bin rfl (Opd.tmp rfl) Opd.con B_add) ?_
      refine RegL.pure (p := (pEq (.int .i64 (w64 (v2 + (1 : Int)))))) rfl rfl rfl (J_assign rfl (Opd.tmp rfl)) ?_
      refine RegL.nil ?_
      replace h := Option.some.inj h; subst h
      exact Ct.again () rfl ⟨rfl, rfl, trivial⟩
  · replace h := bif_f hc h
    refine Tr.exit ?_
    refine Ct.then_exit ?_
    replace h := map_some h; obtain ⟨r1, h, rfl⟩ := h
    refine Ct.out_exit fun e => ?_
    subst e
    refine Ct.blk_exit ?_
    refine Ct.then_tr ?_
    refine Tr.weak (Γ' := [(0, (pSl 1 (cK .i64) row_0))]) ⟨rfl, trivial⟩ ?_
    refine Tr.seq ?_
    replace h := bind_some h; obtain ⟨x6, hx6, h⟩ := h
    refine Tr.cut (γ := Unit) (Γm := fun g => [(2, (pEq (.bool x6)))]) (Ωm := fun g => []) ?_ (fun g8 => ?_)
    · clear h
      have h := hx6
      clear hx6
      refine Tr.region ?_
      refine RegL.pure (p := (pSl 1 (cK .i64) row_0)) rfl rfl rfl (J_move rfl (Opd.tmp rfl)) ?_
      refine RegL.pure (p := (pEq (.int .i64 (row_0.length : Int)))) rfl rfl rfl (J_len rfl Tryd.underlying22 (Opd.tmp rfl) rfl) ?_
      refine RegL.pure (p := (pEq (.bool (decide ((0 : Int) < (row_0.length : Int)))))) rfl rfl rfl (J_bin rfl (Opd.tmp rfl) Opd.con B_gtr) ?_
      refine RegL.pure (p := (pEq (.bool (decide ((0 : Int) < (row_0.length : Int)))))) rfl rfl rfl (J_move rfl (Opd.tmp rfl)) ?_
      rcases Bool.eq_false_or_eq_true (decide ((0 : Int) < (row_0.length : Int))) with hc7 | hc7
      · replace h := bif_t hc7 h
        refine RegL.pureG (p := (pSl 1 (cK .i64) row_0)) rfl rfl rfl hc7 rfl rfl (J_move rfl (Opd.tmp rfl)) ?_
        refine RegL.pureG (p := (pEq (.int .i64 (row_0.length : Int)))) rfl rfl rfl hc7 rfl rfl (J_len rfl Tryd.underlying22 (Opd.tmp rfl) rfl) ?_
        refine RegL.pureG (p := (pEq (.bool (decide ((row_0.length : Int) ≤ (24 : Int)))))) rfl rfl rfl hc7 rfl rfl (J_bin rfl (Opd.tmp rfl) Opd.con B_leq) ?_
        refine RegL.pure (p := (pEq (.bool (decide ((row_0.length : Int) ≤ (24 : Int)))))) rfl rfl rfl (J_pick rfl (Opd.tmp rfl) (fun _ => (Opd.tmp rfl)) (fun hf => absurd (hc7.symm.trans hf) (by decide))) ?_
        refine RegL.pure (p := (pEq (.bool (decide ((row_0.length : Int) ≤ (24 : Int)))))) rfl rfl rfl (J_assign rfl (Opd.tmp rfl)) ?_
        refine RegL.nil ?_
        replace h := Option.some.inj h; subst h
        exact Ct.mid () rfl ⟨rfl, trivial⟩
      · replace h := bif_f hc7 h
        refine RegL.skipG rfl rfl rfl hc7 rfl rfl ?_
        refine RegL.skipG rfl rfl rfl hc7 rfl rfl ?_
        refine RegL.skipG rfl rfl rfl hc7 rfl rfl ?_
        refine RegL.pure (p := (pEq (.bool false))) rfl rfl rfl (J_pick rfl (Opd.tmp rfl) (fun hf => absurd (hc7.symm.trans hf) (by decide)) (fun _ => Opd.con)) ?_
        refine RegL.pure (p := (pEq (.bool false))) rfl rfl rfl (J_assign rfl (Opd.tmp rfl)) ?_
        refine RegL.nil ?_
        replace h := Option.some.inj h; subst h
        exact Ct.mid () rfl ⟨rfl, trivial⟩
    · clear hx6
      refine Ct.then_tr ?_
      refine Tr.weak (Γ' := [(2, (pEq (.bool x6)))]) ⟨rfl, trivial⟩ ?_
      refine Tr.ret ?_
      replace h := Option.some.inj h; subst h
      exact Ct.retH1 (Ωx := []) () rfl (RvOk.tmp rfl) rfl

theorem c_spec_l16Rows {rows_0 : (List (List Int))} {r : Bool} (h : m_spec_l16Rows rows_0 = some r) : CallJ Tryd.prog 46 [(pSl 1 (cSl 1 (cK .i64)) rows_0)] (pEq (.bool r)) := by
  unfold m_spec_l16Rows at h
  refine CallJ.enterH Tryd.func46 rfl Tryd.ntmps46 rfl fun W I0 H => ?_
  refine Tr.weak (Γ' := [(0, (pSl 1 (cSl 1 (cK .i64)) rows_0))]) ⟨rfl, trivial⟩ ?_
  refine Tr.seq ?_
  refine Tr.region ?_
  refine RegL.pure (p := (pEq (.bool false))) rfl rfl rfl (J_assign rfl Opd.con) ?_
  refine RegL.nil ?_
  refine Ct.then_tr ?_
  refine Tr.weak (Γ' := [(0, (pSl 1 (cSl 1 (cK .i64)) rows_0))]) ⟨rfl, trivial⟩ ?_
  refine Tr.seq ?_
  refine Tr.seq ?_
  refine Tr.region ?_
  refine RegL.pure (p := (pEq (.int .i64 (0 : Int)))) rfl rfl rfl (J_assign rfl Opd.con) ?_
  refine RegL.nil ?_
  refine Ct.then_tr ?_
  refine Tr.weak (Γ' := [(0, (pSl 1 (cSl 1 (cK .i64)) rows_0)), (3, (pEq (.int .i64 (0 : Int))))]) ⟨rfl, rfl, trivial⟩ ?_
  refine Tr.block ?_
  refine Tr.weak (Γ' := [(0, (pSl 1 (cSl 1 (cK .i64)) rows_0)), (3, (pEq (.int .i64 (0 : Int))))]) ⟨rfl, rfl, trivial⟩ ?_
  refine Tr.loop (γ := Unit) (σ := Int) (Γσ := fun s g => [(0, (pSl 1 (cSl 1 (cK .i64)) rows_0)), (3, (pEq (.int .i64 s)))]) (Ωσ := fun s g => []) (g := ()) h ?_
  clear h
  rintro v2 g3 t h
  replace h : m_spec_l16Rows_B1 rows_0 v2 = some t := h
  unfold m_spec_l16Rows_B1 at h
  refine Tr.weakO (Γ' := [(0, (pSl 1 (cSl 1 (cK .i64)) rows_0)), (3, (pEq (.int .i64 v2)))]) (Ω' := []) rfl ⟨rfl, rfl, trivial⟩ ?_
  refine Tr.seq ?_
  refine Tr.seq ?_
  refine Tr.region ?_
  refine RegL.pure (p := (pEq (.int .i64 v2))) rfl rfl rfl (J_move rfl (Opd.tmp rfl)) ?_
  refine RegL.pure (p := (pSl 1 (cSl 1 (cK .i64)) rows_0)) rfl rfl rfl (J_move rfl (Opd.tmp rfl)) ?_
  refine RegL.pure (p := (pEq (.int .i64 (rows_0.length : Int)))) rfl rfl rfl (J_len rfl Tryd.underlying28 (Opd.tmp rfl) rfl) ?_
  refine RegL.pure (p := (pEq (.bool (decide (v2 < (rows_0.length : Int)))))) rfl rfl rfl (J_bin rfl (Opd.tmp rfl) (Opd.tmp rfl) B_lss) ?_
  refine RegL.nil ?_
  refine Ct.then_tr ?_
  refine Tr.weak (Γ' := [(0, (pSl 1 (cSl 1 (cK .i64)) rows_0)), (3, (pEq (.int .i64 v2))), (7, (pEq (.bool (decide (v2 < (rows_0.length : Int))))))]) ⟨rfl, rfl, rfl, trivial⟩ ?_
  refine Tr.cond (Opd.tmp rfl) (fun hc => ?_) (fun hc => ?_)
  · replace h := bif_t hc h
    refine Tr.skip ?_
    refine Ct.then_tr ?_
    refine Tr.weak (Γ' := [(0, (pSl 1 (cSl 1 (cK .i64)) rows_0)), (3, (pEq (.int .i64 v2)))]) ⟨rfl, rfl, trivial⟩ ?_
    refine Tr.seq ?_
    refine Tr.block ?_
    refine Tr.seq ?_
    replace h := bind_some h; obtain ⟨x4, hx4, h⟩ := h
    refine Tr.cut (γ := Unit) (Γm := fun g => [(0, (pSl 1 (cSl 1 (cK .i64)) rows_0)), (3, (pEq (.int .i64 v2))), (27, (pEq (.bool x4)))]) (Ωm := fun g => []) ?_ (fun g10 => ?_)
    · clear h
      have h := hx4
      clear hx4
      replace h := bind_some h; obtain ⟨x5, hx5, h⟩ := h
      replace h := bind_some h; obtain ⟨x6, hx6, h⟩ := h
      rcases Bool.eq_false_or_eq_true (!x6) with hc7 | hc7
      · replace h := bif_t hc7 h
        refine Tr.drawD (n := 36) (m := 18) (es := [some (Ent.mk [(0, (pSl 1 (cSl 1 (cK .i64)) rows_0))] (pSl 1 (cSl 1 (cK .i64)) rows_0) true), some (Ent.mk [(3, (pEq (.int .i64 v2)))] (pEq (.int .i64 v2)) true), some (Ent.mk [(10, (pSl 1 (cSl 1 (cK .i64)) rows_0)), (11, (pEq (.int .i64 v2)))] (pPtr ((cSl 1 (cK .i64)) x5)) true), some (Ent.mk [(12, (pPtr ((cSl 1 (cK .i64)) x5)))] (pSl 1 (cK .i64) x5) true), some (Ent.mk [(13, (pSl 1 (cK .i64) x5))] (pEq (.bool x6)) true), some (Ent.mk [(14, (pEq (.bool x6)))] (pEq (.bool (!x6))) true), some (Ent.mk [(15, (pEq (.bool (!x6))))] (pEq (.bool (!x6))) true), some (Ent.mk [(0, (pSl 1 (cSl 1 (cK .i64)) rows_0))] (pEq undef) false), some (Ent.mk [(3, (pEq (.int .i64 v2)))] (pEq undef) false), some (Ent.mk [(17, (pEq undef)), (18, (pEq undef))] (pEq undef) false), some (Ent.mk [(19, (pEq undef))] (pEq undef) false), some (Ent.mk [(20, (pEq undef))] (pEq undef) false), some (Ent.mk [(0, (pSl 1 (cSl 1 (cK .i64)) rows_0))] (pEq undef) false), some (Ent.mk [(22, (pEq undef))] (pEq undef) false), some (Ent.mk [(23, (pEq undef))] (pEq undef) false), some (Ent.mk [(24, (pEq undef))] (pEq undef) false), some (Ent.mk [(21, (pEq undef)), (25, (pEq undef))] (pEq undef) false), some (Ent.mk [(16, (pEq (.bool (!x6)))), (26, (pEq undef))] (pEq (.bool true)) true)]) (rd := [[0], [3], [10, 11], [12], [13], [14], [15], [0], [3], [17, 18], [19], [20], [0], [22], [23], [24], [21, 25], [16, 26]]) rfl hmix (by kernel_rfl) fun hD => ?_
        refine RD.fin (es := [Ent.mk [(0, (pSl 1 (cSl 1 (cK .i64)) rows_0))] (pSl 1 (cSl 1 (cK .i64)) rows_0) true, Ent.mk [(3, (pEq (.int .i64 v2)))] (pEq (.int .i64 v2)) true, Ent.mk [(10, (pSl 1 (cSl 1 (cK .i64)) rows_0)), (11, (pEq (.int .i64 v2)))] (pPtr ((cSl 1 (cK .i64)) x5)) true, Ent.mk [(12, (pPtr ((cSl 1 (cK .i64)) x5)))] (pSl 1 (cK .i64) x5) true, Ent.mk [(13, (pSl 1 (cK .i64) x5))] (pEq (.bool x6)) true, Ent.mk [(14, (pEq (.bool x6)))] (pEq (.bool (!x6))) true, Ent.mk [(15, (pEq (.bool (!x6))))] (pEq (.bool (!x6))) true, Ent.mk [(0, (pSl 1 (cSl 1 (cK .i64)) rows_0))] (pEq undef) false, Ent.mk [(3, (pEq (.int .i64 v2)))] (pEq undef) false, Ent.mk [(17, (pEq undef)), (18, (pEq undef))] (pEq undef) false, Ent.mk [(19, (pEq undef))] (pEq undef) false, Ent.mk [(20, (pEq undef))] (pEq undef) false, Ent.mk [(0, (pSl 1 (cSl 1 (cK .i64)) rows_0))] (pEq undef) false, Ent.mk [(22, (pEq undef))] (pEq undef) false, Ent.mk [(23, (pEq undef))] (pEq undef) false, Ent.mk [(24, (pEq undef))] (pEq undef) false, Ent.mk [(21, (pEq undef)), (25, (pEq undef))] (pEq undef) false, Ent.mk [(16, (pEq (.bool (!x6)))), (26, (pEq undef))] (pEq (.bool true)) true]) (done := []) hD ⟨.inr ⟨(OpJ.w (J_move rfl (Opd.tmp rfl))), ⟨rfl, trivial⟩, rfl, rfl⟩, ⟨.inr ⟨(OpJ.w (J_move rfl (Opd.tmp rfl))), ⟨rfl, trivial⟩, rfl, rfl⟩, ⟨.inr ⟨(OpJ.w (J_idx rfl Tryd.underlying28 sz22 (Opd.tmp rfl) (Opd.tmp rfl) hx5)), ⟨rfl, rfl, trivial⟩, rfl, rfl⟩, ⟨.inr ⟨(OpJ.w (J_load rfl Tryd.isAgg22 (Opd.tmp rfl))), ⟨rfl, trivial⟩, rfl, rfl⟩, ⟨.inr ⟨(OpJ.w (J_call rfl Tryd.call35 (c_spec_l16Row hx6) (Opds.cons (Opd.tmp rfl) Opds.nil))), ⟨rfl, trivial⟩, rfl, rfl⟩, ⟨.inr ⟨(OpJ.w (J_not rfl (Opd.tmp rfl))), ⟨rfl, trivial⟩, rfl, rfl⟩, ⟨.inr ⟨(OpJ.w (J_move rfl (Opd.tmp rfl))), ⟨rfl, trivial⟩, rfl, rfl⟩, ⟨.inr ⟨rfl, ⟨rfl, trivial⟩, (.inl ⟨_, rfl, by simp [hc7]⟩), rfl⟩, ⟨.inr ⟨rfl, ⟨rfl, trivial⟩, (.inl ⟨_, rfl, by simp [hc7]⟩), rfl⟩, ⟨.inr ⟨rfl, ⟨rfl, rfl, trivial⟩, (.inl ⟨_, rfl, by simp [hc7]⟩), rfl⟩, ⟨.inr ⟨rfl, ⟨rfl, trivial⟩, (.inl ⟨_, rfl, by simp [hc7]⟩), rfl⟩, ⟨.inr ⟨rfl, ⟨rfl, trivial⟩, (.inl ⟨_, rfl, by simp [hc7]⟩), rfl⟩, ⟨.inr ⟨rfl, ⟨rfl, trivial⟩, (.inl ⟨_, rfl, by simp [hc7]⟩), rfl⟩, ⟨.inr ⟨rfl, ⟨rfl, trivial⟩, (.inl ⟨_, rfl, by simp [hc7]⟩), rfl⟩, ⟨.inr ⟨rfl, ⟨rfl, trivial⟩, (.inl ⟨_, rfl, by simp [hc7]⟩), rfl⟩, ⟨.inr ⟨rfl, ⟨rfl, trivial⟩, (.inl ⟨_, rfl, by simp [hc7]⟩), rfl⟩, ⟨.inr ⟨rfl, ⟨rfl, rfl, trivial⟩, (.inl ⟨_, rfl, by simp [hc7]⟩), rfl⟩, ⟨.inr ⟨(OpJ.w (J_pick rfl (Opd.tmp rfl) (fun _ => Opd.con) (fun hf => absurd (hc7.symm.trans hf) (by decide)))), ⟨rfl, rfl, trivial⟩, rfl, rfl⟩, trivial⟩⟩⟩⟩⟩⟩⟩⟩⟩⟩⟩⟩⟩⟩⟩⟩⟩⟩ ?_
        refine RegL.nil ?_
        replace h := Option.some.inj h; subst h
        exact Ct.mid () rfl ⟨rfl, rfl, rfl, trivial⟩
      · replace h := bif_f hc7 h
        replace h := bind_some h; obtain ⟨x8, hx8, h⟩ := h
        replace h := bind_some h; obtain ⟨x9, hx9, h⟩ := h
        refine Tr.drawD (n := 36) (m := 18) (es := [some (Ent.mk [(0, (pSl 1 (cSl 1 (cK .i64)) rows_0))] (pSl 1 (cSl 1 (cK .i64)) rows_0) true), some (Ent.mk [(3, (pEq (.int .i64 v2)))] (pEq (.int .i64 v2)) true), some (Ent.mk [(10, (pSl 1 (cSl 1 (cK .i64)) rows_0)), (11, (pEq (.int .i64 v2)))] (pPtr ((cSl 1 (cK .i64)) x5)) true), some (Ent.mk [(12, (pPtr ((cSl 1 (cK .i64)) x5)))] (pSl 1 (cK .i64) x5) true), some (Ent.mk [(13, (pSl 1 (cK .i64) x5))] (pEq (.bool x6)) true), some (Ent.mk [(14, (pEq (.bool x6)))] (pEq (.bool (!x6))) true), some (Ent.mk [(15, (pEq (.bool (!x6))))] (pEq (.bool (!x6))) true), some (Ent.mk [(0, (pSl 1 (cSl 1 (cK .i64)) rows_0))] (pSl 1 (cSl 1 (cK .i64)) rows_0) true), some (Ent.mk [(3, (pEq (.int .i64 v2)))] (pEq (.int .i64 v2)) true), some (Ent.mk [(17, (pSl 1 (cSl 1 (cK .i64)) rows_0)), (18, (pEq (.int .i64 v2)))] (pPtr ((cSl 1 (cK .i64)) x8)) true), some (Ent.mk [(19, (pPtr ((cSl 1 (cK .i64)) x8)))] (pSl 1 (cK .i64) x8) true), some (Ent.mk [(20, (pSl 1 (cK .i64) x8))] (pEq (.int .i64 (x8.length : Int))) true), some (Ent.mk [(0, (pSl 1 (cSl 1 (cK .i64)) rows_0))] (pSl 1 (cSl 1 (cK .i64)) rows_0) true), some (Ent.mk [(22, (pSl 1 (cSl 1 (cK .i64)) rows_0))] (pPtr ((cSl 1 (cK .i64)) x9)) true), some (Ent.mk [(23, (pPtr ((cSl 1 (cK .i64)) x9)))] (pSl 1 (cK .i64) x9) true), some (Ent.mk [(24, (pSl 1 (cK .i64) x9))] (pEq (.int .i64 (x9.length : Int))) true), some (Ent.mk [(21, (pEq (.int .i64 (x8.length : Int)))), (25, (pEq (.int .i64 (x9.length : Int))))] (pEq (.bool ((x8.length : Int) != (x9.length : Int)))) true), some (Ent.mk [(16, (pEq (.bool (!x6)))), (26, (pEq (.bool ((x8.length : Int) != (x9.length : Int)))))] (pEq (.bool ((x8.length : Int) != (x9.length : Int)))) true)]) (rd := [[0], [3], [10, 11], [12], [13], [14], [15], [0], [3], [17, 18], [19], [20], [0], [22], [23], [24], [21, 25], [16, 26]]) rfl hmix (by kernel_rfl) fun hD => ?_
        refine RD.fin (es := [Ent.mk [(0, (pSl 1 (cSl 1 (cK .i64)) rows_0))] (pSl 1 (cSl 1 (cK .i64)) rows_0) true, Ent.mk [(3, (pEq (.int .i64 v2)))] (pEq (.int .i64 v2)) true, Ent.mk [(10, (pSl 1 (cSl 1 (cK .i64)) rows_0)), (11, (pEq (.int .i64 v2)))] (pPtr ((cSl 1 (cK .i64)) x5)) true, Ent.mk [(12, (pPtr ((cSl 1 (cK .i64)) x5)))] (pSl 1 (cK .i64) x5) true, Ent.mk [(13, (pSl 1 (cK .i64) x5))] (pEq (.bool x6)) true, Ent.mk [(14, (pEq (.bool x6)))] (pEq (.bool (!x6))) true, Ent.mk [(15, (pEq (.bool (!x6))))] (pEq (.bool (!x6))) true, Ent.mk [(0, (pSl 1 (cSl 1 (cK .i64)) rows_0))] (pSl 1 (cSl 1 (cK .i64)) rows_0) true, Ent.mk [(3, (pEq (.int .i64 v2)))] (pEq (.int .i64 v2)) true, Ent.mk [(17, (pSl 1 (cSl 1 (cK .i64)) rows_0)), (18, (pEq (.int .i64 v2)))] (pPtr ((cSl 1 (cK .i64)) x8)) true, Ent.mk [(19, (pPtr ((cSl 1 (cK .i64)) x8)))] (pSl 1 (cK .i64) x8) true, Ent.mk [(20, (pSl 1 (cK .i64) x8))] (pEq (.int .i64 (x8.length : Int))) true, Ent.mk [(0, (pSl 1 (cSl 1 (cK .i64)) rows_0))] (pSl 1 (cSl 1 (cK .i64)) rows_0) true, Ent.mk [(22, (pSl 1 (cSl 1 (cK .i64)) rows_0))] (pPtr ((cSl 1 (cK .i64)) x9)) true, Ent.mk [(23, (pPtr ((cSl 1 (cK .i64)) x9)))] (pSl 1 (cK .i64) x9) true, Ent.mk [(24, (pSl 1 (cK .i64) x9))] (pEq (.int .i64 (x9.length : Int))) true, Ent.mk [(21, (pEq (.int .i64 (x8.length : Int)))), (25, (pEq (.int .i64 (x9.length : Int))))] (pEq (.bool ((x8.length : Int) != (x9.length : Int)))) true, Ent.mk [(16, (pEq (.bool (!x6)))), (26, (pEq (.bool ((x8.length : Int) != (x9.length : Int)))))] (pEq (.bool ((x8.length : Int) != (x9.length : Int)))) true]) (done := []) hD ⟨.inr ⟨(OpJ.w (J_move rfl (Opd.tmp rfl))), ⟨rfl, trivial⟩, rfl, rfl⟩, ⟨.inr ⟨(OpJ.w (J_move rfl (Opd.tmp rfl))), ⟨rfl, trivial⟩, rfl, rfl⟩, ⟨.inr ⟨(OpJ.w (J_idx rfl Tryd.underlying28 sz22 (Opd.tmp rfl) (Opd.tmp rfl) hx5)), ⟨rfl, rfl, trivial⟩, rfl, rfl⟩, ⟨.inr ⟨(OpJ.w (J_load rfl Tryd.isAgg22 (Opd.tmp rfl))), ⟨rfl, trivial⟩, rfl, rfl⟩, ⟨.inr ⟨(OpJ.w (J_call rfl Tryd.call35 (c_spec_l16Row hx6) (Opds.cons (Opd.tmp rfl) Opds.nil))), ⟨rfl, trivial⟩, rfl, rfl⟩, ⟨.inr ⟨(OpJ.w (J_not rfl (Opd.tmp rfl))), ⟨rfl, trivial⟩, rfl, rfl⟩, ⟨.inr ⟨(OpJ.w (J_move rfl (Opd.tmp rfl))), ⟨rfl, trivial⟩, rfl, rfl⟩, ⟨.inr ⟨(OpJ.w (J_move rfl (Opd.tmp rfl))), ⟨rfl, trivial⟩, (.inl ⟨_, rfl, by simp [hc7]⟩), rfl⟩, ⟨.inr ⟨(OpJ.w (J_move rfl (Opd.tmp rfl))), ⟨rfl, trivial⟩, (.inl ⟨_, rfl, by simp [hc7]⟩), rfl⟩, ⟨.inr ⟨(OpJ.w (J_idx rfl Tryd.underlying28 sz22 (Opd.tmp rfl) (Opd.tmp rfl) hx8)), ⟨rfl, rfl, trivial⟩, (.inl ⟨_, rfl, by simp [hc7]⟩), rfl⟩, ⟨.inr ⟨(OpJ.w (J_load rfl Tryd.isAgg22 (Opd.tmp rfl))), ⟨rfl, trivial⟩, (.inl ⟨_, rfl, by simp [hc7]⟩), rfl⟩, ⟨.inr ⟨(OpJ.w (J_len rfl Tryd.underlying22 (Opd.tmp rfl) rfl)), ⟨rfl, trivial⟩, (.inl ⟨_, rfl, by simp [hc7]⟩), rfl⟩, ⟨.inr ⟨(OpJ.w (J_move rfl (Opd.tmp rfl))), ⟨rfl, trivial⟩, (.inl ⟨_, rfl, by simp [hc7]⟩), rfl⟩, ⟨.inr ⟨(OpJ.w (J_idx rfl Tryd.underlying28 sz22 (Opd.tmp rfl) Opd.con hx9)), ⟨rfl, trivial⟩, (.inl ⟨_, rfl, by simp [hc7]⟩), rfl⟩, ⟨.inr ⟨(OpJ.w (J_load rfl Tryd.isAgg22 (Opd.tmp rfl))), ⟨rfl, trivial⟩, (.inl ⟨_, rfl, by simp [hc7]⟩), rfl⟩, ⟨.inr ⟨(OpJ.w (J_len rfl Tryd.underlying22 (Opd.tmp rfl) rfl)), ⟨rfl, trivial⟩, (.inl ⟨_, rfl, by simp [hc7]⟩), rfl⟩, ⟨.inr ⟨(OpJ.w (J_bin rfl (Opd.tmp rfl) (Opd.tmp rfl) B_neq)), ⟨rfl, rfl, trivial⟩, (.inl ⟨_, rfl, by simp [hc7]⟩), rfl⟩, ⟨.inr ⟨(OpJ.w (J_pick rfl (Opd.tmp rfl) (fun hf => absurd (hc7.symm.trans hf) (by decide)) (fun _ => (Opd.tmp rfl)))), ⟨rfl, rfl, trivial⟩, rfl, rfl⟩, trivial⟩⟩⟩⟩⟩⟩⟩⟩⟩⟩⟩⟩⟩⟩⟩⟩⟩⟩ ?_
        refine RegL.nil ?_
        replace h := Option.some.inj h; subst h
        exact Ct.mid () rfl ⟨rfl, rfl, rfl, trivial⟩
    · clear hx4
      refine Ct.then_tr ?_
      refine Tr.weak (Γ' := [(0, (pSl 1 (cSl 1 (cK .i64)) rows_0)), (3, (pEq (.int .i64 v2))), (27, (pEq (.bool x4)))]) ⟨rfl, rfl, rfl, trivial⟩ ?_
      refine Tr.cond (Opd.tmp rfl) (fun hc => ?_) (fun hc => ?_)
      · replace h := bif_t hc h
        refine Tr.seq ?_
        refine Tr.region ?_
        refine RegL.pure (p := (pEq (.bool false))) rfl rfl rfl (J_assign rfl Opd.con) ?_
        refine RegL.nil ?_
        refine Ct.then_tr ?_
        refine Tr.weak (Γ' := [(2, (pEq (.bool false)))]) ⟨rfl, trivial⟩ ?_
        refine Tr.ret ?_
        refine Ct.blk_ret ?_
        refine Ct.then_ret ?_
        replace h := map_some h; obtain ⟨r1, h, rfl⟩ := h
        refine Ct.out_ret fun e => ?_
        subst e
        refine Ct.blk_ret ?_
        refine Ct.then_ret ?_
        replace h := Option.some.inj h; subst h
        exact Ct.retH1 (Ωx := []) () rfl (RvOk.tmp rfl) rfl
      · replace h := bif_f hc h
        refine Tr.skip ?_
        refine Ct.blk_normal ?_
        refine Ct.then_tr ?_
        refine Tr.weak (Γ' := [(0, (pSl 1 (cSl 1 (cK .i64)) rows_0)), (3, (pEq (.int .i64 v2)))]) ⟨rfl, rfl, trivial⟩ ?_
        refine Tr.region ?_
        refine RegL.pure (p := (pEq (.int .i64 v2))) rfl rfl rfl (J_move rfl (Opd.tmp rfl)) ?_
        refine RegL.pure (p := (pEq (.int .i64 (w64 (v2 + (1 : Int)))))) rfl rfl rfl (J_bin rfl (Opd.tmp rfl) Opd.con B_add) ?_
        refine RegL.pure (p := (pEq (.int .i64 (w64 (v2 + (1 : Int)))))) rfl rfl rfl (J_assign rfl (Opd.tmp rfl)) ?_
        refine RegL.nil ?_
        replace h := Option.some.inj h; subst h
        exact Ct.again () rfl ⟨rfl, rfl, trivial⟩
  · replace h := bif_f hc h
    refine Tr.exit ?_
    refine Ct.then_exit ?_
    replace h := map_some h; obtain ⟨r1, h, rfl⟩ := h
    refine Ct.out_exit fun e => ?_
    subst e
    refine Ct.blk_exit ?_
    refine Ct.then_tr ?_
    refine Tr.weak (Γ' := [(0, (pSl 1 (cSl 1 (cK .i64)) rows_0))]) ⟨rfl, trivial⟩ ?_
    refine Tr.seq ?_
    replace h := bind_some h; obtain ⟨x11, hx11, h⟩ := h
    refine Tr.cut (γ := Unit) (Γm := fun g => [(2, (pEq (.bool x11)))]) (Ωm := fun g => []) ?_ (fun g13 => ?_)
    · clear h
      have h := hx11
      clear hx11
      refine Tr.region ?_
      refine RegL.pure (p := (pSl 1 (cSl 1 (cK .i64)) rows_0)) rfl rfl rfl (J_move rfl (Opd.tmp rfl)) ?_
      refine RegL.pure (p := (pEq (.int .i64 (rows_0.length : Int)))) rfl rfl rfl (J_len rfl Tryd.underlying28 (Opd.tmp rfl) rfl) ?_
      refine RegL.pure (p := (pEq (.bool (decide ((0 : Int) < (rows_0.length : Int)))))) rfl rfl rfl (J_bin rfl (Opd.tmp rfl) Opd.con B_gtr) ?_
      refine RegL.pure (p := (pEq (.bool (decide ((0 : Int) < (rows_0.length : Int)))))) rfl rfl rfl (J_move rfl (Opd.tmp rfl)) ?_
      rcases Bool.eq_false_or_eq_true (decide ((0 : Int) < (rows_0.length : Int))) with hc12 | hc12
      · replace h := bif_t hc12 h
        refine RegL.pureG (p := (pSl 1 (cSl 1 (cK .i64)) rows_0)) rfl rfl rfl hc12 rfl rfl (J_move rfl (Opd.tmp rfl)) ?_
        refine RegL.pureG (p := (pEq (.int .i64 (rows_0.length : Int)))) rfl rfl rfl hc12 rfl rfl (J_len rfl Tryd.underlying28 (Opd.tmp rfl) rfl) ?_
        refine RegL.pureG (p := (pEq (.bool (decide ((rows_0.length : Int) ≤ (32 : Int)))))) rfl rfl rfl hc12 rfl rfl (J_bin rfl (Opd.tmp rfl) Opd.con B_leq) ?_
        refine RegL.pure (p := (pEq (.bool (decide ((rows_0.length : Int) ≤ (32 : Int)))))) rfl rfl rfl (J_pick rfl (Opd.tmp rfl) (fun _ => (Opd.tmp rfl)) (fun hf => absurd (hc12.symm.trans hf) (by decide))) ?_
        refine RegL.pure (p := (pEq (.bool (decide ((rows_0.length : Int) ≤ (32 : Int)))))) rfl rfl rfl (J_assign rfl (Opd.tmp rfl)) ?_
        refine RegL.nil ?_
        replace h := Option.some.inj h; subst h
        exact Ct.mid () rfl ⟨rfl, trivial⟩
      · replace h := bif_f hc12 h
        refine RegL.skipG rfl rfl rfl hc12 rfl rfl ?_
        refine RegL.skipG rfl rfl rfl hc12 rfl rfl ?_
        refine RegL.skipG rfl rfl rfl hc12 rfl rfl ?_
        refine RegL.pure (p := (pEq (.bool false))) rfl rfl rfl (J_pick rfl (Opd.tmp rfl) (fun hf => absurd (hc12.symm.trans hf) (by decide)) (fun _ => Opd.con)) ?_
        refine RegL.pure (p := (pEq (.bool false))) rfl rfl rfl (J_assign rfl (Opd.tmp rfl)) ?_
        refine RegL.nil ?_
        replace h := Option.some.inj h; subst h
        exact Ct.mid () rfl ⟨rfl, trivial⟩
    · clear hx11
      refine Ct.then_tr ?_
      refine Tr.weak (Γ' := [(2, (pEq (.bool x11)))]) ⟨rfl, trivial⟩ ?_
      refine Tr.ret ?_
      replace h := Option.some.inj h; subst h
      exact Ct.retH1 (Ωx := []) () rfl (RvOk.tmp rfl) rfl

theorem c_spec_l16Channels {channels_0 : (List Int)} {n_1 : Int} {r : Bool} (h : m_spec_l16Channels channels_0 n_1 = some r) : CallJ Tryd.prog 36 [(pSl 1 (cK .i64) channels_0), (pEq (.int .i64 n_1))] (pEq (.bool r)) := by
  unfold m_spec_l16Channels at h
  refine CallJ.enterH Tryd.func36 rfl Tryd.ntmps36 rfl fun W I0 H => ?_
  refine Tr.weak (Γ' := [(0, (pSl 1 (cK .i64) channels_0)), (1, (pEq (.int .i64 n_1)))]) ⟨rfl, rfl, trivial⟩ ?_
  refine Tr.seq ?_
  refine Tr.region ?_
  refine RegL.pure (p := (pEq (.bool false))) rfl rfl rfl (J_assign rfl Opd.con) ?_
  refine RegL.nil ?_
  refine Ct.then_tr ?_
  refine Tr.weak (Γ' := [(0, (pSl 1 (cK .i64) channels_0)), (1, (pEq (.int .i64 n_1)))]) ⟨rfl, rfl, trivial⟩ ?_
  refine Tr.seq ?_
  refine Tr.seq ?_
  refine Tr.region ?_
  refine RegL.pure (p := (pEq (.int .i64 (0 : Int)))) rfl rfl rfl (J_assign rfl Opd.con) ?_
  refine RegL.nil ?_
  refine Ct.then_tr ?_
  refine Tr.weak (Γ' := [(0, (pSl 1 (cK .i64) channels_0)), (1, (pEq (.int .i64 n_1))), (5, (pEq (.int .i64 (0 : Int))))]) ⟨rfl, rfl, rfl, trivial⟩ ?_
  refine Tr.block ?_
  refine Tr.weak (Γ' := [(0, (pSl 1 (cK .i64) channels_0)), (1, (pEq (.int .i64 n_1))), (5, (pEq (.int .i64 (0 : Int))))]) ⟨rfl, rfl, rfl, trivial⟩ ?_
  refine Tr.loop (γ := Unit) (σ := Int) (Γσ := fun s g => [(0, (pSl 1 (cK .i64) channels_0)), (1, (pEq (.int .i64 n_1))), (5, (pEq (.int .i64 s)))]) (Ωσ := fun s g => []) (g := ()) h ?_
  clear h
  rintro v2 g3 t h
  replace h : m_spec_l16Channels_B1 channels_0 n_1 v2 = some t := h
  unfold m_spec_l16Channels_B1 at h
  refine Tr.weakO (Γ' := [(0, (pSl 1 (cK .i64) channels_0)), (1, (pEq (.int .i64 n_1))), (5, (pEq (.int .i64 v2)))]) (Ω' := []) rfl ⟨rfl, rfl, rfl, trivial⟩ ?_
  refine Tr.seq ?_
  refine Tr.seq ?_
  refine Tr.region ?_
  refine RegL.pure (p := (pEq (.int .i64 v2))) rfl rfl rfl (J_move rfl (Opd.tmp rfl)) ?_
  refine RegL.pure (p := (pSl 1 (cK .i64) channels_0)) rfl rfl rfl (J_move rfl (Opd.tmp rfl)) ?_
  refine RegL.pure (p := (pEq (.int .i64 (channels_0.length : Int)))) rfl rfl rfl (J_len rfl Tryd.underlying22 (Opd.tmp rfl) rfl) ?_
  refine RegL.pure (p := (pEq (.bool (decide (v2 < (channels_0.length : Int)))))) rfl rfl rfl (J_bin rfl (Opd.tmp rfl) (Opd.tmp rfl) B_lss) ?_
  refine RegL.nil ?_
  refine Ct.then_tr ?_
  refine Tr.weak (Γ' := [(0, (pSl 1 (cK .i64) channels_0)), (1, (pEq (.int .i64 n_1))), (5, (pEq (.int .i64 v2))), (9, (pEq (.bool (decide (v2 < (channels_0.length : Int))))))]) ⟨rfl, rfl, rfl, rfl, trivial⟩ ?_
  refine Tr.cond (Opd.tmp rfl) (fun hc => ?_) (fun hc => ?_)
  · replace h := bif_t hc h
    refine Tr.skip ?_
    refine Ct.then_tr ?_
    refine Tr.weak (Γ' := [(0, (pSl 1 (cK .i64) channels_0)), (1, (pEq (.int .i64 n_1))), (5, (pEq (.int .i64 v2)))]) ⟨rfl, rfl, rfl, trivial⟩ ?_
    refine Tr.seq ?_
    refine Tr.block ?_
    refine Tr.seq ?_
    refine Tr.region ?_
    refine RegL.pure (p := (pSl 1 (cK .i64) channels_0)) rfl rfl rfl (J_move rfl (Opd.tmp rfl)) ?_
    refine RegL.pure (p := (pEq (.int .i64 v2))) rfl rfl rfl (J_move rfl (Opd.tmp rfl)) ?_
    replace h := bind_some h; obtain ⟨x4, hx4, h⟩ := h
    refine RegL.pure (p := (pPtr ((cK .i64) x4))) rfl rfl rfl (J_idx rfl Tryd.underlying22 sz2 (Opd.tmp rfl) (Opd.tmp rfl) hx4) ?_
    refine RegL.pure (p := (pEq (.int .i64 x4))) rfl rfl rfl (J_load rfl Tryd.isAgg2 (Opd.tmp rfl)) ?_
    replace h := bind_some h; obtain ⟨x5, hx5, h⟩ := h
    refine RegL.pure (p := (pEq (.bool x5))) rfl rfl rfl (J_call rfl Tryd.call38 (c_spec_l00In hx5) (Opds.cons (Opd.tmp rfl) (Opds.cons Opd.con (Opds.cons Opd.con Opds.nil)))) ?_
    refine RegL.pure (p := (pEq (.bool (!x5)))) rfl rfl rfl (J_not rfl (Opd.tmp rfl)) ?_
    refine RegL.nil ?_
    refine Ct.then_tr ?_
    refine Tr.weak (Γ' := [(0, (pSl 1 (cK .i64) channels_0)), (1, (pEq (.int .i64 n_1))), (5, (pEq (.int .i64 v2))), (17, (pEq (.bool (!x5))))]) ⟨rfl, rfl, rfl, rfl, trivial⟩ ?_
    refine Tr.cond (Opd.tmp rfl) (fun hc => ?_) (fun hc => ?_)
    · replace h := bif_t hc h
      refine Tr.seq ?_
      refine Tr.region ?_
      refine RegL.pure (p := (pEq (.bool false))) rfl rfl rfl (J_assign rfl Opd.con) ?_
      refine RegL.nil ?_
      refine Ct.then_tr ?_
      refine Tr.weak (Γ' := [(4, (pEq (.bool false)))]) ⟨rfl, trivial⟩ ?_
      refine Tr.ret ?_
      refine Ct.blk_ret ?_
      refine Ct.then_ret ?_
      replace h := map_some h; obtain ⟨r1, h, rfl⟩ := h
      refine Ct.out_ret fun e => ?_
      subst e
      refine Ct.blk_ret ?_
      refine Ct.then_ret ?_
      replace h := Option.some.inj h; subst h
      exact Ct.retH1 (Ωx := []) () rfl (RvOk.tmp rfl) rfl
    · replace h := bif_f hc h
      refine Tr.skip ?_
      refine Ct.blk_normal ?_
      refine Ct.then_tr ?_
      refine Tr.weak (Γ' := [(0, (pSl 1 (cK .i64) channels_0)), (1, (pEq (.int .i64 n_1))), (5, (pEq (.int .i64 v2)))]) ⟨rfl, rfl, rfl, trivial⟩ ?_
      refine Tr.region ?_
      refine RegL.pure (p := (pEq (.int .i64 v2))) rfl rfl rfl (J_move rfl (Opd.tmp rfl)) ?_
      refine RegL.pure (p := (pEq (.int .i64 (w64 (v2 + (1 : Int)))))) rfl rfl rfl (J_bin rfl (Opd.tmp rfl) Opd.con B_add) ?_
      refine RegL.pure (p := (pEq (.int .i64 (w64 (v2 + (1 : Int)))))) rfl rfl rfl (J_assign rfl (Opd.tmp rfl)) ?_
      refine RegL.nil ?_
      replace h := Option.some.inj h; subst h
      exact Ct.again () rfl ⟨rfl, rfl, rfl, trivial⟩
  · replace h := bif_f hc h
    refine Tr.exit ?_
    refine Ct.then_exit ?_
    replace h := map_some h; obtain ⟨r1, h, rfl⟩ := h
    refine Ct.out_exit fun e => ?_
    subst e
    refine Ct.blk_exit ?_
    refine Ct.then_tr ?_
    refine Tr.weak (Γ' := [(0, (pSl 1 (cK .i64) channels_0)), (1, (pEq (.int .i64 n_1)))]) ⟨rfl, rfl, trivial⟩ ?_
    refine Tr.seq ?_
    refine Tr.region ?_
    refine RegL.pure (p := (pSl 1 (cK .i64) channels_0)) rfl rfl rfl (J_move rfl (Opd.tmp rfl)) ?_
    refine RegL.pure (p := (pEq (.int .i64 (channels_0.length : Int)))) rfl rfl rfl (J_len rfl Tryd.underlying22 (Opd.tmp rfl) rfl) ?_
    refine RegL.pure (p := (pEq (.int .i64 n_1))) rfl rfl rfl (J_move rfl (Opd.tmp rfl)) ?_
    refine RegL.pure (p := (pEq (.bool ((channels_0.length : Int) == n_1)))) rfl rfl rfl (J_bin rfl (Opd.tmp rfl) (Opd.tmp rfl) B_eql) ?_
    refine RegL.pure (p := (pEq (.bool ((channels_0.length : Int) == n_1)))) rfl rfl rfl (J_assign rfl (Opd.tmp rfl)) ?_
    refine RegL.nil ?_
    refine Ct.then_tr ?_
    refine Tr.weak (Γ' := [(4, (pEq (.bool ((channels_0.length : Int) == n_1))))]) ⟨rfl, trivial⟩ ?_
    refine Tr.ret ?_
    replace h := Option.some.inj h; subst h
    exact Ct.retH1 (Ωx := []) () rfl (RvOk.tmp rfl) rfl

theorem c_spec_l08Table {table_0 : (List Int)} {r : Bool} (h : m_spec_l08Table table_0 = some r) : CallJ Tryd.prog 37 [(pSl 1 (cK .i64) table_0)] (pEq (.bool r)) := by
  unfold m_spec_l08Table at h
  refine CallJ.enterH Tryd.func37 rfl Tryd.ntmps37 rfl fun W I0 H => ?_
  refine Tr.weak (Γ' := [(0, (pSl 1 (cK .i64) table_0))]) ⟨rfl, trivial⟩ ?_
  refine Tr.seq ?_
  refine Tr.region ?_
  refine RegL.pure (p := (pEq (.bool false))) rfl rfl rfl (J_assign rfl Opd.con) ?_
  refine RegL.nil ?_
  refine Ct.then_tr ?_
  refine Tr.weak (Γ' := [(0, (pSl 1 (cK .i64) table_0))]) ⟨rfl, trivial⟩ ?_
  refine Tr.seq ?_
  refine Tr.seq ?_
  refine Tr.region ?_
  refine RegL.pure (p := (pEq (.int .i64 (0 : Int)))) rfl rfl rfl (J_assign rfl Opd.con) ?_
  refine RegL.nil ?_
  refine Ct.then_tr ?_
  refine Tr.weak (Γ' := [(0, (pSl 1 (cK .i64) table_0)), (3, (pEq (.int .i64 (0 : Int))))]) ⟨rfl, rfl, trivial⟩ ?_
  refine Tr.block ?_
  refine Tr.weak (Γ' := [(0, (pSl 1 (cK .i64) table_0)), (3, (pEq (.int .i64 (0 : Int))))]) ⟨rfl, rfl, trivial⟩ ?_
  refine Tr.loop (γ := Unit) (σ := Int) (Γσ := fun s g => [(0, (pSl 1 (cK .i64) table_0)), (3, (pEq (.int .i64 s)))]) (Ωσ := fun s g => []) (g := ()) h ?_
  clear h
  rintro v2 g3 t h
  replace h : m_spec_l08Table_B1 table_0 v2 = some t := h
  unfold m_spec_l08Table_B1 at h
  refine Tr.weakO (Γ' := [(0, (pSl 1 (cK .i64) table_0)), (3, (pEq (.int .i64 v2)))]) (Ω' := []) rfl ⟨rfl, rfl, trivial⟩ ?_
  refine Tr.seq ?_
  refine Tr.seq ?_
  refine Tr.region ?_
  refine RegL.pure (p := (pEq (.int .i64 v2))) rfl rfl rfl (J_move rfl (Opd.tmp rfl)) ?_
  refine RegL.pure (p := (pSl 1 (cK .i64) table_0)) rfl rfl rfl (J_move rfl (Opd.tmp rfl)) ?_
  refine RegL.pure (p := (pEq (.int .i64 (table_0.length : Int)))) rfl rfl rfl (J_len rfl Tryd.underlying22 (Opd.tmp rfl) rfl) ?_
  refine RegL.pure (p := (pEq (.bool (decide (v2 < (table_0.length : Int)))))) rfl rfl rfl (J_bin rfl (Opd.tmp rfl) (Opd.tmp rfl) B_lss) ?_
  refine RegL.nil ?_
  refine Ct.then_tr ?_
  refine Tr.weak (Γ' := [(0, (pSl 1 (cK .i64) table_0)), (3, (pEq (.int .i64 v2))), (7, (pEq (.bool (decide (v2 < (table_0.length : Int))))))]) ⟨rfl, rfl, rfl, trivial⟩ ?_
  refine Tr.cond (Opd.tmp rfl) (fun hc => ?_) (fun hc => ?_)
  · replace h := bif_t hc h
    refine Tr.skip ?_
    refine Ct.then_tr ?_
    refine Tr.weak (Γ' := [(0, (pSl 1 (cK .i64) table_0)), (3, (pEq (.int .i64 v2)))]) ⟨rfl, rfl, trivial⟩ ?_
    refine Tr.seq ?_
    refine Tr.block ?_
    refine Tr.seq ?_
    replace h := bind_some h; obtain ⟨x4, hx4, h⟩ := h
    refine Tr.cut (γ := Unit) (Γm := fun g => [(0, (pSl 1 (cK .i64) table_0)), (3, (pEq (.int .i64 v2))), (31, (pEq (.bool x4)))]) (Ωm := fun g => []) ?_ (fun g11 => ?_)
    · clear h
      have h := hx4
      clear hx4
      replace h := bind_some h; obtain ⟨x5, hx5, h⟩ := h
      replace h := bind_some h; obtain ⟨x6, hx6, h⟩ := h
      rcases Bool.eq_false_or_eq_true (!x6) with hc7 | hc7
      · replace h := bif_t hc7 h
        refine Tr.drawD (n := 46) (m := 22) (es := [some (Ent.mk [(0, (pSl 1 (cK .i64) table_0))] (pSl 1 (cK .i64) table_0) true), some (Ent.mk [(3, (pEq (.int .i64 v2)))] (pEq (.int .i64 v2)) true), some (Ent.mk [(10, (pSl 1 (cK .i64) table_0)), (11, (pEq (.int .i64 v2)))] (pPtr ((cK .i64) x5)) true), some (Ent.mk [(12, (pPtr ((cK .i64) x5)))] (pEq (.int .i64 x5)) true), some (Ent.mk [(13, (pEq (.int .i64 x5)))] (pEq (.bool x6)) true), some (Ent.mk [(14, (pEq (.bool x6)))] (pEq (.bool (!x6))) true), some (Ent.mk [(15, (pEq (.bool (!x6))))] (pEq (.bool (!x6))) true), some (Ent.mk [(3, (pEq (.int .i64 v2)))] (pEq undef) false), some (Ent.mk [(17, (pEq undef))] (pEq undef) false), some (Ent.mk [(18, (pEq undef))] (pEq undef) false), some (Ent.mk [(0, (pSl 1 (cK .i64) table_0))] (pEq undef) false), some (Ent.mk [(3, (pEq (.int .i64 v2)))] (pEq undef) false), some (Ent.mk [(21, (pEq undef))] (pEq undef) false), some (Ent.mk [(20, (pEq undef)), (22, (pEq undef))] (pEq undef) false), some (Ent.mk [(23, (pEq undef))] (pEq undef) false), some (Ent.mk [(0, (pSl 1 (cK .i64) table_0))] (pEq undef) false), some (Ent.mk [(3, (pEq (.int .i64 v2)))] (pEq undef) false), some (Ent.mk [(25, (pEq undef)), (26, (pEq undef))] (pEq undef) false), some (Ent.mk [(27, (pEq undef))] (pEq undef) false), some (Ent.mk [(24, (pEq undef)), (28, (pEq undef))] (pEq undef) false), some (Ent.mk [(19, (pEq undef)), (29, (pEq undef))] (pEq undef) false), some (Ent.mk [(16, (pEq (.bool (!x6)))), (30, (pEq undef))] (pEq (.bool true)) true)]) (rd := [[0], [3], [10, 11], [12], [13], [14], [15], [3], [17], [18], [0], [3], [21], [20, 22], [23], [0], [3], [25, 26], [27], [24, 28], [19, 29], [16, 30]]) rfl hmix (by kernel_rfl) fun hD => ?_
        refine RD.fin (es := [Ent.mk [(0, (pSl 1 (cK .i64) table_0))] (pSl 1 (cK .i64) table_0) true, Ent.mk [(3, (pEq (.int .i64 v2)))] (pEq (.int .i64 v2)) true, Ent.mk [(10, (pSl 1 (cK .i64) table_0)), (11, (pEq (.int .i64 v2)))] (pPtr ((cK .i64) x5)) true, Ent.mk [(12, (pPtr ((cK .i64) x5)))] (pEq (.int .i64 x5)) true, Ent.mk [(13, (pEq (.int .i64 x5)))] (pEq (.bool x6)) true, Ent.mk [(14, (pEq (.bool x6)))] (pEq (.bool (!x6))) true, Ent.mk [(15, (pEq (.bool (!x6))))] (pEq (.bool (!x6))) true, Ent.mk [(3, (pEq (.int .i64 v2)))] (pEq undef) false, Ent.mk [(17, (pEq undef))] (pEq undef) false, Ent.mk [(18, (pEq undef))] (pEq undef) false, Ent.mk [(0, (pSl 1 (cK .i64) table_0))] (pEq undef) false, Ent.mk [(3, (pEq (.int .i64 v2)))] (pEq undef) false, Ent.mk [(21, (pEq undef))] (pEq undef) false, Ent.mk [(20, (pEq undef)), (22, (pEq undef))] (pEq undef) false, Ent.mk [(23, (pEq undef))] (pEq undef) false, Ent.mk [(0, (pSl 1 (cK .i64) table_0))] (pEq undef) false, Ent.mk [(3, (pEq (.int .i64 v2)))] (pEq undef) false, Ent.mk [(25, (pEq undef)), (26, (pEq undef))] (pEq undef) false, Ent.mk [(27, (pEq undef))] (pEq undef) false, Ent.mk [(24, (pEq undef)), (28, (pEq undef))] (pEq undef) false, Ent.mk [(19, (pEq undef)), (29, (pEq undef))] (pEq undef) false, Ent.mk [(16, (pEq (.bool (!x6)))), (30, (pEq undef))] (pEq (.bool true)) true]) (done := []) hD ⟨.inr ⟨(OpJ.w (J_move rfl (Opd.tmp rfl))), ⟨rfl, trivial⟩, rfl, rfl⟩, ⟨.inr ⟨(OpJ.w (J_move rfl (Opd.tmp rfl))), ⟨rfl, trivial⟩, rfl, rfl⟩, ⟨.inr ⟨(OpJ.w (J_idx rfl Tryd.underlying22 sz2 (Opd.tmp rfl) (Opd.tmp rfl) hx5)), ⟨rfl, rfl, trivial⟩, rfl, rfl⟩, ⟨.inr ⟨(OpJ.w (J_load rfl Tryd.isAgg2 (Opd.tmp rfl))), ⟨rfl, trivial⟩, rfl, rfl⟩, ⟨.inr ⟨(OpJ.w (J_call rfl Tryd.call38 (c_spec_l00In hx6) (Opds.cons (Opd.tmp rfl) (Opds.cons Opd.con (Opds.cons Opd.con Opds.nil))))), ⟨rfl, trivial⟩, rfl, rfl⟩, ⟨.inr ⟨(OpJ.w (J_not rfl (Opd.tmp rfl))), ⟨rfl, trivial⟩, rfl, rfl⟩, ⟨.inr ⟨(OpJ.w (J_move rfl (Opd.tmp rfl))), ⟨rfl, trivial⟩, rfl, rfl⟩, ⟨.inr ⟨rfl, ⟨rfl, trivial⟩, (.inl ⟨_, rfl, by simp [hc7]⟩), rfl⟩, ⟨.inr ⟨rfl, ⟨rfl, trivial⟩, (.inl ⟨_, rfl, by simp [hc7]⟩), rfl⟩, ⟨.inr ⟨rfl, ⟨rfl, trivial⟩, (.inl ⟨_, rfl, by simp [hc7]⟩), rfl⟩, ⟨.inr ⟨rfl, ⟨rfl, trivial⟩, (.inr ⟨rfl, rfl⟩), rfl⟩, ⟨.inr ⟨rfl, ⟨rfl, trivial⟩, (.inr ⟨rfl, rfl⟩), rfl⟩, ⟨.inr ⟨rfl, ⟨rfl, trivial⟩, (.inr ⟨rfl, rfl⟩), rfl⟩, ⟨.inr ⟨rfl, ⟨rfl, rfl, trivial⟩, (.inr ⟨rfl, rfl⟩), rfl⟩, ⟨.inr ⟨rfl, ⟨rfl, trivial⟩, (.inr ⟨rfl, rfl⟩), rfl⟩, ⟨.inr ⟨rfl, ⟨rfl, trivial⟩, (.inr ⟨rfl, rfl⟩), rfl⟩, ⟨.inr ⟨rfl, ⟨rfl, trivial⟩, (.inr ⟨rfl, rfl⟩), rfl⟩, ⟨.inr ⟨rfl, ⟨rfl, rfl, trivial⟩, (.inr ⟨rfl, rfl⟩), rfl⟩, ⟨.inr ⟨rfl, ⟨rfl, trivial⟩, (.inr ⟨rfl, rfl⟩), rfl⟩, ⟨.inr ⟨rfl, ⟨rfl, rfl, trivial⟩, (.inr ⟨rfl, rfl⟩), rfl⟩, ⟨.inr ⟨rfl, ⟨rfl, rfl, trivial⟩, (.inl ⟨_, rfl, by simp [hc7]⟩), rfl⟩, ⟨.inr ⟨(OpJ.w (J_pick rfl (Opd.tmp rfl) (fun _ => Opd.con) (fun hf => absurd (hc7.symm.trans hf) (by decide)))), ⟨rfl, rfl, trivial⟩, rfl, rfl⟩, trivial⟩⟩⟩⟩⟩⟩⟩⟩⟩⟩⟩⟩⟩⟩⟩⟩⟩⟩⟩⟩⟩⟩ ?_
        refine RegL.nil ?_
        replace h := Option.some.inj h; subst h
        exact Ct.mid () rfl ⟨rfl, rfl, rfl, trivial⟩
      · replace h := bif_f hc7 h
        rcases Bool.eq_false_or_eq_true (decide ((0 : Int) < v2)) with hc8 | hc8
        · replace h := bif_t hc8 h
          replace h := bind_some h; obtain ⟨x9, hx9, h⟩ := h
          replace h := bind_some h; obtain ⟨x10, hx10, h⟩ := h
          refine Tr.drawD (n := 46) (m := 22) (es := [some (Ent.mk [(0, (pSl 1 (cK .i64) table_0))] (pSl 1 (cK .i64) table_0) true), some (Ent.mk [(3, (pEq (.int .i64 v2)))] (pEq (.int .i64 v2)) true), some (Ent.mk [(10, (pSl 1 (cK .i64) table_0)), (11, (pEq (.int .i64 v2)))] (pPtr ((cK .i64) x5)) true), some (Ent.mk [(12, (pPtr ((cK .i64) x5)))] (pEq (.int .i64 x5)) true), some (Ent.mk [(13, (pEq (.int .i64 x5)))] (pEq (.bool x6)) true), some (Ent.mk [(14, (pEq (.bool x6)))] (pEq (.bool (!x6))) true), some (Ent.mk [(15, (pEq (.bool (!x6))))] (pEq (.bool (!x6))) true), some (Ent.mk [(3, (pEq (.int .i64 v2)))] (pEq (.int .i64 v2)) true), some (Ent.mk [(17, (pEq (.int .i64 v2)))] (pEq (.bool (decide ((0 : Int) < v2)))) true), some (Ent.mk [(18, (pEq (.bool (decide ((0 : Int) < v2)))))] (pEq (.bool (decide ((0 : Int) < v2)))) true), some (Ent.mk [(0, (pSl 1 (cK .i64) table_0))] (pSl 1 (cK .i64) table_0) true), some (Ent.mk [(3, (pEq (.int .i64 v2)))] (pEq (.int .i64 v2)) true), some (Ent.mk [(21, (pEq (.int .i64 v2)))] (pEq (.int .i64 (w64 (v2 - (1 : Int))))) true), some (Ent.mk [(20, (pSl 1 (cK .i64) table_0)), (22, (pEq (.int .i64 (w64 (v2 - (1 : Int))))))] (pPtr ((cK .i64) x9)) true), some (Ent.mk [(23, (pPtr ((cK .i64) x9)))] (pEq (.int .i64 x9)) true), some (Ent.mk [(0, (pSl 1 (cK .i64) table_0))] (pSl 1 (cK .i64) table_0) true), some (Ent.mk [(3, (pEq (.int .i64 v2)))] (pEq (.int .i64 v2)) true), some (Ent.mk [(25, (pSl 1 (cK .i64) table_0)), (26, (pEq (.int .i64 v2)))] (pPtr ((cK .i64) x10)) true), some (Ent.mk [(27, (pPtr ((cK .i64) x10)))] (pEq (.int .i64 x10)) true), some (Ent.mk [(24, (pEq (.int .i64 x9))), (28, (pEq (.int .i64 x10)))] (pEq (.bool (decide (x10 < x9)))) true), some (Ent.mk [(19, (pEq (.bool (decide ((0 : Int) < v2))))), (29, (pEq (.bool (decide (x10 < x9)))))] (pEq (.bool (decide (x10 < x9)))) true), some (Ent.mk [(16, (pEq (.bool (!x6)))), (30, (pEq (.bool (decide (x10 < x9)))))] (pEq (.bool (decide (x10 < x9)))) true)]) (rd := [[0], [3], [10, 11], [12], [13], [14], [15], [3], [17], [18], [0], [3], [21], [20, 22], [23], [0], [3], [25, 26], [27], [24, 28], [19, 29], [16, 30]]) rfl hmix (by kernel_rfl) fun hD => ?_
          refine RD.fin (es := [Ent.mk [(0, (pSl 1 (cK .i64) table_0))] (pSl 1 (cK .i64) table_0) true, Ent.mk [(3, (pEq (.int .i64 v2)))] (pEq (.int .i64 v2)) true, Ent.mk [(10, (pSl 1 (cK .i64) table_0)), (11, (pEq (.int .i64 v2)))] (pPtr ((cK .i64) x5)) true, Ent.mk [(12, (pPtr ((cK .i64) x5)))] (pEq (.int .i64 x5)) true, Ent.mk [(13, (pEq (.int .i64 x5)))] (pEq (.bool x6)) true, Ent.mk [(14, (pEq (.bool x6)))] (pEq (.bool (!x6))) true, Ent.mk [(15, (pEq (.bool (!x6))))] (pEq (.bool (!x6))) true, Ent.mk [(3, (pEq (.int .i64 v2)))] (pEq (.int .i64 v2)) true, Ent.mk [(17, (pEq (.int .i64 v2)))] (pEq (.bool (decide ((0 : Int) < v2)))) true, Ent.mk [(18, (pEq (.bool (decide ((0 : Int) < v2)))))] (pEq (.bool (decide ((0 : Int) < v2)))) true, Ent.mk [(0, (pSl 1 (cK .i64) table_0))] (pSl 1 (cK .i64) table_0) true, Ent.mk [(3, (pEq (.int .i64 v2)))] (pEq (.int .i64 v2)) true, Ent.mk [(21, (pEq (.int .i64 v2)))] (pEq (.int .i64 (w64 (v2 - (1 : Int))))) true, Ent.mk [(20, (pSl 1 (cK .i64) table_0)), (22, (pEq (.int .i64 (w64 (v2 - (1 : Int))))))] (pPtr ((cK .i64) x9)) true, Ent.mk [(23, (pPtr ((cK .i64) x9)))] (pEq (.int .i64 x9)) true, Ent.mk [(0, (pSl 1 (cK .i64) table_0))] (pSl 1 (cK .i64) table_0) true, Ent.mk [(3, (pEq (.int .i64 v2)))] (pEq (.int .i64 v2)) true, Ent.mk [(25, (pSl 1 (cK .i64) table_0)), (26, (pEq (.int .i64 v2)))] (pPtr ((cK .i64) x10)) true, Ent.mk [(27, (pPtr ((cK .i64) x10)))] (pEq (.int .i64 x10)) true, Ent.mk [(24, (pEq (.int .i64 x9))), (28, (pEq (.int .i64 x10)))] (pEq (.bool (decide (x10 < x9)))) true, Ent.mk [(19, (pEq (.bool (decide ((0 : Int) < v2))))), (29, (pEq (.bool (decide (x10 < x9)))))] (pEq (.bool (decide (x10 < x9)))) true, Ent.mk [(16, (pEq (.bool (!x6)))), (30, (pEq (.bool (decide (x10 < x9)))))] (pEq (.bool (decide (x10 < x9)))) true]) (done := []) hD ⟨.inr ⟨(OpJ.w (J_move rfl (Opd.tmp rfl))), ⟨rfl, trivial⟩, rfl, rfl⟩, ⟨.inr ⟨(OpJ.w (J_move rfl (Opd.tmp rfl))), ⟨rfl, trivial⟩, rfl, rfl⟩, ⟨.inr ⟨(OpJ.w (J_idx rfl Tryd.underlying22 sz2 (Opd.tmp rfl) (Opd.tmp rfl) hx5)), ⟨rfl, rfl, trivial⟩, rfl, rfl⟩, ⟨.inr ⟨(OpJ.w (J_load rfl Tryd.isAgg2 (Opd.tmp rfl))), ⟨rfl, trivial⟩, rfl, rfl⟩, ⟨.inr ⟨(OpJ.w (J_call rfl Tryd.call38 (c_spec_l00In hx6) (Opds.cons (Opd.tmp rfl) (Opds.cons Opd.con (Opds.cons Opd.con Opds.nil))))), ⟨rfl, trivial⟩, rfl, rfl⟩, ⟨.inr ⟨(OpJ.w (J_not rfl (Opd.tmp rfl))), ⟨rfl, trivial⟩, rfl, rfl⟩, ⟨.inr ⟨(OpJ.w (J_move rfl (Opd.tmp rfl))), ⟨rfl, trivial⟩, rfl, rfl⟩, ⟨.inr ⟨(OpJ.w (J_move rfl (Opd.tmp rfl))), ⟨rfl, trivial⟩, (.inl ⟨_, rfl, by simp [hc7]⟩), rfl⟩, ⟨.inr ⟨(OpJ.w (J_bin rfl (Opd.tmp rfl) Opd.con B_gtr)), ⟨rfl, trivial⟩, (.inl ⟨_, rfl, by simp [hc7]⟩), rfl⟩, ⟨.inr ⟨(OpJ.w (J_move rfl (Opd.tmp rfl))), ⟨rfl, trivial⟩, (.inl ⟨_, rfl, by simp [hc7]⟩), rfl⟩, ⟨.inr ⟨(OpJ.w (J_move rfl (Opd.tmp rfl))), ⟨rfl, trivial⟩, (.inl ⟨_, rfl, by simp [hc8]⟩), rfl⟩, ⟨.inr ⟨(OpJ.w (J_move rfl (Opd.tmp rfl))), ⟨rfl, trivial⟩, (.inl ⟨_, rfl, by simp [hc8]⟩), rfl⟩, ⟨.inr ⟨(OpJ.w (J_bin rfl (Opd.tmp rfl) Opd.con B_sub)), ⟨rfl, trivial⟩, (.inl ⟨_, rfl, by simp [hc8]⟩), rfl⟩, ⟨.inr ⟨(OpJ.w (J_idx rfl Tryd.underlying22 sz2 (Opd.tmp rfl) (Opd.tmp rfl) hx9)), ⟨rfl, rfl, trivial⟩, (.inl ⟨_, rfl, by simp [hc8]⟩), rfl⟩, ⟨.inr ⟨(OpJ.w (J_load rfl Tryd.isAgg2 (Opd.tmp rfl))), ⟨rfl, trivial⟩, (.inl ⟨_, rfl, by simp [hc8]⟩), rfl⟩, ⟨.inr ⟨(OpJ.w (J_move rfl (Opd.tmp rfl))), ⟨rfl, trivial⟩, (.inl ⟨_, rfl, by simp [hc8]⟩), rfl⟩, ⟨.inr ⟨(OpJ.w (J_move rfl (Opd.tmp rfl))), ⟨rfl, trivial⟩, (.inl ⟨_, rfl, by simp [hc8]⟩), rfl⟩, ⟨.inr ⟨(OpJ.w (J_idx rfl Tryd.underlying22 sz2 (Opd.tmp rfl) (Opd.tmp rfl) hx10)), ⟨rfl, rfl, trivial⟩, (.inl ⟨_, rfl, by simp [hc8]⟩), rfl⟩, ⟨.inr ⟨(OpJ.w (J_load rfl Tryd.isAgg2 (Opd.tmp rfl))), ⟨rfl, trivial⟩, (.inl ⟨_, rfl, by simp [hc8]⟩), rfl⟩, ⟨.inr ⟨(OpJ.w (J_bin rfl (Opd.tmp rfl) (Opd.tmp rfl) B_gtr)), ⟨rfl, rfl, trivial⟩, (.inl ⟨_, rfl, by simp [hc8]⟩), rfl⟩, ⟨.inr ⟨(OpJ.w (J_pick rfl (Opd.tmp rfl) (fun _ => (Opd.tmp rfl)) (fun hf => absurd (hc8.symm.trans hf) (by decide)))), ⟨rfl, rfl, trivial⟩, (.inl ⟨_, rfl, by simp [hc7]⟩), rfl⟩, ⟨.inr ⟨(OpJ.w (J_pick rfl (Opd.tmp rfl) (fun hf => absurd (hc7.symm.trans hf) (by decide)) (fun _ => (Opd.tmp rfl)))), ⟨rfl, rfl, trivial⟩, rfl, rfl⟩, trivial⟩⟩⟩⟩⟩⟩⟩⟩⟩⟩⟩⟩⟩⟩⟩⟩⟩⟩⟩⟩⟩⟩ ?_
          refine RegL.nil ?_
          replace h := Option.some.inj h; subst h
          exact Ct.mid () rfl ⟨rfl, rfl, rfl, trivial⟩
        · replace h := bif_f hc8 h
          refine Tr.drawD (n := 46) (m := 22) (es := [some (Ent.mk [(0, (pSl 1 (cK .i64) table_0))] (pSl 1 (cK .i64) table_0) true), some (Ent.mk [(3, (pEq (.int .i64 v2)))] (pEq (.int .i64 v2)) true), some (Ent.mk [(10, (pSl 1 (cK .i64) table_0)), (11, (pEq (.int .i64 v2)))] (pPtr ((cK .i64) x5)) true), some (Ent.mk [(12, (pPtr ((cK .i64) x5)))] (pEq (.int .i64 x5)) true), some (Ent.mk [(13, (pEq (.int .i64 x5)))] (pEq (.bool x6)) true), some (Ent.mk [(14, (pEq (.bool x6)))] (pEq (.bool (!x6))) true), some (Ent.mk [(15, (pEq (.bool (!x6))))] (pEq (.bool (!x6))) true), some (Ent.mk [(3, (pEq (.int .i64 v2)))] (pEq (.int .i64 v2)) true), some (Ent.mk [(17, (pEq (.int .i64 v2)))] (pEq (.bool (decide ((0 : Int) < v2)))) true), some (Ent.mk [(18, (pEq (.bool (decide ((0 : Int) < v2)))))] (pEq (.bool (decide ((0 : Int) < v2)))) true), some (Ent.mk [(0, (pSl 1 (cK .i64) table_0))] (pEq undef) false), some (Ent.mk [(3, (pEq (.int .i64 v2)))] (pEq undef) false), some (Ent.mk [(21, (pEq undef))] (pEq undef) false), some (Ent.mk [(20, (pEq undef)), (22, (pEq undef))] (pEq undef) false), some (Ent.mk [(23, (pEq undef))] (pEq undef) false), some (Ent.mk [(0, (pSl 1 (cK .i64) table_0))] (pEq undef) false), some (Ent.mk [(3, (pEq (.int .i64 v2)))] (pEq undef) false), some (Ent.mk [(25, (pEq undef)), (26, (pEq undef))] (pEq undef) false), some (Ent.mk [(27, (pEq undef))] (pEq undef) false), some (Ent.mk [(24, (pEq undef)), (28, (pEq undef))] (pEq undef) false), some (Ent.mk [(19, (pEq (.bool (decide ((0 : Int) < v2))))), (29, (pEq undef))] (pEq (.bool false)) true), some (Ent.mk [(16, (pEq (.bool (!x6)))), (30, (pEq (.bool false)))] (pEq (.bool false)) true)]) (rd := [[0], [3], [10, 11], [12], [13], [14], [15], [3], [17], [18], [0], [3], [21], [20, 22], [23], [0], [3], [25, 26], [27], [24, 28], [19, 29], [16, 30]]) rfl hmix (by kernel_rfl) fun hD => ?_
          refine RD.fin (es := [Ent.mk [(0, (pSl 1 (cK .i64) table_0))] (pSl 1 (cK .i64) table_0) true, Ent.mk [(3, (pEq (.int .i64 v2)))] (pEq (.int .i64 v2)) true, Ent.mk [(10, (pSl 1 (cK .i64) table_0)), (11, (pEq (.int .i64 v2)))] (pPtr ((cK .i64) x5)) true, Ent.mk [(12, (pPtr ((cK .i64) x5)))] (pEq (.int .i64 x5)) true, Ent.mk [(13, (pEq (.int .i64 x5)))] (pEq (.bool x6)) true, Ent.mk [(14, (pEq (.bool x6)))] (pEq (.bool (!x6))) true, Ent.mk [(15, (pEq (.bool (!x6))))] (pEq (.bool (!x6))) true, Ent.mk [(3, (pEq (.int .i64 v2)))] (pEq (.int .i64 v2)) true, Ent.mk [(17, (pEq (.int .i64 v2)))] (pEq (.bool (decide ((0 : Int) < v2)))) true, Ent.mk [(18, (pEq (.bool (decide ((0 : Int) < v2)))))] (pEq (.bool (decide ((0 : Int) < v2)))) true, Ent.mk [(0, (pSl 1 (cK .i64) table_0))] (pEq undef) false, Ent.mk [(3, (pEq (.int .i64 v2)))] (pEq undef) false, Ent.mk [(21, (pEq undef))] (pEq undef) false, Ent.mk [(20, (pEq undef)), (22, (pEq undef))] (pEq undef) false, Ent.mk [(23, (pEq undef))] (pEq undef) false, Ent.mk [(0, (pSl 1 (cK .i64) table_0))] (pEq undef) false, Ent.mk [(3, (pEq (.int .i64 v2)))] (pEq undef) false, Ent.mk [(25, (pEq undef)), (26, (pEq undef))] (pEq undef) false, Ent.mk [(27, (pEq undef))] (pEq undef) false, Ent.mk [(24, (pEq undef)), (28, (pEq undef))] (pEq undef) false, Ent.mk [(19, (pEq (.bool (decide ((0 : Int) < v2))))), (29, (pEq undef))] (pEq (.bool false)) true, Ent.mk [(16, (pEq (.bool (!x6)))), (30, (pEq (.bool false)))] (pEq (.bool false)) true]) (done := []) hD ⟨.inr ⟨(OpJ.w (J_move rfl (Opd.tmp rfl))), ⟨rfl, trivial⟩, rfl, rfl⟩, ⟨.inr ⟨(OpJ.w (J_move rfl (Opd.tmp rfl))), ⟨rfl, trivial⟩, rfl, rfl⟩, ⟨.inr ⟨(OpJ.w (J_idx rfl Tryd.underlying22 sz2 (Opd.tmp rfl) (Opd.tmp rfl) hx5)), ⟨rfl, rfl, trivial⟩, rfl, rfl⟩, ⟨.inr ⟨(OpJ.w (J_load rfl Tryd.isAgg2 (Opd.tmp rfl))), ⟨rfl, trivial⟩, rfl, rfl⟩, ⟨.inr ⟨(OpJ.w (J_call rfl Tryd.call38 (c_spec_l00In hx6) (Opds.cons (Opd.tmp rfl) (Opds.cons Opd.con (Opds.cons Opd.con Opds.nil))))), ⟨rfl, trivial⟩, rfl, rfl⟩, ⟨.inr ⟨(OpJ.w (J_not rfl (Opd.tmp rfl))), ⟨rfl, trivial⟩, rfl, rfl⟩, ⟨.inr ⟨(OpJ.w (J_move rfl (Opd.tmp rfl))), ⟨rfl, trivial⟩, rfl, rfl⟩, ⟨.inr ⟨(OpJ.w (J_move rfl (Opd.tmp rfl))), ⟨rfl, trivial⟩, (.inl ⟨_, rfl, by simp [hc7]⟩), rfl⟩, ⟨.inr ⟨(OpJ.w (J_bin rfl (Opd.tmp rfl) Opd.con B_gtr)), ⟨rfl, trivial⟩, (.inl ⟨_, rfl, by simp [hc7]⟩), rfl⟩, ⟨.inr ⟨(OpJ.w (J_move rfl (Opd.tmp rfl))), ⟨rfl, trivial⟩, (.inl ⟨_, rfl, by simp [hc7]⟩), rfl⟩, ⟨.inr ⟨rfl, ⟨rfl, trivial⟩, (.inl ⟨_, rfl, by simp [hc8]⟩), rfl⟩, ⟨.inr ⟨rfl, ⟨rfl, trivial⟩, (.inl ⟨_, rfl, by simp [hc8]⟩), rfl⟩, ⟨.inr ⟨rfl, ⟨rfl, trivial⟩, (.inl ⟨_, rfl, by simp [hc8]⟩), rfl⟩, ⟨.inr ⟨rfl, ⟨rfl, rfl, trivial⟩, (.inl ⟨_, rfl, by simp [hc8]⟩), rfl⟩, ⟨.inr ⟨rfl, ⟨rfl, trivial⟩, (.inl ⟨_, rfl, by simp [hc8]⟩), rfl⟩, ⟨.inr ⟨rfl, ⟨rfl, trivial⟩, (.inl ⟨_, rfl, by simp [hc8]⟩), rfl⟩, ⟨.inr ⟨rfl, ⟨rfl, trivial⟩, (.inl ⟨_, rfl, by simp [hc8]⟩), rfl⟩, ⟨.inr ⟨rfl, ⟨rfl, rfl, trivial⟩, (.inl ⟨_, rfl, by simp [hc8]⟩), rfl⟩, ⟨.inr ⟨rfl, ⟨rfl, trivial⟩, (.inl ⟨_, rfl, by simp [hc8]⟩), rfl⟩, ⟨.inr ⟨rfl, ⟨rfl, rfl, trivial⟩, (.inl ⟨_, rfl, by simp [hc8]⟩), rfl⟩, ⟨.inr ⟨(OpJ.w (J_pick rfl (Opd.tmp rfl) (fun hf => absurd (hc8.symm.trans hf) (by decide)) (fun _ => Opd.con))), ⟨rfl, rfl, trivial⟩, (.inl ⟨_, rfl, by simp [hc7]⟩), rfl⟩, ⟨.inr ⟨(OpJ.w (J_pick rfl (Opd.tmp rfl) (fun hf => absurd (hc7.symm.trans hf) (by decide)) (fun _ => (Opd.tmp rfl)))), ⟨rfl, rfl, trivial⟩, rfl, rfl⟩, trivial⟩⟩⟩⟩⟩⟩⟩⟩⟩⟩⟩⟩⟩⟩⟩⟩⟩⟩⟩⟩⟩⟩ ?_
          refine RegL.nil ?_
          replace h := Option.some.inj h; subst h
          exact Ct.mid () rfl ⟨rfl, rfl, rfl, trivial⟩
    · clear hx4
      refine Ct.then_tr ?_
      refine Tr.weak (Γ' := [(0, (pSl 1 (cK .i64) table_0)), (3, (pEq (.int .i64 v2))), (31, (pEq (.bool x4)))]) ⟨rfl, rfl, rfl, trivial⟩ ?_
      refine Tr.cond (Opd.tmp rfl) (fun hc => ?_) (fun hc => ?_)
      · replace h := bif_t hc h
        refine Tr.seq ?_
        refine Tr.region ?_
        refine RegL.pure (p := (pEq (.bool false))) rfl rfl rfl (J_assign rfl Opd.con) ?_
        refine RegL.nil ?_
        refine Ct.then_tr ?_
        refine Tr.weak (Γ' := [(2, (pEq (.bool false)))]) ⟨rfl, trivial⟩ ?_
        refine Tr.ret ?_
        refine Ct.blk_ret ?_
        refine Ct.then_ret ?_
        replace h := map_some h; obtain ⟨r1, h, rfl⟩ := h
        refine Ct.out_ret fun e => ?_
        subst e
        refine Ct.blk_ret ?_
        refine Ct.then_ret ?_
        replace h := Option.some.inj h; subst h
        exact Ct.retH1 (Ωx := []) () rfl (RvOk.tmp rfl) rfl
      · replace h := bif_f hc h
        refine Tr.skip ?_
        refine Ct.blk_normal ?_
        refine Ct.then_tr ?_
        refine Tr.weak (Γ' := [(0, (pSl 1 (cK .i64) table_0)), (3, (pEq (.int .i64 v2)))]) ⟨rfl, rfl, trivial⟩ ?_
        refine Tr.region ?_
        refine RegL.pure (p := (pEq (.int .i64 v2))) rfl rfl rfl (J_move rfl (Opd.tmp rfl)) ?_
        refine RegL.pure (p := (pEq (.int .i64 (w64 (v2 + (1 : Int)))))) rfl rfl rfl (J_bin rfl (Opd.tmp rfl) Opd.con B_add) ?_
        refine RegL.pure (p := (pEq (.int .i64 (w64 (v2 + (1 : Int)))))) rfl rfl rfl (J_assign rfl (Opd.tmp rfl)) ?_
        refine RegL.nil ?_
        replace h := Option.some.inj h; subst h
        exact Ct.again () rfl ⟨rfl, rfl, trivial⟩
  · replace h := bif_f hc h
    refine Tr.exit ?_
    refine Ct.then_exit ?_
    replace h := map_some h; obtain ⟨r1, h, rfl⟩ := h
    refine Ct.out_exit fun e => ?_
    subst e
    refine Ct.blk_exit ?_
    refine Ct.then_tr ?_
    refine Tr.weak (Γ' := [(0, (pSl 1 (cK .i64) table_0))]) ⟨rfl, trivial⟩ ?_
    refine Tr.seq ?_
    replace h := bind_some h; obtain ⟨x12, hx12, h⟩ := h
    refine Tr.cut (γ := Unit) (Γm := fun g => [(2, (pEq (.bool x12)))]) (Ωm := fun g => []) ?_ (fun g16 => ?_)
    · clear h
      have h := hx12
      clear hx12
      refine Tr.region ?_
      refine RegL.pure (p := (pSl 1 (cK .i64) table_0)) rfl rfl rfl (J_move rfl (Opd.tmp rfl)) ?_
      refine RegL.pure (p := (pEq (.int .i64 (table_0.length : Int)))) rfl rfl rfl (J_len rfl Tryd.underlying22 (Opd.tmp rfl) rfl) ?_
      refine RegL.pure (p := (pEq (.bool (decide ((0 : Int) < (table_0.length : Int)))))) rfl rfl rfl (J_bin rfl (Opd.tmp rfl) Opd.con B_gtr) ?_
      refine RegL.pure (p := (pEq (.bool (decide ((0 : Int) < (table_0.length : Int)))))) rfl rfl rfl (J_move rfl (Opd.tmp rfl)) ?_
      rcases Bool.eq_false_or_eq_true (decide ((0 : Int) < (table_0.length : Int))) with hc13 | hc13
      · replace h := bif_t hc13 h
        refine RegL.pureG (p := (pSl 1 (cK .i64) table_0)) rfl rfl rfl hc13 rfl rfl (J_move rfl (Opd.tmp rfl)) ?_
        refine RegL.pureG (p := (pEq (.int .i64 (table_0.length : Int)))) rfl rfl rfl hc13 rfl rfl (J_len rfl Tryd.underlying22 (Opd.tmp rfl) rfl) ?_
        refine RegL.pureG (p := (pEq (.bool (decide ((table_0.length : Int) ≤ (64 : Int)))))) rfl rfl rfl hc13 rfl rfl (J_bin rfl (Opd.tmp rfl) Opd.con B_leq) ?_
        refine RegL.pure (p := (pEq (.bool (decide ((table_0.length : Int) ≤ (64 : Int)))))) rfl rfl rfl (J_pick rfl (Opd.tmp rfl) (fun _ => (Opd.tmp rfl)) (fun hf => absurd (hc13.symm.trans hf) (by decide))) ?_
        refine RegL.pure (p := (pEq (.bool (decide ((table_0.length : Int) ≤ (64 : Int)))))) rfl rfl rfl (J_move rfl (Opd.tmp rfl)) ?_
        rcases Bool.eq_false_or_eq_true (decide ((table_0.length : Int) ≤ (64 : Int))) with hc14 | hc14
        · replace h := bif_t hc14 h
          refine RegL.pureG (p := (pSl 1 (cK .i64) table_0)) rfl rfl rfl hc14 rfl rfl (J_move rfl (Opd.tmp rfl)) ?_
          replace h := bind_some h; obtain ⟨x15, hx15, h⟩ := h
          refine RegL.pureG (p := (pPtr ((cK .i64) x15))) rfl rfl rfl hc14 rfl rfl (J_idx rfl Tryd.underlying22 sz2 (Opd.tmp rfl) Opd.con hx15) ?_
          refine RegL.pureG (p := (pEq (.int .i64 x15))) rfl rfl rfl hc14 rfl rfl (J_load rfl Tryd.isAgg2 (Opd.tmp rfl)) ?_
          refine RegL.pureG (p := (pEq (.bool (x15 == (0 : Int))))) rfl rfl rfl hc14 rfl rfl (J_bin rfl (Opd.tmp rfl) Opd.con B_eql) ?_
          refine RegL.pure (p := (pEq (.bool (x15 == (0 : Int))))) rfl rfl rfl (J_pick rfl (Opd.tmp rfl) (fun _ => (Opd.tmp rfl)) (fun hf => absurd (hc14.symm.trans hf) (by decide))) ?_
          refine RegL.pure (p := (pEq (.bool (x15 == (0 : Int))))) rfl rfl rfl (J_assign rfl (Opd.tmp rfl)) ?_
          refine RegL.nil ?_
          replace h := Option.some.inj h; subst h
          exact Ct.mid () rfl ⟨rfl, trivial⟩
        · replace h := bif_f hc14 h
          refine RegL.skipG rfl rfl rfl hc14 rfl rfl ?_
          refine RegL.skipG rfl rfl rfl hc14 rfl rfl ?_
          refine RegL.skipG rfl rfl rfl hc14 rfl rfl ?_
          refine RegL.skipG rfl rfl rfl hc14 rfl rfl ?_
          refine RegL.pure (p := (pEq (.bool false))) rfl rfl rfl (J_pick rfl (Opd.tmp rfl) (fun hf => absurd (hc14.symm.trans hf) (by decide)) (fun _ => Opd.con)) ?_
          refine RegL.pure (p := (pEq (.bool false))) rfl rfl rfl (J_assign rfl (Opd.tmp rfl)) ?_
          refine RegL.nil ?_
          replace h := Option.some.inj h; subst h
          exact Ct.mid () rfl ⟨rfl, trivial⟩
      · replace h := bif_f hc13 h
        refine RegL.skipG rfl rfl rfl hc13 rfl rfl ?_
        refine RegL.skipG rfl rfl rfl hc13 rfl rfl ?_
        refine RegL.skipG rfl rfl rfl hc13 rfl rfl ?_
        refine RegL.pure (p := (pEq (.bool false))) rfl rfl rfl (J_pick rfl (Opd.tmp rfl) (fun hf => absurd (hc13.symm.trans hf) (by decide)) (fun _ => Opd.con)) ?_
        refine RegL.pure (p := (pEq (.bool false))) rfl rfl rfl (J_move rfl (Opd.tmp rfl)) ?_
        refine RegL.skipG rfl rfl rfl rfl rfl rfl ?_
        refine RegL.skipG rfl rfl rfl rfl rfl rfl ?_
        refine RegL.skipG rfl rfl rfl rfl rfl rfl ?_
        refine RegL.skipG rfl rfl rfl rfl rfl rfl ?_
        refine RegL.pure (p := (pEq (.bool false))) rfl rfl rfl (J_pick rfl (Opd.tmp rfl) (fun hf => absurd hf (by decide)) (fun _ => Opd.con)) ?_
        refine RegL.pure (p := (pEq (.bool false))) rfl rfl rfl (J_assign rfl (Opd.tmp rfl)) ?_
        refine RegL.nil ?_
        replace h := Option.some.inj h; subst h
        exact Ct.mid () rfl ⟨rfl, trivial⟩
    · clear hx12
      refine Ct.then_tr ?_
      refine Tr.weak (Γ' := [(2, (pEq (.bool x12)))]) ⟨rfl, trivial⟩ ?_
      refine Tr.ret ?_
      replace h := Option.some.inj h; subst h
      exact Ct.retH1 (Ωx := []) () rfl (RvOk.tmp rfl) rfl

theorem c_spec_l16Server {row_0 : (List Int)} {r : Int} (h : m_spec_l16Server row_0 = some r) : CallJ Tryd.prog 47 [(pSl 1 (cK .i64) row_0)] (pEq (.int .i64 r)) := by
  unfold m_spec_l16Server at h
  refine CallJ.enterH Tryd.func47 rfl Tryd.ntmps47 rfl fun W I0 H => ?_
  refine Tr.weak (Γ' := [(0, (pSl 1 (cK .i64) row_0))]) ⟨rfl, trivial⟩ ?_
  refine Tr.seq ?_
  refine Tr.region ?_
  refine RegL.pure (p := (pEq (.int .i64 (0 : Int)))) rfl rfl rfl (J_assign rfl Opd.con) ?_
  refine RegL.nil ?_
  refine Ct.then_tr ?_
  refine Tr.weak (Γ' := [(0, (pSl 1 (cK .i64) row_0))]) ⟨rfl, trivial⟩ ?_
  refine Tr.seq ?_
  refine Tr.region ?_
  refine RegL.pure (p := (pEq (.int .i64 (0 : Int)))) rfl rfl rfl (J_assign rfl Opd.con) ?_
  refine RegL.nil ?_
  refine Ct.then_tr ?_
  refine Tr.weak (Γ' := [(0, (pSl 1 (cK .i64) row_0)), (3, (pEq (.int .i64 (0 : Int))))]) ⟨rfl, rfl, trivial⟩ ?_
  refine Tr.seq ?_
  refine Tr.seq ?_
  refine Tr.region ?_
  refine RegL.pure (p := (pEq (.int .i64 (1 : Int)))) rfl rfl rfl (J_assign rfl Opd.con) ?_
  refine RegL.nil ?_
  refine Ct.then_tr ?_
  refine Tr.weak (Γ' := [(0, (pSl 1 (cK .i64) row_0)), (3, (pEq (.int .i64 (0 : Int)))), (4, (pEq (.int .i64 (1 : Int))))]) ⟨rfl, rfl, rfl, trivial⟩ ?_
  replace h := bind_some h; obtain ⟨x1, hx1, h⟩ := h
  refine Tr.cut (γ := Unit) (Γm := fun g => [(3, (pEq (.int .i64 x1)))]) (Ωm := fun g => []) ?_ (fun g10 => ?_)
  · clear h
    have h := hx1
    clear hx1
    refine Tr.block ?_
    refine Tr.weak (Γ' := [(0, (pSl 1 (cK .i64) row_0)), (3, (pEq (.int .i64 (0 : Int)))), (4, (pEq (.int .i64 (1 : Int))))]) ⟨rfl, rfl, rfl, trivial⟩ ?_
    refine Tr.loop (γ := Unit) (σ := (Int × Int)) (Γσ := fun s g => [(0, (pSl 1 (cK .i64) row_0)), (3, (pEq (.int .i64 s.1))), (4, (pEq (.int .i64 s.2)))]) (Ωσ := fun s g => []) (g := ()) h ?_
    clear h
    rintro ⟨v3, v4⟩ g5 t h
    replace h : m_spec_l16Server_B2 row_0 v3 v4 = some t := h
    unfold m_spec_l16Server_B2 at h
    refine Tr.weakO (Γ' := [(0, (pSl 1 (cK .i64) row_0)), (3, (pEq (.int .i64 v3))), (4, (pEq (.int .i64 v4)))]) (Ω' := []) rfl ⟨rfl, rfl, rfl, trivial⟩ ?_
    refine Tr.seq ?_
    refine Tr.seq ?_
    refine Tr.region ?_
    refine RegL.pure (p := (pEq (.int .i64 v4))) rfl rfl rfl (J_move rfl (Opd.tmp rfl)) ?_
    refine RegL.pure (p := (pSl 1 (cK .i64) row_0)) rfl rfl rfl (J_move rfl (Opd.tmp rfl)) ?_
    refine RegL.pure (p := (pEq (.int .i64 (row_0.length : Int)))) rfl rfl rfl (J_len rfl Tryd.underlying22 (Opd.tmp rfl) rfl) ?_
    refine RegL.pure (p := (pEq (.bool (decide (v4 < (row_0.length : Int)))))) rfl rfl rfl (J_bin rfl (Opd.tmp rfl) (Opd.tmp rfl) B_lss) ?_
    refine RegL.nil ?_
    refine Ct.then_tr ?_
    refine Tr.weak (Γ' := [(0, (pSl 1 (cK .i64) row_0)), (3, (pEq (.int .i64 v3))), (4, (pEq (.int .i64 v4))), (8, (pEq (.bool (decide (v4 < (row_0.length : Int))))))]) ⟨rfl, rfl, rfl, rfl, trivial⟩ ?_
    refine Tr.cond (Opd.tmp rfl) (fun hc => ?_) (fun hc => ?_)
    · replace h := bif_t hc h
      refine Tr.skip ?_
      refine Ct.then_tr ?_
      refine Tr.weak (Γ' := [(0, (pSl 1 (cK .i64) row_0)), (3, (pEq (.int .i64 v3))), (4, (pEq (.int .i64 v4)))]) ⟨rfl, rfl, rfl, trivial⟩ ?_
      refine Tr.seq ?_
      refine Tr.block ?_
      refine Tr.seq ?_
      replace h := bind_some h; obtain ⟨x6, hx6, h⟩ := h
      replace h := bind_some h; obtain ⟨x7, hx7, h⟩ := h
      refine Tr.drawD (n := 22) (m := 9) (es := [some (Ent.mk [(0, (pSl 1 (cK .i64) row_0))] (pSl 1 (cK .i64) row_0) true), some (Ent.mk [(4, (pEq (.int .i64 v4)))] (pEq (.int .i64 v4)) true), some (Ent.mk [(11, (pSl 1 (cK .i64) row_0)), (12, (pEq (.int .i64 v4)))] (pPtr ((cK .i64) x6)) true), some (Ent.mk [(13, (pPtr ((cK .i64) x6)))] (pEq (.int .i64 x6)) true), some (Ent.mk [(0, (pSl 1 (cK .i64) row_0))] (pSl 1 (cK .i64) row_0) true), some (Ent.mk [(3, (pEq (.int .i64 v3)))] (pEq (.int .i64 v3)) true), some (Ent.mk [(15, (pSl 1 (cK .i64) row_0)), (16, (pEq (.int .i64 v3)))] (pPtr ((cK .i64) x7)) true), some (Ent.mk [(17, (pPtr ((cK .i64) x7)))] (pEq (.int .i64 x7)) true), some (Ent.mk [(14, (pEq (.int .i64 x6))), (18, (pEq (.int .i64 x7)))] (pEq (.bool (decide (x7 < x6)))) true)]) (rd := [[0], [4], [11, 12], [13], [0], [3], [15, 16], [17], [14, 18]]) rfl hmix (by kernel_rfl) fun hD => ?_
      refine RD.fin (es := [Ent.mk [(0, (pSl 1 (cK .i64) row_0))] (pSl 1 (cK .i64) row_0) true, Ent.mk [(4, (pEq (.int .i64 v4)))] (pEq (.int .i64 v4)) true, Ent.mk [(11, (pSl 1 (cK .i64) row_0)), (12, (pEq (.int .i64 v4)))] (pPtr ((cK .i64) x6)) true, Ent.mk [(13, (pPtr ((cK .i64) x6)))] (pEq (.int .i64 x6)) true, Ent.mk [(0, (pSl 1 (cK .i64) row_0))] (pSl 1 (cK .i64) row_0) true, Ent.mk [(3, (pEq (.int .i64 v3)))] (pEq (.int .i64 v3)) true, Ent.mk [(15, (pSl 1 (cK .i64) row_0)), (16, (pEq (.int .i64 v3)))] (pPtr ((cK .i64) x7)) true, Ent.mk [(17, (pPtr ((cK .i64) x7)))] (pEq (.int .i64 x7)) true, Ent.mk [(14, (pEq (.int .i64 x6))), (18, (pEq (.int .i64 x7)))] (pEq (.bool (decide (x7 < x6)))) true]) (done := []) hD ⟨.inr ⟨(OpJ.w (J_move rfl (Opd.tmp rfl))), ⟨rfl, trivial⟩, rfl, rfl⟩, ⟨.inr ⟨(OpJ.w (J_move rfl (Opd.tmp rfl))), ⟨rfl, trivial⟩, rfl, rfl⟩, ⟨.inr ⟨(OpJ.w (J_idx rfl Tryd.underlying22 sz2 (Opd.tmp rfl) (Opd.tmp rfl) hx6)), ⟨rfl, rfl, trivial⟩, rfl, rfl⟩, ⟨.inr ⟨(OpJ.w (J_load rfl Tryd.isAgg2 (Opd.tmp rfl))), ⟨rfl, trivial⟩, rfl, rfl⟩, ⟨.inr ⟨(OpJ.w (J_move rfl (Opd.tmp rfl))), ⟨rfl, trivial⟩, rfl, rfl⟩, ⟨.inr ⟨(OpJ.w (J_move rfl (Opd.tmp rfl))), ⟨rfl, trivial⟩, rfl, rfl⟩, ⟨.inr ⟨(OpJ.w (J_idx rfl Tryd.underlying22 sz2 (Opd.tmp rfl) (Opd.tmp rfl) hx7)), ⟨rfl, rfl, trivial⟩, rfl, rfl⟩, ⟨.inr ⟨(OpJ.w (J_load rfl Tryd.isAgg2 (Opd.tmp rfl))), ⟨rfl, trivial⟩, rfl, rfl⟩, ⟨.inr ⟨(OpJ.w (J_bin rfl (Opd.tmp rfl) (Opd.tmp rfl) B_gtr)), ⟨rfl, rfl, trivial⟩, rfl, rfl⟩, trivial⟩⟩⟩⟩⟩⟩⟩⟩⟩ ?_
      refine RegL.nil ?_
      refine Ct.then_tr ?_
      refine Tr.weak (Γ' := [(0, (pSl 1 (cK .i64) row_0)), (3, (pEq (.int .i64 v3))), (4, (pEq (.int .i64 v4))), (19, (pEq (.bool (decide (x7 < x6)))))]) ⟨rfl, rfl, rfl, rfl, trivial⟩ ?_
      replace h := bind_some h; obtain ⟨x8, hx8, h⟩ := h
      refine Tr.cut (γ := Unit) (Γm := fun g => [(0, (pSl 1 (cK .i64) row_0)), (3, (pEq (.int .i64 x8))), (4, (pEq (.int .i64 v4)))]) (Ωm := fun g => []) ?_ (fun g9 => ?_)
      · clear h
        have h := hx8
        clear hx8
        refine Tr.cond (Opd.tmp rfl) (fun hc => ?_) (fun hc => ?_)
        · replace h := bif_t hc h
          refine Tr.region ?_
          refine RegL.pure (p := (pEq (.int .i64 v4))) rfl rfl rfl (J_move rfl (Opd.tmp rfl)) ?_
          refine RegL.pure (p := (pEq (.int .i64 v4))) rfl rfl rfl (J_assign rfl (Opd.tmp rfl)) ?_
          refine RegL.nil ?_
          replace h := Option.some.inj h; subst h
          exact Ct.mid () rfl ⟨rfl, rfl, rfl, trivial⟩
        · replace h := bif_f hc h
          refine Tr.skip ?_
          replace h := Option.some.inj h; subst h
          exact Ct.mid () rfl ⟨rfl, rfl, rfl, trivial⟩
      · clear hx8
        refine Ct.blk_normal ?_
        refine Ct.then_tr ?_
        refine Tr.weak (Γ' := [(0, (pSl 1 (cK .i64) row_0)), (3, (pEq (.int .i64 x8))), (4, (pEq (.int .i64 v4)))]) ⟨rfl, rfl, rfl, trivial⟩ ?_
        refine Tr.region ?_
        refine RegL.pure (p := (pEq (.int .i64 v4))) rfl rfl rfl (J_move rfl (Opd.tmp rfl)) ?_
        refine RegL.pure (p := (pEq (.int .i64 (w64 (v4 + (1 : Int)))))) rfl rfl rfl (J_bin rfl (Opd.tmp rfl) Opd.con B_add) ?_
        refine RegL.pure (p := (pEq (.int .i64 (w64 (v4 + (1 : Int)))))) rfl rfl rfl (J_assign rfl (Opd.tmp rfl)) ?_
        refine RegL.nil ?_
        replace h := Option.some.inj h; subst h
        exact Ct.again () rfl ⟨rfl, rfl, rfl, trivial⟩
    · replace h := bif_f hc h
      refine Tr.exit ?_
      refine Ct.then_exit ?_
      replace h := map_some h; obtain ⟨r1, h, rfl⟩ := h
      refine Ct.out_exit fun e => ?_
      subst e
      refine Ct.blk_exit ?_
      replace h := Option.some.inj h; subst h
      exact Ct.mid () rfl ⟨rfl, trivial⟩
  · clear hx1
    refine Ct.then_tr ?_
    refine Tr.weak (Γ' := [(3, (pEq (.int .i64 x1)))]) ⟨rfl, trivial⟩ ?_
    refine Tr.seq ?_
    refine Tr.region ?_
    refine RegL.pure (p := (pEq (.int .i64 x1))) rfl rfl rfl (J_move rfl (Opd.tmp rfl)) ?_
    refine RegL.pure (p := (pEq (.int .i64 x1))) rfl rfl rfl (J_assign rfl (Opd.tmp rfl)) ?_
    refine RegL.nil ?_
    refine Ct.then_tr ?_
    refine Tr.weak (Γ' := [(2, (pEq (.int .i64 x1)))]) ⟨rfl, trivial⟩ ?_
    refine Tr.ret ?_
    replace h := Option.some.inj h; subst h
    exact Ct.retH1 (Ωx := []) () rfl (RvOk.tmp rfl) rfl

theorem c_spec_l00Max {a_0 : Int} {b_1 : Int} {r : Int} (h : m_spec_l00Max a_0 b_1 = some r) : CallJ Tryd.prog 56 [(pEq (.int .i64 a_0)), (pEq (.int .i64 b_1))] (pEq (.int .i64 r)) := by
  unfold m_spec_l00Max at h
  refine CallJ.enterH Tryd.func56 rfl Tryd.ntmps56 rfl fun W I0 H => ?_
  refine Tr.weak (Γ' := [(0, (pEq (.int .i64 a_0))), (1, (pEq (.int .i64 b_1)))]) ⟨rfl, rfl, trivial⟩ ?_
  refine Tr.seq ?_
  refine Tr.region ?_
  refine RegL.pure (p := (pEq (.int .i64 (0 : Int)))) rfl rfl rfl (J_assign rfl Opd.con) ?_
  refine RegL.nil ?_
  refine Ct.then_tr ?_
  refine Tr.weak (Γ' := [(0, (pEq (.int .i64 a_0))), (1, (pEq (.int .i64 b_1)))]) ⟨rfl, rfl, trivial⟩ ?_
  refine Tr.seq ?_
  refine Tr.seq ?_
  refine Tr.region ?_
  refine RegL.pure (p := (pEq (.int .i64 a_0))) rfl rfl rfl (J_move rfl (Opd.tmp rfl)) ?_
  refine RegL.pure (p := (pEq (.int .i64 b_1))) rfl rfl rfl (J_move rfl (Opd.tmp rfl)) ?_
  refine RegL.pure (p := (pEq (.bool (decide (b_1 < a_0))))) rfl rfl rfl (J_bin rfl (Opd.tmp rfl) (Opd.tmp rfl) B_gtr) ?_
  refine RegL.nil ?_
  refine Ct.then_tr ?_
  refine Tr.weak (Γ' := [(0, (pEq (.int .i64 a_0))), (1, (pEq (.int .i64 b_1))), (7, (pEq (.bool (decide (b_1 < a_0)))))]) ⟨rfl, rfl, rfl, trivial⟩ ?_
  refine Tr.cond (Opd.tmp rfl) (fun hc => ?_) (fun hc => ?_)
  · replace h := bif_t hc h
    refine Tr.seq ?_
    refine Tr.region ?_
    refine RegL.pure (p := (pEq (.int .i64 a_0))) rfl rfl rfl (J_move rfl (Opd.tmp rfl)) ?_
    refine RegL.pure (p := (pEq (.int .i64 a_0))) rfl rfl rfl (J_assign rfl (Opd.tmp rfl)) ?_
    refine RegL.nil ?_
    refine Ct.then_tr ?_
    refine Tr.weak (Γ' := [(4, (pEq (.int .i64 a_0)))]) ⟨rfl, trivial⟩ ?_
    refine Tr.ret ?_
    refine Ct.then_ret ?_
    replace h := Option.some.inj h; subst h
    exact Ct.retH1 (Ωx := []) () rfl (RvOk.tmp rfl) rfl
  · replace h := bif_f hc h
    refine Tr.skip ?_
    refine Ct.then_tr ?_
    refine Tr.weak (Γ' := [(1, (pEq (.int .i64 b_1)))]) ⟨rfl, trivial⟩ ?_
    refine Tr.seq ?_
    refine Tr.region ?_
    refine RegL.pure (p := (pEq (.int .i64 b_1))) rfl rfl rfl (J_move rfl (Opd.tmp rfl)) ?_
    refine RegL.pure (p := (pEq (.int .i64 b_1))) rfl rfl rfl (J_assign rfl (Opd.tmp rfl)) ?_
    refine RegL.nil ?_
    refine Ct.then_tr ?_
    refine Tr.weak (Γ' := [(4, (pEq (.int .i64 b_1)))]) ⟨rfl, trivial⟩ ?_
    refine Tr.ret ?_
    replace h := Option.some.inj h; subst h
    exact Ct.retH1 (Ωx := []) () rfl (RvOk.tmp rfl) rfl

theorem c_spec_l16Apart {a_0 : Int} {b_1 : Int} {r : Int} (h : m_spec_l16Apart a_0 b_1 = some r) : CallJ Tryd.prog 68 [(pEq (.int .i64 a_0)), (pEq (.int .i64 b_1))] (pEq (.int .i64 r)) := by
  unfold m_spec_l16Apart at h
  refine CallJ.enterH Tryd.func68 rfl Tryd.ntmps68 rfl fun W I0 H => ?_
  refine Tr.weak (Γ' := [(0, (pEq (.int .i64 a_0))), (1, (pEq (.int .i64 b_1)))]) ⟨rfl, rfl, trivial⟩ ?_
  refine Tr.seq ?_
  refine Tr.region ?_
  refine RegL.pure (p := (pEq (.int .i64 (0 : Int)))) rfl rfl rfl (J_assign rfl Opd.con) ?_
  refine RegL.nil ?_
  refine Ct.then_tr ?_
  refine Tr.weak (Γ' := [(0, (pEq (.int .i64 a_0))), (1, (pEq (.int .i64 b_1)))]) ⟨rfl, rfl, trivial⟩ ?_
  refine Tr.seq ?_
  refine Tr.region ?_
  refine RegL.pure (p := (pEq (.int .i64 a_0))) rfl rfl rfl (J_move rfl (Opd.tmp rfl)) ?_
  refine RegL.pure (p := (pEq (.int .i64 b_1))) rfl rfl rfl (J_move rfl (Opd.tmp rfl)) ?_
  refine RegL.pure (p := (pEq (.int .i64 (w64 (a_0 - b_1))))) rfl rfl rfl (J_bin rfl (Opd.tmp rfl) (Opd.tmp rfl) B_sub) ?_
  refine RegL.pure (p := (pEq (.int .i64 b_1))) rfl rfl rfl (J_move rfl (Opd.tmp rfl)) ?_
  refine RegL.pure (p := (pEq (.int .i64 a_0))) rfl rfl rfl (J_move rfl (Opd.tmp rfl)) ?_
  refine RegL.pure (p := (pEq (.int .i64 (w64 (b_1 - a_0))))) rfl rfl rfl (J_bin rfl (Opd.tmp rfl) (Opd.tmp rfl) B_sub) ?_
  replace h := bind_some h; obtain ⟨x1, hx1, h⟩ := h
  refine RegL.pure (p := (pEq (.int .i64 x1))) rfl rfl rfl (J_call rfl Tryd.call56 (c_spec_l00Max hx1) (Opds.cons (Opd.tmp rfl) (Opds.cons (Opd.tmp rfl) Opds.nil))) ?_
  refine RegL.pure (p := (pEq (.int .i64 x1))) rfl rfl rfl (J_assign rfl (Opd.tmp rfl)) ?_
  refine RegL.nil ?_
  refine Ct.then_tr ?_
  refine Tr.weak (Γ' := [(4, (pEq (.int .i64 x1)))]) ⟨rfl, trivial⟩ ?_
  refine Tr.ret ?_
  replace h := Option.some.inj h; subst h
  exact Ct.retH1 (Ωx := []) () rfl (RvOk.tmp rfl) rfl

theorem c_spec_l02Times {a_0 : Int} {b_1 : Int} {r : (Int × Int)} (h : m_spec_l02Times a_0 b_1 = some r) : CallJ Tryd.prog 126 [(pEq (.int .i64 a_0)), (pEq (.int .i64 b_1))] (pTup [(pEq (.int .i64 r.1)), (pEq (.int .i64 r.2))]) := by
  unfold m_spec_l02Times at h
  refine CallJ.enterH Tryd.func126 rfl Tryd.ntmps126 rfl fun W I0 H => ?_
  refine Tr.weak (Γ' := [(0, (pEq (.int .i64 a_0))), (1, (pEq (.int .i64 b_1)))]) ⟨rfl, rfl, trivial⟩ ?_
  refine Tr.seq ?_
  refine Tr.region ?_
  refine RegL.pure (p := (pEq (.int .i64 (0 : Int)))) rfl rfl rfl (J_assign rfl Opd.con) ?_
  refine RegL.pure (p := (pEq (.int .i64 (0 : Int)))) rfl rfl rfl (J_assign rfl Opd.con) ?_
  refine RegL.nil ?_
  refine Ct.then_tr ?_
  refine Tr.weak (Γ' := [(0, (pEq (.int .i64 a_0))), (1, (pEq (.int .i64 b_1)))]) ⟨rfl, rfl, trivial⟩ ?_
  refine Tr.seq ?_
  refine Tr.region ?_
  refine RegL.pure (p := (pEq (.int .i64 a_0))) rfl rfl rfl (J_move rfl (Opd.tmp rfl)) ?_
  refine RegL.pure (p := (pEq (.int .i64 b_1))) rfl rfl rfl (J_move rfl (Opd.tmp rfl)) ?_
  refine RegL.pure (p := (pEq (.int .i64 (w64 (a_0 * b_1))))) rfl rfl rfl (J_bin rfl (Opd.tmp rfl) (Opd.tmp rfl) B_mul) ?_
  refine RegL.pure (p := (pEq (.int .i64 (w64 ((w64 (a_0 * b_1)).tdiv (100000000 : Int)))))) rfl rfl rfl (J_bin rfl (Opd.tmp rfl) Opd.con (B_quo (n := (100000000 : Int)) (by decide))) ?_
  refine RegL.pure (p := (pEq (.int .i64 (w64 ((w64 (a_0 * b_1)).tdiv (100000000 : Int)))))) rfl rfl rfl (J_assign rfl (Opd.tmp rfl)) ?_
  refine RegL.nil ?_
  refine Ct.then_tr ?_
  refine Tr.weak (Γ' := [(6, (pEq (.int .i64 (w64 ((w64 (a_0 * b_1)).tdiv (100000000 : Int))))))]) ⟨rfl, trivial⟩ ?_
  refine Tr.seq ?_
  refine Tr.seq ?_
  refine Tr.region ?_
  refine RegL.pure (p := (pEq (.int .i64 (w64 ((w64 (a_0 * b_1)).tdiv (100000000 : Int)))))) rfl rfl rfl (J_move rfl (Opd.tmp rfl)) ?_
  refine RegL.pure (p := (pEq (.bool (decide ((1000000000 : Int) ≤ (w64 ((w64 (a_0 * b_1)).tdiv (100000000 : Int)))))))) rfl rfl rfl (J_bin rfl (Opd.tmp rfl) Opd.con B_geq) ?_
  refine RegL.nil ?_
  refine Ct.then_tr ?_
  refine Tr.weak (Γ' := [(6, (pEq (.int .i64 (w64 ((w64 (a_0 * b_1)).tdiv (100000000 : Int)))))), (12, (pEq (.bool (decide ((1000000000 : Int) ≤ (w64 ((w64 (a_0 * b_1)).tdiv (100000000 : Int))))))))]) ⟨rfl, rfl, trivial⟩ ?_
  refine Tr.cond (Opd.tmp rfl) (fun hc => ?_) (fun hc => ?_)
  · replace h := bif_t hc h
    refine Tr.seq ?_
    refine Tr.region ?_
    refine RegL.pure (p := (pEq (.int .i64 (w64 ((w64 (a_0 * b_1)).tdiv (100000000 : Int)))))) rfl rfl rfl (J_move rfl (Opd.tmp rfl)) ?_
    refine RegL.pure (p := (pEq (.int .i64 (w64 ((w64 ((w64 (a_0 * b_1)).tdiv (100000000 : Int))).tdiv (10 : Int)))))) rfl rfl rfl (J_bin rfl (Opd.tmp rfl) Opd.con (B_quo (n := (10 : Int)) (by decide))) ?_
    refine RegL.pure (p := (pEq (.int .i64 (w64 ((w64 ((w64 (a_0 * b_1)).tdiv (100000000 : Int))).tdiv (10 : Int)))))) rfl rfl rfl (J_assign rfl (Opd.tmp rfl)) ?_
    refine RegL.pure (p := (pEq (.int .i64 (1 : Int)))) rfl rfl rfl (J_assign rfl Opd.con) ?_
    refine RegL.nil ?_
    refine Ct.then_tr ?_
    refine Tr.weak (Γ' := [(4, (pEq (.int .i64 (w64 ((w64 ((w64 (a_0 * b_1)).tdiv (100000000 : Int))).tdiv (10 : Int)))))), (5, (pEq (.int .i64 (1 : Int))))]) ⟨rfl, rfl, trivial⟩ ?_
    refine Tr.ret ?_
    refine Ct.then_ret ?_
    replace h := Option.some.inj h; subst h
    exact Ct.retH2 (Ωx := []) () rfl (RvOk.tmp rfl) (RvOk.tmp rfl) rfl rfl
  · replace h := bif_f hc h
    refine Tr.skip ?_
    refine Ct.then_tr ?_
    refine Tr.weak (Γ' := [(6, (pEq (.int .i64 (w64 ((w64 (a_0 * b_1)).tdiv (100000000 : Int))))))]) ⟨rfl, trivial⟩ ?_
    refine Tr.seq ?_
    refine Tr.region ?_
    refine RegL.pure (p := (pEq (.int .i64 (w64 ((w64 (a_0 * b_1)).tdiv (100000000 : Int)))))) rfl rfl rfl (J_move rfl (Opd.tmp rfl)) ?_
    refine RegL.pure (p := (pEq (.int .i64 (w64 ((w64 (a_0 * b_1)).tdiv (100000000 : Int)))))) rfl rfl rfl (J_assign rfl (Opd.tmp rfl)) ?_
    refine RegL.pure (p := (pEq (.int .i64 (0 : Int)))) rfl rfl rfl (J_assign rfl Opd.con) ?_
    refine RegL.nil ?_
    refine Ct.then_tr ?_
    refine Tr.weak (Γ' := [(4, (pEq (.int .i64 (w64 ((w64 (a_0 * b_1)).tdiv (100000000 : Int)))))), (5, (pEq (.int .i64 (0 : Int))))]) ⟨rfl, rfl, trivial⟩ ?_
    refine Tr.ret ?_
    replace h := Option.some.inj h; subst h
    exact Ct.retH2 (Ωx := []) () rfl (RvOk.tmp rfl) (RvOk.tmp rfl) rfl rfl

theorem c_spec_l02Tenth {x_0 : Int} {r : (Int × Int)} (h : m_spec_l02Tenth x_0 = some r) : CallJ Tryd.prog 109 [(pEq (.int .i64 x_0))] (pTup [(pEq (.int .i64 r.1)), (pEq (.int .i64 r.2))]) := by
  unfold m_spec_l02Tenth at h
  refine CallJ.enterH Tryd.func109 rfl Tryd.ntmps109 rfl fun W I0 H => ?_
  refine Tr.weak (Γ' := [(0, (pEq (.int .i64 x_0)))]) ⟨rfl, trivial⟩ ?_
  refine Tr.seq ?_
  refine Tr.region ?_
  refine RegL.pure (p := (pEq (.int .i64 (0 : Int)))) rfl rfl rfl (J_assign rfl Opd.con) ?_
  refine RegL.pure (p := (pEq (.int .i64 (0 : Int)))) rfl rfl rfl (J_assign rfl Opd.con) ?_
  refine RegL.nil ?_
  refine Ct.then_tr ?_
  refine Tr.weak (Γ' := [(0, (pEq (.int .i64 x_0)))]) ⟨rfl, trivial⟩ ?_
  refine Tr.seq ?_
  refine Tr.region ?_
  refine RegL.pure (p := (pEq (.int .i64 x_0))) rfl rfl rfl (J_move rfl (Opd.tmp rfl)) ?_
  refine RegL.pure (p := (pEq (.int .i64 x_0))) rfl rfl rfl (J_move rfl (Opd.tmp rfl)) ?_
  replace h := bind_some h; obtain ⟨x1, hx1, h⟩ := h
  refine RegL.pure (p := (pTup [(pEq (.int .i64 x1.1)), (pEq (.int .i64 x1.2))])) rfl rfl rfl (J_call rfl Tryd.call126 (c_spec_l02Times hx1) (Opds.cons (Opd.tmp rfl) (Opds.cons (Opd.tmp rfl) Opds.nil))) ?_
  refine RegL.pure (p := (pTup [(pEq (.int .i64 x1.1)), (pEq (.int .i64 x1.2))])) rfl rfl rfl (J_move rfl (Opd.tmp rfl)) ?_
  refine RegL.pure (p := (pEq (.int .i64 x1.1))) rfl rfl rfl (J_extract rfl (Opd.tmp rfl) rfl) ?_
  refine RegL.pure (p := (pEq (.int .i64 x1.2))) rfl rfl rfl (J_extract rfl (Opd.tmp rfl) rfl) ?_
  refine RegL.pure (p := (pEq (.int .i64 x1.1))) rfl rfl rfl (J_assign rfl (Opd.tmp rfl)) ?_
  refine RegL.pure (p := (pEq (.int .i64 x1.2))) rfl rfl rfl (J_assign rfl (Opd.tmp rfl)) ?_
  refine RegL.nil ?_
  refine Ct.then_tr ?_
  refine Tr.weak (Γ' := [(0, (pEq (.int .i64 x_0))), (4, (pEq (.int .i64 x1.1))), (5, (pEq (.int .i64 x1.2)))]) ⟨rfl, rfl, rfl, trivial⟩ ?_
  refine Tr.seq ?_
  refine Tr.region ?_
  refine RegL.pure (p := (pEq (.int .i64 x1.1))) rfl rfl rfl (J_move rfl (Opd.tmp rfl)) ?_
  refine RegL.pure (p := (pEq (.int .i64 x1.1))) rfl rfl rfl (J_move rfl (Opd.tmp rfl)) ?_
  replace h := bind_some h; obtain ⟨x2, hx2, h⟩ := h
  refine RegL.pure (p := (pTup [(pEq (.int .i64 x2.1)), (pEq (.int .i64 x2.2))])) rfl rfl rfl (J_call rfl Tryd.call126 (c_spec_l02Times hx2) (Opds.cons (Opd.tmp rfl) (Opds.cons (Opd.tmp rfl) Opds.nil))) ?_
  refine RegL.pure (p := (pTup [(pEq (.int .i64 x2.1)), (pEq (.int .i64 x2.2))])) rfl rfl rfl (J_move rfl (Opd.tmp rfl)) ?_
  refine RegL.pure (p := (pEq (.int .i64 x2.1))) rfl rfl rfl (J_extract rfl (Opd.tmp rfl) rfl) ?_
  refine RegL.pure (p := (pEq (.int .i64 x2.2))) rfl rfl rfl (J_extract rfl (Opd.tmp rfl) rfl) ?_
  refine RegL.pure (p := (pEq (.int .i64 x2.1))) rfl rfl rfl (J_assign rfl (Opd.tmp rfl)) ?_
  refine RegL.pure (p := (pEq (.int .i64 x2.2))) rfl rfl rfl (J_assign rfl (Opd.tmp rfl)) ?_
  refine RegL.nil ?_
  refine Ct.then_tr ?_
  refine Tr.weak (Γ' := [(0, (pEq (.int .i64 x_0))), (5, (pEq (.int .i64 x1.2))), (6, (pEq (.int .i64 x2.1))), (7, (pEq (.int .i64 x2.2)))]) ⟨rfl, rfl, rfl, rfl, trivial⟩ ?_
  refine Tr.seq ?_
  refine Tr.region ?_
  refine RegL.pure (p := (pEq (.int .i64 x2.1))) rfl rfl rfl (J_move rfl (Opd.tmp rfl)) ?_
  refine RegL.pure (p := (pEq (.int .i64 x_0))) rfl rfl rfl (J_move rfl (Opd.tmp rfl)) ?_
  replace h := bind_some h; obtain ⟨x3, hx3, h⟩ := h
  refine RegL.pure (p := (pTup [(pEq (.int .i64 x3.1)), (pEq (.int .i64 x3.2))])) rfl rfl rfl (J_call rfl Tryd.call126 (c_spec_l02Times hx3) (Opds.cons (Opd.tmp rfl) (Opds.cons (Opd.tmp rfl) Opds.nil))) ?_
  refine RegL.pure (p := (pTup [(pEq (.int .i64 x3.1)), (pEq (.int .i64 x3.2))])) rfl rfl rfl (J_move rfl (Opd.tmp rfl)) ?_
  refine RegL.pure (p := (pEq (.int .i64 x3.1))) rfl rfl rfl (J_extract rfl (Opd.tmp rfl) rfl) ?_
  refine RegL.pure (p := (pEq (.int .i64 x3.2))) rfl rfl rfl (J_extract rfl (Opd.tmp rfl) rfl) ?_
  refine RegL.pure (p := (pEq (.int .i64 x3.1))) rfl rfl rfl (J_assign rfl (Opd.tmp rfl)) ?_
  refine RegL.pure (p := (pEq (.int .i64 x3.2))) rfl rfl rfl (J_assign rfl (Opd.tmp rfl)) ?_
  refine RegL.nil ?_
  refine Ct.then_tr ?_
  refine Tr.weak (Γ' := [(5, (pEq (.int .i64 x1.2))), (7, (pEq (.int .i64 x2.2))), (8, (pEq (.int .i64 x3.1))), (9, (pEq (.int .i64 x3.2)))]) ⟨rfl, rfl, rfl, rfl, trivial⟩ ?_
  refine Tr.seq ?_
  refine Tr.region ?_
  refine RegL.pure (p := (pEq (.int .i64 x3.1))) rfl rfl rfl (J_move rfl (Opd.tmp rfl)) ?_
  refine RegL.pure (p := (pEq (.int .i64 x3.1))) rfl rfl rfl (J_move rfl (Opd.tmp rfl)) ?_
  replace h := bind_some h; obtain ⟨x4, hx4, h⟩ := h
  refine RegL.pure (p := (pTup [(pEq (.int .i64 x4.1)), (pEq (.int .i64 x4.2))])) rfl rfl rfl (J_call rfl Tryd.call126 (c_spec_l02Times hx4) (Opds.cons (Opd.tmp rfl) (Opds.cons (Opd.tmp rfl) Opds.nil))) ?_
  refine RegL.pure (p := (pTup [(pEq (.int .i64 x4.1)), (pEq (.int .i64 x4.2))])) rfl rfl rfl (J_move rfl (Opd.tmp rfl)) ?_
  refine RegL.pure (p := (pEq (.int .i64 x4.1))) rfl rfl rfl (J_extract rfl (Opd.tmp rfl) rfl) ?_
  refine RegL.pure (p := (pEq (.int .i64 x4.2))) rfl rfl rfl (J_extract rfl (Opd.tmp rfl) rfl) ?_
  refine RegL.pure (p := (pEq (.int .i64 x4.1))) rfl rfl rfl (J_assign rfl (Opd.tmp rfl)) ?_
  refine RegL.pure (p := (pEq (.int .i64 x4.2))) rfl rfl rfl (J_assign rfl (Opd.tmp rfl)) ?_
  refine RegL.nil ?_
  refine Ct.then_tr ?_
  refine Tr.weak (Γ' := [(5, (pEq (.int .i64 x1.2))), (7, (pEq (.int .i64 x2.2))), (9, (pEq (.int .i64 x3.2))), (10, (pEq (.int .i64 x4.1))), (11, (pEq (.int .i64 x4.2)))]) ⟨rfl, rfl, rfl, rfl, rfl, trivial⟩ ?_
  refine Tr.seq ?_
  refine Tr.region ?_
  refine RegL.pure (p := (pEq (.int .i64 x4.1))) rfl rfl rfl (J_move rfl (Opd.tmp rfl)) ?_
  refine RegL.pure (p := (pEq (.int .i64 x1.2))) rfl rfl rfl (J_move rfl (Opd.tmp rfl)) ?_
  refine RegL.pure (p := (pEq (.int .i64 (w64 ((2 : Int) * x1.2))))) rfl rfl rfl (J_bin rfl Opd.con (Opd.tmp rfl) B_mul) ?_
  refine RegL.pure (p := (pEq (.int .i64 x2.2))) rfl rfl rfl (J_move rfl (Opd.tmp rfl)) ?_
  refine RegL.pure (p := (pEq (.int .i64 (w64 ((w64 ((2 : Int) * x1.2)) + x2.2))))) rfl rfl rfl (J_bin rfl (Opd.tmp rfl) (Opd.tmp rfl) B_add) ?_
  refine RegL.pure (p := (pEq (.int .i64 x3.2))) rfl rfl rfl (J_move rfl (Opd.tmp rfl)) ?_
  refine RegL.pure (p := (pEq (.int .i64 (w64 ((w64 ((w64 ((2 : Int) * x1.2)) + x2.2)) + x3.2))))) rfl rfl rfl (J_bin rfl (Opd.tmp rfl) (Opd.tmp rfl) B_add) ?_
  refine RegL.pure (p := (pEq (.int .i64 (w64 ((2 : Int) * (w64 ((w64 ((w64 ((2 : Int) * x1.2)) + x2.2)) + x3.2))))))) rfl rfl rfl (J_bin rfl Opd.con (Opd.tmp rfl) B_mul) ?_
  refine RegL.pure (p := (pEq (.int .i64 x4.2))) rfl rfl rfl (J_move rfl (Opd.tmp rfl)) ?_
  refine RegL.pure (p := (pEq (.int .i64 (w64 ((w64 ((2 : Int) * (w64 ((w64 ((w64 ((2 : Int) * x1.2)) + x2.2)) + x3.2)))) + x4.2))))) rfl rfl rfl (J_bin rfl (Opd.tmp rfl) (Opd.tmp rfl) B_add) ?_
  refine RegL.pure (p := (pEq (.int .i64 x4.1))) rfl rfl rfl (J_assign rfl (Opd.tmp rfl)) ?_
  refine RegL.pure (p := (pEq (.int .i64 (w64 ((w64 ((2 : Int) * (w64 ((w64 ((w64 ((2 : Int) * x1.2)) + x2.2)) + x3.2)))) + x4.2))))) rfl rfl rfl (J_assign rfl (Opd.tmp rfl)) ?_
  refine RegL.nil ?_
  refine Ct.then_tr ?_
  refine Tr.weak (Γ' := [(2, (pEq (.int .i64 x4.1))), (3, (pEq (.int .i64 (w64 ((w64 ((2 : Int) * (w64 ((w64 ((w64 ((2 : Int) * x1.2)) + x2.2)) + x3.2)))) + x4.2)))))]) ⟨rfl, rfl, trivial⟩ ?_
  refine Tr.ret ?_
  replace h := Option.some.inj h; subst h
  exact Ct.retH2 (Ωx := []) () rfl (RvOk.tmp rfl) (RvOk.tmp rfl) rfl rfl

theorem c_spec_l02Log {n_0 : Int} {r : Int} (h : m_spec_l02Log n_0 = some r) : CallJ Tryd.prog 83 [(pEq (.int .i64 n_0))] (pEq (.int .i64 r)) := by
  unfold m_spec_l02Log at h
  refine CallJ.enterH Tryd.func83 rfl Tryd.ntmps83 rfl fun W I0 H => ?_
  refine Tr.weak (Γ' := [(0, (pEq (.int .i64 n_0)))]) ⟨rfl, trivial⟩ ?_
  refine Tr.seq ?_
  refine Tr.region ?_
  refine RegL.pure (p := (pEq (.int .i64 (0 : Int)))) rfl rfl rfl (J_assign rfl Opd.con) ?_
  refine RegL.nil ?_
  refine Ct.then_tr ?_
  refine Tr.weak (Γ' := [(0, (pEq (.int .i64 n_0)))]) ⟨rfl, trivial⟩ ?_
  refine Tr.seq ?_
  refine Tr.region ?_
  refine RegL.pure (p := (pEq (.int .i64 (0 : Int)))) rfl rfl rfl (J_assign rfl Opd.con) ?_
  refine RegL.nil ?_
  refine Ct.then_tr ?_
  refine Tr.weak (Γ' := [(0, (pEq (.int .i64 n_0))), (3, (pEq (.int .i64 (0 : Int))))]) ⟨rfl, rfl, trivial⟩ ?_
  refine Tr.seq ?_
  refine Tr.seq ?_
  refine Tr.region ?_
  refine RegL.pure (p := (pEq (.int .i64 n_0))) rfl rfl rfl (J_move rfl (Opd.tmp rfl)) ?_
  refine RegL.pure (p := (pEq (.int .i64 n_0))) rfl rfl rfl (J_assign rfl (Opd.tmp rfl)) ?_
  refine RegL.nil ?_
  refine Ct.then_tr ?_
  refine Tr.weak (Γ' := [(0, (pEq (.int .i64 n_0))), (3, (pEq (.int .i64 (0 : Int)))), (4, (pEq (.int .i64 n_0)))]) ⟨rfl, rfl, rfl, trivial⟩ ?_
  replace h := bind_some h; obtain ⟨x1, hx1, h⟩ := h
  refine Tr.cut (γ := Unit) (Γm := fun g => [(0, (pEq (.int .i64 n_0))), (3, (pEq (.int .i64 x1)))]) (Ωm := fun g => []) ?_ (fun g6 => ?_)
  · clear h
    have h := hx1
    clear hx1
    refine Tr.block ?_
    refine Tr.weak (Γ' := [(0, (pEq (.int .i64 n_0))), (3, (pEq (.int .i64 (0 : Int)))), (4, (pEq (.int .i64 n_0)))]) ⟨rfl, rfl, rfl, trivial⟩ ?_
    refine Tr.loop (γ := Unit) (σ := (Int × Int)) (Γσ := fun s g => [(0, (pEq (.int .i64 n_0))), (3, (pEq (.int .i64 s.1))), (4, (pEq (.int .i64 s.2)))]) (Ωσ := fun s g => []) (g := ()) h ?_
    clear h
    rintro ⟨v3, v4⟩ g5 t h
    replace h : m_spec_l02Log_B2  v3 v4 = some t := h
    unfold m_spec_l02Log_B2 at h
    refine Tr.weakO (Γ' := [(0, (pEq (.int .i64 n_0))), (3, (pEq (.int .i64 v3))), (4, (pEq (.int .i64 v4)))]) (Ω' := []) rfl ⟨rfl, rfl, rfl, trivial⟩ ?_
    refine Tr.seq ?_
    refine Tr.seq ?_
    refine Tr.region ?_
    refine RegL.pure (p := (pEq (.int .i64 v4))) rfl rfl rfl (J_move rfl (Opd.tmp rfl)) ?_
    refine RegL.pure (p := (pEq (.bool (decide ((10 : Int) ≤ v4))))) rfl rfl rfl (J_bin rfl (Opd.tmp rfl) Opd.con B_geq) ?_
    refine RegL.nil ?_
    refine Ct.then_tr ?_
    refine Tr.weak (Γ' := [(0, (pEq (.int .i64 n_0))), (3, (pEq (.int .i64 v3))), (4, (pEq (.int .i64 v4))), (13, (pEq (.bool (decide ((10 : Int) ≤ v4)))))]) ⟨rfl, rfl, rfl, rfl, trivial⟩ ?_
    refine Tr.cond (Opd.tmp rfl) (fun hc => ?_) (fun hc => ?_)
    · replace h := bif_t hc h
      refine Tr.skip ?_
      refine Ct.then_tr ?_
      refine Tr.weak (Γ' := [(0, (pEq (.int .i64 n_0))), (3, (pEq (.int .i64 v3))), (4, (pEq (.int .i64 v4)))]) ⟨rfl, rfl, rfl, trivial⟩ ?_
      refine Tr.seq ?_
      refine Tr.block ?_
      refine Tr.region ?_
      refine RegL.pure (p := (pEq (.int .i64 v3))) rfl rfl rfl (J_move rfl (Opd.tmp rfl)) ?_
      refine RegL.pure (p := (pEq (.int .i64 (w64 (v3 + (1 : Int)))))) rfl rfl rfl (J_bin rfl (Opd.tmp rfl) Opd.con B_add) ?_
      refine RegL.pure (p := (pEq (.int .i64 (w64 (v3 + (1 : Int)))))) rfl rfl rfl (J_assign rfl (Opd.tmp rfl)) ?_
      refine RegL.nil ?_
      refine Ct.blk_normal ?_
      refine Ct.then_tr ?_
      refine Tr.weak (Γ' := [(0, (pEq (.int .i64 n_0))), (3, (pEq (.int .i64 (w64 (v3 + (1 : Int)))))), (4, (pEq (.int .i64 v4)))]) ⟨rfl, rfl, rfl, trivial⟩ ?_
      refine Tr.region ?_
      refine RegL.pure (p := (pEq (.int .i64 v4))) rfl rfl rfl (J_move rfl (Opd.tmp rfl)) ?_
      refine RegL.pure (p := (pEq (.int .i64 (w64 (v4.tdiv (10 : Int)))))) rfl rfl rfl (J_bin rfl (Opd.tmp rfl) Opd.con (B_quo (n := (10 : Int)) (by decide))) ?_
      refine RegL.pure (p := (pEq (.int .i64 (w64 (v4.tdiv (10 : Int)))))) rfl rfl rfl (J_assign rfl (Opd.tmp rfl)) ?_
      refine RegL.nil ?_
      replace h := Option.some.inj h; subst h
      exact Ct.again () rfl ⟨rfl, rfl, rfl, trivial⟩
    · replace h := bif_f hc h
      refine Tr.exit ?_
      refine Ct.then_exit ?_
      replace h := map_some h; obtain ⟨r1, h, rfl⟩ := h
      refine Ct.out_exit fun e => ?_
      subst e
      refine Ct.blk_exit ?_
      replace h := Option.some.inj h; subst h
      exact Ct.mid () rfl ⟨rfl, rfl, trivial⟩
  · clear hx1
    refine Ct.then_tr ?_
    refine Tr.weak (Γ' := [(0, (pEq (.int .i64 n_0))), (3, (pEq (.int .i64 x1)))]) ⟨rfl, rfl, trivial⟩ ?_
    refine Tr.seq ?_
    refine Tr.region ?_
    refine RegL.pure (p := (pEq (.int .i64 n_0))) rfl rfl rfl (J_move rfl (Opd.tmp rfl)) ?_
    refine RegL.pure (p := (pEq (.int .i64 n_0))) rfl rfl rfl (J_assign rfl (Opd.tmp rfl)) ?_
    refine RegL.nil ?_
    refine Ct.then_tr ?_
    refine Tr.weak (Γ' := [(3, (pEq (.int .i64 x1))), (5, (pEq (.int .i64 n_0)))]) ⟨rfl, rfl, trivial⟩ ?_
    refine Tr.seq ?_
    refine Tr.seq ?_
    refine Tr.region ?_
    refine RegL.pure (p := (pEq (.int .i64 x1))) rfl rfl rfl (J_move rfl (Opd.tmp rfl)) ?_
    refine RegL.pure (p := (pEq (.int .i64 x1))) rfl rfl rfl (J_assign rfl (Opd.tmp rfl)) ?_
    refine RegL.nil ?_
    refine Ct.then_tr ?_
    refine Tr.weak (Γ' := [(3, (pEq (.int .i64 x1))), (5, (pEq (.int .i64 n_0))), (6, (pEq (.int .i64 x1)))]) ⟨rfl, rfl, rfl, trivial⟩ ?_
    replace h := bind_some h; obtain ⟨x7, hx7, h⟩ := h
    refine Tr.cut (γ := Unit) (Γm := fun g => [(3, (pEq (.int .i64 x1))), (5, (pEq (.int .i64 x7)))]) (Ωm := fun g => []) ?_ (fun g12 => ?_)
    · clear h
      have h := hx7
      clear hx7
      refine Tr.block ?_
      refine Tr.weak (Γ' := [(3, (pEq (.int .i64 x1))), (5, (pEq (.int .i64 n_0))), (6, (pEq (.int .i64 x1)))]) ⟨rfl, rfl, rfl, trivial⟩ ?_
      refine Tr.loop (γ := Unit) (σ := (Int × Int)) (Γσ := fun s g => [(3, (pEq (.int .i64 x1))), (5, (pEq (.int .i64 s.1))), (6, (pEq (.int .i64 s.2)))]) (Ωσ := fun s g => []) (g := ()) h ?_
      clear h
      rintro ⟨v9, v10⟩ g11 t h
      replace h : m_spec_l02Log_B8  v9 v10 = some t := h
      unfold m_spec_l02Log_B8 at h
      refine Tr.weakO (Γ' := [(3, (pEq (.int .i64 x1))), (5, (pEq (.int .i64 v9))), (6, (pEq (.int .i64 v10)))]) (Ω' := []) rfl ⟨rfl, rfl, rfl, trivial⟩ ?_
      refine Tr.seq ?_
      refine Tr.seq ?_
      refine Tr.region ?_
      refine RegL.pure (p := (pEq (.int .i64 v10))) rfl rfl rfl (J_move rfl (Opd.tmp rfl)) ?_
      refine RegL.pure (p := (pEq (.bool (decide (v10 < (8 : Int)))))) rfl rfl rfl (J_bin rfl (Opd.tmp rfl) Opd.con B_lss) ?_
      refine RegL.nil ?_
      refine Ct.then_tr ?_
      refine Tr.weak (Γ' := [(3, (pEq (.int .i64 x1))), (5, (pEq (.int .i64 v9))), (6, (pEq (.int .i64 v10))), (21, (pEq (.bool (decide (v10 < (8 : Int))))))]) ⟨rfl, rfl, rfl, rfl, trivial⟩ ?_
      refine Tr.cond (Opd.tmp rfl) (fun hc => ?_) (fun hc => ?_)
      · replace h := bif_t hc h
        refine Tr.skip ?_
        refine Ct.then_tr ?_
        refine Tr.weak (Γ' := [(3, (pEq (.int .i64 x1))), (5, (pEq (.int .i64 v9))), (6, (pEq (.int .i64 v10)))]) ⟨rfl, rfl, rfl, trivial⟩ ?_
        refine Tr.seq ?_
        refine Tr.block ?_
        refine Tr.region ?_
        refine RegL.pure (p := (pEq (.int .i64 v9))) rfl rfl rfl (J_move rfl (Opd.tmp rfl)) ?_
        refine RegL.pure (p := (pEq (.int .i64 (w64 (v9 * (10 : Int)))))) rfl rfl rfl (J_bin rfl (Opd.tmp rfl) Opd.con B_mul) ?_
        refine RegL.pure (p := (pEq (.int .i64 (w64 (v9 * (10 : Int)))))) rfl rfl rfl (J_assign rfl (Opd.tmp rfl)) ?_
        refine RegL.nil ?_
        refine Ct.blk_normal ?_
        refine Ct.then_tr ?_
        refine Tr.weak (Γ' := [(3, (pEq (.int .i64 x1))), (5, (pEq (.int .i64 (w64 (v9 * (10 : Int)))))), (6, (pEq (.int .i64 v10)))]) ⟨rfl, rfl, rfl, trivial⟩ ?_
        refine Tr.region ?_
        refine RegL.pure (p := (pEq (.int .i64 v10))) rfl rfl rfl (J_move rfl (Opd.tmp rfl)) ?_
        refine RegL.pure (p := (pEq (.int .i64 (w64 (v10 + (1 : Int)))))) rfl rfl rfl (J_bin rfl (Opd.tmp rfl) Opd.con B_add) ?_
        refine RegL.pure (p := (pEq (.int .i64 (w64 (v10 + (1 : Int)))))) rfl rfl rfl (J_assign rfl (Opd.tmp rfl)) ?_
        refine RegL.nil ?_
        replace h := Option.some.inj h; subst h
        exact Ct.again () rfl ⟨rfl, rfl, rfl, trivial⟩
      · replace h := bif_f hc h
        refine Tr.exit ?_
        refine Ct.then_exit ?_
        replace h := map_some h; obtain ⟨r1, h, rfl⟩ := h
        refine Ct.out_exit fun e => ?_
        subst e
        refine Ct.blk_exit ?_
        replace h := Option.some.inj h; subst h
        exact Ct.mid () rfl ⟨rfl, rfl, trivial⟩
    · clear hx7
      refine Ct.then_tr ?_
      refine Tr.weak (Γ' := [(3, (pEq (.int .i64 x1))), (5, (pEq (.int .i64 x7)))]) ⟨rfl, rfl, trivial⟩ ?_
      refine Tr.seq ?_
      refine Tr.seq ?_
      refine Tr.region ?_
      refine RegL.pure (p := (pEq (.int .i64 x1))) rfl rfl rfl (J_move rfl (Opd.tmp rfl)) ?_
      refine RegL.pure (p := (pEq (.int .i64 x1))) rfl rfl rfl (J_assign rfl (Opd.tmp rfl)) ?_
      refine RegL.nil ?_
      refine Ct.then_tr ?_
      refine Tr.weak (Γ' := [(3, (pEq (.int .i64 x1))), (5, (pEq (.int .i64 x7))), (7, (pEq (.int .i64 x1)))]) ⟨rfl, rfl, rfl, trivial⟩ ?_
      replace h := bind_some h; obtain ⟨x13, hx13, h⟩ := h
      refine Tr.cut (γ := Unit) (Γm := fun g => [(3, (pEq (.int .i64 x1))), (5, (pEq (.int .i64 x13)))]) (Ωm := fun g => []) ?_ (fun g18 => ?_)
      · clear h
        have h := hx13
        clear hx13
        refine Tr.block ?_
        refine Tr.weak (Γ' := [(3, (pEq (.int .i64 x1))), (5, (pEq (.int .i64 x7))), (7, (pEq (.int .i64 x1)))]) ⟨rfl, rfl, rfl, trivial⟩ ?_
        refine Tr.loop (γ := Unit) (σ := (Int × Int)) (Γσ := fun s g => [(3, (pEq (.int .i64 x1))), (5, (pEq (.int .i64 s.1))), (7, (pEq (.int .i64 s.2)))]) (Ωσ := fun s g => []) (g := ()) h ?_
        clear h
        rintro ⟨v15, v16⟩ g17 t h
        replace h : m_spec_l02Log_B14  v15 v16 = some t := h
        unfold m_spec_l02Log_B14 at h
        refine Tr.weakO (Γ' := [(3, (pEq (.int .i64 x1))), (5, (pEq (.int .i64 v15))), (7, (pEq (.int .i64 v16)))]) (Ω' := []) rfl ⟨rfl, rfl, rfl, trivial⟩ ?_
        refine Tr.seq ?_
        refine Tr.seq ?_
        refine Tr.region ?_
        refine RegL.pure (p := (pEq (.int .i64 v16))) rfl rfl rfl (J_move rfl (Opd.tmp rfl)) ?_
        refine RegL.pure (p := (pEq (.bool (decide ((8 : Int) < v16))))) rfl rfl rfl (J_bin rfl (Opd.tmp rfl) Opd.con B_gtr) ?_
        refine RegL.nil ?_
        refine Ct.then_tr ?_
        refine Tr.weak (Γ' := [(3, (pEq (.int .i64 x1))), (5, (pEq (.int .i64 v15))), (7, (pEq (.int .i64 v16))), (28, (pEq (.bool (decide ((8 : Int) < v16)))))]) ⟨rfl, rfl, rfl, rfl, trivial⟩ ?_
        refine Tr.cond (Opd.tmp rfl) (fun hc => ?_) (fun hc => ?_)
        · replace h := bif_t hc h
          refine Tr.skip ?_
          refine Ct.then_tr ?_
          refine Tr.weak (Γ' := [(3, (pEq (.int .i64 x1))), (5, (pEq (.int .i64 v15))), (7, (pEq (.int .i64 v16)))]) ⟨rfl, rfl, rfl, trivial⟩ ?_
          refine Tr.seq ?_
          refine Tr.block ?_
          refine Tr.region ?_
          refine RegL.pure (p := (pEq (.int .i64 v15))) rfl rfl rfl (J_move rfl (Opd.tmp rfl)) ?_
          refine RegL.pure (p := (pEq (.int .i64 (w64 (v15.tdiv (10 : Int)))))) rfl rfl rfl (J_bin rfl (Opd.tmp rfl) Opd.con (B_quo (n := (10 : Int)) (by decide))) ?_
          refine RegL.pure (p := (pEq (.int .i64 (w64 (v15.tdiv (10 : Int)))))) rfl rfl rfl (J_assign rfl (Opd.tmp rfl)) ?_
          refine RegL.nil ?_
          refine Ct.blk_normal ?_
          refine Ct.then_tr ?_
          refine Tr.weak (Γ' := [(3, (pEq (.int .i64 x1))), (5, (pEq (.int .i64 (w64 (v15.tdiv (10 : Int)))))), (7, (pEq (.int .i64 v16)))]) ⟨rfl, rfl, rfl, trivial⟩ ?_
          refine Tr.region ?_
          refine RegL.pure (p := (pEq (.int .i64 v16))) rfl rfl rfl (J_move rfl (Opd.tmp rfl)) ?_
          refine RegL.pure (p := (pEq (.int .i64 (w64 (v16 - (1 : Int)))))) rfl rfl rfl (J_bin rfl (Opd.tmp rfl) Opd.con B_sub) ?_
          refine RegL.pure (p := (pEq (.int .i64 (w64 (v16 - (1 : Int)))))) rfl rfl rfl (J_assign rfl (Opd.tmp rfl)) ?_
          refine RegL.nil ?_
          replace h := Option.some.inj h; subst h
          exact Ct.again () rfl ⟨rfl, rfl, rfl, trivial⟩
        · replace h := bif_f hc h
          refine Tr.exit ?_
          refine Ct.then_exit ?_
          replace h := map_some h; obtain ⟨r1, h, rfl⟩ := h
          refine Ct.out_exit fun e => ?_
          subst e
          refine Ct.blk_exit ?_
          replace h := Option.some.inj h; subst h
          exact Ct.mid () rfl ⟨rfl, rfl, trivial⟩
      · clear hx13
        refine Ct.then_tr ?_
        refine Tr.weak (Γ' := [(3, (pEq (.int .i64 x1))), (5, (pEq (.int .i64 x13)))]) ⟨rfl, rfl, trivial⟩ ?_
        refine Tr.seq ?_
        refine Tr.seq ?_
        refine Tr.region ?_
        refine RegL.pure (p := (pEq (.int .i64 (0 : Int)))) rfl rfl rfl (J_assign rfl Opd.con) ?_
        refine RegL.nil ?_
        refine Ct.then_tr ?_
        refine Tr.weak (Γ' := [(3, (pEq (.int .i64 x1))), (5, (pEq (.int .i64 x13))), (8, (pEq (.int .i64 (0 : Int))))]) ⟨rfl, rfl, rfl, trivial⟩ ?_
        replace h := bind_some h; obtain ⟨x19, hx19, h⟩ := h
        refine Tr.cut (γ := Unit) (Γm := fun g => [(3, (pEq (.int .i64 x19)))]) (Ωm := fun g => []) ?_ (fun g26 => ?_)
        · clear h
          have h := hx19
          clear hx19
          refine Tr.block ?_
          refine Tr.weak (Γ' := [(3, (pEq (.int .i64 x1))), (5, (pEq (.int .i64 x13))), (8, (pEq (.int .i64 (0 : Int))))]) ⟨rfl, rfl, rfl, trivial⟩ ?_
          refine Tr.loop (γ := Unit) (σ := (Int × Int × Int)) (Γσ := fun s g => [(3, (pEq (.int .i64 s.1))), (5, (pEq (.int .i64 s.2.1))), (8, (pEq (.int .i64 s.2.2)))]) (Ωσ := fun s g => []) (g := ()) h ?_
          clear h
          rintro ⟨v21, v22, v23⟩ g24 t h
          replace h : m_spec_l02Log_B20  v21 v22 v23 = some t := h
          unfold m_spec_l02Log_B20 at h
          refine Tr.weakO (Γ' := [(3, (pEq (.int .i64 v21))), (5, (pEq (.int .i64 v22))), (8, (pEq (.int .i64 v23)))]) (Ω' := []) rfl ⟨rfl, rfl, rfl, trivial⟩ ?_
          refine Tr.seq ?_
          refine Tr.seq ?_
          refine Tr.region ?_
          refine RegL.pure (p := (pEq (.int .i64 v23))) rfl rfl rfl (J_move rfl (Opd.tmp rfl)) ?_
          refine RegL.pure (p := (pEq (.bool (decide (v23 < (4 : Int)))))) rfl rfl rfl (J_bin rfl (Opd.tmp rfl) Opd.con B_lss) ?_
          refine RegL.nil ?_
          refine Ct.then_tr ?_
          refine Tr.weak (Γ' := [(3, (pEq (.int .i64 v21))), (5, (pEq (.int .i64 v22))), (8, (pEq (.int .i64 v23))), (34, (pEq (.bool (decide (v23 < (4 : Int))))))]) ⟨rfl, rfl, rfl, rfl, trivial⟩ ?_
          refine Tr.cond (Opd.tmp rfl) (fun hc => ?_) (fun hc => ?_)
          · replace h := bif_t hc h
            refine Tr.skip ?_
            refine Ct.then_tr ?_
            refine Tr.weak (Γ' := [(3, (pEq (.int .i64 v21))), (5, (pEq (.int .i64 v22))), (8, (pEq (.int .i64 v23)))]) ⟨rfl, rfl, rfl, trivial⟩ ?_
            refine Tr.seq ?_
            refine Tr.block ?_
            refine Tr.seq ?_
            refine Tr.region ?_
            refine RegL.pure (p := (pEq (.int .i64 v22))) rfl rfl rfl (J_move rfl (Opd.tmp rfl)) ?_
            replace h := bind_some h; obtain ⟨x25, hx25, h⟩ := h
            refine RegL.pure (p := (pTup [(pEq (.int .i64 x25.1)), (pEq (.int .i64 x25.2))])) rfl rfl rfl (J_call rfl Tryd.call109 (c_spec_l02Tenth hx25) (Opds.cons (Opd.tmp rfl) Opds.nil)) ?_
            refine RegL.pure (p := (pTup [(pEq (.int .i64 x25.1)), (pEq (.int .i64 x25.2))])) rfl rfl rfl (J_move rfl (Opd.tmp rfl)) ?_
            refine RegL.pure (p := (pEq (.int .i64 x25.1))) rfl rfl rfl (J_extract rfl (Opd.tmp rfl) rfl) ?_
            refine RegL.pure (p := (pEq (.int .i64 x25.2))) rfl rfl rfl (J_extract rfl (Opd.tmp rfl) rfl) ?_
            refine RegL.pure (p := (pEq (.int .i64 x25.1))) rfl rfl rfl (J_assign rfl (Opd.tmp rfl)) ?_
            refine RegL.pure (p := (pEq (.int .i64 x25.2))) rfl rfl rfl (J_assign rfl (Opd.tmp rfl)) ?_
            refine RegL.nil ?_
            refine Ct.then_tr ?_
            refine Tr.weak (Γ' := [(3, (pEq (.int .i64 v21))), (8, (pEq (.int .i64 v23))), (9, (pEq (.int .i64 x25.1))), (10, (pEq (.int .i64 x25.2)))]) ⟨rfl, rfl, rfl, rfl, trivial⟩ ?_
            refine Tr.seq ?_
            refine Tr.region ?_
            refine RegL.pure (p := (pEq (.int .i64 x25.1))) rfl rfl rfl (J_move rfl (Opd.tmp rfl)) ?_
            refine RegL.pure (p := (pEq (.int .i64 x25.1))) rfl rfl rfl (J_assign rfl (Opd.tmp rfl)) ?_
            refine RegL.nil ?_
            refine Ct.then_tr ?_
            refine Tr.weak (Γ' := [(3, (pEq (.int .i64 v21))), (5, (pEq (.int .i64 x25.1))), (8, (pEq (.int .i64 v23))), (10, (pEq (.int .i64 x25.2)))]) ⟨rfl, rfl, rfl, rfl, trivial⟩ ?_
            refine Tr.region ?_
            refine RegL.pure (p := (pEq (.int .i64 v21))) rfl rfl rfl (J_move rfl (Opd.tmp rfl)) ?_
            refine RegL.pure (p := (pEq (.int .i64 (w64 ((10 : Int) * v21))))) rfl rfl rfl (J_bin rfl Opd.con (Opd.tmp rfl) B_mul) ?_
            refine RegL.pure (p := (pEq (.int .i64 x25.2))) rfl rfl rfl (J_move rfl (Opd.tmp rfl)) ?_
            refine RegL.pure (p := (pEq (.int .i64 (w64 ((w64 ((10 : Int) * v21)) + x25.2))))) rfl rfl rfl (J_bin rfl (Opd.tmp rfl) (Opd.tmp rfl) B_add) ?_
            refine RegL.pure (p := (pEq (.int .i64 (w64 ((w64 ((10 : Int) * v21)) + x25.2))))) rfl rfl rfl (J_assign rfl (Opd.tmp rfl)) ?_
            refine RegL.nil ?_
            refine Ct.blk_normal ?_
            refine Ct.then_tr ?_
            refine Tr.weak (Γ' := [(3, (pEq (.int .i64 (w64 ((w64 ((10 : Int) * v21)) + x25.2))))), (5, (pEq (.int .i64 x25.1))), (8, (pEq (.int .i64 v23)))]) ⟨rfl, rfl, rfl, trivial⟩ ?_
            refine Tr.region ?_
            refine RegL.pure (p := (pEq (.int .i64 v23))) rfl rfl rfl (J_move rfl (Opd.tmp rfl)) ?_
            refine RegL.pure (p := (pEq (.int .i64 (w64 (v23 + (1 : Int)))))) rfl rfl rfl (J_bin rfl (Opd.tmp rfl) Opd.con B_add) ?_
            refine RegL.pure (p := (pEq (.int .i64 (w64 (v23 + (1 : Int)))))) rfl rfl rfl (J_assign rfl (Opd.tmp rfl)) ?_
            refine RegL.nil ?_
            replace h := Option.some.inj h; subst h
            exact Ct.again () rfl ⟨rfl, rfl, rfl, trivial⟩
          · replace h := bif_f hc h
            refine Tr.exit ?_
            refine Ct.then_exit ?_
            replace h := map_some h; obtain ⟨r1, h, rfl⟩ := h
            refine Ct.out_exit fun e => ?_
            subst e
            refine Ct.blk_exit ?_
            replace h := Option.some.inj h; subst h
            exact Ct.mid () rfl ⟨rfl, trivial⟩
        · clear hx19
          refine Ct.then_tr ?_
          refine Tr.weak (Γ' := [(3, (pEq (.int .i64 x19)))]) ⟨rfl, trivial⟩ ?_
          refine Tr.seq ?_
          refine Tr.region ?_
          refine RegL.pure (p := (pEq (.int .i64 x19))) rfl rfl rfl (J_move rfl (Opd.tmp rfl)) ?_
          refine RegL.pure (p := (pEq (.int .i64 x19))) rfl rfl rfl (J_assign rfl (Opd.tmp rfl)) ?_
          refine RegL.nil ?_
          refine Ct.then_tr ?_
          refine Tr.weak (Γ' := [(2, (pEq (.int .i64 x19)))]) ⟨rfl, trivial⟩ ?_
          refine Tr.ret ?_
          replace h := Option.some.inj h; subst h
          exact Ct.retH1 (Ωx := []) () rfl (RvOk.tmp rfl) rfl

theorem c_spec_l02Pow {v_0 : Int} {r : Int} (h : m_spec_l02Pow v_0 = some r) : CallJ Tryd.prog 108 [(pEq (.int .i64 v_0))] (pEq (.int .i64 r)) := by
  unfold m_spec_l02Pow at h
  refine CallJ.enterH Tryd.func108 rfl Tryd.ntmps108 rfl fun W I0 H => ?_
  refine Tr.weak (Γ' := [(0, (pEq (.int .i64 v_0)))]) ⟨rfl, trivial⟩ ?_
  refine Tr.seq ?_
  refine Tr.region ?_
  refine RegL.pure (p := (pEq (.int .i64 (0 : Int)))) rfl rfl rfl (J_assign rfl Opd.con) ?_
  refine RegL.nil ?_
  refine Ct.then_tr ?_
  refine Tr.weak (Γ' := [(0, (pEq (.int .i64 v_0)))]) ⟨rfl, trivial⟩ ?_
  refine Tr.seq ?_
  refine Tr.region ?_
  refine RegL.pure (p := (pEq (.int .i64 (1 : Int)))) rfl rfl rfl (J_assign rfl Opd.con) ?_
  refine RegL.nil ?_
  refine Ct.then_tr ?_
  refine Tr.weak (Γ' := [(0, (pEq (.int .i64 v_0))), (3, (pEq (.int .i64 (1 : Int))))]) ⟨rfl, rfl, trivial⟩ ?_
  refine Tr.seq ?_
  refine Tr.region ?_
  refine RegL.pure (p := (pEq (.int .i64 (1000000000000000000 : Int)))) rfl rfl rfl (J_assign rfl Opd.con) ?_
  refine RegL.nil ?_
  refine Ct.then_tr ?_
  refine Tr.weak (Γ' := [(0, (pEq (.int .i64 v_0))), (3, (pEq (.int .i64 (1 : Int)))), (4, (pEq (.int .i64 (1000000000000000000 : Int))))]) ⟨rfl, rfl, rfl, trivial⟩ ?_
  refine Tr.seq ?_
  replace h := bind_some h; obtain ⟨x1, hx1, h⟩ := h
  refine Tr.cut (γ := Unit) (Γm := fun g => [(3, (pEq (.int .i64 x1)))]) (Ωm := fun g => []) ?_ (fun g9 => ?_)
  · clear h
    have h := hx1
    clear hx1
    refine Tr.block ?_
    refine Tr.weak (Γ' := [(0, (pEq (.int .i64 v_0))), (3, (pEq (.int .i64 (1 : Int)))), (4, (pEq (.int .i64 (1000000000000000000 : Int))))]) ⟨rfl, rfl, rfl, trivial⟩ ?_
    refine Tr.loop (γ := Unit) (σ := (Int × Int)) (Γσ := fun s g => [(0, (pEq (.int .i64 v_0))), (3, (pEq (.int .i64 s.1))), (4, (pEq (.int .i64 s.2)))]) (Ωσ := fun s g => []) (g := ()) h ?_
    clear h
    rintro ⟨v3, v4⟩ g5 t h
    replace h : m_spec_l02Pow_B2 v_0 v3 v4 = some t := h
    unfold m_spec_l02Pow_B2 at h
    refine Tr.weakO (Γ' := [(0, (pEq (.int .i64 v_0))), (3, (pEq (.int .i64 v3))), (4, (pEq (.int .i64 v4)))]) (Ω' := []) rfl ⟨rfl, rfl, rfl, trivial⟩ ?_
    refine Tr.seq ?_
    refine Tr.seq ?_
    refine Tr.region ?_
    refine RegL.pure (p := (pEq (.int .i64 v3))) rfl rfl rfl (J_move rfl (Opd.tmp rfl)) ?_
    refine RegL.pure (p := (pEq (.int .i64 v4))) rfl rfl rfl (J_move rfl (Opd.tmp rfl)) ?_
    refine RegL.pure (p := (pEq (.bool (decide (v3 < v4))))) rfl rfl rfl (J_bin rfl (Opd.tmp rfl) (Opd.tmp rfl) B_lss) ?_
    refine RegL.nil ?_
    refine Ct.then_tr ?_
    refine Tr.weak (Γ' := [(0, (pEq (.int .i64 v_0))), (3, (pEq (.int .i64 v3))), (4, (pEq (.int .i64 v4))), (8, (pEq (.bool (decide (v3 < v4)))))]) ⟨rfl, rfl, rfl, rfl, trivial⟩ ?_
    refine Tr.cond (Opd.tmp rfl) (fun hc => ?_) (fun hc => ?_)
    · replace h := bif_t hc h
      refine Tr.skip ?_
      refine Ct.then_tr ?_
      refine Tr.weak (Γ' := [(0, (pEq (.int .i64 v_0))), (3, (pEq (.int .i64 v3))), (4, (pEq (.int .i64 v4)))]) ⟨rfl, rfl, rfl, trivial⟩ ?_
      refine Tr.block ?_
      refine Tr.seq ?_
      refine Tr.region ?_
      refine RegL.pure (p := (pEq (.int .i64 v3))) rfl rfl rfl (J_move rfl (Opd.tmp rfl)) ?_
      refine RegL.pure (p := (pEq (.int .i64 v4))) rfl rfl rfl (J_move rfl (Opd.tmp rfl)) ?_
      refine RegL.pure (p := (pEq (.int .i64 (w64 (v3 + v4))))) rfl rfl rfl (J_bin rfl (Opd.tmp rfl) (Opd.tmp rfl) B_add) ?_
      refine RegL.pure (p := (pEq (.int .i64 (w64 ((w64 (v3 + v4)).tdiv (2 : Int)))))) rfl rfl rfl (J_bin rfl (Opd.tmp rfl) Opd.con (B_quo (n := (2 : Int)) (by decide))) ?_
      refine RegL.pure (p := (pEq (.int .i64 (w64 ((w64 (v3 + v4)).tdiv (2 : Int)))))) rfl rfl rfl (J_assign rfl (Opd.tmp rfl)) ?_
      refine RegL.nil ?_
      refine Ct.then_tr ?_
      refine Tr.weak (Γ' := [(0, (pEq (.int .i64 v_0))), (3, (pEq (.int .i64 v3))), (4, (pEq (.int .i64 v4))), (5, (pEq (.int .i64 (w64 ((w64 (v3 + v4)).tdiv (2 : Int))))))]) ⟨rfl, rfl, rfl, rfl, trivial⟩ ?_
      refine Tr.seq ?_
      refine Tr.region ?_
      refine RegL.pure (p := (pEq (.int .i64 (w64 ((w64 (v3 + v4)).tdiv (2 : Int)))))) rfl rfl rfl (J_move rfl (Opd.tmp rfl)) ?_
      replace h := bind_some h; obtain ⟨x6, hx6, h⟩ := h
      refine RegL.pure (p := (pEq (.int .i64 x6))) rfl rfl rfl (J_call rfl Tryd.call83 (c_spec_l02Log hx6) (Opds.cons (Opd.tmp rfl) Opds.nil)) ?_
      refine RegL.pure (p := (pEq (.int .i64 v_0))) rfl rfl rfl (J_move rfl (Opd.tmp rfl)) ?_
      refine RegL.pure (p := (pEq (.bool (decide (v_0 ≤ x6))))) rfl rfl rfl (J_bin rfl (Opd.tmp rfl) (Opd.tmp rfl) B_geq) ?_
      refine RegL.nil ?_
      refine Ct.then_tr ?_
      refine Tr.weak (Γ' := [(0, (pEq (.int .i64 v_0))), (3, (pEq (.int .i64 v3))), (4, (pEq (.int .i64 v4))), (5, (pEq (.int .i64 (w64 ((w64 (v3 + v4)).tdiv (2 : Int)))))), (16, (pEq (.bool (decide (v_0 ≤ x6)))))]) ⟨rfl, rfl, rfl, rfl, rfl, trivial⟩ ?_
      replace h := bind_some h; obtain ⟨x7, hx7, h⟩ := h
      refine Tr.cut (γ := Unit) (Γm := fun g => [(0, (pEq (.int .i64 v_0))), (3, (pEq (.int .i64 x7.1))), (4, (pEq (.int .i64 x7.2)))]) (Ωm := fun g => []) ?_ (fun g8 => ?_)
      · clear h
        have h := hx7
        clear hx7
        refine Tr.cond (Opd.tmp rfl) (fun hc => ?_) (fun hc => ?_)
        · replace h := bif_t hc h
          refine Tr.region ?_
          refine RegL.pure (p := (pEq (.int .i64 (w64 ((w64 (v3 + v4)).tdiv (2 : Int)))))) rfl rfl rfl (J_move rfl (Opd.tmp rfl)) ?_
          refine RegL.pure (p := (pEq (.int .i64 (w64 ((w64 (v3 + v4)).tdiv (2 : Int)))))) rfl rfl rfl (J_assign rfl (Opd.tmp rfl)) ?_
          refine RegL.nil ?_
          replace h := Option.some.inj h; subst h
          exact Ct.mid () rfl ⟨rfl, rfl, rfl, trivial⟩
        · replace h := bif_f hc h
          refine Tr.region ?_
          refine RegL.pure (p := (pEq (.int .i64 (w64 ((w64 (v3 + v4)).tdiv (2 : Int)))))) rfl rfl rfl (J_move rfl (Opd.tmp rfl)) ?_
          refine RegL.pure (p := (pEq (.int .i64 (w64 ((w64 ((w64 (v3 + v4)).tdiv (2 : Int))) + (1 : Int)))))) rfl rfl rfl (J_bin rfl (Opd.tmp rfl) Opd.con B_add) ?_
          refine RegL.pure (p := (pEq (.int .i64 (w64 ((w64 ((w64 (v3 + v4)).tdiv (2 : Int))) + (1 : Int)))))) rfl rfl rfl (J_assign rfl (Opd.tmp rfl)) ?_
          refine RegL.nil ?_
          replace h := Option.some.inj h; subst h
          exact Ct.mid () rfl ⟨rfl, rfl, rfl, trivial⟩
      · clear hx7
        refine Ct.blk_normal ?_
        replace h := Option.some.inj h; subst h
        exact Ct.again () rfl ⟨rfl, rfl, rfl, trivial⟩
    · replace h := bif_f hc h
      refine Tr.exit ?_
      refine Ct.then_exit ?_
      replace h := map_some h; obtain ⟨r1, h, rfl⟩ := h
      refine Ct.out_exit fun e => ?_
      subst e
      refine Ct.blk_exit ?_
      replace h := Option.some.inj h; subst h
      exact Ct.mid () rfl ⟨rfl, trivial⟩
  · clear hx1
    refine Ct.then_tr ?_
    refine Tr.weak (Γ' := [(3, (pEq (.int .i64 x1)))]) ⟨rfl, trivial⟩ ?_
    refine Tr.seq ?_
    refine Tr.region ?_
    refine RegL.pure (p := (pEq (.int .i64 x1))) rfl rfl rfl (J_move rfl (Opd.tmp rfl)) ?_
    refine RegL.pure (p := (pEq (.int .i64 x1))) rfl rfl rfl (J_assign rfl (Opd.tmp rfl)) ?_
    refine RegL.nil ?_
    refine Ct.then_tr ?_
    refine Tr.weak (Γ' := [(2, (pEq (.int .i64 x1)))]) ⟨rfl, trivial⟩ ?_
    refine Tr.ret ?_
    replace h := Option.some.inj h; subst h
    exact Ct.retH1 (Ωx := []) () rfl (RvOk.tmp rfl) rfl

theorem c_spec_l02Part {v_0 : Int} {r : Int} (h : m_spec_l02Part v_0 = some r) : CallJ Tryd.prog 82 [(pEq (.int .i64 v_0))] (pEq (.int .i64 r)) := by
  unfold m_spec_l02Part at h
  refine CallJ.enterH Tryd.func82 rfl Tryd.ntmps82 rfl fun W I0 H => ?_
  refine Tr.weak (Γ' := [(0, (pEq (.int .i64 v_0)))]) ⟨rfl, trivial⟩ ?_
  refine Tr.seq ?_
  refine Tr.region ?_
  refine RegL.pure (p := (pEq (.int .i64 (0 : Int)))) rfl rfl rfl (J_assign rfl Opd.con) ?_
  refine RegL.nil ?_
  refine Ct.then_tr ?_
  refine Tr.weak (Γ' := [(0, (pEq (.int .i64 v_0)))]) ⟨rfl, trivial⟩ ?_
  refine Tr.seq ?_
  refine Tr.seq ?_
  refine Tr.region ?_
  refine RegL.pure (p := (pEq (.int .i64 v_0))) rfl rfl rfl (J_move rfl (Opd.tmp rfl)) ?_
  refine RegL.pure (p := (pEq (.bool (decide (v_0 < (-90000 : Int)))))) rfl rfl rfl (J_bin rfl (Opd.tmp rfl) Opd.con B_lss) ?_
  refine RegL.nil ?_
  refine Ct.then_tr ?_
  refine Tr.weak (Γ' := [(0, (pEq (.int .i64 v_0))), (4, (pEq (.bool (decide (v_0 < (-90000 : Int))))))]) ⟨rfl, rfl, trivial⟩ ?_
  refine Tr.cond (Opd.tmp rfl) (fun hc => ?_) (fun hc => ?_)
  · replace h := bif_t hc h
    refine Tr.seq ?_
    refine Tr.region ?_
    refine RegL.pure (p := (pEq (.int .i64 (0 : Int)))) rfl rfl rfl (J_assign rfl Opd.con) ?_
    refine RegL.nil ?_
    refine Ct.then_tr ?_
    refine Tr.weak (Γ' := [(2, (pEq (.int .i64 (0 : Int))))]) ⟨rfl, trivial⟩ ?_
    refine Tr.ret ?_
    refine Ct.then_ret ?_
    replace h := Option.some.inj h; subst h
    exact Ct.retH1 (Ωx := []) () rfl (RvOk.tmp rfl) rfl
  · replace h := bif_f hc h
    refine Tr.skip ?_
    refine Ct.then_tr ?_
    refine Tr.weak (Γ' := [(0, (pEq (.int .i64 v_0)))]) ⟨rfl, trivial⟩ ?_
    refine Tr.seq ?_
    refine Tr.region ?_
    refine RegL.pure (p := (pEq (.int .i64 v_0))) rfl rfl rfl (J_move rfl (Opd.tmp rfl)) ?_
    refine RegL.pure (p := (pEq (.int .i64 (w64 ((90000 : Int) + v_0))))) rfl rfl rfl (J_bin rfl Opd.con (Opd.tmp rfl) B_add) ?_
    replace h := bind_some h; obtain ⟨x1, hx1, h⟩ := h
    refine RegL.pure (p := (pEq (.int .i64 x1))) rfl rfl rfl (J_call rfl Tryd.call108 (c_spec_l02Pow hx1) (Opds.cons (Opd.tmp rfl) Opds.nil)) ?_
    refine RegL.pure (p := (pEq (.int .i64 x1))) rfl rfl rfl (J_assign rfl (Opd.tmp rfl)) ?_
    refine RegL.nil ?_
    refine Ct.then_tr ?_
    refine Tr.weak (Γ' := [(2, (pEq (.int .i64 x1)))]) ⟨rfl, trivial⟩ ?_
    refine Tr.ret ?_
    replace h := Option.some.inj h; subst h
    exact Ct.retH1 (Ωx := []) () rfl (RvOk.tmp rfl) rfl

theorem c_spec_l02Sum {list_0 : (List Int)} {r : Int} (h : m_spec_l02Sum list_0 = some r) : CallJ Tryd.prog 70 [(pSl 1 (cK .i64) list_0)] (pEq (.int .i64 r)) := by
  unfold m_spec_l02Sum at h
  refine CallJ.enterH Tryd.func70 rfl Tryd.ntmps70 rfl fun W I0 H => ?_
  refine Tr.weak (Γ' := [(0, (pSl 1 (cK .i64) list_0))]) ⟨rfl, trivial⟩ ?_
  refine Tr.seq ?_
  refine Tr.region ?_
  refine RegL.pure (p := (pEq (.int .i64 (0 : Int)))) rfl rfl rfl (J_assign rfl Opd.con) ?_
  refine RegL.nil ?_
  refine Ct.then_tr ?_
  refine Tr.weak (Γ' := [(0, (pSl 1 (cK .i64) list_0))]) ⟨rfl, trivial⟩ ?_
  refine Tr.seq ?_
  refine Tr.region ?_
  refine RegL.pure (p := (pSl 1 (cK .i64) list_0)) rfl rfl rfl (J_move rfl (Opd.tmp rfl)) ?_
  replace h := bind_some h; obtain ⟨x1, hx1, h⟩ := h
  refine RegL.pure (p := (pPtr ((cK .i64) x1))) rfl rfl rfl (J_idx rfl Tryd.underlying22 sz2 (Opd.tmp rfl) Opd.con hx1) ?_
  refine RegL.pure (p := (pEq (.int .i64 x1))) rfl rfl rfl (J_load rfl Tryd.isAgg2 (Opd.tmp rfl)) ?_
  refine RegL.pure (p := (pEq (.int .i64 x1))) rfl rfl rfl (J_assign rfl (Opd.tmp rfl)) ?_
  refine RegL.nil ?_
  refine Ct.then_tr ?_
  refine Tr.weak (Γ' := [(0, (pSl 1 (cK .i64) list_0)), (3, (pEq (.int .i64 x1)))]) ⟨rfl, rfl, trivial⟩ ?_
  refine Tr.seq ?_
  refine Tr.seq ?_
  refine Tr.region ?_
  refine RegL.pure (p := (pEq (.int .i64 (1 : Int)))) rfl rfl rfl (J_assign rfl Opd.con) ?_
  refine RegL.nil ?_
  refine Ct.then_tr ?_
  refine Tr.weak (Γ' := [(0, (pSl 1 (cK .i64) list_0)), (3, (pEq (.int .i64 x1))), (4, (pEq (.int .i64 (1 : Int))))]) ⟨rfl, rfl, rfl, trivial⟩ ?_
  replace h := bind_some h; obtain ⟨x2, hx2, h⟩ := h
  refine Tr.cut (γ := Unit) (Γm := fun g => [(0, (pSl 1 (cK .i64) list_0)), (3, (pEq (.int .i64 x2)))]) (Ωm := fun g => []) ?_ (fun g9 => ?_)
  · clear h
    have h := hx2
    clear hx2
    refine Tr.block ?_
    refine Tr.weak (Γ' := [(0, (pSl 1 (cK .i64) list_0)), (3, (pEq (.int .i64 x1))), (4, (pEq (.int .i64 (1 : Int))))]) ⟨rfl, rfl, rfl, trivial⟩ ?_
    refine Tr.loop (γ := Unit) (σ := (Int × Int)) (Γσ := fun s g => [(0, (pSl 1 (cK .i64) list_0)), (3, (pEq (.int .i64 s.1))), (4, (pEq (.int .i64 s.2)))]) (Ωσ := fun s g => []) (g := ()) h ?_
    clear h
    rintro ⟨v4, v5⟩ g6 t h
    replace h : m_spec_l02Sum_B3 list_0 v4 v5 = some t := h
    unfold m_spec_l02Sum_B3 at h
    refine Tr.weakO (Γ' := [(0, (pSl 1 (cK .i64) list_0)), (3, (pEq (.int .i64 v4))), (4, (pEq (.int .i64 v5)))]) (Ω' := []) rfl ⟨rfl, rfl, rfl, trivial⟩ ?_
    refine Tr.seq ?_
    refine Tr.seq ?_
    refine Tr.region ?_
    refine RegL.pure (p := (pEq (.int .i64 v5))) rfl rfl rfl (J_move rfl (Opd.tmp rfl)) ?_
    refine RegL.pure (p := (pSl 1 (cK .i64) list_0)) rfl rfl rfl (J_move rfl (Opd.tmp rfl)) ?_
    refine RegL.pure (p := (pEq (.int .i64 (list_0.length : Int)))) rfl rfl rfl (J_len rfl Tryd.underlying22 (Opd.tmp rfl) rfl) ?_
    refine RegL.pure (p := (pEq (.bool (decide (v5 < (list_0.length : Int)))))) rfl rfl rfl (J_bin rfl (Opd.tmp rfl) (Opd.tmp rfl) B_lss) ?_
    refine RegL.nil ?_
    refine Ct.then_tr ?_
    refine Tr.weak (Γ' := [(0, (pSl 1 (cK .i64) list_0)), (3, (pEq (.int .i64 v4))), (4, (pEq (.int .i64 v5))), (13, (pEq (.bool (decide (v5 < (list_0.length : Int))))))]) ⟨rfl, rfl, rfl, rfl, trivial⟩ ?_
    refine Tr.cond (Opd.tmp rfl) (fun hc => ?_) (fun hc => ?_)
    · replace h := bif_t hc h
      refine Tr.skip ?_
      refine Ct.then_tr ?_
      refine Tr.weak (Γ' := [(0, (pSl 1 (cK .i64) list_0)), (3, (pEq (.int .i64 v4))), (4, (pEq (.int .i64 v5)))]) ⟨rfl, rfl, rfl, trivial⟩ ?_
      refine Tr.seq ?_
      refine Tr.block ?_
      refine Tr.region ?_
      refine RegL.pure (p := (pEq (.int .i64 v4))) rfl rfl rfl (J_move rfl (Opd.tmp rfl)) ?_
      refine RegL.pure (p := (pSl 1 (cK .i64) list_0)) rfl rfl rfl (J_move rfl (Opd.tmp rfl)) ?_
      refine RegL.pure (p := (pEq (.int .i64 v5))) rfl rfl rfl (J_move rfl (Opd.tmp rfl)) ?_
      replace h := bind_some h; obtain ⟨x7, hx7, h⟩ := h
      refine RegL.pure (p := (pPtr ((cK .i64) x7))) rfl rfl rfl (J_idx rfl Tryd.underlying22 sz2 (Opd.tmp rfl) (Opd.tmp rfl) hx7) ?_
      refine RegL.pure (p := (pEq (.int .i64 x7))) rfl rfl rfl (J_load rfl Tryd.isAgg2 (Opd.tmp rfl)) ?_
      replace h := bind_some h; obtain ⟨x8, hx8, h⟩ := h
      refine RegL.pure (p := (pEq (.int .i64 x8))) rfl rfl rfl (J_call rfl Tryd.call56 (c_spec_l00Max hx8) (Opds.cons (Opd.tmp rfl) (Opds.cons (Opd.tmp rfl) Opds.nil))) ?_
      refine RegL.pure (p := (pEq (.int .i64 x8))) rfl rfl rfl (J_assign rfl (Opd.tmp rfl)) ?_
      refine RegL.nil ?_
      refine Ct.blk_normal ?_
      refine Ct.then_tr ?_
      refine Tr.weak (Γ' := [(0, (pSl 1 (cK .i64) list_0)), (3, (pEq (.int .i64 x8))), (4, (pEq (.int .i64 v5)))]) ⟨rfl, rfl, rfl, trivial⟩ ?_
      refine Tr.region ?_
      refine RegL.pure (p := (pEq (.int .i64 v5))) rfl rfl rfl (J_move rfl (Opd.tmp rfl)) ?_
      refine RegL.pure (p := (pEq (.int .i64 (w64 (v5 + (1 : Int)))))) rfl rfl rfl (J_bin rfl (Opd.tmp rfl) Opd.con B_add) ?_
      refine RegL.pure (p := (pEq (.int .i64 (w64 (v5 + (1 : Int)))))) rfl rfl rfl (J_assign rfl (Opd.tmp rfl)) ?_
      refine RegL.nil ?_
      replace h := Option.some.inj h; subst h
      exact Ct.again () rfl ⟨rfl, rfl, rfl, trivial⟩
    · replace h := bif_f hc h
      refine Tr.exit ?_
      refine Ct.then_exit ?_
      replace h := map_some h; obtain ⟨r1, h, rfl⟩ := h
      refine Ct.out_exit fun e => ?_
      subst e
      refine Ct.blk_exit ?_
      replace h := Option.some.inj h; subst h
      exact Ct.mid () rfl ⟨rfl, rfl, trivial⟩
  · clear hx2
    refine Ct.then_tr ?_
    refine Tr.weak (Γ' := [(0, (pSl 1 (cK .i64) list_0)), (3, (pEq (.int .i64 x2)))]) ⟨rfl, rfl, trivial⟩ ?_
    refine Tr.seq ?_
    refine Tr.region ?_
    refine RegL.pure (p := (pEq (.int .i64 (0 : Int)))) rfl rfl rfl (J_assign rfl Opd.con) ?_
    refine RegL.nil ?_
    refine Ct.then_tr ?_
    refine Tr.weak (Γ' := [(0, (pSl 1 (cK .i64) list_0)), (3, (pEq (.int .i64 x2))), (5, (pEq (.int .i64 (0 : Int))))]) ⟨rfl, rfl, rfl, trivial⟩ ?_
    refine Tr.seq ?_
    refine Tr.seq ?_
    refine Tr.region ?_
    refine RegL.pure (p := (pEq (.int .i64 (0 : Int)))) rfl rfl rfl (J_assign rfl Opd.con) ?_
    refine RegL.nil ?_
    refine Ct.then_tr ?_
    refine Tr.weak (Γ' := [(0, (pSl 1 (cK .i64) list_0)), (3, (pEq (.int .i64 x2))), (5, (pEq (.int .i64 (0 : Int)))), (6, (pEq (.int .i64 (0 : Int))))]) ⟨rfl, rfl, rfl, rfl, trivial⟩ ?_
    replace h := bind_some h; obtain ⟨x10, hx10, h⟩ := h
    refine Tr.cut (γ := Unit) (Γm := fun g => [(3, (pEq (.int .i64 x2))), (5, (pEq (.int .i64 x10)))]) (Ωm := fun g => []) ?_ (fun g17 => ?_)
    · clear h
      have h := hx10
      clear hx10
      refine Tr.block ?_
      refine Tr.weak (Γ' := [(0, (pSl 1 (cK .i64) list_0)), (3, (pEq (.int .i64 x2))), (5, (pEq (.int .i64 (0 : Int)))), (6, (pEq (.int .i64 (0 : Int))))]) ⟨rfl, rfl, rfl, rfl, trivial⟩ ?_
      refine Tr.loop (γ := Unit) (σ := (Int × Int)) (Γσ := fun s g => [(0, (pSl 1 (cK .i64) list_0)), (3, (pEq (.int .i64 x2))), (5, (pEq (.int .i64 s.1))), (6, (pEq (.int .i64 s.2)))]) (Ωσ := fun s g => []) (g := ()) h ?_
      clear h
      rintro ⟨v12, v13⟩ g14 t h
      replace h : m_spec_l02Sum_B11 list_0 x2 v12 v13 = some t := h
      unfold m_spec_l02Sum_B11 at h
      refine Tr.weakO (Γ' := [(0, (pSl 1 (cK .i64) list_0)), (3, (pEq (.int .i64 x2))), (5, (pEq (.int .i64 v12))), (6, (pEq (.int .i64 v13)))]) (Ω' := []) rfl ⟨rfl, rfl, rfl, rfl, trivial⟩ ?_
      refine Tr.seq ?_
      refine Tr.seq ?_
      refine Tr.region ?_
      refine RegL.pure (p := (pEq (.int .i64 v13))) rfl rfl rfl (J_move rfl (Opd.tmp rfl)) ?_
      refine RegL.pure (p := (pSl 1 (cK .i64) list_0)) rfl rfl rfl (J_move rfl (Opd.tmp rfl)) ?_
      refine RegL.pure (p := (pEq (.int .i64 (list_0.length : Int)))) rfl rfl rfl (J_len rfl Tryd.underlying22 (Opd.tmp rfl) rfl) ?_
      refine RegL.pure (p := (pEq (.bool (decide (v13 < (list_0.length : Int)))))) rfl rfl rfl (J_bin rfl (Opd.tmp rfl) (Opd.tmp rfl) B_lss) ?_
      refine RegL.nil ?_
      refine Ct.then_tr ?_
      refine Tr.weak (Γ' := [(0, (pSl 1 (cK .i64) list_0)), (3, (pEq (.int .i64 x2))), (5, (pEq (.int .i64 v12))), (6, (pEq (.int .i64 v13))), (25, (pEq (.bool (decide (v13 < (list_0.length : Int))))))]) ⟨rfl, rfl, rfl, rfl, rfl, trivial⟩ ?_
      refine Tr.cond (Opd.tmp rfl) (fun hc => ?_) (fun hc => ?_)
      · replace h := bif_t hc h
        refine Tr.skip ?_
        refine Ct.then_tr ?_
        refine Tr.weak (Γ' := [(0, (pSl 1 (cK .i64) list_0)), (3, (pEq (.int .i64 x2))), (5, (pEq (.int .i64 v12))), (6, (pEq (.int .i64 v13)))]) ⟨rfl, rfl, rfl, rfl, trivial⟩ ?_
        refine Tr.seq ?_
        refine Tr.block ?_
        refine Tr.region ?_
        refine RegL.pure (p := (pEq (.int .i64 v12))) rfl rfl rfl (J_move rfl (Opd.tmp rfl)) ?_
        refine RegL.pure (p := (pSl 1 (cK .i64) list_0)) rfl rfl rfl (J_move rfl (Opd.tmp rfl)) ?_
        refine RegL.pure (p := (pEq (.int .i64 v13))) rfl rfl rfl (J_move rfl (Opd.tmp rfl)) ?_
        replace h := bind_some h; obtain ⟨x15, hx15, h⟩ := h
        refine RegL.pure (p := (pPtr ((cK .i64) x15))) rfl rfl rfl (J_idx rfl Tryd.underlying22 sz2 (Opd.tmp rfl) (Opd.tmp rfl) hx15) ?_
        refine RegL.pure (p := (pEq (.int .i64 x15))) rfl rfl rfl (J_load rfl Tryd.isAgg2 (Opd.tmp rfl)) ?_
        refine RegL.pure (p := (pEq (.int .i64 x2))) rfl rfl rfl (J_move rfl (Opd.tmp rfl)) ?_
        refine RegL.pure (p := (pEq (.int .i64 (w64 (x15 - x2))))) rfl rfl rfl (J_bin rfl (Opd.tmp rfl) (Opd.tmp rfl) B_sub) ?_
        replace h := bind_some h; obtain ⟨x16, hx16, h⟩ := h
        refine RegL.pure (p := (pEq (.int .i64 x16))) rfl rfl rfl (J_call rfl Tryd.call82 (c_spec_l02Part hx16) (Opds.cons (Opd.tmp rfl) Opds.nil)) ?_
        refine RegL.pure (p := (pEq (.int .i64 (w64 (v12 + x16))))) rfl rfl rfl (J_bin rfl (Opd.tmp rfl) (Opd.tmp rfl) B_add) ?_
        refine RegL.pure (p := (pEq (.int .i64 (w64 (v12 + x16))))) rfl rfl rfl (J_assign rfl (Opd.tmp rfl)) ?_
        refine RegL.nil ?_
        refine Ct.blk_normal ?_
        refine Ct.then_tr ?_
        refine Tr.weak (Γ' := [(0, (pSl 1 (cK .i64) list_0)), (3, (pEq (.int .i64 x2))), (5, (pEq (.int .i64 (w64 (v12 + x16))))), (6, (pEq (.int .i64 v13)))]) ⟨rfl, rfl, rfl, rfl, trivial⟩ ?_
        refine Tr.region ?_
        refine RegL.pure (p := (pEq (.int .i64 v13))) rfl rfl rfl (J_move rfl (Opd.tmp rfl)) ?_
        refine RegL.pure (p := (pEq (.int .i64 (w64 (v13 + (1 : Int)))))) rfl rfl rfl (J_bin rfl (Opd.tmp rfl) Opd.con B_add) ?_
        refine RegL.pure (p := (pEq (.int .i64 (w64 (v13 + (1 : Int)))))) rfl rfl rfl (J_assign rfl (Opd.tmp rfl)) ?_
        refine RegL.nil ?_
        replace h := Option.some.inj h; subst h
        exact Ct.again () rfl ⟨rfl, rfl, rfl, rfl, trivial⟩
      · replace h := bif_f hc h
        refine Tr.exit ?_
        refine Ct.then_exit ?_
        replace h := map_some h; obtain ⟨r1, h, rfl⟩ := h
        refine Ct.out_exit fun e => ?_
        subst e
        refine Ct.blk_exit ?_
        replace h := Option.some.inj h; subst h
        exact Ct.mid () rfl ⟨rfl, rfl, trivial⟩
    · clear hx10
      refine Ct.then_tr ?_
      refine Tr.weak (Γ' := [(3, (pEq (.int .i64 x2))), (5, (pEq (.int .i64 x10)))]) ⟨rfl, rfl, trivial⟩ ?_
      refine Tr.seq ?_
      refine Tr.region ?_
      refine RegL.pure (p := (pEq (.int .i64 x2))) rfl rfl rfl (J_move rfl (Opd.tmp rfl)) ?_
      refine RegL.pure (p := (pEq (.int .i64 (w64 (x2 - (90000 : Int)))))) rfl rfl rfl (J_bin rfl (Opd.tmp rfl) Opd.con B_sub) ?_
      refine RegL.pure (p := (pEq (.int .i64 x10))) rfl rfl rfl (J_move rfl (Opd.tmp rfl)) ?_
      replace h := bind_some h; obtain ⟨x18, hx18, h⟩ := h
      refine RegL.pure (p := (pEq (.int .i64 x18))) rfl rfl rfl (J_call rfl Tryd.call83 (c_spec_l02Log hx18) (Opds.cons (Opd.tmp rfl) Opds.nil)) ?_
      refine RegL.pure (p := (pEq (.int .i64 (w64 ((w64 (x2 - (90000 : Int))) + x18))))) rfl rfl rfl (J_bin rfl (Opd.tmp rfl) (Opd.tmp rfl) B_add) ?_
      refine RegL.pure (p := (pEq (.int .i64 (w64 ((w64 (x2 - (90000 : Int))) + x18))))) rfl rfl rfl (J_assign rfl (Opd.tmp rfl)) ?_
      refine RegL.nil ?_
      refine Ct.then_tr ?_
      refine Tr.weak (Γ' := [(2, (pEq (.int .i64 (w64 ((w64 (x2 - (90000 : Int))) + x18)))))]) ⟨rfl, trivial⟩ ?_
      refine Tr.ret ?_
      replace h := Option.some.inj h; subst h
      exact Ct.retH1 (Ωx := []) () rfl (RvOk.tmp rfl) rfl

theorem c_spec_l00Min {a_0 : Int} {b_1 : Int} {r : Int} (h : m_spec_l00Min a_0 b_1 = some r) : CallJ Tryd.prog 69 [(pEq (.int .i64 a_0)), (pEq (.int .i64 b_1))] (pEq (.int .i64 r)) := by
  unfold m_spec_l00Min at h
  refine CallJ.enterH Tryd.func69 rfl Tryd.ntmps69 rfl fun W I0 H => ?_
  refine Tr.weak (Γ' := [(0, (pEq (.int .i64 a_0))), (1, (pEq (.int .i64 b_1)))]) ⟨rfl, rfl, trivial⟩ ?_
  refine Tr.seq ?_
  refine Tr.region ?_
  refine RegL.pure (p := (pEq (.int .i64 (0 : Int)))) rfl rfl rfl (J_assign rfl Opd.con) ?_
  refine RegL.nil ?_
  refine Ct.then_tr ?_
  refine Tr.weak (Γ' := [(0, (pEq (.int .i64 a_0))), (1, (pEq (.int .i64 b_1)))]) ⟨rfl, rfl, trivial⟩ ?_
  refine Tr.seq ?_
  refine Tr.seq ?_
  refine Tr.region ?_
  refine RegL.pure (p := (pEq (.int .i64 a_0))) rfl rfl rfl (J_move rfl (Opd.tmp rfl)) ?_
  refine RegL.pure (p := (pEq (.int .i64 b_1))) rfl rfl rfl (J_move rfl (Opd.tmp rfl)) ?_
  refine RegL.pure (p := (pEq (.bool (decide (a_0 < b_1))))) rfl rfl rfl (J_bin rfl (Opd.tmp rfl) (Opd.tmp rfl) B_lss) ?_
  refine RegL.nil ?_
  refine Ct.then_tr ?_
  refine Tr.weak (Γ' := [(0, (pEq (.int .i64 a_0))), (1, (pEq (.int .i64 b_1))), (7, (pEq (.bool (decide (a_0 < b_1)))))]) ⟨rfl, rfl, rfl, trivial⟩ ?_
  refine Tr.cond (Opd.tmp rfl) (fun hc => ?_) (fun hc => ?_)
  · replace h := bif_t hc h
    refine Tr.seq ?_
    refine Tr.region ?_
    refine RegL.pure (p := (pEq (.int .i64 a_0))) rfl rfl rfl (J_move rfl (Opd.tmp rfl)) ?_
    refine RegL.pure (p := (pEq (.int .i64 a_0))) rfl rfl rfl (J_assign rfl (Opd.tmp rfl)) ?_
    refine RegL.nil ?_
    refine Ct.then_tr ?_
    refine Tr.weak (Γ' := [(4, (pEq (.int .i64 a_0)))]) ⟨rfl, trivial⟩ ?_
    refine Tr.ret ?_
    refine Ct.then_ret ?_
    replace h := Option.some.inj h; subst h
    exact Ct.retH1 (Ωx := []) () rfl (RvOk.tmp rfl) rfl
  · replace h := bif_f hc h
    refine Tr.skip ?_
    refine Ct.then_tr ?_
    refine Tr.weak (Γ' := [(1, (pEq (.int .i64 b_1)))]) ⟨rfl, trivial⟩ ?_
    refine Tr.seq ?_
    refine Tr.region ?_
    refine RegL.pure (p := (pEq (.int .i64 b_1))) rfl rfl rfl (J_move rfl (Opd.tmp rfl)) ?_
    refine RegL.pure (p := (pEq (.int .i64 b_1))) rfl rfl rfl (J_assign rfl (Opd.tmp rfl)) ?_
    refine RegL.nil ?_
    refine Ct.then_tr ?_
    refine Tr.weak (Γ' := [(4, (pEq (.int .i64 b_1)))]) ⟨rfl, trivial⟩ ?_
    refine Tr.ret ?_
    replace h := Option.some.inj h; subst h
    exact Ct.retH1 (Ωx := []) () rfl (RvOk.tmp rfl) rfl

theorem c_spec_l16Ratio {a_0 : (List Int)} {a_1 : (List Int)} {a_2 : (List Int)} {a_3 : Int} {r : Int} (h : m_spec_l16Ratio a_0 a_1 a_2 a_3 = some r) : CallJ Tryd.prog 39 [(pSl 1 (cK .i64) a_0), (pSl 1 (cK .i64) a_1), (pSl 1 (cK .i64) a_2), (pEq (.int .i64 a_3))] (pEq (.int .i64 r)) := by
  unfold m_spec_l16Ratio at h
  refine CallJ.enterH Tryd.func39 rfl Tryd.ntmps39 rfl fun W I0 H => ?_
  refine Tr.weak (Γ' := [(0, (pSl 1 (cK .i64) a_0)), (1, (pSl 1 (cK .i64) a_1)), (2, (pSl 1 (cK .i64) a_2)), (3, (pEq (.int .i64 a_3)))]) ⟨rfl, rfl, rfl, rfl, trivial⟩ ?_
  refine Tr.seq ?_
  refine Tr.region ?_
  refine RegL.pure (p := (pEq (.int .i64 (0 : Int)))) rfl rfl rfl (J_assign rfl Opd.con) ?_
  refine RegL.nil ?_
  refine Ct.then_tr ?_
  refine Tr.weak (Γ' := [(0, (pSl 1 (cK .i64) a_0)), (1, (pSl 1 (cK .i64) a_1)), (2, (pSl 1 (cK .i64) a_2)), (3, (pEq (.int .i64 a_3)))]) ⟨rfl, rfl, rfl, rfl, trivial⟩ ?_
  refine Tr.seq ?_
  refine Tr.region ?_
  refine RegL.step (γ := Option Addr) (p := fun a => pEq (.slice a 0 0)) (Ω' := fun a => [oSl 2 1 (cK .i64) a 0 0 ([] : (List Int))]) rfl rfl rfl (M_buildSlice (qss := []) rfl Tryd.underlying22 el2 rfl Parts.nil rfl rfl) fun o2 => ?_
  refine RegL.pure (p := (pEq (.slice o2 0 0))) rfl rfl rfl (J_assign rfl (Opd.tmp rfl)) ?_
  refine RegL.nil ?_
  refine Ct.then_tr ?_
  refine Tr.weak (Γ' := [(0, (pSl 1 (cK .i64) a_0)), (1, (pSl 1 (cK .i64) a_1)), (2, (pSl 1 (cK .i64) a_2)), (3, (pEq (.int .i64 a_3))), (9, (pEq (.slice o2 0 0)))]) ⟨rfl, rfl, rfl, rfl, rfl, trivial⟩ ?_
  refine Tr.seq ?_
  refine Tr.seq ?_
  refine Tr.region ?_
  refine RegL.pure (p := (pEq (.int .i64 (0 : Int)))) rfl rfl rfl (J_assign rfl Opd.con) ?_
  refine RegL.nil ?_
  refine Ct.then_tr ?_
  refine Tr.weak (Γ' := [(0, (pSl 1 (cK .i64) a_0)), (1, (pSl 1 (cK .i64) a_1)), (2, (pSl 1 (cK .i64) a_2)), (3, (pEq (.int .i64 a_3))), (9, (pEq (.slice o2 0 0))), (10, (pEq (.int .i64 (0 : Int))))]) ⟨rfl, rfl, rfl, rfl, rfl, rfl, trivial⟩ ?_
  replace h := bind_some h; obtain ⟨x3, hx3, h⟩ := h
  refine Tr.cut (γ := G3) (Γm := fun g => [(0, (pSl 1 (cK .i64) a_0)), (3, (pEq (.int .i64 a_3))), (9, (pEq (.slice g.1 g.2.1 g.2.2)))]) (Ωm := fun g => [oSl 2 1 (cK .i64) g.1 g.2.1 g.2.2 x3]) ?_ (fun g24 => ?_)
  · clear h
    have h := hx3
    clear hx3
    refine Tr.block ?_
    refine Tr.weak (Γ' := [(0, (pSl 1 (cK .i64) a_0)), (1, (pSl 1 (cK .i64) a_1)), (2, (pSl 1 (cK .i64) a_2)), (3, (pEq (.int .i64 a_3))), (9, (pEq (.slice o2 0 0))), (10, (pEq (.int .i64 (0 : Int))))]) ⟨rfl, rfl, rfl, rfl, rfl, rfl, trivial⟩ ?_
    refine Tr.loop (γ := G3) (σ := (Int × (List Int))) (Γσ := fun s g => [(0, (pSl 1 (cK .i64) a_0)), (1, (pSl 1 (cK .i64) a_1)), (2, (pSl 1 (cK .i64) a_2)), (3, (pEq (.int .i64 a_3))), (9, (pEq (.slice g.1 g.2.1 g.2.2))), (10, (pEq (.int .i64 s.1)))]) (Ωσ := fun s g => [oSl 2 1 (cK .i64) g.1 g.2.1 g.2.2 s.2]) (g := (o2, 0, 0)) h ?_
    clear h
    rintro ⟨v5, v6⟩ g7 t h
    replace h : m_spec_l16Ratio_B4 a_0 a_1 a_2 a_3 v5 v6 = some t := h
    unfold m_spec_l16Ratio_B4 at h
    refine Tr.weakO (Γ' := [(0, (pSl 1 (cK .i64) a_0)), (1, (pSl 1 (cK .i64) a_1)), (2, (pSl 1 (cK .i64) a_2)), (3, (pEq (.int .i64 a_3))), (9, (pEq (.slice g7.1 g7.2.1 g7.2.2))), (10, (pEq (.int .i64 v5)))]) (Ω' := [oSl 2 1 (cK .i64) g7.1 g7.2.1 g7.2.2 v6]) rfl ⟨rfl, rfl, rfl, rfl, rfl, rfl, trivial⟩ ?_
    refine Tr.seq ?_
    refine Tr.seq ?_
    refine Tr.region ?_
    refine RegL.pure (p := (pEq (.int .i64 v5))) rfl rfl rfl (J_move rfl (Opd.tmp rfl)) ?_
    refine RegL.pure (p := (pSl 1 (cK .i64) a_0)) rfl rfl rfl (J_move rfl (Opd.tmp rfl)) ?_
    refine RegL.pure (p := (pEq (.int .i64 (a_0.length : Int)))) rfl rfl rfl (J_len rfl Tryd.underlying22 (Opd.tmp rfl) rfl) ?_
    refine RegL.pure (p := (pEq (.bool (decide (v5 < (a_0.length : Int)))))) rfl rfl rfl (J_bin rfl (Opd.tmp rfl) (Opd.tmp rfl) B_lss) ?_
    refine RegL.nil ?_
    refine Ct.then_tr ?_
    refine Tr.weak (Γ' := [(0, (pSl 1 (cK .i64) a_0)), (1, (pSl 1 (cK .i64) a_1)), (2, (pSl 1 (cK .i64) a_2)), (3, (pEq (.int .i64 a_3))), (9, (pEq (.slice g7.1 g7.2.1 g7.2.2))), (10, (pEq (.int .i64 v5))), (16, (pEq (.bool (decide (v5 < (a_0.length : Int))))))]) ⟨rfl, rfl, rfl, rfl, rfl, rfl, rfl, trivial⟩ ?_
    refine Tr.cond (Opd.tmp rfl) (fun hc => ?_) (fun hc => ?_)
    · replace h := bif_t hc h
      refine Tr.skip ?_
      refine Ct.then_tr ?_
      refine Tr.weak (Γ' := [(0, (pSl 1 (cK .i64) a_0)), (1, (pSl 1 (cK .i64) a_1)), (2, (pSl 1 (cK .i64) a_2)), (3, (pEq (.int .i64 a_3))), (9, (pEq (.slice g7.1 g7.2.1 g7.2.2))), (10, (pEq (.int .i64 v5)))]) ⟨rfl, rfl, rfl, rfl, rfl, rfl, trivial⟩ ?_
      refine Tr.seq ?_
      replace h := bind_some h; obtain ⟨x8, hx8, h⟩ := h
      refine Tr.cut (γ := G3) (Γm := fun g => [(0, (pSl 1 (cK .i64) a_0)), (1, (pSl 1 (cK .i64) a_1)), (2, (pSl 1 (cK .i64) a_2)), (3, (pEq (.int .i64 a_3))), (9, (pEq (.slice g.1 g.2.1 g.2.2))), (10, (pEq (.int .i64 v5)))]) (Ωm := fun g => [oSl 2 1 (cK .i64) g.1 g.2.1 g.2.2 x8]) ?_ (fun g23 => ?_)
      · clear h
        have h := hx8
        clear hx8
        refine Tr.block ?_
        refine Tr.seq ?_
        refine Tr.seq ?_
        replace h := bind_some h; obtain ⟨x9, hx9, h⟩ := h
        refine Tr.cut (γ := Unit) (Γm := fun g => [(0, (pSl 1 (cK .i64) a_0)), (1, (pSl 1 (cK .i64) a_1)), (2, (pSl 1 (cK .i64) a_2)), (3, (pEq (.int .i64 a_3))), (9, (pEq (.slice g7.1 g7.2.1 g7.2.2))), (10, (pEq (.int .i64 v5))), (28, (pEq (.bool x9)))]) (Ωm := fun g => [oSl 2 1 (cK .i64) g7.1 g7.2.1 g7.2.2 v6]) ?_ (fun g12 => ?_)
        · clear h
          have h := hx9
          clear hx9
          refine Tr.region ?_
          refine RegL.pure (p := (pEq (.int .i64 v5))) rfl rfl rfl (J_move rfl (Opd.tmp rfl)) ?_
          refine RegL.pure (p := (pEq (.int .i64 a_3))) rfl rfl rfl (J_move rfl (Opd.tmp rfl)) ?_
          refine RegL.pure (p := (pEq (.bool (v5 == a_3)))) rfl rfl rfl (J_bin rfl (Opd.tmp rfl) (Opd.tmp rfl) B_eql) ?_
          refine RegL.pure (p := (pEq (.bool (v5 == a_3)))) rfl rfl rfl (J_move rfl (Opd.tmp rfl)) ?_
          rcases Bool.eq_false_or_eq_true (v5 == a_3) with hc10 | hc10
          · replace h := bif_t hc10 h
            refine RegL.skipG rfl rfl rfl hc10 rfl rfl ?_
            refine RegL.skipG rfl rfl rfl hc10 rfl rfl ?_
            refine RegL.skipG rfl rfl rfl hc10 rfl rfl ?_
            refine RegL.skipG rfl rfl rfl hc10 rfl rfl ?_
            refine RegL.skipG rfl rfl rfl hc10 rfl rfl ?_
            refine RegL.pure (p := (pEq (.bool true))) rfl rfl rfl (J_pick rfl (Opd.tmp rfl) (fun _ => Opd.con) (fun hf => absurd (hc10.symm.trans hf) (by decide))) ?_
            refine RegL.nil ?_
            replace h := Option.some.inj h; subst h
            exact Ct.mid () rfl ⟨rfl, rfl, rfl, rfl, rfl, rfl, rfl, trivial⟩
          · replace h := bif_f hc10 h
            refine RegL.pureG (p := (pSl 1 (cK .i64) a_1)) rfl rfl rfl hc10 rfl rfl (J_move rfl (Opd.tmp rfl)) ?_
            refine RegL.pureG (p := (pEq (.int .i64 v5))) rfl rfl rfl hc10 rfl rfl (J_move rfl (Opd.tmp rfl)) ?_
            replace h := bind_some h; obtain ⟨x11, hx11, h⟩ := h
            refine RegL.pureG (p := (pPtr ((cK .i64) x11))) rfl rfl rfl hc10 rfl rfl (J_idx rfl Tryd.underlying22 sz2 (Opd.tmp rfl) (Opd.tmp rfl) hx11) ?_
            refine RegL.pureG (p := (pEq (.int .i64 x11))) rfl rfl rfl hc10 rfl rfl (J_load rfl Tryd.isAgg2 (Opd.tmp rfl)) ?_
            refine RegL.pureG (p := (pEq (.bool (decide (x11 < (0 : Int)))))) rfl rfl rfl hc10 rfl rfl (J_bin rfl (Opd.tmp rfl) Opd.con B_lss) ?_
            refine RegL.pure (p := (pEq (.bool (decide (x11 < (0 : Int)))))) rfl rfl rfl (J_pick rfl (Opd.tmp rfl) (fun hf => absurd (hc10.symm.trans hf) (by decide)) (fun _ => (Opd.tmp rfl))) ?_
            refine RegL.nil ?_
            replace h := Option.some.inj h; subst h
            exact Ct.mid () rfl ⟨rfl, rfl, rfl, rfl, rfl, rfl, rfl, trivial⟩
        · clear hx9
          refine Ct.then_tr ?_
          refine Tr.weak (Γ' := [(0, (pSl 1 (cK .i64) a_0)), (1, (pSl 1 (cK .i64) a_1)), (2, (pSl 1 (cK .i64) a_2)), (3, (pEq (.int .i64 a_3))), (9, (pEq (.slice g7.1 g7.2.1 g7.2.2))), (10, (pEq (.int .i64 v5))), (28, (pEq (.bool x9)))]) ⟨rfl, rfl, rfl, rfl, rfl, rfl, rfl, trivial⟩ ?_
          refine Tr.cond (Opd.tmp rfl) (fun hc => ?_) (fun hc => ?_)
          · replace h := bif_t hc h
            refine Tr.exit ?_
            refine Ct.then_exit ?_
            refine Ct.blk_exit ?_
            replace h := Option.some.inj h; subst h
            exact Ct.mid (g7.1, g7.2.1, g7.2.2) rfl ⟨rfl, rfl, rfl, rfl, rfl, rfl, trivial⟩
          · replace h := bif_f hc h
            refine Tr.skip ?_
            refine Ct.then_tr ?_
            refine Tr.weak (Γ' := [(0, (pSl 1 (cK .i64) a_0)), (1, (pSl 1 (cK .i64) a_1)), (2, (pSl 1 (cK .i64) a_2)), (3, (pEq (.int .i64 a_3))), (9, (pEq (.slice g7.1 g7.2.1 g7.2.2))), (10, (pEq (.int .i64 v5)))]) ⟨rfl, rfl, rfl, rfl, rfl, rfl, trivial⟩ ?_
            refine Tr.seq ?_
            replace h := bind_some h; obtain ⟨x13, hx13, h⟩ := h
            replace h := bind_some h; obtain ⟨x14, hx14, h⟩ := h
            replace h := bind_some h; obtain ⟨x15, hx15, h⟩ := h
            refine Tr.drawD (n := 67) (m := 9) (es := [some (Ent.mk [(1, (pSl 1 (cK .i64) a_1))] (pSl 1 (cK .i64) a_1) true), some (Ent.mk [(10, (pEq (.int .i64 v5)))] (pEq (.int .i64 v5)) true), some (Ent.mk [(29, (pSl 1 (cK .i64) a_1)), (30, (pEq (.int .i64 v5)))] (pPtr ((cK .i64) x13)) true), some (Ent.mk [(31, (pPtr ((cK .i64) x13)))] (pEq (.int .i64 x13)) true), some (Ent.mk [(1, (pSl 1 (cK .i64) a_1))] (pSl 1 (cK .i64) a_1) true), some (Ent.mk [(3, (pEq (.int .i64 a_3)))] (pEq (.int .i64 a_3)) true), some (Ent.mk [(33, (pSl 1 (cK .i64) a_1)), (34, (pEq (.int .i64 a_3)))] (pPtr ((cK .i64) x14)) true), some (Ent.mk [(35, (pPtr ((cK .i64) x14)))] (pEq (.int .i64 x14)) true), some (Ent.mk [(32, (pEq (.int .i64 x13))), (36, (pEq (.int .i64 x14)))] (pEq (.int .i64 x15)) true)]) (rd := [[1], [10], [29, 30], [31], [1], [3], [33, 34], [35], [32, 36]]) rfl hmix (by kernel_rfl) fun hD => ?_
            refine RD.fin (es := [Ent.mk [(1, (pSl 1 (cK .i64) a_1))] (pSl 1 (cK .i64) a_1) true, Ent.mk [(10, (pEq (.int .i64 v5)))] (pEq (.int .i64 v5)) true, Ent.mk [(29, (pSl 1 (cK .i64) a_1)), (30, (pEq (.int .i64 v5)))] (pPtr ((cK .i64) x13)) true, Ent.mk [(31, (pPtr ((cK .i64) x13)))] (pEq (.int .i64 x13)) true, Ent.mk [(1, (pSl 1 (cK .i64) a_1))] (pSl 1 (cK .i64) a_1) true, Ent.mk [(3, (pEq (.int .i64 a_3)))] (pEq (.int .i64 a_3)) true, Ent.mk [(33, (pSl 1 (cK .i64) a_1)), (34, (pEq (.int .i64 a_3)))] (pPtr ((cK .i64) x14)) true, Ent.mk [(35, (pPtr ((cK .i64) x14)))] (pEq (.int .i64 x14)) true, Ent.mk [(32, (pEq (.int .i64 x13))), (36, (pEq (.int .i64 x14)))] (pEq (.int .i64 x15)) true]) (done := []) hD ⟨.inr ⟨(OpJ.w (J_move rfl (Opd.tmp rfl))), ⟨rfl, trivial⟩, rfl, rfl⟩, ⟨.inr ⟨(OpJ.w (J_move rfl (Opd.tmp rfl))), ⟨rfl, trivial⟩, rfl, rfl⟩, ⟨.inr ⟨(OpJ.w (J_idx rfl Tryd.underlying22 sz2 (Opd.tmp rfl) (Opd.tmp rfl) hx13)), ⟨rfl, rfl, trivial⟩, rfl, rfl⟩, ⟨.inr ⟨(OpJ.w (J_load rfl Tryd.isAgg2 (Opd.tmp rfl))), ⟨rfl, trivial⟩, rfl, rfl⟩, ⟨.inr ⟨(OpJ.w (J_move rfl (Opd.tmp rfl))), ⟨rfl, trivial⟩, rfl, rfl⟩, ⟨.inr ⟨(OpJ.w (J_move rfl (Opd.tmp rfl))), ⟨rfl, trivial⟩, rfl, rfl⟩, ⟨.inr ⟨(OpJ.w (J_idx rfl Tryd.underlying22 sz2 (Opd.tmp rfl) (Opd.tmp rfl) hx14)), ⟨rfl, rfl, trivial⟩, rfl, rfl⟩, ⟨.inr ⟨(OpJ.w (J_load rfl Tryd.isAgg2 (Opd.tmp rfl))), ⟨rfl, trivial⟩, rfl, rfl⟩, ⟨.inr ⟨(OpJ.w (J_call rfl Tryd.call68 (c_spec_l16Apart hx15) (Opds.cons (Opd.tmp rfl) (Opds.cons (Opd.tmp rfl) Opds.nil)))), ⟨rfl, rfl, trivial⟩, rfl, rfl⟩, trivial⟩⟩⟩⟩⟩⟩⟩⟩⟩ ?_
            refine RegL.pure (p := (pEq (.int .i64 x15))) rfl rfl rfl (J_assign rfl (Opd.tmp rfl)) ?_
            refine RegL.nil ?_
            refine Ct.then_tr ?_
            refine Tr.weak (Γ' := [(0, (pSl 1 (cK .i64) a_0)), (1, (pSl 1 (cK .i64) a_1)), (2, (pSl 1 (cK .i64) a_2)), (3, (pEq (.int .i64 a_3))), (9, (pEq (.slice g7.1 g7.2.1 g7.2.2))), (10, (pEq (.int .i64 v5))), (11, (pEq (.int .i64 x15)))]) ⟨rfl, rfl, rfl, rfl, rfl, rfl, rfl, trivial⟩ ?_
            refine Tr.seq ?_
            refine Tr.region ?_
            refine RegL.pure (p := (pEq (.int .i64 x15))) rfl rfl rfl (J_move rfl (Opd.tmp rfl)) ?_
            refine RegL.pure (p := (pSl 1 (cK .i64) a_2)) rfl rfl rfl (J_move rfl (Opd.tmp rfl)) ?_
            refine RegL.pure (p := (pEq (.int .i64 (a_2.length : Int)))) rfl rfl rfl (J_len rfl Tryd.underlying22 (Opd.tmp rfl) rfl) ?_
            refine RegL.pure (p := (pEq (.bool (decide (x15 < (a_2.length : Int)))))) rfl rfl rfl (J_bin rfl (Opd.tmp rfl) (Opd.tmp rfl) B_lss) ?_
            refine RegL.nil ?_
            refine Ct.then_tr ?_
            refine Tr.weak (Γ' := [(0, (pSl 1 (cK .i64) a_0)), (1, (pSl 1 (cK .i64) a_1)), (2, (pSl 1 (cK .i64) a_2)), (3, (pEq (.int .i64 a_3))), (9, (pEq (.slice g7.1 g7.2.1 g7.2.2))), (10, (pEq (.int .i64 v5))), (11, (pEq (.int .i64 x15))), (41, (pEq (.bool (decide (x15 < (a_2.length : Int))))))]) ⟨rfl, rfl, rfl, rfl, rfl, rfl, rfl, rfl, trivial⟩ ?_
            replace h := bind_some h; obtain ⟨x16, hx16, h⟩ := h
            refine Tr.cut (γ := G3) (Γm := fun g => [(0, (pSl 1 (cK .i64) a_0)), (1, (pSl 1 (cK .i64) a_1)), (2, (pSl 1 (cK .i64) a_2)), (3, (pEq (.int .i64 a_3))), (9, (pEq (.slice g.1 g.2.1 g.2.2))), (10, (pEq (.int .i64 v5)))]) (Ωm := fun g => [oSl 2 1 (cK .i64) g.1 g.2.1 g.2.2 x16]) ?_ (fun g22 => ?_)
            · clear h
              have h := hx16
              clear hx16
              refine Tr.cond (Opd.tmp rfl) (fun hc => ?_) (fun hc => ?_)
              · replace h := bif_t hc h
                replace h := bind_some h; obtain ⟨x17, hx17, h⟩ := h
                replace h := bind_some h; obtain ⟨x18, hx18, h⟩ := h
                replace h := bind_some h; obtain ⟨x19, hx19, h⟩ := h
                refine Tr.drawD (n := 67) (m := 13) (es := [some (Ent.mk [(9, (pEq (.slice g7.1 g7.2.1 g7.2.2)))] (pEq (.slice g7.1 g7.2.1 g7.2.2)) true), some (Ent.mk [(0, (pSl 1 (cK .i64) a_0))] (pSl 1 (cK .i64) a_0) true), some (Ent.mk [(10, (pEq (.int .i64 v5)))] (pEq (.int .i64 v5)) true), some (Ent.mk [(43, (pSl 1 (cK .i64) a_0)), (44, (pEq (.int .i64 v5)))] (pPtr ((cK .i64) x17)) true), some (Ent.mk [(45, (pPtr ((cK .i64) x17)))] (pEq (.int .i64 x17)) true), some (Ent.mk [(2, (pSl 1 (cK .i64) a_2))] (pSl 1 (cK .i64) a_2) true), some (Ent.mk [(11, (pEq (.int .i64 x15)))] (pEq (.int .i64 x15)) true), some (Ent.mk [(47, (pSl 1 (cK .i64) a_2)), (48, (pEq (.int .i64 x15)))] (pPtr ((cK .i64) x18)) true), some (Ent.mk [(49, (pPtr ((cK .i64) x18)))] (pEq (.int .i64 x18)) true), some (Ent.mk [(46, (pEq (.int .i64 x17))), (50, (pEq (.int .i64 x18)))] (pEq (.int .i64 (w64 (x17 - x18)))) true), some (Ent.mk [(51, (pEq (.int .i64 (w64 (x17 - x18)))))] (pEq (.int .i64 x19)) true), some (Ent.mk [(52, (pEq (.int .i64 x19)))] (pSl 1 (cK .i64) ([x19] : (List Int))) true), none]) (rd := [[9], [0], [10], [43, 44], [45], [2], [11], [47, 48], [49], [46, 50], [51], [52], [42, 53]]) rfl hmix (by kernel_rfl) fun hD => ?_
                replace h := bind_some h; obtain ⟨x20, hx20, h⟩ := h
                refine RD.step hD (es := [some (Ent.mk [(9, (pEq (.slice g7.1 g7.2.1 g7.2.2)))] (pEq (.slice g7.1 g7.2.1 g7.2.2)) true), some (Ent.mk [(0, (pSl 1 (cK .i64) a_0))] (pSl 1 (cK .i64) a_0) true), some (Ent.mk [(10, (pEq (.int .i64 v5)))] (pEq (.int .i64 v5)) true), some (Ent.mk [(43, (pSl 1 (cK .i64) a_0)), (44, (pEq (.int .i64 v5)))] (pPtr ((cK .i64) x17)) true), some (Ent.mk [(45, (pPtr ((cK .i64) x17)))] (pEq (.int .i64 x17)) true), some (Ent.mk [(2, (pSl 1 (cK .i64) a_2))] (pSl 1 (cK .i64) a_2) true), some (Ent.mk [(11, (pEq (.int .i64 x15)))] (pEq (.int .i64 x15)) true), some (Ent.mk [(47, (pSl 1 (cK .i64) a_2)), (48, (pEq (.int .i64 x15)))] (pPtr ((cK .i64) x18)) true), some (Ent.mk [(49, (pPtr ((cK .i64) x18)))] (pEq (.int .i64 x18)) true), some (Ent.mk [(46, (pEq (.int .i64 x17))), (50, (pEq (.int .i64 x18)))] (pEq (.int .i64 (w64 (x17 - x18)))) true), some (Ent.mk [(51, (pEq (.int .i64 (w64 (x17 - x18)))))] (pEq (.int .i64 x19)) true), some (Ent.mk [(52, (pEq (.int .i64 x19)))] (pSl 1 (cK .i64) ([x19] : (List Int))) true), none]) (done := []) (mask := [true, true, true, true, true, true, true, true, true, true, true, true, false]) (γ := Option Addr × Nat) (p := fun g => pEq (.slice g.1 x20.length g.2)) (Ω' := fun g => [oSl 2 1 (cK .i64) g.1 x20.length g.2 x20]) (es' := fun g21 => [some (Ent.mk [(9, (pEq (.slice g7.1 g7.2.1 g7.2.2)))] (pEq (.slice g7.1 g7.2.1 g7.2.2)) true), some (Ent.mk [(0, (pSl 1 (cK .i64) a_0))] (pSl 1 (cK .i64) a_0) true), some (Ent.mk [(10, (pEq (.int .i64 v5)))] (pEq (.int .i64 v5)) true), some (Ent.mk [(43, (pSl 1 (cK .i64) a_0)), (44, (pEq (.int .i64 v5)))] (pPtr ((cK .i64) x17)) true), some (Ent.mk [(45, (pPtr ((cK .i64) x17)))] (pEq (.int .i64 x17)) true), some (Ent.mk [(2, (pSl 1 (cK .i64) a_2))] (pSl 1 (cK .i64) a_2) true), some (Ent.mk [(11, (pEq (.int .i64 x15)))] (pEq (.int .i64 x15)) true), some (Ent.mk [(47, (pSl 1 (cK .i64) a_2)), (48, (pEq (.int .i64 x15)))] (pPtr ((cK .i64) x18)) true), some (Ent.mk [(49, (pPtr ((cK .i64) x18)))] (pEq (.int .i64 x18)) true), some (Ent.mk [(46, (pEq (.int .i64 x17))), (50, (pEq (.int .i64 x18)))] (pEq (.int .i64 (w64 (x17 - x18)))) true), some (Ent.mk [(51, (pEq (.int .i64 (w64 (x17 - x18)))))] (pEq (.int .i64 x19)) true), some (Ent.mk [(52, (pEq (.int .i64 x19)))] (pSl 1 (cK .i64) ([x19] : (List Int))) true), some (Ent.mk [(42, (pEq (.slice g7.1 g7.2.1 g7.2.2))), (53, (pSl 1 (cK .i64) ([x19] : (List Int))))] (pEq (.slice g21.1 x20.length g21.2)) true)]) (Γc := [(42, (pEq (.slice g7.1 g7.2.1 g7.2.2))), (53, (pSl 1 (cK .i64) ([x19] : (List Int))))]) 12 rfl rfl rfl (by kernel_rfl) ⟨.inr ⟨(OpJ.w (J_move rfl (Opd.tmp rfl))), ⟨rfl, trivial⟩, rfl, rfl⟩, ⟨.inr ⟨(OpJ.w (J_move rfl (Opd.tmp rfl))), ⟨rfl, trivial⟩, rfl, rfl⟩, ⟨.inr ⟨(OpJ.w (J_move rfl (Opd.tmp rfl))), ⟨rfl, trivial⟩, rfl, rfl⟩, ⟨.inr ⟨(OpJ.w (J_idx rfl Tryd.underlying22 sz2 (Opd.tmp rfl) (Opd.tmp rfl) hx17)), ⟨rfl, rfl, trivial⟩, rfl, rfl⟩, ⟨.inr ⟨(OpJ.w (J_load rfl Tryd.isAgg2 (Opd.tmp rfl))), ⟨rfl, trivial⟩, rfl, rfl⟩, ⟨.inr ⟨(OpJ.w (J_move rfl (Opd.tmp rfl))), ⟨rfl, trivial⟩, rfl, rfl⟩, ⟨.inr ⟨(OpJ.w (J_move rfl (Opd.tmp rfl))), ⟨rfl, trivial⟩, rfl, rfl⟩, ⟨.inr ⟨(OpJ.w (J_idx rfl Tryd.underlying22 sz2 (Opd.tmp rfl) (Opd.tmp rfl) hx18)), ⟨rfl, rfl, trivial⟩, rfl, rfl⟩, ⟨.inr ⟨(OpJ.w (J_load rfl Tryd.isAgg2 (Opd.tmp rfl))), ⟨rfl, trivial⟩, rfl, rfl⟩, ⟨.inr ⟨(OpJ.w (J_bin rfl (Opd.tmp rfl) (Opd.tmp rfl) B_sub)), ⟨rfl, rfl, trivial⟩, rfl, rfl⟩, ⟨.inr ⟨(OpJ.w (J_call rfl Tryd.call56 (c_spec_l00Max hx19) (Opds.cons Opd.con (Opds.cons (Opd.tmp rfl) Opds.nil)))), ⟨rfl, trivial⟩, rfl, rfl⟩, ⟨.inr ⟨(OpJ.w (J_buildSlice (l := ([x19] : (List Int))) (qss := [(0, (cK .i64) x19)]) rfl Tryd.underlying22 el2 rfl (Parts.cons (Part.one (Opd.tmp rfl) OneC.int) Parts.nil) rfl rfl)), ⟨rfl, trivial⟩, rfl, rfl⟩, trivial⟩⟩⟩⟩⟩⟩⟩⟩⟩⟩⟩⟩ rfl rfl ⟨rfl, rfl, trivial⟩ (fun _ => M_appendI rfl Tryd.underlying22 el2 (Opd.tmp rfl) (Opd.tmp rfl) hx20) (fun g21 => ⟨rfl, ⟨rfl, ⟨rfl, ⟨rfl, ⟨rfl, ⟨rfl, ⟨rfl, ⟨rfl, ⟨rfl, ⟨rfl, ⟨rfl, ⟨rfl, trivial⟩⟩⟩⟩⟩⟩⟩⟩⟩⟩⟩⟩) (fun g21 => rfl) rfl fun g21 => ?_
                refine RD.add 12 0 rfl ?_
                refine RD.add 12 10 rfl ?_
                refine RD.add 12 11 rfl ?_
                refine RD.add 10 9 rfl ?_
                refine RD.add 9 4 rfl ?_
                refine RD.add 9 8 rfl ?_
                refine RD.add 4 3 rfl ?_
                refine RD.add 8 7 rfl ?_
                refine RD.add 3 1 rfl ?_
                refine RD.add 3 2 rfl ?_
                refine RD.add 7 5 rfl ?_
                refine RD.add 7 6 rfl ?_
                refine RD.fin (es := [Ent.mk [(9, (pEq (.slice g7.1 g7.2.1 g7.2.2)))] (pEq (.slice g7.1 g7.2.1 g7.2.2)) true, Ent.mk [(0, (pSl 1 (cK .i64) a_0))] (pSl 1 (cK .i64) a_0) true, Ent.mk [(10, (pEq (.int .i64 v5)))] (pEq (.int .i64 v5)) true, Ent.mk [(43, (pSl 1 (cK .i64) a_0)), (44, (pEq (.int .i64 v5)))] (pPtr ((cK .i64) x17)) true, Ent.mk [(45, (pPtr ((cK .i64) x17)))] (pEq (.int .i64 x17)) true, Ent.mk [(2, (pSl 1 (cK .i64) a_2))] (pSl 1 (cK .i64) a_2) true, Ent.mk [(11, (pEq (.int .i64 x15)))] (pEq (.int .i64 x15)) true, Ent.mk [(47, (pSl 1 (cK .i64) a_2)), (48, (pEq (.int .i64 x15)))] (pPtr ((cK .i64) x18)) true, Ent.mk [(49, (pPtr ((cK .i64) x18)))] (pEq (.int .i64 x18)) true, Ent.mk [(46, (pEq (.int .i64 x17))), (50, (pEq (.int .i64 x18)))] (pEq (.int .i64 (w64 (x17 - x18)))) true, Ent.mk [(51, (pEq (.int .i64 (w64 (x17 - x18)))))] (pEq (.int .i64 x19)) true, Ent.mk [(52, (pEq (.int .i64 x19)))] (pSl 1 (cK .i64) ([x19] : (List Int))) true, Ent.mk [(42, (pEq (.slice g7.1 g7.2.1 g7.2.2))), (53, (pSl 1 (cK .i64) ([x19] : (List Int))))] (pEq (.slice g21.1 x20.length g21.2)) true]) (done := [6, 5, 2, 1, 7, 3, 8, 4, 9, 11, 10, 0, 12]) hD ⟨.inl rfl, ⟨.inl rfl, ⟨.inl rfl, ⟨.inl rfl, ⟨.inl rfl, ⟨.inl rfl, ⟨.inl rfl, ⟨.inl rfl, ⟨.inl rfl, ⟨.inl rfl, ⟨.inl rfl, ⟨.inl rfl, ⟨.inl rfl, trivial⟩⟩⟩⟩⟩⟩⟩⟩⟩⟩⟩⟩⟩ ?_
                refine RegL.pure (p := (pEq (.slice g21.1 x20.length g21.2))) rfl rfl rfl (J_assign rfl (Opd.tmp rfl)) ?_
                refine RegL.nil ?_
                replace h := Option.some.inj h; subst h
                exact Ct.mid (g21.1, x20.length, g21.2) rfl ⟨rfl, rfl, rfl, rfl, rfl, rfl, trivial⟩
              · replace h := bif_f hc h
                refine Tr.skip ?_
                replace h := Option.some.inj h; subst h
                exact Ct.mid (g7.1, g7.2.1, g7.2.2) rfl ⟨rfl, rfl, rfl, rfl, rfl, rfl, trivial⟩
            · clear hx16
              refine Ct.blk_normal ?_
              replace h := Option.some.inj h; subst h
              exact Ct.mid (g22.1, g22.2.1, g22.2.2) rfl ⟨rfl, rfl, rfl, rfl, rfl, rfl, trivial⟩
      · clear hx8
        refine Ct.then_tr ?_
        refine Tr.weak (Γ' := [(0, (pSl 1 (cK .i64) a_0)), (1, (pSl 1 (cK .i64) a_1)), (2, (pSl 1 (cK .i64) a_2)), (3, (pEq (.int .i64 a_3))), (9, (pEq (.slice g23.1 g23.2.1 g23.2.2))), (10, (pEq (.int .i64 v5)))]) ⟨rfl, rfl, rfl, rfl, rfl, rfl, trivial⟩ ?_
        refine Tr.region ?_
        refine RegL.pure (p := (pEq (.int .i64 v5))) rfl rfl rfl (J_move rfl (Opd.tmp rfl)) ?_
        refine RegL.pure (p := (pEq (.int .i64 (w64 (v5 + (1 : Int)))))) rfl rfl rfl (J_bin rfl (Opd.tmp rfl) Opd.con B_add) ?_
        refine RegL.pure (p := (pEq (.int .i64 (w64 (v5 + (1 : Int)))))) rfl rfl rfl (J_assign rfl (Opd.tmp rfl)) ?_
        refine RegL.nil ?_
        replace h := Option.some.inj h; subst h
        exact Ct.again (g23.1, g23.2.1, g23.2.2) rfl ⟨rfl, rfl, rfl, rfl, rfl, rfl, trivial⟩
    · replace h := bif_f hc h
      refine Tr.exit ?_
      refine Ct.then_exit ?_
      replace h := map_some h; obtain ⟨r1, h, rfl⟩ := h
      refine Ct.out_exit fun e => ?_
      subst e
      refine Ct.blk_exit ?_
      replace h := Option.some.inj h; subst h
      exact Ct.mid (g7.1, g7.2.1, g7.2.2) rfl ⟨rfl, rfl, rfl, trivial⟩
  · clear hx3
    refine Ct.then_tr ?_
    refine Tr.weak (Γ' := [(0, (pSl 1 (cK .i64) a_0)), (3, (pEq (.int .i64 a_3))), (9, (pEq (.slice g24.1 g24.2.1 g24.2.2)))]) ⟨rfl, rfl, rfl, trivial⟩ ?_
    refine Tr.seq ?_
    refine Tr.seq ?_
    refine Tr.region ?_
    refine RegL.pure (p := (pEq (.slice g24.1 g24.2.1 g24.2.2))) rfl rfl rfl (J_move rfl (Opd.tmp rfl)) ?_
    refine RegL.pureW (p := (pEq (.int .i64 (x3.length : Int)))) rfl rfl rfl (W_rowLen (j := 0) rfl Tryd.underlying22 (Opd.tmp rfl) rfl) ?_
    refine RegL.pure (p := (pEq (.bool ((x3.length : Int) == (0 : Int))))) rfl rfl rfl (J_bin rfl (Opd.tmp rfl) Opd.con B_eql) ?_
    refine RegL.nil ?_
    refine Ct.then_tr ?_
    refine Tr.weak (Γ' := [(0, (pSl 1 (cK .i64) a_0)), (3, (pEq (.int .i64 a_3))), (9, (pEq (.slice g24.1 g24.2.1 g24.2.2))), (57, (pEq (.bool ((x3.length : Int) == (0 : Int)))))]) ⟨rfl, rfl, rfl, rfl, trivial⟩ ?_
    refine Tr.cond (Opd.tmp rfl) (fun hc => ?_) (fun hc => ?_)
    · replace h := bif_t hc h
      refine Tr.seq ?_
      refine Tr.region ?_
      refine RegL.pure (p := (pEq (.int .i64 (200000 : Int)))) rfl rfl rfl (J_assign rfl Opd.con) ?_
      refine RegL.nil ?_
      refine Ct.then_tr ?_
      refine Tr.weak (Γ' := [(8, (pEq (.int .i64 (200000 : Int))))]) ⟨rfl, trivial⟩ ?_
      refine Tr.ret ?_
      refine Ct.then_ret ?_
      replace h := Option.some.inj h; subst h
      exact Ct.retH1 (Ωx := [oSl 2 1 (cK .i64) g24.1 g24.2.1 g24.2.2 x3]) () rfl (RvOk.tmp rfl) rfl
    · replace h := bif_f hc h
      refine Tr.skip ?_
      refine Ct.then_tr ?_
      refine Tr.weak (Γ' := [(0, (pSl 1 (cK .i64) a_0)), (3, (pEq (.int .i64 a_3))), (9, (pEq (.slice g24.1 g24.2.1 g24.2.2)))]) ⟨rfl, rfl, rfl, trivial⟩ ?_
      refine Tr.seq ?_
      replace h := bind_some h; obtain ⟨x25, hx25, h⟩ := h
      replace h := bind_some h; obtain ⟨x26, hx26, h⟩ := h
      replace h := bind_some h; obtain ⟨x27, hx27, h⟩ := h
      replace h := bind_some h; obtain ⟨x28, hx28, h⟩ := h
      refine Tr.drawD (n := 67) (m := 9) (es := [some (Ent.mk [(0, (pSl 1 (cK .i64) a_0))] (pSl 1 (cK .i64) a_0) true), some (Ent.mk [(3, (pEq (.int .i64 a_3)))] (pEq (.int .i64 a_3)) true), some (Ent.mk [(58, (pSl 1 (cK .i64) a_0)), (59, (pEq (.int .i64 a_3)))] (pPtr ((cK .i64) x25)) true), some (Ent.mk [(60, (pPtr ((cK .i64) x25)))] (pEq (.int .i64 x25)) true), some (Ent.mk [(9, (pEq (.slice g24.1 g24.2.1 g24.2.2)))] (pEq (.slice g24.1 g24.2.1 g24.2.2)) true), some (Ent.mk [(62, (pEq (.slice g24.1 g24.2.1 g24.2.2)))] (pEq (.int .i64 x26)) true), some (Ent.mk [(61, (pEq (.int .i64 x25))), (63, (pEq (.int .i64 x26)))] (pEq (.int .i64 (w64 (x25 - x26)))) true), some (Ent.mk [(64, (pEq (.int .i64 (w64 (x25 - x26)))))] (pEq (.int .i64 x27)) true), some (Ent.mk [(65, (pEq (.int .i64 x27)))] (pEq (.int .i64 x28)) true)]) (rd := [[0], [3], [58, 59], [60], [9], [62], [61, 63], [64], [65]]) rfl hmix (by kernel_rfl) fun hD => ?_
      refine RD.fin (es := [Ent.mk [(0, (pSl 1 (cK .i64) a_0))] (pSl 1 (cK .i64) a_0) true, Ent.mk [(3, (pEq (.int .i64 a_3)))] (pEq (.int .i64 a_3)) true, Ent.mk [(58, (pSl 1 (cK .i64) a_0)), (59, (pEq (.int .i64 a_3)))] (pPtr ((cK .i64) x25)) true, Ent.mk [(60, (pPtr ((cK .i64) x25)))] (pEq (.int .i64 x25)) true, Ent.mk [(9, (pEq (.slice g24.1 g24.2.1 g24.2.2)))] (pEq (.slice g24.1 g24.2.1 g24.2.2)) true, Ent.mk [(62, (pEq (.slice g24.1 g24.2.1 g24.2.2)))] (pEq (.int .i64 x26)) true, Ent.mk [(61, (pEq (.int .i64 x25))), (63, (pEq (.int .i64 x26)))] (pEq (.int .i64 (w64 (x25 - x26)))) true, Ent.mk [(64, (pEq (.int .i64 (w64 (x25 - x26)))))] (pEq (.int .i64 x27)) true, Ent.mk [(65, (pEq (.int .i64 x27)))] (pEq (.int .i64 x28)) true]) (done := []) hD ⟨.inr ⟨(OpJ.w (J_move rfl (Opd.tmp rfl))), ⟨rfl, trivial⟩, rfl, rfl⟩, ⟨.inr ⟨(OpJ.w (J_move rfl (Opd.tmp rfl))), ⟨rfl, trivial⟩, rfl, rfl⟩, ⟨.inr ⟨(OpJ.w (J_idx rfl Tryd.underlying22 sz2 (Opd.tmp rfl) (Opd.tmp rfl) hx25)), ⟨rfl, rfl, trivial⟩, rfl, rfl⟩, ⟨.inr ⟨(OpJ.w (J_load rfl Tryd.isAgg2 (Opd.tmp rfl))), ⟨rfl, trivial⟩, rfl, rfl⟩, ⟨.inr ⟨(OpJ.w (J_move rfl (Opd.tmp rfl))), ⟨rfl, trivial⟩, rfl, rfl⟩, ⟨.inr ⟨(W_call rfl Tryd.call70 (c_spec_l02Sum hx26) (OpdsA.cons (OpdA.conv rfl (Conv.row (f := (cK .i64)) 0 (fun _ => rfl) rfl)) OpdsA.nil) FreeP.eq), ⟨rfl, trivial⟩, rfl, rfl⟩, ⟨.inr ⟨(OpJ.w (J_bin rfl (Opd.tmp rfl) (Opd.tmp rfl) B_sub)), ⟨rfl, rfl, trivial⟩, rfl, rfl⟩, ⟨.inr ⟨(OpJ.w (J_call rfl Tryd.call69 (c_spec_l00Min hx27) (Opds.cons Opd.con (Opds.cons (Opd.tmp rfl) Opds.nil)))), ⟨rfl, trivial⟩, rfl, rfl⟩, ⟨.inr ⟨(OpJ.w (J_call rfl Tryd.call56 (c_spec_l00Max hx28) (Opds.cons Opd.con (Opds.cons (Opd.tmp rfl) Opds.nil)))), ⟨rfl, trivial⟩, rfl, rfl⟩, trivial⟩⟩⟩⟩⟩⟩⟩⟩⟩ ?_
      refine RegL.pure (p := (pEq (.int .i64 x28))) rfl rfl rfl (J_assign rfl (Opd.tmp rfl)) ?_
      refine RegL.nil ?_
      refine Ct.then_tr ?_
      refine Tr.weak (Γ' := [(8, (pEq (.int .i64 x28)))]) ⟨rfl, trivial⟩ ?_
      refine Tr.ret ?_
      replace h := Option.some.inj h; subst h
      exact Ct.retH1 (Ωx := [oSl 2 1 (cK .i64) g24.1 g24.2.1 g24.2.2 x3]) () rfl (RvOk.tmp rfl) rfl

theorem c_spec_WorstRatio {a_0 : (List (List Int))} {a_1 : (List Int)} {a_2 : (List Int)} {r : (Int × Int × Int)} (h : m_spec_WorstRatio a_0 a_1 a_2 = some r) : CallJ Tryd.prog 14 [(pSl 1 (cSl 1 (cK .i64)) a_0), (pSl 1 (cK .i64) a_1), (pSl 1 (cK .i64) a_2)] (pTup [(pEq (.int .i64 r.1)), (pEq (.int .i64 r.2.1)), (pEq (.int .i64 r.2.2))]) := by
  unfold m_spec_WorstRatio at h
  refine CallJ.enterH Tryd.func14 rfl Tryd.ntmps14 rfl fun W I0 H => ?_
  refine Tr.weak (Γ' := [(0, (pSl 1 (cSl 1 (cK .i64)) a_0)), (1, (pSl 1 (cK .i64) a_1)), (2, (pSl 1 (cK .i64) a_2))]) ⟨rfl, rfl, rfl, trivial⟩ ?_
  refine Tr.seq ?_
  refine Tr.region ?_
  refine RegL.pure (p := (pEq (.int .i64 (0 : Int)))) rfl rfl rfl (J_assign rfl Opd.con) ?_
  refine RegL.pure (p := (pEq (.int .i64 (0 : Int)))) rfl rfl rfl (J_assign rfl Opd.con) ?_
  refine RegL.pure (p := (pEq (.int .i64 (0 : Int)))) rfl rfl rfl (J_assign rfl Opd.con) ?_
  refine RegL.nil ?_
  refine Ct.then_tr ?_
  refine Tr.weak (Γ' := [(0, (pSl 1 (cSl 1 (cK .i64)) a_0)), (1, (pSl 1 (cK .i64) a_1)), (2, (pSl 1 (cK .i64) a_2))]) ⟨rfl, rfl, rfl, trivial⟩ ?_
  refine Tr.seq ?_
  refine Tr.seq ?_
  replace h := bind_some h; obtain ⟨x1, hx1, h⟩ := h
  refine Tr.cut (γ := Unit) (Γm := fun g => [(0, (pSl 1 (cSl 1 (cK .i64)) a_0)), (1, (pSl 1 (cK .i64) a_1)), (2, (pSl 1 (cK .i64) a_2)), (30, (pEq (.bool x1)))]) (Ωm := fun g => []) ?_ (fun g8 => ?_)
  · clear h
    have h := hx1
    clear hx1
    refine Tr.region ?_
    refine RegL.pure (p := (pSl 1 (cSl 1 (cK .i64)) a_0)) rfl rfl rfl (J_move rfl (Opd.tmp rfl)) ?_
    replace h := bind_some h; obtain ⟨x2, hx2, h⟩ := h
    refine RegL.pure (p := (pEq (.bool x2))) rfl rfl rfl (J_call rfl Tryd.call46 (c_spec_l16Rows hx2) (Opds.cons (Opd.tmp rfl) Opds.nil)) ?_
    refine RegL.pure (p := (pEq (.bool (!x2)))) rfl rfl rfl (J_not rfl (Opd.tmp rfl)) ?_
    refine RegL.pure (p := (pEq (.bool (!x2)))) rfl rfl rfl (J_move rfl (Opd.tmp rfl)) ?_
    rcases Bool.eq_false_or_eq_true (!x2) with hc3 | hc3
    · replace h := bif_t hc3 h
      refine RegL.skipG rfl rfl rfl hc3 rfl rfl ?_
      refine RegL.skipG rfl rfl rfl hc3 rfl rfl ?_
      refine RegL.skipG rfl rfl rfl hc3 rfl rfl ?_
      refine RegL.skipG rfl rfl rfl hc3 rfl rfl ?_
      refine RegL.skipG rfl rfl rfl hc3 rfl rfl ?_
      refine RegL.skipG rfl rfl rfl hc3 rfl rfl ?_
      refine RegL.skipG rfl rfl rfl hc3 rfl rfl ?_
      refine RegL.pure (p := (pEq (.bool true))) rfl rfl rfl (J_pick rfl (Opd.tmp rfl) (fun _ => Opd.con) (fun hf => absurd (hc3.symm.trans hf) (by decide))) ?_
      refine RegL.pure (p := (pEq (.bool true))) rfl rfl rfl (J_move rfl (Opd.tmp rfl)) ?_
      refine RegL.skipG rfl rfl rfl rfl rfl rfl ?_
      refine RegL.skipG rfl rfl rfl rfl rfl rfl ?_
      refine RegL.skipG rfl rfl rfl rfl rfl rfl ?_
      refine RegL.pure (p := (pEq (.bool true))) rfl rfl rfl (J_pick rfl (Opd.tmp rfl) (fun _ => Opd.con) (fun hf => absurd hf (by decide))) ?_
      refine RegL.nil ?_
      replace h := Option.some.inj h; subst h
      exact Ct.mid () rfl ⟨rfl, rfl, rfl, rfl, trivial⟩
    · replace h := bif_f hc3 h
      refine RegL.pureG (p := (pSl 1 (cK .i64) a_1)) rfl rfl rfl hc3 rfl rfl (J_move rfl (Opd.tmp rfl)) ?_
      refine RegL.pureG (p := (pSl 1 (cSl 1 (cK .i64)) a_0)) rfl rfl rfl hc3 rfl rfl (J_move rfl (Opd.tmp rfl)) ?_
      replace h := bind_some h; obtain ⟨x4, hx4, h⟩ := h
      refine RegL.pureG (p := (pPtr ((cSl 1 (cK .i64)) x4))) rfl rfl rfl hc3 rfl rfl (J_idx rfl Tryd.underlying28 sz22 (Opd.tmp rfl) Opd.con hx4) ?_
      refine RegL.pureG (p := (pSl 1 (cK .i64) x4)) rfl rfl rfl hc3 rfl rfl (J_load rfl Tryd.isAgg22 (Opd.tmp rfl)) ?_
      refine RegL.pureG (p := (pEq (.int .i64 (x4.length : Int)))) rfl rfl rfl hc3 rfl rfl (J_len rfl Tryd.underlying22 (Opd.tmp rfl) rfl) ?_
      replace h := bind_some h; obtain ⟨x5, hx5, h⟩ := h
      refine RegL.pureG (p := (pEq (.bool x5))) rfl rfl rfl hc3 rfl rfl (J_call rfl Tryd.call36 (c_spec_l16Channels hx5) (Opds.cons (Opd.tmp rfl) (Opds.cons (Opd.tmp rfl) Opds.nil))) ?_
      refine RegL.pureG (p := (pEq (.bool (!x5)))) rfl rfl rfl hc3 rfl rfl (J_not rfl (Opd.tmp rfl)) ?_
      refine RegL.pure (p := (pEq (.bool (!x5)))) rfl rfl rfl (J_pick rfl (Opd.tmp rfl) (fun hf => absurd (hc3.symm.trans hf) (by decide)) (fun _ => (Opd.tmp rfl))) ?_
      refine RegL.pure (p := (pEq (.bool (!x5)))) rfl rfl rfl (J_move rfl (Opd.tmp rfl)) ?_
      rcases Bool.eq_false_or_eq_true (!x5) with hc6 | hc6
      · replace h := bif_t hc6 h
        refine RegL.skipG rfl rfl rfl hc6 rfl rfl ?_
        refine RegL.skipG rfl rfl rfl hc6 rfl rfl ?_
        refine RegL.skipG rfl rfl rfl hc6 rfl rfl ?_
        refine RegL.pure (p := (pEq (.bool true))) rfl rfl rfl (J_pick rfl (Opd.tmp rfl) (fun _ => Opd.con) (fun hf => absurd (hc6.symm.trans hf) (by decide))) ?_
        refine RegL.nil ?_
        replace h := Option.some.inj h; subst h
        exact Ct.mid () rfl ⟨rfl, rfl, rfl, rfl, trivial⟩
      · replace h := bif_f hc6 h
        refine RegL.pureG (p := (pSl 1 (cK .i64) a_2)) rfl rfl rfl hc6 rfl rfl (J_move rfl (Opd.tmp rfl)) ?_
        replace h := bind_some h; obtain ⟨x7, hx7, h⟩ := h
        refine RegL.pureG (p := (pEq (.bool x7))) rfl rfl rfl hc6 rfl rfl (J_call rfl Tryd.call37 (c_spec_l08Table hx7) (Opds.cons (Opd.tmp rfl) Opds.nil)) ?_
        refine RegL.pureG (p := (pEq (.bool (!x7)))) rfl rfl rfl hc6 rfl rfl (J_not rfl (Opd.tmp rfl)) ?_
        refine RegL.pure (p := (pEq (.bool (!x7)))) rfl rfl rfl (J_pick rfl (Opd.tmp rfl) (fun hf => absurd (hc6.symm.trans hf) (by decide)) (fun _ => (Opd.tmp rfl))) ?_
        refine RegL.nil ?_
        replace h := Option.some.inj h; subst h
        exact Ct.mid () rfl ⟨rfl, rfl, rfl, rfl, trivial⟩
  · clear hx1
    refine Ct.then_tr ?_
    refine Tr.weak (Γ' := [(0, (pSl 1 (cSl 1 (cK .i64)) a_0)), (1, (pSl 1 (cK .i64) a_1)), (2, (pSl 1 (cK .i64) a_2)), (30, (pEq (.bool x1)))]) ⟨rfl, rfl, rfl, rfl, trivial⟩ ?_
    refine Tr.cond (Opd.tmp rfl) (fun hc => ?_) (fun hc => ?_)
    · replace h := bif_t hc h
      refine Tr.seq ?_
      refine Tr.region ?_
      refine RegL.pure (p := (pEq (.int .i64 (0 : Int)))) rfl rfl rfl (J_assign rfl Opd.con) ?_
      refine RegL.pure (p := (pEq (.int .i64 (0 : Int)))) rfl rfl rfl (J_assign rfl Opd.con) ?_
      refine RegL.pure (p := (pEq (.int .i64 (1 : Int)))) rfl rfl rfl (J_assign rfl Opd.con) ?_
      refine RegL.nil ?_
      refine Ct.then_tr ?_
      refine Tr.weak (Γ' := [(6, (pEq (.int .i64 (0 : Int)))), (7, (pEq (.int .i64 (0 : Int)))), (8, (pEq (.int .i64 (1 : Int))))]) ⟨rfl, rfl, rfl, trivial⟩ ?_
      refine Tr.ret ?_
      refine Ct.then_ret ?_
      replace h := Option.some.inj h; subst h
      exact Ct.retH3 (Ωx := []) () rfl (RvOk.tmp rfl) (RvOk.tmp rfl) (RvOk.tmp rfl) rfl rfl
    · replace h := bif_f hc h
      refine Tr.skip ?_
      refine Ct.then_tr ?_
      refine Tr.weak (Γ' := [(0, (pSl 1 (cSl 1 (cK .i64)) a_0)), (1, (pSl 1 (cK .i64) a_1)), (2, (pSl 1 (cK .i64) a_2))]) ⟨rfl, rfl, rfl, trivial⟩ ?_
      refine Tr.seq ?_
      refine Tr.region ?_
      refine RegL.pure (p := (pEq (.int .i64 (-1 : Int)))) rfl rfl rfl (J_assign rfl Opd.con) ?_
      refine RegL.nil ?_
      refine Ct.then_tr ?_
      refine Tr.weak (Γ' := [(0, (pSl 1 (cSl 1 (cK .i64)) a_0)), (1, (pSl 1 (cK .i64) a_1)), (2, (pSl 1 (cK .i64) a_2)), (9, (pEq (.int .i64 (-1 : Int))))]) ⟨rfl, rfl, rfl, rfl, trivial⟩ ?_
      refine Tr.seq ?_
      refine Tr.region ?_
      refine RegL.pure (p := (pEq (.int .i64 (0 : Int)))) rfl rfl rfl (J_assign rfl Opd.con) ?_
      refine RegL.nil ?_
      refine Ct.then_tr ?_
      refine Tr.weak (Γ' := [(0, (pSl 1 (cSl 1 (cK .i64)) a_0)), (1, (pSl 1 (cK .i64) a_1)), (2, (pSl 1 (cK .i64) a_2)), (9, (pEq (.int .i64 (-1 : Int)))), (10, (pEq (.int .i64 (0 : Int))))]) ⟨rfl, rfl, rfl, rfl, rfl, trivial⟩ ?_
      refine Tr.seq ?_
      refine Tr.seq ?_
      refine Tr.region ?_
      refine RegL.pure (p := (pEq (.int .i64 (0 : Int)))) rfl rfl rfl (J_assign rfl Opd.con) ?_
      refine RegL.nil ?_
      refine Ct.then_tr ?_
      refine Tr.weak (Γ' := [(0, (pSl 1 (cSl 1 (cK .i64)) a_0)), (1, (pSl 1 (cK .i64) a_1)), (2, (pSl 1 (cK .i64) a_2)), (9, (pEq (.int .i64 (-1 : Int)))), (10, (pEq (.int .i64 (0 : Int)))), (11, (pEq (.int .i64 (0 : Int))))]) ⟨rfl, rfl, rfl, rfl, rfl, rfl, trivial⟩ ?_
      refine Tr.block ?_
      refine Tr.weak (Γ' := [(0, (pSl 1 (cSl 1 (cK .i64)) a_0)), (1, (pSl 1 (cK .i64) a_1)), (2, (pSl 1 (cK .i64) a_2)), (9, (pEq (.int .i64 (-1 : Int)))), (10, (pEq (.int .i64 (0 : Int)))), (11, (pEq (.int .i64 (0 : Int))))]) ⟨rfl, rfl, rfl, rfl, rfl, rfl, trivial⟩ ?_
      refine Tr.loop (γ := Unit) (σ := (Int × Int × Int)) (Γσ := fun s g => [(0, (pSl 1 (cSl 1 (cK .i64)) a_0)), (1, (pSl 1 (cK .i64) a_1)), (2, (pSl 1 (cK .i64) a_2)), (9, (pEq (.int .i64 s.1))), (10, (pEq (.int .i64 s.2.1))), (11, (pEq (.int .i64 s.2.2)))]) (Ωσ := fun s g => []) (g := ()) h ?_
      clear h
      rintro ⟨v10, v11, v12⟩ g13 t h
      replace h : m_spec_WorstRatio_B9 a_0 a_1 a_2 v10 v11 v12 = some t := h
      unfold m_spec_WorstRatio_B9 at h
      refine Tr.weakO (Γ' := [(0, (pSl 1 (cSl 1 (cK .i64)) a_0)), (1, (pSl 1 (cK .i64) a_1)), (2, (pSl 1 (cK .i64) a_2)), (9, (pEq (.int .i64 v10))), (10, (pEq (.int .i64 v11))), (11, (pEq (.int .i64 v12)))]) (Ω' := []) rfl ⟨rfl, rfl, rfl, rfl, rfl, rfl, trivial⟩ ?_
      refine Tr.seq ?_
      refine Tr.seq ?_
      refine Tr.region ?_
      refine RegL.pure (p := (pEq (.int .i64 v12))) rfl rfl rfl (J_move rfl (Opd.tmp rfl)) ?_
      refine RegL.pure (p := (pSl 1 (cSl 1 (cK .i64)) a_0)) rfl rfl rfl (J_move rfl (Opd.tmp rfl)) ?_
      refine RegL.pure (p := (pEq (.int .i64 (a_0.length : Int)))) rfl rfl rfl (J_len rfl Tryd.underlying28 (Opd.tmp rfl) rfl) ?_
      refine RegL.pure (p := (pEq (.bool (decide (v12 < (a_0.length : Int)))))) rfl rfl rfl (J_bin rfl (Opd.tmp rfl) (Opd.tmp rfl) B_lss) ?_
      refine RegL.nil ?_
      refine Ct.then_tr ?_
      refine Tr.weak (Γ' := [(0, (pSl 1 (cSl 1 (cK .i64)) a_0)), (1, (pSl 1 (cK .i64) a_1)), (2, (pSl 1 (cK .i64) a_2)), (9, (pEq (.int .i64 v10))), (10, (pEq (.int .i64 v11))), (11, (pEq (.int .i64 v12))), (34, (pEq (.bool (decide (v12 < (a_0.length : Int))))))]) ⟨rfl, rfl, rfl, rfl, rfl, rfl, rfl, trivial⟩ ?_
      refine Tr.cond (Opd.tmp rfl) (fun hc => ?_) (fun hc => ?_)
      · replace h := bif_t hc h
        refine Tr.skip ?_
        refine Ct.then_tr ?_
        refine Tr.weak (Γ' := [(0, (pSl 1 (cSl 1 (cK .i64)) a_0)), (1, (pSl 1 (cK .i64) a_1)), (2, (pSl 1 (cK .i64) a_2)), (9, (pEq (.int .i64 v10))), (10, (pEq (.int .i64 v11))), (11, (pEq (.int .i64 v12)))]) ⟨rfl, rfl, rfl, rfl, rfl, rfl, trivial⟩ ?_
        refine Tr.seq ?_
        refine Tr.block ?_
        refine Tr.seq ?_
        refine Tr.region ?_
        refine RegL.pure (p := (pSl 1 (cSl 1 (cK .i64)) a_0)) rfl rfl rfl (J_move rfl (Opd.tmp rfl)) ?_
        refine RegL.pure (p := (pEq (.int .i64 v12))) rfl rfl rfl (J_move rfl (Opd.tmp rfl)) ?_
        replace h := bind_some h; obtain ⟨x14, hx14, h⟩ := h
        refine RegL.pure (p := (pPtr ((cSl 1 (cK .i64)) x14))) rfl rfl rfl (J_idx rfl Tryd.underlying28 sz22 (Opd.tmp rfl) (Opd.tmp rfl) hx14) ?_
        refine RegL.pure (p := (pSl 1 (cK .i64) x14)) rfl rfl rfl (J_load rfl Tryd.isAgg22 (Opd.tmp rfl)) ?_
        replace h := bind_some h; obtain ⟨x15, hx15, h⟩ := h
        refine RegL.pure (p := (pEq (.int .i64 x15))) rfl rfl rfl (J_call rfl Tryd.call47 (c_spec_l16Server hx15) (Opds.cons (Opd.tmp rfl) Opds.nil)) ?_
        refine RegL.pure (p := (pEq (.int .i64 x15))) rfl rfl rfl (J_assign rfl (Opd.tmp rfl)) ?_
        refine RegL.nil ?_
        refine Ct.then_tr ?_
        refine Tr.weak (Γ' := [(0, (pSl 1 (cSl 1 (cK .i64)) a_0)), (1, (pSl 1 (cK .i64) a_1)), (2, (pSl 1 (cK .i64) a_2)), (9, (pEq (.int .i64 v10))), (10, (pEq (.int .i64 v11))), (11, (pEq (.int .i64 v12))), (12, (pEq (.int .i64 x15)))]) ⟨rfl, rfl, rfl, rfl, rfl, rfl, rfl, trivial⟩ ?_
        refine Tr.seq ?_
        refine Tr.seq ?_
        refine Tr.region ?_
        refine RegL.pure (p := (pSl 1 (cK .i64) a_1)) rfl rfl rfl (J_move rfl (Opd.tmp rfl)) ?_
        refine RegL.pure (p := (pEq (.int .i64 x15))) rfl rfl rfl (J_move rfl (Opd.tmp rfl)) ?_
        replace h := bind_some h; obtain ⟨x16, hx16, h⟩ := h
        refine RegL.pure (p := (pPtr ((cK .i64) x16))) rfl rfl rfl (J_idx rfl Tryd.underlying22 sz2 (Opd.tmp rfl) (Opd.tmp rfl) hx16) ?_
        refine RegL.pure (p := (pEq (.int .i64 x16))) rfl rfl rfl (J_load rfl Tryd.isAgg2 (Opd.tmp rfl)) ?_
        refine RegL.pure (p := (pEq (.bool (decide (x16 < (0 : Int)))))) rfl rfl rfl (J_bin rfl (Opd.tmp rfl) Opd.con B_lss) ?_
        refine RegL.nil ?_
        refine Ct.then_tr ?_
        refine Tr.weak (Γ' := [(0, (pSl 1 (cSl 1 (cK .i64)) a_0)), (1, (pSl 1 (cK .i64) a_1)), (2, (pSl 1 (cK .i64) a_2)), (9, (pEq (.int .i64 v10))), (10, (pEq (.int .i64 v11))), (11, (pEq (.int .i64 v12))), (12, (pEq (.int .i64 x15))), (46, (pEq (.bool (decide (x16 < (0 : Int))))))]) ⟨rfl, rfl, rfl, rfl, rfl, rfl, rfl, rfl, trivial⟩ ?_
        refine Tr.cond (Opd.tmp rfl) (fun hc => ?_) (fun hc => ?_)
        · replace h := bif_t hc h
          refine Tr.seq ?_
          refine Tr.region ?_
          refine RegL.pure (p := (pEq (.int .i64 (0 : Int)))) rfl rfl rfl (J_assign rfl Opd.con) ?_
          refine RegL.pure (p := (pEq (.int .i64 (0 : Int)))) rfl rfl rfl (J_assign rfl Opd.con) ?_
          refine RegL.pure (p := (pEq (.int .i64 (6 : Int)))) rfl rfl rfl (J_assign rfl Opd.con) ?_
          refine RegL.nil ?_
          refine Ct.then_tr ?_
          refine Tr.weak (Γ' := [(6, (pEq (.int .i64 (0 : Int)))), (7, (pEq (.int .i64 (0 : Int)))), (8, (pEq (.int .i64 (6 : Int))))]) ⟨rfl, rfl, rfl, trivial⟩ ?_
          refine Tr.ret ?_
          refine Ct.then_ret ?_
          refine Ct.blk_ret ?_
          refine Ct.then_ret ?_
          replace h := map_some h; obtain ⟨r1, h, rfl⟩ := h
          refine Ct.out_ret fun e => ?_
          subst e
          refine Ct.blk_ret ?_
          refine Ct.then_ret ?_
          replace h := Option.some.inj h; subst h
          exact Ct.retH3 (Ωx := []) () rfl (RvOk.tmp rfl) (RvOk.tmp rfl) (RvOk.tmp rfl) rfl rfl
        · replace h := bif_f hc h
          refine Tr.skip ?_
          refine Ct.then_tr ?_
          refine Tr.weak (Γ' := [(0, (pSl 1 (cSl 1 (cK .i64)) a_0)), (1, (pSl 1 (cK .i64) a_1)), (2, (pSl 1 (cK .i64) a_2)), (9, (pEq (.int .i64 v10))), (10, (pEq (.int .i64 v11))), (11, (pEq (.int .i64 v12))), (12, (pEq (.int .i64 x15)))]) ⟨rfl, rfl, rfl, rfl, rfl, rfl, rfl, trivial⟩ ?_
          refine Tr.seq ?_
          refine Tr.region ?_
          refine RegL.pure (p := (pSl 1 (cSl 1 (cK .i64)) a_0)) rfl rfl rfl (J_move rfl (Opd.tmp rfl)) ?_
          refine RegL.pure (p := (pEq (.int .i64 v12))) rfl rfl rfl (J_move rfl (Opd.tmp rfl)) ?_
          replace h := bind_some h; obtain ⟨x17, hx17, h⟩ := h
          refine RegL.pure (p := (pPtr ((cSl 1 (cK .i64)) x17))) rfl rfl rfl (J_idx rfl Tryd.underlying28 sz22 (Opd.tmp rfl) (Opd.tmp rfl) hx17) ?_
          refine RegL.pure (p := (pSl 1 (cK .i64) x17)) rfl rfl rfl (J_load rfl Tryd.isAgg22 (Opd.tmp rfl)) ?_
          refine RegL.pure (p := (pSl 1 (cK .i64) a_1)) rfl rfl rfl (J_move rfl (Opd.tmp rfl)) ?_
          refine RegL.pure (p := (pSl 1 (cK .i64) a_2)) rfl rfl rfl (J_move rfl (Opd.tmp rfl)) ?_
          refine RegL.pure (p := (pEq (.int .i64 x15))) rfl rfl rfl (J_move rfl (Opd.tmp rfl)) ?_
          replace h := bind_some h; obtain ⟨x18, hx18, h⟩ := h
          refine RegL.pure (p := (pEq (.int .i64 x18))) rfl rfl rfl (J_call rfl Tryd.call39 (c_spec_l16Ratio hx18) (Opds.cons (Opd.tmp rfl) (Opds.cons (Opd.tmp rfl) (Opds.cons (Opd.tmp rfl) (Opds.cons (Opd.tmp rfl) Opds.nil))))) ?_
          refine RegL.pure (p := (pEq (.int .i64 x18))) rfl rfl rfl (J_assign rfl (Opd.tmp rfl)) ?_
          refine RegL.nil ?_
          refine Ct.then_tr ?_
          refine Tr.weak (Γ' := [(0, (pSl 1 (cSl 1 (cK .i64)) a_0)), (1, (pSl 1 (cK .i64) a_1)), (2, (pSl 1 (cK .i64) a_2)), (9, (pEq (.int .i64 v10))), (10, (pEq (.int .i64 v11))), (11, (pEq (.int .i64 v12))), (13, (pEq (.int .i64 x18)))]) ⟨rfl, rfl, rfl, rfl, rfl, rfl, rfl, trivial⟩ ?_
          refine Tr.seq ?_
          replace h := bind_some h; obtain ⟨x19, hx19, h⟩ := h
          refine Tr.cut (γ := Unit) (Γm := fun g => [(0, (pSl 1 (cSl 1 (cK .i64)) a_0)), (1, (pSl 1 (cK .i64) a_1)), (2, (pSl 1 (cK .i64) a_2)), (9, (pEq (.int .i64 v10))), (10, (pEq (.int .i64 v11))), (11, (pEq (.int .i64 v12))), (13, (pEq (.int .i64 x18))), (61, (pEq (.bool x19)))]) (Ωm := fun g => []) ?_ (fun g21 => ?_)
          · clear h
            have h := hx19
            clear hx19
            refine Tr.region ?_
            refine RegL.pure (p := (pEq (.int .i64 v10))) rfl rfl rfl (J_move rfl (Opd.tmp rfl)) ?_
            refine RegL.pure (p := (pEq (.bool (decide (v10 < (0 : Int)))))) rfl rfl rfl (J_bin rfl (Opd.tmp rfl) Opd.con B_lss) ?_
            refine RegL.pure (p := (pEq (.bool (decide (v10 < (0 : Int)))))) rfl rfl rfl (J_move rfl (Opd.tmp rfl)) ?_
            rcases Bool.eq_false_or_eq_true (decide (v10 < (0 : Int))) with hc20 | hc20
            · replace h := bif_t hc20 h
              refine RegL.skipG rfl rfl rfl hc20 rfl rfl ?_
              refine RegL.skipG rfl rfl rfl hc20 rfl rfl ?_
              refine RegL.skipG rfl rfl rfl hc20 rfl rfl ?_
              refine RegL.pure (p := (pEq (.bool true))) rfl rfl rfl (J_pick rfl (Opd.tmp rfl) (fun _ => Opd.con) (fun hf => absurd (hc20.symm.trans hf) (by decide))) ?_
              refine RegL.nil ?_
              replace h := Option.some.inj h; subst h
              exact Ct.mid () rfl ⟨rfl, rfl, rfl, rfl, rfl, rfl, rfl, rfl, trivial⟩
            · replace h := bif_f hc20 h
              refine RegL.pureG (p := (pEq (.int .i64 x18))) rfl rfl rfl hc20 rfl rfl (J_move rfl (Opd.tmp rfl)) ?_
              refine RegL.pureG (p := (pEq (.int .i64 v11))) rfl rfl rfl hc20 rfl rfl (J_move rfl (Opd.tmp rfl)) ?_
              refine RegL.pureG (p := (pEq (.bool (decide (x18 < v11))))) rfl rfl rfl hc20 rfl rfl (J_bin rfl (Opd.tmp rfl) (Opd.tmp rfl) B_lss) ?_
              refine RegL.pure (p := (pEq (.bool (decide (x18 < v11))))) rfl rfl rfl (J_pick rfl (Opd.tmp rfl) (fun hf => absurd (hc20.symm.trans hf) (by decide)) (fun _ => (Opd.tmp rfl))) ?_
              refine RegL.nil ?_
              replace h := Option.some.inj h; subst h
              exact Ct.mid () rfl ⟨rfl, rfl, rfl, rfl, rfl, rfl, rfl, rfl, trivial⟩
          · clear hx19
            refine Ct.then_tr ?_
            refine Tr.weak (Γ' := [(0, (pSl 1 (cSl 1 (cK .i64)) a_0)), (1, (pSl 1 (cK .i64) a_1)), (2, (pSl 1 (cK .i64) a_2)), (9, (pEq (.int .i64 v10))), (10, (pEq (.int .i64 v11))), (11, (pEq (.int .i64 v12))), (13, (pEq (.int .i64 x18))), (61, (pEq (.bool x19)))]) ⟨rfl, rfl, rfl, rfl, rfl, rfl, rfl, rfl, trivial⟩ ?_
            replace h := bind_some h; obtain ⟨x22, hx22, h⟩ := h
            refine Tr.cut (γ := Unit) (Γm := fun g => [(0, (pSl 1 (cSl 1 (cK .i64)) a_0)), (1, (pSl 1 (cK .i64) a_1)), (2, (pSl 1 (cK .i64) a_2)), (9, (pEq (.int .i64 x22.1))), (10, (pEq (.int .i64 x22.2))), (11, (pEq (.int .i64 v12)))]) (Ωm := fun g => []) ?_ (fun g23 => ?_)
            · clear h
              have h := hx22
              clear hx22
              refine Tr.cond (Opd.tmp rfl) (fun hc => ?_) (fun hc => ?_)
              · replace h := bif_t hc h
                refine Tr.seq ?_
                refine Tr.region ?_
                refine RegL.pure (p := (pEq (.int .i64 v12))) rfl rfl rfl (J_move rfl (Opd.tmp rfl)) ?_
                refine RegL.pure (p := (pEq (.int .i64 v12))) rfl rfl rfl (J_assign rfl (Opd.tmp rfl)) ?_
                refine RegL.nil ?_
                refine Ct.then_tr ?_
                refine Tr.weak (Γ' := [(0, (pSl 1 (cSl 1 (cK .i64)) a_0)), (1, (pSl 1 (cK .i64) a_1)), (2, (pSl 1 (cK .i64) a_2)), (9, (pEq (.int .i64 v12))), (11, (pEq (.int .i64 v12))), (13, (pEq (.int .i64 x18)))]) ⟨rfl, rfl, rfl, rfl, rfl, rfl, trivial⟩ ?_
                refine Tr.region ?_
                refine RegL.pure (p := (pEq (.int .i64 x18))) rfl rfl rfl (J_move rfl (Opd.tmp rfl)) ?_
                refine RegL.pure (p := (pEq (.int .i64 x18))) rfl rfl rfl (J_assign rfl (Opd.tmp rfl)) ?_
                refine RegL.nil ?_
                replace h := Option.some.inj h; subst h
                exact Ct.mid () rfl ⟨rfl, rfl, rfl, rfl, rfl, rfl, trivial⟩
              · replace h := bif_f hc h
                refine Tr.skip ?_
                replace h := Option.some.inj h; subst h
                exact Ct.mid () rfl ⟨rfl, rfl, rfl, rfl, rfl, rfl, trivial⟩
            · clear hx22
              refine Ct.blk_normal ?_
              refine Ct.then_tr ?_
              refine Tr.weak (Γ' := [(0, (pSl 1 (cSl 1 (cK .i64)) a_0)), (1, (pSl 1 (cK .i64) a_1)), (2, (pSl 1 (cK .i64) a_2)), (9, (pEq (.int .i64 x22.1))), (10, (pEq (.int .i64 x22.2))), (11, (pEq (.int .i64 v12)))]) ⟨rfl, rfl, rfl, rfl, rfl, rfl, trivial⟩ ?_
              refine Tr.region ?_
              refine RegL.pure (p := (pEq (.int .i64 v12))) rfl rfl rfl (J_move rfl (Opd.tmp rfl)) ?_
              refine RegL.pure (p := (pEq (.int .i64 (w64 (v12 + (1 : Int)))))) rfl rfl rfl (J_bin rfl (Opd.tmp rfl) Opd.con B_add) ?_
              refine RegL.pure (p := (pEq (.int .i64 (w64 (v12 + (1 : Int)))))) rfl rfl rfl (J_assign rfl (Opd.tmp rfl)) ?_
              refine RegL.nil ?_
              replace h := Option.some.inj h; subst h
              exact Ct.again () rfl ⟨rfl, rfl, rfl, rfl, rfl, rfl, trivial⟩
      · replace h := bif_f hc h
        refine Tr.exit ?_
        refine Ct.then_exit ?_
        replace h := map_some h; obtain ⟨r1, h, rfl⟩ := h
        refine Ct.out_exit fun e => ?_
        subst e
        refine Ct.blk_exit ?_
        refine Ct.then_tr ?_
        refine Tr.weak (Γ' := [(9, (pEq (.int .i64 v10))), (10, (pEq (.int .i64 v11)))]) ⟨rfl, rfl, trivial⟩ ?_
        refine Tr.seq ?_
        refine Tr.region ?_
        refine RegL.pure (p := (pEq (.int .i64 v10))) rfl rfl rfl (J_move rfl (Opd.tmp rfl)) ?_
        refine RegL.pure (p := (pEq (.int .i64 v11))) rfl rfl rfl (J_move rfl (Opd.tmp rfl)) ?_
        refine RegL.pure (p := (pEq (.int .i64 v10))) rfl rfl rfl (J_assign rfl (Opd.tmp rfl)) ?_
        refine RegL.pure (p := (pEq (.int .i64 v11))) rfl rfl rfl (J_assign rfl (Opd.tmp rfl)) ?_
        refine RegL.pure (p := (pEq (.int .i64 (0 : Int)))) rfl rfl rfl (J_assign rfl Opd.con) ?_
        refine RegL.nil ?_
        refine Ct.then_tr ?_
        refine Tr.weak (Γ' := [(6, (pEq (.int .i64 v10))), (7, (pEq (.int .i64 v11))), (8, (pEq (.int .i64 (0 : Int))))]) ⟨rfl, rfl, rfl, trivial⟩ ?_
        refine Tr.ret ?_
        replace h := Option.some.inj h; subst h
        exact Ct.retH3 (Ωx := []) () rfl (RvOk.tmp rfl) (RvOk.tmp rfl) (RvOk.tmp rfl) rfl rfl

theorem c_impl_within {n_0 : Int} {low_1 : Int} {high_2 : Int} {r : Bool} (h : m_impl_within n_0 low_1 high_2 = some r) : CallJ Tryd.prog 57 [(pEq (.int .i64 n_0)), (pEq (.int .i64 low_1)), (pEq (.int .i64 high_2))] (pEq (.bool r)) := by
  unfold m_impl_within at h
  refine CallJ.enterH Tryd.func57 rfl Tryd.ntmps57 rfl fun W I0 H => ?_
  refine Tr.weak (Γ' := [(0, (pEq (.int .i64 n_0))), (1, (pEq (.int .i64 low_1))), (2, (pEq (.int .i64 high_2)))]) ⟨rfl, rfl, rfl, trivial⟩ ?_
  refine Tr.seq ?_
  refine Tr.region ?_
  refine RegL.pure (p := (pEq (.bool false))) rfl rfl rfl (J_assign rfl Opd.con) ?_
  refine RegL.nil ?_
  refine Ct.then_tr ?_
  refine Tr.weak (Γ' := [(0, (pEq (.int .i64 n_0))), (1, (pEq (.int .i64 low_1))), (2, (pEq (.int .i64 high_2)))]) ⟨rfl, rfl, rfl, trivial⟩ ?_
  refine Tr.seq ?_
  replace h := bind_some h; obtain ⟨x1, hx1, h⟩ := h
  refine Tr.cut (γ := Unit) (Γm := fun g => [(6, (pEq (.bool x1)))]) (Ωm := fun g => []) ?_ (fun g3 => ?_)
  · clear h
    have h := hx1
    clear hx1
    refine Tr.region ?_
    refine RegL.pure (p := (pEq (.int .i64 n_0))) rfl rfl rfl (J_move rfl (Opd.tmp rfl)) ?_
    refine RegL.pure (p := (pEq (.int .i64 low_1))) rfl rfl rfl (J_move rfl (Opd.tmp rfl)) ?_
    refine RegL.pure (p := (pEq (.bool (decide (low_1 ≤ n_0))))) rfl rfl rfl (J_bin rfl (Opd.tmp rfl) (Opd.tmp rfl) B_geq) ?_
    refine RegL.pure (p := (pEq (.bool (decide (low_1 ≤ n_0))))) rfl rfl rfl (J_move rfl (Opd.tmp rfl)) ?_
    rcases Bool.eq_false_or_eq_true (decide (low_1 ≤ n_0)) with hc2 | hc2
    · replace h := bif_t hc2 h
      refine RegL.pureG (p := (pEq (.int .i64 n_0))) rfl rfl rfl hc2 rfl rfl (J_move rfl (Opd.tmp rfl)) ?_
      refine RegL.pureG (p := (pEq (.int .i64 high_2))) rfl rfl rfl hc2 rfl rfl (J_move rfl (Opd.tmp rfl)) ?_
      refine RegL.pureG (p := (pEq (.bool (decide (n_0 ≤ high_2))))) rfl rfl rfl hc2 rfl rfl (J_bin rfl (Opd.tmp rfl) (Opd.tmp rfl) B_leq) ?_
      refine RegL.pure (p := (pEq (.bool (decide (n_0 ≤ high_2))))) rfl rfl rfl (J_pick rfl (Opd.tmp rfl) (fun _ => (Opd.tmp rfl)) (fun hf => absurd (hc2.symm.trans hf) (by decide))) ?_
      refine RegL.pure (p := (pEq (.bool (decide (n_0 ≤ high_2))))) rfl rfl rfl (J_assign rfl (Opd.tmp rfl)) ?_
      refine RegL.nil ?_
      replace h := Option.some.inj h; subst h
      exact Ct.mid () rfl ⟨rfl, trivial⟩
    · replace h := bif_f hc2 h
      refine RegL.skipG rfl rfl rfl hc2 rfl rfl ?_
      refine RegL.skipG rfl rfl rfl hc2 rfl rfl ?_
      refine RegL.skipG rfl rfl rfl hc2 rfl rfl ?_
      refine RegL.pure (p := (pEq (.bool false))) rfl rfl rfl (J_pick rfl (Opd.tmp rfl) (fun hf => absurd (hc2.symm.trans hf) (by decide)) (fun _ => Opd.con)) ?_
      refine RegL.pure (p := (pEq (.bool false))) rfl rfl rfl (J_assign rfl (Opd.tmp rfl)) ?_
      refine RegL.nil ?_
      replace h := Option.some.inj h; subst h
      exact Ct.mid () rfl ⟨rfl, trivial⟩
  · clear hx1
    refine Ct.then_tr ?_
    refine Tr.weak (Γ' := [(6, (pEq (.bool x1)))]) ⟨rfl, trivial⟩ ?_
    refine Tr.ret ?_
    replace h := Option.some.inj h; subst h
    exact Ct.retH1 (Ωx := []) () rfl (RvOk.tmp rfl) rfl

theorem c_impl_allWithin_1 {n_0 : Int} {a_1 : Int} {a_2 : Int} {r : Bool} (h : m_impl_allWithin_1 n_0 a_1 a_2 = some r) : CallJ Tryd.prog 104 [(pEq (.int .i64 n_0)), (pPtr ((cK .i64) a_1)), (pPtr ((cK .i64) a_2))] (pEq (.bool r)) := by
  unfold m_impl_allWithin_1 at h
  refine CallJ.enterH Tryd.func104 rfl Tryd.ntmps104 rfl fun W I0 H => ?_
  refine Tr.weak (Γ' := [(0, (pEq (.int .i64 n_0))), (1, (pPtr ((cK .i64) a_1))), (2, (pPtr ((cK .i64) a_2)))]) ⟨rfl, rfl, rfl, trivial⟩ ?_
  refine Tr.seq ?_
  refine Tr.region ?_
  refine RegL.pure (p := (pEq (.bool false))) rfl rfl rfl (J_assign rfl Opd.con) ?_
  refine RegL.nil ?_
  refine Ct.then_tr ?_
  refine Tr.weak (Γ' := [(0, (pEq (.int .i64 n_0))), (1, (pPtr ((cK .i64) a_1))), (2, (pPtr ((cK .i64) a_2)))]) ⟨rfl, rfl, rfl, trivial⟩ ?_
  refine Tr.seq ?_
  refine Tr.region ?_
  refine RegL.pure (p := (pEq (.int .i64 n_0))) rfl rfl rfl (J_move rfl (Opd.tmp rfl)) ?_
  refine RegL.pure (p := (pEq (.int .i64 a_1))) rfl rfl rfl (J_load rfl Tryd.isAgg2 (Opd.tmp rfl)) ?_
  refine RegL.pure (p := (pEq (.int .i64 a_2))) rfl rfl rfl (J_load rfl Tryd.isAgg2 (Opd.tmp rfl)) ?_
  replace h := bind_some h; obtain ⟨x1, hx1, h⟩ := h
  refine RegL.pure (p := (pEq (.bool x1))) rfl rfl rfl (J_call rfl Tryd.call57 (c_impl_within hx1) (Opds.cons (Opd.tmp rfl) (Opds.cons (Opd.tmp rfl) (Opds.cons (Opd.tmp rfl) Opds.nil)))) ?_
  refine RegL.pure (p := (pEq (.bool (!x1)))) rfl rfl rfl (J_not rfl (Opd.tmp rfl)) ?_
  refine RegL.pure (p := (pEq (.bool (!x1)))) rfl rfl rfl (J_assign rfl (Opd.tmp rfl)) ?_
  refine RegL.nil ?_
  refine Ct.then_tr ?_
  refine Tr.weak (Γ' := [(4, (pEq (.bool (!x1))))]) ⟨rfl, trivial⟩ ?_
  refine Tr.ret ?_
  replace h := Option.some.inj h; subst h
  exact Ct.retH1 (Ωx := []) () rfl (RvOk.tmp rfl) rfl

theorem c_slices_IndexFunc_int64_int64 {s_0 : (List Int)} {f_1 : (Int → Option Bool)} {r : Int} (h : m_slices_IndexFunc_int64_int64 s_0 f_1 = some r) : CallJ Tryd.prog 124 [(pSl 1 (cK .i64) s_0), (pFn Tryd.prog (fun x => [(pEq (.int .i64 x))]) f_1 (fun y => (pEq (.bool y))))] (pEq (.int .i64 r)) := by
  unfold m_slices_IndexFunc_int64_int64 at h
  refine CallJ.enterH Tryd.func124 rfl Tryd.ntmps124 rfl fun W I0 H => ?_
  refine Tr.weak (Γ' := [(0, (pSl 1 (cK .i64) s_0)), (1, (pFn Tryd.prog (fun x => [(pEq (.int .i64 x))]) f_1 (fun y => (pEq (.bool y)))))]) ⟨rfl, rfl, trivial⟩ ?_
  refine Tr.seq ?_
  refine Tr.region ?_
  refine RegL.pure (p := (pEq (.int .i64 (0 : Int)))) rfl rfl rfl (J_assign rfl Opd.con) ?_
  refine RegL.nil ?_
  refine Ct.then_tr ?_
  refine Tr.weak (Γ' := [(0, (pSl 1 (cK .i64) s_0)), (1, (pFn Tryd.prog (fun x => [(pEq (.int .i64 x))]) f_1 (fun y => (pEq (.bool y)))))]) ⟨rfl, rfl, trivial⟩ ?_
  refine Tr.seq ?_
  refine Tr.seq ?_
  refine Tr.region ?_
  refine RegL.pure (p := (pSl 1 (cK .i64) s_0)) rfl rfl rfl (J_move rfl (Opd.tmp rfl)) ?_
  refine RegL.pure (p := (pEq (.int .i64 (s_0.length : Int)))) rfl rfl rfl (J_len rfl Tryd.underlying22 (Opd.tmp rfl) rfl) ?_
  refine RegL.pure (p := (pEq (.int .i64 (0 : Int)))) rfl rfl rfl (J_move rfl Opd.con) ?_
  refine RegL.nil ?_
  refine Ct.then_tr ?_
  refine Tr.weak (Γ' := [(0, (pSl 1 (cK .i64) s_0)), (1, (pFn Tryd.prog (fun x => [(pEq (.int .i64 x))]) f_1 (fun y => (pEq (.bool y))))), (7, (pEq (.int .i64 (s_0.length : Int)))), (8, (pEq (.int .i64 (0 : Int))))]) ⟨rfl, rfl, rfl, rfl, trivial⟩ ?_
  refine Tr.block ?_
  refine Tr.weak (Γ' := [(0, (pSl 1 (cK .i64) s_0)), (1, (pFn Tryd.prog (fun x => [(pEq (.int .i64 x))]) f_1 (fun y => (pEq (.bool y))))), (7, (pEq (.int .i64 (s_0.length : Int)))), (8, (pEq (.int .i64 (0 : Int))))]) ⟨rfl, rfl, rfl, rfl, trivial⟩ ?_
  refine Tr.loop (γ := Unit) (σ := Int) (Γσ := fun s g => [(0, (pSl 1 (cK .i64) s_0)), (1, (pFn Tryd.prog (fun x => [(pEq (.int .i64 x))]) f_1 (fun y => (pEq (.bool y))))), (7, (pEq (.int .i64 (s_0.length : Int)))), (8, (pEq (.int .i64 s)))]) (Ωσ := fun s g => []) (g := ()) h ?_
  clear h
  rintro v2 g3 t h
  replace h : m_slices_IndexFunc_int64_int64_B1 s_0 f_1 v2 = some t := h
  unfold m_slices_IndexFunc_int64_int64_B1 at h
  refine Tr.weakO (Γ' := [(0, (pSl 1 (cK .i64) s_0)), (1, (pFn Tryd.prog (fun x => [(pEq (.int .i64 x))]) f_1 (fun y => (pEq (.bool y))))), (7, (pEq (.int .i64 (s_0.length : Int)))), (8, (pEq (.int .i64 v2)))]) (Ω' := []) rfl ⟨rfl, rfl, rfl, rfl, trivial⟩ ?_
  refine Tr.seq ?_
  refine Tr.region ?_
  refine RegL.pure (p := (pEq (.bool (decide (v2 < (s_0.length : Int)))))) rfl rfl rfl (J_bin rfl (Opd.tmp rfl) (Opd.tmp rfl) B_lss) ?_
  refine RegL.nil ?_
  refine Ct.then_tr ?_
  refine Tr.weak (Γ' := [(0, (pSl 1 (cK .i64) s_0)), (1, (pFn Tryd.prog (fun x => [(pEq (.int .i64 x))]) f_1 (fun y => (pEq (.bool y))))), (7, (pEq (.int .i64 (s_0.length : Int)))), (8, (pEq (.int .i64 v2))), (9, (pEq (.bool (decide (v2 < (s_0.length : Int))))))]) ⟨rfl, rfl, rfl, rfl, rfl, trivial⟩ ?_
  refine Tr.seq ?_
  refine Tr.cond (Opd.tmp rfl) (fun hc => ?_) (fun hc => ?_)
  · replace h := bif_t hc h
    refine Tr.skip ?_
    refine Ct.then_tr ?_
    refine Tr.weak (Γ' := [(0, (pSl 1 (cK .i64) s_0)), (1, (pFn Tryd.prog (fun x => [(pEq (.int .i64 x))]) f_1 (fun y => (pEq (.bool y))))), (7, (pEq (.int .i64 (s_0.length : Int)))), (8, (pEq (.int .i64 v2)))]) ⟨rfl, rfl, rfl, rfl, trivial⟩ ?_
    refine Tr.seq ?_
    refine Tr.block ?_
    refine Tr.seq ?_
    refine Tr.region ?_
    refine RegL.pure (p := (pEq (.int .i64 v2))) rfl rfl rfl (J_move rfl (Opd.tmp rfl)) ?_
    refine RegL.pure (p := (pEq (.int .i64 v2))) rfl rfl rfl (J_assign rfl (Opd.tmp rfl)) ?_
    refine RegL.nil ?_
    refine Ct.then_tr ?_
    refine Tr.weak (Γ' := [(0, (pSl 1 (cK .i64) s_0)), (1, (pFn Tryd.prog (fun x => [(pEq (.int .i64 x))]) f_1 (fun y => (pEq (.bool y))))), (5, (pEq (.int .i64 v2))), (7, (pEq (.int .i64 (s_0.length : Int)))), (8, (pEq (.int .i64 v2)))]) ⟨rfl, rfl, rfl, rfl, rfl, trivial⟩ ?_
    refine Tr.seq ?_
    refine Tr.region ?_
    refine RegL.pure (p := (pFn Tryd.prog (fun x => [(pEq (.int .i64 x))]) f_1 (fun y => (pEq (.bool y))))) rfl rfl rfl (J_move rfl (Opd.tmp rfl)) ?_
    refine RegL.pure (p := (pSl 1 (cK .i64) s_0)) rfl rfl rfl (J_move rfl (Opd.tmp rfl)) ?_
    refine RegL.pure (p := (pEq (.int .i64 v2))) rfl rfl rfl (J_move rfl (Opd.tmp rfl)) ?_
    replace h := bind_some h; obtain ⟨x4, hx4, h⟩ := h
    refine RegL.pure (p := (pPtr ((cK .i64) x4))) rfl rfl rfl (J_idx rfl Tryd.underlying22 sz2 (Opd.tmp rfl) (Opd.tmp rfl) hx4) ?_
    refine RegL.pure (p := (pEq (.int .i64 x4))) rfl rfl rfl (J_load rfl Tryd.isAgg2 (Opd.tmp rfl)) ?_
    replace h := bind_some h; obtain ⟨x5, hx5, h⟩ := h
    refine RegL.pure (p := (pEq (.bool x5))) rfl rfl rfl (J_callv (x := x4) rfl (Opd.tmp rfl) rfl (Opds.cons (Opd.tmp rfl) Opds.nil) hx5 rfl) ?_
    refine RegL.nil ?_
    refine Ct.then_tr ?_
    refine Tr.weak (Γ' := [(0, (pSl 1 (cK .i64) s_0)), (1, (pFn Tryd.prog (fun x => [(pEq (.int .i64 x))]) f_1 (fun y => (pEq (.bool y))))), (5, (pEq (.int .i64 v2))), (7, (pEq (.int .i64 (s_0.length : Int)))), (8, (pEq (.int .i64 v2))), (16, (pEq (.bool x5)))]) ⟨rfl, rfl, rfl, rfl, rfl, rfl, trivial⟩ ?_
    refine Tr.cond (Opd.tmp rfl) (fun hc => ?_) (fun hc => ?_)
    · replace h := bif_t hc h
      refine Tr.seq ?_
      refine Tr.region ?_
      refine RegL.pure (p := (pEq (.int .i64 v2))) rfl rfl rfl (J_move rfl (Opd.tmp rfl)) ?_
      refine RegL.pure (p := (pEq (.int .i64 v2))) rfl rfl rfl (J_assign rfl (Opd.tmp rfl)) ?_
      refine RegL.nil ?_
      refine Ct.then_tr ?_
      refine Tr.weak (Γ' := [(4, (pEq (.int .i64 v2)))]) ⟨rfl, trivial⟩ ?_
      refine Tr.ret ?_
      refine Ct.blk_ret ?_
      refine Ct.then_ret ?_
      replace h := map_some h; obtain ⟨r1, h, rfl⟩ := h
      refine Ct.out_ret fun e => ?_
      subst e
      refine Ct.blk_ret ?_
      refine Ct.then_ret ?_
      replace h := Option.some.inj h; subst h
      exact Ct.retH1 (Ωx := []) () rfl (RvOk.tmp rfl) rfl
    · replace h := bif_f hc h
      refine Tr.skip ?_
      refine Ct.blk_normal ?_
      refine Ct.then_tr ?_
      refine Tr.weak (Γ' := [(0, (pSl 1 (cK .i64) s_0)), (1, (pFn Tryd.prog (fun x => [(pEq (.int .i64 x))]) f_1 (fun y => (pEq (.bool y))))), (7, (pEq (.int .i64 (s_0.length : Int)))), (8, (pEq (.int .i64 v2)))]) ⟨rfl, rfl, rfl, rfl, trivial⟩ ?_
      refine Tr.region ?_
      refine RegL.pure (p := (pEq (.int .i64 (w64 (v2 + (1 : Int)))))) rfl rfl rfl (J_bin rfl (Opd.tmp rfl) Opd.con B_add) ?_
      refine RegL.pure (p := (pEq (.int .i64 (w64 (v2 + (1 : Int)))))) rfl rfl rfl (J_move rfl (Opd.tmp rfl)) ?_
      refine RegL.nil ?_
      replace h := Option.some.inj h; subst h
      exact Ct.again () rfl ⟨rfl, rfl, rfl, rfl, trivial⟩
  · replace h := bif_f hc h
    refine Tr.exit ?_
    refine Ct.then_exit ?_
    replace h := map_some h; obtain ⟨r1, h, rfl⟩ := h
    refine Ct.out_exit fun e => ?_
    subst e
    refine Ct.blk_exit ?_
    refine Ct.then_tr ?_
    refine Tr.weak (Γ' := []) trivial ?_
    refine Tr.seq ?_
    refine Tr.region ?_
    refine RegL.pure (p := (pEq (.int .i64 (-1 : Int)))) rfl rfl rfl (J_assign rfl Opd.con) ?_
    refine RegL.nil ?_
    refine Ct.then_tr ?_
    refine Tr.weak (Γ' := [(4, (pEq (.int .i64 (-1 : Int))))]) ⟨rfl, trivial⟩ ?_
    refine Tr.ret ?_
    replace h := Option.some.inj h; subst h
    exact Ct.retH1 (Ωx := []) () rfl (RvOk.tmp rfl) rfl

theorem c_slices_ContainsFunc_int64_int64 {s_0 : (List Int)} {f_1 : (Int → Option Bool)} {r : Bool} (h : m_slices_ContainsFunc_int64_int64 s_0 f_1 = some r) : CallJ Tryd.prog 103 [(pSl 1 (cK .i64) s_0), (pFn Tryd.prog (fun x => [(pEq (.int .i64 x))]) f_1 (fun y => (pEq (.bool y))))] (pEq (.bool r)) := by
  unfold m_slices_ContainsFunc_int64_int64 at h
  refine CallJ.enterH Tryd.func103 rfl Tryd.ntmps103 rfl fun W I0 H => ?_
  refine Tr.weak (Γ' := [(0, (pSl 1 (cK .i64) s_0)), (1, (pFn Tryd.prog (fun x => [(pEq (.int .i64 x))]) f_1 (fun y => (pEq (.bool y)))))]) ⟨rfl, rfl, trivial⟩ ?_
  refine Tr.seq ?_
  refine Tr.region ?_
  refine RegL.pure (p := (pEq (.bool false))) rfl rfl rfl (J_assign rfl Opd.con) ?_
  refine RegL.nil ?_
  refine Ct.then_tr ?_
  refine Tr.weak (Γ' := [(0, (pSl 1 (cK .i64) s_0)), (1, (pFn Tryd.prog (fun x => [(pEq (.int .i64 x))]) f_1 (fun y => (pEq (.bool y)))))]) ⟨rfl, rfl, trivial⟩ ?_
  refine Tr.seq ?_
  refine Tr.region ?_
  refine RegL.pure (p := (pSl 1 (cK .i64) s_0)) rfl rfl rfl (J_move rfl (Opd.tmp rfl)) ?_
  refine RegL.pure (p := (pFn Tryd.prog (fun x => [(pEq (.int .i64 x))]) f_1 (fun y => (pEq (.bool y))))) rfl rfl rfl (J_move rfl (Opd.tmp rfl)) ?_
  replace h := bind_some h; obtain ⟨x1, hx1, h⟩ := h
  refine RegL.pure (p := (pEq (.int .i64 x1))) rfl rfl rfl (J_call rfl Tryd.call124 (c_slices_IndexFunc_int64_int64 hx1) (Opds.cons (Opd.tmp rfl) (Opds.cons (Opd.tmp rfl) Opds.nil))) ?_
  refine RegL.pure (p := (pEq (.bool (decide ((0 : Int) ≤ x1))))) rfl rfl rfl (J_bin rfl (Opd.tmp rfl) Opd.con B_geq) ?_
  refine RegL.pure (p := (pEq (.bool (decide ((0 : Int) ≤ x1))))) rfl rfl rfl (J_assign rfl (Opd.tmp rfl)) ?_
  refine RegL.nil ?_
  refine Ct.then_tr ?_
  refine Tr.weak (Γ' := [(4, (pEq (.bool (decide ((0 : Int) ≤ x1)))))]) ⟨rfl, trivial⟩ ?_
  refine Tr.ret ?_
  replace h := Option.some.inj h; subst h
  exact Ct.retH1 (Ωx := []) () rfl (RvOk.tmp rfl) rfl

theorem c_impl_allWithin {list_0 : (List Int)} {low_1 : Int} {high_2 : Int} {r : Bool} (h : m_impl_allWithin list_0 low_1 high_2 = some r) : CallJ Tryd.prog 71 [(pSl 1 (cK .i64) list_0), (pEq (.int .i64 low_1)), (pEq (.int .i64 high_2))] (pEq (.bool r)) := by
  unfold m_impl_allWithin at h
  refine CallJ.enterH Tryd.func71 rfl Tryd.ntmps71 rfl fun W I0 H => ?_
  refine Tr.weak (Γ' := [(0, (pSl 1 (cK .i64) list_0)), (1, (pEq (.int .i64 low_1))), (2, (pEq (.int .i64 high_2)))]) ⟨rfl, rfl, rfl, trivial⟩ ?_
  refine Tr.seq ?_
  refine Tr.region ?_
  refine RegL.pure (p := (pPtr ((cK .i64) low_1))) rfl rfl rfl (J_box rfl (Opd.tmp rfl) OneC.int) ?_
  refine RegL.pure (p := (pPtr ((cK .i64) high_2))) rfl rfl rfl (J_box rfl (Opd.tmp rfl) OneC.int) ?_
  refine RegL.pure (p := (pEq (.bool false))) rfl rfl rfl (J_assign rfl Opd.con) ?_
  refine RegL.nil ?_
  refine Ct.then_tr ?_
  refine Tr.weak (Γ' := [(0, (pSl 1 (cK .i64) list_0)), (4, (pPtr ((cK .i64) low_1))), (5, (pPtr ((cK .i64) high_2)))]) ⟨rfl, rfl, rfl, trivial⟩ ?_
  refine Tr.seq ?_
  refine Tr.region ?_
  refine RegL.pure (p := (pSl 1 (cK .i64) list_0)) rfl rfl rfl (J_move rfl (Opd.tmp rfl)) ?_
  refine RegL.pure (p := (pFn Tryd.prog (fun x => [(pEq (.int .i64 x))]) (fun x => m_impl_allWithin_1 x low_1 high_2) (fun y => (pEq (.bool y))))) rfl rfl rfl (J_makeFn rfl Tryd.call104 (Opds.cons (Opd.tmp rfl) (Opds.cons (Opd.tmp rfl) Opds.nil)) (fun _ _ h => c_impl_allWithin_1 h)) ?_
  replace h := bind_some h; obtain ⟨x1, hx1, h⟩ := h
  refine RegL.pure (p := (pEq (.bool x1))) rfl rfl rfl (J_call rfl Tryd.call103 (c_slices_ContainsFunc_int64_int64 hx1) (Opds.cons (Opd.tmp rfl) (Opds.cons (Opd.tmp rfl) Opds.nil))) ?_
  refine RegL.pure (p := (pEq (.bool (!x1)))) rfl rfl rfl (J_not rfl (Opd.tmp rfl)) ?_
  refine RegL.pure (p := (pEq (.bool (!x1)))) rfl rfl rfl (J_assign rfl (Opd.tmp rfl)) ?_
  refine RegL.nil ?_
  refine Ct.then_tr ?_
  refine Tr.weak (Γ' := [(6, (pEq (.bool (!x1))))]) ⟨rfl, trivial⟩ ?_
  refine Tr.ret ?_
  replace h := Option.some.inj h; subst h
  exact Ct.retH1 (Ωx := []) () rfl (RvOk.tmp rfl) rfl

theorem c_impl_rowOk {row_0 : (List Int)} {r : Bool} (h : m_impl_rowOk row_0 = some r) : CallJ Tryd.prog 40 [(pSl 1 (cK .i64) row_0)] (pEq (.bool r)) := by
  unfold m_impl_rowOk at h
  refine CallJ.enterH Tryd.func40 rfl Tryd.ntmps40 rfl fun W I0 H => ?_
  refine Tr.weak (Γ' := [(0, (pSl 1 (cK .i64) row_0))]) ⟨rfl, trivial⟩ ?_
  refine Tr.seq ?_
  refine Tr.region ?_
  refine RegL.pure (p := (pEq (.bool false))) rfl rfl rfl (J_assign rfl Opd.con) ?_
  refine RegL.nil ?_
  refine Ct.then_tr ?_
  refine Tr.weak (Γ' := [(0, (pSl 1 (cK .i64) row_0))]) ⟨rfl, trivial⟩ ?_
  refine Tr.seq ?_
  replace h := bind_some h; obtain ⟨x1, hx1, h⟩ := h
  refine Tr.cut (γ := Unit) (Γm := fun g => [(2, (pEq (.bool x1)))]) (Ωm := fun g => []) ?_ (fun g5 => ?_)
  · clear h
    have h := hx1
    clear hx1
    refine Tr.region ?_
    refine RegL.pure (p := (pSl 1 (cK .i64) row_0)) rfl rfl rfl (J_move rfl (Opd.tmp rfl)) ?_
    refine RegL.pure (p := (pEq (.int .i64 (row_0.length : Int)))) rfl rfl rfl (J_len rfl Tryd.underlying22 (Opd.tmp rfl) rfl) ?_
    refine RegL.pure (p := (pEq (.bool (decide ((1 : Int) ≤ (row_0.length : Int)))))) rfl rfl rfl (J_bin rfl (Opd.tmp rfl) Opd.con B_geq) ?_
    refine RegL.pure (p := (pEq (.bool (decide ((1 : Int) ≤ (row_0.length : Int)))))) rfl rfl rfl (J_move rfl (Opd.tmp rfl)) ?_
    rcases Bool.eq_false_or_eq_true (decide ((1 : Int) ≤ (row_0.length : Int))) with hc2 | hc2
    · replace h := bif_t hc2 h
      refine RegL.pureG (p := (pSl 1 (cK .i64) row_0)) rfl rfl rfl hc2 rfl rfl (J_move rfl (Opd.tmp rfl)) ?_
      refine RegL.pureG (p := (pEq (.int .i64 (row_0.length : Int)))) rfl rfl rfl hc2 rfl rfl (J_len rfl Tryd.underlying22 (Opd.tmp rfl) rfl) ?_
      refine RegL.pureG (p := (pEq (.bool (decide ((row_0.length : Int) ≤ (24 : Int)))))) rfl rfl rfl hc2 rfl rfl (J_bin rfl (Opd.tmp rfl) Opd.con B_leq) ?_
      refine RegL.pure (p := (pEq (.bool (decide ((row_0.length : Int) ≤ (24 : Int)))))) rfl rfl rfl (J_pick rfl (Opd.tmp rfl) (fun _ => (Opd.tmp rfl)) (fun hf => absurd (hc2.symm.trans hf) (by decide))) ?_
      refine RegL.pure (p := (pEq (.bool (decide ((row_0.length : Int) ≤ (24 : Int)))))) rfl rfl rfl (J_move rfl (Opd.tmp rfl)) ?_
      rcases Bool.eq_false_or_eq_true (decide ((row_0.length : Int) ≤ (24 : Int))) with hc3 | hc3
      · replace h := bif_t hc3 h
        refine RegL.pureG (p := (pSl 1 (cK .i64) row_0)) rfl rfl rfl hc3 rfl rfl (J_move rfl (Opd.tmp rfl)) ?_
        replace h := bind_some h; obtain ⟨x4, hx4, h⟩ := h
        refine RegL.pureG (p := (pEq (.bool x4))) rfl rfl rfl hc3 rfl rfl (J_call rfl Tryd.call71 (c_impl_allWithin hx4) (Opds.cons (Opd.tmp rfl) (Opds.cons Opd.con (Opds.cons Opd.con Opds.nil)))) ?_
        refine RegL.pure (p := (pEq (.bool x4))) rfl rfl rfl (J_pick rfl (Opd.tmp rfl) (fun _ => (Opd.tmp rfl)) (fun hf => absurd (hc3.symm.trans hf) (by decide))) ?_
        refine RegL.pure (p := (pEq (.bool x4))) rfl rfl rfl (J_assign rfl (Opd.tmp rfl)) ?_
        refine RegL.nil ?_
        replace h := Option.some.inj h; subst h
        exact Ct.mid () rfl ⟨rfl, trivial⟩
      · replace h := bif_f hc3 h
        refine RegL.skipG rfl rfl rfl hc3 rfl rfl ?_
        refine RegL.skipG rfl rfl rfl hc3 rfl rfl ?_
        refine RegL.pure (p := (pEq (.bool false))) rfl rfl rfl (J_pick rfl (Opd.tmp rfl) (fun hf => absurd (hc3.symm.trans hf) (by decide)) (fun _ => Opd.con)) ?_
        refine RegL.pure (p := (pEq (.bool false))) rfl rfl rfl (J_assign rfl (Opd.tmp rfl)) ?_
        refine RegL.nil ?_
        replace h := Option.some.inj h; subst h
        exact Ct.mid () rfl ⟨rfl, trivial⟩
    · replace h := bif_f hc2 h
      refine RegL.skipG rfl rfl rfl hc2 rfl rfl ?_
      refine RegL.skipG rfl rfl rfl hc2 rfl rfl ?_
      refine RegL.skipG rfl rfl rfl hc2 rfl rfl ?_
      refine RegL.pure (p := (pEq (.bool false))) rfl rfl rfl (J_pick rfl (Opd.tmp rfl) (fun hf => absurd (hc2.symm.trans hf) (by decide)) (fun _ => Opd.con)) ?_
      refine RegL.pure (p := (pEq (.bool false))) rfl rfl rfl (J_move rfl (Opd.tmp rfl)) ?_
      refine RegL.skipG rfl rfl rfl rfl rfl rfl ?_
      refine RegL.skipG rfl rfl rfl rfl rfl rfl ?_
      refine RegL.pure (p := (pEq (.bool false))) rfl rfl rfl (J_pick rfl (Opd.tmp rfl) (fun hf => absurd hf (by decide)) (fun _ => Opd.con)) ?_
      refine RegL.pure (p := (pEq (.bool false))) rfl rfl rfl (J_assign rfl (Opd.tmp rfl)) ?_
      refine RegL.nil ?_
      replace h := Option.some.inj h; subst h
      exact Ct.mid () rfl ⟨rfl, trivial⟩
  · clear hx1
    refine Ct.then_tr ?_
    refine Tr.weak (Γ' := [(2, (pEq (.bool x1)))]) ⟨rfl, trivial⟩ ?_
    refine Tr.ret ?_
    replace h := Option.some.inj h; subst h
    exact Ct.retH1 (Ωx := []) () rfl (RvOk.tmp rfl) rfl

theorem c_impl_ValidRows_1 {row_0 : (List Int)} {a_1 : (List (List Int))} {r : Bool} (h : m_impl_ValidRows_1 row_0 a_1 = some r) : CallJ Tryd.prog 76 [(pSl 1 (cK .i64) row_0), (pPtr ((cSl 1 (cSl 1 (cK .i64))) a_1))] (pEq (.bool r)) := by
  unfold m_impl_ValidRows_1 at h
  refine CallJ.enterH Tryd.func76 rfl Tryd.ntmps76 rfl fun W I0 H => ?_
  refine Tr.weak (Γ' := [(0, (pSl 1 (cK .i64) row_0)), (1, (pPtr ((cSl 1 (cSl 1 (cK .i64))) a_1)))]) ⟨rfl, rfl, trivial⟩ ?_
  refine Tr.seq ?_
  refine Tr.region ?_
  refine RegL.pure (p := (pEq (.bool false))) rfl rfl rfl (J_assign rfl Opd.con) ?_
  refine RegL.nil ?_
  refine Ct.then_tr ?_
  refine Tr.weak (Γ' := [(0, (pSl 1 (cK .i64) row_0)), (1, (pPtr ((cSl 1 (cSl 1 (cK .i64))) a_1)))]) ⟨rfl, rfl, trivial⟩ ?_
  refine Tr.seq ?_
  replace h := bind_some h; obtain ⟨x1, hx1, h⟩ := h
  refine Tr.cut (γ := Unit) (Γm := fun g => [(3, (pEq (.bool x1)))]) (Ωm := fun g => []) ?_ (fun g5 => ?_)
  · clear h
    have h := hx1
    clear hx1
    refine Tr.region ?_
    refine RegL.pure (p := (pSl 1 (cK .i64) row_0)) rfl rfl rfl (J_move rfl (Opd.tmp rfl)) ?_
    replace h := bind_some h; obtain ⟨x2, hx2, h⟩ := h
    refine RegL.pure (p := (pEq (.bool x2))) rfl rfl rfl (J_call rfl Tryd.call40 (c_impl_rowOk hx2) (Opds.cons (Opd.tmp rfl) Opds.nil)) ?_
    refine RegL.pure (p := (pEq (.bool (!x2)))) rfl rfl rfl (J_not rfl (Opd.tmp rfl)) ?_
    refine RegL.pure (p := (pEq (.bool (!x2)))) rfl rfl rfl (J_move rfl (Opd.tmp rfl)) ?_
    rcases Bool.eq_false_or_eq_true (!x2) with hc3 | hc3
    · replace h := bif_t hc3 h
      refine RegL.skipG rfl rfl rfl hc3 rfl rfl ?_
      refine RegL.skipG rfl rfl rfl hc3 rfl rfl ?_
      refine RegL.skipG rfl rfl rfl hc3 rfl rfl ?_
      refine RegL.skipG rfl rfl rfl hc3 rfl rfl ?_
      refine RegL.skipG rfl rfl rfl hc3 rfl rfl ?_
      refine RegL.skipG rfl rfl rfl hc3 rfl rfl ?_
      refine RegL.skipG rfl rfl rfl hc3 rfl rfl ?_
      refine RegL.pure (p := (pEq (.bool true))) rfl rfl rfl (J_pick rfl (Opd.tmp rfl) (fun _ => Opd.con) (fun hf => absurd (hc3.symm.trans hf) (by decide))) ?_
      refine RegL.pure (p := (pEq (.bool true))) rfl rfl rfl (J_assign rfl (Opd.tmp rfl)) ?_
      refine RegL.nil ?_
      replace h := Option.some.inj h; subst h
      exact Ct.mid () rfl ⟨rfl, trivial⟩
    · replace h := bif_f hc3 h
      refine RegL.pureG (p := (pSl 1 (cK .i64) row_0)) rfl rfl rfl hc3 rfl rfl (J_move rfl (Opd.tmp rfl)) ?_
      refine RegL.pureG (p := (pEq (.int .i64 (row_0.length : Int)))) rfl rfl rfl hc3 rfl rfl (J_len rfl Tryd.underlying22 (Opd.tmp rfl) rfl) ?_
      refine RegL.pureG (p := (pSl 1 (cSl 1 (cK .i64)) a_1)) rfl rfl rfl hc3 rfl rfl (J_load rfl Tryd.isAgg28 (Opd.tmp rfl)) ?_
      replace h := bind_some h; obtain ⟨x4, hx4, h⟩ := h
      refine RegL.pureG (p := (pPtr ((cSl 1 (cK .i64)) x4))) rfl rfl rfl hc3 rfl rfl (J_idx rfl Tryd.underlying28 sz22 (Opd.tmp rfl) Opd.con hx4) ?_
      refine RegL.pureG (p := (pSl 1 (cK .i64) x4)) rfl rfl rfl hc3 rfl rfl (J_load rfl Tryd.isAgg22 (Opd.tmp rfl)) ?_
      refine RegL.pureG (p := (pEq (.int .i64 (x4.length : Int)))) rfl rfl rfl hc3 rfl rfl (J_len rfl Tryd.underlying22 (Opd.tmp rfl) rfl) ?_
      refine RegL.pureG (p := (pEq (.bool ((row_0.length : Int) != (x4.length : Int))))) rfl rfl rfl hc3 rfl rfl (J_bin rfl (Opd.tmp rfl) (Opd.tmp rfl) B_neq) ?_
      refine RegL.pure (p := (pEq (.bool ((row_0.length : Int) != (x4.length : Int))))) rfl rfl rfl (J_pick rfl (Opd.tmp rfl) (fun hf => absurd (hc3.symm.trans hf) (by decide)) (fun _ => (Opd.tmp rfl))) ?_
      refine RegL.pure (p := (pEq (.bool ((row_0.length : Int) != (x4.length : Int))))) rfl rfl rfl (J_assign rfl (Opd.tmp rfl)) ?_
      refine RegL.nil ?_
      replace h := Option.some.inj h; subst h
      exact Ct.mid () rfl ⟨rfl, trivial⟩
  · clear hx1
    refine Ct.then_tr ?_
    refine Tr.weak (Γ' := [(3, (pEq (.bool x1)))]) ⟨rfl, trivial⟩ ?_
    refine Tr.ret ?_
    replace h := Option.some.inj h; subst h
    exact Ct.retH1 (Ωx := []) () rfl (RvOk.tmp rfl) rfl

theorem c_slices_IndexFunc_SSint64_int64 {s_0 : (List (List Int))} {f_1 : ((List Int) → Option Bool)} {r : Int} (h : m_slices_IndexFunc_SSint64_int64 s_0 f_1 = some r) : CallJ Tryd.prog 106 [(pSl 1 (cSl 1 (cK .i64)) s_0), (pFn Tryd.prog (fun x => [(pSl 1 (cK .i64) x)]) f_1 (fun y => (pEq (.bool y))))] (pEq (.int .i64 r)) := by
  unfold m_slices_IndexFunc_SSint64_int64 at h
  refine CallJ.enterH Tryd.func106 rfl Tryd.ntmps106 rfl fun W I0 H => ?_
  refine Tr.weak (Γ' := [(0, (pSl 1 (cSl 1 (cK .i64)) s_0)), (1, (pFn Tryd.prog (fun x => [(pSl 1 (cK .i64) x)]) f_1 (fun y => (pEq (.bool y)))))]) ⟨rfl, rfl, trivial⟩ ?_
  refine Tr.seq ?_
  refine Tr.region ?_
  refine RegL.pure (p := (pEq (.int .i64 (0 : Int)))) rfl rfl rfl (J_assign rfl Opd.con) ?_
  refine RegL.nil ?_
  refine Ct.then_tr ?_
  refine Tr.weak (Γ' := [(0, (pSl 1 (cSl 1 (cK .i64)) s_0)), (1, (pFn Tryd.prog (fun x => [(pSl 1 (cK .i64) x)]) f_1 (fun y => (pEq (.bool y)))))]) ⟨rfl, rfl, trivial⟩ ?_
  refine Tr.seq ?_
  refine Tr.seq ?_
  refine Tr.region ?_
  refine RegL.pure (p := (pSl 1 (cSl 1 (cK .i64)) s_0)) rfl rfl rfl (J_move rfl (Opd.tmp rfl)) ?_
  refine RegL.pure (p := (pEq (.int .i64 (s_0.length : Int)))) rfl rfl rfl (J_len rfl Tryd.underlying28 (Opd.tmp rfl) rfl) ?_
  refine RegL.pure (p := (pEq (.int .i64 (0 : Int)))) rfl rfl rfl (J_move rfl Opd.con) ?_
  refine RegL.nil ?_
  refine Ct.then_tr ?_
  refine Tr.weak (Γ' := [(0, (pSl 1 (cSl 1 (cK .i64)) s_0)), (1, (pFn Tryd.prog (fun x => [(pSl 1 (cK .i64) x)]) f_1 (fun y => (pEq (.bool y))))), (7, (pEq (.int .i64 (s_0.length : Int)))), (8, (pEq (.int .i64 (0 : Int))))]) ⟨rfl, rfl, rfl, rfl, trivial⟩ ?_
  refine Tr.block ?_
  refine Tr.weak (Γ' := [(0, (pSl 1 (cSl 1 (cK .i64)) s_0)), (1, (pFn Tryd.prog (fun x => [(pSl 1 (cK .i64) x)]) f_1 (fun y => (pEq (.bool y))))), (7, (pEq (.int .i64 (s_0.length : Int)))), (8, (pEq (.int .i64 (0 : Int))))]) ⟨rfl, rfl, rfl, rfl, trivial⟩ ?_
  refine Tr.loop (γ := Unit) (σ := Int) (Γσ := fun s g => [(0, (pSl 1 (cSl 1 (cK .i64)) s_0)), (1, (pFn Tryd.prog (fun x => [(pSl 1 (cK .i64) x)]) f_1 (fun y => (pEq (.bool y))))), (7, (pEq (.int .i64 (s_0.length : Int)))), (8, (pEq (.int .i64 s)))]) (Ωσ := fun s g => []) (g := ()) h ?_
  clear h
  rintro v2 g3 t h
  replace h : m_slices_IndexFunc_SSint64_int64_B1 s_0 f_1 v2 = some t := h
  unfold m_slices_IndexFunc_SSint64_int64_B1 at h
  refine Tr.weakO (Γ' := [(0, (pSl 1 (cSl 1 (cK .i64)) s_0)), (1, (pFn Tryd.prog (fun x => [(pSl 1 (cK .i64) x)]) f_1 (fun y => (pEq (.bool y))))), (7, (pEq (.int .i64 (s_0.length : Int)))), (8, (pEq (.int .i64 v2)))]) (Ω' := []) rfl ⟨rfl, rfl, rfl, rfl, trivial⟩ ?_
  refine Tr.seq ?_
  refine Tr.region ?_
  refine RegL.pure (p := (pEq (.bool (decide (v2 < (s_0.length : Int)))))) rfl rfl rfl (J_bin rfl (Opd.tmp rfl) (Opd.tmp rfl) B_lss) ?_
  refine RegL.nil ?_
  refine Ct.then_tr ?_
  refine Tr.weak (Γ' := [(0, (pSl 1 (cSl 1 (cK .i64)) s_0)), (1, (pFn Tryd.prog (fun x => [(pSl 1 (cK .i64) x)]) f_1 (fun y => (pEq (.bool y))))), (7, (pEq (.int .i64 (s_0.length : Int)))), (8, (pEq (.int .i64 v2))), (9, (pEq (.bool (decide (v2 < (s_0.length : Int))))))]) ⟨rfl, rfl, rfl, rfl, rfl, trivial⟩ ?_
  refine Tr.seq ?_
  refine Tr.cond (Opd.tmp rfl) (fun hc => ?_) (fun hc => ?_)
  · replace h := bif_t hc h
    refine Tr.skip ?_
    refine Ct.then_tr ?_
    refine Tr.weak (Γ' := [(0, (pSl 1 (cSl 1 (cK .i64)) s_0)), (1, (pFn Tryd.prog (fun x => [(pSl 1 (cK .i64) x)]) f_1 (fun y => (pEq (.bool y))))), (7, (pEq (.int .i64 (s_0.length : Int)))), (8, (pEq (.int .i64 v2)))]) ⟨rfl, rfl, rfl, rfl, trivial⟩ ?_
    refine Tr.seq ?_
    refine Tr.block ?_
    refine Tr.seq ?_
    refine Tr.region ?_
    refine RegL.pure (p := (pEq (.int .i64 v2))) rfl rfl rfl (J_move rfl (Opd.tmp rfl)) ?_
    refine RegL.pure (p := (pEq (.int .i64 v2))) rfl rfl rfl (J_assign rfl (Opd.tmp rfl)) ?_
    refine RegL.nil ?_
    refine Ct.then_tr ?_
    refine Tr.weak (Γ' := [(0, (pSl 1 (cSl 1 (cK .i64)) s_0)), (1, (pFn Tryd.prog (fun x => [(pSl 1 (cK .i64) x)]) f_1 (fun y => (pEq (.bool y))))), (5, (pEq (.int .i64 v2))), (7, (pEq (.int .i64 (s_0.length : Int)))), (8, (pEq (.int .i64 v2)))]) ⟨rfl, rfl, rfl, rfl, rfl, trivial⟩ ?_
    refine Tr.seq ?_
    refine Tr.region ?_
    refine RegL.pure (p := (pFn Tryd.prog (fun x => [(pSl 1 (cK .i64) x)]) f_1 (fun y => (pEq (.bool y))))) rfl rfl rfl (J_move rfl (Opd.tmp rfl)) ?_
    refine RegL.pure (p := (pSl 1 (cSl 1 (cK .i64)) s_0)) rfl rfl rfl (J_move rfl (Opd.tmp rfl)) ?_
    refine RegL.pure (p := (pEq (.int .i64 v2))) rfl rfl rfl (J_move rfl (Opd.tmp rfl)) ?_
    replace h := bind_some h; obtain ⟨x4, hx4, h⟩ := h
    refine RegL.pure (p := (pPtr ((cSl 1 (cK .i64)) x4))) rfl rfl rfl (J_idx rfl Tryd.underlying28 sz22 (Opd.tmp rfl) (Opd.tmp rfl) hx4) ?_
    refine RegL.pure (p := (pSl 1 (cK .i64) x4)) rfl rfl rfl (J_load rfl Tryd.isAgg22 (Opd.tmp rfl)) ?_
    replace h := bind_some h; obtain ⟨x5, hx5, h⟩ := h
    refine RegL.pure (p := (pEq (.bool x5))) rfl rfl rfl (J_callv (x := x4) rfl (Opd.tmp rfl) rfl (Opds.cons (Opd.tmp rfl) Opds.nil) hx5 rfl) ?_
    refine RegL.nil ?_
    refine Ct.then_tr ?_
    refine Tr.weak (Γ' := [(0, (pSl 1 (cSl 1 (cK .i64)) s_0)), (1, (pFn Tryd.prog (fun x => [(pSl 1 (cK .i64) x)]) f_1 (fun y => (pEq (.bool y))))), (5, (pEq (.int .i64 v2))), (7, (pEq (.int .i64 (s_0.length : Int)))), (8, (pEq (.int .i64 v2))), (16, (pEq (.bool x5)))]) ⟨rfl, rfl, rfl, rfl, rfl, rfl, trivial⟩ ?_
    refine Tr.cond (Opd.tmp rfl) (fun hc => ?_) (fun hc => ?_)
    · replace h := bif_t hc h
      refine Tr.seq ?_
      refine Tr.region ?_
      refine RegL.pure (p := (pEq (.int .i64 v2))) rfl rfl rfl (J_move rfl (Opd.tmp rfl)) ?_
      refine RegL.pure (p := (pEq (.int .i64 v2))) rfl rfl rfl (J_assign rfl (Opd.tmp rfl)) ?_
      refine RegL.nil ?_
      refine Ct.then_tr ?_
      refine Tr.weak (Γ' := [(4, (pEq (.int .i64 v2)))]) ⟨rfl, trivial⟩ ?_
      refine Tr.ret ?_
      refine Ct.blk_ret ?_
      refine Ct.then_ret ?_
      replace h := map_some h; obtain ⟨r1, h, rfl⟩ := h
      refine Ct.out_ret fun e => ?_
      subst e
      refine Ct.blk_ret ?_
      refine Ct.then_ret ?_
      replace h := Option.some.inj h; subst h
      exact Ct.retH1 (Ωx := []) () rfl (RvOk.tmp rfl) rfl
    · replace h := bif_f hc h
      refine Tr.skip ?_
      refine Ct.blk_normal ?_
      refine Ct.then_tr ?_
      refine Tr.weak (Γ' := [(0, (pSl 1 (cSl 1 (cK .i64)) s_0)), (1, (pFn Tryd.prog (fun x => [(pSl 1 (cK .i64) x)]) f_1 (fun y => (pEq (.bool y))))), (7, (pEq (.int .i64 (s_0.length : Int)))), (8, (pEq (.int .i64 v2)))]) ⟨rfl, rfl, rfl, rfl, trivial⟩ ?_
      refine Tr.region ?_
      refine RegL.pure (p := (pEq (.int .i64 (w64 (v2 + (1 : Int)))))) rfl rfl rfl (J_bin rfl (Opd.tmp rfl) Opd.con B_add) ?_
      refine RegL.pure (p := (pEq (.int .i64 (w64 (v2 + (1 : Int)))))) rfl rfl rfl (J_move rfl (Opd.tmp rfl)) ?_
      refine RegL.nil ?_
      replace h := Option.some.inj h; subst h
      exact Ct.again () rfl ⟨rfl, rfl, rfl, rfl, trivial⟩
  · replace h := bif_f hc h
    refine Tr.exit ?_
    refine Ct.then_exit ?_
    replace h := map_some h; obtain ⟨r1, h, rfl⟩ := h
    refine Ct.out_exit fun e => ?_
    subst e
    refine Ct.blk_exit ?_
    refine Ct.then_tr ?_
    refine Tr.weak (Γ' := []) trivial ?_
    refine Tr.seq ?_
    refine Tr.region ?_
    refine RegL.pure (p := (pEq (.int .i64 (-1 : Int)))) rfl rfl rfl (J_assign rfl Opd.con) ?_
    refine RegL.nil ?_
    refine Ct.then_tr ?_
    refine Tr.weak (Γ' := [(4, (pEq (.int .i64 (-1 : Int))))]) ⟨rfl, trivial⟩ ?_
    refine Tr.ret ?_
    replace h := Option.some.inj h; subst h
    exact Ct.retH1 (Ωx := []) () rfl (RvOk.tmp rfl) rfl

theorem c_slices_ContainsFunc_SSint64_int64 {s_0 : (List (List Int))} {f_1 : ((List Int) → Option Bool)} {r : Bool} (h : m_slices_ContainsFunc_SSint64_int64 s_0 f_1 = some r) : CallJ Tryd.prog 75 [(pSl 1 (cSl 1 (cK .i64)) s_0), (pFn Tryd.prog (fun x => [(pSl 1 (cK .i64) x)]) f_1 (fun y => (pEq (.bool y))))] (pEq (.bool r)) := by
  unfold m_slices_ContainsFunc_SSint64_int64 at h
  refine CallJ.enterH Tryd.func75 rfl Tryd.ntmps75 rfl fun W I0 H => ?_
  refine Tr.weak (Γ' := [(0, (pSl 1 (cSl 1 (cK .i64)) s_0)), (1, (pFn Tryd.prog (fun x => [(pSl 1 (cK .i64) x)]) f_1 (fun y => (pEq (.bool y)))))]) ⟨rfl, rfl, trivial⟩ ?_
  refine Tr.seq ?_
  refine Tr.region ?_
  refine RegL.pure (p := (pEq (.bool false))) rfl rfl rfl (J_assign rfl Opd.con) ?_
  refine RegL.nil ?_
  refine Ct.then_tr ?_
  refine Tr.weak (Γ' := [(0, (pSl 1 (cSl 1 (cK .i64)) s_0)), (1, (pFn Tryd.prog (fun x => [(pSl 1 (cK .i64) x)]) f_1 (fun y => (pEq (.bool y)))))]) ⟨rfl, rfl, trivial⟩ ?_
  refine Tr.seq ?_
  refine Tr.region ?_
  refine RegL.pure (p := (pSl 1 (cSl 1 (cK .i64)) s_0)) rfl rfl rfl (J_move rfl (Opd.tmp rfl)) ?_
  refine RegL.pure (p := (pFn Tryd.prog (fun x => [(pSl 1 (cK .i64) x)]) f_1 (fun y => (pEq (.bool y))))) rfl rfl rfl (J_move rfl (Opd.tmp rfl)) ?_
  replace h := bind_some h; obtain ⟨x1, hx1, h⟩ := h
  refine RegL.pure (p := (pEq (.int .i64 x1))) rfl rfl rfl (J_call rfl Tryd.call106 (c_slices_IndexFunc_SSint64_int64 hx1) (Opds.cons (Opd.tmp rfl) (Opds.cons (Opd.tmp rfl) Opds.nil))) ?_
  refine RegL.pure (p := (pEq (.bool (decide ((0 : Int) ≤ x1))))) rfl rfl rfl (J_bin rfl (Opd.tmp rfl) Opd.con B_geq) ?_
  refine RegL.pure (p := (pEq (.bool (decide ((0 : Int) ≤ x1))))) rfl rfl rfl (J_assign rfl (Opd.tmp rfl)) ?_
  refine RegL.nil ?_
  refine Ct.then_tr ?_
  refine Tr.weak (Γ' := [(4, (pEq (.bool (decide ((0 : Int) ≤ x1)))))]) ⟨rfl, trivial⟩ ?_
  refine Tr.ret ?_
  replace h := Option.some.inj h; subst h
  exact Ct.retH1 (Ωx := []) () rfl (RvOk.tmp rfl) rfl

theorem c_impl_ValidRows {rows_0 : (List (List Int))} {r : Bool} (h : m_impl_ValidRows rows_0 = some r) : CallJ Tryd.prog 48 [(pSl 1 (cSl 1 (cK .i64)) rows_0)] (pEq (.bool r)) := by
  unfold m_impl_ValidRows at h
  refine CallJ.enterH Tryd.func48 rfl Tryd.ntmps48 rfl fun W I0 H => ?_
  refine Tr.weak (Γ' := [(0, (pSl 1 (cSl 1 (cK .i64)) rows_0))]) ⟨rfl, trivial⟩ ?_
  refine Tr.seq ?_
  refine Tr.region ?_
  refine RegL.pure (p := (pPtr ((cSl 1 (cSl 1 (cK .i64))) rows_0))) rfl rfl rfl (J_box rfl (Opd.tmp rfl) OneC.sl) ?_
  refine RegL.pure (p := (pEq (.bool false))) rfl rfl rfl (J_assign rfl Opd.con) ?_
  refine RegL.nil ?_
  refine Ct.then_tr ?_
  refine Tr.weak (Γ' := [(1, (pPtr ((cSl 1 (cSl 1 (cK .i64))) rows_0)))]) ⟨rfl, trivial⟩ ?_
  refine Tr.seq ?_
  refine Tr.seq ?_
  replace h := bind_some h; obtain ⟨x1, hx1, h⟩ := h
  refine Tr.cut (γ := Unit) (Γm := fun g => [(1, (pPtr ((cSl 1 (cSl 1 (cK .i64))) rows_0))), (10, (pEq (.bool x1)))]) (Ωm := fun g => []) ?_ (fun g3 => ?_)
  · clear h
    have h := hx1
    clear hx1
    refine Tr.region ?_
    refine RegL.pure (p := (pSl 1 (cSl 1 (cK .i64)) rows_0)) rfl rfl rfl (J_load rfl Tryd.isAgg28 (Opd.tmp rfl)) ?_
    refine RegL.pure (p := (pEq (.int .i64 (rows_0.length : Int)))) rfl rfl rfl (J_len rfl Tryd.underlying28 (Opd.tmp rfl) rfl) ?_
    refine RegL.pure (p := (pEq (.bool (decide ((rows_0.length : Int) < (1 : Int)))))) rfl rfl rfl (J_bin rfl (Opd.tmp rfl) Opd.con B_lss) ?_
    refine RegL.pure (p := (pEq (.bool (decide ((rows_0.length : Int) < (1 : Int)))))) rfl rfl rfl (J_move rfl (Opd.tmp rfl)) ?_
    rcases Bool.eq_false_or_eq_true (decide ((rows_0.length : Int) < (1 : Int))) with hc2 | hc2
    · replace h := bif_t hc2 h
      refine RegL.skipG rfl rfl rfl hc2 rfl rfl ?_
      refine RegL.skipG rfl rfl rfl hc2 rfl rfl ?_
      refine RegL.skipG rfl rfl rfl hc2 rfl rfl ?_
      refine RegL.pure (p := (pEq (.bool true))) rfl rfl rfl (J_pick rfl (Opd.tmp rfl) (fun _ => Opd.con) (fun hf => absurd (hc2.symm.trans hf) (by decide))) ?_
      refine RegL.nil ?_
      replace h := Option.some.inj h; subst h
      exact Ct.mid () rfl ⟨rfl, rfl, trivial⟩
    · replace h := bif_f hc2 h
      refine RegL.pureG (p := (pSl 1 (cSl 1 (cK .i64)) rows_0)) rfl rfl rfl hc2 rfl rfl (J_load rfl Tryd.isAgg28 (Opd.tmp rfl)) ?_
      refine RegL.pureG (p := (pEq (.int .i64 (rows_0.length : Int)))) rfl rfl rfl hc2 rfl rfl (J_len rfl Tryd.underlying28 (Opd.tmp rfl) rfl) ?_
      refine RegL.pureG (p := (pEq (.bool (decide ((32 : Int) < (rows_0.length : Int)))))) rfl rfl rfl hc2 rfl rfl (J_bin rfl (Opd.tmp rfl) Opd.con B_gtr) ?_
      refine RegL.pure (p := (pEq (.bool (decide ((32 : Int) < (rows_0.length : Int)))))) rfl rfl rfl (J_pick rfl (Opd.tmp rfl) (fun hf => absurd (hc2.symm.trans hf) (by decide)) (fun _ => (Opd.tmp rfl))) ?_
      refine RegL.nil ?_
      replace h := Option.some.inj h; subst h
      exact Ct.mid () rfl ⟨rfl, rfl, trivial⟩
  · clear hx1
    refine Ct.then_tr ?_
    refine Tr.weak (Γ' := [(1, (pPtr ((cSl 1 (cSl 1 (cK .i64))) rows_0))), (10, (pEq (.bool x1)))]) ⟨rfl, rfl, trivial⟩ ?_
    refine Tr.cond (Opd.tmp rfl) (fun hc => ?_) (fun hc => ?_)
    · replace h := bif_t hc h
      refine Tr.seq ?_
      refine Tr.region ?_
      refine RegL.pure (p := (pEq (.bool false))) rfl rfl rfl (J_assign rfl Opd.con) ?_
      refine RegL.nil ?_
      refine Ct.then_tr ?_
      refine Tr.weak (Γ' := [(2, (pEq (.bool false)))]) ⟨rfl, trivial⟩ ?_
      refine Tr.ret ?_
      refine Ct.then_ret ?_
      replace h := Option.some.inj h; subst h
      exact Ct.retH1 (Ωx := []) () rfl (RvOk.tmp rfl) rfl
    · replace h := bif_f hc h
      refine Tr.skip ?_
      refine Ct.then_tr ?_
      refine Tr.weak (Γ' := [(1, (pPtr ((cSl 1 (cSl 1 (cK .i64))) rows_0)))]) ⟨rfl, trivial⟩ ?_
      refine Tr.seq ?_
      refine Tr.region ?_
      refine RegL.pure (p := (pSl 1 (cSl 1 (cK .i64)) rows_0)) rfl rfl rfl (J_load rfl Tryd.isAgg28 (Opd.tmp rfl)) ?_
      refine RegL.pure (p := (pFn Tryd.prog (fun x => [(pSl 1 (cK .i64) x)]) (fun x => m_impl_ValidRows_1 x rows_0) (fun y => (pEq (.bool y))))) rfl rfl rfl (J_makeFn rfl Tryd.call76 (Opds.cons (Opd.tmp rfl) Opds.nil) (fun _ _ h => c_impl_ValidRows_1 h)) ?_
      replace h := bind_some h; obtain ⟨x4, hx4, h⟩ := h
      refine RegL.pure (p := (pEq (.bool x4))) rfl rfl rfl (J_call rfl Tryd.call75 (c_slices_ContainsFunc_SSint64_int64 hx4) (Opds.cons (Opd.tmp rfl) (Opds.cons (Opd.tmp rfl) Opds.nil))) ?_
      refine RegL.pure (p := (pEq (.bool (!x4)))) rfl rfl rfl (J_not rfl (Opd.tmp rfl)) ?_
      refine RegL.pure (p := (pEq (.bool (!x4)))) rfl rfl rfl (J_assign rfl (Opd.tmp rfl)) ?_
      refine RegL.nil ?_
      refine Ct.then_tr ?_
      refine Tr.weak (Γ' := [(2, (pEq (.bool (!x4))))]) ⟨rfl, trivial⟩ ?_
      refine Tr.ret ?_
      replace h := Option.some.inj h; subst h
      exact Ct.retH1 (Ωx := []) () rfl (RvOk.tmp rfl) rfl

theorem c_cmp_isNaN_int64 {x_0 : Int} {r : Bool} (h : m_cmp_isNaN_int64 x_0 = some r) : CallJ Tryd.prog 125 [(pEq (.int .i64 x_0))] (pEq (.bool r)) := by
  unfold m_cmp_isNaN_int64 at h
  refine CallJ.enterH Tryd.func125 rfl Tryd.ntmps125 rfl fun W I0 H => ?_
  refine Tr.weak (Γ' := [(0, (pEq (.int .i64 x_0)))]) ⟨rfl, trivial⟩ ?_
  refine Tr.seq ?_
  refine Tr.region ?_
  refine RegL.pure (p := (pEq (.bool false))) rfl rfl rfl (J_assign rfl Opd.con) ?_
  refine RegL.nil ?_
  refine Ct.then_tr ?_
  refine Tr.weak (Γ' := [(0, (pEq (.int .i64 x_0)))]) ⟨rfl, trivial⟩ ?_
  refine Tr.seq ?_
  refine Tr.region ?_
  refine RegL.pure (p := (pEq (.int .i64 x_0))) rfl rfl rfl (J_move rfl (Opd.tmp rfl)) ?_
  refine RegL.pure (p := (pEq (.int .i64 x_0))) rfl rfl rfl (J_move rfl (Opd.tmp rfl)) ?_
  refine RegL.pure (p := (pEq (.bool (x_0 != x_0)))) rfl rfl rfl (J_bin rfl (Opd.tmp rfl) (Opd.tmp rfl) B_neq) ?_
  refine RegL.pure (p := (pEq (.bool (x_0 != x_0)))) rfl rfl rfl (J_assign rfl (Opd.tmp rfl)) ?_
  refine RegL.nil ?_
  refine Ct.then_tr ?_
  refine Tr.weak (Γ' := [(2, (pEq (.bool (x_0 != x_0))))]) ⟨rfl, trivial⟩ ?_
  refine Tr.ret ?_
  replace h := Option.some.inj h; subst h
  exact Ct.retH1 (Ωx := []) () rfl (RvOk.tmp rfl) rfl

theorem c_cmp_Less_int64 {x_0 : Int} {y_1 : Int} {r : Bool} (h : m_cmp_Less_int64 x_0 y_1 = some r) : CallJ Tryd.prog 105 [(pEq (.int .i64 x_0)), (pEq (.int .i64 y_1))] (pEq (.bool r)) := by
  unfold m_cmp_Less_int64 at h
  refine CallJ.enterH Tryd.func105 rfl Tryd.ntmps105 rfl fun W I0 H => ?_
  refine Tr.weak (Γ' := [(0, (pEq (.int .i64 x_0))), (1, (pEq (.int .i64 y_1)))]) ⟨rfl, rfl, trivial⟩ ?_
  refine Tr.seq ?_
  refine Tr.region ?_
  refine RegL.pure (p := (pEq (.bool false))) rfl rfl rfl (J_assign rfl Opd.con) ?_
  refine RegL.nil ?_
  refine Ct.then_tr ?_
  refine Tr.weak (Γ' := [(0, (pEq (.int .i64 x_0))), (1, (pEq (.int .i64 y_1)))]) ⟨rfl, rfl, trivial⟩ ?_
  refine Tr.seq ?_
  replace h := bind_some h; obtain ⟨x1, hx1, h⟩ := h
  refine Tr.cut (γ := Unit) (Γm := fun g => [(4, (pEq (.bool x1)))]) (Ωm := fun g => []) ?_ (fun g6 => ?_)
  · clear h
    have h := hx1
    clear hx1
    refine Tr.region ?_
    refine RegL.pure (p := (pEq (.int .i64 x_0))) rfl rfl rfl (J_move rfl (Opd.tmp rfl)) ?_
    replace h := bind_some h; obtain ⟨x2, hx2, h⟩ := h
    refine RegL.pure (p := (pEq (.bool x2))) rfl rfl rfl (J_call rfl Tryd.call125 (c_cmp_isNaN_int64 hx2) (Opds.cons (Opd.tmp rfl) Opds.nil)) ?_
    refine RegL.pure (p := (pEq (.bool x2))) rfl rfl rfl (J_move rfl (Opd.tmp rfl)) ?_
    rcases Bool.eq_false_or_eq_true x2 with hc3 | hc3
    · replace h := bif_t hc3 h
      refine RegL.pureG (p := (pEq (.int .i64 y_1))) rfl rfl rfl hc3 rfl rfl (J_move rfl (Opd.tmp rfl)) ?_
      replace h := bind_some h; obtain ⟨x4, hx4, h⟩ := h
      refine RegL.pureG (p := (pEq (.bool x4))) rfl rfl rfl hc3 rfl rfl (J_call rfl Tryd.call125 (c_cmp_isNaN_int64 hx4) (Opds.cons (Opd.tmp rfl) Opds.nil)) ?_
      refine RegL.pureG (p := (pEq (.bool (!x4)))) rfl rfl rfl hc3 rfl rfl (J_not rfl (Opd.tmp rfl)) ?_
      refine RegL.pure (p := (pEq (.bool (!x4)))) rfl rfl rfl (J_pick rfl (Opd.tmp rfl) (fun _ => (Opd.tmp rfl)) (fun hf => absurd (hc3.symm.trans hf) (by decide))) ?_
      refine RegL.pure (p := (pEq (.bool (!x4)))) rfl rfl rfl (J_move rfl (Opd.tmp rfl)) ?_
      rcases Bool.eq_false_or_eq_true (!x4) with hc5 | hc5
      · replace h := bif_t hc5 h
        refine RegL.skipG rfl rfl rfl hc5 rfl rfl ?_
        refine RegL.skipG rfl rfl rfl hc5 rfl rfl ?_
        refine RegL.skipG rfl rfl rfl hc5 rfl rfl ?_
        refine RegL.pure (p := (pEq (.bool true))) rfl rfl rfl (J_pick rfl (Opd.tmp rfl) (fun _ => Opd.con) (fun hf => absurd (hc5.symm.trans hf) (by decide))) ?_
        refine RegL.pure (p := (pEq (.bool true))) rfl rfl rfl (J_assign rfl (Opd.tmp rfl)) ?_
        refine RegL.nil ?_
        replace h := Option.some.inj h; subst h
        exact Ct.mid () rfl ⟨rfl, trivial⟩
      · replace h := bif_f hc5 h
        refine RegL.pureG (p := (pEq (.int .i64 x_0))) rfl rfl rfl hc5 rfl rfl (J_move rfl (Opd.tmp rfl)) ?_
        refine RegL.pureG (p := (pEq (.int .i64 y_1))) rfl rfl rfl hc5 rfl rfl (J_move rfl (Opd.tmp rfl)) ?_
        refine RegL.pureG (p := (pEq (.bool (decide (x_0 < y_1))))) rfl rfl rfl hc5 rfl rfl (J_bin rfl (Opd.tmp rfl) (Opd.tmp rfl) B_lss) ?_
        refine RegL.pure (p := (pEq (.bool (decide (x_0 < y_1))))) rfl rfl rfl (J_pick rfl (Opd.tmp rfl) (fun hf => absurd (hc5.symm.trans hf) (by decide)) (fun _ => (Opd.tmp rfl))) ?_
        refine RegL.pure (p := (pEq (.bool (decide (x_0 < y_1))))) rfl rfl rfl (J_assign rfl (Opd.tmp rfl)) ?_
        refine RegL.nil ?_
        replace h := Option.some.inj h; subst h
        exact Ct.mid () rfl ⟨rfl, trivial⟩
    · replace h := bif_f hc3 h
      refine RegL.skipG rfl rfl rfl hc3 rfl rfl ?_
      refine RegL.skipG rfl rfl rfl hc3 rfl rfl ?_
      refine RegL.skipG rfl rfl rfl hc3 rfl rfl ?_
      refine RegL.pure (p := (pEq (.bool false))) rfl rfl rfl (J_pick rfl (Opd.tmp rfl) (fun hf => absurd (hc3.symm.trans hf) (by decide)) (fun _ => Opd.con)) ?_
      refine RegL.pure (p := (pEq (.bool false))) rfl rfl rfl (J_move rfl (Opd.tmp rfl)) ?_
      refine RegL.pureG (p := (pEq (.int .i64 x_0))) rfl rfl rfl rfl rfl rfl (J_move rfl (Opd.tmp rfl)) ?_
      refine RegL.pureG (p := (pEq (.int .i64 y_1))) rfl rfl rfl rfl rfl rfl (J_move rfl (Opd.tmp rfl)) ?_
      refine RegL.pureG (p := (pEq (.bool (decide (x_0 < y_1))))) rfl rfl rfl rfl rfl rfl (J_bin rfl (Opd.tmp rfl) (Opd.tmp rfl) B_lss) ?_
      refine RegL.pure (p := (pEq (.bool (decide (x_0 < y_1))))) rfl rfl rfl (J_pick rfl (Opd.tmp rfl) (fun hf => absurd hf (by decide)) (fun _ => (Opd.tmp rfl))) ?_
      refine RegL.pure (p := (pEq (.bool (decide (x_0 < y_1))))) rfl rfl rfl (J_assign rfl (Opd.tmp rfl)) ?_
      refine RegL.nil ?_
      replace h := Option.some.inj h; subst h
      exact Ct.mid () rfl ⟨rfl, trivial⟩
  · clear hx1
    refine Ct.then_tr ?_
    refine Tr.weak (Γ' := [(4, (pEq (.bool x1)))]) ⟨rfl, trivial⟩ ?_
    refine Tr.ret ?_
    replace h := Option.some.inj h; subst h
    exact Ct.retH1 (Ωx := []) () rfl (RvOk.tmp rfl) rfl


end Go.Proofs.YtbhegklilcpbmaaDoor.fnExactWorstRatioW
