/-
  The walks that the law FnExactBandText reaches: each function computes its model. Printed by our own program.
-/
import Derived.Test.YtbhegklilcpbmaaDoorProg
import Derived.Test.YtbhegklilcpbmaaDoorMod
import Derived.Test.YtbhegklilcpbmaaDoorZero
import Derived.KernelRfl
import Derived.Test.YtbhegklilcpbmaaDoorStr
import Derived.Shelf.Strings.OnBuilder
import Derived.Test.YtbhegklilcpbmaaDoorTab
import Derived.Shelf.Strconv.Itoa4
namespace Go.Proofs.YtbhegklilcpbmaaDoor.fnExactBandTextW
open Go Go.RowKit Go.Wk
set_option linter.unusedVariables false
set_option maxRecDepth 100000
theorem hmix : Tryd.prog.follows .mixedOrders = true := by kernel_rfl
theorem sz2 : ∀ w, (Go.sizeOf 2).run Tryd.prog w = .ok 1 w := fun _ => by kernel_rfl
theorem sz5 : ∀ w, (Go.sizeOf 5).run Tryd.prog w = .ok 1 w := fun _ => by kernel_rfl
theorem sz9 : ∀ w, (Go.sizeOf 9).run Tryd.prog w = .ok 1 w := fun _ => by kernel_rfl
theorem sz49 : ∀ w, (Go.sizeOf 49).run Tryd.prog w = .ok 5 w := fun _ => by kernel_rfl
theorem sz52 : ∀ w, (Go.sizeOf 52).run Tryd.prog w = .ok 5 w := fun _ => by kernel_rfl
theorem zero52 : Zero Tryd.prog 52 [(pEq (.string ByteArray.empty)), (pEq (.int .i64 (0 : Int))), (pEq (.int .i64 (0 : Int))), (pEq (.int .i64 (0 : Int))), (pEq (.int .i64 (0 : Int)))] := ⟨(.agg #[.string ByteArray.empty, .int .i64 0, .int .i64 0, .int .i64 0, .int .i64 0]), [.string ByteArray.empty, .int .i64 0, .int .i64 0, .int .i64 0, .int .i64 0], fun _ => by kernel_rfl, rfl, fun _ _ => ⟨rfl, ⟨rfl, ⟨rfl, ⟨rfl, ⟨rfl, trivial⟩⟩⟩⟩⟩⟩
theorem el5i : (Tryd.prog.info? 5).map (fun i => (i.zero, i.size, i.bytes)) = some (some (.int .u8 0), 1, 1) := by kernel_rfl
theorem el5 : Elem Tryd.prog 5 1 1 (cK .u8) (0 : Int) := by
  obtain ⟨i, h1, h2, h3, h4⟩ := info_parts el5i
  exact ⟨i, (.int .u8 0), [.int .u8 0], h1, h2, h3, h4, rfl, rfl, by decide, fun _ _ => ⟨rfl, trivial⟩, fun _ => rfl, fun _ _ _ _ h => ones_of ((OneCs.cons OneC.int OneCs.nil)) h⟩
theorem el9i : (Tryd.prog.info? 9).map (fun i => (i.zero, i.size, i.bytes)) = some (some (.string ByteArray.empty), 1, 16) := by kernel_rfl
theorem el9 : Elem Tryd.prog 9 1 16 cS ByteArray.empty := by
  obtain ⟨i, h1, h2, h3, h4⟩ := info_parts el9i
  exact ⟨i, (.string ByteArray.empty), [.string ByteArray.empty], h1, h2, h3, h4, rfl, rfl, by decide, fun _ _ => ⟨rfl, trivial⟩, fun _ => rfl, fun _ _ _ _ h => ones_of ((OneCs.cons OneC.str OneCs.nil)) h⟩
section
open Go.Shelf
def join61_ren : Go.Shelf.Ren := ⟨fun | 156 => 61 | 165 => 95 | 166 => 96 | 169 => 97 | 240 => 115 | 241 => 116 | 276 => 127 | 277 => 128 | n => n, fun | 31 => 79 | 9 => 9 | 3 => 3 | 4 => 4 | 0 => 0 | 20 => 20 | 72 => 95 | 76 => 99 | 70 => 92 | 37 => 93 | 75 => 98 | 127 => 116 | 164 => 122 | 5 => 5 | 80 => 101 | n => n, fun | n => n⟩
theorem join61 : Go.Proofs.Lays.n156 Tryd.prog join61_ren := {
  mixed := by kernel_rfl
  f156 := Tryd.func61.trans (congrArg some (by kernel_rfl))
  f165 := Tryd.func95.trans (congrArg some (by kernel_rfl))
  f166 := Tryd.func96.trans (congrArg some (by kernel_rfl))
  f169 := Tryd.func97.trans (congrArg some (by kernel_rfl))
  f240 := Tryd.func115.trans (congrArg some (by kernel_rfl))
  f241 := Tryd.func116.trans (congrArg some (by kernel_rfl))
  f276 := Tryd.func127.trans (congrArg some (by kernel_rfl))
  f277 := Tryd.func128.trans (congrArg some (by kernel_rfl))
  t0 := Tryd.underlying0
  a0 := Tryd.isAgg0
  z0 := Tryd.sizeOf0
  v0 := Tryd.zeroValue0
  t3 := Tryd.underlying3
  a3 := Tryd.isAgg3
  z3 := Tryd.sizeOf3
  v3 := Tryd.zeroValue3
  t4 := Tryd.underlying4
  a4 := Tryd.isAgg4
  z4 := Tryd.sizeOf4
  v4 := Tryd.zeroValue4
  t9 := Tryd.underlying9
  a9 := Tryd.isAgg9
  z9 := Tryd.sizeOf9
  v9 := Tryd.zeroValue9
  t20 := Tryd.underlying20
  a20 := Tryd.isAgg20
  z20 := Tryd.sizeOf20
  v20 := Tryd.zeroValue20
  t31 := Tryd.underlying79
  a31 := Tryd.isAgg79
  z31 := Tryd.sizeOf79
  v31 := Tryd.zeroValue79
  t37 := Tryd.underlying93
  a37 := Tryd.isAgg93
  z37 := Tryd.sizeOf93
  v37 := Tryd.zeroValue93
  t70 := Tryd.underlying92
  a70 := Tryd.isAgg92
  z70 := Tryd.sizeOf92
  v70 := Tryd.zeroValue92
  t72 := Tryd.underlying95
  a72 := Tryd.isAgg95
  z72 := Tryd.sizeOf95
  v72 := Tryd.zeroValue95
  t75 := Tryd.underlying98
  a75 := Tryd.isAgg98
  z75 := Tryd.sizeOf98
  v75 := Tryd.zeroValue98
  t76 := Tryd.underlying99
  a76 := Tryd.isAgg99
  z76 := Tryd.sizeOf99
  v76 := Tryd.zeroValue99
  t127 := Tryd.underlying116
  a127 := Tryd.isAgg116
  z127 := Tryd.sizeOf116
  v127 := Tryd.zeroValue116
  t164 := Tryd.underlying122
  a164 := Tryd.isAgg122
  z164 := Tryd.sizeOf122
  v164 := Tryd.zeroValue122 }
end
theorem joinX61 : Go.Proofs.Builder.Extra Tryd.prog join61_ren := {
  sizeBuilder := by kernel_rfl
  liesBuilder := by kernel_rfl
  t5 := Tryd.underlying5
  a5 := Tryd.isAgg5
  z5 := Tryd.sizeOf5
  v5 := Tryd.zeroValue5
  infoByte := by kernel_rfl
  cellsByte := by kernel_rfl
  sizeByte := by kernel_rfl
  neB5 := by decide }
theorem joinAt61 : JoinAt Tryd.prog 61 := Go.Proofs.Any.strings_Join join61 joinX61
theorem joinNone61 : JoinNone Tryd.prog 61 := Go.Proofs.Any.strings_Join_none join61 joinX61

section
open Go.Shelf
def lays98_ren : Go.Shelf.Ren := ⟨fun | 173 => 98 | 246 => 117 | 283 => 129 | 284 => 130 | 285 => 131 | 286 => 132 | 129 => 144 | 317 => 143 | 318 => 145 | 319 => 146 | 320 => 147 | 337 => 158 | 338 => 159 | n => n, fun | 2 => 2 | 3 => 3 | 9 => 9 | 4 => 4 | 171 => 126 | 0 => 0 | 53 => 127 | 37 => 93 | 5 => 5 | 173 => 130 | 212 => 146 | 51 => 147 | 20 => 20 | 213 => 148 | 46 => 139 | 232 => 166 | 233 => 167 | n => n, fun | 17 => 1 | 18 => 6 | 19 => 7 | n => n⟩
theorem lays98 : Go.Proofs.LaysM.n173 Tryd.prog lays98_ren := {
  mixed := by kernel_rfl
  f129 := Tryd.func144.trans (congrArg some (by kernel_rfl))
  f173 := Tryd.func98.trans (congrArg some (by kernel_rfl))
  f246 := Tryd.func117.trans (congrArg some (by kernel_rfl))
  f283 := Tryd.func129.trans (congrArg some (by kernel_rfl))
  f284 := Tryd.func130.trans (congrArg some (by kernel_rfl))
  f285 := Tryd.func131.trans (congrArg some (by kernel_rfl))
  f286 := Tryd.func132.trans (congrArg some (by kernel_rfl))
  f317 := Tryd.func143.trans (congrArg some (by kernel_rfl))
  f318 := Tryd.func145.trans (congrArg some (by kernel_rfl))
  f319 := Tryd.func146.trans (congrArg some (by kernel_rfl))
  f320 := Tryd.func147.trans (congrArg some (by kernel_rfl))
  f337 := Tryd.func158.trans (congrArg some (by kernel_rfl))
  f338 := Tryd.func159.trans (congrArg some (by kernel_rfl))
  t0 := Tryd.underlying0
  a0 := Tryd.isAgg0
  z0 := Tryd.sizeOf0
  v0 := Tryd.zeroValue0
  t2 := Tryd.underlying2
  a2 := Tryd.isAgg2
  z2 := Tryd.sizeOf2
  v2 := Tryd.zeroValue2
  t3 := Tryd.underlying3
  a3 := Tryd.isAgg3
  z3 := Tryd.sizeOf3
  v3 := Tryd.zeroValue3
  t4 := Tryd.underlying4
  a4 := Tryd.isAgg4
  z4 := Tryd.sizeOf4
  v4 := Tryd.zeroValue4
  t5 := Tryd.underlying5
  a5 := Tryd.isAgg5
  z5 := Tryd.sizeOf5
  v5 := Tryd.zeroValue5
  t9 := Tryd.underlying9
  a9 := Tryd.isAgg9
  z9 := Tryd.sizeOf9
  v9 := Tryd.zeroValue9
  t20 := Tryd.underlying20
  a20 := Tryd.isAgg20
  z20 := Tryd.sizeOf20
  v20 := Tryd.zeroValue20
  t37 := Tryd.underlying93
  a37 := Tryd.isAgg93
  z37 := Tryd.sizeOf93
  v37 := Tryd.zeroValue93
  t46 := Tryd.underlying139
  a46 := Tryd.isAgg139
  z46 := Tryd.sizeOf139
  v46 := Tryd.zeroValue139
  t51 := Tryd.underlying147
  a51 := Tryd.isAgg147
  z51 := Tryd.sizeOf147
  v51 := Tryd.zeroValue147
  t53 := Tryd.underlying127
  a53 := Tryd.isAgg127
  z53 := Tryd.sizeOf127
  v53 := Tryd.zeroValue127
  t171 := Tryd.underlying126
  a171 := Tryd.isAgg126
  z171 := Tryd.sizeOf126
  v171 := Tryd.zeroValue126
  t173 := Tryd.underlying130
  a173 := Tryd.isAgg130
  z173 := Tryd.sizeOf130
  v173 := Tryd.zeroValue130
  t212 := Tryd.underlying146
  a212 := Tryd.isAgg146
  z212 := Tryd.sizeOf146
  v212 := Tryd.zeroValue146
  t213 := Tryd.underlying148
  a213 := Tryd.isAgg148
  z213 := Tryd.sizeOf148
  t232 := Tryd.underlying166
  a232 := Tryd.isAgg166
  z232 := Tryd.sizeOf166
  v232 := Tryd.zeroValue166
  t233 := Tryd.underlying167
  a233 := Tryd.isAgg167
  z233 := Tryd.sizeOf167
  v233 := Tryd.zeroValue167
  g17 := by kernel_rfl
  g18 := by kernel_rfl
  g19 := by kernel_rfl
  i0 := by kernel_rfl
  i2 := by kernel_rfl
  i3 := by kernel_rfl
  i4 := by kernel_rfl
  i5 := by kernel_rfl
  i9 := by kernel_rfl
  i20 := by kernel_rfl
  i37 := by kernel_rfl
  i46 := by kernel_rfl
  i51 := by kernel_rfl
  i53 := by kernel_rfl
  i171 := by kernel_rfl
  i173 := by kernel_rfl
  i212 := by kernel_rfl
  i232 := by kernel_rfl
  i233 := by kernel_rfl
  m17 := by kernel_rfl
  m18 := by kernel_rfl
  m19 := by kernel_rfl }
end



theorem c_laws_szBand {a_0 : GBand} {left_1 : Int} {r : Int} (h : m_laws_szBand a_0 left_1 = some r) : CallJ Tryd.prog 28 [(pAgg (cGBand a_0)), (pEq (.int .i64 left_1))] (pEq (.int .i64 r)) := by
  unfold m_laws_szBand at h
  refine CallJ.enterH Tryd.func28 rfl Tryd.ntmps28 rfl fun W I0 H => ?_
  refine Tr.weak (Γ' := [(0, (pAgg (cGBand a_0))), (1, (pEq (.int .i64 left_1)))]) ⟨rfl, rfl, trivial⟩ ?_
  refine Tr.seq ?_
  refine Tr.region ?_
  refine RegL.pure (p := (pPtr (cGBand a_0))) rfl rfl rfl (J_boxA rfl (Opd.tmp rfl)) ?_
  refine RegL.pure (p := (pEq (.int .i64 (0 : Int)))) rfl rfl rfl (J_assign rfl Opd.con) ?_
  refine RegL.nil ?_
  refine Ct.then_tr ?_
  refine Tr.weak (Γ' := [(1, (pEq (.int .i64 left_1))), (2, (pPtr (cGBand a_0)))]) ⟨rfl, rfl, trivial⟩ ?_
  refine Tr.seq ?_
  refine Tr.region ?_
  refine RegL.pure (p := (pEq (.int .i64 left_1))) rfl rfl rfl (J_move rfl (Opd.tmp rfl)) ?_
  refine RegL.pure (p := (pPtr (cS a_0.Name))) rfl rfl rfl (J_fieldAddr rfl Tryd.underlying49 rfl sz9 (by decide) (Opd.tmp rfl) rfl) ?_
  refine RegL.pure (p := (pEq (.string a_0.Name))) rfl rfl rfl (J_load rfl Tryd.isAgg9 (Opd.tmp rfl)) ?_
  refine RegL.pure (p := (pEq (.int .i64 (a_0.Name.size : Int)))) rfl rfl rfl (J_slen rfl Tryd.underlying9 (Opd.tmp rfl) rfl) ?_
  refine RegL.pure (p := (pEq (.int .i64 (w64 (left_1 - (a_0.Name.size : Int)))))) rfl rfl rfl (J_bin rfl (Opd.tmp rfl) (Opd.tmp rfl) B_sub) ?_
  refine RegL.pure (p := (pEq (.int .i64 (w64 (left_1 - (a_0.Name.size : Int)))))) rfl rfl rfl (J_assign rfl (Opd.tmp rfl)) ?_
  refine RegL.nil ?_
  refine Ct.then_tr ?_
  refine Tr.weak (Γ' := [(1, (pEq (.int .i64 (w64 (left_1 - (a_0.Name.size : Int))))))]) ⟨rfl, trivial⟩ ?_
  refine Tr.seq ?_
  refine Tr.seq ?_
  refine Tr.region ?_
  refine RegL.pure (p := (pEq (.int .i64 (w64 (left_1 - (a_0.Name.size : Int)))))) rfl rfl rfl (J_move rfl (Opd.tmp rfl)) ?_
  refine RegL.pure (p := (pEq (.bool (decide ((w64 (left_1 - (a_0.Name.size : Int))) < (0 : Int)))))) rfl rfl rfl (J_bin rfl (Opd.tmp rfl) Opd.con B_lss) ?_
  refine RegL.nil ?_
  refine Ct.then_tr ?_
  refine Tr.weak (Γ' := [(1, (pEq (.int .i64 (w64 (left_1 - (a_0.Name.size : Int)))))), (11, (pEq (.bool (decide ((w64 (left_1 - (a_0.Name.size : Int))) < (0 : Int))))))]) ⟨rfl, rfl, trivial⟩ ?_
  refine Tr.cond (Opd.tmp rfl) (fun hc => ?_) (fun hc => ?_)
  · replace h := bif_t hc h
    refine Tr.seq ?_
    refine Tr.region ?_
    refine RegL.pure (p := (pEq (.int .i64 (-1 : Int)))) rfl rfl rfl (J_assign rfl Opd.con) ?_
    refine RegL.nil ?_
    refine Ct.then_tr ?_
    refine Tr.weak (Γ' := [(4, (pEq (.int .i64 (-1 : Int))))]) ⟨rfl, trivial⟩ ?_
    refine Tr.ret ?_
    refine Ct.then_ret ?_
    replace h := Option.some.inj h; subst h
    exact Ct.retH1 (Ωx := []) () rfl (RvOk.tmp rfl) rfl
  · replace h := bif_f hc h
    refine Tr.skip ?_
    refine Ct.then_tr ?_
    refine Tr.weak (Γ' := [(1, (pEq (.int .i64 (w64 (left_1 - (a_0.Name.size : Int))))))]) ⟨rfl, trivial⟩ ?_
    refine Tr.seq ?_
    refine Tr.region ?_
    refine RegL.pure (p := (pEq (.int .i64 (w64 (left_1 - (a_0.Name.size : Int)))))) rfl rfl rfl (J_move rfl (Opd.tmp rfl)) ?_
    refine RegL.pure (p := (pEq (.int .i64 (w64 (left_1 - (a_0.Name.size : Int)))))) rfl rfl rfl (J_assign rfl (Opd.tmp rfl)) ?_
    refine RegL.nil ?_
    refine Ct.then_tr ?_
    refine Tr.weak (Γ' := [(4, (pEq (.int .i64 (w64 (left_1 - (a_0.Name.size : Int))))))]) ⟨rfl, trivial⟩ ?_
    refine Tr.ret ?_
    replace h := Option.some.inj h; subst h
    exact Ct.retH1 (Ωx := []) () rfl (RvOk.tmp rfl) rfl

theorem c_laws_toBand {a_0 : GBand} {r : GBand} (h : m_laws_toBand a_0 = some r) : CallJ Tryd.prog 30 [(pAgg (cGBand a_0))] (pAgg (cGBand r)) := by
  unfold m_laws_toBand at h
  refine CallJ.enterH Tryd.func30 rfl Tryd.ntmps30 rfl fun W I0 H => ?_
  refine Tr.weak (Γ' := [(0, (pAgg (cGBand a_0)))]) ⟨rfl, trivial⟩ ?_
  refine Tr.seq ?_
  refine Tr.region ?_
  refine RegL.pure (p := (pPtr (cGBand a_0))) rfl rfl rfl (J_boxA rfl (Opd.tmp rfl)) ?_
  refine RegL.step (γ := Nat) (p := fun b => pEq (.pointer (some ⟨b, 0, none⟩))) (Ω' := fun b => [oBlk b [(pEq (.string ByteArray.empty)), (pEq (.int .i64 (0 : Int))), (pEq (.int .i64 (0 : Int))), (pEq (.int .i64 (0 : Int))), (pEq (.int .i64 (0 : Int)))]]) rfl rfl rfl (M_alloc rfl zero52) fun b1 => ?_
  refine RegL.nil ?_
  refine Ct.then_tr ?_
  refine Tr.weak (Γ' := [(1, (pPtr (cGBand a_0))), (2, (pEq (.pointer (some ⟨b1, 0, none⟩))))]) ⟨rfl, rfl, trivial⟩ ?_
  refine Tr.seq ?_
  refine Tr.region ?_
  refine RegL.step (γ := Nat) (p := fun b => pEq (.pointer (some ⟨b, 0, none⟩))) (Ω' := fun b => [oBlk b [(pEq (.string ByteArray.empty)), (pEq (.int .i64 (0 : Int))), (pEq (.int .i64 (0 : Int))), (pEq (.int .i64 (0 : Int))), (pEq (.int .i64 (0 : Int)))], oBlk b1 [(pEq (.string ByteArray.empty)), (pEq (.int .i64 (0 : Int))), (pEq (.int .i64 (0 : Int))), (pEq (.int .i64 (0 : Int))), (pEq (.int .i64 (0 : Int)))]]) rfl rfl rfl (M_alloc rfl zero52) fun b2 => ?_
  refine RegL.nil ?_
  refine Ct.then_tr ?_
  refine Tr.weak (Γ' := [(1, (pPtr (cGBand a_0))), (2, (pEq (.pointer (some ⟨b1, 0, none⟩)))), (3, (pEq (.pointer (some ⟨b2, 0, none⟩))))]) ⟨rfl, rfl, rfl, trivial⟩ ?_
  refine Tr.seq ?_
  refine Tr.region ?_
  refine RegL.pure (p := (pPtr (cS a_0.Name))) rfl rfl rfl (J_fieldAddr rfl Tryd.underlying49 rfl sz9 (by decide) (Opd.tmp rfl) rfl) ?_
  refine RegL.pure (p := (pEq (.string a_0.Name))) rfl rfl rfl (J_load rfl Tryd.isAgg9 (Opd.tmp rfl)) ?_
  refine RegL.pure (p := (pEq (.pointer (some ⟨b2, 0, none⟩)))) rfl rfl rfl (J_fieldAddrE rfl Tryd.underlying52 rfl sz9 (by decide) (Opd.tmp rfl) rfl) ?_
  refine RegL.stepN (γ := Unit) (p := fun _ => pAny) (Ω' := fun _ => [oBlk b2 [(pEq (.string a_0.Name)), (pEq (.int .i64 (0 : Int))), (pEq (.int .i64 (0 : Int))), (pEq (.int .i64 (0 : Int))), (pEq (.int .i64 (0 : Int)))], oBlk b1 [(pEq (.string ByteArray.empty)), (pEq (.int .i64 (0 : Int))), (pEq (.int .i64 (0 : Int))), (pEq (.int .i64 (0 : Int))), (pEq (.int .i64 (0 : Int)))]]) rfl rfl (M_store rfl sz9 (Opd.tmp rfl) (Opd.tmp rfl) OneC.str rfl rfl) fun g3 => ?_
  refine RegL.nil ?_
  refine Ct.then_tr ?_
  refine Tr.weak (Γ' := [(1, (pPtr (cGBand a_0))), (2, (pEq (.pointer (some ⟨b1, 0, none⟩)))), (3, (pEq (.pointer (some ⟨b2, 0, none⟩))))]) ⟨rfl, rfl, rfl, trivial⟩ ?_
  refine Tr.seq ?_
  refine Tr.region ?_
  refine RegL.pure (p := (pPtr ((cK .i64) a_0.Low))) rfl rfl rfl (J_fieldAddr rfl Tryd.underlying49 rfl sz2 (by decide) (Opd.tmp rfl) rfl) ?_
  refine RegL.pure (p := (pEq (.int .i64 a_0.Low))) rfl rfl rfl (J_load rfl Tryd.isAgg2 (Opd.tmp rfl)) ?_
  refine RegL.pure (p := (pEq (.pointer (some ⟨b2, 1, none⟩)))) rfl rfl rfl (J_fieldAddrE rfl Tryd.underlying52 rfl sz2 (by decide) (Opd.tmp rfl) rfl) ?_
  refine RegL.stepN (γ := Unit) (p := fun _ => pAny) (Ω' := fun _ => [oBlk b2 [(pEq (.string a_0.Name)), (pEq (.int .i64 a_0.Low)), (pEq (.int .i64 (0 : Int))), (pEq (.int .i64 (0 : Int))), (pEq (.int .i64 (0 : Int)))], oBlk b1 [(pEq (.string ByteArray.empty)), (pEq (.int .i64 (0 : Int))), (pEq (.int .i64 (0 : Int))), (pEq (.int .i64 (0 : Int))), (pEq (.int .i64 (0 : Int)))]]) rfl rfl (M_store rfl sz2 (Opd.tmp rfl) (Opd.tmp rfl) OneC.int rfl rfl) fun g4 => ?_
  refine RegL.nil ?_
  refine Ct.then_tr ?_
  refine Tr.weak (Γ' := [(1, (pPtr (cGBand a_0))), (2, (pEq (.pointer (some ⟨b1, 0, none⟩)))), (3, (pEq (.pointer (some ⟨b2, 0, none⟩))))]) ⟨rfl, rfl, rfl, trivial⟩ ?_
  refine Tr.seq ?_
  refine Tr.region ?_
  refine RegL.pure (p := (pPtr ((cK .i64) a_0.High))) rfl rfl rfl (J_fieldAddr rfl Tryd.underlying49 rfl sz2 (by decide) (Opd.tmp rfl) rfl) ?_
  refine RegL.pure (p := (pEq (.int .i64 a_0.High))) rfl rfl rfl (J_load rfl Tryd.isAgg2 (Opd.tmp rfl)) ?_
  refine RegL.pure (p := (pEq (.pointer (some ⟨b2, 2, none⟩)))) rfl rfl rfl (J_fieldAddrE rfl Tryd.underlying52 rfl sz2 (by decide) (Opd.tmp rfl) rfl) ?_
  refine RegL.stepN (γ := Unit) (p := fun _ => pAny) (Ω' := fun _ => [oBlk b2 [(pEq (.string a_0.Name)), (pEq (.int .i64 a_0.Low)), (pEq (.int .i64 a_0.High)), (pEq (.int .i64 (0 : Int))), (pEq (.int .i64 (0 : Int)))], oBlk b1 [(pEq (.string ByteArray.empty)), (pEq (.int .i64 (0 : Int))), (pEq (.int .i64 (0 : Int))), (pEq (.int .i64 (0 : Int))), (pEq (.int .i64 (0 : Int)))]]) rfl rfl (M_store rfl sz2 (Opd.tmp rfl) (Opd.tmp rfl) OneC.int rfl rfl) fun g5 => ?_
  refine RegL.nil ?_
  refine Ct.then_tr ?_
  refine Tr.weak (Γ' := [(1, (pPtr (cGBand a_0))), (2, (pEq (.pointer (some ⟨b1, 0, none⟩)))), (3, (pEq (.pointer (some ⟨b2, 0, none⟩))))]) ⟨rfl, rfl, rfl, trivial⟩ ?_
  refine Tr.seq ?_
  refine Tr.region ?_
  refine RegL.pure (p := (pPtr ((cK .i64) a_0.Raster))) rfl rfl rfl (J_fieldAddr rfl Tryd.underlying49 rfl sz2 (by decide) (Opd.tmp rfl) rfl) ?_
  refine RegL.pure (p := (pEq (.int .i64 a_0.Raster))) rfl rfl rfl (J_load rfl Tryd.isAgg2 (Opd.tmp rfl)) ?_
  refine RegL.pure (p := (pEq (.pointer (some ⟨b2, 3, none⟩)))) rfl rfl rfl (J_fieldAddrE rfl Tryd.underlying52 rfl sz2 (by decide) (Opd.tmp rfl) rfl) ?_
  refine RegL.stepN (γ := Unit) (p := fun _ => pAny) (Ω' := fun _ => [oBlk b2 [(pEq (.string a_0.Name)), (pEq (.int .i64 a_0.Low)), (pEq (.int .i64 a_0.High)), (pEq (.int .i64 a_0.Raster)), (pEq (.int .i64 (0 : Int)))], oBlk b1 [(pEq (.string ByteArray.empty)), (pEq (.int .i64 (0 : Int))), (pEq (.int .i64 (0 : Int))), (pEq (.int .i64 (0 : Int))), (pEq (.int .i64 (0 : Int)))]]) rfl rfl (M_store rfl sz2 (Opd.tmp rfl) (Opd.tmp rfl) OneC.int rfl rfl) fun g6 => ?_
  refine RegL.nil ?_
  refine Ct.then_tr ?_
  refine Tr.weak (Γ' := [(1, (pPtr (cGBand a_0))), (2, (pEq (.pointer (some ⟨b1, 0, none⟩)))), (3, (pEq (.pointer (some ⟨b2, 0, none⟩))))]) ⟨rfl, rfl, rfl, trivial⟩ ?_
  refine Tr.seq ?_
  refine Tr.region ?_
  refine RegL.pure (p := (pPtr ((cK .i64) a_0.Duplex))) rfl rfl rfl (J_fieldAddr rfl Tryd.underlying49 rfl sz2 (by decide) (Opd.tmp rfl) rfl) ?_
  refine RegL.pure (p := (pEq (.int .i64 a_0.Duplex))) rfl rfl rfl (J_load rfl Tryd.isAgg2 (Opd.tmp rfl)) ?_
  refine RegL.pure (p := (pEq (.pointer (some ⟨b2, 4, none⟩)))) rfl rfl rfl (J_fieldAddrE rfl Tryd.underlying52 rfl sz2 (by decide) (Opd.tmp rfl) rfl) ?_
  refine RegL.stepN (γ := Unit) (p := fun _ => pAny) (Ω' := fun _ => [oBlk b2 [(pEq (.string a_0.Name)), (pEq (.int .i64 a_0.Low)), (pEq (.int .i64 a_0.High)), (pEq (.int .i64 a_0.Raster)), (pEq (.int .i64 a_0.Duplex))], oBlk b1 [(pEq (.string ByteArray.empty)), (pEq (.int .i64 (0 : Int))), (pEq (.int .i64 (0 : Int))), (pEq (.int .i64 (0 : Int))), (pEq (.int .i64 (0 : Int)))]]) rfl rfl (M_store rfl sz2 (Opd.tmp rfl) (Opd.tmp rfl) OneC.int rfl rfl) fun g7 => ?_
  refine RegL.nil ?_
  refine Ct.then_tr ?_
  refine Tr.weak (Γ' := [(2, (pEq (.pointer (some ⟨b1, 0, none⟩)))), (3, (pEq (.pointer (some ⟨b2, 0, none⟩))))]) ⟨rfl, rfl, trivial⟩ ?_
  refine Tr.seq ?_
  refine Tr.region ?_
  refine RegL.pureW (p := (pAgg (cGBand a_0))) rfl rfl rfl (W_loadA (i := 0) rfl Tryd.isAgg52 sz52 (Opd.tmp rfl) rfl rfl) ?_
  refine RegL.re (Ω2 := [oBlk b1 [(pEq (.string ByteArray.empty)), (pEq (.int .i64 (0 : Int))), (pEq (.int .i64 (0 : Int))), (pEq (.int .i64 (0 : Int))), (pEq (.int .i64 (0 : Int)))], oBlk b2 [(pEq (.string a_0.Name)), (pEq (.int .i64 a_0.Low)), (pEq (.int .i64 a_0.High)), (pEq (.int .i64 a_0.Raster)), (pEq (.int .i64 a_0.Duplex))]]) (fun h => SatO.pick 1 h) ?_
  refine RegL.stepN (γ := Unit) (p := fun _ => pAny) (Ω' := fun _ => [oBlk b1 [(pEq (.string a_0.Name)), (pEq (.int .i64 a_0.Low)), (pEq (.int .i64 a_0.High)), (pEq (.int .i64 a_0.Raster)), (pEq (.int .i64 a_0.Duplex))], oBlk b2 [(pEq (.string a_0.Name)), (pEq (.int .i64 a_0.Low)), (pEq (.int .i64 a_0.High)), (pEq (.int .i64 a_0.Raster)), (pEq (.int .i64 a_0.Duplex))]]) rfl rfl (M_storeA rfl sz52 (Opd.tmp rfl) (Opd.tmp rfl) (fun _ _ _ h => ones_of ((OneCs.cons OneC.str (OneCs.cons OneC.int (OneCs.cons OneC.int (OneCs.cons OneC.int (OneCs.cons OneC.int OneCs.nil)))))) h) rfl rfl) fun g8 => ?_
  refine RegL.nil ?_
  refine Ct.then_tr ?_
  refine Tr.weak (Γ' := [(2, (pEq (.pointer (some ⟨b1, 0, none⟩))))]) ⟨rfl, trivial⟩ ?_
  refine Tr.ret ?_
  replace h := Option.some.inj h; subst h
  exact Ct.retH1 (Ωx := [oBlk b1 [(pEq (.string a_0.Name)), (pEq (.int .i64 a_0.Low)), (pEq (.int .i64 a_0.High)), (pEq (.int .i64 a_0.Raster)), (pEq (.int .i64 a_0.Duplex))], oBlk b2 [(pEq (.string a_0.Name)), (pEq (.int .i64 a_0.Low)), (pEq (.int .i64 a_0.High)), (pEq (.int .i64 a_0.Raster)), (pEq (.int .i64 a_0.Duplex))]]) () rfl (RvOk.cellA (i := 0) Tryd.isAgg52 sz52 rfl rfl rfl) rfl

theorem c_spec_l01Small {c_0 : Int} {r : Bool} (h : m_spec_l01Small c_0 = some r) : CallJ Tryd.prog 113 [(pEq (.int .u8 c_0))] (pEq (.bool r)) := by
  unfold m_spec_l01Small at h
  refine CallJ.enterH Tryd.func113 rfl Tryd.ntmps113 rfl fun W I0 H => ?_
  refine Tr.weak (Γ' := [(0, (pEq (.int .u8 c_0)))]) ⟨rfl, trivial⟩ ?_
  refine Tr.seq ?_
  refine Tr.region ?_
  refine RegL.pure (p := (pEq (.bool false))) rfl rfl rfl (J_assign rfl Opd.con) ?_
  refine RegL.nil ?_
  refine Ct.then_tr ?_
  refine Tr.weak (Γ' := [(0, (pEq (.int .u8 c_0)))]) ⟨rfl, trivial⟩ ?_
  refine Tr.seq ?_
  replace h := bind_some h; obtain ⟨x1, hx1, h⟩ := h
  refine Tr.cut (γ := Unit) (Γm := fun g => [(2, (pEq (.bool x1)))]) (Ωm := fun g => []) ?_ (fun g3 => ?_)
  · clear h
    have h := hx1
    clear hx1
    refine Tr.region ?_
    refine RegL.pure (p := (pEq (.int .u8 c_0))) rfl rfl rfl (J_move rfl (Opd.tmp rfl)) ?_
    refine RegL.pure (p := (pEq (.bool (decide ((97 : Int) ≤ c_0))))) rfl rfl rfl (J_bin rfl (Opd.tmp rfl) Opd.con B_geq) ?_
    refine RegL.pure (p := (pEq (.bool (decide ((97 : Int) ≤ c_0))))) rfl rfl rfl (J_move rfl (Opd.tmp rfl)) ?_
    rcases Bool.eq_false_or_eq_true (decide ((97 : Int) ≤ c_0)) with hc2 | hc2
    · replace h := bif_t hc2 h
      refine RegL.pureG (p := (pEq (.int .u8 c_0))) rfl rfl rfl hc2 rfl rfl (J_move rfl (Opd.tmp rfl)) ?_
      refine RegL.pureG (p := (pEq (.bool (decide (c_0 ≤ (122 : Int)))))) rfl rfl rfl hc2 rfl rfl (J_bin rfl (Opd.tmp rfl) Opd.con B_leq) ?_
      refine RegL.pure (p := (pEq (.bool (decide (c_0 ≤ (122 : Int)))))) rfl rfl rfl (J_pick rfl (Opd.tmp rfl) (fun _ => (Opd.tmp rfl)) (fun hf => absurd (hc2.symm.trans hf) (by decide))) ?_
      refine RegL.pure (p := (pEq (.bool (decide (c_0 ≤ (122 : Int)))))) rfl rfl rfl (J_assign rfl (Opd.tmp rfl)) ?_
      refine RegL.nil ?_
      replace h := Option.some.inj h; subst h
      exact Ct.mid () rfl ⟨rfl, trivial⟩
    · replace h := bif_f hc2 h
      refine RegL.skipG rfl rfl rfl hc2 rfl rfl ?_
      refine RegL.skipG rfl rfl rfl hc2 rfl rfl ?_
      refine RegL.pure (p := (pEq (.bool false))) rfl rfl rfl (J_pick rfl (Opd.tmp rfl) (fun hf => absurd (hc2.symm.trans hf) (by decide)) (fun _ => Opd.con)) ?_
      refine RegL.pure (p := (pEq (.bool false))) rfl rfl rfl (J_assign rfl (Opd.tmp rfl)) ?_
      refine RegL.nil ?_
      replace h := Option.some.inj h; subst h
      exact Ct.mid () rfl ⟨rfl, trivial⟩
  · clear hx1
    refine Ct.then_tr ?_
    refine Tr.weak (Γ' := [(2, (pEq (.bool x1)))]) ⟨rfl, trivial⟩ ?_
    refine Tr.ret ?_
    replace h := Option.some.inj h; subst h
    exact Ct.retH1 (Ωx := []) () rfl (RvOk.tmp rfl) rfl

theorem c_spec_l01Digit {c_0 : Int} {r : Bool} (h : m_spec_l01Digit c_0 = some r) : CallJ Tryd.prog 99 [(pEq (.int .u8 c_0))] (pEq (.bool r)) := by
  unfold m_spec_l01Digit at h
  refine CallJ.enterH Tryd.func99 rfl Tryd.ntmps99 rfl fun W I0 H => ?_
  refine Tr.weak (Γ' := [(0, (pEq (.int .u8 c_0)))]) ⟨rfl, trivial⟩ ?_
  refine Tr.seq ?_
  refine Tr.region ?_
  refine RegL.pure (p := (pEq (.bool false))) rfl rfl rfl (J_assign rfl Opd.con) ?_
  refine RegL.nil ?_
  refine Ct.then_tr ?_
  refine Tr.weak (Γ' := [(0, (pEq (.int .u8 c_0)))]) ⟨rfl, trivial⟩ ?_
  refine Tr.seq ?_
  replace h := bind_some h; obtain ⟨x1, hx1, h⟩ := h
  refine Tr.cut (γ := Unit) (Γm := fun g => [(2, (pEq (.bool x1)))]) (Ωm := fun g => []) ?_ (fun g3 => ?_)
  · clear h
    have h := hx1
    clear hx1
    refine Tr.region ?_
    refine RegL.pure (p := (pEq (.int .u8 c_0))) rfl rfl rfl (J_move rfl (Opd.tmp rfl)) ?_
    refine RegL.pure (p := (pEq (.bool (decide ((48 : Int) ≤ c_0))))) rfl rfl rfl (J_bin rfl (Opd.tmp rfl) Opd.con B_geq) ?_
    refine RegL.pure (p := (pEq (.bool (decide ((48 : Int) ≤ c_0))))) rfl rfl rfl (J_move rfl (Opd.tmp rfl)) ?_
    rcases Bool.eq_false_or_eq_true (decide ((48 : Int) ≤ c_0)) with hc2 | hc2
    · replace h := bif_t hc2 h
      refine RegL.pureG (p := (pEq (.int .u8 c_0))) rfl rfl rfl hc2 rfl rfl (J_move rfl (Opd.tmp rfl)) ?_
      refine RegL.pureG (p := (pEq (.bool (decide (c_0 ≤ (57 : Int)))))) rfl rfl rfl hc2 rfl rfl (J_bin rfl (Opd.tmp rfl) Opd.con B_leq) ?_
      refine RegL.pure (p := (pEq (.bool (decide (c_0 ≤ (57 : Int)))))) rfl rfl rfl (J_pick rfl (Opd.tmp rfl) (fun _ => (Opd.tmp rfl)) (fun hf => absurd (hc2.symm.trans hf) (by decide))) ?_
      refine RegL.pure (p := (pEq (.bool (decide (c_0 ≤ (57 : Int)))))) rfl rfl rfl (J_assign rfl (Opd.tmp rfl)) ?_
      refine RegL.nil ?_
      replace h := Option.some.inj h; subst h
      exact Ct.mid () rfl ⟨rfl, trivial⟩
    · replace h := bif_f hc2 h
      refine RegL.skipG rfl rfl rfl hc2 rfl rfl ?_
      refine RegL.skipG rfl rfl rfl hc2 rfl rfl ?_
      refine RegL.pure (p := (pEq (.bool false))) rfl rfl rfl (J_pick rfl (Opd.tmp rfl) (fun hf => absurd (hc2.symm.trans hf) (by decide)) (fun _ => Opd.con)) ?_
      refine RegL.pure (p := (pEq (.bool false))) rfl rfl rfl (J_assign rfl (Opd.tmp rfl)) ?_
      refine RegL.nil ?_
      replace h := Option.some.inj h; subst h
      exact Ct.mid () rfl ⟨rfl, trivial⟩
  · clear hx1
    refine Ct.then_tr ?_
    refine Tr.weak (Γ' := [(2, (pEq (.bool x1)))]) ⟨rfl, trivial⟩ ?_
    refine Tr.ret ?_
    replace h := Option.some.inj h; subst h
    exact Ct.retH1 (Ωx := []) () rfl (RvOk.tmp rfl) rfl

theorem c_spec_l01Name {s_0 : ByteArray} {r : Bool} (h : m_spec_l01Name s_0 = some r) : CallJ Tryd.prog 90 [(pEq (.string s_0))] (pEq (.bool r)) := by
  unfold m_spec_l01Name at h
  refine CallJ.enterH Tryd.func90 rfl Tryd.ntmps90 rfl fun W I0 H => ?_
  refine Tr.weak (Γ' := [(0, (pEq (.string s_0)))]) ⟨rfl, trivial⟩ ?_
  refine Tr.seq ?_
  refine Tr.region ?_
  refine RegL.pure (p := (pEq (.bool false))) rfl rfl rfl (J_assign rfl Opd.con) ?_
  refine RegL.nil ?_
  refine Ct.then_tr ?_
  refine Tr.weak (Γ' := [(0, (pEq (.string s_0)))]) ⟨rfl, trivial⟩ ?_
  refine Tr.seq ?_
  refine Tr.seq ?_
  replace h := bind_some h; obtain ⟨x1, hx1, h⟩ := h
  refine Tr.cut (γ := Unit) (Γm := fun g => [(0, (pEq (.string s_0))), (16, (pEq (.bool x1)))]) (Ωm := fun g => []) ?_ (fun g6 => ?_)
  · clear h
    have h := hx1
    clear hx1
    refine Tr.region ?_
    refine RegL.pure (p := (pEq (.string s_0))) rfl rfl rfl (J_move rfl (Opd.tmp rfl)) ?_
    refine RegL.pure (p := (pEq (.bool (s_0.toList == (ByteArray.mk #[]).toList)))) rfl rfl rfl (J_bin rfl (Opd.tmp rfl) Opd.con B_seql) ?_
    refine RegL.pure (p := (pEq (.bool (s_0.toList == (ByteArray.mk #[]).toList)))) rfl rfl rfl (J_move rfl (Opd.tmp rfl)) ?_
    rcases Bool.eq_false_or_eq_true (s_0.toList == (ByteArray.mk #[]).toList) with hc2 | hc2
    · replace h := bif_t hc2 h
      refine RegL.skipG rfl rfl rfl hc2 rfl rfl ?_
      refine RegL.skipG rfl rfl rfl hc2 rfl rfl ?_
      refine RegL.skipG rfl rfl rfl hc2 rfl rfl ?_
      refine RegL.pure (p := (pEq (.bool true))) rfl rfl rfl (J_pick rfl (Opd.tmp rfl) (fun _ => Opd.con) (fun hf => absurd (hc2.symm.trans hf) (by decide))) ?_
      refine RegL.pure (p := (pEq (.bool true))) rfl rfl rfl (J_move rfl (Opd.tmp rfl)) ?_
      refine RegL.skipG rfl rfl rfl rfl rfl rfl ?_
      refine RegL.skipG rfl rfl rfl rfl rfl rfl ?_
      refine RegL.skipG rfl rfl rfl rfl rfl rfl ?_
      refine RegL.skipG rfl rfl rfl rfl rfl rfl ?_
      refine RegL.pure (p := (pEq (.bool true))) rfl rfl rfl (J_pick rfl (Opd.tmp rfl) (fun _ => Opd.con) (fun hf => absurd hf (by decide))) ?_
      refine RegL.nil ?_
      replace h := Option.some.inj h; subst h
      exact Ct.mid () rfl ⟨rfl, rfl, trivial⟩
    · replace h := bif_f hc2 h
      refine RegL.pureG (p := (pEq (.string s_0))) rfl rfl rfl hc2 rfl rfl (J_move rfl (Opd.tmp rfl)) ?_
      refine RegL.pureG (p := (pEq (.int .i64 (s_0.size : Int)))) rfl rfl rfl hc2 rfl rfl (J_slen rfl Tryd.underlying9 (Opd.tmp rfl) rfl) ?_
      refine RegL.pureG (p := (pEq (.bool (decide ((10 : Int) < (s_0.size : Int)))))) rfl rfl rfl hc2 rfl rfl (J_bin rfl (Opd.tmp rfl) Opd.con B_gtr) ?_
      refine RegL.pure (p := (pEq (.bool (decide ((10 : Int) < (s_0.size : Int)))))) rfl rfl rfl (J_pick rfl (Opd.tmp rfl) (fun hf => absurd (hc2.symm.trans hf) (by decide)) (fun _ => (Opd.tmp rfl))) ?_
      refine RegL.pure (p := (pEq (.bool (decide ((10 : Int) < (s_0.size : Int)))))) rfl rfl rfl (J_move rfl (Opd.tmp rfl)) ?_
      rcases Bool.eq_false_or_eq_true (decide ((10 : Int) < (s_0.size : Int))) with hc3 | hc3
      · replace h := bif_t hc3 h
        refine RegL.skipG rfl rfl rfl hc3 rfl rfl ?_
        refine RegL.skipG rfl rfl rfl hc3 rfl rfl ?_
        refine RegL.skipG rfl rfl rfl hc3 rfl rfl ?_
        refine RegL.skipG rfl rfl rfl hc3 rfl rfl ?_
        refine RegL.pure (p := (pEq (.bool true))) rfl rfl rfl (J_pick rfl (Opd.tmp rfl) (fun _ => Opd.con) (fun hf => absurd (hc3.symm.trans hf) (by decide))) ?_
        refine RegL.nil ?_
        replace h := Option.some.inj h; subst h
        exact Ct.mid () rfl ⟨rfl, rfl, trivial⟩
      · replace h := bif_f hc3 h
        refine RegL.pureG (p := (pEq (.string s_0))) rfl rfl rfl hc3 rfl rfl (J_move rfl (Opd.tmp rfl)) ?_
        replace h := bind_some h; obtain ⟨y4, hy4, h⟩ := h
        refine RegL.pureG (p := (pEq (.int .u8 (y4.toNat : Int)))) rfl rfl rfl hc3 rfl rfl (J_sidx rfl Tryd.underlying9 (Opd.tmp rfl) Opd.con hy4) ?_
        replace h := bind_some h; obtain ⟨x5, hx5, h⟩ := h
        refine RegL.pureG (p := (pEq (.bool x5))) rfl rfl rfl hc3 rfl rfl (J_call rfl Tryd.call113 (c_spec_l01Small hx5) (Opds.cons (Opd.tmp rfl) Opds.nil)) ?_
        refine RegL.pureG (p := (pEq (.bool (!x5)))) rfl rfl rfl hc3 rfl rfl (J_not rfl (Opd.tmp rfl)) ?_
        refine RegL.pure (p := (pEq (.bool (!x5)))) rfl rfl rfl (J_pick rfl (Opd.tmp rfl) (fun hf => absurd (hc3.symm.trans hf) (by decide)) (fun _ => (Opd.tmp rfl))) ?_
        refine RegL.nil ?_
        replace h := Option.some.inj h; subst h
        exact Ct.mid () rfl ⟨rfl, rfl, trivial⟩
  · clear hx1
    refine Ct.then_tr ?_
    refine Tr.weak (Γ' := [(0, (pEq (.string s_0))), (16, (pEq (.bool x1)))]) ⟨rfl, rfl, trivial⟩ ?_
    refine Tr.cond (Opd.tmp rfl) (fun hc => ?_) (fun hc => ?_)
    · replace h := bif_t hc h
      refine Tr.seq ?_
      refine Tr.region ?_
      refine RegL.pure (p := (pEq (.bool false))) rfl rfl rfl (J_assign rfl Opd.con) ?_
      refine RegL.nil ?_
      refine Ct.then_tr ?_
      refine Tr.weak (Γ' := [(2, (pEq (.bool false)))]) ⟨rfl, trivial⟩ ?_
      refine Tr.ret ?_
      refine Ct.then_ret ?_
      replace h := Option.some.inj h; subst h
      exact Ct.retH1 (Ωx := []) () rfl (RvOk.tmp rfl) rfl
    · replace h := bif_f hc h
      refine Tr.skip ?_
      refine Ct.then_tr ?_
      refine Tr.weak (Γ' := [(0, (pEq (.string s_0)))]) ⟨rfl, trivial⟩ ?_
      refine Tr.seq ?_
      refine Tr.seq ?_
      refine Tr.region ?_
      refine RegL.pure (p := (pEq (.int .i64 (0 : Int)))) rfl rfl rfl (J_assign rfl Opd.con) ?_
      refine RegL.nil ?_
      refine Ct.then_tr ?_
      refine Tr.weak (Γ' := [(0, (pEq (.string s_0))), (3, (pEq (.int .i64 (0 : Int))))]) ⟨rfl, rfl, trivial⟩ ?_
      refine Tr.block ?_
      refine Tr.weak (Γ' := [(0, (pEq (.string s_0))), (3, (pEq (.int .i64 (0 : Int))))]) ⟨rfl, rfl, trivial⟩ ?_
      refine Tr.loop (γ := Unit) (σ := Int) (Γσ := fun s g => [(0, (pEq (.string s_0))), (3, (pEq (.int .i64 s)))]) (Ωσ := fun s g => []) (g := ()) h ?_
      clear h
      rintro v8 g9 t h
      replace h : m_spec_l01Name_B7 s_0 v8 = some t := h
      unfold m_spec_l01Name_B7 at h
      refine Tr.weakO (Γ' := [(0, (pEq (.string s_0))), (3, (pEq (.int .i64 v8)))]) (Ω' := []) rfl ⟨rfl, rfl, trivial⟩ ?_
      refine Tr.seq ?_
      refine Tr.seq ?_
      refine Tr.region ?_
      refine RegL.pure (p := (pEq (.int .i64 v8))) rfl rfl rfl (J_move rfl (Opd.tmp rfl)) ?_
      refine RegL.pure (p := (pEq (.string s_0))) rfl rfl rfl (J_move rfl (Opd.tmp rfl)) ?_
      refine RegL.pure (p := (pEq (.int .i64 (s_0.size : Int)))) rfl rfl rfl (J_slen rfl Tryd.underlying9 (Opd.tmp rfl) rfl) ?_
      refine RegL.pure (p := (pEq (.bool (decide (v8 < (s_0.size : Int)))))) rfl rfl rfl (J_bin rfl (Opd.tmp rfl) (Opd.tmp rfl) B_lss) ?_
      refine RegL.nil ?_
      refine Ct.then_tr ?_
      refine Tr.weak (Γ' := [(0, (pEq (.string s_0))), (3, (pEq (.int .i64 v8))), (20, (pEq (.bool (decide (v8 < (s_0.size : Int))))))]) ⟨rfl, rfl, rfl, trivial⟩ ?_
      refine Tr.cond (Opd.tmp rfl) (fun hc => ?_) (fun hc => ?_)
      · replace h := bif_t hc h
        refine Tr.skip ?_
        refine Ct.then_tr ?_
        refine Tr.weak (Γ' := [(0, (pEq (.string s_0))), (3, (pEq (.int .i64 v8)))]) ⟨rfl, rfl, trivial⟩ ?_
        refine Tr.seq ?_
        refine Tr.block ?_
        refine Tr.seq ?_
        replace h := bind_some h; obtain ⟨x10, hx10, h⟩ := h
        refine Tr.cut (γ := Unit) (Γm := fun g => [(0, (pEq (.string s_0))), (3, (pEq (.int .i64 v8))), (34, (pEq (.bool x10)))]) (Ωm := fun g => []) ?_ (fun g16 => ?_)
        · clear h
          have h := hx10
          clear hx10
          refine Tr.region ?_
          refine RegL.pure (p := (pEq (.string s_0))) rfl rfl rfl (J_move rfl (Opd.tmp rfl)) ?_
          refine RegL.pure (p := (pEq (.int .i64 v8))) rfl rfl rfl (J_move rfl (Opd.tmp rfl)) ?_
          replace h := bind_some h; obtain ⟨y11, hy11, h⟩ := h
          refine RegL.pure (p := (pEq (.int .u8 (y11.toNat : Int)))) rfl rfl rfl (J_sidx rfl Tryd.underlying9 (Opd.tmp rfl) (Opd.tmp rfl) hy11) ?_
          replace h := bind_some h; obtain ⟨x12, hx12, h⟩ := h
          refine RegL.pure (p := (pEq (.bool x12))) rfl rfl rfl (J_call rfl Tryd.call113 (c_spec_l01Small hx12) (Opds.cons (Opd.tmp rfl) Opds.nil)) ?_
          refine RegL.pure (p := (pEq (.bool (!x12)))) rfl rfl rfl (J_not rfl (Opd.tmp rfl)) ?_
          refine RegL.pure (p := (pEq (.bool (!x12)))) rfl rfl rfl (J_move rfl (Opd.tmp rfl)) ?_
          rcases Bool.eq_false_or_eq_true (!x12) with hc13 | hc13
          · replace h := bif_t hc13 h
            refine RegL.pureG (p := (pEq (.string s_0))) rfl rfl rfl hc13 rfl rfl (J_move rfl (Opd.tmp rfl)) ?_
            refine RegL.pureG (p := (pEq (.int .i64 v8))) rfl rfl rfl hc13 rfl rfl (J_move rfl (Opd.tmp rfl)) ?_
            replace h := bind_some h; obtain ⟨y14, hy14, h⟩ := h
            refine RegL.pureG (p := (pEq (.int .u8 (y14.toNat : Int)))) rfl rfl rfl hc13 rfl rfl (J_sidx rfl Tryd.underlying9 (Opd.tmp rfl) (Opd.tmp rfl) hy14) ?_
            replace h := bind_some h; obtain ⟨x15, hx15, h⟩ := h
            refine RegL.pureG (p := (pEq (.bool x15))) rfl rfl rfl hc13 rfl rfl (J_call rfl Tryd.call99 (c_spec_l01Digit hx15) (Opds.cons (Opd.tmp rfl) Opds.nil)) ?_
            refine RegL.pureG (p := (pEq (.bool (!x15)))) rfl rfl rfl hc13 rfl rfl (J_not rfl (Opd.tmp rfl)) ?_
            refine RegL.pure (p := (pEq (.bool (!x15)))) rfl rfl rfl (J_pick rfl (Opd.tmp rfl) (fun _ => (Opd.tmp rfl)) (fun hf => absurd (hc13.symm.trans hf) (by decide))) ?_
            refine RegL.nil ?_
            replace h := Option.some.inj h; subst h
            exact Ct.mid () rfl ⟨rfl, rfl, rfl, trivial⟩
          · replace h := bif_f hc13 h
            refine RegL.skipG rfl rfl rfl hc13 rfl rfl ?_
            refine RegL.skipG rfl rfl rfl hc13 rfl rfl ?_
            refine RegL.skipG rfl rfl rfl hc13 rfl rfl ?_
            refine RegL.skipG rfl rfl rfl hc13 rfl rfl ?_
            refine RegL.skipG rfl rfl rfl hc13 rfl rfl ?_
            refine RegL.pure (p := (pEq (.bool false))) rfl rfl rfl (J_pick rfl (Opd.tmp rfl) (fun hf => absurd (hc13.symm.trans hf) (by decide)) (fun _ => Opd.con)) ?_
            refine RegL.nil ?_
            replace h := Option.some.inj h; subst h
            exact Ct.mid () rfl ⟨rfl, rfl, rfl, trivial⟩
        · clear hx10
          refine Ct.then_tr ?_
          refine Tr.weak (Γ' := [(0, (pEq (.string s_0))), (3, (pEq (.int .i64 v8))), (34, (pEq (.bool x10)))]) ⟨rfl, rfl, rfl, trivial⟩ ?_
          refine Tr.cond (Opd.tmp rfl) (fun hc => ?_) (fun hc => ?_)
          · replace h := bif_t hc h
            refine Tr.seq ?_
            refine Tr.region ?_
            refine RegL.pure (p := (pEq (.bool false))) rfl rfl rfl (J_assign rfl Opd.con) ?_
            refine RegL.nil ?_
            refine Ct.then_tr ?_
            refine Tr.weak (Γ' := [(2, (pEq (.bool false)))]) ⟨rfl, trivial⟩ ?_
            refine Tr.ret ?_
            refine Ct.blk_ret ?_
            refine Ct.then_ret ?_
            replace h := map_some h; obtain ⟨r1, h, rfl⟩ := h
            refine Ct.out_ret fun e => ?_
            subst e
            refine Ct.blk_ret ?_
            refine Ct.then_ret ?_
            replace h := Option.some.inj h; subst h
            exact Ct.retH1 (Ωx := []) () rfl (RvOk.tmp rfl) rfl
          · replace h := bif_f hc h
            refine Tr.skip ?_
            refine Ct.blk_normal ?_
            refine Ct.then_tr ?_
            refine Tr.weak (Γ' := [(0, (pEq (.string s_0))), (3, (pEq (.int .i64 v8)))]) ⟨rfl, rfl, trivial⟩ ?_
            refine Tr.region ?_
            refine RegL.pure (p := (pEq (.int .i64 v8))) rfl rfl rfl (J_move rfl (Opd.tmp rfl)) ?_
            refine RegL.pure (p := (pEq (.int .i64 (w64 (v8 + (1 : Int)))))) rfl rfl rfl (J_bin rfl (Opd.tmp rfl) Opd.con B_add) ?_
            refine RegL.pure (p := (pEq (.int .i64 (w64 (v8 + (1 : Int)))))) rfl rfl rfl (J_assign rfl (Opd.tmp rfl)) ?_
            refine RegL.nil ?_
            replace h := Option.some.inj h; subst h
            exact Ct.again () rfl ⟨rfl, rfl, trivial⟩
      · replace h := bif_f hc h
        refine Tr.exit ?_
        refine Ct.then_exit ?_
        replace h := map_some h; obtain ⟨r1, h, rfl⟩ := h
        refine Ct.out_exit fun e => ?_
        subst e
        refine Ct.blk_exit ?_
        refine Ct.then_tr ?_
        refine Tr.weak (Γ' := []) trivial ?_
        refine Tr.seq ?_
        refine Tr.region ?_
        refine RegL.pure (p := (pEq (.bool true))) rfl rfl rfl (J_assign rfl Opd.con) ?_
        refine RegL.nil ?_
        refine Ct.then_tr ?_
        refine Tr.weak (Γ' := [(2, (pEq (.bool true)))]) ⟨rfl, trivial⟩ ?_
        refine Tr.ret ?_
        replace h := Option.some.inj h; subst h
        exact Ct.retH1 (Ωx := []) () rfl (RvOk.tmp rfl) rfl

theorem c_spec_l00In {n_0 : Int} {low_1 : Int} {high_2 : Int} {r : Bool} (h : m_spec_l00In n_0 low_1 high_2 = some r) : CallJ Tryd.prog 38 [(pEq (.int .i64 n_0)), (pEq (.int .i64 low_1)), (pEq (.int .i64 high_2))] (pEq (.bool r)) := by
  unfold m_spec_l00In at h
  refine CallJ.enterH Tryd.func38 rfl Tryd.ntmps38 rfl fun W I0 H => ?_
  refine Tr.weak (Γ' := [(0, (pEq (.int .i64 n_0))), (1, (pEq (.int .i64 low_1))), (2, (pEq (.int .i64 high_2)))]) ⟨rfl, rfl, rfl, trivial⟩ ?_
  refine Tr.seq ?_
  refine Tr.region ?_
  refine RegL.pure (p := (pEq (.bool false))) rfl rfl rfl (J_assign rfl Opd.con) ?_
  refine RegL.nil ?_
  refine Ct.then_tr ?_
  refine Tr.weak (Γ' := [(0, (pEq (.int .i64 n_0))), (1, (pEq (.int .i64 low_1))), (2, (pEq (.int .i64 high_2)))]) ⟨rfl, rfl, rfl, trivial⟩ ?_
  refine Tr.seq ?_
  replace h := bind_some h; obtain ⟨x1, hx1, h⟩ := h
  refine Tr.cut (γ := Unit) (Γm := fun g => [(6, (pEq (.bool x1)))]) (Ωm := fun g => []) ?_ (fun g3 => ?_)
  · clear h
    have h := hx1
    clear hx1
    refine Tr.region ?_
    refine RegL.pure (p := (pEq (.int .i64 n_0))) rfl rfl rfl (J_move rfl (Opd.tmp rfl)) ?_
    refine RegL.pure (p := (pEq (.int .i64 low_1))) rfl rfl rfl (J_move rfl (Opd.tmp rfl)) ?_
    refine RegL.pure (p := (pEq (.bool (decide (low_1 ≤ n_0))))) rfl rfl rfl (J_bin rfl (Opd.tmp rfl) (Opd.tmp rfl) B_geq) ?_
    refine RegL.pure (p := (pEq (.bool (decide (low_1 ≤ n_0))))) rfl rfl rfl (J_move rfl (Opd.tmp rfl)) ?_
    rcases Bool.eq_false_or_eq_true (decide (low_1 ≤ n_0)) with hc2 | hc2
    · replace h := bif_t hc2 h
      refine RegL.pureG (p := (pEq (.int .i64 n_0))) rfl rfl rfl hc2 rfl rfl (J_move rfl (Opd.tmp rfl)) ?_
      refine RegL.pureG (p := (pEq (.int .i64 high_2))) rfl rfl rfl hc2 rfl rfl (J_move rfl (Opd.tmp rfl)) ?_
      refine RegL.pureG (p := (pEq (.bool (decide (n_0 ≤ high_2))))) rfl rfl rfl hc2 rfl rfl (J_bin rfl (Opd.tmp rfl) (Opd.tmp rfl) B_leq) ?_
      refine RegL.pure (p := (pEq (.bool (decide (n_0 ≤ high_2))))) rfl rfl rfl (J_pick rfl (Opd.tmp rfl) (fun _ => (Opd.tmp rfl)) (fun hf => absurd (hc2.symm.trans hf) (by decide))) ?_
      refine RegL.pure (p := (pEq (.bool (decide (n_0 ≤ high_2))))) rfl rfl rfl (J_assign rfl (Opd.tmp rfl)) ?_
      refine RegL.nil ?_
      replace h := Option.some.inj h; subst h
      exact Ct.mid () rfl ⟨rfl, trivial⟩
    · replace h := bif_f hc2 h
      refine RegL.skipG rfl rfl rfl hc2 rfl rfl ?_
      refine RegL.skipG rfl rfl rfl hc2 rfl rfl ?_
      refine RegL.skipG rfl rfl rfl hc2 rfl rfl ?_
      refine RegL.pure (p := (pEq (.bool false))) rfl rfl rfl (J_pick rfl (Opd.tmp rfl) (fun hf => absurd (hc2.symm.trans hf) (by decide)) (fun _ => Opd.con)) ?_
      refine RegL.pure (p := (pEq (.bool false))) rfl rfl rfl (J_assign rfl (Opd.tmp rfl)) ?_
      refine RegL.nil ?_
      replace h := Option.some.inj h; subst h
      exact Ct.mid () rfl ⟨rfl, trivial⟩
  · clear hx1
    refine Ct.then_tr ?_
    refine Tr.weak (Γ' := [(6, (pEq (.bool x1)))]) ⟨rfl, trivial⟩ ?_
    refine Tr.ret ?_
    replace h := Option.some.inj h; subst h
    exact Ct.retH1 (Ωx := []) () rfl (RvOk.tmp rfl) rfl

theorem c_spec_l15Count {b_0 : GBand} {r : Int} (h : m_spec_l15Count b_0 = some r) : CallJ Tryd.prog 91 [(pPtr (cGBand b_0))] (pEq (.int .i64 r)) := by
  unfold m_spec_l15Count at h
  refine CallJ.enterH Tryd.func91 rfl Tryd.ntmps91 rfl fun W I0 H => ?_
  refine Tr.weak (Γ' := [(0, (pPtr (cGBand b_0)))]) ⟨rfl, trivial⟩ ?_
  refine Tr.seq ?_
  refine Tr.region ?_
  refine RegL.pure (p := (pEq (.int .i64 (0 : Int)))) rfl rfl rfl (J_assign rfl Opd.con) ?_
  refine RegL.nil ?_
  refine Ct.then_tr ?_
  refine Tr.weak (Γ' := [(0, (pPtr (cGBand b_0)))]) ⟨rfl, trivial⟩ ?_
  refine Tr.seq ?_
  replace h := bind_some h; obtain ⟨x1, hx1, h⟩ := h
  refine Tr.drawD (n := 17) (m := 14) (es := [some (Ent.mk [(0, (pPtr (cGBand b_0)))] (pPtr (cGBand b_0)) true), some (Ent.mk [(3, (pPtr (cGBand b_0)))] (pPtr (cGBand b_0)) true), some (Ent.mk [(4, (pPtr (cGBand b_0)))] (pPtr ((cK .i64) b_0.High)) true), some (Ent.mk [(5, (pPtr ((cK .i64) b_0.High)))] (pEq (.int .i64 b_0.High)) true), some (Ent.mk [(0, (pPtr (cGBand b_0)))] (pPtr (cGBand b_0)) true), some (Ent.mk [(7, (pPtr (cGBand b_0)))] (pPtr (cGBand b_0)) true), some (Ent.mk [(8, (pPtr (cGBand b_0)))] (pPtr ((cK .i64) b_0.Low)) true), some (Ent.mk [(9, (pPtr ((cK .i64) b_0.Low)))] (pEq (.int .i64 b_0.Low)) true), some (Ent.mk [(6, (pEq (.int .i64 b_0.High))), (10, (pEq (.int .i64 b_0.Low)))] (pEq (.int .i64 (w64 (b_0.High - b_0.Low)))) true), some (Ent.mk [(0, (pPtr (cGBand b_0)))] (pPtr (cGBand b_0)) true), some (Ent.mk [(12, (pPtr (cGBand b_0)))] (pPtr (cGBand b_0)) true), some (Ent.mk [(13, (pPtr (cGBand b_0)))] (pPtr ((cK .i64) b_0.Raster)) true), some (Ent.mk [(14, (pPtr ((cK .i64) b_0.Raster)))] (pEq (.int .i64 b_0.Raster)) true), some (Ent.mk [(11, (pEq (.int .i64 (w64 (b_0.High - b_0.Low))))), (15, (pEq (.int .i64 b_0.Raster)))] (pEq (.int .i64 x1)) true)]) (rd := [[0], [3], [4], [5], [0], [7], [8], [9], [6, 10], [0], [12], [13], [14], [11, 15]]) rfl hmix (by kernel_rfl) fun hD => ?_
  refine RD.fin (es := [Ent.mk [(0, (pPtr (cGBand b_0)))] (pPtr (cGBand b_0)) true, Ent.mk [(3, (pPtr (cGBand b_0)))] (pPtr (cGBand b_0)) true, Ent.mk [(4, (pPtr (cGBand b_0)))] (pPtr ((cK .i64) b_0.High)) true, Ent.mk [(5, (pPtr ((cK .i64) b_0.High)))] (pEq (.int .i64 b_0.High)) true, Ent.mk [(0, (pPtr (cGBand b_0)))] (pPtr (cGBand b_0)) true, Ent.mk [(7, (pPtr (cGBand b_0)))] (pPtr (cGBand b_0)) true, Ent.mk [(8, (pPtr (cGBand b_0)))] (pPtr ((cK .i64) b_0.Low)) true, Ent.mk [(9, (pPtr ((cK .i64) b_0.Low)))] (pEq (.int .i64 b_0.Low)) true, Ent.mk [(6, (pEq (.int .i64 b_0.High))), (10, (pEq (.int .i64 b_0.Low)))] (pEq (.int .i64 (w64 (b_0.High - b_0.Low)))) true, Ent.mk [(0, (pPtr (cGBand b_0)))] (pPtr (cGBand b_0)) true, Ent.mk [(12, (pPtr (cGBand b_0)))] (pPtr (cGBand b_0)) true, Ent.mk [(13, (pPtr (cGBand b_0)))] (pPtr ((cK .i64) b_0.Raster)) true, Ent.mk [(14, (pPtr ((cK .i64) b_0.Raster)))] (pEq (.int .i64 b_0.Raster)) true, Ent.mk [(11, (pEq (.int .i64 (w64 (b_0.High - b_0.Low))))), (15, (pEq (.int .i64 b_0.Raster)))] (pEq (.int .i64 x1)) true]) (done := []) hD ⟨.inr ⟨(OpJ.w (J_move rfl (Opd.tmp rfl))), ⟨rfl, trivial⟩, rfl, rfl⟩, ⟨.inr ⟨(OpJ.w (J_nilCheck rfl (Opd.tmp rfl))), ⟨rfl, trivial⟩, rfl, rfl⟩, ⟨.inr ⟨(OpJ.w (J_fieldAddr rfl Tryd.underlying52 rfl sz2 (by decide) (Opd.tmp rfl) rfl)), ⟨rfl, trivial⟩, rfl, rfl⟩, ⟨.inr ⟨(OpJ.w (J_load rfl Tryd.isAgg2 (Opd.tmp rfl))), ⟨rfl, trivial⟩, rfl, rfl⟩, ⟨.inr ⟨(OpJ.w (J_move rfl (Opd.tmp rfl))), ⟨rfl, trivial⟩, rfl, rfl⟩, ⟨.inr ⟨(OpJ.w (J_nilCheck rfl (Opd.tmp rfl))), ⟨rfl, trivial⟩, rfl, rfl⟩, ⟨.inr ⟨(OpJ.w (J_fieldAddr rfl Tryd.underlying52 rfl sz2 (by decide) (Opd.tmp rfl) rfl)), ⟨rfl, trivial⟩, rfl, rfl⟩, ⟨.inr ⟨(OpJ.w (J_load rfl Tryd.isAgg2 (Opd.tmp rfl))), ⟨rfl, trivial⟩, rfl, rfl⟩, ⟨.inr ⟨(OpJ.w (J_bin rfl (Opd.tmp rfl) (Opd.tmp rfl) B_sub)), ⟨rfl, rfl, trivial⟩, rfl, rfl⟩, ⟨.inr ⟨(OpJ.w (J_move rfl (Opd.tmp rfl))), ⟨rfl, trivial⟩, rfl, rfl⟩, ⟨.inr ⟨(OpJ.w (J_nilCheck rfl (Opd.tmp rfl))), ⟨rfl, trivial⟩, rfl, rfl⟩, ⟨.inr ⟨(OpJ.w (J_fieldAddr rfl Tryd.underlying52 rfl sz2 (by decide) (Opd.tmp rfl) rfl)), ⟨rfl, trivial⟩, rfl, rfl⟩, ⟨.inr ⟨(OpJ.w (J_load rfl Tryd.isAgg2 (Opd.tmp rfl))), ⟨rfl, trivial⟩, rfl, rfl⟩, ⟨.inr ⟨(OpJ.w (J_bin rfl (Opd.tmp rfl) (Opd.tmp rfl) (B_qdiv hx1))), ⟨rfl, rfl, trivial⟩, rfl, rfl⟩, trivial⟩⟩⟩⟩⟩⟩⟩⟩⟩⟩⟩⟩⟩⟩ ?_
  refine RegL.pure (p := (pEq (.int .i64 x1))) rfl rfl rfl (J_assign rfl (Opd.tmp rfl)) ?_
  refine RegL.nil ?_
  refine Ct.then_tr ?_
  refine Tr.weak (Γ' := [(2, (pEq (.int .i64 x1)))]) ⟨rfl, trivial⟩ ?_
  refine Tr.ret ?_
  replace h := Option.some.inj h; subst h
  exact Ct.retH1 (Ωx := []) () rfl (RvOk.tmp rfl) rfl

theorem c_spec_l15Ok {a_0 : GBand} {r : Bool} (h : m_spec_l15Ok a_0 = some r) : CallJ Tryd.prog 58 [(pPtr (cGBand a_0))] (pEq (.bool r)) := by
  unfold m_spec_l15Ok at h
  refine CallJ.enterH Tryd.func58 rfl Tryd.ntmps58 rfl fun W I0 H => ?_
  refine Tr.weak (Γ' := [(0, (pPtr (cGBand a_0)))]) ⟨rfl, trivial⟩ ?_
  refine Tr.seq ?_
  refine Tr.region ?_
  refine RegL.pure (p := (pEq (.bool false))) rfl rfl rfl (J_assign rfl Opd.con) ?_
  refine RegL.nil ?_
  refine Ct.then_tr ?_
  refine Tr.weak (Γ' := [(0, (pPtr (cGBand a_0)))]) ⟨rfl, trivial⟩ ?_
  refine Tr.seq ?_
  refine Tr.seq ?_
  replace h := bind_some h; obtain ⟨x1, hx1, h⟩ := h
  refine Tr.cut (γ := Unit) (Γm := fun g => [(0, (pPtr (cGBand a_0))), (40, (pEq (.bool x1)))]) (Ωm := fun g => []) ?_ (fun g11 => ?_)
  · clear h
    have h := hx1
    clear hx1
    refine Tr.region ?_
    refine RegL.pure (p := (pPtr (cGBand a_0))) rfl rfl rfl (J_move rfl (Opd.tmp rfl)) ?_
    refine RegL.pure (p := (pPtr (cGBand a_0))) rfl rfl rfl (J_nilCheck rfl (Opd.tmp rfl)) ?_
    refine RegL.pure (p := (pPtr (cS a_0.Name))) rfl rfl rfl (J_fieldAddr rfl Tryd.underlying52 rfl sz9 (by decide) (Opd.tmp rfl) rfl) ?_
    refine RegL.pure (p := (pEq (.string a_0.Name))) rfl rfl rfl (J_load rfl Tryd.isAgg9 (Opd.tmp rfl)) ?_
    replace h := bind_some h; obtain ⟨x2, hx2, h⟩ := h
    refine RegL.pure (p := (pEq (.bool x2))) rfl rfl rfl (J_call rfl Tryd.call90 (c_spec_l01Name hx2) (Opds.cons (Opd.tmp rfl) Opds.nil)) ?_
    refine RegL.pure (p := (pEq (.bool (!x2)))) rfl rfl rfl (J_not rfl (Opd.tmp rfl)) ?_
    refine RegL.pure (p := (pEq (.bool (!x2)))) rfl rfl rfl (J_move rfl (Opd.tmp rfl)) ?_
    rcases Bool.eq_false_or_eq_true (!x2) with hc3 | hc3
    · replace h := bif_t hc3 h
      refine RegL.skipG rfl rfl rfl hc3 rfl rfl ?_
      refine RegL.skipG rfl rfl rfl hc3 rfl rfl ?_
      refine RegL.skipG rfl rfl rfl hc3 rfl rfl ?_
      refine RegL.skipG rfl rfl rfl hc3 rfl rfl ?_
      refine RegL.skipG rfl rfl rfl hc3 rfl rfl ?_
      refine RegL.skipG rfl rfl rfl hc3 rfl rfl ?_
      refine RegL.pure (p := (pEq (.bool true))) rfl rfl rfl (J_pick rfl (Opd.tmp rfl) (fun _ => Opd.con) (fun hf => absurd (hc3.symm.trans hf) (by decide))) ?_
      refine RegL.pure (p := (pEq (.bool true))) rfl rfl rfl (J_move rfl (Opd.tmp rfl)) ?_
      refine RegL.skipG rfl rfl rfl rfl rfl rfl ?_
      refine RegL.skipG rfl rfl rfl rfl rfl rfl ?_
      refine RegL.skipG rfl rfl rfl rfl rfl rfl ?_
      refine RegL.skipG rfl rfl rfl rfl rfl rfl ?_
      refine RegL.skipG rfl rfl rfl rfl rfl rfl ?_
      refine RegL.skipG rfl rfl rfl rfl rfl rfl ?_
      refine RegL.pure (p := (pEq (.bool true))) rfl rfl rfl (J_pick rfl (Opd.tmp rfl) (fun _ => Opd.con) (fun hf => absurd hf (by decide))) ?_
      refine RegL.pure (p := (pEq (.bool true))) rfl rfl rfl (J_move rfl (Opd.tmp rfl)) ?_
      refine RegL.skipG rfl rfl rfl rfl rfl rfl ?_
      refine RegL.skipG rfl rfl rfl rfl rfl rfl ?_
      refine RegL.skipG rfl rfl rfl rfl rfl rfl ?_
      refine RegL.skipG rfl rfl rfl rfl rfl rfl ?_
      refine RegL.skipG rfl rfl rfl rfl rfl rfl ?_
      refine RegL.skipG rfl rfl rfl rfl rfl rfl ?_
      refine RegL.pure (p := (pEq (.bool true))) rfl rfl rfl (J_pick rfl (Opd.tmp rfl) (fun _ => Opd.con) (fun hf => absurd hf (by decide))) ?_
      refine RegL.pure (p := (pEq (.bool true))) rfl rfl rfl (J_move rfl (Opd.tmp rfl)) ?_
      refine RegL.skipG rfl rfl rfl rfl rfl rfl ?_
      refine RegL.skipG rfl rfl rfl rfl rfl rfl ?_
      refine RegL.skipG rfl rfl rfl rfl rfl rfl ?_
      refine RegL.skipG rfl rfl rfl rfl rfl rfl ?_
      refine RegL.skipG rfl rfl rfl rfl rfl rfl ?_
      refine RegL.skipG rfl rfl rfl rfl rfl rfl ?_
      refine RegL.pure (p := (pEq (.bool true))) rfl rfl rfl (J_pick rfl (Opd.tmp rfl) (fun _ => Opd.con) (fun hf => absurd hf (by decide))) ?_
      refine RegL.nil ?_
      replace h := Option.some.inj h; subst h
      exact Ct.mid () rfl ⟨rfl, rfl, trivial⟩
    · replace h := bif_f hc3 h
      refine RegL.pureG (p := (pPtr (cGBand a_0))) rfl rfl rfl hc3 rfl rfl (J_move rfl (Opd.tmp rfl)) ?_
      refine RegL.pureG (p := (pPtr (cGBand a_0))) rfl rfl rfl hc3 rfl rfl (J_nilCheck rfl (Opd.tmp rfl)) ?_
      refine RegL.pureG (p := (pPtr ((cK .i64) a_0.Low))) rfl rfl rfl hc3 rfl rfl (J_fieldAddr rfl Tryd.underlying52 rfl sz2 (by decide) (Opd.tmp rfl) rfl) ?_
      refine RegL.pureG (p := (pEq (.int .i64 a_0.Low))) rfl rfl rfl hc3 rfl rfl (J_load rfl Tryd.isAgg2 (Opd.tmp rfl)) ?_
      replace h := bind_some h; obtain ⟨x4, hx4, h⟩ := h
      refine RegL.pureG (p := (pEq (.bool x4))) rfl rfl rfl hc3 rfl rfl (J_call rfl Tryd.call38 (c_spec_l00In hx4) (Opds.cons (Opd.tmp rfl) (Opds.cons Opd.con (Opds.cons Opd.con Opds.nil)))) ?_
      refine RegL.pureG (p := (pEq (.bool (!x4)))) rfl rfl rfl hc3 rfl rfl (J_not rfl (Opd.tmp rfl)) ?_
      refine RegL.pure (p := (pEq (.bool (!x4)))) rfl rfl rfl (J_pick rfl (Opd.tmp rfl) (fun hf => absurd (hc3.symm.trans hf) (by decide)) (fun _ => (Opd.tmp rfl))) ?_
      refine RegL.pure (p := (pEq (.bool (!x4)))) rfl rfl rfl (J_move rfl (Opd.tmp rfl)) ?_
      rcases Bool.eq_false_or_eq_true (!x4) with hc5 | hc5
      · replace h := bif_t hc5 h
        refine RegL.skipG rfl rfl rfl hc5 rfl rfl ?_
        refine RegL.skipG rfl rfl rfl hc5 rfl rfl ?_
        refine RegL.skipG rfl rfl rfl hc5 rfl rfl ?_
        refine RegL.skipG rfl rfl rfl hc5 rfl rfl ?_
        refine RegL.skipG rfl rfl rfl hc5 rfl rfl ?_
        refine RegL.skipG rfl rfl rfl hc5 rfl rfl ?_
        refine RegL.pure (p := (pEq (.bool true))) rfl rfl rfl (J_pick rfl (Opd.tmp rfl) (fun _ => Opd.con) (fun hf => absurd (hc5.symm.trans hf) (by decide))) ?_
        refine RegL.pure (p := (pEq (.bool true))) rfl rfl rfl (J_move rfl (Opd.tmp rfl)) ?_
        refine RegL.skipG rfl rfl rfl rfl rfl rfl ?_
        refine RegL.skipG rfl rfl rfl rfl rfl rfl ?_
        refine RegL.skipG rfl rfl rfl rfl rfl rfl ?_
        refine RegL.skipG rfl rfl rfl rfl rfl rfl ?_
        refine RegL.skipG rfl rfl rfl rfl rfl rfl ?_
        refine RegL.skipG rfl rfl rfl rfl rfl rfl ?_
        refine RegL.pure (p := (pEq (.bool true))) rfl rfl rfl (J_pick rfl (Opd.tmp rfl) (fun _ => Opd.con) (fun hf => absurd hf (by decide))) ?_
        refine RegL.pure (p := (pEq (.bool true))) rfl rfl rfl (J_move rfl (Opd.tmp rfl)) ?_
        refine RegL.skipG rfl rfl rfl rfl rfl rfl ?_
        refine RegL.skipG rfl rfl rfl rfl rfl rfl ?_
        refine RegL.skipG rfl rfl rfl rfl rfl rfl ?_
        refine RegL.skipG rfl rfl rfl rfl rfl rfl ?_
        refine RegL.skipG rfl rfl rfl rfl rfl rfl ?_
        refine RegL.skipG rfl rfl rfl rfl rfl rfl ?_
        refine RegL.pure (p := (pEq (.bool true))) rfl rfl rfl (J_pick rfl (Opd.tmp rfl) (fun _ => Opd.con) (fun hf => absurd hf (by decide))) ?_
        refine RegL.nil ?_
        replace h := Option.some.inj h; subst h
        exact Ct.mid () rfl ⟨rfl, rfl, trivial⟩
      · replace h := bif_f hc5 h
        refine RegL.pureG (p := (pPtr (cGBand a_0))) rfl rfl rfl hc5 rfl rfl (J_move rfl (Opd.tmp rfl)) ?_
        refine RegL.pureG (p := (pPtr (cGBand a_0))) rfl rfl rfl hc5 rfl rfl (J_nilCheck rfl (Opd.tmp rfl)) ?_
        refine RegL.pureG (p := (pPtr ((cK .i64) a_0.High))) rfl rfl rfl hc5 rfl rfl (J_fieldAddr rfl Tryd.underlying52 rfl sz2 (by decide) (Opd.tmp rfl) rfl) ?_
        refine RegL.pureG (p := (pEq (.int .i64 a_0.High))) rfl rfl rfl hc5 rfl rfl (J_load rfl Tryd.isAgg2 (Opd.tmp rfl)) ?_
        replace h := bind_some h; obtain ⟨x6, hx6, h⟩ := h
        refine RegL.pureG (p := (pEq (.bool x6))) rfl rfl rfl hc5 rfl rfl (J_call rfl Tryd.call38 (c_spec_l00In hx6) (Opds.cons (Opd.tmp rfl) (Opds.cons Opd.con (Opds.cons Opd.con Opds.nil)))) ?_
        refine RegL.pureG (p := (pEq (.bool (!x6)))) rfl rfl rfl hc5 rfl rfl (J_not rfl (Opd.tmp rfl)) ?_
        refine RegL.pure (p := (pEq (.bool (!x6)))) rfl rfl rfl (J_pick rfl (Opd.tmp rfl) (fun hf => absurd (hc5.symm.trans hf) (by decide)) (fun _ => (Opd.tmp rfl))) ?_
        refine RegL.pure (p := (pEq (.bool (!x6)))) rfl rfl rfl (J_move rfl (Opd.tmp rfl)) ?_
        rcases Bool.eq_false_or_eq_true (!x6) with hc7 | hc7
        · replace h := bif_t hc7 h
          refine RegL.skipG rfl rfl rfl hc7 rfl rfl ?_
          refine RegL.skipG rfl rfl rfl hc7 rfl rfl ?_
          refine RegL.skipG rfl rfl rfl hc7 rfl rfl ?_
          refine RegL.skipG rfl rfl rfl hc7 rfl rfl ?_
          refine RegL.skipG rfl rfl rfl hc7 rfl rfl ?_
          refine RegL.skipG rfl rfl rfl hc7 rfl rfl ?_
          refine RegL.pure (p := (pEq (.bool true))) rfl rfl rfl (J_pick rfl (Opd.tmp rfl) (fun _ => Opd.con) (fun hf => absurd (hc7.symm.trans hf) (by decide))) ?_
          refine RegL.pure (p := (pEq (.bool true))) rfl rfl rfl (J_move rfl (Opd.tmp rfl)) ?_
          refine RegL.skipG rfl rfl rfl rfl rfl rfl ?_
          refine RegL.skipG rfl rfl rfl rfl rfl rfl ?_
          refine RegL.skipG rfl rfl rfl rfl rfl rfl ?_
          refine RegL.skipG rfl rfl rfl rfl rfl rfl ?_
          refine RegL.skipG rfl rfl rfl rfl rfl rfl ?_
          refine RegL.skipG rfl rfl rfl rfl rfl rfl ?_
          refine RegL.pure (p := (pEq (.bool true))) rfl rfl rfl (J_pick rfl (Opd.tmp rfl) (fun _ => Opd.con) (fun hf => absurd hf (by decide))) ?_
          refine RegL.nil ?_
          replace h := Option.some.inj h; subst h
          exact Ct.mid () rfl ⟨rfl, rfl, trivial⟩
        · replace h := bif_f hc7 h
          refine RegL.pureG (p := (pPtr (cGBand a_0))) rfl rfl rfl hc7 rfl rfl (J_move rfl (Opd.tmp rfl)) ?_
          refine RegL.pureG (p := (pPtr (cGBand a_0))) rfl rfl rfl hc7 rfl rfl (J_nilCheck rfl (Opd.tmp rfl)) ?_
          refine RegL.pureG (p := (pPtr ((cK .i64) a_0.Raster))) rfl rfl rfl hc7 rfl rfl (J_fieldAddr rfl Tryd.underlying52 rfl sz2 (by decide) (Opd.tmp rfl) rfl) ?_
          refine RegL.pureG (p := (pEq (.int .i64 a_0.Raster))) rfl rfl rfl hc7 rfl rfl (J_load rfl Tryd.isAgg2 (Opd.tmp rfl)) ?_
          replace h := bind_some h; obtain ⟨x8, hx8, h⟩ := h
          refine RegL.pureG (p := (pEq (.bool x8))) rfl rfl rfl hc7 rfl rfl (J_call rfl Tryd.call38 (c_spec_l00In hx8) (Opds.cons (Opd.tmp rfl) (Opds.cons Opd.con (Opds.cons Opd.con Opds.nil)))) ?_
          refine RegL.pureG (p := (pEq (.bool (!x8)))) rfl rfl rfl hc7 rfl rfl (J_not rfl (Opd.tmp rfl)) ?_
          refine RegL.pure (p := (pEq (.bool (!x8)))) rfl rfl rfl (J_pick rfl (Opd.tmp rfl) (fun hf => absurd (hc7.symm.trans hf) (by decide)) (fun _ => (Opd.tmp rfl))) ?_
          refine RegL.pure (p := (pEq (.bool (!x8)))) rfl rfl rfl (J_move rfl (Opd.tmp rfl)) ?_
          rcases Bool.eq_false_or_eq_true (!x8) with hc9 | hc9
          · replace h := bif_t hc9 h
            refine RegL.skipG rfl rfl rfl hc9 rfl rfl ?_
            refine RegL.skipG rfl rfl rfl hc9 rfl rfl ?_
            refine RegL.skipG rfl rfl rfl hc9 rfl rfl ?_
            refine RegL.skipG rfl rfl rfl hc9 rfl rfl ?_
            refine RegL.skipG rfl rfl rfl hc9 rfl rfl ?_
            refine RegL.skipG rfl rfl rfl hc9 rfl rfl ?_
            refine RegL.pure (p := (pEq (.bool true))) rfl rfl rfl (J_pick rfl (Opd.tmp rfl) (fun _ => Opd.con) (fun hf => absurd (hc9.symm.trans hf) (by decide))) ?_
            refine RegL.nil ?_
            replace h := Option.some.inj h; subst h
            exact Ct.mid () rfl ⟨rfl, rfl, trivial⟩
          · replace h := bif_f hc9 h
            refine RegL.pureG (p := (pPtr (cGBand a_0))) rfl rfl rfl hc9 rfl rfl (J_move rfl (Opd.tmp rfl)) ?_
            refine RegL.pureG (p := (pPtr (cGBand a_0))) rfl rfl rfl hc9 rfl rfl (J_nilCheck rfl (Opd.tmp rfl)) ?_
            refine RegL.pureG (p := (pPtr ((cK .i64) a_0.Duplex))) rfl rfl rfl hc9 rfl rfl (J_fieldAddr rfl Tryd.underlying52 rfl sz2 (by decide) (Opd.tmp rfl) rfl) ?_
            refine RegL.pureG (p := (pEq (.int .i64 a_0.Duplex))) rfl rfl rfl hc9 rfl rfl (J_load rfl Tryd.isAgg2 (Opd.tmp rfl)) ?_
            replace h := bind_some h; obtain ⟨x10, hx10, h⟩ := h
            refine RegL.pureG (p := (pEq (.bool x10))) rfl rfl rfl hc9 rfl rfl (J_call rfl Tryd.call38 (c_spec_l00In hx10) (Opds.cons (Opd.tmp rfl) (Opds.cons Opd.con (Opds.cons Opd.con Opds.nil)))) ?_
            refine RegL.pureG (p := (pEq (.bool (!x10)))) rfl rfl rfl hc9 rfl rfl (J_not rfl (Opd.tmp rfl)) ?_
            refine RegL.pure (p := (pEq (.bool (!x10)))) rfl rfl rfl (J_pick rfl (Opd.tmp rfl) (fun hf => absurd (hc9.symm.trans hf) (by decide)) (fun _ => (Opd.tmp rfl))) ?_
            refine RegL.nil ?_
            replace h := Option.some.inj h; subst h
            exact Ct.mid () rfl ⟨rfl, rfl, trivial⟩
  · clear hx1
    refine Ct.then_tr ?_
    refine Tr.weak (Γ' := [(0, (pPtr (cGBand a_0))), (40, (pEq (.bool x1)))]) ⟨rfl, rfl, trivial⟩ ?_
    refine Tr.cond (Opd.tmp rfl) (fun hc => ?_) (fun hc => ?_)
    · replace h := bif_t hc h
      refine Tr.seq ?_
      refine Tr.region ?_
      refine RegL.pure (p := (pEq (.bool false))) rfl rfl rfl (J_assign rfl Opd.con) ?_
      refine RegL.nil ?_
      refine Ct.then_tr ?_
      refine Tr.weak (Γ' := [(2, (pEq (.bool false)))]) ⟨rfl, trivial⟩ ?_
      refine Tr.ret ?_
      refine Ct.then_ret ?_
      replace h := Option.some.inj h; subst h
      exact Ct.retH1 (Ωx := []) () rfl (RvOk.tmp rfl) rfl
    · replace h := bif_f hc h
      refine Tr.skip ?_
      refine Ct.then_tr ?_
      refine Tr.weak (Γ' := [(0, (pPtr (cGBand a_0)))]) ⟨rfl, trivial⟩ ?_
      refine Tr.seq ?_
      refine Tr.seq ?_
      refine Tr.region ?_
      refine RegL.pure (p := (pPtr (cGBand a_0))) rfl rfl rfl (J_move rfl (Opd.tmp rfl)) ?_
      replace h := bind_some h; obtain ⟨x12, hx12, h⟩ := h
      refine RegL.pure (p := (pEq (.int .i64 x12))) rfl rfl rfl (J_call rfl Tryd.call91 (c_spec_l15Count hx12) (Opds.cons (Opd.tmp rfl) Opds.nil)) ?_
      replace h := bind_some h; obtain ⟨x13, hx13, h⟩ := h
      refine RegL.pure (p := (pEq (.bool x13))) rfl rfl rfl (J_call rfl Tryd.call38 (c_spec_l00In hx13) (Opds.cons (Opd.tmp rfl) (Opds.cons Opd.con (Opds.cons Opd.con Opds.nil)))) ?_
      refine RegL.pure (p := (pEq (.bool (!x13)))) rfl rfl rfl (J_not rfl (Opd.tmp rfl)) ?_
      refine RegL.nil ?_
      refine Ct.then_tr ?_
      refine Tr.weak (Γ' := [(0, (pPtr (cGBand a_0))), (44, (pEq (.bool (!x13))))]) ⟨rfl, rfl, trivial⟩ ?_
      refine Tr.cond (Opd.tmp rfl) (fun hc => ?_) (fun hc => ?_)
      · replace h := bif_t hc h
        refine Tr.seq ?_
        refine Tr.region ?_
        refine RegL.pure (p := (pEq (.bool false))) rfl rfl rfl (J_assign rfl Opd.con) ?_
        refine RegL.nil ?_
        refine Ct.then_tr ?_
        refine Tr.weak (Γ' := [(2, (pEq (.bool false)))]) ⟨rfl, trivial⟩ ?_
        refine Tr.ret ?_
        refine Ct.then_ret ?_
        replace h := Option.some.inj h; subst h
        exact Ct.retH1 (Ωx := []) () rfl (RvOk.tmp rfl) rfl
      · replace h := bif_f hc h
        refine Tr.skip ?_
        refine Ct.then_tr ?_
        refine Tr.weak (Γ' := [(0, (pPtr (cGBand a_0)))]) ⟨rfl, trivial⟩ ?_
        refine Tr.seq ?_
        replace h := bind_some h; obtain ⟨x14, hx14, h⟩ := h
        refine Tr.cut (γ := Unit) (Γm := fun g => [(2, (pEq (.bool x14)))]) (Ωm := fun g => []) ?_ (fun g17 => ?_)
        · clear h
          have h := hx14
          clear hx14
          rcases Bool.eq_false_or_eq_true (a_0.Duplex == (0 : Int)) with hc15 | hc15
          · replace h := bif_t hc15 h
            refine Tr.drawD (n := 78) (m := 33) (es := [some (Ent.mk [(0, (pPtr (cGBand a_0)))] (pPtr (cGBand a_0)) true), some (Ent.mk [(45, (pPtr (cGBand a_0)))] (pPtr (cGBand a_0)) true), some (Ent.mk [(46, (pPtr (cGBand a_0)))] (pPtr ((cK .i64) a_0.Duplex)) true), some (Ent.mk [(47, (pPtr ((cK .i64) a_0.Duplex)))] (pEq (.int .i64 a_0.Duplex)) true), some (Ent.mk [(48, (pEq (.int .i64 a_0.Duplex)))] (pEq (.bool (a_0.Duplex == (0 : Int)))) true), some (Ent.mk [(49, (pEq (.bool (a_0.Duplex == (0 : Int)))))] (pEq (.bool (a_0.Duplex == (0 : Int)))) true), some (Ent.mk [(0, (pPtr (cGBand a_0)))] (pEq undef) false), some (Ent.mk [(51, (pEq undef))] (pEq undef) false), some (Ent.mk [(52, (pEq undef))] (pEq undef) false), some (Ent.mk [(53, (pEq undef))] (pEq undef) false), some (Ent.mk [(0, (pPtr (cGBand a_0)))] (pEq undef) false), some (Ent.mk [(55, (pEq undef))] (pEq undef) false), some (Ent.mk [(56, (pEq undef))] (pEq undef) false), some (Ent.mk [(57, (pEq undef))] (pEq undef) false), some (Ent.mk [(0, (pPtr (cGBand a_0)))] (pEq undef) false), some (Ent.mk [(59, (pEq undef))] (pEq undef) false), some (Ent.mk [(60, (pEq undef))] (pEq undef) false), some (Ent.mk [(61, (pEq undef))] (pEq undef) false), some (Ent.mk [(58, (pEq undef)), (62, (pEq undef))] (pEq undef) false), some (Ent.mk [(54, (pEq undef)), (63, (pEq undef))] (pEq undef) false), some (Ent.mk [(64, (pEq undef))] (pEq undef) false), some (Ent.mk [(0, (pPtr (cGBand a_0)))] (pEq undef) false), some (Ent.mk [(66, (pEq undef))] (pEq undef) false), some (Ent.mk [(67, (pEq undef))] (pEq undef) false), some (Ent.mk [(68, (pEq undef))] (pEq undef) false), some (Ent.mk [(0, (pPtr (cGBand a_0)))] (pEq undef) false), some (Ent.mk [(70, (pEq undef))] (pEq undef) false), some (Ent.mk [(71, (pEq undef))] (pEq undef) false), some (Ent.mk [(72, (pEq undef))] (pEq undef) false), some (Ent.mk [(69, (pEq undef)), (73, (pEq undef))] (pEq undef) false), some (Ent.mk [(74, (pEq undef))] (pEq undef) false), some (Ent.mk [(65, (pEq undef)), (75, (pEq undef))] (pEq undef) false), some (Ent.mk [(50, (pEq (.bool (a_0.Duplex == (0 : Int))))), (76, (pEq undef))] (pEq (.bool true)) true)]) (rd := [[0], [45], [46], [47], [48], [49], [0], [51], [52], [53], [0], [55], [56], [57], [0], [59], [60], [61], [58, 62], [54, 63], [64], [0], [66], [67], [68], [0], [70], [71], [72], [69, 73], [74], [65, 75], [50, 76]]) rfl hmix (by kernel_rfl) fun hD => ?_
            refine RD.fin (es := [Ent.mk [(0, (pPtr (cGBand a_0)))] (pPtr (cGBand a_0)) true, Ent.mk [(45, (pPtr (cGBand a_0)))] (pPtr (cGBand a_0)) true, Ent.mk [(46, (pPtr (cGBand a_0)))] (pPtr ((cK .i64) a_0.Duplex)) true, Ent.mk [(47, (pPtr ((cK .i64) a_0.Duplex)))] (pEq (.int .i64 a_0.Duplex)) true, Ent.mk [(48, (pEq (.int .i64 a_0.Duplex)))] (pEq (.bool (a_0.Duplex == (0 : Int)))) true, Ent.mk [(49, (pEq (.bool (a_0.Duplex == (0 : Int)))))] (pEq (.bool (a_0.Duplex == (0 : Int)))) true, Ent.mk [(0, (pPtr (cGBand a_0)))] (pEq undef) false, Ent.mk [(51, (pEq undef))] (pEq undef) false, Ent.mk [(52, (pEq undef))] (pEq undef) false, Ent.mk [(53, (pEq undef))] (pEq undef) false, Ent.mk [(0, (pPtr (cGBand a_0)))] (pEq undef) false, Ent.mk [(55, (pEq undef))] (pEq undef) false, Ent.mk [(56, (pEq undef))] (pEq undef) false, Ent.mk [(57, (pEq undef))] (pEq undef) false, Ent.mk [(0, (pPtr (cGBand a_0)))] (pEq undef) false, Ent.mk [(59, (pEq undef))] (pEq undef) false, Ent.mk [(60, (pEq undef))] (pEq undef) false, Ent.mk [(61, (pEq undef))] (pEq undef) false, Ent.mk [(58, (pEq undef)), (62, (pEq undef))] (pEq undef) false, Ent.mk [(54, (pEq undef)), (63, (pEq undef))] (pEq undef) false, Ent.mk [(64, (pEq undef))] (pEq undef) false, Ent.mk [(0, (pPtr (cGBand a_0)))] (pEq undef) false, Ent.mk [(66, (pEq undef))] (pEq undef) false, Ent.mk [(67, (pEq undef))] (pEq undef) false, Ent.mk [(68, (pEq undef))] (pEq undef) false, Ent.mk [(0, (pPtr (cGBand a_0)))] (pEq undef) false, Ent.mk [(70, (pEq undef))] (pEq undef) false, Ent.mk [(71, (pEq undef))] (pEq undef) false, Ent.mk [(72, (pEq undef))] (pEq undef) false, Ent.mk [(69, (pEq undef)), (73, (pEq undef))] (pEq undef) false, Ent.mk [(74, (pEq undef))] (pEq undef) false, Ent.mk [(65, (pEq undef)), (75, (pEq undef))] (pEq undef) false, Ent.mk [(50, (pEq (.bool (a_0.Duplex == (0 : Int))))), (76, (pEq undef))] (pEq (.bool true)) true]) (done := []) hD ⟨.inr ⟨(OpJ.w (J_move rfl (Opd.tmp rfl))), ⟨rfl, trivial⟩, rfl, rfl⟩, ⟨.inr ⟨(OpJ.w (J_nilCheck rfl (Opd.tmp rfl))), ⟨rfl, trivial⟩, rfl, rfl⟩, ⟨.inr ⟨(OpJ.w (J_fieldAddr rfl Tryd.underlying52 rfl sz2 (by decide) (Opd.tmp rfl) rfl)), ⟨rfl, trivial⟩, rfl, rfl⟩, ⟨.inr ⟨(OpJ.w (J_load rfl Tryd.isAgg2 (Opd.tmp rfl))), ⟨rfl, trivial⟩, rfl, rfl⟩, ⟨.inr ⟨(OpJ.w (J_bin rfl (Opd.tmp rfl) Opd.con B_eql)), ⟨rfl, trivial⟩, rfl, rfl⟩, ⟨.inr ⟨(OpJ.w (J_move rfl (Opd.tmp rfl))), ⟨rfl, trivial⟩, rfl, rfl⟩, ⟨.inr ⟨rfl, ⟨rfl, trivial⟩, (.inl ⟨_, rfl, by simp [hc15]⟩), rfl⟩, ⟨.inr ⟨rfl, ⟨rfl, trivial⟩, (.inl ⟨_, rfl, by simp [hc15]⟩), rfl⟩, ⟨.inr ⟨rfl, ⟨rfl, trivial⟩, (.inl ⟨_, rfl, by simp [hc15]⟩), rfl⟩, ⟨.inr ⟨rfl, ⟨rfl, trivial⟩, (.inl ⟨_, rfl, by simp [hc15]⟩), rfl⟩, ⟨.inr ⟨rfl, ⟨rfl, trivial⟩, (.inl ⟨_, rfl, by simp [hc15]⟩), rfl⟩, ⟨.inr ⟨rfl, ⟨rfl, trivial⟩, (.inl ⟨_, rfl, by simp [hc15]⟩), rfl⟩, ⟨.inr ⟨rfl, ⟨rfl, trivial⟩, (.inl ⟨_, rfl, by simp [hc15]⟩), rfl⟩, ⟨.inr ⟨rfl, ⟨rfl, trivial⟩, (.inl ⟨_, rfl, by simp [hc15]⟩), rfl⟩, ⟨.inr ⟨rfl, ⟨rfl, trivial⟩, (.inl ⟨_, rfl, by simp [hc15]⟩), rfl⟩, ⟨.inr ⟨rfl, ⟨rfl, trivial⟩, (.inl ⟨_, rfl, by simp [hc15]⟩), rfl⟩, ⟨.inr ⟨rfl, ⟨rfl, trivial⟩, (.inl ⟨_, rfl, by simp [hc15]⟩), rfl⟩, ⟨.inr ⟨rfl, ⟨rfl, trivial⟩, (.inl ⟨_, rfl, by simp [hc15]⟩), rfl⟩, ⟨.inr ⟨rfl, ⟨rfl, rfl, trivial⟩, (.inl ⟨_, rfl, by simp [hc15]⟩), rfl⟩, ⟨.inr ⟨rfl, ⟨rfl, rfl, trivial⟩, (.inl ⟨_, rfl, by simp [hc15]⟩), rfl⟩, ⟨.inr ⟨rfl, ⟨rfl, trivial⟩, (.inl ⟨_, rfl, by simp [hc15]⟩), rfl⟩, ⟨.inr ⟨rfl, ⟨rfl, trivial⟩, (.inr ⟨rfl, rfl⟩), rfl⟩, ⟨.inr ⟨rfl, ⟨rfl, trivial⟩, (.inr ⟨rfl, rfl⟩), rfl⟩, ⟨.inr ⟨rfl, ⟨rfl, trivial⟩, (.inr ⟨rfl, rfl⟩), rfl⟩, ⟨.inr ⟨rfl, ⟨rfl, trivial⟩, (.inr ⟨rfl, rfl⟩), rfl⟩, ⟨.inr ⟨rfl, ⟨rfl, trivial⟩, (.inr ⟨rfl, rfl⟩), rfl⟩, ⟨.inr ⟨rfl, ⟨rfl, trivial⟩, (.inr ⟨rfl, rfl⟩), rfl⟩, ⟨.inr ⟨rfl, ⟨rfl, trivial⟩, (.inr ⟨rfl, rfl⟩), rfl⟩, ⟨.inr ⟨rfl, ⟨rfl, trivial⟩, (.inr ⟨rfl, rfl⟩), rfl⟩, ⟨.inr ⟨rfl, ⟨rfl, rfl, trivial⟩, (.inr ⟨rfl, rfl⟩), rfl⟩, ⟨.inr ⟨rfl, ⟨rfl, trivial⟩, (.inr ⟨rfl, rfl⟩), rfl⟩, ⟨.inr ⟨rfl, ⟨rfl, rfl, trivial⟩, (.inl ⟨_, rfl, by simp [hc15]⟩), rfl⟩, ⟨.inr ⟨(OpJ.w (J_pick rfl (Opd.tmp rfl) (fun _ => Opd.con) (fun hf => absurd (hc15.symm.trans hf) (by decide)))), ⟨rfl, rfl, trivial⟩, rfl, rfl⟩, trivial⟩⟩⟩⟩⟩⟩⟩⟩⟩⟩⟩⟩⟩⟩⟩⟩⟩⟩⟩⟩⟩⟩⟩⟩⟩⟩⟩⟩⟩⟩⟩⟩⟩ ?_
            refine RegL.pure (p := (pEq (.bool true))) rfl rfl rfl (J_assign rfl (Opd.tmp rfl)) ?_
            refine RegL.nil ?_
            replace h := Option.some.inj h; subst h
            exact Ct.mid () rfl ⟨rfl, trivial⟩
          · replace h := bif_f hc15 h
            rcases Bool.eq_false_or_eq_true (decide ((w64 (a_0.High - a_0.Low)) ≤ a_0.Duplex)) with hc16 | hc16
            · replace h := bif_t hc16 h
              refine Tr.drawD (n := 78) (m := 33) (es := [some (Ent.mk [(0, (pPtr (cGBand a_0)))] (pPtr (cGBand a_0)) true), some (Ent.mk [(45, (pPtr (cGBand a_0)))] (pPtr (cGBand a_0)) true), some (Ent.mk [(46, (pPtr (cGBand a_0)))] (pPtr ((cK .i64) a_0.Duplex)) true), some (Ent.mk [(47, (pPtr ((cK .i64) a_0.Duplex)))] (pEq (.int .i64 a_0.Duplex)) true), some (Ent.mk [(48, (pEq (.int .i64 a_0.Duplex)))] (pEq (.bool (a_0.Duplex == (0 : Int)))) true), some (Ent.mk [(49, (pEq (.bool (a_0.Duplex == (0 : Int)))))] (pEq (.bool (a_0.Duplex == (0 : Int)))) true), some (Ent.mk [(0, (pPtr (cGBand a_0)))] (pPtr (cGBand a_0)) true), some (Ent.mk [(51, (pPtr (cGBand a_0)))] (pPtr (cGBand a_0)) true), some (Ent.mk [(52, (pPtr (cGBand a_0)))] (pPtr ((cK .i64) a_0.Duplex)) true), some (Ent.mk [(53, (pPtr ((cK .i64) a_0.Duplex)))] (pEq (.int .i64 a_0.Duplex)) true), some (Ent.mk [(0, (pPtr (cGBand a_0)))] (pPtr (cGBand a_0)) true), some (Ent.mk [(55, (pPtr (cGBand a_0)))] (pPtr (cGBand a_0)) true), some (Ent.mk [(56, (pPtr (cGBand a_0)))] (pPtr ((cK .i64) a_0.High)) true), some (Ent.mk [(57, (pPtr ((cK .i64) a_0.High)))] (pEq (.int .i64 a_0.High)) true), some (Ent.mk [(0, (pPtr (cGBand a_0)))] (pPtr (cGBand a_0)) true), some (Ent.mk [(59, (pPtr (cGBand a_0)))] (pPtr (cGBand a_0)) true), some (Ent.mk [(60, (pPtr (cGBand a_0)))] (pPtr ((cK .i64) a_0.Low)) true), some (Ent.mk [(61, (pPtr ((cK .i64) a_0.Low)))] (pEq (.int .i64 a_0.Low)) true), some (Ent.mk [(58, (pEq (.int .i64 a_0.High))), (62, (pEq (.int .i64 a_0.Low)))] (pEq (.int .i64 (w64 (a_0.High - a_0.Low)))) true), some (Ent.mk [(54, (pEq (.int .i64 a_0.Duplex))), (63, (pEq (.int .i64 (w64 (a_0.High - a_0.Low)))))] (pEq (.bool (decide ((w64 (a_0.High - a_0.Low)) ≤ a_0.Duplex)))) true), some (Ent.mk [(64, (pEq (.bool (decide ((w64 (a_0.High - a_0.Low)) ≤ a_0.Duplex)))))] (pEq (.bool (decide ((w64 (a_0.High - a_0.Low)) ≤ a_0.Duplex)))) true), some (Ent.mk [(0, (pPtr (cGBand a_0)))] (pPtr (cGBand a_0)) true), some (Ent.mk [(66, (pPtr (cGBand a_0)))] (pPtr (cGBand a_0)) true), some (Ent.mk [(67, (pPtr (cGBand a_0)))] (pPtr ((cK .i64) a_0.High)) true), some (Ent.mk [(68, (pPtr ((cK .i64) a_0.High)))] (pEq (.int .i64 a_0.High)) true), some (Ent.mk [(0, (pPtr (cGBand a_0)))] (pPtr (cGBand a_0)) true), some (Ent.mk [(70, (pPtr (cGBand a_0)))] (pPtr (cGBand a_0)) true), some (Ent.mk [(71, (pPtr (cGBand a_0)))] (pPtr ((cK .i64) a_0.Duplex)) true), some (Ent.mk [(72, (pPtr ((cK .i64) a_0.Duplex)))] (pEq (.int .i64 a_0.Duplex)) true), some (Ent.mk [(69, (pEq (.int .i64 a_0.High))), (73, (pEq (.int .i64 a_0.Duplex)))] (pEq (.int .i64 (w64 (a_0.High + a_0.Duplex)))) true), some (Ent.mk [(74, (pEq (.int .i64 (w64 (a_0.High + a_0.Duplex)))))] (pEq (.bool (decide ((w64 (a_0.High + a_0.Duplex)) ≤ (100000000 : Int))))) true), some (Ent.mk [(65, (pEq (.bool (decide ((w64 (a_0.High - a_0.Low)) ≤ a_0.Duplex))))), (75, (pEq (.bool (decide ((w64 (a_0.High + a_0.Duplex)) ≤ (100000000 : Int))))))] (pEq (.bool (decide ((w64 (a_0.High + a_0.Duplex)) ≤ (100000000 : Int))))) true), some (Ent.mk [(50, (pEq (.bool (a_0.Duplex == (0 : Int))))), (76, (pEq (.bool (decide ((w64 (a_0.High + a_0.Duplex)) ≤ (100000000 : Int))))))] (pEq (.bool (decide ((w64 (a_0.High + a_0.Duplex)) ≤ (100000000 : Int))))) true)]) (rd := [[0], [45], [46], [47], [48], [49], [0], [51], [52], [53], [0], [55], [56], [57], [0], [59], [60], [61], [58, 62], [54, 63], [64], [0], [66], [67], [68], [0], [70], [71], [72], [69, 73], [74], [65, 75], [50, 76]]) rfl hmix (by kernel_rfl) fun hD => ?_
              refine RD.fin (es := [Ent.mk [(0, (pPtr (cGBand a_0)))] (pPtr (cGBand a_0)) true, Ent.mk [(45, (pPtr (cGBand a_0)))] (pPtr (cGBand a_0)) true, Ent.mk [(46, (pPtr (cGBand a_0)))] (pPtr ((cK .i64) a_0.Duplex)) true, Ent.mk [(47, (pPtr ((cK .i64) a_0.Duplex)))] (pEq (.int .i64 a_0.Duplex)) true, Ent.mk [(48, (pEq (.int .i64 a_0.Duplex)))] (pEq (.bool (a_0.Duplex == (0 : Int)))) true, Ent.mk [(49, (pEq (.bool (a_0.Duplex == (0 : Int)))))] (pEq (.bool (a_0.Duplex == (0 : Int)))) true, Ent.mk [(0, (pPtr (cGBand a_0)))] (pPtr (cGBand a_0)) true, Ent.mk [(51, (pPtr (cGBand a_0)))] (pPtr (cGBand a_0)) true, Ent.mk [(52, (pPtr (cGBand a_0)))] (pPtr ((cK .i64) a_0.Duplex)) true, Ent.mk [(53, (pPtr ((cK .i64) a_0.Duplex)))] (pEq (.int .i64 a_0.Duplex)) true, Ent.mk [(0, (pPtr (cGBand a_0)))] (pPtr (cGBand a_0)) true, Ent.mk [(55, (pPtr (cGBand a_0)))] (pPtr (cGBand a_0)) true, Ent.mk [(56, (pPtr (cGBand a_0)))] (pPtr ((cK .i64) a_0.High)) true, Ent.mk [(57, (pPtr ((cK .i64) a_0.High)))] (pEq (.int .i64 a_0.High)) true, Ent.mk [(0, (pPtr (cGBand a_0)))] (pPtr (cGBand a_0)) true, Ent.mk [(59, (pPtr (cGBand a_0)))] (pPtr (cGBand a_0)) true, Ent.mk [(60, (pPtr (cGBand a_0)))] (pPtr ((cK .i64) a_0.Low)) true, Ent.mk [(61, (pPtr ((cK .i64) a_0.Low)))] (pEq (.int .i64 a_0.Low)) true, Ent.mk [(58, (pEq (.int .i64 a_0.High))), (62, (pEq (.int .i64 a_0.Low)))] (pEq (.int .i64 (w64 (a_0.High - a_0.Low)))) true, Ent.mk [(54, (pEq (.int .i64 a_0.Duplex))), (63, (pEq (.int .i64 (w64 (a_0.High - a_0.Low)))))] (pEq (.bool (decide ((w64 (a_0.High - a_0.Low)) ≤ a_0.Duplex)))) true, Ent.mk [(64, (pEq (.bool (decide ((w64 (a_0.High - a_0.Low)) ≤ a_0.Duplex)))))] (pEq (.bool (decide ((w64 (a_0.High - a_0.Low)) ≤ a_0.Duplex)))) true, Ent.mk [(0, (pPtr (cGBand a_0)))] (pPtr (cGBand a_0)) true, Ent.mk [(66, (pPtr (cGBand a_0)))] (pPtr (cGBand a_0)) true, Ent.mk [(67, (pPtr (cGBand a_0)))] (pPtr ((cK .i64) a_0.High)) true, Ent.mk [(68, (pPtr ((cK .i64) a_0.High)))] (pEq (.int .i64 a_0.High)) true, Ent.mk [(0, (pPtr (cGBand a_0)))] (pPtr (cGBand a_0)) true, Ent.mk [(70, (pPtr (cGBand a_0)))] (pPtr (cGBand a_0)) true, Ent.mk [(71, (pPtr (cGBand a_0)))] (pPtr ((cK .i64) a_0.Duplex)) true, Ent.mk [(72, (pPtr ((cK .i64) a_0.Duplex)))] (pEq (.int .i64 a_0.Duplex)) true, Ent.mk [(69, (pEq (.int .i64 a_0.High))), (73, (pEq (.int .i64 a_0.Duplex)))] (pEq (.int .i64 (w64 (a_0.High + a_0.Duplex)))) true, Ent.mk [(74, (pEq (.int .i64 (w64 (a_0.High + a_0.Duplex)))))] (pEq (.bool (decide ((w64 (a_0.High + a_0.Duplex)) ≤ (100000000 : Int))))) true, Ent.mk [(65, (pEq (.bool (decide ((w64 (a_0.High - a_0.Low)) ≤ a_0.Duplex))))), (75, (pEq (.bool (decide ((w64 (a_0.High + a_0.Duplex)) ≤ (100000000 : Int))))))] (pEq (.bool (decide ((w64 (a_0.High + a_0.Duplex)) ≤ (100000000 : Int))))) true, Ent.mk [(50, (pEq (.bool (a_0.Duplex == (0 : Int))))), (76, (pEq (.bool (decide ((w64 (a_0.High + a_0.Duplex)) ≤ (100000000 : Int))))))] (pEq (.bool (decide ((w64 (a_0.High + a_0.Duplex)) ≤ (100000000 : Int))))) true]) (done := []) hD ⟨.inr ⟨(OpJ.w (J_move rfl (Opd.tmp rfl))), ⟨rfl, trivial⟩, rfl, rfl⟩, ⟨.inr ⟨(OpJ.w (J_nilCheck rfl (Opd.tmp rfl))), ⟨rfl, trivial⟩, rfl, rfl⟩, ⟨.inr ⟨(OpJ.w (J_fieldAddr rfl Tryd.underlying52 rfl sz2 (by decide) (Opd.tmp rfl) rfl)), ⟨rfl, trivial⟩, rfl, rfl⟩, ⟨.inr ⟨(OpJ.w (J_load rfl Tryd.isAgg2 (Opd.tmp rfl))), ⟨rfl, trivial⟩, rfl, rfl⟩, ⟨.inr ⟨(OpJ.w (J_bin rfl (Opd.tmp rfl) Opd.con B_eql)), ⟨rfl, trivial⟩, rfl, rfl⟩, ⟨.inr ⟨(OpJ.w (J_move rfl (Opd.tmp rfl))), ⟨rfl, trivial⟩, rfl, rfl⟩, ⟨.inr ⟨(OpJ.w (J_move rfl (Opd.tmp rfl))), ⟨rfl, trivial⟩, (.inl ⟨_, rfl, by simp [hc15]⟩), rfl⟩, ⟨.inr ⟨(OpJ.w (J_nilCheck rfl (Opd.tmp rfl))), ⟨rfl, trivial⟩, (.inl ⟨_, rfl, by simp [hc15]⟩), rfl⟩, ⟨.inr ⟨(OpJ.w (J_fieldAddr rfl Tryd.underlying52 rfl sz2 (by decide) (Opd.tmp rfl) rfl)), ⟨rfl, trivial⟩, (.inl ⟨_, rfl, by simp [hc15]⟩), rfl⟩, ⟨.inr ⟨(OpJ.w (J_load rfl Tryd.isAgg2 (Opd.tmp rfl))), ⟨rfl, trivial⟩, (.inl ⟨_, rfl, by simp [hc15]⟩), rfl⟩, ⟨.inr ⟨(OpJ.w (J_move rfl (Opd.tmp rfl))), ⟨rfl, trivial⟩, (.inl ⟨_, rfl, by simp [hc15]⟩), rfl⟩, ⟨.inr ⟨(OpJ.w (J_nilCheck rfl (Opd.tmp rfl))), ⟨rfl, trivial⟩, (.inl ⟨_, rfl, by simp [hc15]⟩), rfl⟩, ⟨.inr ⟨(OpJ.w (J_fieldAddr rfl Tryd.underlying52 rfl sz2 (by decide) (Opd.tmp rfl) rfl)), ⟨rfl, trivial⟩, (.inl ⟨_, rfl, by simp [hc15]⟩), rfl⟩, ⟨.inr ⟨(OpJ.w (J_load rfl Tryd.isAgg2 (Opd.tmp rfl))), ⟨rfl, trivial⟩, (.inl ⟨_, rfl, by simp [hc15]⟩), rfl⟩, ⟨.inr ⟨(OpJ.w (J_move rfl (Opd.tmp rfl))), ⟨rfl, trivial⟩, (.inl ⟨_, rfl, by simp [hc15]⟩), rfl⟩, ⟨.inr ⟨(OpJ.w (J_nilCheck rfl (Opd.tmp rfl))), ⟨rfl, trivial⟩, (.inl ⟨_, rfl, by simp [hc15]⟩), rfl⟩, ⟨.inr ⟨(OpJ.w (J_fieldAddr rfl Tryd.underlying52 rfl sz2 (by decide) (Opd.tmp rfl) rfl)), ⟨rfl, trivial⟩, (.inl ⟨_, rfl, by simp [hc15]⟩), rfl⟩, ⟨.inr ⟨(OpJ.w (J_load rfl Tryd.isAgg2 (Opd.tmp rfl))), ⟨rfl, trivial⟩, (.inl ⟨_, rfl, by simp [hc15]⟩), rfl⟩, ⟨.inr ⟨(OpJ.w (J_bin rfl (Opd.tmp rfl) (Opd.tmp rfl) B_sub)), ⟨rfl, rfl, trivial⟩, (.inl ⟨_, rfl, by simp [hc15]⟩), rfl⟩, ⟨.inr ⟨(OpJ.w (J_bin rfl (Opd.tmp rfl) (Opd.tmp rfl) B_geq)), ⟨rfl, rfl, trivial⟩, (.inl ⟨_, rfl, by simp [hc15]⟩), rfl⟩, ⟨.inr ⟨(OpJ.w (J_move rfl (Opd.tmp rfl))), ⟨rfl, trivial⟩, (.inl ⟨_, rfl, by simp [hc15]⟩), rfl⟩, ⟨.inr ⟨(OpJ.w (J_move rfl (Opd.tmp rfl))), ⟨rfl, trivial⟩, (.inl ⟨_, rfl, by simp [hc16]⟩), rfl⟩, ⟨.inr ⟨(OpJ.w (J_nilCheck rfl (Opd.tmp rfl))), ⟨rfl, trivial⟩, (.inl ⟨_, rfl, by simp [hc16]⟩), rfl⟩, ⟨.inr ⟨(OpJ.w (J_fieldAddr rfl Tryd.underlying52 rfl sz2 (by decide) (Opd.tmp rfl) rfl)), ⟨rfl, trivial⟩, (.inl ⟨_, rfl, by simp [hc16]⟩), rfl⟩, ⟨.inr ⟨(OpJ.w (J_load rfl Tryd.isAgg2 (Opd.tmp rfl))), ⟨rfl, trivial⟩, (.inl ⟨_, rfl, by simp [hc16]⟩), rfl⟩, ⟨.inr ⟨(OpJ.w (J_move rfl (Opd.tmp rfl))), ⟨rfl, trivial⟩, (.inl ⟨_, rfl, by simp [hc16]⟩), rfl⟩, ⟨.inr ⟨(OpJ.w (J_nilCheck rfl (Opd.tmp rfl))), ⟨rfl, trivial⟩, (.inl ⟨_, rfl, by simp [hc16]⟩), rfl⟩, ⟨.inr ⟨(OpJ.w (J_fieldAddr rfl Tryd.underlying52 rfl sz2 (by decide) (Opd.tmp rfl) rfl)), ⟨rfl, trivial⟩, (.inl ⟨_, rfl, by simp [hc16]⟩), rfl⟩, ⟨.inr ⟨(OpJ.w (J_load rfl Tryd.isAgg2 (Opd.tmp rfl))), ⟨rfl, trivial⟩, (.inl ⟨_, rfl, by simp [hc16]⟩), rfl⟩, ⟨.inr ⟨(OpJ.w (J_bin rfl (Opd.tmp rfl) (Opd.tmp rfl) B_add)), ⟨rfl, rfl, trivial⟩, (.inl ⟨_, rfl, by simp [hc16]⟩), rfl⟩, ⟨.inr ⟨(OpJ.w (J_bin rfl (Opd.tmp rfl) Opd.con B_leq)), ⟨rfl, trivial⟩, (.inl ⟨_, rfl, by simp [hc16]⟩), rfl⟩, ⟨.inr ⟨(OpJ.w (J_pick rfl (Opd.tmp rfl) (fun _ => (Opd.tmp rfl)) (fun hf => absurd (hc16.symm.trans hf) (by decide)))), ⟨rfl, rfl, trivial⟩, (.inl ⟨_, rfl, by simp [hc15]⟩), rfl⟩, ⟨.inr ⟨(OpJ.w (J_pick rfl (Opd.tmp rfl) (fun hf => absurd (hc15.symm.trans hf) (by decide)) (fun _ => (Opd.tmp rfl)))), ⟨rfl, rfl, trivial⟩, rfl, rfl⟩, trivial⟩⟩⟩⟩⟩⟩⟩⟩⟩⟩⟩⟩⟩⟩⟩⟩⟩⟩⟩⟩⟩⟩⟩⟩⟩⟩⟩⟩⟩⟩⟩⟩⟩ ?_
              refine RegL.pure (p := (pEq (.bool (decide ((w64 (a_0.High + a_0.Duplex)) ≤ (100000000 : Int)))))) rfl rfl rfl (J_assign rfl (Opd.tmp rfl)) ?_
              refine RegL.nil ?_
              replace h := Option.some.inj h; subst h
              exact Ct.mid () rfl ⟨rfl, trivial⟩
            · replace h := bif_f hc16 h
              refine Tr.drawD (n := 78) (m := 33) (es := [some (Ent.mk [(0, (pPtr (cGBand a_0)))] (pPtr (cGBand a_0)) true), some (Ent.mk [(45, (pPtr (cGBand a_0)))] (pPtr (cGBand a_0)) true), some (Ent.mk [(46, (pPtr (cGBand a_0)))] (pPtr ((cK .i64) a_0.Duplex)) true), some (Ent.mk [(47, (pPtr ((cK .i64) a_0.Duplex)))] (pEq (.int .i64 a_0.Duplex)) true), some (Ent.mk [(48, (pEq (.int .i64 a_0.Duplex)))] (pEq (.bool (a_0.Duplex == (0 : Int)))) true), some (Ent.mk [(49, (pEq (.bool (a_0.Duplex == (0 : Int)))))] (pEq (.bool (a_0.Duplex == (0 : Int)))) true), some (Ent.mk [(0, (pPtr (cGBand a_0)))] (pPtr (cGBand a_0)) true), some (Ent.mk [(51, (pPtr (cGBand a_0)))] (pPtr (cGBand a_0)) true), some (Ent.mk [(52, (pPtr (cGBand a_0)))] (pPtr ((cK .i64) a_0.Duplex)) true), some (Ent.mk [(53, (pPtr ((cK .i64) a_0.Duplex)))] (pEq (.int .i64 a_0.Duplex)) true), some (Ent.mk [(0, (pPtr (cGBand a_0)))] (pPtr (cGBand a_0)) true), some (Ent.mk [(55, (pPtr (cGBand a_0)))] (pPtr (cGBand a_0)) true), some (Ent.mk [(56, (pPtr (cGBand a_0)))] (pPtr ((cK .i64) a_0.High)) true), some (Ent.mk [(57, (pPtr ((cK .i64) a_0.High)))] (pEq (.int .i64 a_0.High)) true), some (Ent.mk [(0, (pPtr (cGBand a_0)))] (pPtr (cGBand a_0)) true), some (Ent.mk [(59, (pPtr (cGBand a_0)))] (pPtr (cGBand a_0)) true), some (Ent.mk [(60, (pPtr (cGBand a_0)))] (pPtr ((cK .i64) a_0.Low)) true), some (Ent.mk [(61, (pPtr ((cK .i64) a_0.Low)))] (pEq (.int .i64 a_0.Low)) true), some (Ent.mk [(58, (pEq (.int .i64 a_0.High))), (62, (pEq (.int .i64 a_0.Low)))] (pEq (.int .i64 (w64 (a_0.High - a_0.Low)))) true), some (Ent.mk [(54, (pEq (.int .i64 a_0.Duplex))), (63, (pEq (.int .i64 (w64 (a_0.High - a_0.Low)))))] (pEq (.bool (decide ((w64 (a_0.High - a_0.Low)) ≤ a_0.Duplex)))) true), some (Ent.mk [(64, (pEq (.bool (decide ((w64 (a_0.High - a_0.Low)) ≤ a_0.Duplex)))))] (pEq (.bool (decide ((w64 (a_0.High - a_0.Low)) ≤ a_0.Duplex)))) true), some (Ent.mk [(0, (pPtr (cGBand a_0)))] (pEq undef) false), some (Ent.mk [(66, (pEq undef))] (pEq undef) false), some (Ent.mk [(67, (pEq undef))] (pEq undef) false), some (Ent.mk [(68, (pEq undef))] (pEq undef) false), some (Ent.mk [(0, (pPtr (cGBand a_0)))] (pEq undef) false), some (Ent.mk [(70, (pEq undef))] (pEq undef) false), some (Ent.mk [(71, (pEq undef))] (pEq undef) false), some (Ent.mk [(72, (pEq undef))] (pEq undef) false), some (Ent.mk [(69, (pEq undef)), (73, (pEq undef))] (pEq undef) false), some (Ent.mk [(74, (pEq undef))] (pEq undef) false), some (Ent.mk [(65, (pEq (.bool (decide ((w64 (a_0.High - a_0.Low)) ≤ a_0.Duplex))))), (75, (pEq undef))] (pEq (.bool false)) true), some (Ent.mk [(50, (pEq (.bool (a_0.Duplex == (0 : Int))))), (76, (pEq (.bool false)))] (pEq (.bool false)) true)]) (rd := [[0], [45], [46], [47], [48], [49], [0], [51], [52], [53], [0], [55], [56], [57], [0], [59], [60], [61], [58, 62], [54, 63], [64], [0], [66], [67], [68], [0], [70], [71], [72], [69, 73], [74], [65, 75], [50, 76]]) rfl hmix (by kernel_rfl) fun hD => ?_
              refine RD.fin (es := [Ent.mk [(0, (pPtr (cGBand a_0)))] (pPtr (cGBand a_0)) true, Ent.mk [(45, (pPtr (cGBand a_0)))] (pPtr (cGBand a_0)) true, Ent.mk [(46, (pPtr (cGBand a_0)))] (pPtr ((cK .i64) a_0.Duplex)) true, Ent.mk [(47, (pPtr ((cK .i64) a_0.Duplex)))] (pEq (.int .i64 a_0.Duplex)) true, Ent.mk [(48, (pEq (.int .i64 a_0.Duplex)))] (pEq (.bool (a_0.Duplex == (0 : Int)))) true, Ent.mk [(49, (pEq (.bool (a_0.Duplex == (0 : Int)))))] (pEq (.bool (a_0.Duplex == (0 : Int)))) true, Ent.mk [(0, (pPtr (cGBand a_0)))] (pPtr (cGBand a_0)) true, Ent.mk [(51, (pPtr (cGBand a_0)))] (pPtr (cGBand a_0)) true, Ent.mk [(52, (pPtr (cGBand a_0)))] (pPtr ((cK .i64) a_0.Duplex)) true, Ent.mk [(53, (pPtr ((cK .i64) a_0.Duplex)))] (pEq (.int .i64 a_0.Duplex)) true, Ent.mk [(0, (pPtr (cGBand a_0)))] (pPtr (cGBand a_0)) true, Ent.mk [(55, (pPtr (cGBand a_0)))] (pPtr (cGBand a_0)) true, Ent.mk [(56, (pPtr (cGBand a_0)))] (pPtr ((cK .i64) a_0.High)) true, Ent.mk [(57, (pPtr ((cK .i64) a_0.High)))] (pEq (.int .i64 a_0.High)) true, Ent.mk [(0, (pPtr (cGBand a_0)))] (pPtr (cGBand a_0)) true, Ent.mk [(59, (pPtr (cGBand a_0)))] (pPtr (cGBand a_0)) true, Ent.mk [(60, (pPtr (cGBand a_0)))] (pPtr ((cK .i64) a_0.Low)) true, Ent.mk [(61, (pPtr ((cK .i64) a_0.Low)))] (pEq (.int .i64 a_0.Low)) true, Ent.mk [(58, (pEq (.int .i64 a_0.High))), (62, (pEq (.int .i64 a_0.Low)))] (pEq (.int .i64 (w64 (a_0.High - a_0.Low)))) true, Ent.mk [(54, (pEq (.int .i64 a_0.Duplex))), (63, (pEq (.int .i64 (w64 (a_0.High - a_0.Low)))))] (pEq (.bool (decide ((w64 (a_0.High - a_0.Low)) ≤ a_0.Duplex)))) true, Ent.mk [(64, (pEq (.bool (decide ((w64 (a_0.High - a_0.Low)) ≤ a_0.Duplex)))))] (pEq (.bool (decide ((w64 (a_0.High - a_0.Low)) ≤ a_0.Duplex)))) true, Ent.mk [(0, (pPtr (cGBand a_0)))] (pEq undef) false, Ent.mk [(66, (pEq undef))] (pEq undef) false, Ent.mk [(67, (pEq undef))] (pEq undef) false, Ent.mk [(68, (pEq undef))] (pEq undef) false, Ent.mk [(0, (pPtr (cGBand a_0)))] (pEq undef) false, Ent.mk [(70, (pEq undef))] (pEq undef) false, Ent.mk [(71, (pEq undef))] (pEq undef) false, Ent.mk [(72, (pEq undef))] (pEq undef) false, Ent.mk [(69, (pEq undef)), (73, (pEq undef))] (pEq undef) false, Ent.mk [(74, (pEq undef))] (pEq undef) false, Ent.mk [(65, (pEq (.bool (decide ((w64 (a_0.High - a_0.Low)) ≤ a_0.Duplex))))), (75, (pEq undef))] (pEq (.bool false)) true, Ent.mk [(50, (pEq (.bool (a_0.Duplex == (0 : Int))))), (76, (pEq (.bool false)))] (pEq (.bool false)) true]) (done := []) hD ⟨.inr ⟨(OpJ.w (J_move rfl (Opd.tmp rfl))), ⟨rfl, trivial⟩, rfl, rfl⟩, ⟨.inr ⟨(OpJ.w (J_nilCheck rfl (Opd.tmp rfl))), ⟨rfl, trivial⟩, rfl, rfl⟩, ⟨.inr ⟨(OpJ.w (J_fieldAddr rfl Tryd.underlying52 rfl sz2 (by decide) (Opd.tmp rfl) rfl)), ⟨rfl, trivial⟩, rfl, rfl⟩, ⟨.inr ⟨(OpJ.w (J_load rfl Tryd.isAgg2 (Opd.tmp rfl))), ⟨rfl, trivial⟩, rfl, rfl⟩, ⟨.inr ⟨(OpJ.w (J_bin rfl (Opd.tmp rfl) Opd.con B_eql)), ⟨rfl, trivial⟩, rfl, rfl⟩, ⟨.inr ⟨(OpJ.w (J_move rfl (Opd.tmp rfl))), ⟨rfl, trivial⟩, rfl, rfl⟩, ⟨.inr ⟨(OpJ.w (J_move rfl (Opd.tmp rfl))), ⟨rfl, trivial⟩, (.inl ⟨_, rfl, by simp [hc15]⟩), rfl⟩, ⟨.inr ⟨(OpJ.w (J_nilCheck rfl (Opd.tmp rfl))), ⟨rfl, trivial⟩, (.inl ⟨_, rfl, by simp [hc15]⟩), rfl⟩, ⟨.inr ⟨(OpJ.w (J_fieldAddr rfl Tryd.underlying52 rfl sz2 (by decide) (Opd.tmp rfl) rfl)), ⟨rfl, trivial⟩, (.inl ⟨_, rfl, by simp [hc15]⟩), rfl⟩, ⟨.inr ⟨(OpJ.w (J_load rfl Tryd.isAgg2 (Opd.tmp rfl))), ⟨rfl, trivial⟩, (.inl ⟨_, rfl, by simp [hc15]⟩), rfl⟩, ⟨.inr ⟨(OpJ.w (J_move rfl (Opd.tmp rfl))), ⟨rfl, trivial⟩, (.inl ⟨_, rfl, by simp [hc15]⟩), rfl⟩, ⟨.inr ⟨(OpJ.w (J_nilCheck rfl (Opd.tmp rfl))), ⟨rfl, trivial⟩, (.inl ⟨_, rfl, by simp [hc15]⟩), rfl⟩, ⟨.inr ⟨(OpJ.w (J_fieldAddr rfl Tryd.underlying52 rfl sz2 (by decide) (Opd.tmp rfl) rfl)), ⟨rfl, trivial⟩, (.inl ⟨_, rfl, by simp [hc15]⟩), rfl⟩, ⟨.inr ⟨(OpJ.w (J_load rfl Tryd.isAgg2 (Opd.tmp rfl))), ⟨rfl, trivial⟩, (.inl ⟨_, rfl, by simp [hc15]⟩), rfl⟩, ⟨.inr ⟨(OpJ.w (J_move rfl (Opd.tmp rfl))), ⟨rfl, trivial⟩, (.inl ⟨_, rfl, by simp [hc15]⟩), rfl⟩, ⟨.inr ⟨(OpJ.w (J_nilCheck rfl (Opd.tmp rfl))), ⟨rfl, trivial⟩, (.inl ⟨_, rfl, by simp [hc15]⟩), rfl⟩, ⟨.inr ⟨(OpJ.w (J_fieldAddr rfl Tryd.underlying52 rfl sz2 (by decide) (Opd.tmp rfl) rfl)), ⟨rfl, trivial⟩, (.inl ⟨_, rfl, by simp [hc15]⟩), rfl⟩, ⟨.inr ⟨(OpJ.w (J_load rfl Tryd.isAgg2 (Opd.tmp rfl))), ⟨rfl, trivial⟩, (.inl ⟨_, rfl, by simp [hc15]⟩), rfl⟩, ⟨.inr ⟨(OpJ.w (J_bin rfl (Opd.tmp rfl) (Opd.tmp rfl) B_sub)), ⟨rfl, rfl, trivial⟩, (.inl ⟨_, rfl, by simp [hc15]⟩), rfl⟩, ⟨.inr ⟨(OpJ.w (J_bin rfl (Opd.tmp rfl) (Opd.tmp rfl) B_geq)), ⟨rfl, rfl, trivial⟩, (.inl ⟨_, rfl, by simp [hc15]⟩), rfl⟩, ⟨.inr ⟨(OpJ.w (J_move rfl (Opd.tmp rfl))), ⟨rfl, trivial⟩, (.inl ⟨_, rfl, by simp [hc15]⟩), rfl⟩, ⟨.inr ⟨rfl, ⟨rfl, trivial⟩, (.inl ⟨_, rfl, by simp [hc16]⟩), rfl⟩, ⟨.inr ⟨rfl, ⟨rfl, trivial⟩, (.inl ⟨_, rfl, by simp [hc16]⟩), rfl⟩, ⟨.inr ⟨rfl, ⟨rfl, trivial⟩, (.inl ⟨_, rfl, by simp [hc16]⟩), rfl⟩, ⟨.inr ⟨rfl, ⟨rfl, trivial⟩, (.inl ⟨_, rfl, by simp [hc16]⟩), rfl⟩, ⟨.inr ⟨rfl, ⟨rfl, trivial⟩, (.inl ⟨_, rfl, by simp [hc16]⟩), rfl⟩, ⟨.inr ⟨rfl, ⟨rfl, trivial⟩, (.inl ⟨_, rfl, by simp [hc16]⟩), rfl⟩, ⟨.inr ⟨rfl, ⟨rfl, trivial⟩, (.inl ⟨_, rfl, by simp [hc16]⟩), rfl⟩, ⟨.inr ⟨rfl, ⟨rfl, trivial⟩, (.inl ⟨_, rfl, by simp [hc16]⟩), rfl⟩, ⟨.inr ⟨rfl, ⟨rfl, rfl, trivial⟩, (.inl ⟨_, rfl, by simp [hc16]⟩), rfl⟩, ⟨.inr ⟨rfl, ⟨rfl, trivial⟩, (.inl ⟨_, rfl, by simp [hc16]⟩), rfl⟩, ⟨.inr ⟨(OpJ.w (J_pick rfl (Opd.tmp rfl) (fun hf => absurd (hc16.symm.trans hf) (by decide)) (fun _ => Opd.con))), ⟨rfl, rfl, trivial⟩, (.inl ⟨_, rfl, by simp [hc15]⟩), rfl⟩, ⟨.inr ⟨(OpJ.w (J_pick rfl (Opd.tmp rfl) (fun hf => absurd (hc15.symm.trans hf) (by decide)) (fun _ => (Opd.tmp rfl)))), ⟨rfl, rfl, trivial⟩, rfl, rfl⟩, trivial⟩⟩⟩⟩⟩⟩⟩⟩⟩⟩⟩⟩⟩⟩⟩⟩⟩⟩⟩⟩⟩⟩⟩⟩⟩⟩⟩⟩⟩⟩⟩⟩⟩ ?_
              refine RegL.pure (p := (pEq (.bool false))) rfl rfl rfl (J_assign rfl (Opd.tmp rfl)) ?_
              refine RegL.nil ?_
              replace h := Option.some.inj h; subst h
              exact Ct.mid () rfl ⟨rfl, trivial⟩
        · clear hx14
          refine Ct.then_tr ?_
          refine Tr.weak (Γ' := [(2, (pEq (.bool x14)))]) ⟨rfl, trivial⟩ ?_
          refine Tr.ret ?_
          replace h := Option.some.inj h; subst h
          exact Ct.retH1 (Ωx := []) () rfl (RvOk.tmp rfl) rfl

theorem c_spec_l01Dec {n_0 : Int} {r : ByteArray} (h : m_spec_l01Dec n_0 = some r) : CallJ Tryd.prog 92 [(pEq (.int .i64 n_0))] (pEq (.string r)) := by
  unfold m_spec_l01Dec at h
  refine CallJ.enterH Tryd.func92 rfl Tryd.ntmps92 rfl fun W I0 H => ?_
  refine Tr.weak (Γ' := [(0, (pEq (.int .i64 n_0)))]) ⟨rfl, trivial⟩ ?_
  refine Tr.seq ?_
  refine Tr.region ?_
  refine RegL.pure (p := (pEq (.string (ByteArray.mk #[])))) rfl rfl rfl (J_assign rfl Opd.con) ?_
  refine RegL.nil ?_
  refine Ct.then_tr ?_
  refine Tr.weak (Γ' := [(0, (pEq (.int .i64 n_0)))]) ⟨rfl, trivial⟩ ?_
  refine Tr.seq ?_
  refine Tr.seq ?_
  refine Tr.region ?_
  refine RegL.pure (p := (pEq (.int .i64 n_0))) rfl rfl rfl (J_move rfl (Opd.tmp rfl)) ?_
  refine RegL.pure (p := (pEq (.bool (n_0 == (0 : Int))))) rfl rfl rfl (J_bin rfl (Opd.tmp rfl) Opd.con B_eql) ?_
  refine RegL.nil ?_
  refine Ct.then_tr ?_
  refine Tr.weak (Γ' := [(0, (pEq (.int .i64 n_0))), (9, (pEq (.bool (n_0 == (0 : Int)))))]) ⟨rfl, rfl, trivial⟩ ?_
  refine Tr.cond (Opd.tmp rfl) (fun hc => ?_) (fun hc => ?_)
  · replace h := bif_t hc h
    refine Tr.seq ?_
    refine Tr.region ?_
    refine RegL.pure (p := (pEq (.string (ByteArray.mk #[48])))) rfl rfl rfl (J_assign rfl Opd.con) ?_
    refine RegL.nil ?_
    refine Ct.then_tr ?_
    refine Tr.weak (Γ' := [(2, (pEq (.string (ByteArray.mk #[48]))))]) ⟨rfl, trivial⟩ ?_
    refine Tr.ret ?_
    refine Ct.then_ret ?_
    replace h := Option.some.inj h; subst h
    exact Ct.retH1 (Ωx := []) () rfl (RvOk.tmp rfl) rfl
  · replace h := bif_f hc h
    refine Tr.skip ?_
    refine Ct.then_tr ?_
    refine Tr.weak (Γ' := [(0, (pEq (.int .i64 n_0)))]) ⟨rfl, trivial⟩ ?_
    refine Tr.seq ?_
    refine Tr.region ?_
    refine RegL.step (γ := Option Addr) (p := fun a => pEq (.slice a 0 0)) (Ω' := fun a => [oSl 5 1 (cK .u8) a 0 0 ([] : (List Int))]) rfl rfl rfl (M_buildSlice (qss := []) rfl Tryd.underlying93 el5 rfl Parts.nil rfl rfl) fun o2 => ?_
    refine RegL.pure (p := (pEq (.slice o2 0 0))) rfl rfl rfl (J_assign rfl (Opd.tmp rfl)) ?_
    refine RegL.nil ?_
    refine Ct.then_tr ?_
    refine Tr.weak (Γ' := [(0, (pEq (.int .i64 n_0))), (3, (pEq (.slice o2 0 0)))]) ⟨rfl, rfl, trivial⟩ ?_
    refine Tr.seq ?_
    refine Tr.seq ?_
    refine Tr.region ?_
    refine RegL.pure (p := (pEq (.int .i64 n_0))) rfl rfl rfl (J_move rfl (Opd.tmp rfl)) ?_
    refine RegL.pure (p := (pEq (.int .i64 n_0))) rfl rfl rfl (J_assign rfl (Opd.tmp rfl)) ?_
    refine RegL.nil ?_
    refine Ct.then_tr ?_
    refine Tr.weak (Γ' := [(0, (pEq (.int .i64 n_0))), (3, (pEq (.slice o2 0 0))), (4, (pEq (.int .i64 n_0)))]) ⟨rfl, rfl, rfl, trivial⟩ ?_
    replace h := bind_some h; obtain ⟨x3, hx3, h⟩ := h
    refine Tr.cut (γ := G3) (Γm := fun g => [(0, (pEq (.int .i64 n_0))), (3, (pEq (.slice g.1 g.2.1 g.2.2)))]) (Ωm := fun g => [oSl 5 1 (cK .u8) g.1 g.2.1 g.2.2 x3]) ?_ (fun g12 => ?_)
    · clear h
      have h := hx3
      clear hx3
      refine Tr.block ?_
      refine Tr.weak (Γ' := [(0, (pEq (.int .i64 n_0))), (3, (pEq (.slice o2 0 0))), (4, (pEq (.int .i64 n_0)))]) ⟨rfl, rfl, rfl, trivial⟩ ?_
      refine Tr.loop (γ := G3) (σ := (Int × (List Int))) (Γσ := fun s g => [(0, (pEq (.int .i64 n_0))), (3, (pEq (.slice g.1 g.2.1 g.2.2))), (4, (pEq (.int .i64 s.1)))]) (Ωσ := fun s g => [oSl 5 1 (cK .u8) g.1 g.2.1 g.2.2 s.2]) (g := (o2, 0, 0)) h ?_
      clear h
      rintro ⟨v5, v6⟩ g7 t h
      replace h : m_spec_l01Dec_B4  v5 v6 = some t := h
      unfold m_spec_l01Dec_B4 at h
      refine Tr.weakO (Γ' := [(0, (pEq (.int .i64 n_0))), (3, (pEq (.slice g7.1 g7.2.1 g7.2.2))), (4, (pEq (.int .i64 v5)))]) (Ω' := [oSl 5 1 (cK .u8) g7.1 g7.2.1 g7.2.2 v6]) rfl ⟨rfl, rfl, rfl, trivial⟩ ?_
      refine Tr.seq ?_
      refine Tr.seq ?_
      refine Tr.region ?_
      refine RegL.pure (p := (pEq (.int .i64 v5))) rfl rfl rfl (J_move rfl (Opd.tmp rfl)) ?_
      refine RegL.pure (p := (pEq (.bool (v5 != (0 : Int))))) rfl rfl rfl (J_bin rfl (Opd.tmp rfl) Opd.con B_neq) ?_
      refine RegL.nil ?_
      refine Ct.then_tr ?_
      refine Tr.weak (Γ' := [(0, (pEq (.int .i64 n_0))), (3, (pEq (.slice g7.1 g7.2.1 g7.2.2))), (4, (pEq (.int .i64 v5))), (13, (pEq (.bool (v5 != (0 : Int)))))]) ⟨rfl, rfl, rfl, rfl, trivial⟩ ?_
      refine Tr.cond (Opd.tmp rfl) (fun hc => ?_) (fun hc => ?_)
      · replace h := bif_t hc h
        refine Tr.skip ?_
        refine Ct.then_tr ?_
        refine Tr.weak (Γ' := [(0, (pEq (.int .i64 n_0))), (3, (pEq (.slice g7.1 g7.2.1 g7.2.2))), (4, (pEq (.int .i64 v5)))]) ⟨rfl, rfl, rfl, trivial⟩ ?_
        refine Tr.seq ?_
        refine Tr.block ?_
        refine Tr.seq ?_
        refine Tr.region ?_
        refine RegL.pure (p := (pEq (.int .i64 v5))) rfl rfl rfl (J_move rfl (Opd.tmp rfl)) ?_
        refine RegL.pure (p := (pEq (.int .i64 (v5.tmod (10 : Int))))) rfl rfl rfl (J_bin rfl (Opd.tmp rfl) Opd.con (B_rem (n := (10 : Int)) (by decide))) ?_
        refine RegL.pure (p := (pEq (.int .i64 (v5.tmod (10 : Int))))) rfl rfl rfl (J_assign rfl (Opd.tmp rfl)) ?_
        refine RegL.nil ?_
        refine Ct.then_tr ?_
        refine Tr.weak (Γ' := [(0, (pEq (.int .i64 n_0))), (3, (pEq (.slice g7.1 g7.2.1 g7.2.2))), (4, (pEq (.int .i64 v5))), (5, (pEq (.int .i64 (v5.tmod (10 : Int)))))]) ⟨rfl, rfl, rfl, rfl, trivial⟩ ?_
        refine Tr.seq ?_
        refine Tr.seq ?_
        refine Tr.region ?_
        refine RegL.pure (p := (pEq (.int .i64 (v5.tmod (10 : Int))))) rfl rfl rfl (J_move rfl (Opd.tmp rfl)) ?_
        refine RegL.pure (p := (pEq (.bool (decide ((v5.tmod (10 : Int)) < (0 : Int)))))) rfl rfl rfl (J_bin rfl (Opd.tmp rfl) Opd.con B_lss) ?_
        refine RegL.nil ?_
        refine Ct.then_tr ?_
        refine Tr.weak (Γ' := [(0, (pEq (.int .i64 n_0))), (3, (pEq (.slice g7.1 g7.2.1 g7.2.2))), (4, (pEq (.int .i64 v5))), (5, (pEq (.int .i64 (v5.tmod (10 : Int))))), (19, (pEq (.bool (decide ((v5.tmod (10 : Int)) < (0 : Int))))))]) ⟨rfl, rfl, rfl, rfl, rfl, trivial⟩ ?_
        replace h := bind_some h; obtain ⟨x8, hx8, h⟩ := h
        refine Tr.cut (γ := Unit) (Γm := fun g => [(0, (pEq (.int .i64 n_0))), (3, (pEq (.slice g7.1 g7.2.1 g7.2.2))), (4, (pEq (.int .i64 v5))), (5, (pEq (.int .i64 x8)))]) (Ωm := fun g => [oSl 5 1 (cK .u8) g7.1 g7.2.1 g7.2.2 v6]) ?_ (fun g9 => ?_)
        · clear h
          have h := hx8
          clear hx8
          refine Tr.cond (Opd.tmp rfl) (fun hc => ?_) (fun hc => ?_)
          · replace h := bif_t hc h
            refine Tr.region ?_
            refine RegL.pure (p := (pEq (.int .i64 (v5.tmod (10 : Int))))) rfl rfl rfl (J_move rfl (Opd.tmp rfl)) ?_
            refine RegL.pure (p := (pEq (.int .i64 (w64 (0 - (v5.tmod (10 : Int))))))) rfl rfl rfl (J_neg rfl (Opd.tmp rfl)) ?_
            refine RegL.pure (p := (pEq (.int .i64 (w64 (0 - (v5.tmod (10 : Int))))))) rfl rfl rfl (J_assign rfl (Opd.tmp rfl)) ?_
            refine RegL.nil ?_
            replace h := Option.some.inj h; subst h
            exact Ct.mid () rfl ⟨rfl, rfl, rfl, rfl, trivial⟩
          · replace h := bif_f hc h
            refine Tr.skip ?_
            replace h := Option.some.inj h; subst h
            exact Ct.mid () rfl ⟨rfl, rfl, rfl, rfl, trivial⟩
        · clear hx8
          refine Ct.then_tr ?_
          refine Tr.weak (Γ' := [(0, (pEq (.int .i64 n_0))), (3, (pEq (.slice g7.1 g7.2.1 g7.2.2))), (4, (pEq (.int .i64 v5))), (5, (pEq (.int .i64 x8)))]) ⟨rfl, rfl, rfl, rfl, trivial⟩ ?_
          refine Tr.region ?_
          refine RegL.pure (p := (pEq (.slice g7.1 g7.2.1 g7.2.2))) rfl rfl rfl (J_move rfl (Opd.tmp rfl)) ?_
          refine RegL.pure (p := (pEq (.int .i64 x8))) rfl rfl rfl (J_move rfl (Opd.tmp rfl)) ?_
          refine RegL.pure (p := (pEq (.int .i64 (w64 ((48 : Int) + x8))))) rfl rfl rfl (J_bin rfl Opd.con (Opd.tmp rfl) B_add) ?_
          refine RegL.pure (p := (pEq (.int .u8 (IntKind.wrap .u8 ((w64 ((48 : Int) + x8))))))) rfl rfl rfl (J_conv rfl Tryd.underlying2 Tryd.underlying5 (Opd.tmp rfl)) ?_
          refine RegL.pure (p := (pSl 1 (cK .u8) ([(IntKind.wrap .u8 ((w64 ((48 : Int) + x8))))] : (List Int)))) rfl rfl rfl (J_buildSlice (l := ([(IntKind.wrap .u8 ((w64 ((48 : Int) + x8))))] : (List Int))) (qss := [(0, (cK .u8) (IntKind.wrap .u8 ((w64 ((48 : Int) + x8)))))]) rfl Tryd.underlying93 el5 rfl (Parts.cons (Part.one (Opd.tmp rfl) OneC.int) Parts.nil) rfl rfl) ?_
          replace h := bind_some h; obtain ⟨x10, hx10, h⟩ := h
          refine RegL.step (γ := Option Addr × Nat) (p := fun g => pEq (.slice g.1 x10.length g.2)) (Ω' := fun g => [oSl 5 1 (cK .u8) g.1 x10.length g.2 x10]) rfl rfl rfl (M_appendI rfl Tryd.underlying93 el5 (Opd.tmp rfl) (Opd.tmp rfl) hx10) fun g11 => ?_
          refine RegL.pure (p := (pEq (.slice g11.1 x10.length g11.2))) rfl rfl rfl (J_assign rfl (Opd.tmp rfl)) ?_
          refine RegL.nil ?_
          refine Ct.blk_normal ?_
          refine Ct.then_tr ?_
          refine Tr.weak (Γ' := [(0, (pEq (.int .i64 n_0))), (3, (pEq (.slice g11.1 x10.length g11.2))), (4, (pEq (.int .i64 v5)))]) ⟨rfl, rfl, rfl, trivial⟩ ?_
          refine Tr.region ?_
          refine RegL.pure (p := (pEq (.int .i64 v5))) rfl rfl rfl (J_move rfl (Opd.tmp rfl)) ?_
          refine RegL.pure (p := (pEq (.int .i64 (w64 (v5.tdiv (10 : Int)))))) rfl rfl rfl (J_bin rfl (Opd.tmp rfl) Opd.con (B_quo (n := (10 : Int)) (by decide))) ?_
          refine RegL.pure (p := (pEq (.int .i64 (w64 (v5.tdiv (10 : Int)))))) rfl rfl rfl (J_assign rfl (Opd.tmp rfl)) ?_
          refine RegL.nil ?_
          replace h := Option.some.inj h; subst h
          exact Ct.again (g11.1, x10.length, g11.2) rfl ⟨rfl, rfl, rfl, trivial⟩
      · replace h := bif_f hc h
        refine Tr.exit ?_
        refine Ct.then_exit ?_
        replace h := map_some h; obtain ⟨r1, h, rfl⟩ := h
        refine Ct.out_exit fun e => ?_
        subst e
        refine Ct.blk_exit ?_
        replace h := Option.some.inj h; subst h
        exact Ct.mid (g7.1, g7.2.1, g7.2.2) rfl ⟨rfl, rfl, trivial⟩
    · clear hx3
      refine Ct.then_tr ?_
      refine Tr.weak (Γ' := [(0, (pEq (.int .i64 n_0))), (3, (pEq (.slice g12.1 g12.2.1 g12.2.2)))]) ⟨rfl, rfl, trivial⟩ ?_
      refine Tr.seq ?_
      refine Tr.seq ?_
      refine Tr.region ?_
      refine RegL.pure (p := (pEq (.int .i64 n_0))) rfl rfl rfl (J_move rfl (Opd.tmp rfl)) ?_
      refine RegL.pure (p := (pEq (.bool (decide (n_0 < (0 : Int)))))) rfl rfl rfl (J_bin rfl (Opd.tmp rfl) Opd.con B_lss) ?_
      refine RegL.nil ?_
      refine Ct.then_tr ?_
      refine Tr.weak (Γ' := [(3, (pEq (.slice g12.1 g12.2.1 g12.2.2))), (29, (pEq (.bool (decide (n_0 < (0 : Int))))))]) ⟨rfl, rfl, trivial⟩ ?_
      replace h := bind_some h; obtain ⟨x13, hx13, h⟩ := h
      refine Tr.cut (γ := G3) (Γm := fun g => [(3, (pEq (.slice g.1 g.2.1 g.2.2)))]) (Ωm := fun g => [oSl 5 1 (cK .u8) g.1 g.2.1 g.2.2 x13]) ?_ (fun g16 => ?_)
      · clear h
        have h := hx13
        clear hx13
        refine Tr.cond (Opd.tmp rfl) (fun hc => ?_) (fun hc => ?_)
        · replace h := bif_t hc h
          refine Tr.region ?_
          refine RegL.pure (p := (pEq (.slice g12.1 g12.2.1 g12.2.2))) rfl rfl rfl (J_move rfl (Opd.tmp rfl)) ?_
          refine RegL.pure (p := (pSl 1 (cK .u8) ([(45 : Int)] : (List Int)))) rfl rfl rfl (J_buildSlice (l := ([(45 : Int)] : (List Int))) (qss := [(0, (cK .u8) (45 : Int))]) rfl Tryd.underlying93 el5 rfl (Parts.cons (Part.one Opd.con OneC.int) Parts.nil) rfl rfl) ?_
          replace h := bind_some h; obtain ⟨x14, hx14, h⟩ := h
          refine RegL.step (γ := Option Addr × Nat) (p := fun g => pEq (.slice g.1 x14.length g.2)) (Ω' := fun g => [oSl 5 1 (cK .u8) g.1 x14.length g.2 x14]) rfl rfl rfl (M_appendI rfl Tryd.underlying93 el5 (Opd.tmp rfl) (Opd.tmp rfl) hx14) fun g15 => ?_
          refine RegL.pure (p := (pEq (.slice g15.1 x14.length g15.2))) rfl rfl rfl (J_assign rfl (Opd.tmp rfl)) ?_
          refine RegL.nil ?_
          replace h := Option.some.inj h; subst h
          exact Ct.mid (g15.1, x14.length, g15.2) rfl ⟨rfl, trivial⟩
        · replace h := bif_f hc h
          refine Tr.skip ?_
          replace h := Option.some.inj h; subst h
          exact Ct.mid (g12.1, g12.2.1, g12.2.2) rfl ⟨rfl, trivial⟩
      · clear hx13
        refine Ct.then_tr ?_
        refine Tr.weak (Γ' := [(3, (pEq (.slice g16.1 g16.2.1 g16.2.2)))]) ⟨rfl, trivial⟩ ?_
        refine Tr.seq ?_
        refine Tr.region ?_
        refine RegL.step (γ := Option Addr) (p := fun a => pEq (.slice a 0 0)) (Ω' := fun a => [oSl 5 1 (cK .u8) a 0 0 ([] : (List Int)), oSl 5 1 (cK .u8) g16.1 g16.2.1 g16.2.2 x13]) rfl rfl rfl (M_buildSlice (qss := []) rfl Tryd.underlying93 el5 rfl Parts.nil rfl rfl) fun o18 => ?_
        refine RegL.pure (p := (pEq (.slice o18 0 0))) rfl rfl rfl (J_assign rfl (Opd.tmp rfl)) ?_
        refine RegL.nil ?_
        refine Ct.then_tr ?_
        refine Tr.weak (Γ' := [(3, (pEq (.slice g16.1 g16.2.1 g16.2.2))), (6, (pEq (.slice o18 0 0)))]) ⟨rfl, rfl, trivial⟩ ?_
        refine Tr.seq ?_
        refine Tr.seq ?_
        refine Tr.region ?_
        refine RegL.pure (p := (pEq (.slice g16.1 g16.2.1 g16.2.2))) rfl rfl rfl (J_move rfl (Opd.tmp rfl)) ?_
        refine RegL.pureW (p := (pEq (.int .i64 (x13.length : Int)))) rfl rfl rfl (W_rowLen (j := 1) rfl Tryd.underlying93 (Opd.tmp rfl) rfl) ?_
        refine RegL.pure (p := (pEq (.int .i64 (w64 ((x13.length : Int) - (1 : Int)))))) rfl rfl rfl (J_bin rfl (Opd.tmp rfl) Opd.con B_sub) ?_
        refine RegL.pure (p := (pEq (.int .i64 (w64 ((x13.length : Int) - (1 : Int)))))) rfl rfl rfl (J_assign rfl (Opd.tmp rfl)) ?_
        refine RegL.nil ?_
        refine Ct.then_tr ?_
        refine Tr.weak (Γ' := [(3, (pEq (.slice g16.1 g16.2.1 g16.2.2))), (6, (pEq (.slice o18 0 0))), (7, (pEq (.int .i64 (w64 ((x13.length : Int) - (1 : Int))))))]) ⟨rfl, rfl, rfl, trivial⟩ ?_
        replace h := bind_some h; obtain ⟨x19, hx19, h⟩ := h
        refine Tr.cut (γ := G3) (Γm := fun g => [(6, (pEq (.slice g.1 g.2.1 g.2.2)))]) (Ωm := fun g => [oSl 5 1 (cK .u8) g.1 g.2.1 g.2.2 x19]) ?_ (fun g27 => ?_)
        · clear h
          have h := hx19
          clear hx19
          refine Tr.block ?_
          refine Tr.weak (Γ' := [(3, (pEq (.slice g16.1 g16.2.1 g16.2.2))), (6, (pEq (.slice o18 0 0))), (7, (pEq (.int .i64 (w64 ((x13.length : Int) - (1 : Int))))))]) ⟨rfl, rfl, rfl, trivial⟩ ?_
          refine Tr.loop (γ := G3) (σ := (Int × (List Int))) (Γσ := fun s g => [(3, (pEq (.slice g16.1 g16.2.1 g16.2.2))), (6, (pEq (.slice g.1 g.2.1 g.2.2))), (7, (pEq (.int .i64 s.1)))]) (Ωσ := fun s g => [oSl 5 1 (cK .u8) g.1 g.2.1 g.2.2 s.2, oSl 5 1 (cK .u8) g16.1 g16.2.1 g16.2.2 x13]) (g := (o18, 0, 0)) h ?_
          clear h
          rintro ⟨v21, v22⟩ g23 t h
          replace h : m_spec_l01Dec_B20 x13 v21 v22 = some t := h
          unfold m_spec_l01Dec_B20 at h
          refine Tr.weakO (Γ' := [(3, (pEq (.slice g16.1 g16.2.1 g16.2.2))), (6, (pEq (.slice g23.1 g23.2.1 g23.2.2))), (7, (pEq (.int .i64 v21)))]) (Ω' := [oSl 5 1 (cK .u8) g23.1 g23.2.1 g23.2.2 v22, oSl 5 1 (cK .u8) g16.1 g16.2.1 g16.2.2 x13]) rfl ⟨rfl, rfl, rfl, trivial⟩ ?_
          refine Tr.seq ?_
          refine Tr.seq ?_
          refine Tr.region ?_
          refine RegL.pure (p := (pEq (.int .i64 v21))) rfl rfl rfl (J_move rfl (Opd.tmp rfl)) ?_
          refine RegL.pure (p := (pEq (.bool (decide ((0 : Int) ≤ v21))))) rfl rfl rfl (J_bin rfl (Opd.tmp rfl) Opd.con B_geq) ?_
          refine RegL.nil ?_
          refine Ct.then_tr ?_
          refine Tr.weak (Γ' := [(3, (pEq (.slice g16.1 g16.2.1 g16.2.2))), (6, (pEq (.slice g23.1 g23.2.1 g23.2.2))), (7, (pEq (.int .i64 v21))), (38, (pEq (.bool (decide ((0 : Int) ≤ v21)))))]) ⟨rfl, rfl, rfl, rfl, trivial⟩ ?_
          refine Tr.cond (Opd.tmp rfl) (fun hc => ?_) (fun hc => ?_)
          · replace h := bif_t hc h
            refine Tr.skip ?_
            refine Ct.then_tr ?_
            refine Tr.weak (Γ' := [(3, (pEq (.slice g16.1 g16.2.1 g16.2.2))), (6, (pEq (.slice g23.1 g23.2.1 g23.2.2))), (7, (pEq (.int .i64 v21)))]) ⟨rfl, rfl, rfl, trivial⟩ ?_
            refine Tr.seq ?_
            refine Tr.block ?_
            refine Tr.region ?_
            refine RegL.pure (p := (pEq (.slice g23.1 g23.2.1 g23.2.2))) rfl rfl rfl (J_move rfl (Opd.tmp rfl)) ?_
            refine RegL.pure (p := (pEq (.slice g16.1 g16.2.1 g16.2.2))) rfl rfl rfl (J_move rfl (Opd.tmp rfl)) ?_
            refine RegL.pure (p := (pEq (.int .i64 v21))) rfl rfl rfl (J_move rfl (Opd.tmp rfl)) ?_
            replace h := bind_some h; obtain ⟨x24, hx24, h⟩ := h
            refine RegL.pureW (p := (pEq (.pointer (some ⟨blk g16.1, (v21).toNat * 1, none⟩)))) rfl rfl rfl (W_rowIdx (j := 1) rfl Tryd.underlying93 sz5 (Opd.tmp rfl) (Opd.tmp rfl) rfl (idx_lt hx24)) ?_
            refine RegL.pureW (p := (pEq (.int .u8 x24))) rfl rfl rfl (W_rowLoad (j := 1) (f := (cK .u8)) rfl Tryd.isAgg5 (fun _ => rfl) (Opd.tmp rfl) rfl hx24 rfl) ?_
            refine RegL.pure (p := (pSl 1 (cK .u8) ([x24] : (List Int)))) rfl rfl rfl (J_buildSlice (l := ([x24] : (List Int))) (qss := [(0, (cK .u8) x24)]) rfl Tryd.underlying93 el5 rfl (Parts.cons (Part.one (Opd.tmp rfl) OneC.int) Parts.nil) rfl rfl) ?_
            replace h := bind_some h; obtain ⟨x25, hx25, h⟩ := h
            refine RegL.step (γ := Option Addr × Nat) (p := fun g => pEq (.slice g.1 x25.length g.2)) (Ω' := fun g => [oSl 5 1 (cK .u8) g.1 x25.length g.2 x25, oSl 5 1 (cK .u8) g16.1 g16.2.1 g16.2.2 x13]) rfl rfl rfl (M_appendI rfl Tryd.underlying93 el5 (Opd.tmp rfl) (Opd.tmp rfl) hx25) fun g26 => ?_
            refine RegL.pure (p := (pEq (.slice g26.1 x25.length g26.2))) rfl rfl rfl (J_assign rfl (Opd.tmp rfl)) ?_
            refine RegL.nil ?_
            refine Ct.blk_normal ?_
            refine Ct.then_tr ?_
            refine Tr.weak (Γ' := [(3, (pEq (.slice g16.1 g16.2.1 g16.2.2))), (6, (pEq (.slice g26.1 x25.length g26.2))), (7, (pEq (.int .i64 v21)))]) ⟨rfl, rfl, rfl, trivial⟩ ?_
            refine Tr.region ?_
            refine RegL.pure (p := (pEq (.int .i64 v21))) rfl rfl rfl (J_move rfl (Opd.tmp rfl)) ?_
            refine RegL.pure (p := (pEq (.int .i64 (w64 (v21 - (1 : Int)))))) rfl rfl rfl (J_bin rfl (Opd.tmp rfl) Opd.con B_sub) ?_
            refine RegL.pure (p := (pEq (.int .i64 (w64 (v21 - (1 : Int)))))) rfl rfl rfl (J_assign rfl (Opd.tmp rfl)) ?_
            refine RegL.nil ?_
            replace h := Option.some.inj h; subst h
            exact Ct.again (g26.1, x25.length, g26.2) rfl ⟨rfl, rfl, rfl, trivial⟩
          · replace h := bif_f hc h
            refine Tr.exit ?_
            refine Ct.then_exit ?_
            replace h := map_some h; obtain ⟨r1, h, rfl⟩ := h
            refine Ct.out_exit fun e => ?_
            subst e
            refine Ct.blk_exit ?_
            refine Ct.re (Ω2 := [oSl 5 1 (cK .u8) g16.1 g16.2.1 g16.2.2 x13, oSl 5 1 (cK .u8) g23.1 g23.2.1 g23.2.2 v22]) (fun h => SatO.pick 1 h) ?_
            refine Ct.re (Ω2 := [oSl 5 1 (cK .u8) g23.1 g23.2.1 g23.2.2 v22]) (fun h => SatO.rest h) ?_
            replace h := Option.some.inj h; subst h
            exact Ct.mid (g23.1, g23.2.1, g23.2.2) rfl ⟨rfl, trivial⟩
        · clear hx19
          refine Ct.then_tr ?_
          refine Tr.weak (Γ' := [(6, (pEq (.slice g27.1 g27.2.1 g27.2.2)))]) ⟨rfl, trivial⟩ ?_
          refine Tr.seq ?_
          refine Tr.region ?_
          refine RegL.pure (p := (pEq (.slice g27.1 g27.2.1 g27.2.2))) rfl rfl rfl (J_move rfl (Opd.tmp rfl)) ?_
          refine RegL.pureW (p := (pEq (.string (strOfNums x19)))) rfl rfl rfl (W_rowStr (j := 0) rfl Tryd.underlying93 Tryd.underlying5 Tryd.underlying9 (Opd.tmp rfl) rfl) ?_
          refine RegL.pure (p := (pEq (.string (strOfNums x19)))) rfl rfl rfl (J_assign rfl (Opd.tmp rfl)) ?_
          refine RegL.nil ?_
          refine Ct.then_tr ?_
          refine Tr.weak (Γ' := [(2, (pEq (.string (strOfNums x19))))]) ⟨rfl, trivial⟩ ?_
          refine Tr.ret ?_
          replace h := Option.some.inj h; subst h
          exact Ct.retH1 (Ωx := [oSl 5 1 (cK .u8) g27.1 g27.2.1 g27.2.2 x19]) () rfl (RvOk.tmp rfl) rfl

theorem c_spec_l15Text {b_0 : GBand} {r : ByteArray} (h : m_spec_l15Text b_0 = some r) : CallJ Tryd.prog 59 [(pPtr (cGBand b_0))] (pEq (.string r)) := by
  unfold m_spec_l15Text at h
  refine CallJ.enterH Tryd.func59 rfl Tryd.ntmps59 rfl fun W I0 H => ?_
  refine Tr.weak (Γ' := [(0, (pPtr (cGBand b_0)))]) ⟨rfl, trivial⟩ ?_
  refine Tr.seq ?_
  refine Tr.region ?_
  refine RegL.pure (p := (pEq (.string (ByteArray.mk #[])))) rfl rfl rfl (J_assign rfl Opd.con) ?_
  refine RegL.nil ?_
  refine Ct.then_tr ?_
  refine Tr.weak (Γ' := [(0, (pPtr (cGBand b_0)))]) ⟨rfl, trivial⟩ ?_
  refine Tr.seq ?_
  replace h := bind_some h; obtain ⟨x1, hx1, h⟩ := h
  replace h := bind_some h; obtain ⟨x2, hx2, h⟩ := h
  replace h := bind_some h; obtain ⟨x3, hx3, h⟩ := h
  replace h := bind_some h; obtain ⟨x4, hx4, h⟩ := h
  replace h := bind_some h; obtain ⟨x5, hx5, h⟩ := h
  replace h := bind_some h; obtain ⟨x6, hx6, h⟩ := h
  replace h := bind_some h; obtain ⟨x7, hx7, h⟩ := h
  replace h := bind_some h; obtain ⟨x8, hx8, h⟩ := h
  replace h := bind_some h; obtain ⟨x9, hx9, h⟩ := h
  replace h := bind_some h; obtain ⟨x10, hx10, h⟩ := h
  replace h := bind_some h; obtain ⟨x11, hx11, h⟩ := h
  replace h := bind_some h; obtain ⟨x12, hx12, h⟩ := h
  refine Tr.drawD (n := 35) (m := 32) (es := [some (Ent.mk [(0, (pPtr (cGBand b_0)))] (pPtr (cGBand b_0)) true), some (Ent.mk [(3, (pPtr (cGBand b_0)))] (pPtr (cGBand b_0)) true), some (Ent.mk [(4, (pPtr (cGBand b_0)))] (pPtr (cS b_0.Name)) true), some (Ent.mk [(5, (pPtr (cS b_0.Name)))] (pEq (.string b_0.Name)) true), some (Ent.mk [(6, (pEq (.string b_0.Name)))] (pEq (.string x1)) true), some (Ent.mk [(0, (pPtr (cGBand b_0)))] (pPtr (cGBand b_0)) true), some (Ent.mk [(8, (pPtr (cGBand b_0)))] (pPtr (cGBand b_0)) true), some (Ent.mk [(9, (pPtr (cGBand b_0)))] (pPtr ((cK .i64) b_0.Low)) true), some (Ent.mk [(10, (pPtr ((cK .i64) b_0.Low)))] (pEq (.int .i64 b_0.Low)) true), some (Ent.mk [(11, (pEq (.int .i64 b_0.Low)))] (pEq (.string x2)) true), some (Ent.mk [(7, (pEq (.string x1))), (12, (pEq (.string x2)))] (pEq (.string x3)) true), some (Ent.mk [(13, (pEq (.string x3)))] (pEq (.string x4)) true), some (Ent.mk [(0, (pPtr (cGBand b_0)))] (pPtr (cGBand b_0)) true), some (Ent.mk [(15, (pPtr (cGBand b_0)))] (pPtr (cGBand b_0)) true), some (Ent.mk [(16, (pPtr (cGBand b_0)))] (pPtr ((cK .i64) b_0.High)) true), some (Ent.mk [(17, (pPtr ((cK .i64) b_0.High)))] (pEq (.int .i64 b_0.High)) true), some (Ent.mk [(18, (pEq (.int .i64 b_0.High)))] (pEq (.string x5)) true), some (Ent.mk [(14, (pEq (.string x4))), (19, (pEq (.string x5)))] (pEq (.string x6)) true), some (Ent.mk [(20, (pEq (.string x6)))] (pEq (.string x7)) true), some (Ent.mk [(0, (pPtr (cGBand b_0)))] (pPtr (cGBand b_0)) true), some (Ent.mk [(22, (pPtr (cGBand b_0)))] (pPtr (cGBand b_0)) true), some (Ent.mk [(23, (pPtr (cGBand b_0)))] (pPtr ((cK .i64) b_0.Raster)) true), some (Ent.mk [(24, (pPtr ((cK .i64) b_0.Raster)))] (pEq (.int .i64 b_0.Raster)) true), some (Ent.mk [(25, (pEq (.int .i64 b_0.Raster)))] (pEq (.string x8)) true), some (Ent.mk [(21, (pEq (.string x7))), (26, (pEq (.string x8)))] (pEq (.string x9)) true), some (Ent.mk [(27, (pEq (.string x9)))] (pEq (.string x10)) true), some (Ent.mk [(0, (pPtr (cGBand b_0)))] (pPtr (cGBand b_0)) true), some (Ent.mk [(29, (pPtr (cGBand b_0)))] (pPtr (cGBand b_0)) true), some (Ent.mk [(30, (pPtr (cGBand b_0)))] (pPtr ((cK .i64) b_0.Duplex)) true), some (Ent.mk [(31, (pPtr ((cK .i64) b_0.Duplex)))] (pEq (.int .i64 b_0.Duplex)) true), some (Ent.mk [(32, (pEq (.int .i64 b_0.Duplex)))] (pEq (.string x11)) true), some (Ent.mk [(28, (pEq (.string x10))), (33, (pEq (.string x11)))] (pEq (.string x12)) true)]) (rd := [[0], [3], [4], [5], [6], [0], [8], [9], [10], [11], [7, 12], [13], [0], [15], [16], [17], [18], [14, 19], [20], [0], [22], [23], [24], [25], [21, 26], [27], [0], [29], [30], [31], [32], [28, 33]]) rfl hmix (by kernel_rfl) fun hD => ?_
  refine RD.fin (es := [Ent.mk [(0, (pPtr (cGBand b_0)))] (pPtr (cGBand b_0)) true, Ent.mk [(3, (pPtr (cGBand b_0)))] (pPtr (cGBand b_0)) true, Ent.mk [(4, (pPtr (cGBand b_0)))] (pPtr (cS b_0.Name)) true, Ent.mk [(5, (pPtr (cS b_0.Name)))] (pEq (.string b_0.Name)) true, Ent.mk [(6, (pEq (.string b_0.Name)))] (pEq (.string x1)) true, Ent.mk [(0, (pPtr (cGBand b_0)))] (pPtr (cGBand b_0)) true, Ent.mk [(8, (pPtr (cGBand b_0)))] (pPtr (cGBand b_0)) true, Ent.mk [(9, (pPtr (cGBand b_0)))] (pPtr ((cK .i64) b_0.Low)) true, Ent.mk [(10, (pPtr ((cK .i64) b_0.Low)))] (pEq (.int .i64 b_0.Low)) true, Ent.mk [(11, (pEq (.int .i64 b_0.Low)))] (pEq (.string x2)) true, Ent.mk [(7, (pEq (.string x1))), (12, (pEq (.string x2)))] (pEq (.string x3)) true, Ent.mk [(13, (pEq (.string x3)))] (pEq (.string x4)) true, Ent.mk [(0, (pPtr (cGBand b_0)))] (pPtr (cGBand b_0)) true, Ent.mk [(15, (pPtr (cGBand b_0)))] (pPtr (cGBand b_0)) true, Ent.mk [(16, (pPtr (cGBand b_0)))] (pPtr ((cK .i64) b_0.High)) true, Ent.mk [(17, (pPtr ((cK .i64) b_0.High)))] (pEq (.int .i64 b_0.High)) true, Ent.mk [(18, (pEq (.int .i64 b_0.High)))] (pEq (.string x5)) true, Ent.mk [(14, (pEq (.string x4))), (19, (pEq (.string x5)))] (pEq (.string x6)) true, Ent.mk [(20, (pEq (.string x6)))] (pEq (.string x7)) true, Ent.mk [(0, (pPtr (cGBand b_0)))] (pPtr (cGBand b_0)) true, Ent.mk [(22, (pPtr (cGBand b_0)))] (pPtr (cGBand b_0)) true, Ent.mk [(23, (pPtr (cGBand b_0)))] (pPtr ((cK .i64) b_0.Raster)) true, Ent.mk [(24, (pPtr ((cK .i64) b_0.Raster)))] (pEq (.int .i64 b_0.Raster)) true, Ent.mk [(25, (pEq (.int .i64 b_0.Raster)))] (pEq (.string x8)) true, Ent.mk [(21, (pEq (.string x7))), (26, (pEq (.string x8)))] (pEq (.string x9)) true, Ent.mk [(27, (pEq (.string x9)))] (pEq (.string x10)) true, Ent.mk [(0, (pPtr (cGBand b_0)))] (pPtr (cGBand b_0)) true, Ent.mk [(29, (pPtr (cGBand b_0)))] (pPtr (cGBand b_0)) true, Ent.mk [(30, (pPtr (cGBand b_0)))] (pPtr ((cK .i64) b_0.Duplex)) true, Ent.mk [(31, (pPtr ((cK .i64) b_0.Duplex)))] (pEq (.int .i64 b_0.Duplex)) true, Ent.mk [(32, (pEq (.int .i64 b_0.Duplex)))] (pEq (.string x11)) true, Ent.mk [(28, (pEq (.string x10))), (33, (pEq (.string x11)))] (pEq (.string x12)) true]) (done := []) hD ⟨.inr ⟨(OpJ.w (J_move rfl (Opd.tmp rfl))), ⟨rfl, trivial⟩, rfl, rfl⟩, ⟨.inr ⟨(OpJ.w (J_nilCheck rfl (Opd.tmp rfl))), ⟨rfl, trivial⟩, rfl, rfl⟩, ⟨.inr ⟨(OpJ.w (J_fieldAddr rfl Tryd.underlying52 rfl sz9 (by decide) (Opd.tmp rfl) rfl)), ⟨rfl, trivial⟩, rfl, rfl⟩, ⟨.inr ⟨(OpJ.w (J_load rfl Tryd.isAgg9 (Opd.tmp rfl))), ⟨rfl, trivial⟩, rfl, rfl⟩, ⟨.inr ⟨(OpJ.w (J_bin rfl (Opd.tmp rfl) Opd.con (B_sadd hx1))), ⟨rfl, trivial⟩, rfl, rfl⟩, ⟨.inr ⟨(OpJ.w (J_move rfl (Opd.tmp rfl))), ⟨rfl, trivial⟩, rfl, rfl⟩, ⟨.inr ⟨(OpJ.w (J_nilCheck rfl (Opd.tmp rfl))), ⟨rfl, trivial⟩, rfl, rfl⟩, ⟨.inr ⟨(OpJ.w (J_fieldAddr rfl Tryd.underlying52 rfl sz2 (by decide) (Opd.tmp rfl) rfl)), ⟨rfl, trivial⟩, rfl, rfl⟩, ⟨.inr ⟨(OpJ.w (J_load rfl Tryd.isAgg2 (Opd.tmp rfl))), ⟨rfl, trivial⟩, rfl, rfl⟩, ⟨.inr ⟨(OpJ.w (J_call rfl Tryd.call92 (c_spec_l01Dec hx2) (Opds.cons (Opd.tmp rfl) Opds.nil))), ⟨rfl, trivial⟩, rfl, rfl⟩, ⟨.inr ⟨(OpJ.w (J_bin rfl (Opd.tmp rfl) (Opd.tmp rfl) (B_sadd hx3))), ⟨rfl, rfl, trivial⟩, rfl, rfl⟩, ⟨.inr ⟨(OpJ.w (J_bin rfl (Opd.tmp rfl) Opd.con (B_sadd hx4))), ⟨rfl, trivial⟩, rfl, rfl⟩, ⟨.inr ⟨(OpJ.w (J_move rfl (Opd.tmp rfl))), ⟨rfl, trivial⟩, rfl, rfl⟩, ⟨.inr ⟨(OpJ.w (J_nilCheck rfl (Opd.tmp rfl))), ⟨rfl, trivial⟩, rfl, rfl⟩, ⟨.inr ⟨(OpJ.w (J_fieldAddr rfl Tryd.underlying52 rfl sz2 (by decide) (Opd.tmp rfl) rfl)), ⟨rfl, trivial⟩, rfl, rfl⟩, ⟨.inr ⟨(OpJ.w (J_load rfl Tryd.isAgg2 (Opd.tmp rfl))), ⟨rfl, trivial⟩, rfl, rfl⟩, ⟨.inr ⟨(OpJ.w (J_call rfl Tryd.call92 (c_spec_l01Dec hx5) (Opds.cons (Opd.tmp rfl) Opds.nil))), ⟨rfl, trivial⟩, rfl, rfl⟩, ⟨.inr ⟨(OpJ.w (J_bin rfl (Opd.tmp rfl) (Opd.tmp rfl) (B_sadd hx6))), ⟨rfl, rfl, trivial⟩, rfl, rfl⟩, ⟨.inr ⟨(OpJ.w (J_bin rfl (Opd.tmp rfl) Opd.con (B_sadd hx7))), ⟨rfl, trivial⟩, rfl, rfl⟩, ⟨.inr ⟨(OpJ.w (J_move rfl (Opd.tmp rfl))), ⟨rfl, trivial⟩, rfl, rfl⟩, ⟨.inr ⟨(OpJ.w (J_nilCheck rfl (Opd.tmp rfl))), ⟨rfl, trivial⟩, rfl, rfl⟩, ⟨.inr ⟨(OpJ.w (J_fieldAddr rfl Tryd.underlying52 rfl sz2 (by decide) (Opd.tmp rfl) rfl)), ⟨rfl, trivial⟩, rfl, rfl⟩, ⟨.inr ⟨(OpJ.w (J_load rfl Tryd.isAgg2 (Opd.tmp rfl))), ⟨rfl, trivial⟩, rfl, rfl⟩, ⟨.inr ⟨(OpJ.w (J_call rfl Tryd.call92 (c_spec_l01Dec hx8) (Opds.cons (Opd.tmp rfl) Opds.nil))), ⟨rfl, trivial⟩, rfl, rfl⟩, ⟨.inr ⟨(OpJ.w (J_bin rfl (Opd.tmp rfl) (Opd.tmp rfl) (B_sadd hx9))), ⟨rfl, rfl, trivial⟩, rfl, rfl⟩, ⟨.inr ⟨(OpJ.w (J_bin rfl (Opd.tmp rfl) Opd.con (B_sadd hx10))), ⟨rfl, trivial⟩, rfl, rfl⟩, ⟨.inr ⟨(OpJ.w (J_move rfl (Opd.tmp rfl))), ⟨rfl, trivial⟩, rfl, rfl⟩, ⟨.inr ⟨(OpJ.w (J_nilCheck rfl (Opd.tmp rfl))), ⟨rfl, trivial⟩, rfl, rfl⟩, ⟨.inr ⟨(OpJ.w (J_fieldAddr rfl Tryd.underlying52 rfl sz2 (by decide) (Opd.tmp rfl) rfl)), ⟨rfl, trivial⟩, rfl, rfl⟩, ⟨.inr ⟨(OpJ.w (J_load rfl Tryd.isAgg2 (Opd.tmp rfl))), ⟨rfl, trivial⟩, rfl, rfl⟩, ⟨.inr ⟨(OpJ.w (J_call rfl Tryd.call92 (c_spec_l01Dec hx11) (Opds.cons (Opd.tmp rfl) Opds.nil))), ⟨rfl, trivial⟩, rfl, rfl⟩, ⟨.inr ⟨(OpJ.w (J_bin rfl (Opd.tmp rfl) (Opd.tmp rfl) (B_sadd hx12))), ⟨rfl, rfl, trivial⟩, rfl, rfl⟩, trivial⟩⟩⟩⟩⟩⟩⟩⟩⟩⟩⟩⟩⟩⟩⟩⟩⟩⟩⟩⟩⟩⟩⟩⟩⟩⟩⟩⟩⟩⟩⟩⟩ ?_
  refine RegL.pure (p := (pEq (.string x12))) rfl rfl rfl (J_assign rfl (Opd.tmp rfl)) ?_
  refine RegL.nil ?_
  refine Ct.then_tr ?_
  refine Tr.weak (Γ' := [(2, (pEq (.string x12)))]) ⟨rfl, trivial⟩ ?_
  refine Tr.ret ?_
  replace h := Option.some.inj h; subst h
  exact Ct.retH1 (Ωx := []) () rfl (RvOk.tmp rfl) rfl

theorem c_spec_BandText {b_0 : GBand} {r : ByteArray} (h : m_spec_BandText b_0 = some r) : CallJ Tryd.prog 29 [(pAgg (cGBand b_0))] (pEq (.string r)) := by
  unfold m_spec_BandText at h
  refine CallJ.enterH Tryd.func29 rfl Tryd.ntmps29 rfl fun W I0 H => ?_
  refine Tr.weak (Γ' := [(0, (pAgg (cGBand b_0)))]) ⟨rfl, trivial⟩ ?_
  refine Tr.seq ?_
  refine Tr.region ?_
  refine RegL.pure (p := (pPtr (cGBand b_0))) rfl rfl rfl (J_boxA rfl (Opd.tmp rfl)) ?_
  refine RegL.pure (p := (pEq (.string (ByteArray.mk #[])))) rfl rfl rfl (J_assign rfl Opd.con) ?_
  refine RegL.nil ?_
  refine Ct.then_tr ?_
  refine Tr.weak (Γ' := [(1, (pPtr (cGBand b_0)))]) ⟨rfl, trivial⟩ ?_
  refine Tr.seq ?_
  refine Tr.seq ?_
  refine Tr.region ?_
  replace h := bind_some h; obtain ⟨x1, hx1, h⟩ := h
  refine RegL.pure (p := (pEq (.bool x1))) rfl rfl rfl (J_call rfl Tryd.call58 (c_spec_l15Ok hx1) (Opds.cons (Opd.tmp rfl) Opds.nil)) ?_
  refine RegL.pure (p := (pEq (.bool (!x1)))) rfl rfl rfl (J_not rfl (Opd.tmp rfl)) ?_
  refine RegL.nil ?_
  refine Ct.then_tr ?_
  refine Tr.weak (Γ' := [(1, (pPtr (cGBand b_0))), (4, (pEq (.bool (!x1))))]) ⟨rfl, rfl, trivial⟩ ?_
  refine Tr.cond (Opd.tmp rfl) (fun hc => ?_) (fun hc => ?_)
  · replace h := bif_t hc h
    refine Tr.seq ?_
    refine Tr.region ?_
    refine RegL.pure (p := (pEq (.string (ByteArray.mk #[])))) rfl rfl rfl (J_assign rfl Opd.con) ?_
    refine RegL.nil ?_
    refine Ct.then_tr ?_
    refine Tr.weak (Γ' := [(2, (pEq (.string (ByteArray.mk #[]))))]) ⟨rfl, trivial⟩ ?_
    refine Tr.ret ?_
    refine Ct.then_ret ?_
    replace h := Option.some.inj h; subst h
    exact Ct.retH1 (Ωx := []) () rfl (RvOk.tmp rfl) rfl
  · replace h := bif_f hc h
    refine Tr.skip ?_
    refine Ct.then_tr ?_
    refine Tr.weak (Γ' := [(1, (pPtr (cGBand b_0)))]) ⟨rfl, trivial⟩ ?_
    refine Tr.seq ?_
    refine Tr.region ?_
    replace h := bind_some h; obtain ⟨x2, hx2, h⟩ := h
    refine RegL.pure (p := (pEq (.string x2))) rfl rfl rfl (J_call rfl Tryd.call59 (c_spec_l15Text hx2) (Opds.cons (Opd.tmp rfl) Opds.nil)) ?_
    refine RegL.pure (p := (pEq (.string x2))) rfl rfl rfl (J_assign rfl (Opd.tmp rfl)) ?_
    refine RegL.nil ?_
    refine Ct.then_tr ?_
    refine Tr.weak (Γ' := [(2, (pEq (.string x2)))]) ⟨rfl, trivial⟩ ?_
    refine Tr.ret ?_
    replace h := Option.some.inj h; subst h
    exact Ct.retH1 (Ωx := []) () rfl (RvOk.tmp rfl) rfl

theorem c_impl_onlyNameBytes {s_0 : ByteArray} {r : Bool} (h : m_impl_onlyNameBytes s_0 = some r) : CallJ Tryd.prog 114 [(pEq (.string s_0))] (pEq (.bool r)) := by
  unfold m_impl_onlyNameBytes at h
  refine CallJ.enterH Tryd.func114 rfl Tryd.ntmps114 rfl fun W I0 H => ?_
  refine Tr.weak (Γ' := [(0, (pEq (.string s_0)))]) ⟨rfl, trivial⟩ ?_
  refine Tr.seq ?_
  refine Tr.region ?_
  refine RegL.pure (p := (pEq (.bool false))) rfl rfl rfl (J_assign rfl Opd.con) ?_
  refine RegL.nil ?_
  refine Ct.then_tr ?_
  refine Tr.weak (Γ' := [(0, (pEq (.string s_0)))]) ⟨rfl, trivial⟩ ?_
  refine Tr.seq ?_
  refine Tr.seq ?_
  refine Tr.region ?_
  refine RegL.pure (p := (pEq (.string s_0))) rfl rfl rfl (J_move rfl (Opd.tmp rfl)) ?_
  refine RegL.pure (p := (pEq (.int .i64 (s_0.size : Int)))) rfl rfl rfl (J_slen rfl Tryd.underlying9 (Opd.tmp rfl) rfl) ?_
  refine RegL.pure (p := (pEq (.int .i64 (0 : Int)))) rfl rfl rfl (J_move rfl Opd.con) ?_
  refine RegL.nil ?_
  refine Ct.then_tr ?_
  refine Tr.weak (Γ' := [(0, (pEq (.string s_0))), (6, (pEq (.int .i64 (s_0.size : Int)))), (7, (pEq (.int .i64 (0 : Int))))]) ⟨rfl, rfl, rfl, trivial⟩ ?_
  refine Tr.block ?_
  refine Tr.weak (Γ' := [(0, (pEq (.string s_0))), (6, (pEq (.int .i64 (s_0.size : Int)))), (7, (pEq (.int .i64 (0 : Int))))]) ⟨rfl, rfl, rfl, trivial⟩ ?_
  refine Tr.loop (γ := Unit) (σ := Int) (Γσ := fun s g => [(0, (pEq (.string s_0))), (6, (pEq (.int .i64 (s_0.size : Int)))), (7, (pEq (.int .i64 s)))]) (Ωσ := fun s g => []) (g := ()) h ?_
  clear h
  rintro v2 g3 t h
  replace h : m_impl_onlyNameBytes_B1 s_0 v2 = some t := h
  unfold m_impl_onlyNameBytes_B1 at h
  refine Tr.weakO (Γ' := [(0, (pEq (.string s_0))), (6, (pEq (.int .i64 (s_0.size : Int)))), (7, (pEq (.int .i64 v2)))]) (Ω' := []) rfl ⟨rfl, rfl, rfl, trivial⟩ ?_
  refine Tr.seq ?_
  refine Tr.region ?_
  refine RegL.pure (p := (pEq (.bool (decide (v2 < (s_0.size : Int)))))) rfl rfl rfl (J_bin rfl (Opd.tmp rfl) (Opd.tmp rfl) B_lss) ?_
  refine RegL.nil ?_
  refine Ct.then_tr ?_
  refine Tr.weak (Γ' := [(0, (pEq (.string s_0))), (6, (pEq (.int .i64 (s_0.size : Int)))), (7, (pEq (.int .i64 v2))), (8, (pEq (.bool (decide (v2 < (s_0.size : Int))))))]) ⟨rfl, rfl, rfl, rfl, trivial⟩ ?_
  refine Tr.seq ?_
  refine Tr.cond (Opd.tmp rfl) (fun hc => ?_) (fun hc => ?_)
  · replace h := bif_t hc h
    refine Tr.skip ?_
    refine Ct.then_tr ?_
    refine Tr.weak (Γ' := [(0, (pEq (.string s_0))), (6, (pEq (.int .i64 (s_0.size : Int)))), (7, (pEq (.int .i64 v2)))]) ⟨rfl, rfl, rfl, trivial⟩ ?_
    refine Tr.seq ?_
    refine Tr.block ?_
    refine Tr.seq ?_
    refine Tr.region ?_
    refine RegL.pure (p := (pEq (.int .i64 v2))) rfl rfl rfl (J_move rfl (Opd.tmp rfl)) ?_
    refine RegL.pure (p := (pEq (.int .i64 v2))) rfl rfl rfl (J_assign rfl (Opd.tmp rfl)) ?_
    refine RegL.nil ?_
    refine Ct.then_tr ?_
    refine Tr.weak (Γ' := [(0, (pEq (.string s_0))), (3, (pEq (.int .i64 v2))), (6, (pEq (.int .i64 (s_0.size : Int)))), (7, (pEq (.int .i64 v2)))]) ⟨rfl, rfl, rfl, rfl, trivial⟩ ?_
    refine Tr.seq ?_
    refine Tr.region ?_
    refine RegL.pure (p := (pEq (.string s_0))) rfl rfl rfl (J_move rfl (Opd.tmp rfl)) ?_
    refine RegL.pure (p := (pEq (.int .i64 v2))) rfl rfl rfl (J_move rfl (Opd.tmp rfl)) ?_
    replace h := bind_some h; obtain ⟨y4, hy4, h⟩ := h
    refine RegL.pure (p := (pEq (.int .u8 (y4.toNat : Int)))) rfl rfl rfl (J_sidx rfl Tryd.underlying9 (Opd.tmp rfl) (Opd.tmp rfl) hy4) ?_
    refine RegL.pure (p := (pEq (.int .u8 (y4.toNat : Int)))) rfl rfl rfl (J_assign rfl (Opd.tmp rfl)) ?_
    refine RegL.nil ?_
    refine Ct.then_tr ?_
    refine Tr.weak (Γ' := [(0, (pEq (.string s_0))), (4, (pEq (.int .u8 (y4.toNat : Int)))), (6, (pEq (.int .i64 (s_0.size : Int)))), (7, (pEq (.int .i64 v2)))]) ⟨rfl, rfl, rfl, rfl, trivial⟩ ?_
    refine Tr.seq ?_
    replace h := bind_some h; obtain ⟨x5, hx5, h⟩ := h
    refine Tr.cut (γ := Unit) (Γm := fun g => [(0, (pEq (.string s_0))), (6, (pEq (.int .i64 (s_0.size : Int)))), (7, (pEq (.int .i64 v2))), (26, (pEq (.bool x5)))]) (Ωm := fun g => []) ?_ (fun g10 => ?_)
    · clear h
      have h := hx5
      clear hx5
      refine Tr.region ?_
      refine RegL.pure (p := (pEq (.int .u8 (y4.toNat : Int)))) rfl rfl rfl (J_move rfl (Opd.tmp rfl)) ?_
      refine RegL.pure (p := (pEq (.bool (decide ((y4.toNat : Int) < (97 : Int)))))) rfl rfl rfl (J_bin rfl (Opd.tmp rfl) Opd.con B_lss) ?_
      refine RegL.pure (p := (pEq (.bool (decide ((y4.toNat : Int) < (97 : Int)))))) rfl rfl rfl (J_move rfl (Opd.tmp rfl)) ?_
      rcases Bool.eq_false_or_eq_true (decide ((y4.toNat : Int) < (97 : Int))) with hc6 | hc6
      · replace h := bif_t hc6 h
        refine RegL.skipG rfl rfl rfl hc6 rfl rfl ?_
        refine RegL.skipG rfl rfl rfl hc6 rfl rfl ?_
        refine RegL.pure (p := (pEq (.bool true))) rfl rfl rfl (J_pick rfl (Opd.tmp rfl) (fun _ => Opd.con) (fun hf => absurd (hc6.symm.trans hf) (by decide))) ?_
        refine RegL.pure (p := (pEq (.bool true))) rfl rfl rfl (J_move rfl (Opd.tmp rfl)) ?_
        refine RegL.pureG (p := (pEq (.int .u8 (y4.toNat : Int)))) rfl rfl rfl rfl rfl rfl (J_move rfl (Opd.tmp rfl)) ?_
        refine RegL.pureG (p := (pEq (.bool (decide ((y4.toNat : Int) < (48 : Int)))))) rfl rfl rfl rfl rfl rfl (J_bin rfl (Opd.tmp rfl) Opd.con B_lss) ?_
        refine RegL.pureG (p := (pEq (.bool (decide ((y4.toNat : Int) < (48 : Int)))))) rfl rfl rfl rfl rfl rfl (J_move rfl (Opd.tmp rfl)) ?_
        rcases Bool.eq_false_or_eq_true (decide ((y4.toNat : Int) < (48 : Int))) with hc7 | hc7
        · replace h := bif_t hc7 h
          refine RegL.skipG rfl rfl rfl hc7 rfl rfl ?_
          refine RegL.skipG rfl rfl rfl hc7 rfl rfl ?_
          refine RegL.pureG (p := (pEq (.bool true))) rfl rfl rfl rfl rfl rfl (J_pick rfl (Opd.tmp rfl) (fun _ => Opd.con) (fun hf => absurd (hc7.symm.trans hf) (by decide))) ?_
          refine RegL.pure (p := (pEq (.bool true))) rfl rfl rfl (J_pick rfl (Opd.tmp rfl) (fun _ => (Opd.tmp rfl)) (fun hf => absurd hf (by decide))) ?_
          refine RegL.nil ?_
          replace h := Option.some.inj h; subst h
          exact Ct.mid () rfl ⟨rfl, rfl, rfl, rfl, trivial⟩
        · replace h := bif_f hc7 h
          refine RegL.pureG (p := (pEq (.int .u8 (y4.toNat : Int)))) rfl rfl rfl hc7 rfl rfl (J_move rfl (Opd.tmp rfl)) ?_
          refine RegL.pureG (p := (pEq (.bool (decide ((57 : Int) < (y4.toNat : Int)))))) rfl rfl rfl hc7 rfl rfl (J_bin rfl (Opd.tmp rfl) Opd.con B_gtr) ?_
          refine RegL.pureG (p := (pEq (.bool (decide ((57 : Int) < (y4.toNat : Int)))))) rfl rfl rfl rfl rfl rfl (J_pick rfl (Opd.tmp rfl) (fun hf => absurd (hc7.symm.trans hf) (by decide)) (fun _ => (Opd.tmp rfl))) ?_
          refine RegL.pure (p := (pEq (.bool (decide ((57 : Int) < (y4.toNat : Int)))))) rfl rfl rfl (J_pick rfl (Opd.tmp rfl) (fun _ => (Opd.tmp rfl)) (fun hf => absurd hf (by decide))) ?_
          refine RegL.nil ?_
          replace h := Option.some.inj h; subst h
          exact Ct.mid () rfl ⟨rfl, rfl, rfl, rfl, trivial⟩
      · replace h := bif_f hc6 h
        refine RegL.pureG (p := (pEq (.int .u8 (y4.toNat : Int)))) rfl rfl rfl hc6 rfl rfl (J_move rfl (Opd.tmp rfl)) ?_
        refine RegL.pureG (p := (pEq (.bool (decide ((122 : Int) < (y4.toNat : Int)))))) rfl rfl rfl hc6 rfl rfl (J_bin rfl (Opd.tmp rfl) Opd.con B_gtr) ?_
        refine RegL.pure (p := (pEq (.bool (decide ((122 : Int) < (y4.toNat : Int)))))) rfl rfl rfl (J_pick rfl (Opd.tmp rfl) (fun hf => absurd (hc6.symm.trans hf) (by decide)) (fun _ => (Opd.tmp rfl))) ?_
        refine RegL.pure (p := (pEq (.bool (decide ((122 : Int) < (y4.toNat : Int)))))) rfl rfl rfl (J_move rfl (Opd.tmp rfl)) ?_
        rcases Bool.eq_false_or_eq_true (decide ((122 : Int) < (y4.toNat : Int))) with hc8 | hc8
        · replace h := bif_t hc8 h
          refine RegL.pureG (p := (pEq (.int .u8 (y4.toNat : Int)))) rfl rfl rfl hc8 rfl rfl (J_move rfl (Opd.tmp rfl)) ?_
          refine RegL.pureG (p := (pEq (.bool (decide ((y4.toNat : Int) < (48 : Int)))))) rfl rfl rfl hc8 rfl rfl (J_bin rfl (Opd.tmp rfl) Opd.con B_lss) ?_
          refine RegL.pureG (p := (pEq (.bool (decide ((y4.toNat : Int) < (48 : Int)))))) rfl rfl rfl hc8 rfl rfl (J_move rfl (Opd.tmp rfl)) ?_
          rcases Bool.eq_false_or_eq_true (decide ((y4.toNat : Int) < (48 : Int))) with hc9 | hc9
          · replace h := bif_t hc9 h
            refine RegL.skipG rfl rfl rfl hc9 rfl rfl ?_
            refine RegL.skipG rfl rfl rfl hc9 rfl rfl ?_
            refine RegL.pureG (p := (pEq (.bool true))) rfl rfl rfl hc8 rfl rfl (J_pick rfl (Opd.tmp rfl) (fun _ => Opd.con) (fun hf => absurd (hc9.symm.trans hf) (by decide))) ?_
            refine RegL.pure (p := (pEq (.bool true))) rfl rfl rfl (J_pick rfl (Opd.tmp rfl) (fun _ => (Opd.tmp rfl)) (fun hf => absurd (hc8.symm.trans hf) (by decide))) ?_
            refine RegL.nil ?_
            replace h := Option.some.inj h; subst h
            exact Ct.mid () rfl ⟨rfl, rfl, rfl, rfl, trivial⟩
          · replace h := bif_f hc9 h
            refine RegL.pureG (p := (pEq (.int .u8 (y4.toNat : Int)))) rfl rfl rfl hc9 rfl rfl (J_move rfl (Opd.tmp rfl)) ?_
            refine RegL.pureG (p := (pEq (.bool (decide ((57 : Int) < (y4.toNat : Int)))))) rfl rfl rfl hc9 rfl rfl (J_bin rfl (Opd.tmp rfl) Opd.con B_gtr) ?_
            refine RegL.pureG (p := (pEq (.bool (decide ((57 : Int) < (y4.toNat : Int)))))) rfl rfl rfl hc8 rfl rfl (J_pick rfl (Opd.tmp rfl) (fun hf => absurd (hc9.symm.trans hf) (by decide)) (fun _ => (Opd.tmp rfl))) ?_
            refine RegL.pure (p := (pEq (.bool (decide ((57 : Int) < (y4.toNat : Int)))))) rfl rfl rfl (J_pick rfl (Opd.tmp rfl) (fun _ => (Opd.tmp rfl)) (fun hf => absurd (hc8.symm.trans hf) (by decide))) ?_
            refine RegL.nil ?_
            replace h := Option.some.inj h; subst h
            exact Ct.mid () rfl ⟨rfl, rfl, rfl, rfl, trivial⟩
        · replace h := bif_f hc8 h
          refine RegL.skipG rfl rfl rfl hc8 rfl rfl ?_
          refine RegL.skipG rfl rfl rfl hc8 rfl rfl ?_
          refine RegL.skipG rfl rfl rfl hc8 rfl rfl ?_
          refine RegL.skipU rfl rfl rfl rfl rfl ?_
          refine RegL.skipU rfl rfl rfl rfl rfl ?_
          refine RegL.skipG rfl rfl rfl hc8 rfl rfl ?_
          refine RegL.pure (p := (pEq (.bool false))) rfl rfl rfl (J_pick rfl (Opd.tmp rfl) (fun hf => absurd (hc8.symm.trans hf) (by decide)) (fun _ => Opd.con)) ?_
          refine RegL.nil ?_
          replace h := Option.some.inj h; subst h
          exact Ct.mid () rfl ⟨rfl, rfl, rfl, rfl, trivial⟩
    · clear hx5
      refine Ct.then_tr ?_
      refine Tr.weak (Γ' := [(0, (pEq (.string s_0))), (6, (pEq (.int .i64 (s_0.size : Int)))), (7, (pEq (.int .i64 v2))), (26, (pEq (.bool x5)))]) ⟨rfl, rfl, rfl, rfl, trivial⟩ ?_
      refine Tr.cond (Opd.tmp rfl) (fun hc => ?_) (fun hc => ?_)
      · replace h := bif_t hc h
        refine Tr.seq ?_
        refine Tr.region ?_
        refine RegL.pure (p := (pEq (.bool false))) rfl rfl rfl (J_assign rfl Opd.con) ?_
        refine RegL.nil ?_
        refine Ct.then_tr ?_
        refine Tr.weak (Γ' := [(2, (pEq (.bool false)))]) ⟨rfl, trivial⟩ ?_
        refine Tr.ret ?_
        refine Ct.blk_ret ?_
        refine Ct.then_ret ?_
        replace h := map_some h; obtain ⟨r1, h, rfl⟩ := h
        refine Ct.out_ret fun e => ?_
        subst e
        refine Ct.blk_ret ?_
        refine Ct.then_ret ?_
        replace h := Option.some.inj h; subst h
        exact Ct.retH1 (Ωx := []) () rfl (RvOk.tmp rfl) rfl
      · replace h := bif_f hc h
        refine Tr.skip ?_
        refine Ct.blk_normal ?_
        refine Ct.then_tr ?_
        refine Tr.weak (Γ' := [(0, (pEq (.string s_0))), (6, (pEq (.int .i64 (s_0.size : Int)))), (7, (pEq (.int .i64 v2)))]) ⟨rfl, rfl, rfl, trivial⟩ ?_
        refine Tr.region ?_
        refine RegL.pure (p := (pEq (.int .i64 (w64 (v2 + (1 : Int)))))) rfl rfl rfl (J_bin rfl (Opd.tmp rfl) Opd.con B_add) ?_
        refine RegL.pure (p := (pEq (.int .i64 (w64 (v2 + (1 : Int)))))) rfl rfl rfl (J_move rfl (Opd.tmp rfl)) ?_
        refine RegL.nil ?_
        replace h := Option.some.inj h; subst h
        exact Ct.again () rfl ⟨rfl, rfl, rfl, trivial⟩
  · replace h := bif_f hc h
    refine Tr.exit ?_
    refine Ct.then_exit ?_
    replace h := map_some h; obtain ⟨r1, h, rfl⟩ := h
    refine Ct.out_exit fun e => ?_
    subst e
    refine Ct.blk_exit ?_
    refine Ct.then_tr ?_
    refine Tr.weak (Γ' := []) trivial ?_
    refine Tr.seq ?_
    refine Tr.region ?_
    refine RegL.pure (p := (pEq (.bool true))) rfl rfl rfl (J_assign rfl Opd.con) ?_
    refine RegL.nil ?_
    refine Ct.then_tr ?_
    refine Tr.weak (Γ' := [(2, (pEq (.bool true)))]) ⟨rfl, trivial⟩ ?_
    refine Tr.ret ?_
    replace h := Option.some.inj h; subst h
    exact Ct.retH1 (Ωx := []) () rfl (RvOk.tmp rfl) rfl

theorem c_impl_IsName {s_0 : ByteArray} {r : Bool} (h : m_impl_IsName s_0 = some r) : CallJ Tryd.prog 93 [(pEq (.string s_0))] (pEq (.bool r)) := by
  unfold m_impl_IsName at h
  refine CallJ.enterH Tryd.func93 rfl Tryd.ntmps93 rfl fun W I0 H => ?_
  refine Tr.weak (Γ' := [(0, (pEq (.string s_0)))]) ⟨rfl, trivial⟩ ?_
  refine Tr.seq ?_
  refine Tr.region ?_
  refine RegL.pure (p := (pEq (.bool false))) rfl rfl rfl (J_assign rfl Opd.con) ?_
  refine RegL.nil ?_
  refine Ct.then_tr ?_
  refine Tr.weak (Γ' := [(0, (pEq (.string s_0)))]) ⟨rfl, trivial⟩ ?_
  refine Tr.seq ?_
  refine Tr.seq ?_
  replace h := bind_some h; obtain ⟨x1, hx1, h⟩ := h
  refine Tr.cut (γ := Unit) (Γm := fun g => [(0, (pEq (.string s_0))), (20, (pEq (.bool x1)))]) (Ωm := fun g => []) ?_ (fun g7 => ?_)
  · clear h
    have h := hx1
    clear hx1
    refine Tr.region ?_
    refine RegL.pure (p := (pEq (.string s_0))) rfl rfl rfl (J_move rfl (Opd.tmp rfl)) ?_
    refine RegL.pure (p := (pEq (.int .i64 (s_0.size : Int)))) rfl rfl rfl (J_slen rfl Tryd.underlying9 (Opd.tmp rfl) rfl) ?_
    refine RegL.pure (p := (pEq (.bool (decide ((s_0.size : Int) < (1 : Int)))))) rfl rfl rfl (J_bin rfl (Opd.tmp rfl) Opd.con B_lss) ?_
    refine RegL.pure (p := (pEq (.bool (decide ((s_0.size : Int) < (1 : Int)))))) rfl rfl rfl (J_move rfl (Opd.tmp rfl)) ?_
    rcases Bool.eq_false_or_eq_true (decide ((s_0.size : Int) < (1 : Int))) with hc2 | hc2
    · replace h := bif_t hc2 h
      refine RegL.skipG rfl rfl rfl hc2 rfl rfl ?_
      refine RegL.skipG rfl rfl rfl hc2 rfl rfl ?_
      refine RegL.skipG rfl rfl rfl hc2 rfl rfl ?_
      refine RegL.pure (p := (pEq (.bool true))) rfl rfl rfl (J_pick rfl (Opd.tmp rfl) (fun _ => Opd.con) (fun hf => absurd (hc2.symm.trans hf) (by decide))) ?_
      refine RegL.pure (p := (pEq (.bool true))) rfl rfl rfl (J_move rfl (Opd.tmp rfl)) ?_
      refine RegL.skipG rfl rfl rfl rfl rfl rfl ?_
      refine RegL.skipG rfl rfl rfl rfl rfl rfl ?_
      refine RegL.skipG rfl rfl rfl rfl rfl rfl ?_
      refine RegL.pure (p := (pEq (.bool true))) rfl rfl rfl (J_pick rfl (Opd.tmp rfl) (fun _ => Opd.con) (fun hf => absurd hf (by decide))) ?_
      refine RegL.pure (p := (pEq (.bool true))) rfl rfl rfl (J_move rfl (Opd.tmp rfl)) ?_
      refine RegL.skipG rfl rfl rfl rfl rfl rfl ?_
      refine RegL.skipG rfl rfl rfl rfl rfl rfl ?_
      refine RegL.skipG rfl rfl rfl rfl rfl rfl ?_
      refine RegL.pure (p := (pEq (.bool true))) rfl rfl rfl (J_pick rfl (Opd.tmp rfl) (fun _ => Opd.con) (fun hf => absurd hf (by decide))) ?_
      refine RegL.nil ?_
      replace h := Option.some.inj h; subst h
      exact Ct.mid () rfl ⟨rfl, rfl, trivial⟩
    · replace h := bif_f hc2 h
      refine RegL.pureG (p := (pEq (.string s_0))) rfl rfl rfl hc2 rfl rfl (J_move rfl (Opd.tmp rfl)) ?_
      refine RegL.pureG (p := (pEq (.int .i64 (s_0.size : Int)))) rfl rfl rfl hc2 rfl rfl (J_slen rfl Tryd.underlying9 (Opd.tmp rfl) rfl) ?_
      refine RegL.pureG (p := (pEq (.bool (decide ((10 : Int) < (s_0.size : Int)))))) rfl rfl rfl hc2 rfl rfl (J_bin rfl (Opd.tmp rfl) Opd.con B_gtr) ?_
      refine RegL.pure (p := (pEq (.bool (decide ((10 : Int) < (s_0.size : Int)))))) rfl rfl rfl (J_pick rfl (Opd.tmp rfl) (fun hf => absurd (hc2.symm.trans hf) (by decide)) (fun _ => (Opd.tmp rfl))) ?_
      refine RegL.pure (p := (pEq (.bool (decide ((10 : Int) < (s_0.size : Int)))))) rfl rfl rfl (J_move rfl (Opd.tmp rfl)) ?_
      rcases Bool.eq_false_or_eq_true (decide ((10 : Int) < (s_0.size : Int))) with hc3 | hc3
      · replace h := bif_t hc3 h
        refine RegL.skipG rfl rfl rfl hc3 rfl rfl ?_
        refine RegL.skipG rfl rfl rfl hc3 rfl rfl ?_
        refine RegL.skipG rfl rfl rfl hc3 rfl rfl ?_
        refine RegL.pure (p := (pEq (.bool true))) rfl rfl rfl (J_pick rfl (Opd.tmp rfl) (fun _ => Opd.con) (fun hf => absurd (hc3.symm.trans hf) (by decide))) ?_
        refine RegL.pure (p := (pEq (.bool true))) rfl rfl rfl (J_move rfl (Opd.tmp rfl)) ?_
        refine RegL.skipG rfl rfl rfl rfl rfl rfl ?_
        refine RegL.skipG rfl rfl rfl rfl rfl rfl ?_
        refine RegL.skipG rfl rfl rfl rfl rfl rfl ?_
        refine RegL.pure (p := (pEq (.bool true))) rfl rfl rfl (J_pick rfl (Opd.tmp rfl) (fun _ => Opd.con) (fun hf => absurd hf (by decide))) ?_
        refine RegL.nil ?_
        replace h := Option.some.inj h; subst h
        exact Ct.mid () rfl ⟨rfl, rfl, trivial⟩
      · replace h := bif_f hc3 h
        refine RegL.pureG (p := (pEq (.string s_0))) rfl rfl rfl hc3 rfl rfl (J_move rfl (Opd.tmp rfl)) ?_
        replace h := bind_some h; obtain ⟨y4, hy4, h⟩ := h
        refine RegL.pureG (p := (pEq (.int .u8 (y4.toNat : Int)))) rfl rfl rfl hc3 rfl rfl (J_sidx rfl Tryd.underlying9 (Opd.tmp rfl) Opd.con hy4) ?_
        refine RegL.pureG (p := (pEq (.bool (decide ((y4.toNat : Int) < (97 : Int)))))) rfl rfl rfl hc3 rfl rfl (J_bin rfl (Opd.tmp rfl) Opd.con B_lss) ?_
        refine RegL.pure (p := (pEq (.bool (decide ((y4.toNat : Int) < (97 : Int)))))) rfl rfl rfl (J_pick rfl (Opd.tmp rfl) (fun hf => absurd (hc3.symm.trans hf) (by decide)) (fun _ => (Opd.tmp rfl))) ?_
        refine RegL.pure (p := (pEq (.bool (decide ((y4.toNat : Int) < (97 : Int)))))) rfl rfl rfl (J_move rfl (Opd.tmp rfl)) ?_
        rcases Bool.eq_false_or_eq_true (decide ((y4.toNat : Int) < (97 : Int))) with hc5 | hc5
        · replace h := bif_t hc5 h
          refine RegL.skipG rfl rfl rfl hc5 rfl rfl ?_
          refine RegL.skipG rfl rfl rfl hc5 rfl rfl ?_
          refine RegL.skipG rfl rfl rfl hc5 rfl rfl ?_
          refine RegL.pure (p := (pEq (.bool true))) rfl rfl rfl (J_pick rfl (Opd.tmp rfl) (fun _ => Opd.con) (fun hf => absurd (hc5.symm.trans hf) (by decide))) ?_
          refine RegL.nil ?_
          replace h := Option.some.inj h; subst h
          exact Ct.mid () rfl ⟨rfl, rfl, trivial⟩
        · replace h := bif_f hc5 h
          refine RegL.pureG (p := (pEq (.string s_0))) rfl rfl rfl hc5 rfl rfl (J_move rfl (Opd.tmp rfl)) ?_
          replace h := bind_some h; obtain ⟨y6, hy6, h⟩ := h
          refine RegL.pureG (p := (pEq (.int .u8 (y6.toNat : Int)))) rfl rfl rfl hc5 rfl rfl (J_sidx rfl Tryd.underlying9 (Opd.tmp rfl) Opd.con hy6) ?_
          refine RegL.pureG (p := (pEq (.bool (decide ((122 : Int) < (y6.toNat : Int)))))) rfl rfl rfl hc5 rfl rfl (J_bin rfl (Opd.tmp rfl) Opd.con B_gtr) ?_
          refine RegL.pure (p := (pEq (.bool (decide ((122 : Int) < (y6.toNat : Int)))))) rfl rfl rfl (J_pick rfl (Opd.tmp rfl) (fun hf => absurd (hc5.symm.trans hf) (by decide)) (fun _ => (Opd.tmp rfl))) ?_
          refine RegL.nil ?_
          replace h := Option.some.inj h; subst h
          exact Ct.mid () rfl ⟨rfl, rfl, trivial⟩
  · clear hx1
    refine Ct.then_tr ?_
    refine Tr.weak (Γ' := [(0, (pEq (.string s_0))), (20, (pEq (.bool x1)))]) ⟨rfl, rfl, trivial⟩ ?_
    refine Tr.cond (Opd.tmp rfl) (fun hc => ?_) (fun hc => ?_)
    · replace h := bif_t hc h
      refine Tr.seq ?_
      refine Tr.region ?_
      refine RegL.pure (p := (pEq (.bool false))) rfl rfl rfl (J_assign rfl Opd.con) ?_
      refine RegL.nil ?_
      refine Ct.then_tr ?_
      refine Tr.weak (Γ' := [(2, (pEq (.bool false)))]) ⟨rfl, trivial⟩ ?_
      refine Tr.ret ?_
      refine Ct.then_ret ?_
      replace h := Option.some.inj h; subst h
      exact Ct.retH1 (Ωx := []) () rfl (RvOk.tmp rfl) rfl
    · replace h := bif_f hc h
      refine Tr.skip ?_
      refine Ct.then_tr ?_
      refine Tr.weak (Γ' := [(0, (pEq (.string s_0)))]) ⟨rfl, trivial⟩ ?_
      refine Tr.seq ?_
      refine Tr.region ?_
      refine RegL.pure (p := (pEq (.string s_0))) rfl rfl rfl (J_move rfl (Opd.tmp rfl)) ?_
      replace h := bind_some h; obtain ⟨x8, hx8, h⟩ := h
      refine RegL.pure (p := (pEq (.bool x8))) rfl rfl rfl (J_call rfl Tryd.call114 (c_impl_onlyNameBytes hx8) (Opds.cons (Opd.tmp rfl) Opds.nil)) ?_
      refine RegL.pure (p := (pEq (.bool x8))) rfl rfl rfl (J_assign rfl (Opd.tmp rfl)) ?_
      refine RegL.nil ?_
      refine Ct.then_tr ?_
      refine Tr.weak (Γ' := [(2, (pEq (.bool x8)))]) ⟨rfl, trivial⟩ ?_
      refine Tr.ret ?_
      replace h := Option.some.inj h; subst h
      exact Ct.retH1 (Ωx := []) () rfl (RvOk.tmp rfl) rfl

theorem c_impl_within {n_0 : Int} {low_1 : Int} {high_2 : Int} {r : Bool} (h : m_impl_within n_0 low_1 high_2 = some r) : CallJ Tryd.prog 57 [(pEq (.int .i64 n_0)), (pEq (.int .i64 low_1)), (pEq (.int .i64 high_2))] (pEq (.bool r)) := by
  unfold m_impl_within at h
  refine CallJ.enterH Tryd.func57 rfl Tryd.ntmps57 rfl fun W I0 H => ?_
  refine Tr.weak (Γ' := [(0, (pEq (.int .i64 n_0))), (1, (pEq (.int .i64 low_1))), (2, (pEq (.int .i64 high_2)))]) ⟨rfl, rfl, rfl, trivial⟩ ?_
  refine Tr.seq ?_
  refine Tr.region ?_
  refine RegL.pure (p := (pEq (.bool false))) rfl rfl rfl (J_assign rfl Opd.con) ?_
  refine RegL.nil ?_
  refine Ct.then_tr ?_
  refine Tr.weak (Γ' := [(0, (pEq (.int .i64 n_0))), (1, (pEq (.int .i64 low_1))), (2, (pEq (.int .i64 high_2)))]) ⟨rfl, rfl, rfl, trivial⟩ ?_
  refine Tr.seq ?_
  replace h := bind_some h; obtain ⟨x1, hx1, h⟩ := h
  refine Tr.cut (γ := Unit) (Γm := fun g => [(6, (pEq (.bool x1)))]) (Ωm := fun g => []) ?_ (fun g3 => ?_)
  · clear h
    have h := hx1
    clear hx1
    refine Tr.region ?_
    refine RegL.pure (p := (pEq (.int .i64 n_0))) rfl rfl rfl (J_move rfl (Opd.tmp rfl)) ?_
    refine RegL.pure (p := (pEq (.int .i64 low_1))) rfl rfl rfl (J_move rfl (Opd.tmp rfl)) ?_
    refine RegL.pure (p := (pEq (.bool (decide (low_1 ≤ n_0))))) rfl rfl rfl (J_bin rfl (Opd.tmp rfl) (Opd.tmp rfl) B_geq) ?_
    refine RegL.pure (p := (pEq (.bool (decide (low_1 ≤ n_0))))) rfl rfl rfl (J_move rfl (Opd.tmp rfl)) ?_
    rcases Bool.eq_false_or_eq_true (decide (low_1 ≤ n_0)) with hc2 | hc2
    · replace h := bif_t hc2 h
      refine RegL.pureG (p := (pEq (.int .i64 n_0))) rfl rfl rfl hc2 rfl rfl (J_move rfl (Opd.tmp rfl)) ?_
      refine RegL.pureG (p := (pEq (.int .i64 high_2))) rfl rfl rfl hc2 rfl rfl (J_move rfl (Opd.tmp rfl)) ?_
      refine RegL.pureG (p := (pEq (.bool (decide (n_0 ≤ high_2))))) rfl rfl rfl hc2 rfl rfl (J_bin rfl (Opd.tmp rfl) (Opd.tmp rfl) B_leq) ?_
      refine RegL.pure (p := (pEq (.bool (decide (n_0 ≤ high_2))))) rfl rfl rfl (J_pick rfl (Opd.tmp rfl) (fun _ => (Opd.tmp rfl)) (fun hf => absurd (hc2.symm.trans hf) (by decide))) ?_
      refine RegL.pure (p := (pEq (.bool (decide (n_0 ≤ high_2))))) rfl rfl rfl (J_assign rfl (Opd.tmp rfl)) ?_
      refine RegL.nil ?_
      replace h := Option.some.inj h; subst h
      exact Ct.mid () rfl ⟨rfl, trivial⟩
    · replace h := bif_f hc2 h
      refine RegL.skipG rfl rfl rfl hc2 rfl rfl ?_
      refine RegL.skipG rfl rfl rfl hc2 rfl rfl ?_
      refine RegL.skipG rfl rfl rfl hc2 rfl rfl ?_
      refine RegL.pure (p := (pEq (.bool false))) rfl rfl rfl (J_pick rfl (Opd.tmp rfl) (fun hf => absurd (hc2.symm.trans hf) (by decide)) (fun _ => Opd.con)) ?_
      refine RegL.pure (p := (pEq (.bool false))) rfl rfl rfl (J_assign rfl (Opd.tmp rfl)) ?_
      refine RegL.nil ?_
      replace h := Option.some.inj h; subst h
      exact Ct.mid () rfl ⟨rfl, trivial⟩
  · clear hx1
    refine Ct.then_tr ?_
    refine Tr.weak (Γ' := [(6, (pEq (.bool x1)))]) ⟨rfl, trivial⟩ ?_
    refine Tr.ret ?_
    replace h := Option.some.inj h; subst h
    exact Ct.retH1 (Ωx := []) () rfl (RvOk.tmp rfl) rfl

theorem c_impl_Band_count {b_0 : GBand} {r : Int} (h : m_impl_Band_count b_0 = some r) : CallJ Tryd.prog 94 [(pAgg (cGBand b_0))] (pEq (.int .i64 r)) := by
  unfold m_impl_Band_count at h
  refine CallJ.enterH Tryd.func94 rfl Tryd.ntmps94 rfl fun W I0 H => ?_
  refine Tr.weak (Γ' := [(0, (pAgg (cGBand b_0)))]) ⟨rfl, trivial⟩ ?_
  refine Tr.seq ?_
  refine Tr.region ?_
  refine RegL.pure (p := (pPtr (cGBand b_0))) rfl rfl rfl (J_boxA rfl (Opd.tmp rfl)) ?_
  refine RegL.pure (p := (pEq (.int .i64 (0 : Int)))) rfl rfl rfl (J_assign rfl Opd.con) ?_
  refine RegL.nil ?_
  refine Ct.then_tr ?_
  refine Tr.weak (Γ' := [(1, (pPtr (cGBand b_0)))]) ⟨rfl, trivial⟩ ?_
  refine Tr.seq ?_
  refine Tr.region ?_
  refine RegL.pure (p := (pPtr ((cK .i64) b_0.High))) rfl rfl rfl (J_fieldAddr rfl Tryd.underlying52 rfl sz2 (by decide) (Opd.tmp rfl) rfl) ?_
  refine RegL.pure (p := (pEq (.int .i64 b_0.High))) rfl rfl rfl (J_load rfl Tryd.isAgg2 (Opd.tmp rfl)) ?_
  refine RegL.pure (p := (pPtr ((cK .i64) b_0.Low))) rfl rfl rfl (J_fieldAddr rfl Tryd.underlying52 rfl sz2 (by decide) (Opd.tmp rfl) rfl) ?_
  refine RegL.pure (p := (pEq (.int .i64 b_0.Low))) rfl rfl rfl (J_load rfl Tryd.isAgg2 (Opd.tmp rfl)) ?_
  refine RegL.pure (p := (pEq (.int .i64 (w64 (b_0.High - b_0.Low))))) rfl rfl rfl (J_bin rfl (Opd.tmp rfl) (Opd.tmp rfl) B_sub) ?_
  refine RegL.pure (p := (pPtr ((cK .i64) b_0.Raster))) rfl rfl rfl (J_fieldAddr rfl Tryd.underlying52 rfl sz2 (by decide) (Opd.tmp rfl) rfl) ?_
  refine RegL.pure (p := (pEq (.int .i64 b_0.Raster))) rfl rfl rfl (J_load rfl Tryd.isAgg2 (Opd.tmp rfl)) ?_
  replace h := bind_some h; obtain ⟨x1, hx1, h⟩ := h
  refine RegL.pure (p := (pEq (.int .i64 x1))) rfl rfl rfl (J_bin rfl (Opd.tmp rfl) (Opd.tmp rfl) (B_qdiv hx1)) ?_
  refine RegL.pure (p := (pEq (.int .i64 x1))) rfl rfl rfl (J_assign rfl (Opd.tmp rfl)) ?_
  refine RegL.nil ?_
  refine Ct.then_tr ?_
  refine Tr.weak (Γ' := [(2, (pEq (.int .i64 x1)))]) ⟨rfl, trivial⟩ ?_
  refine Tr.ret ?_
  replace h := Option.some.inj h; subst h
  exact Ct.retH1 (Ωx := []) () rfl (RvOk.tmp rfl) rfl

theorem c_impl_ValidBand {b_0 : GBand} {r : Bool} (h : m_impl_ValidBand b_0 = some r) : CallJ Tryd.prog 60 [(pAgg (cGBand b_0))] (pEq (.bool r)) := by
  unfold m_impl_ValidBand at h
  refine CallJ.enterH Tryd.func60 rfl Tryd.ntmps60 rfl fun W I0 H => ?_
  refine Tr.weak (Γ' := [(0, (pAgg (cGBand b_0)))]) ⟨rfl, trivial⟩ ?_
  refine Tr.seq ?_
  refine Tr.region ?_
  refine RegL.pure (p := (pPtr (cGBand b_0))) rfl rfl rfl (J_boxA rfl (Opd.tmp rfl)) ?_
  refine RegL.pure (p := (pEq (.bool false))) rfl rfl rfl (J_assign rfl Opd.con) ?_
  refine RegL.nil ?_
  refine Ct.then_tr ?_
  refine Tr.weak (Γ' := [(1, (pPtr (cGBand b_0)))]) ⟨rfl, trivial⟩ ?_
  refine Tr.seq ?_
  refine Tr.seq ?_
  replace h := bind_some h; obtain ⟨x1, hx1, h⟩ := h
  refine Tr.cut (γ := Unit) (Γm := fun g => [(1, (pPtr (cGBand b_0))), (32, (pEq (.bool x1)))]) (Ωm := fun g => []) ?_ (fun g12 => ?_)
  · clear h
    have h := hx1
    clear hx1
    refine Tr.region ?_
    refine RegL.pure (p := (pPtr (cS b_0.Name))) rfl rfl rfl (J_fieldAddr rfl Tryd.underlying52 rfl sz9 (by decide) (Opd.tmp rfl) rfl) ?_
    refine RegL.pure (p := (pEq (.string b_0.Name))) rfl rfl rfl (J_load rfl Tryd.isAgg9 (Opd.tmp rfl)) ?_
    replace h := bind_some h; obtain ⟨x2, hx2, h⟩ := h
    refine RegL.pure (p := (pEq (.bool x2))) rfl rfl rfl (J_call rfl Tryd.call93 (c_impl_IsName hx2) (Opds.cons (Opd.tmp rfl) Opds.nil)) ?_
    refine RegL.pure (p := (pEq (.bool (!x2)))) rfl rfl rfl (J_not rfl (Opd.tmp rfl)) ?_
    refine RegL.pure (p := (pEq (.bool (!x2)))) rfl rfl rfl (J_move rfl (Opd.tmp rfl)) ?_
    rcases Bool.eq_false_or_eq_true (!x2) with hc3 | hc3
    · replace h := bif_t hc3 h
      refine RegL.skipG rfl rfl rfl hc3 rfl rfl ?_
      refine RegL.skipG rfl rfl rfl hc3 rfl rfl ?_
      refine RegL.skipG rfl rfl rfl hc3 rfl rfl ?_
      refine RegL.skipG rfl rfl rfl hc3 rfl rfl ?_
      refine RegL.pure (p := (pEq (.bool true))) rfl rfl rfl (J_pick rfl (Opd.tmp rfl) (fun _ => Opd.con) (fun hf => absurd (hc3.symm.trans hf) (by decide))) ?_
      refine RegL.pure (p := (pEq (.bool true))) rfl rfl rfl (J_move rfl (Opd.tmp rfl)) ?_
      refine RegL.skipG rfl rfl rfl rfl rfl rfl ?_
      refine RegL.skipG rfl rfl rfl rfl rfl rfl ?_
      refine RegL.skipG rfl rfl rfl rfl rfl rfl ?_
      refine RegL.skipG rfl rfl rfl rfl rfl rfl ?_
      refine RegL.skipG rfl rfl rfl rfl rfl rfl ?_
      refine RegL.skipG rfl rfl rfl rfl rfl rfl ?_
      refine RegL.pure (p := (pEq (.bool true))) rfl rfl rfl (J_pick rfl (Opd.tmp rfl) (fun _ => Opd.con) (fun hf => absurd hf (by decide))) ?_
      refine RegL.pure (p := (pEq (.bool true))) rfl rfl rfl (J_move rfl (Opd.tmp rfl)) ?_
      refine RegL.skipG rfl rfl rfl rfl rfl rfl ?_
      refine RegL.skipG rfl rfl rfl rfl rfl rfl ?_
      refine RegL.skipG rfl rfl rfl rfl rfl rfl ?_
      refine RegL.skipG rfl rfl rfl rfl rfl rfl ?_
      refine RegL.pure (p := (pEq (.bool true))) rfl rfl rfl (J_pick rfl (Opd.tmp rfl) (fun _ => Opd.con) (fun hf => absurd hf (by decide))) ?_
      refine RegL.pure (p := (pEq (.bool true))) rfl rfl rfl (J_move rfl (Opd.tmp rfl)) ?_
      refine RegL.skipG rfl rfl rfl rfl rfl rfl ?_
      refine RegL.skipG rfl rfl rfl rfl rfl rfl ?_
      refine RegL.skipG rfl rfl rfl rfl rfl rfl ?_
      refine RegL.skipG rfl rfl rfl rfl rfl rfl ?_
      refine RegL.pure (p := (pEq (.bool true))) rfl rfl rfl (J_pick rfl (Opd.tmp rfl) (fun _ => Opd.con) (fun hf => absurd hf (by decide))) ?_
      refine RegL.nil ?_
      replace h := Option.some.inj h; subst h
      exact Ct.mid () rfl ⟨rfl, rfl, trivial⟩
    · replace h := bif_f hc3 h
      refine RegL.pureG (p := (pPtr ((cK .i64) b_0.Low))) rfl rfl rfl hc3 rfl rfl (J_fieldAddr rfl Tryd.underlying52 rfl sz2 (by decide) (Opd.tmp rfl) rfl) ?_
      refine RegL.pureG (p := (pEq (.int .i64 b_0.Low))) rfl rfl rfl hc3 rfl rfl (J_load rfl Tryd.isAgg2 (Opd.tmp rfl)) ?_
      replace h := bind_some h; obtain ⟨x4, hx4, h⟩ := h
      refine RegL.pureG (p := (pEq (.bool x4))) rfl rfl rfl hc3 rfl rfl (J_call rfl Tryd.call57 (c_impl_within hx4) (Opds.cons (Opd.tmp rfl) (Opds.cons Opd.con (Opds.cons Opd.con Opds.nil)))) ?_
      refine RegL.pureG (p := (pEq (.bool (!x4)))) rfl rfl rfl hc3 rfl rfl (J_not rfl (Opd.tmp rfl)) ?_
      refine RegL.pure (p := (pEq (.bool (!x4)))) rfl rfl rfl (J_pick rfl (Opd.tmp rfl) (fun hf => absurd (hc3.symm.trans hf) (by decide)) (fun _ => (Opd.tmp rfl))) ?_
      refine RegL.pure (p := (pEq (.bool (!x4)))) rfl rfl rfl (J_move rfl (Opd.tmp rfl)) ?_
      rcases Bool.eq_false_or_eq_true (!x4) with hc5 | hc5
      · replace h := bif_t hc5 h
        refine RegL.skipG rfl rfl rfl hc5 rfl rfl ?_
        refine RegL.skipG rfl rfl rfl hc5 rfl rfl ?_
        refine RegL.skipG rfl rfl rfl hc5 rfl rfl ?_
        refine RegL.skipG rfl rfl rfl hc5 rfl rfl ?_
        refine RegL.skipG rfl rfl rfl hc5 rfl rfl ?_
        refine RegL.skipG rfl rfl rfl hc5 rfl rfl ?_
        refine RegL.pure (p := (pEq (.bool true))) rfl rfl rfl (J_pick rfl (Opd.tmp rfl) (fun _ => Opd.con) (fun hf => absurd (hc5.symm.trans hf) (by decide))) ?_
        refine RegL.pure (p := (pEq (.bool true))) rfl rfl rfl (J_move rfl (Opd.tmp rfl)) ?_
        refine RegL.skipG rfl rfl rfl rfl rfl rfl ?_
        refine RegL.skipG rfl rfl rfl rfl rfl rfl ?_
        refine RegL.skipG rfl rfl rfl rfl rfl rfl ?_
        refine RegL.skipG rfl rfl rfl rfl rfl rfl ?_
        refine RegL.pure (p := (pEq (.bool true))) rfl rfl rfl (J_pick rfl (Opd.tmp rfl) (fun _ => Opd.con) (fun hf => absurd hf (by decide))) ?_
        refine RegL.pure (p := (pEq (.bool true))) rfl rfl rfl (J_move rfl (Opd.tmp rfl)) ?_
        refine RegL.skipG rfl rfl rfl rfl rfl rfl ?_
        refine RegL.skipG rfl rfl rfl rfl rfl rfl ?_
        refine RegL.skipG rfl rfl rfl rfl rfl rfl ?_
        refine RegL.skipG rfl rfl rfl rfl rfl rfl ?_
        refine RegL.pure (p := (pEq (.bool true))) rfl rfl rfl (J_pick rfl (Opd.tmp rfl) (fun _ => Opd.con) (fun hf => absurd hf (by decide))) ?_
        refine RegL.nil ?_
        replace h := Option.some.inj h; subst h
        exact Ct.mid () rfl ⟨rfl, rfl, trivial⟩
      · replace h := bif_f hc5 h
        refine RegL.pureG (p := (pPtr ((cK .i64) b_0.High))) rfl rfl rfl hc5 rfl rfl (J_fieldAddr rfl Tryd.underlying52 rfl sz2 (by decide) (Opd.tmp rfl) rfl) ?_
        refine RegL.pureG (p := (pEq (.int .i64 b_0.High))) rfl rfl rfl hc5 rfl rfl (J_load rfl Tryd.isAgg2 (Opd.tmp rfl)) ?_
        refine RegL.pureG (p := (pPtr ((cK .i64) b_0.Low))) rfl rfl rfl hc5 rfl rfl (J_fieldAddr rfl Tryd.underlying52 rfl sz2 (by decide) (Opd.tmp rfl) rfl) ?_
        refine RegL.pureG (p := (pEq (.int .i64 b_0.Low))) rfl rfl rfl hc5 rfl rfl (J_load rfl Tryd.isAgg2 (Opd.tmp rfl)) ?_
        replace h := bind_some h; obtain ⟨x6, hx6, h⟩ := h
        refine RegL.pureG (p := (pEq (.bool x6))) rfl rfl rfl hc5 rfl rfl (J_call rfl Tryd.call57 (c_impl_within hx6) (Opds.cons (Opd.tmp rfl) (Opds.cons (Opd.tmp rfl) (Opds.cons Opd.con Opds.nil)))) ?_
        refine RegL.pureG (p := (pEq (.bool (!x6)))) rfl rfl rfl hc5 rfl rfl (J_not rfl (Opd.tmp rfl)) ?_
        refine RegL.pure (p := (pEq (.bool (!x6)))) rfl rfl rfl (J_pick rfl (Opd.tmp rfl) (fun hf => absurd (hc5.symm.trans hf) (by decide)) (fun _ => (Opd.tmp rfl))) ?_
        refine RegL.pure (p := (pEq (.bool (!x6)))) rfl rfl rfl (J_move rfl (Opd.tmp rfl)) ?_
        rcases Bool.eq_false_or_eq_true (!x6) with hc7 | hc7
        · replace h := bif_t hc7 h
          refine RegL.skipG rfl rfl rfl hc7 rfl rfl ?_
          refine RegL.skipG rfl rfl rfl hc7 rfl rfl ?_
          refine RegL.skipG rfl rfl rfl hc7 rfl rfl ?_
          refine RegL.skipG rfl rfl rfl hc7 rfl rfl ?_
          refine RegL.pure (p := (pEq (.bool true))) rfl rfl rfl (J_pick rfl (Opd.tmp rfl) (fun _ => Opd.con) (fun hf => absurd (hc7.symm.trans hf) (by decide))) ?_
          refine RegL.pure (p := (pEq (.bool true))) rfl rfl rfl (J_move rfl (Opd.tmp rfl)) ?_
          refine RegL.skipG rfl rfl rfl rfl rfl rfl ?_
          refine RegL.skipG rfl rfl rfl rfl rfl rfl ?_
          refine RegL.skipG rfl rfl rfl rfl rfl rfl ?_
          refine RegL.skipG rfl rfl rfl rfl rfl rfl ?_
          refine RegL.pure (p := (pEq (.bool true))) rfl rfl rfl (J_pick rfl (Opd.tmp rfl) (fun _ => Opd.con) (fun hf => absurd hf (by decide))) ?_
          refine RegL.nil ?_
          replace h := Option.some.inj h; subst h
          exact Ct.mid () rfl ⟨rfl, rfl, trivial⟩
        · replace h := bif_f hc7 h
          refine RegL.pureG (p := (pPtr ((cK .i64) b_0.Raster))) rfl rfl rfl hc7 rfl rfl (J_fieldAddr rfl Tryd.underlying52 rfl sz2 (by decide) (Opd.tmp rfl) rfl) ?_
          refine RegL.pureG (p := (pEq (.int .i64 b_0.Raster))) rfl rfl rfl hc7 rfl rfl (J_load rfl Tryd.isAgg2 (Opd.tmp rfl)) ?_
          replace h := bind_some h; obtain ⟨x8, hx8, h⟩ := h
          refine RegL.pureG (p := (pEq (.bool x8))) rfl rfl rfl hc7 rfl rfl (J_call rfl Tryd.call57 (c_impl_within hx8) (Opds.cons (Opd.tmp rfl) (Opds.cons Opd.con (Opds.cons Opd.con Opds.nil)))) ?_
          refine RegL.pureG (p := (pEq (.bool (!x8)))) rfl rfl rfl hc7 rfl rfl (J_not rfl (Opd.tmp rfl)) ?_
          refine RegL.pure (p := (pEq (.bool (!x8)))) rfl rfl rfl (J_pick rfl (Opd.tmp rfl) (fun hf => absurd (hc7.symm.trans hf) (by decide)) (fun _ => (Opd.tmp rfl))) ?_
          refine RegL.pure (p := (pEq (.bool (!x8)))) rfl rfl rfl (J_move rfl (Opd.tmp rfl)) ?_
          rcases Bool.eq_false_or_eq_true (!x8) with hc9 | hc9
          · replace h := bif_t hc9 h
            refine RegL.skipG rfl rfl rfl hc9 rfl rfl ?_
            refine RegL.skipG rfl rfl rfl hc9 rfl rfl ?_
            refine RegL.skipG rfl rfl rfl hc9 rfl rfl ?_
            refine RegL.skipG rfl rfl rfl hc9 rfl rfl ?_
            refine RegL.pure (p := (pEq (.bool true))) rfl rfl rfl (J_pick rfl (Opd.tmp rfl) (fun _ => Opd.con) (fun hf => absurd (hc9.symm.trans hf) (by decide))) ?_
            refine RegL.nil ?_
            replace h := Option.some.inj h; subst h
            exact Ct.mid () rfl ⟨rfl, rfl, trivial⟩
          · replace h := bif_f hc9 h
            refine RegL.pureG (p := (pAgg (cGBand b_0))) rfl rfl rfl hc9 rfl rfl (J_loadA rfl Tryd.isAgg52 sz52 (Opd.tmp rfl) rfl) ?_
            replace h := bind_some h; obtain ⟨x10, hx10, h⟩ := h
            refine RegL.pureG (p := (pEq (.int .i64 x10))) rfl rfl rfl hc9 rfl rfl (J_call rfl Tryd.call94 (c_impl_Band_count hx10) (Opds.cons (Opd.tmp rfl) Opds.nil)) ?_
            replace h := bind_some h; obtain ⟨x11, hx11, h⟩ := h
            refine RegL.pureG (p := (pEq (.bool x11))) rfl rfl rfl hc9 rfl rfl (J_call rfl Tryd.call57 (c_impl_within hx11) (Opds.cons (Opd.tmp rfl) (Opds.cons Opd.con (Opds.cons Opd.con Opds.nil)))) ?_
            refine RegL.pureG (p := (pEq (.bool (!x11)))) rfl rfl rfl hc9 rfl rfl (J_not rfl (Opd.tmp rfl)) ?_
            refine RegL.pure (p := (pEq (.bool (!x11)))) rfl rfl rfl (J_pick rfl (Opd.tmp rfl) (fun hf => absurd (hc9.symm.trans hf) (by decide)) (fun _ => (Opd.tmp rfl))) ?_
            refine RegL.nil ?_
            replace h := Option.some.inj h; subst h
            exact Ct.mid () rfl ⟨rfl, rfl, trivial⟩
  · clear hx1
    refine Ct.then_tr ?_
    refine Tr.weak (Γ' := [(1, (pPtr (cGBand b_0))), (32, (pEq (.bool x1)))]) ⟨rfl, rfl, trivial⟩ ?_
    refine Tr.cond (Opd.tmp rfl) (fun hc => ?_) (fun hc => ?_)
    · replace h := bif_t hc h
      refine Tr.seq ?_
      refine Tr.region ?_
      refine RegL.pure (p := (pEq (.bool false))) rfl rfl rfl (J_assign rfl Opd.con) ?_
      refine RegL.nil ?_
      refine Ct.then_tr ?_
      refine Tr.weak (Γ' := [(2, (pEq (.bool false)))]) ⟨rfl, trivial⟩ ?_
      refine Tr.ret ?_
      refine Ct.then_ret ?_
      replace h := Option.some.inj h; subst h
      exact Ct.retH1 (Ωx := []) () rfl (RvOk.tmp rfl) rfl
    · replace h := bif_f hc h
      refine Tr.skip ?_
      refine Ct.then_tr ?_
      refine Tr.weak (Γ' := [(1, (pPtr (cGBand b_0)))]) ⟨rfl, trivial⟩ ?_
      refine Tr.seq ?_
      replace h := bind_some h; obtain ⟨x13, hx13, h⟩ := h
      refine Tr.cut (γ := Unit) (Γm := fun g => [(2, (pEq (.bool x13)))]) (Ωm := fun g => []) ?_ (fun g16 => ?_)
      · clear h
        have h := hx13
        clear hx13
        refine Tr.region ?_
        refine RegL.pure (p := (pPtr ((cK .i64) b_0.Duplex))) rfl rfl rfl (J_fieldAddr rfl Tryd.underlying52 rfl sz2 (by decide) (Opd.tmp rfl) rfl) ?_
        refine RegL.pure (p := (pEq (.int .i64 b_0.Duplex))) rfl rfl rfl (J_load rfl Tryd.isAgg2 (Opd.tmp rfl)) ?_
        refine RegL.pure (p := (pEq (.bool (b_0.Duplex == (0 : Int))))) rfl rfl rfl (J_bin rfl (Opd.tmp rfl) Opd.con B_eql) ?_
        refine RegL.pure (p := (pEq (.bool (b_0.Duplex == (0 : Int))))) rfl rfl rfl (J_move rfl (Opd.tmp rfl)) ?_
        rcases Bool.eq_false_or_eq_true (b_0.Duplex == (0 : Int)) with hc14 | hc14
        · replace h := bif_t hc14 h
          refine RegL.skipG rfl rfl rfl hc14 rfl rfl ?_
          refine RegL.skipG rfl rfl rfl hc14 rfl rfl ?_
          refine RegL.skipG rfl rfl rfl hc14 rfl rfl ?_
          refine RegL.skipG rfl rfl rfl hc14 rfl rfl ?_
          refine RegL.skipG rfl rfl rfl hc14 rfl rfl ?_
          refine RegL.skipG rfl rfl rfl hc14 rfl rfl ?_
          refine RegL.skipG rfl rfl rfl hc14 rfl rfl ?_
          refine RegL.skipG rfl rfl rfl hc14 rfl rfl ?_
          refine RegL.skipG rfl rfl rfl hc14 rfl rfl ?_
          refine RegL.skipG rfl rfl rfl hc14 rfl rfl ?_
          refine RegL.skipG rfl rfl rfl hc14 rfl rfl ?_
          refine RegL.pure (p := (pEq (.bool true))) rfl rfl rfl (J_pick rfl (Opd.tmp rfl) (fun _ => Opd.con) (fun hf => absurd (hc14.symm.trans hf) (by decide))) ?_
          refine RegL.pure (p := (pEq (.bool true))) rfl rfl rfl (J_assign rfl (Opd.tmp rfl)) ?_
          refine RegL.nil ?_
          replace h := Option.some.inj h; subst h
          exact Ct.mid () rfl ⟨rfl, trivial⟩
        · replace h := bif_f hc14 h
          refine RegL.pureG (p := (pPtr ((cK .i64) b_0.Duplex))) rfl rfl rfl hc14 rfl rfl (J_fieldAddr rfl Tryd.underlying52 rfl sz2 (by decide) (Opd.tmp rfl) rfl) ?_
          refine RegL.pureG (p := (pEq (.int .i64 b_0.Duplex))) rfl rfl rfl hc14 rfl rfl (J_load rfl Tryd.isAgg2 (Opd.tmp rfl)) ?_
          refine RegL.pureG (p := (pPtr ((cK .i64) b_0.High))) rfl rfl rfl hc14 rfl rfl (J_fieldAddr rfl Tryd.underlying52 rfl sz2 (by decide) (Opd.tmp rfl) rfl) ?_
          refine RegL.pureG (p := (pEq (.int .i64 b_0.High))) rfl rfl rfl hc14 rfl rfl (J_load rfl Tryd.isAgg2 (Opd.tmp rfl)) ?_
          refine RegL.pureG (p := (pPtr ((cK .i64) b_0.Low))) rfl rfl rfl hc14 rfl rfl (J_fieldAddr rfl Tryd.underlying52 rfl sz2 (by decide) (Opd.tmp rfl) rfl) ?_
          refine RegL.pureG (p := (pEq (.int .i64 b_0.Low))) rfl rfl rfl hc14 rfl rfl (J_load rfl Tryd.isAgg2 (Opd.tmp rfl)) ?_
          refine RegL.pureG (p := (pEq (.int .i64 (w64 (b_0.High - b_0.Low))))) rfl rfl rfl hc14 rfl rfl (J_bin rfl (Opd.tmp rfl) (Opd.tmp rfl) B_sub) ?_
          refine RegL.pureG (p := (pPtr ((cK .i64) b_0.High))) rfl rfl rfl hc14 rfl rfl (J_fieldAddr rfl Tryd.underlying52 rfl sz2 (by decide) (Opd.tmp rfl) rfl) ?_
          refine RegL.pureG (p := (pEq (.int .i64 b_0.High))) rfl rfl rfl hc14 rfl rfl (J_load rfl Tryd.isAgg2 (Opd.tmp rfl)) ?_
          refine RegL.pureG (p := (pEq (.int .i64 (w64 ((100000000 : Int) - b_0.High))))) rfl rfl rfl hc14 rfl rfl (J_bin rfl Opd.con (Opd.tmp rfl) B_sub) ?_
          replace h := bind_some h; obtain ⟨x15, hx15, h⟩ := h
          refine RegL.pureG (p := (pEq (.bool x15))) rfl rfl rfl hc14 rfl rfl (J_call rfl Tryd.call57 (c_impl_within hx15) (Opds.cons (Opd.tmp rfl) (Opds.cons (Opd.tmp rfl) (Opds.cons (Opd.tmp rfl) Opds.nil)))) ?_
          refine RegL.pure (p := (pEq (.bool x15))) rfl rfl rfl (J_pick rfl (Opd.tmp rfl) (fun hf => absurd (hc14.symm.trans hf) (by decide)) (fun _ => (Opd.tmp rfl))) ?_
          refine RegL.pure (p := (pEq (.bool x15))) rfl rfl rfl (J_assign rfl (Opd.tmp rfl)) ?_
          refine RegL.nil ?_
          replace h := Option.some.inj h; subst h
          exact Ct.mid () rfl ⟨rfl, trivial⟩
      · clear hx13
        refine Ct.then_tr ?_
        refine Tr.weak (Γ' := [(2, (pEq (.bool x13)))]) ⟨rfl, trivial⟩ ?_
        refine Tr.ret ?_
        replace h := Option.some.inj h; subst h
        exact Ct.retH1 (Ωx := []) () rfl (RvOk.tmp rfl) rfl

theorem c_strconv_FormatInt {n_0 b_1 : Int} {r : ByteArray} (h : m_strconv_FormatInt n_0 b_1 = some r) : CallJ Tryd.prog 98 [(pG (pTab 1 .u64 Lib.pow10Tab) (pEq (.int .i64 n_0))), (pEq (.int .i64 b_1))] (pEq (.string r)) :=
  fmt_contract (Go.Proofs.Any.strconv_FormatInt_10 lays98) (by kernel_rfl) h

theorem c_impl_Decimal {n_0 : Int} {r : ByteArray} (h : m_impl_Decimal n_0 = some r) : CallJ Tryd.prog 62 [(pG (pTab 1 .u64 Lib.pow10Tab) (pEq (.int .i64 n_0)))] (pEq (.string r)) := by
  unfold m_impl_Decimal at h
  refine CallJ.enterH Tryd.func62 rfl Tryd.ntmps62 rfl fun W I0 H => ?_
  refine Tr.tab (s := 0) (k := 99999) rfl ?_; refine Tr.weak (Γ' := [(0, (pEq (.int .i64 n_0))), (99999, (pTab 1 .u64 Lib.pow10Tab))]) ⟨rfl, rfl, trivial⟩ ?_
  refine Tr.seq ?_
  refine Tr.region ?_
  refine RegL.pure (p := (pEq (.string (ByteArray.mk #[])))) rfl rfl rfl (J_assign rfl Opd.con) ?_
  refine RegL.nil ?_
  refine Ct.then_tr ?_
  refine Tr.weak (Γ' := [(0, (pEq (.int .i64 n_0))), (99999, (pTab 1 .u64 Lib.pow10Tab))]) ⟨rfl, rfl, trivial⟩ ?_
  refine Tr.seq ?_
  refine Tr.region ?_
  refine RegL.pure (p := (pEq (.int .i64 n_0))) rfl rfl rfl (J_move rfl (Opd.tmp rfl)) ?_
  replace h := bind_some h; obtain ⟨x1, hx1, h⟩ := h
  refine RegL.pure (p := (pEq (.string x1))) rfl rfl rfl (J_call rfl Tryd.call98 (c_strconv_FormatInt hx1) (Opds.cons (Opd.tab (Opd.tmp rfl) 99999 rfl) (Opds.cons Opd.con Opds.nil))) ?_
  refine RegL.pure (p := (pEq (.string x1))) rfl rfl rfl (J_assign rfl (Opd.tmp rfl)) ?_
  refine RegL.nil ?_
  refine Ct.then_tr ?_
  refine Tr.weak (Γ' := [(2, (pEq (.string x1))), (99999, (pTab 1 .u64 Lib.pow10Tab))]) ⟨rfl, rfl, trivial⟩ ?_
  refine Tr.ret ?_
  replace h := Option.some.inj h; subst h
  exact Ct.retH1 (Ωx := []) () rfl (RvOk.tmp rfl) rfl

theorem c_strings_Join {xs_0 : List ByteArray} {sep_1 r : ByteArray} (h : m_strings_Join xs_0 sep_1 = some r) : CallJ Tryd.prog 61 [(pSl 1 cS xs_0), (pEq (.string sep_1))] (pEq (.string r)) :=
  join_contract joinAt61 joinNone61 h

theorem c_impl_BandText {b_0 : GBand} {r : ByteArray} (h : m_impl_BandText b_0 = some r) : CallJ Tryd.prog 31 [(pG (pTab 1 .u64 Lib.pow10Tab) (pAgg (cGBand b_0)))] (pEq (.string r)) := by
  unfold m_impl_BandText at h
  refine CallJ.enterH Tryd.func31 rfl Tryd.ntmps31 rfl fun W I0 H => ?_
  refine Tr.tab (s := 0) (k := 99999) rfl ?_; refine Tr.weak (Γ' := [(0, (pAgg (cGBand b_0))), (99999, (pTab 1 .u64 Lib.pow10Tab))]) ⟨rfl, rfl, trivial⟩ ?_
  refine Tr.seq ?_
  refine Tr.region ?_
  refine RegL.pure (p := (pPtr (cGBand b_0))) rfl rfl rfl (J_boxA rfl (Opd.tmp rfl)) ?_
  refine RegL.pure (p := (pEq (.string (ByteArray.mk #[])))) rfl rfl rfl (J_assign rfl Opd.con) ?_
  refine RegL.nil ?_
  refine Ct.then_tr ?_
  refine Tr.weak (Γ' := [(1, (pPtr (cGBand b_0))), (99999, (pTab 1 .u64 Lib.pow10Tab))]) ⟨rfl, rfl, trivial⟩ ?_
  refine Tr.seq ?_
  refine Tr.seq ?_
  refine Tr.region ?_
  refine RegL.pure (p := (pAgg (cGBand b_0))) rfl rfl rfl (J_loadA rfl Tryd.isAgg52 sz52 (Opd.tmp rfl) rfl) ?_
  replace h := bind_some h; obtain ⟨x1, hx1, h⟩ := h
  refine RegL.pure (p := (pEq (.bool x1))) rfl rfl rfl (J_call rfl Tryd.call60 (c_impl_ValidBand hx1) (Opds.cons (Opd.tmp rfl) Opds.nil)) ?_
  refine RegL.pure (p := (pEq (.bool (!x1)))) rfl rfl rfl (J_not rfl (Opd.tmp rfl)) ?_
  refine RegL.nil ?_
  refine Ct.then_tr ?_
  refine Tr.weak (Γ' := [(1, (pPtr (cGBand b_0))), (5, (pEq (.bool (!x1)))), (99999, (pTab 1 .u64 Lib.pow10Tab))]) ⟨rfl, rfl, rfl, trivial⟩ ?_
  refine Tr.cond (Opd.tmp rfl) (fun hc => ?_) (fun hc => ?_)
  · replace h := bif_t hc h
    refine Tr.seq ?_
    refine Tr.region ?_
    refine RegL.pure (p := (pEq (.string (ByteArray.mk #[])))) rfl rfl rfl (J_assign rfl Opd.con) ?_
    refine RegL.nil ?_
    refine Ct.then_tr ?_
    refine Tr.weak (Γ' := [(2, (pEq (.string (ByteArray.mk #[])))), (99999, (pTab 1 .u64 Lib.pow10Tab))]) ⟨rfl, rfl, trivial⟩ ?_
    refine Tr.ret ?_
    refine Ct.then_ret ?_
    replace h := Option.some.inj h; subst h
    exact Ct.retH1 (Ωx := []) () rfl (RvOk.tmp rfl) rfl
  · replace h := bif_f hc h
    refine Tr.skip ?_
    refine Ct.then_tr ?_
    refine Tr.weak (Γ' := [(1, (pPtr (cGBand b_0))), (99999, (pTab 1 .u64 Lib.pow10Tab))]) ⟨rfl, rfl, trivial⟩ ?_
    refine Tr.seq ?_
    replace h := bind_some h; obtain ⟨x2, hx2, h⟩ := h
    replace h := bind_some h; obtain ⟨x3, hx3, h⟩ := h
    replace h := bind_some h; obtain ⟨x4, hx4, h⟩ := h
    replace h := bind_some h; obtain ⟨x5, hx5, h⟩ := h
    replace h := bind_some h; obtain ⟨x6, hx6, h⟩ := h
    refine Tr.drawD (n := 22) (m := 16) (es := [some (Ent.mk [(1, (pPtr (cGBand b_0)))] (pPtr (cS b_0.Name)) true), some (Ent.mk [(6, (pPtr (cS b_0.Name)))] (pEq (.string b_0.Name)) true), some (Ent.mk [(1, (pPtr (cGBand b_0)))] (pPtr ((cK .i64) b_0.Low)) true), some (Ent.mk [(8, (pPtr ((cK .i64) b_0.Low)))] (pEq (.int .i64 b_0.Low)) true), some (Ent.mk [(9, (pEq (.int .i64 b_0.Low))), (99999, (pTab 1 .u64 Lib.pow10Tab))] (pEq (.string x2)) true), some (Ent.mk [(1, (pPtr (cGBand b_0)))] (pPtr ((cK .i64) b_0.High)) true), some (Ent.mk [(11, (pPtr ((cK .i64) b_0.High)))] (pEq (.int .i64 b_0.High)) true), some (Ent.mk [(12, (pEq (.int .i64 b_0.High))), (99999, (pTab 1 .u64 Lib.pow10Tab))] (pEq (.string x3)) true), some (Ent.mk [(1, (pPtr (cGBand b_0)))] (pPtr ((cK .i64) b_0.Raster)) true), some (Ent.mk [(14, (pPtr ((cK .i64) b_0.Raster)))] (pEq (.int .i64 b_0.Raster)) true), some (Ent.mk [(15, (pEq (.int .i64 b_0.Raster))), (99999, (pTab 1 .u64 Lib.pow10Tab))] (pEq (.string x4)) true), some (Ent.mk [(1, (pPtr (cGBand b_0)))] (pPtr ((cK .i64) b_0.Duplex)) true), some (Ent.mk [(17, (pPtr ((cK .i64) b_0.Duplex)))] (pEq (.int .i64 b_0.Duplex)) true), some (Ent.mk [(18, (pEq (.int .i64 b_0.Duplex))), (99999, (pTab 1 .u64 Lib.pow10Tab))] (pEq (.string x5)) true), some (Ent.mk [(7, (pEq (.string b_0.Name))), (10, (pEq (.string x2))), (13, (pEq (.string x3))), (16, (pEq (.string x4))), (19, (pEq (.string x5)))] (pSl 1 cS ([b_0.Name, x2, x3, x4, x5] : (List ByteArray))) true), some (Ent.mk [(20, (pSl 1 cS ([b_0.Name, x2, x3, x4, x5] : (List ByteArray))))] (pEq (.string x6)) true)]) (rd := [[1], [6], [1], [8], [9, 99999], [1], [11], [12, 99999], [1], [14], [15, 99999], [1], [17], [18, 99999], [7, 10, 13, 16, 19], [20]]) rfl hmix (by kernel_rfl) fun hD => ?_
    refine RD.fin (es := [Ent.mk [(1, (pPtr (cGBand b_0)))] (pPtr (cS b_0.Name)) true, Ent.mk [(6, (pPtr (cS b_0.Name)))] (pEq (.string b_0.Name)) true, Ent.mk [(1, (pPtr (cGBand b_0)))] (pPtr ((cK .i64) b_0.Low)) true, Ent.mk [(8, (pPtr ((cK .i64) b_0.Low)))] (pEq (.int .i64 b_0.Low)) true, Ent.mk [(9, (pEq (.int .i64 b_0.Low))), (99999, (pTab 1 .u64 Lib.pow10Tab))] (pEq (.string x2)) true, Ent.mk [(1, (pPtr (cGBand b_0)))] (pPtr ((cK .i64) b_0.High)) true, Ent.mk [(11, (pPtr ((cK .i64) b_0.High)))] (pEq (.int .i64 b_0.High)) true, Ent.mk [(12, (pEq (.int .i64 b_0.High))), (99999, (pTab 1 .u64 Lib.pow10Tab))] (pEq (.string x3)) true, Ent.mk [(1, (pPtr (cGBand b_0)))] (pPtr ((cK .i64) b_0.Raster)) true, Ent.mk [(14, (pPtr ((cK .i64) b_0.Raster)))] (pEq (.int .i64 b_0.Raster)) true, Ent.mk [(15, (pEq (.int .i64 b_0.Raster))), (99999, (pTab 1 .u64 Lib.pow10Tab))] (pEq (.string x4)) true, Ent.mk [(1, (pPtr (cGBand b_0)))] (pPtr ((cK .i64) b_0.Duplex)) true, Ent.mk [(17, (pPtr ((cK .i64) b_0.Duplex)))] (pEq (.int .i64 b_0.Duplex)) true, Ent.mk [(18, (pEq (.int .i64 b_0.Duplex))), (99999, (pTab 1 .u64 Lib.pow10Tab))] (pEq (.string x5)) true, Ent.mk [(7, (pEq (.string b_0.Name))), (10, (pEq (.string x2))), (13, (pEq (.string x3))), (16, (pEq (.string x4))), (19, (pEq (.string x5)))] (pSl 1 cS ([b_0.Name, x2, x3, x4, x5] : (List ByteArray))) true, Ent.mk [(20, (pSl 1 cS ([b_0.Name, x2, x3, x4, x5] : (List ByteArray))))] (pEq (.string x6)) true]) (done := []) hD ⟨.inr ⟨(OpJ.w (J_fieldAddr rfl Tryd.underlying52 rfl sz9 (by decide) (Opd.tmp rfl) rfl)), ⟨rfl, trivial⟩, rfl, rfl⟩, ⟨.inr ⟨(OpJ.w (J_load rfl Tryd.isAgg9 (Opd.tmp rfl))), ⟨rfl, trivial⟩, rfl, rfl⟩, ⟨.inr ⟨(OpJ.w (J_fieldAddr rfl Tryd.underlying52 rfl sz2 (by decide) (Opd.tmp rfl) rfl)), ⟨rfl, trivial⟩, rfl, rfl⟩, ⟨.inr ⟨(OpJ.w (J_load rfl Tryd.isAgg2 (Opd.tmp rfl))), ⟨rfl, trivial⟩, rfl, rfl⟩, ⟨.inr ⟨(OpJ.w (J_call rfl Tryd.call62 (c_impl_Decimal hx2) (Opds.cons (Opd.tab (Opd.tmp rfl) 99999 rfl) Opds.nil))), ⟨rfl, rfl, trivial⟩, rfl, rfl⟩, ⟨.inr ⟨(OpJ.w (J_fieldAddr rfl Tryd.underlying52 rfl sz2 (by decide) (Opd.tmp rfl) rfl)), ⟨rfl, trivial⟩, rfl, rfl⟩, ⟨.inr ⟨(OpJ.w (J_load rfl Tryd.isAgg2 (Opd.tmp rfl))), ⟨rfl, trivial⟩, rfl, rfl⟩, ⟨.inr ⟨(OpJ.w (J_call rfl Tryd.call62 (c_impl_Decimal hx3) (Opds.cons (Opd.tab (Opd.tmp rfl) 99999 rfl) Opds.nil))), ⟨rfl, rfl, trivial⟩, rfl, rfl⟩, ⟨.inr ⟨(OpJ.w (J_fieldAddr rfl Tryd.underlying52 rfl sz2 (by decide) (Opd.tmp rfl) rfl)), ⟨rfl, trivial⟩, rfl, rfl⟩, ⟨.inr ⟨(OpJ.w (J_load rfl Tryd.isAgg2 (Opd.tmp rfl))), ⟨rfl, trivial⟩, rfl, rfl⟩, ⟨.inr ⟨(OpJ.w (J_call rfl Tryd.call62 (c_impl_Decimal hx4) (Opds.cons (Opd.tab (Opd.tmp rfl) 99999 rfl) Opds.nil))), ⟨rfl, rfl, trivial⟩, rfl, rfl⟩, ⟨.inr ⟨(OpJ.w (J_fieldAddr rfl Tryd.underlying52 rfl sz2 (by decide) (Opd.tmp rfl) rfl)), ⟨rfl, trivial⟩, rfl, rfl⟩, ⟨.inr ⟨(OpJ.w (J_load rfl Tryd.isAgg2 (Opd.tmp rfl))), ⟨rfl, trivial⟩, rfl, rfl⟩, ⟨.inr ⟨(OpJ.w (J_call rfl Tryd.call62 (c_impl_Decimal hx5) (Opds.cons (Opd.tab (Opd.tmp rfl) 99999 rfl) Opds.nil))), ⟨rfl, rfl, trivial⟩, rfl, rfl⟩, ⟨.inr ⟨(OpJ.w (J_buildSlice (l := ([b_0.Name, x2, x3, x4, x5] : (List ByteArray))) (qss := [(0, cS b_0.Name), (1, cS x2), (2, cS x3), (3, cS x4), (4, cS x5)]) rfl Tryd.underlying79 el9 rfl (Parts.cons (Part.one (Opd.tmp rfl) OneC.str) (Parts.cons (Part.one (Opd.tmp rfl) OneC.str) (Parts.cons (Part.one (Opd.tmp rfl) OneC.str) (Parts.cons (Part.one (Opd.tmp rfl) OneC.str) (Parts.cons (Part.one (Opd.tmp rfl) OneC.str) Parts.nil))))) rfl rfl)), ⟨rfl, rfl, rfl, rfl, rfl, trivial⟩, rfl, rfl⟩, ⟨.inr ⟨(OpJ.w (J_call rfl Tryd.call61 (c_strings_Join hx6) (Opds.cons (Opd.tmp rfl) (Opds.cons Opd.con Opds.nil)))), ⟨rfl, trivial⟩, rfl, rfl⟩, trivial⟩⟩⟩⟩⟩⟩⟩⟩⟩⟩⟩⟩⟩⟩⟩⟩ ?_
    refine RegL.pure (p := (pEq (.string x6))) rfl rfl rfl (J_assign rfl (Opd.tmp rfl)) ?_
    refine RegL.nil ?_
    refine Ct.then_tr ?_
    refine Tr.weak (Γ' := [(2, (pEq (.string x6))), (99999, (pTab 1 .u64 Lib.pow10Tab))]) ⟨rfl, rfl, trivial⟩ ?_
    refine Tr.ret ?_
    replace h := Option.some.inj h; subst h
    exact Ct.retH1 (Ωx := []) () rfl (RvOk.tmp rfl) rfl

theorem c_laws_FnExactBandText {aB_0 : GBand} {r : Bool} (h : m_laws_FnExactBandText aB_0 = some r) : CallJ Tryd.prog 7 [(pG (pTab 1 .u64 Lib.pow10Tab) (pAgg (cGBand aB_0)))] (pEq (.bool r)) := by
  unfold m_laws_FnExactBandText at h
  refine CallJ.enterH Tryd.func7 rfl Tryd.ntmps7 rfl fun W I0 H => ?_
  refine Tr.tab (s := 0) (k := 99999) rfl ?_; refine Tr.weak (Γ' := [(0, (pAgg (cGBand aB_0))), (99999, (pTab 1 .u64 Lib.pow10Tab))]) ⟨rfl, rfl, trivial⟩ ?_
  refine Tr.seq ?_
  refine Tr.region ?_
  refine RegL.pure (p := (pPtr (cGBand aB_0))) rfl rfl rfl (J_boxA rfl (Opd.tmp rfl)) ?_
  refine RegL.pure (p := (pEq (.bool false))) rfl rfl rfl (J_assign rfl Opd.con) ?_
  refine RegL.nil ?_
  refine Ct.then_tr ?_
  refine Tr.weak (Γ' := [(1, (pPtr (cGBand aB_0))), (99999, (pTab 1 .u64 Lib.pow10Tab))]) ⟨rfl, rfl, trivial⟩ ?_
  refine Tr.seq ?_
  refine Tr.region ?_
  refine RegL.pure (p := (pEq (.int .i64 (1048576 : Int)))) rfl rfl rfl (J_assign rfl Opd.con) ?_
  refine RegL.nil ?_
  refine Ct.then_tr ?_
  refine Tr.weak (Γ' := [(1, (pPtr (cGBand aB_0))), (3, (pEq (.int .i64 (1048576 : Int)))), (99999, (pTab 1 .u64 Lib.pow10Tab))]) ⟨rfl, rfl, rfl, trivial⟩ ?_
  refine Tr.seq ?_
  refine Tr.region ?_
  refine RegL.pure (p := (pAgg (cGBand aB_0))) rfl rfl rfl (J_loadA rfl Tryd.isAgg49 sz49 (Opd.tmp rfl) rfl) ?_
  refine RegL.pure (p := (pEq (.int .i64 (1048576 : Int)))) rfl rfl rfl (J_move rfl (Opd.tmp rfl)) ?_
  replace h := bind_some h; obtain ⟨x1, hx1, h⟩ := h
  refine RegL.pure (p := (pEq (.int .i64 x1))) rfl rfl rfl (J_call rfl Tryd.call28 (c_laws_szBand hx1) (Opds.cons (Opd.tmp rfl) (Opds.cons (Opd.tmp rfl) Opds.nil))) ?_
  refine RegL.pure (p := (pEq (.int .i64 x1))) rfl rfl rfl (J_assign rfl (Opd.tmp rfl)) ?_
  refine RegL.nil ?_
  refine Ct.then_tr ?_
  refine Tr.weak (Γ' := [(1, (pPtr (cGBand aB_0))), (3, (pEq (.int .i64 x1))), (99999, (pTab 1 .u64 Lib.pow10Tab))]) ⟨rfl, rfl, rfl, trivial⟩ ?_
  refine Tr.seq ?_
  refine Tr.seq ?_
  refine Tr.region ?_
  refine RegL.pure (p := (pEq (.int .i64 x1))) rfl rfl rfl (J_move rfl (Opd.tmp rfl)) ?_
  refine RegL.pure (p := (pEq (.bool (decide (x1 < (0 : Int)))))) rfl rfl rfl (J_bin rfl (Opd.tmp rfl) Opd.con B_lss) ?_
  refine RegL.nil ?_
  refine Ct.then_tr ?_
  refine Tr.weak (Γ' := [(1, (pPtr (cGBand aB_0))), (10, (pEq (.bool (decide (x1 < (0 : Int)))))), (99999, (pTab 1 .u64 Lib.pow10Tab))]) ⟨rfl, rfl, rfl, trivial⟩ ?_
  refine Tr.cond (Opd.tmp rfl) (fun hc => ?_) (fun hc => ?_)
  · replace h := bif_t hc h
    refine Tr.seq ?_
    refine Tr.region ?_
    refine RegL.pure (p := (pEq (.bool true))) rfl rfl rfl (J_assign rfl Opd.con) ?_
    refine RegL.nil ?_
    refine Ct.then_tr ?_
    refine Tr.weak (Γ' := [(2, (pEq (.bool true))), (99999, (pTab 1 .u64 Lib.pow10Tab))]) ⟨rfl, rfl, trivial⟩ ?_
    refine Tr.ret ?_
    refine Ct.then_ret ?_
    replace h := Option.some.inj h; subst h
    exact Ct.retH1 (Ωx := []) () rfl (RvOk.tmp rfl) rfl
  · replace h := bif_f hc h
    refine Tr.skip ?_
    refine Ct.then_tr ?_
    refine Tr.weak (Γ' := [(1, (pPtr (cGBand aB_0))), (99999, (pTab 1 .u64 Lib.pow10Tab))]) ⟨rfl, rfl, trivial⟩ ?_
    refine Tr.seq ?_
    refine Tr.region ?_
    refine RegL.pure (p := (pAgg (cGBand aB_0))) rfl rfl rfl (J_loadA rfl Tryd.isAgg49 sz49 (Opd.tmp rfl) rfl) ?_
    replace h := bind_some h; obtain ⟨x2, hx2, h⟩ := h
    refine RegL.pure (p := (pAgg (cGBand x2))) rfl rfl rfl (J_call rfl Tryd.call30 (c_laws_toBand hx2) (Opds.cons (Opd.tmp rfl) Opds.nil)) ?_
    replace h := bind_some h; obtain ⟨x3, hx3, h⟩ := h
    refine RegL.pure (p := (pEq (.string x3))) rfl rfl rfl (J_call rfl Tryd.call29 (c_spec_BandText hx3) (Opds.cons (Opd.tmp rfl) Opds.nil)) ?_
    refine RegL.pure (p := (pEq (.string x3))) rfl rfl rfl (J_assign rfl (Opd.tmp rfl)) ?_
    refine RegL.nil ?_
    refine Ct.then_tr ?_
    refine Tr.weak (Γ' := [(1, (pPtr (cGBand aB_0))), (4, (pEq (.string x3))), (99999, (pTab 1 .u64 Lib.pow10Tab))]) ⟨rfl, rfl, rfl, trivial⟩ ?_
    refine Tr.seq ?_
    refine Tr.region ?_
    refine RegL.pure (p := (pAgg (cGBand aB_0))) rfl rfl rfl (J_loadA rfl Tryd.isAgg49 sz49 (Opd.tmp rfl) rfl) ?_
    replace h := bind_some h; obtain ⟨x4, hx4, h⟩ := h
    refine RegL.pure (p := (pAgg (cGBand x4))) rfl rfl rfl (J_call rfl Tryd.call30 (c_laws_toBand hx4) (Opds.cons (Opd.tmp rfl) Opds.nil)) ?_
    replace h := bind_some h; obtain ⟨x5, hx5, h⟩ := h
    refine RegL.pure (p := (pEq (.string x5))) rfl rfl rfl (J_call rfl Tryd.call31 (c_impl_BandText hx5) (Opds.cons (Opd.tab (Opd.tmp rfl) 99999 rfl) Opds.nil)) ?_
    refine RegL.pure (p := (pEq (.string x5))) rfl rfl rfl (J_assign rfl (Opd.tmp rfl)) ?_
    refine RegL.nil ?_
    refine Ct.then_tr ?_
    refine Tr.weak (Γ' := [(4, (pEq (.string x3))), (5, (pEq (.string x5))), (99999, (pTab 1 .u64 Lib.pow10Tab))]) ⟨rfl, rfl, rfl, trivial⟩ ?_
    refine Tr.seq ?_
    refine Tr.seq ?_
    refine Tr.region ?_
    refine RegL.pure (p := (pEq (.string x5))) rfl rfl rfl (J_move rfl (Opd.tmp rfl)) ?_
    refine RegL.pure (p := (pEq (.string x3))) rfl rfl rfl (J_move rfl (Opd.tmp rfl)) ?_
    refine RegL.pure (p := (pEq (.bool (!(x5.toList == x3.toList))))) rfl rfl rfl (J_bin rfl (Opd.tmp rfl) (Opd.tmp rfl) B_sneq) ?_
    refine RegL.nil ?_
    refine Ct.then_tr ?_
    refine Tr.weak (Γ' := [(19, (pEq (.bool (!(x5.toList == x3.toList))))), (99999, (pTab 1 .u64 Lib.pow10Tab))]) ⟨rfl, rfl, trivial⟩ ?_
    refine Tr.cond (Opd.tmp rfl) (fun hc => ?_) (fun hc => ?_)
    · replace h := bif_t hc h
      refine Tr.seq ?_
      refine Tr.region ?_
      refine RegL.pure (p := (pEq (.bool false))) rfl rfl rfl (J_assign rfl Opd.con) ?_
      refine RegL.nil ?_
      refine Ct.then_tr ?_
      refine Tr.weak (Γ' := [(2, (pEq (.bool false))), (99999, (pTab 1 .u64 Lib.pow10Tab))]) ⟨rfl, rfl, trivial⟩ ?_
      refine Tr.ret ?_
      refine Ct.then_ret ?_
      replace h := Option.some.inj h; subst h
      exact Ct.retH1 (Ωx := []) () rfl (RvOk.tmp rfl) rfl
    · replace h := bif_f hc h
      refine Tr.skip ?_
      refine Ct.then_tr ?_
      refine Tr.weak (Γ' := [(99999, (pTab 1 .u64 Lib.pow10Tab))]) ⟨rfl, trivial⟩ ?_
      refine Tr.seq ?_
      refine Tr.region ?_
      refine RegL.pure (p := (pEq (.bool true))) rfl rfl rfl (J_assign rfl Opd.con) ?_
      refine RegL.nil ?_
      refine Ct.then_tr ?_
      refine Tr.weak (Γ' := [(2, (pEq (.bool true))), (99999, (pTab 1 .u64 Lib.pow10Tab))]) ⟨rfl, rfl, trivial⟩ ?_
      refine Tr.ret ?_
      replace h := Option.some.inj h; subst h
      exact Ct.retH1 (Ωx := []) () rfl (RvOk.tmp rfl) rfl

end Go.Proofs.YtbhegklilcpbmaaDoor.fnExactBandTextW
